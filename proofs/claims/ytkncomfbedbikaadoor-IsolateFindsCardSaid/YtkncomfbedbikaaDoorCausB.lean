/- causal.Reads, causal.thin. -/
import Derived.Test.YtkncomfbedbikaaDoorCausA
import Derived.Test.YtkncomfbedbikaaDoorMat
namespace Go.Proofs.YtkncomfbedbikaaDoor
open Go.RowKit
def optN (z : Int) : Option Nat → Int
  | none => z
  | some t => t
def readsE (F : Nat → GOp) (n i : Nat) : Int := if (F i).kind = 2 ∨ (F i).result = 0 then -1 else optN (-2) (wrote F n ((F i).key, (F i).result))
/-- The first i below n with p i. -/
def firstAt (p : Nat → Bool) : Nat → Option Nat
  | 0 => none
  | n + 1 => match firstAt p n with
    | some i => some i
    | none => if p n = true then some n else none
theorem firstAt_none {p : Nat → Bool} : ∀ {n : Nat}, (∀ i, i < n → p i = false) → firstAt p n = none
  | 0, _ => rfl
  | n + 1, h => by simp [firstAt, firstAt_none (n := n) fun i hi => h i (by omega), h n (by omega)]
theorem firstAt_found {p : Nat → Bool} {k : Nat} (h : ∀ i, i < k → p i = false) (hk : p k = true) : ∀ {n : Nat}, k < n → firstAt p n = some k
  | 0, hn => absurd hn (by omega)
  | n + 1, hn => by
    rcases Nat.lt_or_ge k n with h' | h'
    · simp [firstAt, firstAt_found h hk h']
    · obtain rfl : k = n := by omega
      simp [firstAt, firstAt_none h, hk]
theorem firstAt_spec {p : Nat → Bool} : ∀ {n k : Nat}, firstAt p n = some k → k < n ∧ p k = true ∧ ∀ i, i < k → p i = false
  | 0, _, h => by cases h
  | n + 1, k, h => by
    unfold firstAt at h
    cases hn : firstAt p n with
    | some i =>
      rw [hn] at h
      cases h
      obtain ⟨h1, h2, h3⟩ := firstAt_spec hn
      exact ⟨by omega, h2, h3⟩
    | none =>
      rw [hn] at h
      simp only at h
      split at h
      · rename_i hp
        cases h
        refine ⟨by omega, hp, fun i hi => ?_⟩
        cases hpi : p i
        · rfl
        · exact absurd hn (by
            rcases Nat.lt_or_ge i n with h' | h'
            · intro hc
              have := firstAt_isNone hc i h'
              rw [hpi] at this; cases this
            · omega)
      · cases h
  where firstAt_isNone {p : Nat → Bool} : ∀ {n : Nat}, firstAt p n = none → ∀ i, i < n → p i = false
  | 0, _, i, hi => absurd hi (by omega)
  | n + 1, h, i, hi => by
    unfold firstAt at h
    cases hn : firstAt p n with
    | some i => rw [hn] at h; cases h
    | none =>
      rw [hn] at h
      simp only at h
      split at h
      · cases h
      · rename_i hp
        rcases Nat.lt_or_ge i n with h' | h'
        · exact firstAt_isNone hn i h'
        · obtain rfl : i = n := by omega
          simpa using hp
set_option maxHeartbeats 400000 in
theorem thin_any (A : Option Addr) (n c : Nat) (R : Nat → Int) (w : World) (hn : n ≤ 60) (hA : IntsAt w A n R) :
    Calls Tryd.prog 44 #[.slice A n c] w fun e w' => e = .returned (.int .i64 (optN (-1) (firstAt (fun i => R i == -2) n))) ∧ w = w' := by
  have HA := Lib.hid hA
  clear hA
  go_enter Tryd.func44, Tryd.ntmps44
  go_wp2
  go_loop [7] (fun i => ∃ j : Nat, i = .int .i64 j ∧ j ≤ n ∧ ∀ t, t < j → (R t == -2) = false) (fun i => n - (intOf i).toNat)
  case atStart => exact ⟨0, rfl, by omega, fun t ht => absurd ht (by omega)⟩
  case round =>
    obtain ⟨j, rfl, hj, hall⟩ := hrel
    have HALL := Lib.hid hall
    clear hall
    by_cases hlt : j < n
    · obtain ⟨b, off, rfl, hb, hc⟩ := HA.out j hlt
      cases hin : R j == -2
      · have HIN := Lib.hid hin
        go_wp2
        go_round
        case rel => exact ⟨j + 1, by go_num, by omega, upto_succ HALL.out HIN.out⟩
        case measure => simp [intOf]; omega
      · have HIN := Lib.hid hin
        go_wp2
        go_ret
        exact ⟨by rw [firstAt_found (p := fun i => R i == -2) HALL.out HIN.out hlt]; rfl, rfl⟩
    · obtain rfl : j = n := by omega
      go_wp2
      go_ret
      exact ⟨by rw [firstAt_none (p := fun i => R i == -2) HALL.out]; rfl, rfl⟩
set_option maxRecDepth 100000 in
set_option maxHeartbeats 4000000 in
theorem cReads_any (A : Option Addr) (n c : Nat) (F : Nat → GOp) (w : World) (hn : n ≤ 60) (hA : OpsAt w A n F) :
    Calls Tryd.prog 43 #[.slice A n c] w fun e w' => ∃ R c', e = .returned (.slice R n c') ∧ n ≤ c' ∧ IntsAt w' R n (readsE F n) ∧ Below w.heap.size w w' := by
  have HA := Lib.hid hA
  clear hA
  have hmm := @run_makeMap Tryd.prog
  obtain ⟨i0, hi0, hz0, hz1, hz2⟩ := info_parts int_info
  have HG : Hid (mapFn (w.alloc (.map #[] 0)) w.heap.size key2 (wroteV F 0) ∧ Below w.heap.size w (w.alloc (.map #[] 0))) := Lib.hid ⟨mapFn_new rfl key2, (Below.refl _ _).alloc (Nat.le_refl _) _⟩
  go_enter Tryd.func43, Tryd.ntmps43
  go_upto_block 0 with fail
  go_cut [] (fun wx => mapFn wx w.heap.size key2 (wroteV F n) ∧ Below w.heap.size w wx)
  case first =>
    go_wp2_with fail
    go_loopw [14] (fun x wr => ∃ j : Nat, x = .int .i64 j ∧ j ≤ n ∧ Below w.heap.size w wr ∧ mapFn wr w.heap.size key2 (wroteV F j)) (fun x _ => n - (intOf x).toNat)
    case atStart => exact ⟨0, rfl, by omega, HG.out.2, HG.out.1⟩
    case round =>
      obtain ⟨j, rfl, hj, hbw, hmap⟩ := hrel
      have HB := Lib.hid hbw
      have HM := Lib.hid hmap
      have hgl := hmap.lt
      clear hbw hmap
      by_cases hlt : j < n
      · obtain ⟨b, off, rfl, hb, hc⟩ := (HA.out.below HB.out) j hlt
        obtain ⟨g0, g1, g2, g3, g4, g5, g6, g7⟩ := hc
        obtain ⟨o, ho⟩ : ∃ o, F j = o := ⟨_, rfl⟩
        rw [ho] at g0 g1 g2 g3 g4 g5 g6 g7
        have HF := Lib.hid ho
        clear ho
        have HW : Hid (Below w.heap.size w (wr.alloc (opCells o))) := Lib.hid (HB.out.alloc HB.out.size _)
        have HM' : Hid (mapFn (wr.alloc (opCells o)) w.heap.size key2 (wroteV F j)) := Lib.hid (HM.out.below ((Below.refl _ _).alloc (Nat.le_refl _) _) hgl)
        cases hk : o.kind == 2
        · have HR : Hid (wroteV F (j + 1) = wroteV F j) := Lib.hid (wroteV_read (by rw [HF.out]; simpa using hk))
          go_wp2
          go_roundw
          case rel => exact ⟨j + 1, by go_num, by omega, HW.out, by rw [HR.out]; exact HM'.out⟩
          case measure => go_light; simp [intOf]; omega
        · have HU : Hid (wroteV F (j + 1) = fun k' => if k' = (o.key, o.a) then some (.int .i64 (j : Int)) else wroteV F j k') := Lib.hid (by rw [wroteV_write (by rw [HF.out]; simpa using hk), HF.out])
          go_wp2_with (at_mapUpdate; refine wpList_update_fn _ rfl _ _ _ 179 rfl key2_ok HM'.out Tryd.underlying179 (o.key, o.a) rfl rfl ?_; intro w1 hm1 hg1 hs1; have HM1 := Lib.hid hm1; have HG1 := Lib.hid hg1; clear hm1 hg1 hs1)
          go_roundw
          case rel => exact ⟨j + 1, by go_num, by omega, HW.out.grown HG1.out HW.out.size (by rintro k h; cases h; exact Nat.le_refl _), by rw [HU.out]; exact HM1.out⟩
          case measure => go_light; simp [intOf]; omega
      · obtain rfl : j = n := by omega
        go_wp2
        go_meet
        case rel => exact ⟨HM.out, HB.out⟩
  case rest =>
    obtain ⟨hmap, hbw⟩ := hcut
    have HM0 := Lib.hid hmap
    have HB0 := Lib.hid hbw
    clear hmap hbw HG
    go_wp2_with fail
    go_loopw [6, 32] (fun v x wr => ∃ j : Nat, x = .int .i64 j ∧ j ≤ n ∧ Below w.heap.size w wr ∧ mapFn wr w.heap.size key2 (wroteV F n) ∧ wr.ownsRow w.heap.size 3 1 v j ((List.range j).map fun t => .int .i64 (readsE F n t))) (fun _ x _ => n - (intOf x).toNat)
    case atStart => exact ⟨0, rfl, by omega, HB0.out, HM0.out, own_nil _ _ _ _⟩
    case round =>
      obtain ⟨j, rfl, hj, hbw, hmap, hown⟩ := hrel
      have HB := Lib.hid hbw
      have HM := Lib.hid hmap
      have HV := Lib.hid hown
      have hgl := hmap.lt
      clear hbw hmap hown
      by_cases hlt : j < n
      · obtain ⟨b, off, rfl, hb, hc⟩ := (HA.out.below HB.out) j hlt
        obtain ⟨g0, g1, g2, g3, g4, g5, g6, g7⟩ := hc
        obtain ⟨o, ho⟩ : ∃ o, F j = o := ⟨_, rfl⟩
        rw [ho] at g0 g1 g2 g3 g4 g5 g6 g7
        have HF := Lib.hid ho
        clear ho
        have HM' : Hid (mapFn (wr.alloc (opCells o)) w.heap.size key2 (wroteV F n)) := Lib.hid (HM.out.below ((Below.refl _ _).alloc (Nat.le_refl _) _) hgl)
        have htree : ((o.kind == 2) = true ∧ readsE F n j = -1) ∨ ((o.kind == 2) = false ∧ (o.result == 0) = true ∧ readsE F n j = -1) ∨
            ((o.kind == 2) = false ∧ (o.result == 0) = false ∧ wroteV F n (o.key, o.result) = none ∧ readsE F n j = -2) ∨
            ∃ t : Nat, (o.kind == 2) = false ∧ (o.result == 0) = false ∧ wroteV F n (o.key, o.result) = some (.int .i64 (t : Int)) ∧ readsE F n j = t := by
          unfold readsE wroteV
          rw [HF.out]
          by_cases h1 : o.kind = 2
          · exact .inl ⟨by simpa using h1, by simp [h1]⟩
          by_cases h2 : o.result = 0
          · exact .inr (.inl ⟨by simpa using h1, by simpa using h2, by simp [h2]⟩)
          cases h3 : wrote F n (o.key, o.result) with
          | none => exact .inr (.inr (.inl ⟨by simpa using h1, by simpa using h2, rfl, by simp [h1, h2, optN]⟩))
          | some t => exact .inr (.inr (.inr ⟨t, by simpa using h1, by simpa using h2, rfl, by simp [h1, h2, optN]⟩))
        have HG : Hid (∀ u : Int, ∃ W, W = ((wr.alloc (opCells o)).alloc (.cells #[.int .i64 u] 3)) ∧ W.ownsRow w.heap.size 3 1 u6 j ((List.range j).map fun t => .int .i64 (readsE F n t)) ∧ mapFn W w.heap.size key2 (wroteV F n) ∧ Below w.heap.size w W) :=
          Lib.hid fun u => ⟨_, rfl, (HV.out.alloc _).alloc _, HM'.out.below ((Below.refl _ _).alloc (Nat.le_refl _) _) (by simp; omega), (HB.out.alloc HB.out.size _).alloc (by simp; have := HB.out.size; omega) _⟩
        rcases htree with ⟨d1, hr⟩ | ⟨d1, d2, hr⟩ | ⟨d1, d2, d3, hr⟩ | ⟨t, d1, d2, d3, hr⟩
        all_goals
          have HR := Lib.hid hr
          clear hr
          go_wp2_with (first
            | (at_lookup; refine wpList_lookup_fn _ rfl _ _ 179 rfl key2_ok HM'.out Tryd.underlying179 zero_int (o.key, o.result) rfl rfl ?_)
            | (at_builtin; refine wpList_append_own _ rfl _ _ 34 rfl w.heap.size 3 i0 (.int .i64 0) 1 8 Tryd.underlying34 hi0 hz0 hz1 hz2 rfl (by decide) _ _ _ rfl ((HV.out.alloc _).alloc _) ⟨wr.heap.size + 1, 0, none⟩ 1 1 [.int .i64 (readsE F n j)] rfl rfl (news1 (by simp) HR.out _) (news1_one _) (by unfold maxLen; omega) (by omega) (by simp; have := HB.out.size; omega) ?_; intro v' w1 hown1 hg1 _; have HV1 := Lib.hid hown1; have HG1 := Lib.hid hg1; clear hown1 hg1))
          obtain ⟨W, hW, ho1, hm1, hb1⟩ := HG.out _
          go_roundw
          case rel => exact ⟨j + 1, by go_num, by omega, hb1.grown (hW ▸ HG1.out) hb1.size (own_ge HV.out), hm1.grown (hW ▸ HG1.out) (own_not_map ho1 hm1), by rw [← range_snoc]; exact HV1.out⟩
          case measure => go_light; simp [intOf]; omega
      · obtain rfl : j = n := by omega
        obtain ⟨R, c', rfl, hc', hi'⟩ := own_ints HV.out
        have HI := Lib.hid hi'
        clear hi'
        go_wp2
        go_ret
        exact ⟨R, c', rfl, hc', HI.out, HB.out⟩
end Go.Proofs.YtkncomfbedbikaaDoor
