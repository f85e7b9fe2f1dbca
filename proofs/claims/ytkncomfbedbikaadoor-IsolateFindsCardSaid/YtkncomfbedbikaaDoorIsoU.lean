/- graph.Closed: what leads to what over others, too; isolate.back. -/
import Derived.Test.YtkncomfbedbikaaDoorIsoT
import Derived.Test.YtkncomfbedbikaaDoorCausC
import Derived.Test.YtkncomfbedbikaaDoorIsoQ
namespace Go.Proofs.YtkncomfbedbikaaDoor
open Go.RowKit
attribute [local go_sem] eq_nil ne_nil nil_eq_nil nil_ne_nil
theorem news_row {w w1 : World} {b2 off2 n : Nat} {f : Nat → Bool} (hg : w.grownBy w1 none) (hb : b2 < w.heap.size) (h : ∀ k, k < n → w.cell? ⟨b2, off2 + k, none⟩ = some (.bool (f k))) : ∀ j u, ((List.range n).map fun k => Value.bool (f k))[j]? = some u → w1.cell? ((⟨b2, off2, none⟩ : Addr).add j) = some u := by
  intro j u hj
  have hjn : j < n := by
    have := (List.getElem?_eq_some_iff.1 hj).1
    simpa using this
  have hu : u = .bool (f j) := by simpa [hjn] using hj.symm
  have h1 : w1.cell? ⟨b2, off2 + j, none⟩ = some (.bool (f j)) := (World.cell?_of_block (w := w) (hg.block b2 hb (by simp))).trans (h j hjn)
  rw [hu, show (⟨b2, off2, none⟩ : Addr).add j = ⟨b2, off2 + j, none⟩ by unfold Addr.add; split <;> first | (rename_i e; subst e; rfl) | rfl]
  exact h1
theorem bools_one (f : Nat → Bool) (n : Nat) : ∀ u ∈ (List.range n).map fun k => Value.bool (f k), u.oneCell' = true := by
  intro u hu
  obtain ⟨k, _, rfl⟩ := List.mem_map.1 hu
  rfl
theorem bool1_info : (Tryd.prog.info? 4).map (fun i => (i.zero, i.size, i.bytes)) = some (some (.bool false), 1, 1) := by kernel_rfl
theorem row_of_own {w : World} {base g n : Nat} {t : TypeId} {f : Nat → Value} (h : w.ownsRow base t 1 (.slice (some ⟨g, 0, none⟩) n n) n ((List.range n).map f)) : w.rowIs g t n f := by
  rcases h.2 with ⟨h0, _⟩ | ⟨g', cap, cur, he, hb, hg, hnc, hc, hs, hx⟩
  · cases h0
  · injection he with he1 _ he3
    injection he1 with he1
    injection he1 with he1
    subst he1 he3
    refine ⟨cur, hg, by omega, fun i hi => ?_⟩
    have h1 : (cur.toList.take (n * 1))[i]? = some (f i) := by rw [hx]; simp [hi]
    rw [List.getElem?_take, if_pos (by omega)] at h1
    simpa using h1
theorem mat_own {w w2 : World} {base gO n m : Nat} {G : Nat → Nat} {M : Nat → Nat → Bool} (h : MatAt w base gO n m G M) (hO : w2.rowIs gO 87 n (fun i => if i < m then .slice (some ⟨G i, 0, none⟩) n n else .slice none 0 0))
    (hR : ∀ i, i < m → w2.rowIs (G i) 4 n (fun k => .bool (M i k))) (hg : w2.rowIs w.heap.size 4 n (fun k => .bool (M m k))) (hb : base ≤ w.heap.size) :
    MatAt (w2.setCell ⟨gO, m, none⟩ (.slice (some ⟨w.heap.size, 0, none⟩) n n)) base gO n (m + 1) (ext G m w.heap.size) M := by
  have hgO := h.out.lt
  have hG : ∀ i, i < m → G i < w.heap.size := fun i hi => (h.row i hi).lt
  refine ⟨((hO.set m _).congr fun i hi => ?_), fun i hi => ?_, ⟨h.ge.1, fun i hi => ?_⟩, fun i j hi hj e => ?_⟩
  · by_cases e : i = m
    · subst e; simp [ext_same]
    · by_cases e2 : i < m
      · simp [e, e2, ext_ne e, show i < m + 1 by omega]
      · simp [e, e2, show ¬ i < m + 1 by omega]
  · by_cases e : i = m
    · subst e
      rw [ext_same]
      exact hg.setOther (fun e' => by have e' : w.heap.size = gO := e'; omega) _
    · rw [ext_ne e]
      exact (hR i (by omega)).setOther (fun e' => h.ne (by omega) e'.symm) _
  · by_cases e : i = m
    · rw [e, ext_same]; exact hb
    · rw [ext_ne e]; exact h.ge.2 i (by omega)
  · by_cases e1 : i = m <;> by_cases e2 : j = m
    · omega
    · rw [e1, ext_same, ext_ne e2] at e
      have := hG j (by omega)
      omega
    · rw [e2, ext_same, ext_ne e1] at e
      have := hG i (by omega)
      omega
    · rw [ext_ne e1, ext_ne e2] at e
      exact h.inj i j (by omega) (by omega) e
set_option maxRecDepth 100000 in
set_option maxHeartbeats 16000000 in
theorem gClosed_any (A : Option Addr) (n c : Nat) (g : Nat → Nat → Bool) (w : World) (hn : n ≤ 40) (hA : BoolssAt w A n g) :
    Calls Tryd.prog 121 #[.slice A n c] w fun e w' => ∃ B, e = .returned (.tuple #[.slice B n n, .nilIface]) ∧ BoolssAt w' B n (warsh g n) ∧ Below w.heap.size w w' := by
  have HA := Lib.hid hA
  have HCK := Lib.hid (gCheck_any A n c g w hn hA)
  clear hA
  have hmk2 := make_graph n (by omega)
  have HM0 := Lib.hid (mat_new w n (fun _ => 0) (fun _ _ => false))
  have HB0 : Hid (Below w.heap.size w (w.alloc (.cells (madeCells #[.slice none 0 0] n) 87))) := Lib.hid ((Below.refl _ _).alloc (Nat.le_refl _) _)
  go_enter Tryd.func121, Tryd.ntmps121
  go_wp2_with (go_at_call 113; refine HCK.out.mono ?_; rintro e w' ⟨rfl, rfl⟩)
  obtain ⟨i0, hi0, hz0, hs0, hb0⟩ := info_parts bool1_info
  go_loopw [21] (fun x wr => ∃ (i : Nat) (G : Nat → Nat), x = .int .i64 i ∧ i ≤ n ∧ Below w.heap.size w wr ∧ MatAt wr w.heap.size w.heap.size n i G g) (fun x _ => n - (intOf x).toNat)
  case atStart => exact ⟨0, fun _ => 0, rfl, by omega, HB0.out, HM0.out.congr fun a b ha _ => absurd ha (by omega)⟩
  case round =>
    obtain ⟨wo, rfl⟩ : ∃ wo : World, wo = wr := ⟨_, rfl⟩
    obtain ⟨i, G, rfl, hi, hbw, hmat⟩ := hrel
    have HB := Lib.hid hbw
    have HM := Lib.hid hmat
    clear hbw hmat
    by_cases hin : i < n
    · obtain ⟨b, off, rfl, hb, b2, off2, c2, g1, g2, g3, g4⟩ := (HA.out.below HB.out) i hin
      have HG4 := Lib.hid g4
      clear g4
      have hgO : w.heap.size < wo.heap.size := HM.out.out.lt
      go_wp2_with (first | (at_make; refine wpList_make_own _ rfl _ _ 87 rfl w.heap.size 4 i0 (.bool false) 1 Tryd.underlying87 hi0 hz0 hs0 _ _ _ n rfl rfl rfl (by rw [hb0]; omega) (by unfold maxLen; omega) HB.out.size ?_; intro w1 hown1 hg1; have HV1 := Lib.hid hown1; have HG1 := Lib.hid hg1; clear hown1 hg1) | (at_builtin; refine wpList_append_fits _ rfl (.tmp 30) (.tmp 31) 87 rfl w.heap.size 4 i0 1 Tryd.underlying87 hi0 hs0 wo.heap.size 0 n [] rfl HV1.out ⟨b2, off2, none⟩ n c2 ((List.range n).map fun k => .bool (g i k)) rfl (by simp) (news_row HG1.out g3 HG4.out) (bools_one _ _) (by omega) ?_; intro w2 hown2 hg2; simp only [Nat.zero_add, List.nil_append] at hown2; have HV2 := Lib.hid hown2; have HG2 := Lib.hid hg2; have HO2 := Lib.hid (rowIs_grown (rowIs_grown HM.out.out HG1.out (by simp)) hg2 (fun e => (by injection e with e; omega))); clear hown2 hg2; have q2 : w2.cell? ⟨w.heap.size, i, none⟩ = some (.slice none 0 0) := (by have := HO2.out.cell hin; simpa using this); have f2 := HO2.out.frozen i))
      go_roundw
      case rel =>
        have hs1 := HG1.out.size
        have hs2 := HG2.out.size
        have hs0' := HB.out.size
        exact ⟨i + 1, ext G i wo.heap.size, by go_num, by omega, ((HB.out.grown HG1.out HB.out.size (fun k hk => by cases hk)).grown HG2.out (by omega) (fun k hk => by cases hk; omega)).setCell (Nat.le_refl _) _,
          mat_own HM.out HO2.out (fun t ht => rowIs_grown (rowIs_grown (HM.out.row t ht) HG1.out (by simp)) HG2.out (by have := (HM.out.row t ht).lt; simp; omega)) (row_of_own HV2.out) hs0'⟩
      case measure => go_light; simp [intOf] <;> omega
    · obtain rfl : n = i := by omega
      have HBel := Lib.hid HB.out
      have HMat := Lib.hid HM.out
      clear HB HM HB0 HM0 HCK
      go_wp2_with fail
      go_loopw [37] (fun x wr => ∃ m : Nat, x = .int .i64 m ∧ m ≤ n ∧ Below w.heap.size w wr ∧ MatAt wr w.heap.size w.heap.size n n G (warsh g m)) (fun x _ => n - (intOf x).toNat)
      case atStart => exact ⟨0, rfl, by omega, HBel.out, HMat.out⟩
      case round =>
        obtain ⟨w1, rfl⟩ : ∃ w1 : World, w1 = wr := ⟨_, rfl⟩
        obtain ⟨m, rfl, hm, hbw, hmat⟩ := hrel
        have HB := Lib.hid hbw
        have HM := Lib.hid hmat
        clear hbw hmat
        by_cases hmn : m < n
        · go_wp2_with fail
          go_loopw [42] (fun x wr => ∃ i : Nat, x = .int .i64 i ∧ i ≤ n ∧ Below w.heap.size w wr ∧ MatAt wr w.heap.size w.heap.size n n G (fun a b => if a < i then warsh g (m + 1) a b else warsh g m a b)) (fun x _ => n - (intOf x).toNat)
          case atStart => exact ⟨0, rfl, by omega, HB.out, HM.out.congr fun a b _ _ => by simp⟩
          case round =>
            obtain ⟨w2, rfl⟩ : ∃ w2 : World, w2 = wr := ⟨_, rfl⟩
            obtain ⟨i, rfl, hi, hbw, hmat⟩ := hrel
            have HB2 := Lib.hid hbw
            have HM2 := Lib.hid hmat
            clear hbw hmat
            by_cases hin : i < n
            · go_wp2_with fail
              go_loopw [47] (fun x wr => ∃ k : Nat, x = .int .i64 k ∧ k ≤ n ∧ Below w.heap.size w wr ∧ MatAt wr w.heap.size w.heap.size n n G (fun a b => if a < i ∨ (a = i ∧ b < k) then warsh g (m + 1) a b else warsh g m a b)) (fun x _ => n - (intOf x).toNat)
              case atStart => exact ⟨0, rfl, by omega, HB2.out, HM2.out.congr fun a b _ _ => by simp⟩
              case round =>
                obtain ⟨k, rfl, hk, hbw, hmat⟩ := hrel
                have HB3 := Lib.hid hbw
                have HM3 := Lib.hid hmat
                clear hbw hmat
                by_cases hkn : k < n
                · have c1 := HM3.out.cellO hin hin
                  have c2 := HM3.out.cellO hmn hmn
                  have c3 := HM3.out.cell hin hkn
                  have c4 := HM3.out.cell hin hmn
                  have c5 := HM3.out.cell hmn hkn
                  have c6 := (HM3.out.row i hin).frozen k
                  rw [show (if i < i ∨ (i = i ∧ k < k) then warsh g (m + 1) i k else warsh g m i k) = warsh g m i k by simp] at c3
                  rw [show (if i < i ∨ (i = i ∧ m < k) then warsh g (m + 1) i m else warsh g m i m) = warsh g m i m by rw [warsh_col]; simp] at c4
                  rw [show (if m < i ∨ (m = i ∧ k < k) then warsh g (m + 1) m k else warsh g m m k) = warsh g m m k by rw [warsh_row]; simp] at c5
                  have HWS : Hid (warsh g (m + 1) i k = (warsh g m i k || (warsh g m i m && warsh g m m k))) := Lib.hid rfl
                  generalize warsh g m i k = X at c3 HWS
                  generalize warsh g m i m = Y at c4 HWS
                  generalize warsh g m m k = Z at c5 HWS
                  go_wp2_with fail
                  cases X
                  · cases Y
                    · skip
                      refine wp_region_still_tail 31 (by kernel_rfl) (by kernel_rfl) ?_
                      simp only [List.take_succ_cons, List.take_zero, List.drop_succ_cons, List.drop_zero]
                      change wpStill _ _ wr.drew _ _ _
                      refine wpStill_of_quiet ?_
                      repeat (go_big_quiet_step (fail))
                      refine wpQuiet_nil ?_
                      change wpList _ _ _ _ _ wr.drew
                      go_wp2
                      go_roundw
                      case rel => exact ⟨k + 1, by go_num, by omega, (HB3.out.setCell (HM3.out.ge.2 i hin) _).drew, ((HM3.out.set hin k _).congr fun a b _ _ => warsh_step _ m i k HWS.out a b).drew⟩
                      case measure => go_light; simp [intOf]; omega
                    · skip
                      refine wp_region_still_tail 31 (by kernel_rfl) (by kernel_rfl) ?_
                      simp only [List.take_succ_cons, List.take_zero, List.drop_succ_cons, List.drop_zero]
                      change wpStill _ _ wr.drew _ _ _
                      refine wpStill_of_quiet ?_
                      repeat (go_big_quiet_step (fail))
                      refine wpQuiet_nil ?_
                      change wpList _ _ _ _ _ wr.drew
                      go_wp2
                      go_roundw
                      case rel => exact ⟨k + 1, by go_num, by omega, (HB3.out.setCell (HM3.out.ge.2 i hin) _).drew, ((HM3.out.set hin k _).congr fun a b _ _ => warsh_step _ m i k HWS.out a b).drew⟩
                      case measure => go_light; simp [intOf]; omega
                  · skip
                    refine wp_region_still_tail 31 (by kernel_rfl) (by kernel_rfl) ?_
                    simp only [List.take_succ_cons, List.take_zero, List.drop_succ_cons, List.drop_zero]
                    change wpStill _ _ wr.drew _ _ _
                    refine wpStill_of_quiet ?_
                    repeat (go_big_quiet_step (fail))
                    refine wpQuiet_nil ?_
                    change wpList _ _ _ _ _ wr.drew
                    go_wp2
                    go_roundw
                    case rel => exact ⟨k + 1, by go_num, by omega, (HB3.out.setCell (HM3.out.ge.2 i hin) _).drew, ((HM3.out.set hin k _).congr fun a b _ _ => warsh_step _ m i k HWS.out a b).drew⟩
                    case measure => go_light; simp [intOf]; omega
                · obtain rfl : k = n := by omega
                  go_wp2
                  go_roundw
                  case rel => exact ⟨i + 1, by go_num, by omega, HB3.out, HM3.out.congr fun a b _ hb => by
                    by_cases e : a < i + 1
                    · rw [if_pos e, if_pos (by omega)]
                    · rw [if_neg e, if_neg (by omega)]⟩
                  case measure => go_light; simp [intOf]; omega
            · obtain rfl : i = n := by omega
              go_wp2
              go_roundw
              case rel => exact ⟨m + 1, by go_num, by omega, HB2.out, HM2.out.congr fun a b ha _ => by simp [ha]⟩
              case measure => go_light; simp [intOf]; omega
        · obtain rfl : m = n := by omega
          go_wp2
          go_ret2
          exact ⟨_, rfl, HM.out.reads, HB.out⟩

/-- One leads to another one by the first, and that one back by the second. -/
def backB (g c : Nat → Nat → Bool) (n : Nat) : Bool := twoB (fun i k => g i k && c k i) (fun _ => n) n 0
theorem twoB_hit {h : Nat → Nat → Bool} {K : Nat → Nat} {T t j : Nat} (ht : t < T) (hj : j < K t) (hh : h t j = true) : twoB h K T 0 = true := twoB_iff.2 ⟨t, ht, j, hj, hh⟩
set_option maxRecDepth 100000 in
set_option maxHeartbeats 8000000 in
theorem iback_any (A : Option Addr) (n c : Nat) (M : Nat → Nat → Bool) (A2 : Option Addr) (c2 : Nat) (N : Nat → Nat → Bool) (w : World) (hn : n ≤ 40) (hA : BoolssAt w A n M) (h2 : BoolssAt w A2 n N) :
    Calls Tryd.prog 89 #[.slice A n c, .slice A2 n c2] w fun e w' => e = .returned (.bool (backB M (warsh N n) n)) ∧ Below w.heap.size w w' := by
  have HG := Lib.hid (gClosed_any A2 n c2 N w hn h2)
  have HA := Lib.hid hA
  clear hA h2
  obtain ⟨R, hR⟩ : ∃ R, backB M (warsh N n) n = R := ⟨_, rfl⟩
  rw [hR]
  have HR := Lib.hid hR
  clear hR
  generalize warsh N n = C at *
  go_enter Tryd.func89, Tryd.ntmps89
  go_wp2_with fail
  refine HG.out.mono ?_
  rintro e w1 ⟨B, rfl, h1, hb⟩
  have HC := Lib.hid h1
  have HM := Lib.hid (HA.out.below hb)
  have HB := Lib.hid hb
  clear h1 hb HA HG
  go_wp2_with fail
  go_loop [18] (fun x => ∃ i : Nat, x = .int .i64 i ∧ i ≤ n ∧ twoB (fun i k => M i k && C k i) (fun _ => n) i 0 = false) (fun x => n - (intOf x).toNat)
  case atStart => exact ⟨0, rfl, by omega, twoB_zero _ _⟩
  case round =>
    obtain ⟨i, rfl, hi, hno⟩ := hrel
    have HN := Lib.hid hno
    clear hno
    by_cases hin : i < n
    · obtain ⟨b, off, rfl, hb, b2, off2, c2, g1, g2, g3, g4⟩ := HM.out i hin
      have HG4 := Lib.hid g4
      clear g4
      go_wp2_with fail
      go_loop [25] (fun x => ∃ k : Nat, x = .int .i64 k ∧ k ≤ n ∧ twoB (fun i k => M i k && C k i) (fun _ => n) i k = false) (fun x => n - (intOf x).toNat)
      case atStart => exact ⟨0, rfl, by omega, HN.out⟩
      case round =>
        obtain ⟨k, rfl, hk, hno⟩ := hrel
        have HN2 := Lib.hid hno
        clear hno
        by_cases hkn : k < n
        · have g5 := HG4.out k hkn
          obtain ⟨bC, oC, rfl, hbC, b3, off3, c3, q1, q2, q3, q4⟩ := HC.out k hkn
          have q5 := q4 i hin
          clear q4
          have HS := Lib.hid (twoB_succ (fun i k => M i k && C k i) (fun _ => n) i k)
          have HHIT := Lib.hid (fun (hh : (M i k && C k i) = true) => HR.out.symm.trans (show backB M C n = true from twoB_hit (h := fun i k => M i k && C k i) hin hkn hh))
          generalize hX : M i k = X at *
          generalize hY : C k i = Y at *
          have HX := Lib.hid hX
          have HY := Lib.hid hY
          clear hX hY
          cases X
          · go_wp2
            go_round
            case rel => exact ⟨k + 1, by go_num, by omega, by rw [HS.out, HN2.out]; simp⟩
            case measure => go_light; simp [intOf] <;> omega
          · cases Y
            · go_wp2
              go_round
              case rel => exact ⟨k + 1, by go_num, by omega, by rw [HS.out, HN2.out]; simp⟩
              case measure => go_light; simp [intOf] <;> omega
            · have HT : Hid (R = true) := Lib.hid (HHIT.out rfl)
              go_wp2
              go_ret
              exact ⟨by rw [HT.out]; rfl, HB.out⟩
        · obtain rfl : k = n := by omega
          go_wp2
          go_round
          case rel => exact ⟨i + 1, by go_num, by omega, by rw [← twoB_next]; exact HN2.out⟩
          case measure => go_light; simp [intOf] <;> omega
    · obtain rfl : i = n := by omega
      have HT : Hid (R = false) := Lib.hid (HR.out.symm.trans HN.out)
      go_wp2
      go_ret
      exact ⟨by rw [HT.out]; rfl, HB.out⟩
end Go.Proofs.YtkncomfbedbikaaDoor
