/- event.CheckOps. · causal.Check: which error a list of ops has. -/
import Derived.Test.YtkncomfbedbikaaDoorOpsB
import Derived.StillTailTactics
import Derived.Deep.RegionWith
import Derived.Deep.RegionHeld3
import Derived.Deep.RegionLaw
import Derived.Test.YtkncomfbedbikaaDoorMapFn
import Derived.Maps.OwnOps
namespace Go.Proofs.YtkncomfbedbikaaDoor
open Go.RowKit
attribute [local go_sem] eq_nil ne_nil nil_eq_nil nil_ne_nil
def opsErrE (F : Nat → GOp) (n : Nat) : Int := if 40 < n then 4 else firstErr (opErrE F) n
theorem errV_ne (e : Int) (h : e ≠ 0) : errV e = .iface 23 (.int .i64 e) := by simp [errV, h]
set_option maxRecDepth 100000 in
set_option maxHeartbeats 1000000 in
theorem CheckOps_any (A : Option Addr) (n c : Nat) (F : Nat → GOp) (w : World) (hn : n ≤ 60) (hcap : n ≤ c) (hA : OpsAt w A n F) :
    Calls Tryd.prog 94 #[.slice A n c] w fun e w' => e = .returned (errV (opsErrE F n)) ∧ Below w.heap.size w w' := by
  have HA := Lib.hid hA
  clear hA
  by_cases h40 : 40 < n
  · have HS : Hid (opsErrE F n = 4) := Lib.hid (by simp [opsErrE, h40])
    go_enter Tryd.func94, Tryd.ntmps94
    go_wp2
    go_ret
    exact ⟨by rw [HS.out]; rfl, Below.refl _ _⟩
  · have HS : Hid (opsErrE F n = firstErr (opErrE F) n) := Lib.hid (by simp [opsErrE, h40])
    go_enter Tryd.func94, Tryd.ntmps94
    go_wp2_with fail
    go_loopw [12] (fun x wr => ∃ j : Nat, x = .int .i64 j ∧ j ≤ n ∧ (∀ t, t < j → opErrE F t = 0) ∧ Below w.heap.size w wr) (fun x _ => n - (intOf x).toNat)
    case atStart => exact ⟨0, rfl, by omega, fun t ht => absurd ht (by omega), Below.refl _ _⟩
    case round =>
      obtain ⟨j, rfl, hj, hall, hbw⟩ := hrel
      have HALL := Lib.hid hall
      clear hall
      have HB := Lib.hid hbw
      clear hbw
      by_cases hlt : j < n
      · have HCK := Lib.hid (fun W (hb : Below w.heap.size w W) => checkOp_any A j c F W (by omega) ((HA.out.below hb).take (by omega)))
        obtain ⟨b, off, rfl, hb, hc⟩ := (HA.out.below HB.out) j hlt
        obtain ⟨g0, g1, g2, g3, g4, g5, g6, g7⟩ := hc
        obtain ⟨q, hq⟩ : ∃ q, F j = q := ⟨_, rfl⟩
        rw [hq] at g0 g1 g2 g3 g4 g5 g6 g7 HCK
        have HF := Lib.hid hq
        clear hq
        have HW : Hid (Below w.heap.size w (wr.alloc (opCells q))) := Lib.hid (HB.out.alloc HB.out.size _)
        have HQ := boxAt_new (w := wr) rfl q 95
        have hjc : j ≤ c := by omega
        go_wp2_with fail
        generalize wr.alloc (.cells #[.int .i64 q.proc, .int .i64 q.key, .int .i64 q.kind, .int .i64 q.a, .int .i64 q.b, .int .i64 q.result, .int .i64 q.call, .int .i64 q.ret] 95) = W at *
        obtain ⟨k0, k1, k2, k3, k4, k5, k6, k7⟩ := HQ
        go_still_tail 4, (by kernel_rfl)
        change wpList _ _ _ _ _ W.drew
        cases hz : opErrE F j == 0
        · have HZ : Hid (opErrE F j ≠ 0) := Lib.hid (by simpa using hz)
          rw [errV_ne _ HZ.out] at HCK
          go_wp2_with (go_at_call 122; refine (HCK.out _ HW.out.drew).mono ?_; rintro e w' ⟨rfl, hb'⟩)
          go_ret
          exact ⟨by rw [HS.out, firstErr_found HALL.out HZ.out hlt, errV_ne _ HZ.out]; rfl, HW.out.drew.trans (hb'.mono HW.out.size)⟩
        · have HZ : Hid (opErrE F j = 0) := Lib.hid (by simpa using hz)
          rw [HZ.out, show errV 0 = .nilIface from rfl] at HCK
          go_wp2_with (go_at_call 122; refine (HCK.out _ HW.out.drew).mono ?_; rintro e w' ⟨rfl, hb'⟩)
          go_roundw
          case rel => exact ⟨j + 1, by go_num, by omega, upto_succ HALL.out HZ.out, HW.out.drew.trans (hb'.mono HW.out.size)⟩
          case measure => go_light; simp [intOf]; omega
      · obtain rfl : j = n := by omega
        go_wp2
        go_ret
        exact ⟨by rw [HS.out, firstErr_none HALL.out]; rfl, HB.out⟩
end Go.Proofs.YtkncomfbedbikaaDoor
namespace Go.Proofs.YtkncomfbedbikaaDoor
open Go.RowKit
attribute [local go_sem] eq_nil ne_nil nil_eq_nil nil_ne_nil
def formB (o : GOp) : Bool := (decide (o.kind ≠ 2) && decide (o.kind ≠ 1)) || decide (o.ret < 0) || (decide (o.kind = 2) && (decide (o.a = 0) || decide (o.result ≠ 0)))
def writesB (p : GOp) (k : Int × Int) : Bool := decide (p.kind = 2) && decide (k = (p.key, p.a))
def twinB (o p : GOp) : Bool := decide (o.kind = 2) && writesB p (o.key, o.a)
def cErr (F : Nat → GOp) (i : Nat) : Int := if formB (F i) = true then 3 else if anyB (fun j => twinB (F i) (F j)) i = true then 9 else 0
def causalErrE (F : Nat → GOp) (n : Nat) : Int := if opsErrE F n ≠ 0 then opsErrE F n else firstErr (cErr F) n
/-- The last op below j that writes k. -/
def wrote (F : Nat → GOp) : Nat → Int × Int → Option Nat
  | 0, _ => none
  | j + 1, k => if writesB (F j) k = true then some j else wrote F j k
def wroteV (F : Nat → GOp) (j : Nat) (k : Int × Int) : Option Value := (wrote F j k).map fun t => .int .i64 (t : Int)
theorem wrote_isSome (F : Nat → GOp) (k : Int × Int) : ∀ j, (wrote F j k).isSome = anyB (fun t => writesB (F t) k) j
  | 0 => rfl
  | j + 1 => by
    unfold wrote
    by_cases h : writesB (F j) k = true
    · rw [if_pos h, anyB_true (Nat.lt_succ_self j) h]; rfl
    · rw [if_neg h, wrote_isSome F k j]
      cases h' : anyB (fun t => writesB (F t) k) j
      · refine (anyB_false fun t ht => ?_).symm
        rcases Nat.lt_or_ge t j with ht' | ht'
        · cases h2 : writesB (F t) k
          · rfl
          · exact absurd h' (by rw [anyB_true ht' h2]; simp)
        · obtain rfl : t = j := by omega
          simpa using h
      · obtain ⟨t, ht, h2⟩ := anyB_iff.1 h'
        exact (anyB_true (by omega) h2).symm
theorem wroteV_isSome (F : Nat → GOp) (k : Int × Int) (j : Nat) : (wroteV F j k).isSome = anyB (fun t => writesB (F t) k) j := by
  rw [← wrote_isSome]
  unfold wroteV
  cases wrote F j k <;> rfl
theorem wroteV_write {F : Nat → GOp} {j : Nat} (h : (F j).kind = 2) : wroteV F (j + 1) = fun k' => if k' = ((F j).key, (F j).a) then some (.int .i64 (j : Int)) else wroteV F j k' := by
  funext k'
  unfold wroteV
  rw [show wrote F (j + 1) k' = if writesB (F j) k' = true then some j else wrote F j k' from rfl]
  by_cases hk : k' = ((F j).key, (F j).a) <;> simp [h, hk, writesB]
theorem wroteV_read {F : Nat → GOp} {j : Nat} (h : (F j).kind ≠ 2) : wroteV F (j + 1) = wroteV F j := by
  funext k'
  unfold wroteV
  simp [wrote, writesB, h]
theorem form_tree (o : GOp) :
    ((o.kind == 2) = false ∧ (o.kind != 1) = true ∧ formB o = true) ∨ ((o.kind == 2) = false ∧ (o.kind != 1) = false ∧ o.ret < 0 ∧ formB o = true) ∨ ((o.kind == 2) = false ∧ (o.kind != 1) = false ∧ 0 ≤ o.ret ∧ formB o = false) ∨
    ((o.kind == 2) = true ∧ (o.kind != 1) = true ∧ o.ret < 0 ∧ formB o = true) ∨ ((o.kind == 2) = true ∧ (o.kind != 1) = true ∧ 0 ≤ o.ret ∧ (o.a == 0) = true ∧ formB o = true) ∨
    ((o.kind == 2) = true ∧ (o.kind != 1) = true ∧ 0 ≤ o.ret ∧ (o.a == 0) = false ∧ (o.result != 0) = true ∧ formB o = true) ∨
    ((o.kind == 2) = true ∧ (o.kind != 1) = true ∧ 0 ≤ o.ret ∧ (o.a == 0) = false ∧ (o.result != 0) = false ∧ formB o = false) := by
  unfold formB
  by_cases h1 : o.kind = 2
  · by_cases h3 : o.ret < 0
    · exact .inr (.inr (.inr (.inl ⟨by simp [h1], by simp [h1], h3, by simp [h3]⟩)))
    by_cases h4 : o.a = 0
    · exact .inr (.inr (.inr (.inr (.inl ⟨by simp [h1], by simp [h1], by omega, by simp [h4], by simp [h1, h4]⟩))))
    by_cases h5 : o.result = 0
    · exact .inr (.inr (.inr (.inr (.inr (.inr ⟨by simp [h1], by simp [h1], by omega, by simp [h4], by simp [h5], by simp [h1, h4, h5]; omega⟩)))))
    · exact .inr (.inr (.inr (.inr (.inr (.inl ⟨by simp [h1], by simp [h1], by omega, by simp [h4], by simp [h5], by simp [h1, h5]⟩)))))
  · by_cases h2 : o.kind = 1
    · by_cases h3 : o.ret < 0
      · exact .inr (.inl ⟨by simp [h1], by simp [h2], h3, by simp [h3]⟩)
      · exact .inr (.inr (.inl ⟨by simp [h1], by simp [h2], by omega, by simp [h2]; omega⟩))
    · exact .inl ⟨by simp [h1], by simp [h2], by simp [h1, h2]⟩
theorem zero_int (w : World) : (zeroValue 3).run Tryd.prog w = .ok (.int .i64 0) w := by kernel_rfl
set_option maxRecDepth 100000 in
set_option maxHeartbeats 4000000 in
theorem cCheck_any (A : Option Addr) (n c : Nat) (F : Nat → GOp) (w : World) (hn : n ≤ 60) (hcap : n ≤ c) (hA : OpsAt w A n F) :
    Calls Tryd.prog 42 #[.slice A n c] w fun e w' => e = .returned (errV (causalErrE F n)) ∧ Below w.heap.size w w' := by
  have HA := Lib.hid hA
  have HCK := Lib.hid (CheckOps_any A n c F w hn hcap hA)
  clear hA
  have hmm := @run_makeMap Tryd.prog
  cases hz : opsErrE F n == 0
  · have HZ : Hid (opsErrE F n ≠ 0) := Lib.hid (by simpa using hz)
    rw [errV_ne _ HZ.out] at HCK
    clear hz
    go_enter Tryd.func42, Tryd.ntmps42
    go_wp2_with (go_at_call 94; refine HCK.out.mono ?_; rintro e w' ⟨rfl, hb'⟩)
    go_ret
    exact ⟨by rw [show causalErrE F n = opsErrE F n by simp [causalErrE, HZ.out], errV_ne _ HZ.out]; rfl, hb'⟩
  · have HZ : Hid (causalErrE F n = firstErr (cErr F) n) := Lib.hid (by have : opsErrE F n = 0 := by simpa using hz
                                                                        simp [causalErrE, this])
    rw [show opsErrE F n = 0 by simpa using hz, show errV 0 = .nilIface from rfl] at HCK
    clear hz
    go_enter Tryd.func42, Tryd.ntmps42
    go_wp2_with (go_at_call 94; refine HCK.out.mono ?_; rintro e w' ⟨rfl, hb'⟩; have HB' := Lib.hid hb'; clear hb')
    obtain ⟨gm, hgm⟩ : ∃ gm, gm = w'.heap.size := ⟨_, rfl⟩
    rw [← hgm]
    have HG : Hid (w.heap.size ≤ gm ∧ mapFn (w'.alloc (.map #[] 0)) gm key2 (wroteV F 0) ∧ Below w.heap.size w (w'.alloc (.map #[] 0))) := Lib.hid ⟨by rw [hgm]; exact HB'.out.size, mapFn_new hgm key2, HB'.out.alloc HB'.out.size _⟩
    clear hgm
    go_loopw [18] (fun x wr => ∃ j : Nat, x = .int .i64 j ∧ j ≤ n ∧ (∀ t, t < j → cErr F t = 0) ∧ Below w.heap.size w wr ∧ mapFn wr gm key2 (wroteV F j)) (fun x _ => n - (intOf x).toNat)
    case atStart => exact ⟨0, rfl, by omega, fun t ht => absurd ht (by omega), HG.out.2.2, HG.out.2.1⟩
    case round =>
      obtain ⟨j, rfl, hj, hall, hbw, hmap⟩ := hrel
      have HALL := Lib.hid hall
      clear hall
      have HB := Lib.hid hbw
      have HM := Lib.hid hmap
      have hgl := hmap.lt
      clear hbw hmap
      by_cases hlt : j < n
      · obtain ⟨b, off, rfl, hb, hc⟩ := (HA.out.below HB.out) j hlt
        obtain ⟨g0, g1, g2, g3, g4, g5, g6, g7⟩ := hc
        obtain ⟨o, ho⟩ : ∃ o, F j = o := ⟨_, rfl⟩
        rw [ho] at g0 g1 g2 g3 g4 g5 g6 g7
        have HF := Lib.hid ho
        clear ho
        have HW : Hid (Below w.heap.size w (wr.alloc (opCells o))) := Lib.hid (HB.out.alloc HB.out.size _)
        have HM' : Hid (mapFn (wr.alloc (opCells o)) gm key2 (wroteV F j)) := Lib.hid (HM.out.below ((Below.refl _ _).alloc (Nat.le_refl _) _) hgl)
        have HRET : Hid (∀ e, cErr F j = e → e ≠ 0 → errV (causalErrE F n) = .iface 23 (.int .i64 e)) := Lib.hid (fun e h1 h2 => by rw [HZ.out, firstErr_found HALL.out (by rw [h1]; exact h2) hlt, h1, errV_ne _ h2])
        rcases form_tree o with ⟨d1, d2, dc⟩ | ⟨d1, d2, d3, dc⟩ | ⟨d1, d2, d3, dc⟩ | ⟨d1, d2, d3, dc⟩ | ⟨d1, d2, d3, d4, dc⟩ | ⟨d1, d2, d3, d4, d5, dc⟩ | ⟨d1, d2, d3, d4, d5, dc⟩
        case inr.inr.inl =>
          have hk : o.kind ≠ 2 := by simpa using d1
          have HE : Hid (cErr F j = 0) := Lib.hid (by unfold cErr; rw [HF.out, dc, anyB_false (fun t _ => by simp [twinB, hk])]; rfl)
          have HR : Hid (wroteV F (j + 1) = wroteV F j) := Lib.hid (wroteV_read (by rw [HF.out]; exact hk))
          clear dc hk
          go_wp2_with (at_lookup; refine wpList_lookup_fn _ rfl _ _ 179 rfl key2_ok HM'.out Tryd.underlying179 zero_int (o.key, o.a) rfl rfl ?_)
          go_roundw
          case rel => exact ⟨j + 1, by go_num, by omega, upto_succ HALL.out HE.out, HW.out, by rw [HR.out]; exact HM'.out⟩
          case measure => go_light; simp [intOf]; omega
        case inr.inr.inr.inr.inr.inr =>
          have hk : o.kind = 2 := by simpa using d1
          have HC : Hid (cErr F j = if (wroteV F j (o.key, o.a)).isSome = true then 9 else 0) := Lib.hid (by
            unfold cErr
            rw [HF.out, dc, wroteV_isSome]
            rw [show (fun t => twinB o (F t)) = fun t => writesB (F t) (o.key, o.a) from funext fun t => by simp [twinB, hk]]
            simp)
          have HU : Hid (wroteV F (j + 1) = fun k' => if k' = (o.key, o.a) then some (.int .i64 (j : Int)) else wroteV F j k') := Lib.hid (by rw [wroteV_write (by rw [HF.out]; exact hk), HF.out])
          clear dc hk
          cases hth : (wroteV F j (o.key, o.a)).isSome
          · rw [hth] at HC
            go_wp2_with (first
              | (at_lookup; refine wpList_lookup_fn _ rfl _ _ 179 rfl key2_ok HM'.out Tryd.underlying179 zero_int (o.key, o.a) rfl rfl ?_)
              | (at_mapUpdate; refine wpList_update_fn _ rfl _ _ _ 179 rfl key2_ok HM'.out Tryd.underlying179 (o.key, o.a) rfl rfl ?_; intro w1 hm1 hg1 hs1; have HM1 := Lib.hid hm1; have HG1 := Lib.hid hg1; clear hm1 hg1 hs1))
            go_roundw
            case rel => exact ⟨j + 1, by go_num, by omega, upto_succ HALL.out HC.out, HW.out.grown HG1.out HW.out.size (by rintro k h; cases h; exact HG.out.1), by rw [HU.out]; exact HM1.out⟩
            case measure => go_light; simp [intOf]; omega
          · rw [hth] at HC
            go_wp2_with (at_lookup; refine wpList_lookup_fn _ rfl _ _ 179 rfl key2_ok HM'.out Tryd.underlying179 zero_int (o.key, o.a) rfl rfl ?_)
            go_ret
            exact ⟨by rw [HRET.out 9 HC.out (by omega)]; rfl, HW.out⟩
        all_goals
          have HE : Hid (cErr F j = 3) := Lib.hid (by unfold cErr; rw [HF.out, dc]; rfl)
          clear dc
          go_wp2
          go_ret
          exact ⟨by rw [HRET.out 3 HE.out (by omega)]; rfl, HW.out⟩
      · obtain rfl : j = n := by omega
        go_wp2
        go_ret
        exact ⟨by rw [HZ.out, firstErr_none HALL.out]; rfl, HB.out⟩
end Go.Proofs.YtkncomfbedbikaaDoor
