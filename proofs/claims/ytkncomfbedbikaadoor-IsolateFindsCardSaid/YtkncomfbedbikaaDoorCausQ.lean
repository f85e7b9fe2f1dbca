/- testimonyref.CausalCheck and testimonyref.Reads. · Plain: the checks of ops on both sides answer alike. -/
import Derived.Test.YtkncomfbedbikaaDoorOpsR
import Derived.Test.YtkncomfbedbikaaDoorCausB
namespace Go.Proofs.YtkncomfbedbikaaDoor
open Go.RowKit
def causalErrR (F : Nat → GOp) (n : Nat) : Int := if opsErrR F n ≠ 0 then opsErrR F n else firstErr (cErr F) n
theorem twin_tree (o q : GOp) (h : o.kind = 2) :
    ((q.kind == 2) = false ∧ twinB o q = false) ∨ ((q.kind == 2) = true ∧ (q.a == o.a) = false ∧ twinB o q = false) ∨ ((q.kind == 2) = true ∧ (q.a == o.a) = true ∧ (q.key == o.key) = false ∧ twinB o q = false) ∨
    ((q.kind == 2) = true ∧ (q.a == o.a) = true ∧ (q.key == o.key) = true ∧ twinB o q = true) := by
  unfold twinB writesB
  by_cases h1 : q.kind = 2
  · by_cases h2 : q.a = o.a
    · by_cases h3 : q.key = o.key
      · exact .inr (.inr (.inr ⟨by simpa using h1, by simpa using h2, by simpa using h3, by simp [h, h1, h2, h3]⟩))
      · exact .inr (.inr (.inl ⟨by simpa using h1, by simpa using h2, by simpa using h3, by simp [h, h1]; intro e; exact absurd e.symm h3⟩))
    · exact .inr (.inl ⟨by simpa using h1, by simpa using h2, by simp [h, h1]; intro _ e; exact absurd e.symm h2⟩)
  · exact .inl ⟨by simpa using h1, by simp [h1]⟩
set_option maxRecDepth 100000 in
set_option maxHeartbeats 4000000 in
theorem rCausalCheck_any (A : Option Addr) (n c : Nat) (F : Nat → GOp) (w : World) (hn : n ≤ 60) (hcap : n ≤ c) (hA : OpsAt w A n F) :
    Calls Tryd.prog 10 #[.slice A n c] w fun e w' => e = .returned (.int .i64 (causalErrR F n)) ∧ Below w.heap.size w w' := by
  have HA := Lib.hid hA
  have HCK := Lib.hid (rOpsCheck_any A n c F w hn hcap hA)
  clear hA
  cases hz : opsErrR F n == 0
  · have HZ : Hid (opsErrR F n ≠ 0) := Lib.hid (by simpa using hz)
    have HS : Hid (causalErrR F n = opsErrR F n) := Lib.hid (by simp [causalErrR, HZ.out])
    have hne : (opsErrR F n != 0) = true := by simpa using hz
    generalize opsErrR F n = oe at *
    go_enter Tryd.func10, Tryd.ntmps10
    go_wp2_with (go_at_call 39; refine HCK.out.mono ?_; rintro e w' ⟨rfl, hb'⟩)
    go_ret
    exact ⟨by rw [HS.out]; rfl, hb'⟩
  · have HZ : Hid (causalErrR F n = firstErr (cErr F) n) := Lib.hid (by have : opsErrR F n = 0 := by simpa using hz
                                                                        simp [causalErrR, this])
    rw [show opsErrR F n = 0 by simpa using hz] at HCK
    clear hz
    go_enter Tryd.func10, Tryd.ntmps10
    go_wp2_with (go_at_call 39; refine HCK.out.mono ?_; rintro e w' ⟨rfl, hb'⟩; have HB' := Lib.hid hb'; clear hb')
    go_loopw [16] (fun x wr => ∃ j : Nat, x = .int .i64 j ∧ j ≤ n ∧ (∀ t, t < j → cErr F t = 0) ∧ Below w.heap.size w wr) (fun x _ => n - (intOf x).toNat)
    case atStart => exact ⟨0, rfl, by omega, fun t ht => absurd ht (by omega), HB'.out⟩
    case round =>
      obtain ⟨wo, rfl⟩ : ∃ wo : World, wo = wr := ⟨_, rfl⟩
      obtain ⟨j, rfl, hj, hall, hbw⟩ := hrel
      have HALL := Lib.hid hall
      clear hall
      have HB := Lib.hid hbw
      clear hbw
      by_cases hlt : j < n
      · have HAW : Hid (∀ wx o, Boxed wo wx o → OpsAt wx A n F) := Lib.hid (fun wx o h => (HA.out.below HB.out).below h.1)
        have HBW : Hid (∀ wx o, Boxed wo wx o → Below w.heap.size w wx) := Lib.hid (fun wx o h => HB.out.trans (h.1.mono HB.out.size))
        obtain ⟨b, off, hAe, hb, hc⟩ := (HA.out.below HB.out) j hlt
        subst hAe
        obtain ⟨g0, g1, g2, g3, g4, g5, g6, g7⟩ := hc
        obtain ⟨o, ho⟩ : ∃ o, F j = o := ⟨_, rfl⟩
        rw [ho] at g0 g1 g2 g3 g4 g5 g6 g7
        have HF := Lib.hid ho
        clear ho
        have HX0 : Hid (Boxed wo (wo.alloc (opCells o)) o) := Lib.hid ⟨(Below.refl _ wo).alloc (Nat.le_refl _) _, boxAt_new rfl o 95, by simp⟩
        have HRET : Hid (∀ e, cErr F j = e → e ≠ 0 → causalErrR F n = e) := Lib.hid (fun e h1 h2 => by rw [HZ.out, firstErr_found HALL.out (by rw [h1]; exact h2) hlt, h1])
        have hjc : j ≤ c := by omega
        rcases form_tree o with ⟨d1, d2, dc⟩ | ⟨d1, d2, d3, dc⟩ | ⟨d1, d2, d3, dc⟩ | ⟨d1, d2, d3, dc⟩ | ⟨d1, d2, d3, d4, dc⟩ | ⟨d1, d2, d3, d4, d5, dc⟩ | ⟨d1, d2, d3, d4, d5, dc⟩
        case inr.inr.inl =>
          have hk : o.kind ≠ 2 := by simpa using d1
          have HE : Hid (cErr F j = 0) := Lib.hid (by unfold cErr; rw [HF.out, dc, anyB_false (fun t _ => by simp [twinB, hk])]; rfl)
          clear dc hk
          go_wp2_with fail
          go_loopw [53] (fun x wx => ∃ k : Nat, x = .int .i64 k ∧ k ≤ j ∧ Boxed wo wx o) (fun x _ => j - (intOf x).toNat)
          case atStart => exact ⟨0, rfl, by omega, HX0.out⟩
          case round =>
            obtain ⟨k, rfl, hk, hbw⟩ := hrel
            have HB2 := Lib.hid hbw
            clear hbw
            by_cases hkt : k < j
            · obtain ⟨b2, off2, hAe, hb2, hc2⟩ := HAW.out _ _ HB2.out k (by omega)
              injection hAe with hAe
              injection hAe with hAe1 hAe2
              subst hAe1 hAe2
              obtain ⟨q0, q1, q2, q3, q4, q5, q6, q7⟩ := hc2
              go_wp2
              go_roundw
              case rel => exact ⟨k + 1, by go_num, by omega, HB2.out.on ((Below.refl _ _).alloc (Nat.le_refl _) _)⟩
              case measure => go_light; simp [intOf]; omega
            · obtain rfl : k = j := by omega
              go_wp2
              go_roundw
              case rel => exact ⟨k + 1, by go_num, by omega, upto_succ HALL.out HE.out, HBW.out _ _ HB2.out⟩
              case measure => go_light; simp [intOf]; omega
        case inr.inr.inr.inr.inr.inr =>
          have hk : o.kind = 2 := by simpa using d1
          have HS2 : Hid (cErr F j = if anyB (fun t => twinB o (F t)) j = true then 9 else 0) := Lib.hid (by unfold cErr; rw [HF.out, dc]; rfl)
          have HT := Lib.hid (fun q => twin_tree o q hk)
          clear dc hk
          go_wp2_with fail
          go_loopw [53] (fun x wx => ∃ k : Nat, x = .int .i64 k ∧ k ≤ j ∧ (∀ t, t < k → twinB o (F t) = false) ∧ Boxed wo wx o) (fun x _ => j - (intOf x).toNat)
          case atStart => exact ⟨0, rfl, by omega, fun t ht => absurd ht (by omega), HX0.out⟩
          case round =>
            obtain ⟨k, rfl, hk, hall, hbw⟩ := hrel
            have HALL2 := Lib.hid hall
            clear hall
            have HB2 := Lib.hid hbw
            obtain ⟨_, ⟨x0, x1, x2, x3, x4, x5, x6, x7⟩, hsz⟩ := hbw
            by_cases hkt : k < j
            · obtain ⟨b2, off2, hAe, hb2, hc2⟩ := HAW.out _ _ HB2.out k (by omega)
              injection hAe with hAe
              injection hAe with hAe1 hAe2
              subst hAe1 hAe2
              obtain ⟨q0, q1, q2, q3, q4, q5, q6, q7⟩ := hc2
              obtain ⟨q, hq⟩ : ∃ q, F k = q := ⟨_, rfl⟩
              rw [hq] at q0 q1 q2 q3 q4 q5 q6 q7
              have HQ := Lib.hid hq
              clear hq
              have HW : Hid (Boxed wo (wr.alloc (opCells q)) o) := Lib.hid (HB2.out.on ((Below.refl _ _).alloc (Nat.le_refl _) _))
              rcases HT.out q with ⟨e1, ec⟩ | ⟨e1, e2, ec⟩ | ⟨e1, e2, e3, ec⟩ | ⟨e1, e2, e3, ec⟩
              all_goals
                have HD := Lib.hid ec
                clear ec
                go_wp2
                first
                  | (have HE : Hid (cErr F j = 9) := Lib.hid (by rw [HS2.out, if_pos (anyB_true (p := fun t => twinB o (F t)) hkt (by rw [HQ.out]; exact HD.out))])
                     go_ret
                     exact ⟨by rw [HRET.out 9 HE.out (by omega)]; rfl, HBW.out _ _ HW.out⟩)
                  | (go_roundw
                     case rel => exact ⟨k + 1, by go_num, by omega, upto_succ HALL2.out (by rw [HQ.out]; exact HD.out), HW.out⟩
                     case measure => go_light; simp [intOf]; omega)
            · obtain rfl : k = j := by omega
              go_wp2
              go_roundw
              case rel => exact ⟨k + 1, by go_num, by omega, upto_succ HALL.out (by rw [HS2.out, if_neg (by rw [anyB_false HALL2.out]; simp)]), HBW.out _ _ HB2.out⟩
              case measure => go_light; simp [intOf]; omega
        all_goals
          have HE : Hid (cErr F j = 3) := Lib.hid (by unfold cErr; rw [HF.out, dc]; rfl)
          clear dc
          go_wp2
          go_ret
          exact ⟨by rw [HRET.out 3 HE.out (by omega)]; rfl, HBW.out _ _ HX0.out⟩
      · obtain rfl : j = n := by omega
        go_wp2
        go_ret
        exact ⟨by rw [HZ.out, firstErr_none HALL.out]; rfl, HB.out⟩
end Go.Proofs.YtkncomfbedbikaaDoor
namespace Go.Proofs.YtkncomfbedbikaaDoor
theorem boolIff {a b : Bool} (h : a = true ↔ b = true) : a = b := by cases a <;> cases b <;> simp_all
theorem firstErr_congr {f g : Nat → Int} : ∀ {n : Nat}, (∀ i, i < n → (∀ t, t < i → f t = 0) → f i = g i) → firstErr f n = firstErr g n
  | 0, _ => rfl
  | n + 1, h => by
    have ih := firstErr_congr (n := n) fun i hi ht => h i (by omega) ht
    unfold firstErr
    rw [← ih]
    by_cases e : firstErr f n = 0
    · rw [h n (by omega) (firstErr_zero e)]
    · simp [e]
theorem opErrE_call {F : Nat → GOp} {i : Nat} (h : opErrE F i = 0) : orderB F i = false := by
  unfold opErrE at h
  cases ho : orderB F i
  · rfl
  · rw [ho] at h
    split at h
    · omega
    · split at h
      · omega
      · simp at h
theorem order_call {F : Nat → GOp} {i : Nat} (h : orderB F i = false) : 0 ≤ (F i).call := by
  unfold orderB at h
  simp at h
  omega
theorem clash_eq {o p : GOp} (ho : 0 ≤ o.call) (hp : 0 ≤ p.call) : clashE o p = clashR o p := by
  apply boolIff
  unfold clashE clashN clashR
  simp
  omega
theorem opErr_eq {F : Nat → GOp} {i : Nat} (h : ∀ t, t < i → opErrE F t = 0) : opErrE F i = opErrR F i := by
  unfold opErrE opErrR
  split
  · rfl
  · split
    · rfl
    · split
      · rfl
      · rename_i ho
        have ho' : orderB F i = false := by simpa using ho
        have : anyB (fun j => clashE (F i) (F j)) i = anyB (fun j => clashR (F i) (F j)) i := by
          apply boolIff
          rw [anyB_iff, anyB_iff]
          exact ⟨fun ⟨j, hj, h1⟩ => ⟨j, hj, by rw [← clash_eq (order_call ho') (order_call (opErrE_call (h j hj)))]; exact h1⟩, fun ⟨j, hj, h1⟩ => ⟨j, hj, by rw [clash_eq (order_call ho') (order_call (opErrE_call (h j hj)))]; exact h1⟩⟩
        rw [this]
theorem opsErr_eq (F : Nat → GOp) (n : Nat) : opsErrE F n = opsErrR F n := by
  unfold opsErrE opsErrR
  split
  · rfl
  · exact firstErr_congr fun i _ h => opErr_eq h
theorem causalErr_eq (F : Nat → GOp) (n : Nat) : causalErrE F n = causalErrR F n := by
  unfold causalErrE causalErrR
  rw [opsErr_eq]
theorem causal_zero {F : Nat → GOp} {n : Nat} (h : causalErrE F n = 0) : (∀ i, i < n → cErr F i = 0) ∧ n ≤ 40 := by
  unfold causalErrE at h
  split at h
  · rename_i h1
    exact absurd h h1
  · rename_i h1
    refine ⟨firstErr_zero h, ?_⟩
    have h2 : opsErrE F n = 0 := by simpa using h1
    unfold opsErrE at h2
    split at h2
    · omega
    · omega
theorem cErr_zero {F : Nat → GOp} {i : Nat} (h : cErr F i = 0) : formB (F i) = false ∧ anyB (fun j => twinB (F i) (F j)) i = false := by
  unfold cErr at h
  cases h1 : formB (F i)
  · refine ⟨rfl, ?_⟩
    cases h2 : anyB (fun j => twinB (F i) (F j)) i
    · rfl
    · rw [h1, h2] at h; simp at h
  · rw [h1] at h; simp at h
theorem form_kind {o : GOp} (h : formB o = false) : o.kind = 1 ∨ o.kind = 2 := by
  unfold formB at h
  simp at h
  omega
end Go.Proofs.YtkncomfbedbikaaDoor
