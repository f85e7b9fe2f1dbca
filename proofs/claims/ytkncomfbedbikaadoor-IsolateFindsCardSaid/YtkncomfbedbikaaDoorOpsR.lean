/- testimonyref.OpsCheck: which error a list of ops has, as the document has it. -/
import Derived.Test.YtkncomfbedbikaaDoorCausA
namespace Go.Proofs.YtkncomfbedbikaaDoor
open Go.RowKit
def clashR (o p : GOp) : Bool :=
  decide (o.call = p.call) || decide (o.call = p.ret) || (decide (o.ret ≠ -1) && (decide (o.ret = p.call) || decide (o.ret = p.ret)))
def opErrR (F : Nat → GOp) (i : Nat) : Int :=
  if toldB (F i).proc (F i).key (opNums (F i)) 5 = false then 2 else if inB (F i).kind 1 12 = false then 1 else if orderB F i = true then 10 else
  if anyB (fun j => clashR (F i) (F j)) i = true then 9 else if anyB (fun j => stateB (F i) (F j)) i = true then 6 else 0
def opsErrR (F : Nat → GOp) (n : Nat) : Int := if 40 < n then 4 else firstErr (opErrR F) n
def told5 (o : GOp) : Bool := toldB o.proc o.key (opNums o) 5
def small5 (o : GOp) : Bool := allB (fun i => smallB (opNums o i)) 5
theorem order_treeR (F : Nat → GOp) (i : Nat) (hpos : 0 < i) :
    (decide ((F i).call < 0) = true ∧ orderB F i = true) ∨ (decide ((F i).call < 0) = false ∧ decide ((F i).call ≤ (F (i - 1)).call) = true ∧ orderB F i = true) ∨
    (decide ((F i).call < 0) = false ∧ decide ((F i).call ≤ (F (i - 1)).call) = false ∧ ((F i).ret == -1) = true ∧ ((F i).ret != -1) = false ∧ orderB F i = ((F i).result != 0)) ∨
    (decide ((F i).call < 0) = false ∧ decide ((F i).call ≤ (F (i - 1)).call) = false ∧ ((F i).ret == -1) = false ∧ ((F i).ret != -1) = true ∧ decide ((F i).ret ≤ (F i).call) = true ∧ orderB F i = true) ∨
    (decide ((F i).call < 0) = false ∧ decide ((F i).call ≤ (F (i - 1)).call) = false ∧ ((F i).ret == -1) = false ∧ ((F i).ret != -1) = true ∧ decide ((F i).ret ≤ (F i).call) = false ∧ orderB F i = false) := by
  unfold orderB
  have hp : decide (0 < i) = true := by simpa using hpos
  rw [hp]
  have e1 : decide ((F i).ret ≠ -1) = ((F i).ret != -1) := by rw [Bool.eq_iff_iff]; simp
  have e2 : decide ((F i).ret = -1) = ((F i).ret == -1) := by rw [Bool.eq_iff_iff]; simp
  have e3 : decide ((F i).result ≠ 0) = ((F i).result != 0) := by rw [Bool.eq_iff_iff]; simp
  have e4 : ((F i).ret != -1) = !((F i).ret == -1) := rfl
  rw [e1, e2, e3, e4]
  cases decide ((F i).call < 0) <;> cases decide ((F i).call ≤ (F (i - 1)).call) <;> cases ((F i).ret == -1) <;> cases decide ((F i).ret ≤ (F i).call) <;> simp
theorem order_treeR0 (F : Nat → GOp) (i : Nat) (h0 : i = 0) :
    (decide ((F i).call < 0) = true ∧ orderB F i = true) ∨
    (decide ((F i).call < 0) = false ∧ ((F i).ret == -1) = true ∧ ((F i).ret != -1) = false ∧ orderB F i = ((F i).result != 0)) ∨
    (decide ((F i).call < 0) = false ∧ ((F i).ret == -1) = false ∧ ((F i).ret != -1) = true ∧ decide ((F i).ret ≤ (F i).call) = true ∧ orderB F i = true) ∨
    (decide ((F i).call < 0) = false ∧ ((F i).ret == -1) = false ∧ ((F i).ret != -1) = true ∧ decide ((F i).ret ≤ (F i).call) = false ∧ orderB F i = false) := by
  unfold orderB
  have hp : decide (0 < i) = false := by simp [h0]
  rw [hp]
  have e1 : decide ((F i).ret ≠ -1) = ((F i).ret != -1) := by rw [Bool.eq_iff_iff]; simp
  have e2 : decide ((F i).ret = -1) = ((F i).ret == -1) := by rw [Bool.eq_iff_iff]; simp
  have e3 : decide ((F i).result ≠ 0) = ((F i).result != 0) := by rw [Bool.eq_iff_iff]; simp
  have e4 : ((F i).ret != -1) = !((F i).ret == -1) := rfl
  rw [e1, e2, e3, e4]
  cases decide ((F i).call < 0) <;> cases ((F i).ret == -1) <;> cases decide ((F i).ret ≤ (F i).call) <;> simp
theorem clashR_tree (o p : GOp) :
    ((o.call == p.call) = true ∧ clashR o p = true) ∨ ((o.call == p.call) = false ∧ (o.call == p.ret) = true ∧ clashR o p = true) ∨
    ((o.call == p.call) = false ∧ (o.call == p.ret) = false ∧ (o.ret != -1) = false ∧ clashR o p = false) ∨
    ((o.call == p.call) = false ∧ (o.call == p.ret) = false ∧ (o.ret != -1) = true ∧ (o.ret == p.call) = true ∧ clashR o p = true) ∨
    ((o.call == p.call) = false ∧ (o.call == p.ret) = false ∧ (o.ret != -1) = true ∧ (o.ret == p.call) = false ∧ (o.ret == p.ret) = true ∧ clashR o p = true) ∨
    ((o.call == p.call) = false ∧ (o.call == p.ret) = false ∧ (o.ret != -1) = true ∧ (o.ret == p.call) = false ∧ (o.ret == p.ret) = false ∧ clashR o p = false) := by
  unfold clashR
  by_cases h1 : o.call = p.call
  · exact .inl ⟨by simpa using h1, by simp [h1]⟩
  by_cases h2 : o.call = p.ret
  · exact .inr (.inl ⟨by simpa using h1, by simpa using h2, by simp [h2]⟩)
  by_cases h3 : o.ret = -1
  · exact .inr (.inr (.inl ⟨by simpa using h1, by simpa using h2, by simpa using h3, by simp [h1, h2, h3]⟩))
  by_cases h4 : o.ret = p.call
  · exact .inr (.inr (.inr (.inl ⟨by simpa using h1, by simpa using h2, by simpa using h3, by simpa using h4, by simp only [h4]; simp; exact .inr (by omega)⟩)))
  by_cases h5 : o.ret = p.ret
  · exact .inr (.inr (.inr (.inr (.inl ⟨by simpa using h1, by simpa using h2, by simpa using h3, by simpa using h4, by simpa using h5, by simp [h5]; exact .inr (by omega)⟩))))
  · exact .inr (.inr (.inr (.inr (.inr ⟨by simpa using h1, by simpa using h2, by simpa using h3, by simpa using h4, by simpa using h5, by simp [h1, h2, h4, h5]⟩))))
theorem range_tree (o : GOp) :
    (o.proc < 0 ∧ told5 o = false) ∨ (0 ≤ o.proc ∧ 7 < o.proc ∧ told5 o = false) ∨ (0 ≤ o.proc ∧ o.proc ≤ 7 ∧ o.key < 0 ∧ told5 o = false) ∨ (0 ≤ o.proc ∧ o.proc ≤ 7 ∧ 0 ≤ o.key ∧ 7 < o.key ∧ told5 o = false) ∨
    (0 ≤ o.proc ∧ o.proc ≤ 7 ∧ 0 ≤ o.key ∧ o.key ≤ 7 ∧ told5 o = small5 o) := by
  unfold told5 toldB small5 inB
  by_cases a1 : o.proc < 0
  · exact .inl ⟨a1, by simp; omega⟩
  by_cases a2 : 7 < o.proc
  · exact .inr (.inl ⟨by omega, a2, by simp; omega⟩)
  by_cases a3 : o.key < 0
  · exact .inr (.inr (.inl ⟨by omega, by omega, a3, by simp; omega⟩))
  by_cases a4 : 7 < o.key
  · exact .inr (.inr (.inr (.inl ⟨by omega, by omega, by omega, a4, by simp; omega⟩)))
  · exact .inr (.inr (.inr (.inr ⟨by omega, by omega, by omega, by omega, by simp; omega⟩)))
theorem kind_tree (x : Int) : (x < 1 ∧ inB x 1 12 = false) ∨ (1 ≤ x ∧ 12 < x ∧ inB x 1 12 = false) ∨ (1 ≤ x ∧ x ≤ 12 ∧ inB x 1 12 = true) := by
  unfold inB
  by_cases a1 : x < 1
  · exact .inl ⟨a1, by simp; omega⟩
  by_cases a2 : 12 < x
  · exact .inr (.inl ⟨by omega, a2, by simp; omega⟩)
  · exact .inr (.inr ⟨by omega, by omega, by simp; omega⟩)
set_option maxRecDepth 100000 in
set_option maxHeartbeats 40000000 in
theorem rOpsCheck_any (A : Option Addr) (n c : Nat) (F : Nat → GOp) (w : World) (hn : n ≤ 60) (hcap : n ≤ c) (hA : OpsAt w A n F) :
    Calls Tryd.prog 39 #[.slice A n c] w fun e w' => e = .returned (.int .i64 (opsErrR F n)) ∧ Below w.heap.size w w' := by
  have HA := Lib.hid hA
  clear hA
  by_cases h40 : 40 < n
  · have HS : Hid (opsErrR F n = 4) := Lib.hid (by simp [opsErrR, h40])
    go_enter Tryd.func39, Tryd.ntmps39
    go_wp2
    go_ret
    exact ⟨by rw [HS.out]; rfl, Below.refl _ _⟩
  · have HS : Hid (opsErrR F n = firstErr (opErrR F) n) := Lib.hid (by simp [opsErrR, h40])
    go_enter Tryd.func39, Tryd.ntmps39
    go_wp2_with fail
    go_loopw [14] (fun x wr => ∃ j : Nat, x = .int .i64 j ∧ j ≤ n ∧ (∀ t, t < j → opErrR F t = 0) ∧ Below w.heap.size w wr) (fun x _ => n - (intOf x).toNat)
    case atStart => exact ⟨0, rfl, by omega, fun t ht => absurd ht (by omega), Below.refl _ _⟩
    case round =>
      obtain ⟨wo, rfl⟩ : ∃ wo : World, wo = wr := ⟨_, rfl⟩
      obtain ⟨j, rfl, hj, hall, hbw⟩ := hrel
      have HALL := Lib.hid hall
      clear hall
      have HB := Lib.hid hbw
      clear hbw
      by_cases hlt : j < n
      · have HRET : Hid (∀ e, opErrR F j = e → e ≠ 0 → opsErrR F n = e) := Lib.hid (fun e h1 h2 => by rw [HS.out, firstErr_found HALL.out (by rw [h1]; exact h2) hlt, h1])
        have HAW : Hid (∀ wx o, Boxed wo wx o → OpsAt wx A n F) := Lib.hid (fun wx o h => (HA.out.below HB.out).below h.1)
        have HBW : Hid (∀ wx o, Boxed wo wx o → Below w.heap.size w wx) := Lib.hid (fun wx o h => HB.out.trans (h.1.mono HB.out.size))
        obtain ⟨b, off, hAe, hb, hc⟩ := (HA.out.below HB.out) j hlt
        obtain ⟨g0, g1, g2, g3, g4, g5, g6, g7⟩ := hc
        obtain ⟨o, ho⟩ : ∃ o, F j = o := ⟨_, rfl⟩
        rw [ho] at g0 g1 g2 g3 g4 g5 g6 g7
        have HF := Lib.hid ho
        clear ho
        subst hAe
        have HX0 : Hid (Boxed wo (wo.alloc (opCells o)) o) := Lib.hid ⟨(Below.refl _ wo).alloc (Nat.le_refl _) _, boxAt_new rfl o 95, by simp⟩
        have HX1 : Hid (Boxed wo ((wo.alloc (opCells o)).alloc (.cells #[.int .i64 o.a, .int .i64 o.b, .int .i64 o.result, .int .i64 o.call, .int .i64 o.ret] 3)) o) :=
          Lib.hid (HX0.out.on ((Below.refl _ _).alloc (Nat.le_refl _) _))
        go_upto_region 6 with fail
        go_cut [51] (fun s wx => s = .bool (!told5 o) ∧ Boxed wo wx o)
        case first =>
          have HT := Lib.hid (fun w A h => small_any A 5 5 (opNums o) w (by omega) h)
          rcases range_tree o with ⟨d1, dc⟩ | ⟨d1, d2, dc⟩ | ⟨d1, d2, d3, dc⟩ | ⟨d1, d2, d3, d4, dc⟩ | ⟨d1, d2, d3, d4, dc⟩
          all_goals
            have HD := Lib.hid dc
            clear dc
            go_wp2_with (go_at_call 90; refine (HT.out _ _ (nums5 _ _ _ (by simp))).mono ?_; rintro e w' ⟨rfl, rfl⟩)
            go_meet
            case rel => exact ⟨by rw [HD.out]; first | rfl | (go_light; simp [small5]; omega), by first | exact HX0.out | exact HX1.out⟩
        case rest =>
          obtain ⟨rfl, hbx⟩ := hcut
          have HC := Lib.hid hbx
          clear HX0 HX1
          obtain ⟨_, ⟨x0, x1, x2, x3, x4, x5, x6, x7⟩, hsz⟩ := hbx
          cases ht1 : told5 o
          · have HE : Hid (opErrR F j = 2) := Lib.hid (by have : toldB o.proc o.key (opNums o) 5 = false := ht1; simp [opErrR, HF.out, this])
            clear ht1
            go_wp2
            go_ret
            exact ⟨by rw [HRET.out 2 HE.out (by omega)]; rfl, HBW.out _ _ HC.out⟩
          have H1 := Lib.hid ht1
          clear ht1
          rcases kind_tree o.kind with ⟨d1, dc⟩ | ⟨d1, d2, dc⟩ | ⟨d1, d2, dc⟩
          · have HE : Hid (opErrR F j = 1) := Lib.hid (by have : toldB o.proc o.key (opNums o) 5 = true := H1.out; simp [opErrR, HF.out, this, dc])
            clear dc
            go_wp2
            go_ret
            exact ⟨by rw [HRET.out 1 HE.out (by omega)]; rfl, HBW.out _ _ HC.out⟩
          · have HE : Hid (opErrR F j = 1) := Lib.hid (by have : toldB o.proc o.key (opNums o) 5 = true := H1.out; simp [opErrR, HF.out, this, dc])
            clear dc
            go_wp2
            go_ret
            exact ⟨by rw [HRET.out 1 HE.out (by omega)]; rfl, HBW.out _ _ HC.out⟩
          have HS1 : Hid (opErrR F j = if orderB F j = true then 10 else if anyB (fun k => clashR o (F k)) j = true then 9 else if anyB (fun k => stateB o (F k)) j = true then 6 else 0) :=
            Lib.hid (by have : toldB o.proc o.key (opNums o) 5 = true := H1.out; simp [opErrR, HF.out, this, dc])
          clear dc
          go_upto_region 10 with fail
          go_cut [99] (fun s wx => s = .bool (orderB F j) ∧ Boxed wo wx o)
          case first =>
            rcases Nat.eq_zero_or_pos j with h0 | hpos
            · have hz : (decide (0 < j)) = false := by simp [h0]
              have ht := order_treeR0 F j h0
              rw [HF.out] at ht
              rcases ht with ⟨d1, hcl⟩ | ⟨d1, d3, d4, hcl⟩ | ⟨d1, d3, d4, d5, hcl⟩ | ⟨d1, d3, d4, d5, hcl⟩
              all_goals
                have HCL := Lib.hid hcl
                clear hcl h0
                go_quiet (fail)
                go_wp2
                go_meet
                case rel => exact ⟨congrArg Value.bool HCL.out.symm, HC.out.drewN _⟩
            · have hprev : (0 : Int) ≤ (j : Int) - 1 := by omega
              have ht := order_treeR F j hpos
              rw [HF.out] at ht
              obtain ⟨b2, off2, hAe, hb2, hc2⟩ := HAW.out _ _ HC.out (j - 1) (by omega)
              injection hAe with hAe
              injection hAe with hAe1 hAe2
              subst hAe1 hAe2
              obtain ⟨_, _, _, _, _, _, hc6, _⟩ := hc2
              generalize (F (j - 1)).call = pc at *
              rcases ht with ⟨d1, hcl⟩ | ⟨d1, d2, hcl⟩ | ⟨d1, d2, d3, d4, hcl⟩ | ⟨d1, d2, d3, d4, d5, hcl⟩ | ⟨d1, d2, d3, d4, d5, hcl⟩
              all_goals
                have HCL := Lib.hid hcl
                clear hcl
                go_quiet (fail)
                go_wp2
                go_meet
                case rel => exact ⟨congrArg Value.bool HCL.out.symm, HC.out.drewN _⟩
          case rest =>
            obtain ⟨rfl, hbx⟩ := hcut
            clear HC x0 x1 x2 x3 x4 x5 x6 x7 hsz
            have HC := Lib.hid hbx
            clear hbx
            cases hord : orderB F j
            · have HS2 : Hid (opErrR F j = if anyB (fun k => clashR o (F k)) j = true then 9 else if anyB (fun k => stateB o (F k)) j = true then 6 else 0) := Lib.hid (by rw [HS1.out, if_neg (by rw [hord]; simp)])
              clear hord HS1
              have hjc : j ≤ c := by omega
              go_upto_block 2 with fail
              go_cut [] (fun wx => (∀ t, t < j → clashR o (F t) = false) ∧ Boxed wo wx o)
              case first =>
                go_wp2_with fail
                go_loopw [104] (fun x wx => ∃ k : Nat, x = .int .i64 k ∧ k ≤ j ∧ (∀ t, t < k → clashR o (F t) = false) ∧ Boxed wo wx o) (fun x _ => j - (intOf x).toNat)
                case atStart => exact ⟨0, rfl, by omega, fun t ht => absurd ht (by omega), HC.out⟩
                case round =>
                  obtain ⟨k, rfl, hk, hall, hbw⟩ := hrel
                  have HALL2 := Lib.hid hall
                  clear hall
                  have HB2 := Lib.hid hbw
                  obtain ⟨_, ⟨x0, x1, x2, x3, x4, x5, x6, x7⟩, hsz⟩ := hbw
                  by_cases hkt : k < j
                  · obtain ⟨b2, off2, hAe, hb2, hc2⟩ := HAW.out _ _ HB2.out k (by omega)
                    injection hAe with hAe
                    injection hAe with hAe1 hAe2
                    subst hAe1 hAe2
                    obtain ⟨q0, q1, q2, q3, q4, q5, q6, q7⟩ := hc2
                    obtain ⟨q, hq⟩ : ∃ q, F k = q := ⟨_, rfl⟩
                    rw [hq] at q0 q1 q2 q3 q4 q5 q6 q7
                    have HQ := Lib.hid hq
                    clear hq
                    have HW := fun wy => Lib.hid (HB2.out.on (wy := wy))
                    rcases clashR_tree o q with ⟨d1, dc⟩ | ⟨d1, d2, dc⟩ | ⟨d1, d2, d3, dc⟩ | ⟨d1, d2, d3, d4, dc⟩ | ⟨d1, d2, d3, d4, d5, dc⟩ | ⟨d1, d2, d3, d4, d5, dc⟩
                    all_goals
                      have HD := Lib.hid dc
                      clear dc
                      go_wp2
                      first
                        | (have HE : Hid (opErrR F j = 9) := Lib.hid (by rw [HS2.out, if_pos (anyB_true (p := fun k => clashR o (F k)) hkt (by rw [HQ.out]; exact HD.out))])
                           go_ret
                           exact ⟨by rw [HRET.out 9 HE.out (by omega)]; rfl, HBW.out _ _ ((HW _).out ((Below.refl _ _).alloc (Nat.le_refl _) _))⟩)
                        | (go_roundw
                           case rel => exact ⟨k + 1, by go_num, by omega, upto_succ HALL2.out (by rw [HQ.out]; exact HD.out), (HW _).out ((Below.refl _ _).alloc (Nat.le_refl _) _)⟩
                           case measure => go_light; simp [intOf]; omega)
                  · obtain rfl : k = j := by omega
                    go_wp2
                    go_meet
                    case rel => exact ⟨HALL2.out, HB2.out⟩
              case rest =>
                obtain ⟨hall, hbx⟩ := hcut
                have HS3 : Hid (opErrR F j = if anyB (fun k => stateB o (F k)) j = true then 6 else 0) := Lib.hid (by rw [HS2.out, if_neg (by rw [anyB_false hall]; simp)])
                clear HS2 HC hall
                have HC := Lib.hid hbx
                clear hbx
                go_wp2_with fail
                go_loopw [144] (fun x wx => ∃ k : Nat, x = .int .i64 k ∧ k ≤ j ∧ (∀ t, t < k → stateB o (F t) = false) ∧ Boxed wo wx o) (fun x _ => j - (intOf x).toNat)
                case atStart => exact ⟨0, rfl, by omega, fun t ht => absurd ht (by omega), HC.out⟩
                case round =>
                  obtain ⟨k, rfl, hk, hall, hbw⟩ := hrel
                  have HALL2 := Lib.hid hall
                  clear hall
                  have HB2 := Lib.hid hbw
                  obtain ⟨_, ⟨x0, x1, x2, x3, x4, x5, x6, x7⟩, hsz⟩ := hbw
                  by_cases hkt : k < j
                  · obtain ⟨b2, off2, hAe, hb2, hc2⟩ := HAW.out _ _ HB2.out k (by omega)
                    injection hAe with hAe
                    injection hAe with hAe1 hAe2
                    subst hAe1 hAe2
                    obtain ⟨q0, q1, q2, q3, q4, q5, q6, q7⟩ := hc2
                    obtain ⟨q, hq⟩ : ∃ q, F k = q := ⟨_, rfl⟩
                    rw [hq] at q0 q1 q2 q3 q4 q5 q6 q7
                    have HQ := Lib.hid hq
                    clear hq
                    have HW : Hid (Boxed wo (wr.alloc (opCells q)) o) := Lib.hid (HB2.out.on ((Below.refl _ _).alloc (Nat.le_refl _) _))
                    have HBF := Lib.hid (fun W => rBefore_any q o W)
                    cases d1 : (q.proc == o.proc)
                    · have HD : Hid (stateB o q = false) := Lib.hid (by simp at d1; simp [stateB, d1])
                      go_wp2
                      go_roundw
                      case rel => exact ⟨k + 1, by go_num, by omega, upto_succ HALL2.out (by rw [HQ.out]; exact HD.out), HW.out⟩
                      case measure => go_light; simp [intOf]; omega
                    · cases d2 : beforeB q o
                      all_goals
                        have HD : Hid (stateB o q = !beforeB q o) := Lib.hid (by simp at d1; simp [stateB, d1])
                        rw [d2] at HD HBF
                        clear d2
                        go_wp2_with (go_at_call 91; refine (HBF.out _).mono ?_; rintro e w' ⟨rfl, hb'⟩)
                        have HW2 := Lib.hid (HW.out.on hb')
                        first
                          | (have HE : Hid (opErrR F j = 6) := Lib.hid (by rw [HS3.out, if_pos (anyB_true (p := fun k => stateB o (F k)) hkt (by rw [HQ.out]; exact HD.out))])
                             go_ret
                             exact ⟨by rw [HRET.out 6 HE.out (by omega)]; rfl, HBW.out _ _ HW2.out⟩)
                          | (go_roundw
                             case rel => exact ⟨k + 1, by go_num, by omega, upto_succ HALL2.out (by rw [HQ.out]; exact HD.out), HW2.out⟩
                             case measure => go_light; simp [intOf]; omega)
                  · obtain rfl : k = j := by omega
                    go_wp2
                    go_roundw
                    case rel => exact ⟨k + 1, by go_num, by omega, upto_succ HALL.out (by rw [HS3.out, if_neg (by rw [anyB_false HALL2.out]; simp)]), HBW.out _ _ HB2.out⟩
                    case measure => go_light; simp [intOf]; omega
            · have HE : Hid (opErrR F j = 10) := Lib.hid (by rw [HS1.out, if_pos hord])
              clear hord
              go_wp2
              go_ret
              exact ⟨by rw [HRET.out 10 HE.out (by omega)]; rfl, HBW.out _ _ HC.out⟩
      · obtain rfl : j = n := by omega
        go_wp2
        go_ret
        exact ⟨by rw [HS.out, firstErr_none HALL.out]; rfl, HB.out⟩
end Go.Proofs.YtkncomfbedbikaaDoor
