/- causal.ahead: what comes ahead of what, by going over all between. -/
import Derived.Test.YtkncomfbedbikaaDoorCausB
import Derived.Test.YtkncomfbedbikaaDoorMat
import Derived.Test.YtkncomfbedbikaaDoorTail
import Derived.Test.YtkncomfbedbikaaDoorReach
namespace Go.Proofs.YtkncomfbedbikaaDoor
open Go.RowKit
theorem BoxAt.setOther {w : World} {b : Nat} {o : GOp} (h : BoxAt w b o) {p : Addr} (hne : p.block ≠ b) (v : Value) : BoxAt (w.setCell p v) b o := by
  obtain ⟨h0, h1, h2, h3, h4, h5, h6, h7⟩ := h
  have e : ∀ k, (w.setCell p v).cell? ⟨b, k, none⟩ = w.cell? ⟨b, k, none⟩ := fun k => World.cell?_setCell_other w p ⟨b, k, none⟩ v (fun e => hne (by rw [e]))
  exact ⟨(e _).trans h0, (e _).trans h1, (e _).trans h2, (e _).trans h3, (e _).trans h4, (e _).trans h5, (e _).trans h6, (e _).trans h7⟩
/-- What comes right ahead of what. -/
def leadB (F : Nat → GOp) (R : Nat → Int) (i k : Nat) : Bool := (decide ((F i).proc = (F k).proc) && decide ((F i).call < (F k).call)) || decide (R k = (i : Int))
theorem lead_tree (F : Nat → GOp) (R : Nat → Int) (i k : Nat) :
    (((F i).proc == (F k).proc) = true ∧ decide ((F i).call < (F k).call) = true ∧ leadB F R i k = true) ∨ (((F i).proc == (F k).proc) = true ∧ decide ((F i).call < (F k).call) = false ∧ leadB F R i k = (R k == (i : Int))) ∨
    (((F i).proc == (F k).proc) = false ∧ leadB F R i k = (R k == (i : Int))) := by
  unfold leadB
  by_cases h1 : (F i).proc = (F k).proc
  · by_cases h2 : (F i).call < (F k).call
    · exact .inl ⟨by simpa using h1, by simpa using h2, by simp [h1, h2]⟩
    · exact .inr (.inl ⟨by simpa using h1, by simpa using h2, by simp [h2]; rfl⟩)
  · exact .inr (.inr ⟨by simpa using h1, by simp [h1]; rfl⟩)
theorem warsh_col (E : Nat → Nat → Bool) (m i : Nat) : warsh E (m + 1) i m = warsh E m i m := by
  simp only [warsh]
  cases warsh E m i m <;> simp
theorem warsh_row (E : Nat → Nat → Bool) (m k : Nat) : warsh E (m + 1) m k = warsh E m m k := by
  simp only [warsh]
  cases warsh E m m k <;> simp
theorem fill_step {f : Nat → Nat → Bool} {j k : Nat} {x : Bool} (hx : f j k = x) (a b : Nat) :
    (if a = j ∧ b = k then x else if a = j ∧ k ≤ b then false else f a b) = if a = j ∧ k + 1 ≤ b then false else f a b := by
  subst hx
  by_cases ea : a = j
  · subst ea
    by_cases eb : b = k
    · subst eb; simp
    · by_cases e2 : k ≤ b
      · simp [eb, e2, show k + 1 ≤ b by omega]
      · simp [eb, e2, show ¬ k + 1 ≤ b by omega]
  · simp [ea]
theorem warsh_step (E : Nat → Nat → Bool) (m i k : Nat) {x : Bool} (hx : warsh E (m + 1) i k = x) (a b : Nat) :
    (if a = i ∧ b = k then x else if a < i ∨ (a = i ∧ b < k) then warsh E (m + 1) a b else warsh E m a b) = if a < i ∨ (a = i ∧ b < k + 1) then warsh E (m + 1) a b else warsh E m a b := by
  subst hx
  by_cases ea : a = i
  · subst ea
    by_cases eb : b = k
    · subst eb; simp
    · by_cases e2 : b < k
      · simp [eb, e2, show b < k + 1 by omega]
      · simp [eb, e2, show ¬ b < k + 1 by omega]
  · simp [ea]
set_option maxRecDepth 100000 in
set_option maxHeartbeats 40000000 in
theorem ahead_any (A : Option Addr) (n c : Nat) (F : Nat → GOp) (A2 : Option Addr) (c2 : Nat) (R : Nat → Int) (w : World) (hn : n ≤ 60) (hA : OpsAt w A n F) (hR : IntsAt w A2 n R) :
    Calls Tryd.prog 45 #[.slice A n c, .slice A2 n c2] w fun e w' => ∃ B c', e = .returned (.slice B n c') ∧ n ≤ c' ∧ BoolssAt w' B n (warsh (leadB F R) n) ∧ Below w.heap.size w w' := by
  have HA := Lib.hid hA
  have HR := Lib.hid hR
  clear hA hR
  have hmk1 := make_bools n (by omega)
  have hmk2 := make_boolss n (by omega)
  have HM0 := Lib.hid (mat_new w n (fun _ => 0) (leadB F R))
  have HB0 : Hid (Below w.heap.size w (w.alloc (.cells (madeCells #[.slice none 0 0] n) 87))) := Lib.hid ((Below.refl _ _).alloc (Nat.le_refl _) _)
  go_enter Tryd.func45, Tryd.ntmps45
  go_upto_block 0 with fail
  go_cut [] (fun wx => (∃ G, MatAt wx w.heap.size w.heap.size n n G (leadB F R)) ∧ Below w.heap.size w wx)
  case first =>
    go_wp2_with fail
    go_loopw [18] (fun x wr => ∃ j : Nat, x = .int .i64 j ∧ j ≤ n ∧ Below w.heap.size w wr ∧ ∃ G, MatAt wr w.heap.size w.heap.size n j G (leadB F R)) (fun x _ => n - (intOf x).toNat)
    case atStart => exact ⟨0, rfl, by omega, HB0.out, _, HM0.out⟩
    case round =>
      obtain ⟨wo, rfl⟩ : ∃ wo : World, wo = wr := ⟨_, rfl⟩
      obtain ⟨j, rfl, hj, hbw, G, hmat⟩ := hrel
      have HB := Lib.hid hbw
      have HM := Lib.hid hmat
      clear hbw hmat
      by_cases hlt : j < n
      · obtain ⟨b, off, hAe, hb, hc⟩ := (HA.out.below HB.out) j hlt
        subst hAe
        obtain ⟨g0, g1, g2, g3, g4, g5, g6, g7⟩ := hc
        obtain ⟨o, ho⟩ : ∃ o, F j = o := ⟨_, rfl⟩
        rw [ho] at g0 g1 g2 g3 g4 g5 g6 g7
        have HF := Lib.hid ho
        clear ho
        have hgO : w.heap.size < wo.heap.size := HM.out.out.lt
        have HM1 := Lib.hid (HM.out.alloc (opCells o))
        have hcO : ((wo.alloc (opCells o)).alloc (.cells (madeCells #[.bool false] n) 4)).cell? ⟨w.heap.size, j, none⟩ = some (.slice none 0 0) := by
          have := (HM1.out.out.alloc (.cells (madeCells #[.bool false] n) 4)).cell hlt
          simpa using this
        have hfO : ((wo.alloc (opCells o)).alloc (.cells (madeCells #[.bool false] n) 4)).frozen? ⟨w.heap.size, j, none⟩ = false := (HM1.out.out.alloc (.cells (madeCells #[.bool false] n) 4)).frozen j
        go_upto_block 2 with fail
        obtain ⟨G', hG', hMW⟩ : ∃ G' : Nat → Nat, G' j = wo.heap.size + 1 ∧ MatAt (((wo.setCell ⟨w.heap.size, j, none⟩ (.slice (some ⟨wo.heap.size + 1, 0, none⟩) n n)).alloc (opCells o)).alloc (.cells (madeCells #[.bool false] n) 4)) w.heap.size w.heap.size n (j + 1) G' (fun a b => if a < j then leadB F R a b else false) := by
          have h := HM1.out.more hlt (by simp; have := HB.out.size; omega)
          rw [World.setCell_alloc_past _ _ _ _ (by simp; omega), World.setCell_alloc_past _ _ _ _ hgO, show (wo.alloc (opCells o)).heap.size = wo.heap.size + 1 by simp] at h
          exact ⟨_, by simp, h⟩
        have HMW := Lib.hid hMW
        have HBW : Hid (Below w.heap.size w (((wo.setCell ⟨w.heap.size, j, none⟩ (.slice (some ⟨wo.heap.size + 1, 0, none⟩) n n)).alloc (opCells o)).alloc (.cells (madeCells #[.bool false] n) 4))) :=
          Lib.hid (((HB.out.setCell (Nat.le_refl _) _).alloc (by simp [World.setCell]; exact HB.out.size) _).alloc (by simp [World.setCell]; have := HB.out.size; omega) _)
        have HXW : Hid (BoxAt (((wo.setCell ⟨w.heap.size, j, none⟩ (.slice (some ⟨wo.heap.size + 1, 0, none⟩) n n)).alloc (opCells o)).alloc (.cells (madeCells #[.bool false] n) 4)) wo.heap.size o) :=
          Lib.hid ((boxAt_new (by simp [World.setCell]) o 95).below ((Below.refl _ _).alloc (Nat.le_refl _) _) (by simp [World.setCell]))
        have HGJ := Lib.hid hG'
        clear hMW hG' hcO hfO
        go_wp2_with fail
        go_loopw [31] (fun x wr => ∃ k : Nat, x = .int .i64 k ∧ k ≤ n ∧ Below w.heap.size w wr ∧ BoxAt wr wo.heap.size o ∧ wo.heap.size < wr.heap.size ∧ MatAt wr w.heap.size w.heap.size n (j + 1) G' (fun a b => if a = j ∧ k ≤ b then false else leadB F R a b)) (fun x _ => n - (intOf x).toNat)
        case atStart => exact ⟨0, rfl, by omega, HBW.out, HXW.out, by simp [World.setCell]; omega, HMW.out.congr fun a b ha _ => by
          by_cases e : a < j
          · simp [e, show ¬ a = j by omega]
          · simp [show a = j by omega]⟩
        case round =>
          obtain ⟨k, rfl, hk, hbw, hbx, hbl, hmat⟩ := hrel
          have HB2 := Lib.hid hbw
          have HM2 := Lib.hid hmat
          have HX2 := Lib.hid hbx
          clear hbw hmat hbx
          by_cases hkn : k < n
          · obtain ⟨b2, off2, hAe, hb2, hc2⟩ := (HA.out.below HB2.out) k hkn
            injection hAe with hAe
            injection hAe with hAe1 hAe2
            subst hAe1 hAe2
            obtain ⟨q0, q1, q2, q3, q4, q5, q6, q7⟩ := hc2
            obtain ⟨q, hq⟩ : ∃ q, F k = q := ⟨_, rfl⟩
            rw [hq] at q0 q1 q2 q3 q4 q5 q6 q7
            obtain ⟨rb, ro, hRe, hrb, hrc⟩ := HR.out k hkn
            subst hRe
            have HQ := Lib.hid hq
            clear hq
            have HW : Hid (Below w.heap.size w (wr.alloc (opCells q))) := Lib.hid (HB2.out.alloc HB2.out.size _)
            have HQB := boxAt_new (w := wr) rfl q 95
            have HOB := HX2.out.below ((Below.refl wr.heap.size wr).alloc (Nat.le_refl _) (opCells q)) hbl
            have HMB := Lib.hid (HM2.out.alloc (opCells q))
            have HOBH := Lib.hid HOB
            have hbl2 : wo.heap.size < (wr.alloc (opCells q)).heap.size := by simp; omega
            have hco := HMB.out.cellO (i := j) (by omega) hlt
            have hcc := HMB.out.cell (i := j) (k := k) (by omega) hkn
            have hcf := (HMB.out.row j (by omega)).frozen k
            have hcr := (HW.out.cell (p := ⟨rb, ro + k, none⟩) hrb).trans hrc
            clear hrc
            go_wp2_with fail
            generalize wr.alloc (.cells #[.int .i64 q.proc, .int .i64 q.key, .int .i64 q.kind, .int .i64 q.a, .int .i64 q.b, .int .i64 q.result, .int .i64 q.call, .int .i64 q.ret] 95) = W at *
            obtain ⟨k0, k1, k2, k3, k4, k5, k6, k7⟩ := HQB
            obtain ⟨l0, l1, l2, l3, l4, l5, l6, l7⟩ := HOB
            have ht := lead_tree F R j k
            rw [HF.out, HQ.out] at ht
            rcases ht with ⟨d1, d2, hd⟩ | ⟨d1, d2, hd⟩ | ⟨d1, hd⟩
            all_goals
              have HD := Lib.hid hd
              clear hd
              refine wp_region_still_tail 26 (by kernel_rfl) (by kernel_rfl) ?_
              simp only [List.take_succ_cons, List.take_zero, List.drop_succ_cons, List.drop_zero]
              change wpStill _ _ W.drew _ _ _
              refine wpStill_of_quiet ?_
              repeat (go_big_quiet_step (fail))
              refine wpQuiet_nil ?_
              change wpList _ _ _ _ _ W.drew
              go_wp2
              go_roundw
              case rel =>
                refine ⟨k + 1, by go_num, by omega, HW.out.drew.setCell (HM2.out.ge.2 j (by omega)) _, HOBH.out.setOther (by rw [HGJ.out]; simp) _, by simp [World.setCell]; exact hbl2, ((HMB.out.set (i := j) (by omega) k _).congr fun a b _ _ => fill_step HD.out a b).drew⟩
              case measure => go_light; simp [intOf]; omega
          · obtain rfl : k = n := by omega
            go_wp2
            go_roundw
            case rel => exact ⟨j + 1, by go_num, by omega, HB2.out, G', HM2.out.congr fun a b _ hb => by simp; omega⟩
            case measure => go_light; simp [intOf]; omega
      · obtain rfl : j = n := by omega
        go_wp2
        go_meet
        case rel => exact ⟨⟨G, HM.out⟩, HB.out⟩
  case rest =>
    obtain ⟨⟨G, hmat⟩, hbw⟩ := hcut
    have HMat := Lib.hid hmat
    have HBel := Lib.hid hbw
    clear hmat hbw HM0 HB0
    go_wp2_with fail
    go_loopw [66] (fun x wr => ∃ m : Nat, x = .int .i64 m ∧ m ≤ n ∧ Below w.heap.size w wr ∧ MatAt wr w.heap.size w.heap.size n n G (warsh (leadB F R) m)) (fun x _ => n - (intOf x).toNat)
    case atStart => exact ⟨0, rfl, by omega, HBel.out, HMat.out⟩
    case round =>
      obtain ⟨w1, rfl⟩ : ∃ w1 : World, w1 = wr := ⟨_, rfl⟩
      obtain ⟨m, rfl, hm, hbw, hmat⟩ := hrel
      have HB := Lib.hid hbw
      have HM := Lib.hid hmat
      clear hbw hmat
      by_cases hmn : m < n
      · go_wp2_with fail
        go_loopw [71] (fun x wr => ∃ i : Nat, x = .int .i64 i ∧ i ≤ n ∧ Below w.heap.size w wr ∧ MatAt wr w.heap.size w.heap.size n n G (fun a b => if a < i then warsh (leadB F R) (m + 1) a b else warsh (leadB F R) m a b)) (fun x _ => n - (intOf x).toNat)
        case atStart => exact ⟨0, rfl, by omega, HB.out, HM.out.congr fun a b _ _ => by simp⟩
        case round =>
          obtain ⟨w2, rfl⟩ : ∃ w2 : World, w2 = wr := ⟨_, rfl⟩
          obtain ⟨i, rfl, hi, hbw, hmat⟩ := hrel
          have HB2 := Lib.hid hbw
          have HM2 := Lib.hid hmat
          clear hbw hmat
          by_cases hin : i < n
          · go_wp2_with fail
            go_loopw [76] (fun x wr => ∃ k : Nat, x = .int .i64 k ∧ k ≤ n ∧ Below w.heap.size w wr ∧ MatAt wr w.heap.size w.heap.size n n G (fun a b => if a < i ∨ (a = i ∧ b < k) then warsh (leadB F R) (m + 1) a b else warsh (leadB F R) m a b)) (fun x _ => n - (intOf x).toNat)
            case atStart => exact ⟨0, rfl, by omega, HB2.out, HM2.out.congr fun a b _ _ => by simp⟩
            case round =>
              obtain ⟨k, rfl, hk, hbw, hmat⟩ := hrel
              have HB3 := Lib.hid hbw
              have HM3 := Lib.hid hmat
              clear hbw hmat
              by_cases hkn : k < n
              · have c1 := HM3.out.cellO hin hin
                have c2 := HM3.out.cellO hmn hmn
                have c3 := HM3.out.cell hin hkn
                have c4 := HM3.out.cell hin hmn
                have c5 := HM3.out.cell hmn hkn
                have c6 := (HM3.out.row i hin).frozen k
                rw [show (if i < i ∨ (i = i ∧ k < k) then warsh (leadB F R) (m + 1) i k else warsh (leadB F R) m i k) = warsh (leadB F R) m i k by simp] at c3
                rw [show (if i < i ∨ (i = i ∧ m < k) then warsh (leadB F R) (m + 1) i m else warsh (leadB F R) m i m) = warsh (leadB F R) m i m by rw [warsh_col]; simp] at c4
                rw [show (if m < i ∨ (m = i ∧ k < k) then warsh (leadB F R) (m + 1) m k else warsh (leadB F R) m m k) = warsh (leadB F R) m m k by rw [warsh_row]; simp] at c5
                have HWS : Hid (warsh (leadB F R) (m + 1) i k = (warsh (leadB F R) m i k || (warsh (leadB F R) m i m && warsh (leadB F R) m m k))) := Lib.hid rfl
                generalize warsh (leadB F R) m i k = X at c3 HWS
                generalize warsh (leadB F R) m i m = Y at c4 HWS
                generalize warsh (leadB F R) m m k = Z at c5 HWS
                go_wp2_with fail
                cases X
                · cases Y
                  · skip
                    refine wp_region_still_tail 31 (by kernel_rfl) (by kernel_rfl) ?_
                    simp only [List.take_succ_cons, List.take_zero, List.drop_succ_cons, List.drop_zero]
                    change wpStill _ _ wr.drew _ _ _
                    refine wpStill_of_quiet ?_
                    repeat (go_big_quiet_step (fail))
                    refine wpQuiet_nil ?_
                    change wpList _ _ _ _ _ wr.drew
                    go_wp2
                    go_roundw
                    case rel => exact ⟨k + 1, by go_num, by omega, (HB3.out.setCell (HM3.out.ge.2 i hin) _).drew, ((HM3.out.set hin k _).congr fun a b _ _ => warsh_step _ m i k HWS.out a b).drew⟩
                    case measure => go_light; simp [intOf]; omega
                  · skip
                    refine wp_region_still_tail 31 (by kernel_rfl) (by kernel_rfl) ?_
                    simp only [List.take_succ_cons, List.take_zero, List.drop_succ_cons, List.drop_zero]
                    change wpStill _ _ wr.drew _ _ _
                    refine wpStill_of_quiet ?_
                    repeat (go_big_quiet_step (fail))
                    refine wpQuiet_nil ?_
                    change wpList _ _ _ _ _ wr.drew
                    go_wp2
                    go_roundw
                    case rel => exact ⟨k + 1, by go_num, by omega, (HB3.out.setCell (HM3.out.ge.2 i hin) _).drew, ((HM3.out.set hin k _).congr fun a b _ _ => warsh_step _ m i k HWS.out a b).drew⟩
                    case measure => go_light; simp [intOf]; omega
                · skip
                  refine wp_region_still_tail 31 (by kernel_rfl) (by kernel_rfl) ?_
                  simp only [List.take_succ_cons, List.take_zero, List.drop_succ_cons, List.drop_zero]
                  change wpStill _ _ wr.drew _ _ _
                  refine wpStill_of_quiet ?_
                  repeat (go_big_quiet_step (fail))
                  refine wpQuiet_nil ?_
                  change wpList _ _ _ _ _ wr.drew
                  go_wp2
                  go_roundw
                  case rel => exact ⟨k + 1, by go_num, by omega, (HB3.out.setCell (HM3.out.ge.2 i hin) _).drew, ((HM3.out.set hin k _).congr fun a b _ _ => warsh_step _ m i k HWS.out a b).drew⟩
                  case measure => go_light; simp [intOf]; omega
              · obtain rfl : k = n := by omega
                go_wp2
                go_roundw
                case rel => exact ⟨i + 1, by go_num, by omega, HB3.out, HM3.out.congr fun a b _ hb => by
                  by_cases e : a < i + 1
                  · rw [if_pos e, if_pos (by omega)]
                  · rw [if_neg e, if_neg (by omega)]⟩
                case measure => go_light; simp [intOf]; omega
          · obtain rfl : i = n := by omega
            go_wp2
            go_roundw
            case rel => exact ⟨m + 1, by go_num, by omega, HB2.out, HM2.out.congr fun a b ha _ => by simp [ha]⟩
            case measure => go_light; simp [intOf]; omega
      · obtain rfl : m = n := by omega
        go_wp2
        go_ret
        exact ⟨_, _, rfl, Nat.le_refl _, HM.out.reads, HB.out⟩
end Go.Proofs.YtkncomfbedbikaaDoor
