/- testimonyref.either, isolate.together: the edges of several graphs. -/
import Derived.Test.YtkncomfbedbikaaDoorIsoE
import Derived.Test.YtkncomfbedbikaaDoorTail
namespace Go.Proofs.YtkncomfbedbikaaDoor
open Go.RowKit
/-- Some of the first k matrices has it. -/
def orB (Ms : Nat → Nat → Nat → Bool) (k a b : Nat) : Bool := anyB (fun t => Ms t a b) k
theorem orB_succ (Ms : Nat → Nat → Nat → Bool) (k a b : Nat) : orB Ms (k + 1) a b = (orB Ms k a b || Ms k a b) := by
  unfold orB anyB
  rw [List.range_succ]
  simp
/-- The slice at block g reads as k matrices of n rows. -/
def GsAt (w : World) (g k n : Nat) (Ms : Nat → Nat → Nat → Bool) : Prop := g < w.heap.size ∧ ∀ t, t < k → ∃ A ct, w.cell? ⟨g, t, none⟩ = some (.slice A n ct) ∧ n ≤ ct ∧ BoolssAt w A n (Ms t)
theorem GsAt.below {w w' : World} {g k n : Nat} {Ms : Nat → Nat → Nat → Bool} (h : GsAt w g k n Ms) (hb : Below w.heap.size w w') : GsAt w' g k n Ms :=
  ⟨Nat.lt_of_lt_of_le h.1 hb.size, fun t ht => by
    obtain ⟨A, ct, h1, h2, h3⟩ := h.2 t ht
    exact ⟨A, ct, (hb.cell (p := ⟨g, t, none⟩) h.1).trans h1, h2, h3.below hb⟩⟩
def OrPost (n : Nat) (M : Nat → Nat → Bool) (w : World) (e : Ending) (w' : World) : Prop :=
  ∃ gO cap G, e = .returned (.slice (some ⟨gO, 0, none⟩) n cap) ∧ n ≤ cap ∧ MatB w' w.heap.size w'.heap.size gO n G M ∧ Below w.heap.size w w'
theorem cellM (i j : Nat) (x : Bool) (M N : Nat → Nat → Bool) (h : ∀ a b, (if a = i ∧ b = j then x else M a b) = N a b) : (fun a b => if a = i ∧ b = j then x else M a b) = N := funext fun a => funext fun b => h a b
set_option maxRecDepth 100000 in
set_option maxHeartbeats 8000000 in
theorem either_any (g k c n : Nat) (Ms : Nat → Nat → Nat → Bool) (w : World) (hk0 : 0 < k) (hk : k ≤ 10) (h0 : 0 < n) (hn : n ≤ 1000) (hG : GsAt w g k n Ms) :
    Calls Tryd.prog 80 #[.slice (some ⟨g, 0, none⟩) k c] w (OrPost n (orB Ms k) w) := by
  have HG := Lib.hid hG
  have HBL := Lib.hid (blank_any n w h0 hn)
  obtain ⟨A0, ct0, c0, _, _⟩ := hG.2 0 hk0
  clear hG
  go_enter Tryd.func80, Tryd.ntmps80
  go_wp2_with fail
  refine HBL.out.mono ?_
  rintro e w1 ⟨gO, cap, G, rfl, hcap, hmat, hb1⟩
  have HM := Lib.hid hmat
  have HB := Lib.hid hb1
  have HSZ : Hid (w.heap.size ≤ w1.heap.size) := Lib.hid hb1.size
  obtain ⟨hi, hhi⟩ : ∃ hi, hi = w1.heap.size := ⟨_, rfl⟩
  rw [← hhi] at HM
  clear hmat hb1 c0 hhi
  go_wp2_with fail
  go_loopw [15] (fun x wr => ∃ i : Nat, x = .int .i64 i ∧ i ≤ n ∧ Below w.heap.size w wr ∧ MatB wr w.heap.size hi gO n G (fun a b => if a < i then orB Ms k a b else false)) (fun x _ => n - (intOf x).toNat)
  case atStart => exact ⟨0, rfl, by omega, HB.out, HM.out.congr fun a b _ _ => by simp⟩
  case round =>
    clear HM HB
    obtain ⟨i, rfl, hi', hbw, hmat⟩ := hrel
    have HB := Lib.hid hbw
    have HM := Lib.hid hmat
    clear hbw hmat
    by_cases hin : i < n
    · go_wp2_with fail
      go_loopw [20] (fun x wr => ∃ j : Nat, x = .int .i64 j ∧ j ≤ n ∧ Below w.heap.size w wr ∧ MatB wr w.heap.size hi gO n G (fun a b => if a < i ∨ (a = i ∧ b < j) then orB Ms k a b else false)) (fun x _ => n - (intOf x).toNat)
      case atStart => exact ⟨0, rfl, by omega, HB.out, HM.out.congr fun a b _ _ => by simp⟩
      case round =>
        clear HM HB
        obtain ⟨j, rfl, hj, hbw, hmat⟩ := hrel
        have HB := Lib.hid hbw
        have HM := Lib.hid hmat
        clear hbw hmat
        by_cases hjn : j < n
        · go_wp2_with fail
          go_loopw [25] (fun x wr => ∃ t : Nat, x = .int .i64 t ∧ t ≤ k ∧ Below w.heap.size w wr ∧ MatB wr w.heap.size hi gO n G (fun a b => if a = i ∧ b = j then orB Ms t i j else if a < i ∨ (a = i ∧ b < j) then orB Ms k a b else false)) (fun x _ => k - (intOf x).toNat)
          case atStart => exact ⟨0, rfl, by omega, HB.out, HM.out.congr fun a b _ _ => by
            by_cases e : a = i ∧ b = j
            · rw [if_pos e, if_neg (by omega)]; rfl
            · rw [if_neg e]⟩
          case round =>
            clear HM HB
            obtain ⟨t, rfl, ht, hbw, hmat⟩ := hrel
            have HB := Lib.hid hbw
            have HM := Lib.hid hmat
            clear hbw hmat
            by_cases htk : t < k
            · obtain ⟨hgl, hgs⟩ := HG.out.below HB.out
              obtain ⟨At, ct, q0, hct, hbs⟩ := hgs t htk
              obtain ⟨bA, oA, rfl, hbA, b2, o2, cc, q1, _, hb2, hq⟩ := hbs i hin
              have q2 := hq j hjn
              have c1 := HM.out.out i hin
              have c2 := HM.out.cell hin hjn
              have c3 := (HM.out.row i hin).frozen j
              rw [if_pos ⟨rfl, rfl⟩] at c2
              have HOS := Lib.hid (orB_succ Ms t i j)
              have HGE : Hid (w.heap.size ≤ G i) := Lib.hid (HM.out.rG i hin).1
              clear hgs hbs hq hct
              generalize orB Ms t i j = X at *
              generalize Ms t i j = Y at *
              cases X
              · cases Y
                all_goals
                  go_wp2_with fail
                  refine wp_region_still_tail 22 (by kernel_rfl) (by kernel_rfl) ?_
                  simp only [List.take_succ_cons, List.take_zero, List.drop_succ_cons, List.drop_zero]
                  change wpStill _ _ wr.drew _ _ _
                  refine wpStill_of_quiet ?_
                  repeat (go_big_quiet_step (fail))
                  refine wpQuiet_nil ?_
                  change wpList _ _ _ _ _ wr.drew
                  go_wp2
                  go_roundw
                  case rel => exact ⟨t + 1, by go_num, by omega, (HB.out.setCell HGE.out _).drew, ((HM.out.set hin j _).congr fun a b _ _ => by
                    by_cases e : a = i ∧ b = j
                    · rw [if_pos e, if_pos e, HOS.out]; rfl
                    · rw [if_neg e, if_neg e, if_neg e]).drew⟩
                  case measure => go_light; simp [intOf] <;> omega
              · go_wp2_with fail
                refine wp_region_still_tail 22 (by kernel_rfl) (by kernel_rfl) ?_
                simp only [List.take_succ_cons, List.take_zero, List.drop_succ_cons, List.drop_zero]
                change wpStill _ _ wr.drew _ _ _
                refine wpStill_of_quiet ?_
                repeat (go_big_quiet_step (fail))
                refine wpQuiet_nil ?_
                change wpList _ _ _ _ _ wr.drew
                go_wp2
                go_roundw
                case rel => exact ⟨t + 1, by go_num, by omega, (HB.out.setCell HGE.out _).drew, ((HM.out.set hin j _).congr fun a b _ _ => by
                  by_cases e : a = i ∧ b = j
                  · rw [if_pos e, if_pos e, HOS.out]; rfl
                  · rw [if_neg e, if_neg e, if_neg e]).drew⟩
                case measure => go_light; simp [intOf] <;> omega
            · obtain rfl : t = k := by omega
              go_wp2
              go_roundw
              case rel => exact ⟨j + 1, by go_num, by omega, HB.out, HM.out.congr fun a b _ _ => by
                by_cases e : a = i ∧ b = j
                · rw [if_pos e, if_pos (by omega), e.1, e.2]
                · rw [if_neg e]
                  by_cases e2 : a < i ∨ (a = i ∧ b < j)
                  · rw [if_pos e2, if_pos (by omega)]
                  · rw [if_neg e2, if_neg (by omega)]⟩
              case measure => go_light; simp [intOf] <;> omega
        · obtain rfl : j = n := by omega
          go_wp2
          go_roundw
          case rel => exact ⟨i + 1, by go_num, by omega, HB.out, HM.out.congr fun a b _ hb => by
            by_cases e2 : a < i + 1
            · rw [if_pos (by omega), if_pos e2]
            · rw [if_neg (by omega), if_neg e2]⟩
          case measure => go_light; simp [intOf] <;> omega
    · obtain rfl : i = n := by omega
      have hfin : MatB wr w.heap.size wr.heap.size gO i G (orB Ms k) := by
        have h := HM.out.congr (M' := orB Ms k) fun a b ha _ => by rw [if_pos ha]
        exact ⟨h.out, h.row, h.ne, h.inj, ⟨h.rO.1, Nat.lt_of_lt_of_le h.rO.2 h.top⟩, fun t ht => ⟨(h.rG t ht).1, Nat.lt_of_lt_of_le (h.rG t ht).2 h.top⟩, Nat.le_refl _⟩
      have HF := Lib.hid hfin
      clear hfin HM
      go_wp2
      go_ret
      exact ⟨gO, cap, G, rfl, hcap, HF.out, HB.out⟩
set_option maxRecDepth 100000 in
set_option maxHeartbeats 8000000 in
theorem together_any (g k c n : Nat) (Ms : Nat → Nat → Nat → Bool) (w : World) (hk0 : 0 < k) (hk : k ≤ 10) (h0 : 0 < n) (hn : n ≤ 1000) (hG : GsAt w g k n Ms) :
    Calls Tryd.prog 82 #[.slice (some ⟨g, 0, none⟩) k c] w (OrPost n (orB Ms k) w) := by
  have HG := Lib.hid hG
  have HBL := Lib.hid (empty_any n w h0 hn)
  obtain ⟨A0, ct0, c0, _, _⟩ := hG.2 0 hk0
  clear hG
  go_enter Tryd.func82, Tryd.ntmps82
  go_wp2_with fail
  refine HBL.out.mono ?_
  rintro e w1 ⟨gO, cap, G, rfl, hcap, hmat, hb1⟩
  have HM := Lib.hid hmat
  have HB := Lib.hid hb1
  have HSZ : Hid (w.heap.size ≤ w1.heap.size) := Lib.hid hb1.size
  obtain ⟨hi, hhi⟩ : ∃ hi, hi = w1.heap.size := ⟨_, rfl⟩
  rw [← hhi] at HM
  clear hmat hb1 c0 hhi
  go_wp2_with fail
  go_loopw [17] (fun x wr => ∃ t : Nat, x = .int .i64 t ∧ t ≤ k ∧ Below w.heap.size w wr ∧ MatB wr w.heap.size hi gO n G (fun a b => orB Ms t a b)) (fun x _ => k - (intOf x).toNat)
  case atStart => exact ⟨0, rfl, by omega, HB.out, HM.out.congr fun a b _ _ => rfl⟩
  case round =>
    clear HM HB
    obtain ⟨t, rfl, ht, hbw, hmat⟩ := hrel
    have HB := Lib.hid hbw
    have HM := Lib.hid hmat
    clear hbw hmat
    by_cases htk : t < k
    · obtain ⟨At, ct, q0w, hct, hbs⟩ := HG.out.2 t htk
      have HBS := Lib.hid hbs
      have q0 := (HB.out.cell (p := ⟨g, t, none⟩) HG.out.1).trans q0w
      clear hbs hct q0w
      go_wp2_with fail
      go_loopw [23] (fun x wr => ∃ i : Nat, x = .int .i64 i ∧ i ≤ n ∧ Below w.heap.size w wr ∧ MatB wr w.heap.size hi gO n G (fun a b => if a < i then orB Ms (t + 1) a b else orB Ms t a b)) (fun x _ => n - (intOf x).toNat)
      case atStart => exact ⟨0, rfl, by omega, HB.out, HM.out.congr fun a b _ _ => by simp⟩
      case round =>
        clear HM HB q0
        obtain ⟨i, rfl, hi', hbw, hmat⟩ := hrel
        have HB := Lib.hid hbw
        have HM := Lib.hid hmat
        clear hbw hmat
        by_cases hin : i < n
        · obtain ⟨bA, oA, rfl, hbA, b2, o2, cc, q1, hcc, hb2, hq⟩ := (HBS.out.below HB.out) i hin
          clear hq hcc
          go_wp2_with fail
          go_loopw [30] (fun x wr => ∃ j : Nat, x = .int .i64 j ∧ j ≤ n ∧ Below w.heap.size w wr ∧ MatB wr w.heap.size hi gO n G (fun a b => if a < i ∨ (a = i ∧ b < j) then orB Ms (t + 1) a b else orB Ms t a b)) (fun x _ => n - (intOf x).toNat)
          case atStart => exact ⟨0, rfl, by omega, HB.out, HM.out.congr fun a b _ _ => by simp⟩
          case round =>
            obtain ⟨j, rfl, hj, hbw, hmat⟩ := hrel
            have HB2 := Lib.hid hbw
            have HM2 := Lib.hid hmat
            have q1k := Lib.hid q1
            clear hbw hmat
            by_cases hjn : j < n
            · obtain ⟨bA', oA', hAe, _, b2', o2', cc', q1', _, hb2', hq⟩ := (HBS.out.below HB2.out) i hin
              injection hAe with hAe
              injection hAe with hAe1 hAe2
              subst hAe1 hAe2
              obtain ⟨bw, ow, hBe, hbw0, b2w, o2w, ccw, q1w, _, hb2w, hqw⟩ := HBS.out i hin
              injection hBe with hBe
              injection hBe with hBe1 hBe2
              subst hBe1 hBe2
              have e1 := ((HB.out.cell (p := ⟨bA, oA + i, none⟩) hbw0).trans q1w).symm.trans q1
              injection e1 with e1
              injection e1 with e1 _ e2
              injection e1 with e1
              injection e1 with e1 e3
              subst e1 e2 e3
              have q2 := (HB2.out.cell (p := ⟨b2w, o2w + j, none⟩) hb2w).trans (hqw j hjn)
              have c1 := HM2.out.out i hin
              have c2 := HM2.out.cell hin hjn
              have c3 := (HM2.out.row i hin).frozen j
              rw [if_neg (by omega)] at c2
              have HOS := Lib.hid (orB_succ Ms t i j)
              have HGE : Hid (w.heap.size ≤ G i) := Lib.hid (HM2.out.rG i hin).1
              clear hq hqw q1' q1w q1 hb2' hbw0
              generalize orB Ms t i j = X at *
              generalize Ms t i j = Y at *
              cases X
              · cases Y
                all_goals
                  go_wp2_with fail
                  refine wp_region_still_tail 16 (by kernel_rfl) (by kernel_rfl) ?_
                  simp only [List.take_succ_cons, List.take_zero, List.drop_succ_cons, List.drop_zero]
                  change wpStill _ _ wr.drew _ _ _
                  refine wpStill_of_quiet ?_
                  repeat (go_big_quiet_step (fail))
                  refine wpQuiet_nil ?_
                  change wpList _ _ _ _ _ wr.drew
                  go_wp2
                  go_roundw
                  case rel => exact ⟨j + 1, by go_num, by omega, (HB2.out.setCell HGE.out _).drew, ((HM2.out.set hin j _).congr fun a b _ _ => by
                    by_cases e : a = i ∧ b = j
                    · rw [if_pos e, if_pos (by omega), e.1, e.2, HOS.out]; rfl
                    · rw [if_neg e]
                      by_cases e2 : a < i ∨ (a = i ∧ b < j)
                      · rw [if_pos e2, if_pos (by omega)]
                      · rw [if_neg e2, if_neg (by omega)]).drew⟩
                  case measure => go_light; simp [intOf] <;> omega
              · go_wp2_with fail
                refine wp_region_still_tail 16 (by kernel_rfl) (by kernel_rfl) ?_
                simp only [List.take_succ_cons, List.take_zero, List.drop_succ_cons, List.drop_zero]
                change wpStill _ _ wr.drew _ _ _
                refine wpStill_of_quiet ?_
                repeat (go_big_quiet_step (fail))
                refine wpQuiet_nil ?_
                change wpList _ _ _ _ _ wr.drew
                go_wp2
                go_roundw
                case rel => exact ⟨j + 1, by go_num, by omega, (HB2.out.setCell HGE.out _).drew, ((HM2.out.set hin j _).congr fun a b _ _ => by
                  by_cases e : a = i ∧ b = j
                  · rw [if_pos e, if_pos (by omega), e.1, e.2, HOS.out]; rfl
                  · rw [if_neg e]
                    by_cases e2 : a < i ∨ (a = i ∧ b < j)
                    · rw [if_pos e2, if_pos (by omega)]
                    · rw [if_neg e2, if_neg (by omega)]).drew⟩
                case measure => go_light; simp [intOf] <;> omega
            · obtain rfl : j = n := by omega
              go_wp2
              go_roundw
              case rel => exact ⟨i + 1, by go_num, by omega, HB2.out, HM2.out.congr fun a b _ hb => by
                by_cases e2 : a < i + 1
                · rw [if_pos (by omega), if_pos e2]
                · rw [if_neg (by omega), if_neg e2]⟩
              case measure => go_light; simp [intOf] <;> omega
        · obtain rfl : i = n := by omega
          go_wp2
          go_roundw
          case rel => exact ⟨t + 1, by go_num, by omega, HB.out, HM.out.congr fun a b ha _ => by rw [if_pos ha]⟩
          case measure => go_light; simp [intOf] <;> omega
    · obtain rfl : t = k := by omega
      have hfin : MatB wr w.heap.size wr.heap.size gO n G (orB Ms t) := by
        have h := HM.out.congr (M' := orB Ms t) fun a b _ _ => rfl
        exact ⟨h.out, h.row, h.ne, h.inj, ⟨h.rO.1, Nat.lt_of_lt_of_le h.rO.2 h.top⟩, fun t ht => ⟨(h.rG t ht).1, Nat.lt_of_lt_of_le (h.rG t ht).2 h.top⟩, Nat.le_refl _⟩
      have HF := Lib.hid hfin
      clear hfin HM
      go_wp2
      go_ret
      exact ⟨gO, cap, G, rfl, hcap, HF.out, HB.out⟩
end Go.Proofs.YtkncomfbedbikaaDoor
