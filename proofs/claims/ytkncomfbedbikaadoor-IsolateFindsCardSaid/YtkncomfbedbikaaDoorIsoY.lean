/- testimonyref.Level, isolate.Level: the highest level that a story keeps. -/
import Derived.Test.YtkncomfbedbikaaDoorIsoX
namespace Go.Proofs.YtkncomfbedbikaaDoor
open Go.RowKit
attribute [local go_sem] eq_nil ne_nil nil_eq_nil nil_ne_nil
def levelB (b0 b1 b2 b3 b5 : Bool) : Int := bif b0 then 0 else bif b1 || b2 || b3 then 1 else bif b5 then 2 else 3
noncomputable def levelF (S : GStory) : Int := levelB (findsV S 0) (findsV S 1) (findsV S 2) (findsV S 3) (findsV S 5)
set_option maxRecDepth 100000 in
set_option maxHeartbeats 4000000 in
theorem rLevel_any (A V : Option Addr) (c cv : Nat) (S : GStory) (w : World) (h : StoryAt w A V S) (hz : storyErr S = 0) (hn0 : 0 < S.n) :
    Calls Tryd.prog 36 #[.agg #[.slice A S.n c, .slice V S.m cv]] w fun e w' => e = .returned (.int .i64 (levelF S)) ∧ Below w.heap.size w w' := by
  have HSF := Lib.hid (fun ob => rStoryFinds_any A V c cv S (w.alloc ob) (h.below ((Below.refl _ _).alloc (Nat.le_refl _) ob)) hz hn0)
  have HB : Hid (∀ ob w2, Below (w.alloc ob).heap.size (w.alloc ob) w2 → Below w.heap.size w w2) := Lib.hid (fun ob w2 hb => ((Below.refl _ _).alloc (Nat.le_refl _) ob).trans (hb.mono (by simp)))
  have HL : Hid (levelF S = levelB (findsV S 0) (findsV S 1) (findsV S 2) (findsV S 3) (findsV S 5)) := Lib.hid rfl
  obtain ⟨L, hL⟩ : ∃ L, levelF S = L := ⟨_, rfl⟩
  rw [hL] at HL ⊢
  clear h hz hn0 hL
  go_enter Tryd.func36, Tryd.ntmps36
  go_wp2_with fail
  (with_reducible refine (HSF.out _).mono ?_)
  rintro e w1 ⟨g, rfl, hrow, hb1⟩
  have HB1 := Lib.hid (HB.out _ _ hb1)
  have c0 : w1.cell? ⟨g, 0, none⟩ = some (.bool (findsV S 0)) := hrow.cell (show 0 < 6 by omega)
  have c1 : w1.cell? ⟨g, 1, none⟩ = some (.bool (findsV S 1)) := hrow.cell (show 1 < 6 by omega)
  have c2 : w1.cell? ⟨g, 2, none⟩ = some (.bool (findsV S 2)) := hrow.cell (show 2 < 6 by omega)
  have c3 : w1.cell? ⟨g, 3, none⟩ = some (.bool (findsV S 3)) := hrow.cell (show 3 < 6 by omega)
  have c5 : w1.cell? ⟨g, 5, none⟩ = some (.bool (findsV S 5)) := hrow.cell (show 5 < 6 by omega)
  clear hrow hb1 HSF HB
  generalize findsV S 0 = b0 at *
  generalize findsV S 1 = b1 at *
  generalize findsV S 2 = b2 at *
  generalize findsV S 3 = b3 at *
  generalize findsV S 5 = b5 at *
  cases b0
  · cases b1
    · cases b2
      · cases b3
        · cases b5
          all_goals
            go_wp2
            go_ret
            exact ⟨by rw [HL.out]; rfl, HB1.out⟩
        · go_wp2
          go_ret
          exact ⟨by rw [HL.out]; rfl, HB1.out⟩
      · go_wp2
        go_ret
        exact ⟨by rw [HL.out]; rfl, HB1.out⟩
    · go_wp2
      go_ret
      exact ⟨by rw [HL.out]; rfl, HB1.out⟩
  · go_wp2
    go_ret
    exact ⟨by rw [HL.out]; rfl, HB1.out⟩
set_option maxRecDepth 100000 in
set_option maxHeartbeats 4000000 in
theorem iLevel_any (A V : Option Addr) (c cv : Nat) (S : GStory) (w : World) (h : StoryAt w A V S) (hz : storyErr S = 0) (hn0 : 0 < S.n) :
    Calls Tryd.prog 38 #[.agg #[.slice A S.n c, .slice V S.m cv]] w fun e w' => e = .returned (.tuple #[.int .i64 (levelF S), .nilIface]) ∧ Below w.heap.size w w' := by
  have HSF := Lib.hid (fun ob => iFinds_any A V c cv S (w.alloc ob) (h.below ((Below.refl _ _).alloc (Nat.le_refl _) ob)) hz hn0)
  have HB : Hid (∀ ob w2, Below (w.alloc ob).heap.size (w.alloc ob) w2 → Below w.heap.size w w2) := Lib.hid (fun ob w2 hb => ((Below.refl _ _).alloc (Nat.le_refl _) ob).trans (hb.mono (by simp)))
  have HL : Hid (levelF S = levelB (findsV S 0) (findsV S 1) (findsV S 2) (findsV S 3) (findsV S 5)) := Lib.hid rfl
  obtain ⟨L, hL⟩ : ∃ L, levelF S = L := ⟨_, rfl⟩
  rw [hL] at HL ⊢
  clear h hz hn0 hL
  go_enter Tryd.func38, Tryd.ntmps38
  go_wp2_with fail
  (with_reducible refine (HSF.out _).mono ?_)
  rintro e w1 ⟨g, rfl, hrow, hb1⟩
  have HB1 := Lib.hid (HB.out _ _ hb1)
  have c0 : w1.cell? ⟨g, 0, none⟩ = some (.bool (findsV S 0)) := hrow.cell (show 0 < 6 by omega)
  have c1 : w1.cell? ⟨g, 1, none⟩ = some (.bool (findsV S 1)) := hrow.cell (show 1 < 6 by omega)
  have c2 : w1.cell? ⟨g, 2, none⟩ = some (.bool (findsV S 2)) := hrow.cell (show 2 < 6 by omega)
  have c3 : w1.cell? ⟨g, 3, none⟩ = some (.bool (findsV S 3)) := hrow.cell (show 3 < 6 by omega)
  have c5 : w1.cell? ⟨g, 5, none⟩ = some (.bool (findsV S 5)) := hrow.cell (show 5 < 6 by omega)
  clear hrow hb1 HSF HB
  generalize findsV S 0 = b0 at *
  generalize findsV S 1 = b1 at *
  generalize findsV S 2 = b2 at *
  generalize findsV S 3 = b3 at *
  generalize findsV S 5 = b5 at *
  cases b0
  · cases b1
    · cases b2
      · cases b3
        · cases b5
          all_goals
            go_wp2
            go_ret2
            exact ⟨by rw [HL.out]; rfl, HB1.out⟩
        · go_wp2
          go_ret2
          exact ⟨by rw [HL.out]; rfl, HB1.out⟩
      · go_wp2
        go_ret2
        exact ⟨by rw [HL.out]; rfl, HB1.out⟩
    · go_wp2
      go_ret2
      exact ⟨by rw [HL.out]; rfl, HB1.out⟩
  · go_wp2
    go_ret2
    exact ⟨by rw [HL.out]; rfl, HB1.out⟩
set_option maxRecDepth 100000 in
set_option maxHeartbeats 4000000 in
theorem iLevel_err (A V : Option Addr) (c cv : Nat) (S : GStory) (w : World) (h : StoryAt w A V S) (hz : storyErr S ≠ 0) :
    Calls Tryd.prog 38 #[.agg #[.slice A S.n c, .slice V S.m cv]] w fun e w' => e = .returned (.tuple #[.int .i64 0, errV (storyErr S)]) ∧ Below w.heap.size w w' := by
  have HAL := Lib.hid (fun ob => iFinds_err A V c cv S (w.alloc ob) (h.below ((Below.refl _ _).alloc (Nat.le_refl _) ob)) hz)
  have HB : Hid (∀ ob w2, Below (w.alloc ob).heap.size (w.alloc ob) w2 → Below w.heap.size w w2) := Lib.hid (fun ob w2 hb => ((Below.refl _ _).alloc (Nat.le_refl _) ob).trans (hb.mono (by simp)))
  simp only [errV_ne _ hz] at HAL ⊢
  clear h hz
  generalize storyErr S = E at *
  go_enter Tryd.func38, Tryd.ntmps38
  go_wp2_with fail
  (with_reducible refine (HAL.out _).mono ?_)
  rintro e w2 ⟨rfl, hb2⟩
  have HB2 := Lib.hid (HB.out _ _ hb2)
  clear hb2
  go_wp2
  go_ret2
  exact ⟨rfl, HB2.out⟩
end Go.Proofs.YtkncomfbedbikaaDoor
