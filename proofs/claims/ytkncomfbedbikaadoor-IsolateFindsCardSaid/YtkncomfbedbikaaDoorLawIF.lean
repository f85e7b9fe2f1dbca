/- The law IsolateFinds: its walk. -/
import Derived.Test.YtkncomfbedbikaaDoorIsoY
import Derived.Test.YtkncomfbedbikaaDoorLawIS
namespace Go.Proofs.YtkncomfbedbikaaDoor
open Go.RowKit
set_option maxRecDepth 100000 in
set_option maxHeartbeats 16000000 in
theorem lawIsolateFinds_any (A V : Option Addr) (c cv : Nat) (S : GStory) (w : World) (h : StoryAt w A V S) (hlaid : ErrLaid w) :
    Calls Tryd.prog 9 #[.agg #[.slice A S.n c, .slice V S.m cv]] w fun e w' => e = .returned (.bool true) ∧ Below w.heap.size w w' := by
  have HH := Lib.hid h
  have HL := Lib.hid hlaid
  have hnn := h.hn
  clear h hlaid
  have HX : Hid (Below w.heap.size w (w.alloc (.cells #[.slice A S.n c, .slice V S.m cv] 77)) ∧ (w.alloc (.cells #[.slice A S.n c, .slice V S.m cv] 77)).cell? ⟨w.heap.size, 0, none⟩ = some (.slice A S.n c) ∧ (w.alloc (.cells #[.slice A S.n c, .slice V S.m cv] 77)).cell? ⟨w.heap.size, 1, none⟩ = some (.slice V S.m cv) ∧ w.heap.size < (w.alloc (.cells #[.slice A S.n c, .slice V S.m cv] 77)).heap.size) :=
    Lib.hid ⟨(Below.refl _ _).alloc (Nat.le_refl _) _, by simp [World.cell?_alloc_new], by simp [World.cell?_alloc_new], by simp⟩
  go_enter Tryd.func9, Tryd.ntmps9
  have x0 := HX.out.2.1
  have x1 := HX.out.2.2.1
  go_wp2_with fail
  clear x0 x1
  obtain ⟨gs, hgs⟩ : ∃ gs, gs = w.heap.size := ⟨_, rfl⟩
  have HG : Hid (w.heap.size ≤ gs) := Lib.hid (by omega)
  rw [← hgs] at HX ⊢
  generalize w.alloc (.cells #[.slice A S.n c, .slice V S.m cv] 77) = W1 at *
  have HB1 : Hid (Below w.heap.size w W1) := Lib.hid (by rw [← hgs]; exact HX.out.1)
  have HC := Lib.hid HX.out.2
  clear hgs HX
  have HST := Lib.hid (story_any A V c cv S W1 (HH.out.below HB1.out))
  refine HST.out.mono ?_
  rintro e w1 ⟨A1, c1, V1, cv1, ok, rfl, hs1, hb1⟩
  have HS1 := Lib.hid hs1
  have HB2 : Hid (Below w.heap.size w w1) := Lib.hid (HB1.out.trans (hb1.mono HB1.out.size))
  have s0 := (hb1.cell (p := ⟨gs, 0, none⟩) HC.out.2.2).trans HC.out.1
  have s1 := (hb1.cell (p := ⟨gs, 1, none⟩) HC.out.2.2).trans HC.out.2.1
  have hgl : gs < w1.heap.size := Nat.lt_of_lt_of_le HC.out.2.2 hb1.size
  clear hs1 hb1 HST
  have HB3 : Hid (Below w.heap.size w (w1.alloc (.cells #[.slice A1 S.n c1, .slice V1 S.m cv1] 80))) := Lib.hid (HB2.out.alloc HB2.out.size _)
  cases ok
  · go_wp2
    go_ret
    exact ⟨rfl, HB3.out⟩
  · by_cases hn0 : S.n = 0
    · have hd : ((S.n : Int) == 0) = true := by simp [hn0]
      clear hn0
      go_wp2
      go_ret
      exact ⟨rfl, HB3.out⟩
    · have hd : ((S.n : Int) == 0) = false := by simp; omega
      have HS2 : Hid (StoryAt (w1.alloc (.cells #[.slice A1 S.n c1, .slice V1 S.m cv1] 80)) A1 V1 S) := Lib.hid (HS1.out.below ((Below.refl _ _).alloc (Nat.le_refl _) _))
      have HT : Hid ((w1.alloc (.cells #[.slice A1 S.n c1, .slice V1 S.m cv1] 80)).cell? ⟨w1.heap.size, 0, none⟩ = some (.slice A1 S.n c1) ∧ (w1.alloc (.cells #[.slice A1 S.n c1, .slice V1 S.m cv1] 80)).cell? ⟨w1.heap.size, 1, none⟩ = some (.slice V1 S.m cv1) ∧ w1.heap.size < (w1.alloc (.cells #[.slice A1 S.n c1, .slice V1 S.m cv1] 80)).heap.size) := Lib.hid ⟨by simp [World.cell?_alloc_new], by simp [World.cell?_alloc_new], by simp⟩
      have HC2 : Hid ((w1.alloc (.cells #[.slice A1 S.n c1, .slice V1 S.m cv1] 80)).cell? ⟨gs, 0, none⟩ = some (.slice A S.n c) ∧ (w1.alloc (.cells #[.slice A1 S.n c1, .slice V1 S.m cv1] 80)).cell? ⟨gs, 1, none⟩ = some (.slice V S.m cv) ∧ gs < w1.heap.size) := Lib.hid ⟨(((Below.refl w1.heap.size w1).alloc (Nat.le_refl _) _).cell (p := ⟨gs, 0, none⟩) hgl).trans s0, (((Below.refl w1.heap.size w1).alloc (Nat.le_refl _) _).cell (p := ⟨gs, 1, none⟩) hgl).trans s1, hgl⟩
      have HN0 : Hid (0 < S.n) := Lib.hid (by omega)
      clear hn0
      go_wp2_with fail
      clear s0 s1 hd HC HB2 HB1
      obtain ⟨bt, hbt⟩ : ∃ bt, bt = w1.heap.size := ⟨_, rfl⟩
      rw [← hbt] at HT HC2 hgl ⊢
      clear hbt HS1
      generalize w1.alloc (.cells #[.slice A1 S.n c1, .slice V1 S.m cv1] 80) = W2 at *
      have HCK := Lib.hid (rStoryCheck_any A1 V1 c1 cv1 S W2 HS2.out)
      refine HCK.out.mono ?_
      rintro e w2 ⟨rfl, hb2⟩
      have HB4 : Hid (Below w.heap.size w w2) := Lib.hid (HB3.out.trans (hb2.mono HB3.out.size))
      have HS3 := Lib.hid (HS2.out.below hb2)
      have HT2 : Hid (w2.cell? ⟨bt, 0, none⟩ = some (.slice A1 S.n c1) ∧ w2.cell? ⟨bt, 1, none⟩ = some (.slice V1 S.m cv1) ∧ bt < w2.heap.size) := Lib.hid ⟨(hb2.cell (p := ⟨bt, 0, none⟩) HT.out.2.2).trans HT.out.1, (hb2.cell (p := ⟨bt, 1, none⟩) HT.out.2.2).trans HT.out.2.1, Nat.lt_of_lt_of_le HT.out.2.2 hb2.size⟩
      have HC3 : Hid (w2.cell? ⟨gs, 0, none⟩ = some (.slice A S.n c) ∧ w2.cell? ⟨gs, 1, none⟩ = some (.slice V S.m cv) ∧ gs < w2.heap.size) := Lib.hid ⟨(hb2.cell (p := ⟨gs, 0, none⟩) (Nat.lt_trans hgl HT.out.2.2)).trans HC2.out.1, (hb2.cell (p := ⟨gs, 1, none⟩) (Nat.lt_trans hgl HT.out.2.2)).trans HC2.out.2.1, Nat.lt_trans hgl HT2.out.2.2⟩
      clear hb2 HT HC2 HCK HB3 HS2
      have HBR := Lib.hid (fun E W (hb : Below w.heap.size w W) => bare_any (errV E) E (-1) E W (errIs_errW W _) (HL.out.below hb (cell_lt HL.out)))
      by_cases hz : storyErr S = 0
      · have HSF := Lib.hid (fun W (hb : Below w2.heap.size w2 W) => rStoryFinds_any A1 V1 c1 cv1 S W (HS3.out.below hb) hz HN0.out)
        have HLV := Lib.hid (fun W (hb : Below w2.heap.size w2 W) => rLevel_any A1 V1 c1 cv1 S W (HS3.out.below hb) hz HN0.out)
        have HIF := Lib.hid (fun W (hb : Below w.heap.size w W) => iFinds_any A V c cv S W (HH.out.below hb) hz HN0.out)
        have HIL := Lib.hid (fun W (hb : Below w.heap.size w W) => iLevel_any A V c cv S W (HH.out.below hb) hz HN0.out)
        have HKEEP : Hid (∀ W : World, Below w2.heap.size w2 W → (W.cell? ⟨bt, 0, none⟩ = some (.slice A1 S.n c1) ∧ W.cell? ⟨bt, 1, none⟩ = some (.slice V1 S.m cv1))) := Lib.hid fun W hW => ⟨(hW.cell (p := ⟨bt, 0, none⟩) HT2.out.2.2).trans HT2.out.1, (hW.cell (p := ⟨bt, 1, none⟩) HT2.out.2.2).trans HT2.out.2.1⟩
        rw [hz]
        clear hz
        obtain ⟨F, hF⟩ : ∃ F, findsV S = F := ⟨_, rfl⟩
        generalize levelF S = L at *
        have x0 := HT2.out.1
        have x1 := HT2.out.2.1
        go_wp2_with fail
        go_region_held3 (fun w' => w'.cell? ⟨bt, 0, none⟩ = some (.slice A1 S.n c1) ∧ w'.cell? ⟨bt, 1, none⟩ = some (.slice V1 S.m cv1))
          ((refine HKEEP.out _ ?_; first | exact (Below.refl _ _).drew | exact hqb | exact hqa))
          (first
            | (go_at_call 35; (with_reducible refine (HSF.out _ ?_).mono ?_); (exact (Below.refl _ _).drew); rintro e wa ⟨gw, rfl, hrowa, hba⟩; have hqa : Below w2.heap.size w2 wa := (Below.refl _ _).drew.trans hba; have HRA := Lib.hid hrowa; clear hrowa)
            | (go_at_call 36; (with_reducible refine (HLV.out _ hqa).mono ?_); rintro e wb ⟨rfl, hbb⟩; have hqb : Below w2.heap.size w2 wb := hqa.trans (hbb.mono hqa.size); have HRB := Lib.hid (rowIs_below HRA.out hbb)))
        clear x0 x1 HKEEP HSF HLV HRA hba hbb
        have s0 := (hqb.cell (p := ⟨gs, 0, none⟩) HC3.out.2.2).trans HC3.out.1
        have s1 := (hqb.cell (p := ⟨gs, 1, none⟩) HC3.out.2.2).trans HC3.out.2.1
        have HB5 : Hid (Below w.heap.size w wb) := Lib.hid (HB4.out.trans (hqb.mono HB4.out.size))
        have HIF5 := Lib.hid (HIF.out wb HB5.out)
        have hgb : gs < wb.heap.size := Nat.lt_of_lt_of_le HC3.out.2.2 hqb.size
        clear hqa hqb HIF
        go_wp2_with fail
        (with_reducible refine HIF5.out.mono ?_)
        rintro e w3 ⟨gf, rfl, hrowf, hb3⟩
        have s0' := (hb3.cell (p := ⟨gs, 0, none⟩) hgb).trans s0
        have s1' := (hb3.cell (p := ⟨gs, 1, none⟩) hgb).trans s1
        have HRF := Lib.hid hrowf
        have HRB3 := Lib.hid (rowIs_below HRB.out hb3)
        have HB6 : Hid (Below w.heap.size w w3) := Lib.hid (HB5.out.trans (hb3.mono HB5.out.size))
        have HIL6 := Lib.hid (HIL.out w3 HB6.out)
        clear s0 s1 hb3 hrowf HRB HIF5 HIL
        go_wp2_with fail
        (with_reducible refine HIL6.out.mono ?_)
        rintro e w4 ⟨rfl, hb4⟩
        have HRF4 := Lib.hid (rowIs_below HRF.out hb4)
        have HRB4 := Lib.hid (rowIs_below HRB3.out hb4)
        have HB7 : Hid (Below w.heap.size w w4) := Lib.hid (HB6.out.trans (hb4.mono HB6.out.size))
        have HB0 := Lib.hid (HBR.out 0 w4 HB7.out)
        rw [show errV 0 = .nilIface from rfl] at HB0
        clear hb4 s0' s1' HIL6 HRF HRB3
        go_wp2_with fail
        (with_reducible refine HB0.out.mono ?_)
        rintro e w5 ⟨rfl, hb5⟩
        have HRF5 := Lib.hid (rowIs_below HRF4.out hb5)
        have HRB5 := Lib.hid (rowIs_below HRB4.out hb5)
        have HB8 : Hid (Below w.heap.size w w5) := Lib.hid (HB7.out.trans (hb5.mono HB7.out.size))
        have HB0 := Lib.hid (HBR.out 0 w5 HB8.out)
        rw [show errV 0 = .nilIface from rfl] at HB0
        clear hb5 HRF4 HRB4
        go_wp2_with fail
        (with_reducible refine HB0.out.mono ?_)
        rintro e w6 ⟨rfl, hb6⟩
        have HRF6 := Lib.hid (rowIs_below HRF5.out hb6)
        have HRB6 := Lib.hid (rowIs_below HRB5.out hb6)
        have HB9 : Hid (Below w.heap.size w w6) := Lib.hid (HB8.out.trans (hb6.mono HB8.out.size))
        clear hb6 HRF5 HRB5 HB0
        have hLL : (L != L) = false := by simp
        go_wp2_with fail
        go_loopw [12] (fun x wr => ∃ i : Nat, x = .int .i64 i ∧ i ≤ 6 ∧ Below w6.heap.size w6 wr) (fun x _ => 6 - (intOf x).toNat)
        case atStart => exact ⟨0, rfl, by omega, Below.refl _ _⟩
        case round =>
          obtain ⟨i, rfl, hi, hbw⟩ := hrel
          have HW := Lib.hid hbw
          clear hbw
          by_cases hi6 : i < 6
          · have k1 := cell_regrown ((rowIs_below HRF6.out HW.out).cell hi6)
            have k2 := cell_regrown ((rowIs_below HRB6.out HW.out).cell hi6)
            generalize findsV S i = X at *
            cases X
            all_goals
              go_wp2_with fail
              refine wp_region_quiet_below (by kernel_rfl) (by kernel_rfl) ?_
              repeat (go_big_quiet_step (fail))
              refine wpQuiet_nil ?_
              rintro wq ⟨pq, hpq⟩
              have HBQ : Hid (Below wr.heap.size wr wq) := Lib.hid (hpq ▸ below_regrown wr pq.d pq.os)
              clear hpq
              go_wp2
              go_roundw
              case rel => exact ⟨i + 1, by go_num, by omega, HW.out.trans (HBQ.out.mono HW.out.size)⟩
              case measure => go_light; simp [intOf] <;> omega
          · obtain rfl : i = 6 := by omega
            go_wp2
            go_ret
            exact ⟨rfl, HB9.out.trans (HW.out.mono HB9.out.size)⟩
      · have HIF := Lib.hid (fun W (hb : Below w.heap.size w W) => iFinds_err A V c cv S W (HH.out.below hb) hz)
        have HIL := Lib.hid (fun W (hb : Below w.heap.size w W) => iLevel_err A V c cv S W (HH.out.below hb) hz)
        have hz0 : (storyErr S == 0) = false := by simpa using hz
        have s0 := HC3.out.1
        have s1 := HC3.out.2.1
        have hgl2 := HC3.out.2.2
        have HIF3 := Lib.hid (HIF.out w2 HB4.out)
        have HBR3 := Lib.hid (HBR.out (storyErr S))
        clear hz HIF HBR
        generalize storyErr S = E at *
        go_wp2_with fail
        (with_reducible refine HIF3.out.mono ?_)
        rintro e w3 ⟨rfl, hb3⟩
        have HB5 : Hid (Below w.heap.size w w3) := Lib.hid (HB4.out.trans (hb3.mono HB4.out.size))
        have s0' := (hb3.cell (p := ⟨gs, 0, none⟩) hgl2).trans s0
        have s1' := (hb3.cell (p := ⟨gs, 1, none⟩) hgl2).trans s1
        have HIL4 := Lib.hid (HIL.out w3 HB5.out)
        clear hb3 s0 s1
        go_wp2_with fail
        (with_reducible refine HIL4.out.mono ?_)
        rintro e w4 ⟨rfl, hb4⟩
        have HB6 : Hid (Below w.heap.size w w4) := Lib.hid (HB5.out.trans (hb4.mono HB5.out.size))
        have HBR4 := Lib.hid (HBR3.out w4 HB6.out)
        clear hb4 s0' s1'
        go_wp2_with fail
        (with_reducible refine HBR4.out.mono ?_)
        rintro e w5 ⟨rfl, hb5⟩
        have HB7 : Hid (Below w.heap.size w w5) := Lib.hid (HB6.out.trans (hb5.mono HB6.out.size))
        have HBR5 := Lib.hid (HBR3.out w5 HB7.out)
        clear hb5
        go_wp2_with fail
        (with_reducible refine HBR5.out.mono ?_)
        rintro e w6 ⟨rfl, hb6⟩
        have HB8 : Hid (Below w.heap.size w w6) := Lib.hid (HB7.out.trans (hb6.mono HB7.out.size))
        clear hb6
        go_wp2_with fail
        go_loop [12] (fun x => x = .int .i64 0) (fun _ => 0)
        case atStart => exact rfl
        case round =>
          subst hrel
          go_wp2
          go_ret
          exact ⟨rfl, HB8.out⟩
end Go.Proofs.YtkncomfbedbikaaDoor
