/- The law IsolateSerial: its walk. -/
import Derived.Test.YtkncomfbedbikaaDoorIsoS
import Derived.Test.YtkncomfbedbikaaDoorIsoN
import Derived.Test.YtkncomfbedbikaaDoorIsoB
import Derived.Test.YtkncomfbedbikaaDoorMat
import Derived.Test.YtkncomfbedbikaaDoorLawSB
namespace Go.Proofs.YtkncomfbedbikaaDoor
open Go.RowKit
theorem below_box {B : Nat} {w w' : World} (h : Below B w w') (o : Obj) (hB : B ≤ w'.heap.size) : Below B w (w'.alloc o) := h.alloc hB o
set_option maxRecDepth 100000 in
set_option maxHeartbeats 16000000 in
theorem lawIsolateSerial_any (A V : Option Addr) (c cv : Nat) (S : GStory) (w : World) (h : StoryAt w A V S) (hlaid : ErrLaid w) :
    Calls Tryd.prog 8 #[.agg #[.slice A S.n c, .slice V S.m cv]] w fun e w' => e = .returned (.bool true) ∧ Below w.heap.size w w' := by
  have HH := Lib.hid h
  have HL := Lib.hid hlaid
  have hnn := h.hn
  clear h hlaid
  have HX : Hid (Below w.heap.size w (w.alloc (.cells #[.slice A S.n c, .slice V S.m cv] 77)) ∧ (w.alloc (.cells #[.slice A S.n c, .slice V S.m cv] 77)).cell? ⟨w.heap.size, 0, none⟩ = some (.slice A S.n c) ∧ (w.alloc (.cells #[.slice A S.n c, .slice V S.m cv] 77)).cell? ⟨w.heap.size, 1, none⟩ = some (.slice V S.m cv) ∧ w.heap.size < (w.alloc (.cells #[.slice A S.n c, .slice V S.m cv] 77)).heap.size) :=
    Lib.hid ⟨(Below.refl _ _).alloc (Nat.le_refl _) _, by simp [World.cell?_alloc_new], by simp [World.cell?_alloc_new], by simp⟩
  go_enter Tryd.func8, Tryd.ntmps8
  have x0 := HX.out.2.1
  have x1 := HX.out.2.2.1
  go_wp2_with fail
  clear x0 x1
  obtain ⟨gs, hgs⟩ : ∃ gs, gs = w.heap.size := ⟨_, rfl⟩
  have HG : Hid (w.heap.size ≤ gs) := Lib.hid (by omega)
  rw [← hgs] at HX ⊢
  generalize w.alloc (.cells #[.slice A S.n c, .slice V S.m cv] 77) = W1 at *
  have HB1 : Hid (Below w.heap.size w W1) := Lib.hid (by rw [← hgs]; exact HX.out.1)
  have HC := Lib.hid HX.out.2
  clear hgs HX
  have HST := Lib.hid (story_any A V c cv S W1 (HH.out.below HB1.out))
  refine HST.out.mono ?_
  rintro e w1 ⟨A1, c1, V1, cv1, ok, rfl, hs1, hb1⟩
  have HS1 := Lib.hid hs1
  have HB2 : Hid (Below w.heap.size w w1) := Lib.hid (HB1.out.trans (hb1.mono HB1.out.size))
  have s0 := (hb1.cell (p := ⟨gs, 0, none⟩) HC.out.2.2).trans HC.out.1
  have s1 := (hb1.cell (p := ⟨gs, 1, none⟩) HC.out.2.2).trans HC.out.2.1
  have hgl : gs < w1.heap.size := Nat.lt_of_lt_of_le HC.out.2.2 hb1.size
  clear hs1 hb1 HST
  have HB3 : Hid (Below w.heap.size w (w1.alloc (.cells #[.slice A1 S.n c1, .slice V1 S.m cv1] 80))) := Lib.hid (HB2.out.alloc HB2.out.size _)
  cases ok
  · go_wp2
    go_ret
    exact ⟨rfl, HB3.out⟩
  · by_cases hn0 : S.n = 0
    · have hd : ((S.n : Int) == 0) = true := by simp [hn0]
      clear hn0
      go_wp2
      go_ret
      exact ⟨rfl, HB3.out⟩
    · have hd : ((S.n : Int) == 0) = false := by simp; omega
      have HS2 : Hid (StoryAt (w1.alloc (.cells #[.slice A1 S.n c1, .slice V1 S.m cv1] 80)) A1 V1 S) := Lib.hid (HS1.out.below ((Below.refl _ _).alloc (Nat.le_refl _) _))
      have HT : Hid ((w1.alloc (.cells #[.slice A1 S.n c1, .slice V1 S.m cv1] 80)).cell? ⟨w1.heap.size, 0, none⟩ = some (.slice A1 S.n c1) ∧ (w1.alloc (.cells #[.slice A1 S.n c1, .slice V1 S.m cv1] 80)).cell? ⟨w1.heap.size, 1, none⟩ = some (.slice V1 S.m cv1) ∧ w1.heap.size < (w1.alloc (.cells #[.slice A1 S.n c1, .slice V1 S.m cv1] 80)).heap.size) := Lib.hid ⟨by simp [World.cell?_alloc_new], by simp [World.cell?_alloc_new], by simp⟩
      have HC2 : Hid ((w1.alloc (.cells #[.slice A1 S.n c1, .slice V1 S.m cv1] 80)).cell? ⟨gs, 0, none⟩ = some (.slice A S.n c) ∧ (w1.alloc (.cells #[.slice A1 S.n c1, .slice V1 S.m cv1] 80)).cell? ⟨gs, 1, none⟩ = some (.slice V S.m cv) ∧ gs < w1.heap.size) := Lib.hid ⟨(((Below.refl w1.heap.size w1).alloc (Nat.le_refl _) _).cell (p := ⟨gs, 0, none⟩) hgl).trans s0, (((Below.refl w1.heap.size w1).alloc (Nat.le_refl _) _).cell (p := ⟨gs, 1, none⟩) hgl).trans s1, hgl⟩
      have HN0 : Hid (0 < S.n) := Lib.hid (by omega)
      clear hn0
      go_wp2_with fail
      clear s0 s1 hd HC HB2 HB1
      obtain ⟨bt, hbt⟩ : ∃ bt, bt = w1.heap.size := ⟨_, rfl⟩
      rw [← hbt] at HT HC2 hgl ⊢
      clear hbt HS1
      generalize w1.alloc (.cells #[.slice A1 S.n c1, .slice V1 S.m cv1] 80) = W2 at *
      have HCK := Lib.hid (rStoryCheck_any A1 V1 c1 cv1 S W2 HS2.out)
      refine HCK.out.mono ?_
      rintro e w2 ⟨rfl, hb2⟩
      have HB4 : Hid (Below w.heap.size w w2) := Lib.hid (HB3.out.trans (hb2.mono HB3.out.size))
      have HS3 := Lib.hid (HS2.out.below hb2)
      have HT2 : Hid (w2.cell? ⟨bt, 0, none⟩ = some (.slice A1 S.n c1) ∧ w2.cell? ⟨bt, 1, none⟩ = some (.slice V1 S.m cv1) ∧ bt < w2.heap.size) := Lib.hid ⟨(hb2.cell (p := ⟨bt, 0, none⟩) HT.out.2.2).trans HT.out.1, (hb2.cell (p := ⟨bt, 1, none⟩) HT.out.2.2).trans HT.out.2.1, Nat.lt_of_lt_of_le HT.out.2.2 hb2.size⟩
      have HC3 : Hid (w2.cell? ⟨gs, 0, none⟩ = some (.slice A S.n c) ∧ w2.cell? ⟨gs, 1, none⟩ = some (.slice V S.m cv) ∧ gs < w2.heap.size) := Lib.hid ⟨(hb2.cell (p := ⟨gs, 0, none⟩) (Nat.lt_trans hgl HT.out.2.2)).trans HC2.out.1, (hb2.cell (p := ⟨gs, 1, none⟩) (Nat.lt_trans hgl HT.out.2.2)).trans HC2.out.2.1, Nat.lt_trans hgl HT2.out.2.2⟩
      clear hb2 HT HC2 HCK HB3 HS2
      have HBR := Lib.hid (fun E W (hb : Below w.heap.size w W) => bare_any (errV E) E (-1) E W (errIs_errW W _) (HL.out.below hb (cell_lt HL.out)))
      by_cases hz : storyErr S = 0
      · have HRS := Lib.hid (rSerial_any A1 V1 c1 cv1 S w2 HS3.out hz HN0.out)
        have HIS := Lib.hid (fun W (hb : Below w.heap.size w W) => iSerial_any A V c cv S W (HH.out.below hb) hz HN0.out)
        have HN8 := Lib.hid (story_ok hz).n
        rw [hz]
        clear hz
        have x0 := HT2.out.1
        have x1 := HT2.out.2.1
        go_wp2_with fail
        refine HRS.out.mono ?_
        clear x0 x1
        rintro e w3 ⟨hcase, hb3⟩
        have HB5 : Hid (Below w.heap.size w w3) := Lib.hid (HB4.out.trans (hb3.mono HB4.out.size))
        have s0 := (hb3.cell (p := ⟨gs, 0, none⟩) HC3.out.2.2).trans HC3.out.1
        have s1 := (hb3.cell (p := ⟨gs, 1, none⟩) HC3.out.2.2).trans HC3.out.2.1
        have HIS3 := Lib.hid (HIS.out w3 HB5.out)
        clear hb3
        rcases hcase with ⟨hnone, rfl⟩ | ⟨out, R, cR, hsome, rfl, hints⟩
        · have HN := Lib.hid hnone
          clear hnone
          go_wp2_with fail
          refine HIS3.out.mono ?_
          rintro e w4 ⟨hcase, hb4⟩
          have HB6 : Hid (Below w.heap.size w w4) := Lib.hid (HB5.out.trans (hb4.mono HB5.out.size))
          rcases hcase with ⟨_, rfl⟩ | ⟨out', _, _, hsome', _⟩
          · have HB11 := Lib.hid (HBR.out 11 w4 HB6.out)
            rw [show errV 11 = .iface 23 (.int .i64 11) from rfl] at HB11
            have HSI := Lib.hid (fun W => sameInts_eq none none 0 0 0 (fun _ => 0) W (by omega) (fun i hi => absurd hi (by omega)) (fun i hi => absurd hi (by omega)))
            clear hb4
            go_wp2_with fail
            refine HB11.out.mono ?_
            rintro e w5 ⟨rfl, hb5⟩
            have HB7 : Hid (Below w.heap.size w w5) := Lib.hid (HB6.out.trans (hb5.mono HB6.out.size))
            have HSI5 := Lib.hid (HSI.out w5)
            clear hb5
            go_wp2_with fail
            refine HSI5.out.mono ?_
            rintro e w6 ⟨rfl, hb6⟩
            go_wp2
            go_ret
            exact ⟨rfl, HB7.out.trans (hb6.mono HB7.out.size)⟩
          · rw [HN.out] at hsome'
            cases hsome'
        · have HSO := Lib.hid hsome
          have HI3 := Lib.hid hints
          clear hsome hints
          go_wp2_with fail
          refine HIS3.out.mono ?_
          rintro e w4 ⟨hcase, hb4⟩
          have HB6 : Hid (Below w.heap.size w w4) := Lib.hid (HB5.out.trans (hb4.mono HB5.out.size))
          have HI4 := Lib.hid (HI3.out.below hb4)
          clear hb4
          rcases hcase with ⟨hnone', _⟩ | ⟨out', R', cR', hsome', rfl, hints'⟩
          · rw [HSO.out] at hnone'
            cases hnone'
          · rw [HSO.out] at hsome'
            cases hsome'
            have HI4' := Lib.hid hints'
            have HB0 := Lib.hid (HBR.out 0 w4 HB6.out)
            rw [show errV 0 = .nilIface from rfl] at HB0
            have HKL : Hid ((keepL S out).length ≤ 1000000000) := Lib.hid (by have := keep_len S out; have := (ordL_len HSO.out).1; have := HN8.out; omega)
            have HSI := Lib.hid (fun W (h1 : IntsAt W R' (keepL S out).length (fun i => ((keepL S out).getD i 0 : Nat))) (h2 : IntsAt W R (keepL S out).length (fun i => ((keepL S out).getD i 0 : Nat))) => sameInts_eq R' R _ cR' cR _ W HKL.out h1 h2)
            clear hints'
            go_wp2_with fail
            refine HB0.out.mono ?_
            rintro e w5 ⟨rfl, hb5⟩
            have HB7 : Hid (Below w.heap.size w w5) := Lib.hid (HB6.out.trans (hb5.mono HB6.out.size))
            have HSI5 := Lib.hid (HSI.out w5 (HI4'.out.below hb5) (HI4.out.below hb5))
            clear hb5
            go_wp2_with fail
            refine HSI5.out.mono ?_
            rintro e w6 ⟨rfl, hb6⟩
            go_wp2
            go_ret
            exact ⟨rfl, HB7.out.trans (hb6.mono HB7.out.size)⟩
      · have HIS := Lib.hid (fun W (hb : Below w.heap.size w W) => iSerial_err A V c cv S W (HH.out.below hb) hz)
        have hz0 : (storyErr S == 0) = false := by simpa using hz
        have s0 := HC3.out.1
        have s1 := HC3.out.2.1
        have HIS3 := Lib.hid (HIS.out w2 HB4.out)
        have HBR3 := Lib.hid (HBR.out (storyErr S))
        clear hz HIS HBR
        generalize storyErr S = E at *
        go_wp2_with fail
        refine HIS3.out.mono ?_
        rintro e w3 ⟨rfl, hb3⟩
        have HB5 : Hid (Below w.heap.size w w3) := Lib.hid (HB4.out.trans (hb3.mono HB4.out.size))
        have HBR4 := Lib.hid (HBR3.out w3 HB5.out)
        have HSI := Lib.hid (fun W => sameInts_eq none none 0 0 0 (fun _ => 0) W (by omega) (fun i hi => absurd hi (by omega)) (fun i hi => absurd hi (by omega)))
        clear hb3
        go_wp2_with fail
        refine HBR4.out.mono ?_
        rintro e w4 ⟨rfl, hb4⟩
        have HB6 : Hid (Below w.heap.size w w4) := Lib.hid (HB5.out.trans (hb4.mono HB5.out.size))
        have HSI5 := Lib.hid (HSI.out w4)
        clear hb4
        go_wp2_with fail
        refine HSI5.out.mono ?_
        rintro e w5 ⟨rfl, hb5⟩
        go_wp2
        go_ret
        exact ⟨rfl, HB6.out.trans (hb5.mono HB6.out.size)⟩
end Go.Proofs.YtkncomfbedbikaaDoor
