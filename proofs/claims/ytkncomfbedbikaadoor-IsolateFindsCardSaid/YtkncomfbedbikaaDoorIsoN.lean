/- testimonyref.StorySerial, isolate.Serial: an order that fits all edges. -/
import Derived.Test.YtkncomfbedbikaaDoorIsoL
import Derived.Test.YtkncomfbedbikaaDoorIsoM
import Derived.Test.YtkncomfbedbikaaDoorIsoH
namespace Go.Proofs.YtkncomfbedbikaaDoor
open Go.RowKit
attribute [local go_sem] eq_nil ne_nil nil_eq_nil nil_ne_nil
def triMs (M1 M2 M3 : Nat → Nat → Bool) (t : Nat) : Nat → Nat → Bool := if t = 0 then M1 else if t = 1 then M2 else M3
/-- All edges of a story. -/
def serM (S : GStory) : Nat → Nat → Bool := orB (triMs (overPM S 8 0) (seenM S S.n 0) (anewM S S.n 0)) 3
theorem own_row {w : World} {base n : Nat} {v : Value} {l : List Nat} (hn : 0 < n) (h : w.ownsRow base 3 1 v n (intVals l)) : ∃ g cap f, v = .slice (some ⟨g, 0, none⟩) n cap ∧ n ≤ cap ∧ base ≤ g ∧ w.rowIs g 3 cap f ∧ l.length = n ∧ ∀ t, t < n → f t = .int .i64 (l.getD t 0 : Nat) := by
  rcases h.2 with ⟨rfl, h0⟩ | ⟨g, cap, cur, rfl, hb, hg, hnc, hc, hs, hx⟩
  · omega
  · have hl : l.length = n := by have := h.1; simpa [intVals] using this
    refine ⟨g, cap, fun t => cur.getD t (.int .i64 0), rfl, hnc, hb, ⟨cur, hg, by simpa using hs, fun i hi => by simp [Array.getD, show i < cur.size by omega]⟩, hl, fun t ht => ?_⟩
    have h1 : (cur.toList.take (n * 1))[t]? = some (.int .i64 ((l.getD t 0 : Nat) : Int)) := by
      rw [hx]
      unfold intVals
      rw [List.getElem?_map, List.getElem?_eq_getElem (by omega)]
      simp [List.getD, List.getElem?_eq_getElem (show t < l.length by omega)]
    rw [List.getElem?_take, if_pos (by omega)] at h1
    have h2 : cur[t]? = some (.int .i64 ((l.getD t 0 : Nat) : Int)) := by simpa using h1
    simp [Array.getD, (Array.getElem?_eq_some_iff.1 h2).1, (Array.getElem?_eq_some_iff.1 h2).2]
theorem gs_of_tri {w : World} {B n : Nat} {r : TriR} {M1 M2 M3 : Nat → Nat → Bool} {c1 c2 c3 : Nat} {ty : TypeId} (h : Tri w B n r M1 M2 M3) (h1 : n ≤ c1) (h2 : n ≤ c2) (h3 : n ≤ c3) :
    GsAt (w.alloc (.cells #[.slice (some ⟨r.g1, 0, none⟩) n c1, .slice (some ⟨r.g2, 0, none⟩) n c2, .slice (some ⟨r.g3, 0, none⟩) n c3] ty)) w.heap.size 3 n (triMs M1 M2 M3) := by
  refine ⟨by simp, fun t ht => ?_⟩
  have ha := h.alloc (.cells #[.slice (some ⟨r.g1, 0, none⟩) n c1, .slice (some ⟨r.g2, 0, none⟩) n c2, .slice (some ⟨r.g3, 0, none⟩) n c3] ty)
  match t, ht with
  | 0, _ => exact ⟨_, c1, by rw [World.cell?_alloc_new]; rfl, h1, ha.m1.reads⟩
  | 1, _ => exact ⟨_, c2, by rw [World.cell?_alloc_new]; rfl, h2, ha.m2.reads⟩
  | 2, _ => exact ⟨_, c3, by rw [World.cell?_alloc_new]; rfl, h3, ha.m3.reads⟩
def SerPost (S : GStory) (nv yes : Value) (w : World) (e : Ending) (w' : World) : Prop :=
  (ordL (serM S) S.n S.n = none ∧ e = .returned (.tuple #[.slice none 0 0, nv]) ∨ ∃ out R cR, ordL (serM S) S.n S.n = some out ∧ e = .returned (.tuple #[.slice R (keepL S out).length cR, yes]) ∧ IntsAt w' R (keepL S out).length (fun i => ((keepL S out).getD i 0 : Nat))) ∧ Below w.heap.size w w'
set_option maxRecDepth 100000 in
set_option maxHeartbeats 4000000 in
theorem iSerial_err (A V : Option Addr) (c cv : Nat) (S : GStory) (w : World) (h : StoryAt w A V S) (hz : storyErr S ≠ 0) :
    Calls Tryd.prog 34 #[.agg #[.slice A S.n c, .slice V S.m cv]] w fun e w' => e = .returned (.tuple #[.slice none 0 0, errV (storyErr S)]) ∧ Below w.heap.size w w' := by
  have HAL := Lib.hid (fun ob => iAll_err A V c cv S (w.alloc ob) (h.below ((Below.refl _ _).alloc (Nat.le_refl _) ob)) hz)
  have HB : Hid (∀ ob w2, Below (w.alloc ob).heap.size (w.alloc ob) w2 → Below w.heap.size w w2) := Lib.hid (fun ob w2 hb => ((Below.refl _ _).alloc (Nat.le_refl _) ob).trans (hb.mono (by simp)))
  simp only [errV_ne _ hz] at HAL ⊢
  clear h hz
  generalize storyErr S = E at *
  go_enter Tryd.func34, Tryd.ntmps34
  go_wp2_with fail
  refine (HAL.out _).mono ?_
  rintro e w2 ⟨rfl, hb2⟩
  have HB2 := Lib.hid (HB.out _ _ hb2)
  clear hb2
  go_wp2
  go_ret2
  exact ⟨rfl, HB2.out.alloc HB2.out.size _⟩
set_option maxRecDepth 100000 in
set_option maxHeartbeats 8000000 in
theorem iSerial_any (A V : Option Addr) (c cv : Nat) (S : GStory) (w : World) (h : StoryAt w A V S) (hz : storyErr S = 0) (hn0 : 0 < S.n) :
    Calls Tryd.prog 34 #[.agg #[.slice A S.n c, .slice V S.m cv]] w (SerPost S (.iface 23 (.int .i64 11)) .nilIface w) := by
  have HX : Hid (Below w.heap.size w (w.alloc (.cells #[.slice A S.n c, .slice V S.m cv] 77)) ∧ (w.alloc (.cells #[.slice A S.n c, .slice V S.m cv] 77)).cell? ⟨w.heap.size, 0, none⟩ = some (.slice A S.n c) ∧ w.heap.size < (w.alloc (.cells #[.slice A S.n c, .slice V S.m cv] 77)).heap.size) :=
    Lib.hid ⟨(Below.refl _ _).alloc (Nat.le_refl _) _, by simp [World.cell?_alloc_new], by simp⟩
  have hn8 := (story_ok hz).n
  have HS := Lib.hid h
  have HZ := Lib.hid hz
  clear h hz
  go_enter Tryd.func34, Tryd.ntmps34
  go_wp2_with fail
  obtain ⟨gs, hgs⟩ : ∃ gs, gs = w.heap.size := ⟨_, rfl⟩
  have HSW : Hid (StoryAt (w.alloc (.cells #[.slice A S.n c, .slice V S.m cv] 77)) A V S) := Lib.hid (HS.out.below HX.out.1)
  have HB0 : Hid (Below w.heap.size w (w.alloc (.cells #[.slice A S.n c, .slice V S.m cv] 77))) := Lib.hid HX.out.1
  have HX2 := Lib.hid HX.out.2
  rw [← hgs] at HX2 ⊢
  clear HX hgs HS
  generalize w.alloc (.cells #[.slice A S.n c, .slice V S.m cv] 77) = W0 at *
  refine (iAll_any A V c cv S W0 HSW.out HZ.out hn0).mono ?_
  rintro e w1 ⟨r, c1, c2, c3, rfl, hc1, hc2, hc3, htri, hb1⟩
  have HT : Hid (∀ ob, Tri (w1.alloc ob) W0.heap.size S.n r (overPM S 8 0) (seenM S S.n 0) (anewM S S.n 0)) := Lib.hid (fun ob => htri.alloc _)
  have HB1 : Hid (∀ ob ob2, Below W0.heap.size W0 ((w1.alloc ob).alloc ob2)) := Lib.hid (fun ob ob2 => (hb1.alloc hb1.size _).alloc (by simp; have := hb1.size; omega) _)
  have HGS : Hid (∀ ob, GsAt ((w1.alloc ob).alloc (.cells #[.slice (some ⟨r.g1, 0, none⟩) S.n c1, .slice (some ⟨r.g2, 0, none⟩) S.n c2, .slice (some ⟨r.g3, 0, none⟩) S.n c3] 156)) (w1.heap.size + 1) 3 S.n (triMs (overPM S 8 0) (seenM S S.n 0) (anewM S S.n 0))) := Lib.hid (fun ob => by
    have := gs_of_tri (ty := 156) (HT.out ob) hc1 hc2 hc3
    rwa [show (w1.alloc ob).heap.size = w1.heap.size + 1 by simp] at this)
  clear htri hb1
  go_wp2_with fail
  refine (together_any (w1.heap.size + 1) 3 3 S.n _ _ (by omega) (by omega) hn0 (by omega) (HGS.out _)).mono ?_
  rintro e w2 ⟨gO, cap, G, rfl, hcap, hmat, hb2⟩
  have HB2 : Hid (Below W0.heap.size W0 w2) := Lib.hid ((HB1.out _ _).trans (hb2.mono (HB1.out _ _).size))
  have HM := Lib.hid hmat.reads
  clear hmat hb2 HB1 HGS HT
  go_wp2_with fail
  refine (gOrder_any (some ⟨gO, 0, none⟩) S.n cap (serM S) w2 (by omega) HM.out).mono ?_
  rintro e w3 ⟨hcase, hb3⟩
  have HB3 : Hid (Below W0.heap.size W0 w3) := Lib.hid (HB2.out.trans (hb3.mono HB2.out.size))
  have HBF : Hid (Below w.heap.size w w3) := Lib.hid (HB0.out.trans (HB3.out.mono HB0.out.size))
  clear hb3 HM
  rcases hcase with ⟨hnone, rfl⟩ | ⟨out, A3, c3', hsome, rfl, _, hown⟩
  · have HNN := Lib.hid hnone
    clear hnone
    go_wp2
    go_ret2
    exact ⟨.inl ⟨HNN.out, rfl⟩, HBF.out⟩
  · obtain ⟨g, cap3, f, hve, hcap3, hge, hrow, hlen, hf⟩ := own_row hn0 hown
    injection hve with hv1 hv2 hv3
    subst hv1 hv3
    have hall := (ordL_len hsome).2
    have HSM := Lib.hid hsome
    have HD := Lib.hid (DeleteFunc_any A c gs S.n g c3' w2.heap.size S out f w3 (fun W hb => (HSW.out.below (HB3.out.trans (hb.mono HB2.out.size))).txs) ((HB3.out.cell (p := ⟨gs, 0, none⟩) HX2.out.2).trans HX2.out.1) (Nat.lt_of_lt_of_le HX2.out.2 HB2.out.size) (by omega) hlen
      (fun i hi => hall _ (by rw [List.getD, List.getElem?_eq_getElem (by omega)]; simp)) hrow hcap3 hge hf)
    have HSZ : Hid (w.heap.size ≤ w2.heap.size) := Lib.hid (Nat.le_trans HB0.out.size HB2.out.size)
    clear hsome hown hall hrow hf hge hcap3 hlen hv2
    go_wp2_with fail
    refine HD.out.mono ?_
    rintro e w4 ⟨R, cR, rfl, hints, hb4⟩
    have HI := Lib.hid hints
    have HB4 : Hid (Below w.heap.size w w4) := Lib.hid (HBF.out.trans (hb4.mono HSZ.out))
    clear hints hb4
    go_wp2
    go_ret2
    exact ⟨.inr ⟨out, R, cR, HSM.out, rfl, HI.out⟩, HB4.out⟩
theorem serM_eq {S : GStory} (h : StoryOk S) : orB (triMs (overRM S 8 0) (seenM S S.n 0) (anewM S S.n 0)) 3 = serM S := by
  unfold serM
  rw [show overRM S 8 0 = overPM S 8 0 from funext fun a => funext fun b => over_eq h a b]
set_option maxRecDepth 100000 in
set_option maxHeartbeats 8000000 in
theorem rSerial_any (A V : Option Addr) (c cv : Nat) (S : GStory) (w : World) (h : StoryAt w A V S) (hz : storyErr S = 0) (hn0 : 0 < S.n) :
    Calls Tryd.prog 33 #[.agg #[.slice A S.n c, .slice V S.m cv]] w (SerPost S (.bool false) (.bool true) w) := by
  have hok := story_ok hz
  have HX : Hid (Below w.heap.size w (w.alloc (.cells #[.slice A S.n c, .slice V S.m cv] 80)) ∧ (w.alloc (.cells #[.slice A S.n c, .slice V S.m cv] 80)).cell? ⟨w.heap.size, 0, none⟩ = some (.slice A S.n c) ∧ w.heap.size < (w.alloc (.cells #[.slice A S.n c, .slice V S.m cv] 80)).heap.size) :=
    Lib.hid ⟨(Below.refl _ _).alloc (Nat.le_refl _) _, by simp [World.cell?_alloc_new], by simp⟩
  have hn8 := hok.n
  have hne0 : ((S.n : Int) == 0) = false := by simp; omega
  have hne1 : (S.n == 0) = false := by simp; omega
  obtain ⟨i0, hi0, hz0, hz1, hz2⟩ := info_parts int_info
  have HS := Lib.hid h
  have HOK := Lib.hid hok
  clear h hz hok
  go_enter Tryd.func33, Tryd.ntmps33
  go_wp2_with fail
  obtain ⟨gs, hgs⟩ : ∃ gs, gs = w.heap.size := ⟨_, rfl⟩
  have HSW : Hid (StoryAt (w.alloc (.cells #[.slice A S.n c, .slice V S.m cv] 80)) A V S) := Lib.hid (HS.out.below HX.out.1)
  have HB0 : Hid (Below w.heap.size w (w.alloc (.cells #[.slice A S.n c, .slice V S.m cv] 80))) := Lib.hid HX.out.1
  have HX2 := Lib.hid HX.out.2
  rw [← hgs] at HX2 ⊢
  clear HX hgs HS
  generalize w.alloc (.cells #[.slice A S.n c, .slice V S.m cv] 80) = W0 at *
  refine (rEdges_any A V c cv S W0 HSW.out HOK.out hn0).mono ?_
  rintro e w1 ⟨r, c1, c2, c3, rfl, hc1, hc2, hc3, htri, hb1⟩
  have HB1 : Hid (∀ ob, Below W0.heap.size W0 (w1.alloc ob)) := Lib.hid (fun ob => hb1.alloc hb1.size _)
  have HGS : Hid (GsAt (w1.alloc (.cells #[.slice (some ⟨r.g1, 0, none⟩) S.n c1, .slice (some ⟨r.g2, 0, none⟩) S.n c2, .slice (some ⟨r.g3, 0, none⟩) S.n c3] 97)) w1.heap.size 3 S.n (triMs (overRM S 8 0) (seenM S S.n 0) (anewM S S.n 0))) := Lib.hid (gs_of_tri htri hc1 hc2 hc3)
  have s0 := (hb1.cell (p := ⟨gs, 0, none⟩) HX2.out.2).trans HX2.out.1
  clear htri hb1
  go_wp2_with fail
  refine (either_any w1.heap.size 3 3 S.n _ _ (by omega) (by omega) hn0 (by omega) HGS.out).mono ?_
  rintro e w2 ⟨gO, cap, G, rfl, hcap, hmat, hb2⟩
  have HB2 : Hid (Below W0.heap.size W0 w2) := Lib.hid ((HB1.out _).trans (hb2.mono (HB1.out _).size))
  have HM : Hid (BoolssAt w2 (some ⟨gO, 0, none⟩) S.n (serM S)) := Lib.hid (by rw [← serM_eq HOK.out]; exact hmat.reads)
  clear hmat hb2 HB1 HGS s0
  go_wp2_with fail
  refine (GraphOrder_any (some ⟨gO, 0, none⟩) S.n cap (serM S) w2 (by omega) HM.out).mono ?_
  rintro e w3 ⟨hcase, hb3⟩
  have HB3 : Hid (Below W0.heap.size W0 w3) := Lib.hid (HB2.out.trans (hb3.mono HB2.out.size))
  have HBF : Hid (Below w.heap.size w w3) := Lib.hid (HB0.out.trans (HB3.out.mono HB0.out.size))
  clear hb3 HM
  rcases hcase with ⟨hnone, rfl⟩ | ⟨out, A3, c3', hsome, rfl, hc3', hints⟩
  · have HNN := Lib.hid hnone
    clear hnone
    go_wp2_with fail
    go_loop [9, 33] (fun v x => v = .slice none 0 0 ∧ x = .int .i64 0) (fun _ _ => 0)
    case atStart => exact ⟨rfl, rfl⟩
    case round =>
      obtain ⟨rfl, rfl⟩ := hrel
      go_wp2
      go_ret2
      exact ⟨.inl ⟨HNN.out, rfl⟩, HBF.out⟩
  · have HSM := Lib.hid hsome
    have HI := Lib.hid hints
    obtain ⟨hlen, hall⟩ := ordL_len hsome
    have HLN := Lib.hid hlen
    have HLT : Hid (∀ i, i < S.n → out.getD i 0 < S.n) := Lib.hid (fun i hi => hall _ (by rw [List.getD, List.getElem?_eq_getElem (by omega)]; simp))
    clear hsome hints hlen hall
    go_wp2_with fail
    go_loopw [9, 33] (fun v x wr => ∃ j : Nat, x = .int .i64 j ∧ j ≤ S.n ∧ Below w.heap.size w wr ∧ Below W0.heap.size W0 wr ∧ Below w3.heap.size w3 wr ∧ wr.ownsRow w3.heap.size 3 1 v (keepL S (out.take j)).length (intVals (keepL S (out.take j)))) (fun _ x _ => S.n - (intOf x).toNat)
    case atStart => exact ⟨0, rfl, by omega, HBF.out, HB3.out, Below.refl _ _, own_nil _ _ _ _⟩
    case round =>
      obtain ⟨j, rfl, hj, hbw, hbw0, hbw3, hown⟩ := hrel
      have HB := Lib.hid hbw
      have HBW := Lib.hid hbw0
      have HBT := Lib.hid hbw3
      have HV := Lib.hid hown
      clear hbw hbw0 hbw3 hown
      by_cases hjn : j < S.n
      · obtain ⟨b3, o3, rfl, hb3, p0⟩ := (HI.out.below HBT.out) j hjn
        dsimp only at p0
        have hvn := HLT.out j hjn
        have HKT := Lib.hid (keep_take S out j (by rw [HLN.out]; exact hjn))
        have hkl : (keepL S (out.take j)).length ≤ 8 := by have := keep_len S (out.take j); simp at this; omega
        obtain ⟨v, hv⟩ : ∃ v, out.getD j 0 = v := ⟨_, rfl⟩
        rw [hv] at p0 hvn HKT
        have s0 := (HBW.out.cell (p := ⟨gs, 0, none⟩) HX2.out.2).trans HX2.out.1
        obtain ⟨bf, offf, rfl, hbf, hkf, A2f, c2f, f0, hkcf, f1, hopf⟩ := (HSW.out.below HBW.out).txs v hvn
        clear hv hopf hkcf hkf
        cases hc : S.c v
        · rw [hc] at f1 HKT
          have HK1 : Hid (keepL S (out.take (j + 1)) = keepL S (out.take j)) := Lib.hid (by rw [HKT.out]; simp)
          clear hc
          go_wp2
          go_roundw
          case rel => exact ⟨j + 1, by go_num, by omega, HB.out, HBW.out, HBT.out, by rw [HK1.out]; exact HV.out⟩
          case measure => go_light; simp [intOf] <;> omega
        · rw [hc] at f1 HKT
          have HK1 : Hid (keepL S (out.take (j + 1)) = keepL S (out.take j) ++ [v]) := Lib.hid (by rw [HKT.out]; simp)
          clear hc
          generalize hkn : (keepL S (out.take j)).length = kn at *
          have HKN := Lib.hid hkn
          clear hkn
          go_wp2_with (at_builtin; refine wpList_append_own _ rfl _ _ 34 rfl w3.heap.size 3 i0 (.int .i64 0) 1 8 Tryd.underlying34 hi0 hz0 hz1 hz2 rfl (by decide) _ _ _ rfl (HV.out.alloc _) ⟨wr.heap.size, 0, none⟩ 1 1 [.int .i64 (v : Int)] rfl rfl (news1v rfl _ _) (by intro u hu; simp at hu; rw [hu]; rfl) (by unfold maxLen; omega) (by omega) (by simp; have := HBT.out.size; omega) ?_; intro v' w1 hown1 hg1 _; have HV1 := Lib.hid hown1; have HG1 := Lib.hid hg1; clear hown1 hg1)
          go_roundw
          case rel =>
            have hz1' := HBT.out.size
            have hz2' := HB3.out.size
            have hz3' := HBF.out.size
            refine ⟨j + 1, by go_num, by omega, (HB.out.alloc HB.out.size _).grown HG1.out (by simp; have := HB.out.size; omega) (fun k hk => by have := own_ge HV.out k hk; omega), (HBW.out.alloc HBW.out.size _).grown HG1.out (by simp; have := HBW.out.size; omega) (fun k hk => by have := own_ge HV.out k hk; omega), (HBT.out.alloc HBT.out.size _).grown HG1.out (by simp; have := HBT.out.size; omega) (own_ge HV.out), ?_⟩
            rw [HK1.out, ← intVals_snoc, List.length_append, HKN.out]
            exact HV1.out
          case measure => go_light; simp [intOf] <;> omega
      · obtain rfl : j = S.n := by omega
        have HKF : Hid (keepL S out = keepL S (out.take S.n)) := Lib.hid (by rw [List.take_of_length_le (by rw [HLN.out]; exact Nat.le_refl _)])
        obtain ⟨R, cR, rfl, hcR, hints⟩ := own_list HV.out
        have HI9 := Lib.hid hints
        clear hints
        go_wp2
        go_ret2
        exact ⟨.inr ⟨out, R, cR, HSM.out, by rw [HKF.out]; rfl, by rw [HKF.out]; exact HI9.out⟩, HB.out⟩
end Go.Proofs.YtkncomfbedbikaaDoor
