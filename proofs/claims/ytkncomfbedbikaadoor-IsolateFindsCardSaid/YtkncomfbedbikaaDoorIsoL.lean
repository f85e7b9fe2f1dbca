/- isolate.All of a story without an error. -/
import Derived.Test.YtkncomfbedbikaaDoorIsoK
import Derived.Test.YtkncomfbedbikaaDoorTail
namespace Go.Proofs.YtkncomfbedbikaaDoor
open Go.RowKit
attribute [local go_sem] eq_nil ne_nil nil_eq_nil nil_ne_nil
set_option maxRecDepth 100000 in
set_option maxHeartbeats 16000000 in
theorem iAll_any (A V : Option Addr) (c cv : Nat) (S : GStory) (w : World) (h : StoryAt w A V S) (hz : storyErr S = 0) (hn0 : 0 < S.n) :
    Calls Tryd.prog 81 #[.agg #[.slice A S.n c, .slice V S.m cv]] w (AllPost S w) := by
  have HCK := Lib.hid (fun W (hb : Below w.heap.size w W) => iCheck_any A V c cv S W (h.below hb))
  have hok := story_ok hz
  have HOK := Lib.hid hok
  have hn8 := hok.n
  have hm8 : S.m ≤ 8 := by have := hok.m; omega
  have HX := Lib.hid (boxes2 w #[.slice A S.n c, .slice V S.m cv] #[.slice none 0 0, .slice none 0 0, .slice none 0 0] 77 166)
  have HR : Hid (ResBox ((w.alloc (.cells #[.slice A S.n c, .slice V S.m cv] 77)).alloc (.cells #[.slice none 0 0, .slice none 0 0, .slice none 0 0] 166)) (w.heap.size + 1)) := Lib.hid ⟨fun i hi => by
    rw [HX.out.2.1]
    match i, hi with
    | 0, _ => rfl
    | 1, _ => rfl
    | 2, _ => rfl, HX.out.2.2.1, HX.out.2.2.2.2⟩
  have HH := Lib.hid h
  rw [hz, errV_zero] at HCK
  clear h hz hok
  go_enter Tryd.func81, Tryd.ntmps81
  go_wp2_with fail
  have HB0 := Lib.hid HX.out.2.2.2.1
  have hs0 := HX.out.1 0
  have hs1 := HX.out.1 1
  obtain ⟨gs, hgs⟩ : ∃ gs, gs = w.heap.size := ⟨_, rfl⟩
  have HGS : Hid (gs < (((w.alloc (.cells #[.slice A S.n c, .slice V S.m cv] 77)).alloc (.cells #[.slice none 0 0, .slice none 0 0, .slice none 0 0] 166))).heap.size ∧ w.heap.size ≤ gs + 1) := Lib.hid ⟨by have := HX.out.2.2.2.2; omega, by omega⟩
  rw [← hgs] at HR hs0 hs1 ⊢
  clear HX hgs
  generalize (w.alloc (.cells #[.slice A S.n c, .slice V S.m cv] 77)).alloc (.cells #[.slice none 0 0, .slice none 0 0, .slice none 0 0] 166) = W9 at *
  refine (HCK.out W9 HB0.out).mono ?_
  rintro e W0 ⟨rfl, hb1⟩
  have HBW : Hid (Below w.heap.size w W0) := Lib.hid (HB0.out.trans (hb1.mono HB0.out.size))
  have HR1 := Lib.hid (HR.out.below hb1 HR.out.lt)
  have HX2 : Hid (W0.cell? ⟨gs, 0, none⟩ = some (.slice A S.n c) ∧ W0.cell? ⟨gs, 1, none⟩ = some (.slice V S.m cv) ∧ gs < W0.heap.size ∧ gs + 1 < W0.heap.size) := Lib.hid ⟨(hb1.cell (p := ⟨gs, 0, none⟩) HGS.out.1).trans hs0, (hb1.cell (p := ⟨gs, 1, none⟩) HGS.out.1).trans hs1, Nat.lt_of_lt_of_le HGS.out.1 hb1.size, HR1.out.lt⟩
  have HGW := Lib.hid HGS.out.2
  have HSW := Lib.hid (HH.out.below HBW.out)
  clear hs0 hs1 hb1 HGS HB0 HR HH HCK
  have s0 := HX2.out.1
  have s1 := HX2.out.2.1
  have HB1 := Lib.hid (empty_any S.n W0 hn0 (by omega))
  go_wp2_with fail
  refine HB1.out.mono ?_
  rintro e w1 ⟨g1, c1, G1, rfl, hc1, hm1, hb1⟩
  have HM1 := Lib.hid hm1
  have HBB1 := Lib.hid hb1
  have HB2 := Lib.hid (empty_any S.n w1 hn0 (by omega))
  clear hm1 hb1
  go_wp2_with fail
  refine HB2.out.mono ?_
  rintro e w2 ⟨g2, c2, G2, rfl, hc2, hm2, hb2⟩
  have HM2 := Lib.hid hm2
  have HM1' := Lib.hid (HM1.out.below hb2)
  have HBB2 : Hid (Below W0.heap.size W0 w2) := Lib.hid (HBB1.out.trans (hb2.mono HBB1.out.size))
  have HSZ2 := Lib.hid hb2.size
  have HB3 := Lib.hid (empty_any S.n w2 hn0 (by omega))
  clear hm2 hb2
  go_wp2_with fail
  refine HB3.out.mono ?_
  rintro e w3 ⟨g3, c3, G3, rfl, hc3, hm3, hb3⟩
  obtain ⟨r, hr⟩ : ∃ r : TriR, r = ⟨w1.heap.size, w2.heap.size, w3.heap.size, g1, g2, g3, G1, G2, G3⟩ := ⟨_, rfl⟩
  have HT : Hid (Tri w3 W0.heap.size S.n r (overPM S 0 0) (seenM S 0 0) (anewM S 0 0) ∧ r.g1 = g1 ∧ r.g2 = g2 ∧ r.g3 = g3) := Lib.hid (by
    subst hr
    refine ⟨⟨(HM1'.out.below hb3).congr fun a b _ _ => ?_, (HM2.out.below hb3).congr fun a b _ _ => ?_, hm3.congr fun a b _ _ => ?_, HBB1.out.size, HSZ2.out, hb3.size⟩, rfl, rfl, rfl⟩
    · exact (twoB_zero _ _).symm
    · exact (twoB_zero _ _).symm
    · exact (twoB_zero _ _).symm)
  have HBB3 : Hid (Below W0.heap.size W0 w3) := Lib.hid (HBB2.out.trans (hb3.mono HBB2.out.size))
  obtain ⟨rfl, rfl, rfl⟩ := HT.out.2
  have HT1 := Lib.hid HT.out.1
  clear HT HM1 HM1' HM2 hm3 hb3 HBB1 HBB2 HSZ2 hr s0 s1
  have s0 := (HBB3.out.cell (p := ⟨gs, 0, none⟩) HX2.out.2.2.1).trans HX2.out.1
  have s1 := (HBB3.out.cell (p := ⟨gs, 1, none⟩) HX2.out.2.2.1).trans HX2.out.2.1
  have hgl3 : gs < w3.heap.size := Nat.lt_of_lt_of_le HX2.out.2.2.1 HBB3.out.size
  have HE : Hid (EBox (w3.alloc (.cells #[.slice (some ⟨r.g1, 0, none⟩) S.n c1, .slice (some ⟨r.g2, 0, none⟩) S.n c2, .slice (some ⟨r.g3, 0, none⟩) S.n c3] 166)) w3.heap.size r S.n c1 c2 c3 ∧ Tri (w3.alloc (.cells #[.slice (some ⟨r.g1, 0, none⟩) S.n c1, .slice (some ⟨r.g2, 0, none⟩) S.n c2, .slice (some ⟨r.g3, 0, none⟩) S.n c3] 166)) W0.heap.size S.n r (overPM S 0 0) (seenM S 0 0) (anewM S 0 0) ∧ Below W0.heap.size W0 (w3.alloc (.cells #[.slice (some ⟨r.g1, 0, none⟩) S.n c1, .slice (some ⟨r.g2, 0, none⟩) S.n c2, .slice (some ⟨r.g3, 0, none⟩) S.n c3] 166))) :=
    Lib.hid ⟨⟨by simp [World.cell?_alloc_new], by simp [World.cell?_alloc_new], by simp [World.cell?_alloc_new], by simp⟩, HT1.out.alloc _, HBB3.out.alloc HBB3.out.size _⟩
  go_wp2_with fail
  obtain ⟨be, hbe⟩ : ∃ be, be = w3.heap.size := ⟨_, rfl⟩
  have HBE : Hid (r.h3 ≤ be ∧ W0.heap.size ≤ be) := Lib.hid ⟨by rw [hbe]; exact HT1.out.m3.top, by rw [hbe]; exact HBB3.out.size⟩
  rw [← hbe] at HE ⊢
  clear hbe HT1 HBB3 s0 s1 hgl3
  go_loopw [33] (fun x wr => ∃ q : Nat, x = .int .i64 q ∧ q ≤ S.m ∧ Below W0.heap.size W0 wr ∧ Tri wr W0.heap.size S.n r (overPM S q 0) (seenM S 0 0) (anewM S 0 0) ∧ EBox wr be r S.n c1 c2 c3) (fun x _ => S.m - (intOf x).toNat)
  case atStart => exact ⟨0, rfl, by omega, HE.out.2.2, HE.out.2.1, HE.out.1⟩
  case round =>
    clear HE
    obtain ⟨q, rfl, hq, hbw, htri, hebx⟩ := hrel
    have HB := Lib.hid hbw
    have HT := Lib.hid htri
    have HE := Lib.hid hebx
    clear hbw htri hebx
    by_cases hqm : q < S.m
    · obtain ⟨vb, vo, rfl, hvb0, hL, A2', cc2', hvc0, hlc, hI0⟩ := HSW.out.rows q hqm
      have hvc := (HB.out.cell (p := ⟨vb, vo + q, none⟩) hvb0).trans hvc0
      have HI0 := Lib.hid hI0
      clear hI0 hvc0
      go_wp2_with fail
      go_loopw [9] (fun x wr => ∃ j : Nat, x = .int .i64 ((j : Int) + 1) ∧ j ≤ S.l q - 1 ∧ Below W0.heap.size W0 wr ∧ Tri wr W0.heap.size S.n r (overPM S q j) (seenM S 0 0) (anewM S 0 0) ∧ EBox wr be r S.n c1 c2 c3) (fun x _ => S.l q + 1 - (intOf x).toNat)
      case atStart => exact ⟨0, by go_num, by omega, HB.out, HT.out, HE.out⟩
      case round =>
        clear HB HT HE hvc
        obtain ⟨j, rfl, hj, hbw, htri, hebx⟩ := hrel
        have HB := Lib.hid hbw
        have HT := Lib.hid htri
        have HE := Lib.hid hebx
        clear hbw htri hebx
        by_cases hjl : j + 1 < S.l q
        · obtain ⟨b3, o3, rfl, hb3, p0⟩ := (HI0.out.below HB.out) j (by omega)
          obtain ⟨b3', o3', hAe, _, p1⟩ := (HI0.out.below HB.out) (j + 1) hjl
          injection hAe with hAe
          injection hAe with hAe1 hAe2
          subst hAe1 hAe2
          obtain ⟨f, hf, hfn, _⟩ := HOK.out.ent q j (by have := HOK.out.m; omega) (by omega)
          obtain ⟨b, hb, hbn, _⟩ := HOK.out.ent q (j + 1) (by have := HOK.out.m; omega) hjl
          rw [hf] at p0
          rw [hb] at p1
          have HM2 : Hid (∀ a b', (if a = f ∧ b' = b then true else overPM S q j a b') = overPM S q (j + 1) a b') := Lib.hid (fun a b' => by
            rw [show overPM S q (j + 1) a b' = (overPM S q j a b' || overP S q j a b') from twoB_succ _ _ _ _]
            refine mark ?_
            unfold overP
            rw [hf, hb]
            apply Bool.eq_iff_iff.2
            simp
            omega)
          have e1 := HE.out.e1
          have x1 := HT.out.m1.out f hfn
          have x2 := HT.out.m1.cell hfn hbn
          have x3 := (HT.out.m1.row f hfn).frozen b
          have HGE := Lib.hid (HT.out.ge1 hfn)
          have HNE : Hid (be ≠ r.G1 f) := Lib.hid (by have := HBE.out; have := (HT.out.lt3 hfn).1; omega)
          have hw1 : IntKind.i64.wrap ((j : Int) + 1 - 1) = (j : Int) := by rw [show (j : Int) + 1 - 1 = j by omega]; exact IntWalk.i64_in _ (by omega)
          have hjL : ((j : Int) + 1) < (S.l q : Int) := by omega
          have hjt : ((j : Int) + 1).toNat = j + 1 := by omega
          clear hf hb
          go_wp2_with fail
          refine wp_region_still_tail 14 (by kernel_rfl) (by kernel_rfl) ?_
          simp only [List.take_succ_cons, List.take_zero, List.drop_succ_cons, List.drop_zero]
          change wpStill _ _ wr.drew _ _ _
          refine wpStill_of_quiet ?_
          repeat (go_big_quiet_step (fail))
          refine wpQuiet_nil ?_
          change wpList _ _ _ _ _ wr.drew
          go_wp2
          go_roundw
          case rel => exact ⟨j + 1, by go_num, by omega, (HB.out.setCell HGE.out _).drew, ((HT.out.set1 hfn b).congr HM2.out (fun _ _ => rfl) (fun _ _ => rfl)).drew, HE.out.keep (heap_setCell_other _ _ _ _ HNE.out) (by simp [World.setCell, heap_drew])⟩
          case measure => go_light; simp [intOf] <;> omega
        · obtain rfl : j = S.l q - 1 := by omega
          have hd : decide ((((S.l q - 1 : Nat) : Int)) + 1 < (S.l q : Int)) = false := by simp; omega
          go_wp2
          go_roundw
          case rel => exact ⟨q + 1, by go_num, by omega, HB.out, HT.out.congr (fun a b => twoB_next _ _ _) (fun _ _ => rfl) (fun _ _ => rfl), HE.out⟩
          case measure => go_light; simp [intOf] <;> omega
    · obtain rfl : q = S.m := by omega
      have HT8 : Hid (Tri wr W0.heap.size S.n r (overPM S 8 0) (seenM S 0 0) (anewM S 0 0)) := Lib.hid (by have := HT.out; rwa [HOK.out.m] at this)
      have s0 := (HB.out.cell (p := ⟨gs, 0, none⟩) HX2.out.2.2.1).trans HX2.out.1
      clear HT
      go_wp2_with fail
      go_loopw [61] (fun x wr => ∃ T : Nat, x = .int .i64 T ∧ T ≤ S.n ∧ Below W0.heap.size W0 wr ∧ Tri wr W0.heap.size S.n r (overPM S 8 0) (seenM S T 0) (anewM S T 0) ∧ EBox wr be r S.n c1 c2 c3) (fun x _ => S.n - (intOf x).toNat)
      case atStart => exact ⟨0, rfl, by omega, HB.out, HT8.out, HE.out⟩
      case round =>
        clear HB HT8 HE s0
        obtain ⟨wo, rfl⟩ : ∃ wo : World, wo = wr := ⟨_, rfl⟩
        obtain ⟨T, rfl, hT, hbw, htri, hebx⟩ := hrel
        have HB := Lib.hid hbw
        have HT := Lib.hid htri
        have HE := Lib.hid hebx
        clear hbw htri hebx
        by_cases hTn : T < S.n
        · obtain ⟨b, off, rfl, hb, hk, A2, cc2, g0, hkc, g1, hops⟩ := HSW.out.txs T hTn
          have HO := Lib.hid hops
          have g0' := (HB.out.cell (p := ⟨b, off + T * 2, none⟩) hb).trans g0
          have g1' := (HB.out.cell (p := ⟨b, off + T * 2 + 1, none⟩) hb).trans g1
          have HK60 := Lib.hid (HOK.out.k T hTn)
          obtain ⟨bt, hbt⟩ : ∃ bt, bt = wo.heap.size := ⟨_, rfl⟩
          have HW : Hid (Below W0.heap.size W0 (wo.alloc (.cells #[.slice A2 (S.k T) cc2, .bool (S.c T)] 152)) ∧ Tri (wo.alloc (.cells #[.slice A2 (S.k T) cc2, .bool (S.c T)] 152)) W0.heap.size S.n r (overPM S 8 0) (seenM S T 0) (anewM S T 0) ∧ (wo.alloc (.cells #[.slice A2 (S.k T) cc2, .bool (S.c T)] 152)).cell? ⟨bt, 1, none⟩ = some (.bool (S.c T)) ∧ bt < (wo.alloc (.cells #[.slice A2 (S.k T) cc2, .bool (S.c T)] 152)).heap.size ∧ EBox (wo.alloc (.cells #[.slice A2 (S.k T) cc2, .bool (S.c T)] 152)) be r S.n c1 c2 c3) :=
            Lib.hid ⟨HB.out.alloc HB.out.size _, HT.out.alloc _, by rw [hbt]; simp [World.cell?_alloc_new], by rw [hbt]; simp, HE.out.alloc _⟩
          have HBT : Hid (r.h3 ≤ bt ∧ W0.heap.size ≤ bt) := Lib.hid ⟨by rw [hbt]; exact HT.out.m3.top, by rw [hbt]; exact HB.out.size⟩
          clear g0 g1 hops hkc hk
          go_wp2_with fail
          rw [← hbt]
          clear hbt
          go_loopw [69] (fun x wr => ∃ J : Nat, x = .int .i64 J ∧ J ≤ S.k T ∧ Below W0.heap.size W0 wr ∧ Tri wr W0.heap.size S.n r (overPM S 8 0) (seenM S T J) (anewM S T J) ∧ wr.cell? ⟨bt, 1, none⟩ = some (.bool (S.c T)) ∧ bt < wr.heap.size ∧ EBox wr be r S.n c1 c2 c3) (fun x _ => S.k T - (intOf x).toNat)
          case atStart => exact ⟨0, rfl, by omega, HW.out.1, HW.out.2.1, HW.out.2.2.1, HW.out.2.2.2.1, HW.out.2.2.2.2⟩
          case round =>
            clear HB HT HW g0' g1' HE
            obtain ⟨J, rfl, hJ, hbw, htri, hbc, hbl, hebx⟩ := hrel
            have HB := Lib.hid hbw
            have HT := Lib.hid htri
            have HBC := Lib.hid hbc
            have HE := Lib.hid hebx
            clear hbw htri hebx
            by_cases hJk : J < S.k T
            · obtain ⟨b3, off3, rfl, hb3, p0, p1, p2, p3⟩ := (HO.out.below HB.out) J hJk
              have hJ60 : J + 1 ≤ 60 := by have := HK60.out; omega
              obtain ⟨o, ho⟩ : ∃ o, S.o T J = o := ⟨_, rfl⟩
              have hop := HOK.out.op T J hTn hJk
              have hnm := HOK.out.num T J hTn hJk
              rw [ho] at p0 p1 p2 p3 hop hnm
              have HSS : Hid (∀ a b, seenM S T (J + 1) a b = (seenM S T J a b || seenH S T o a b)) := Lib.hid (fun a b => by unfold seenM; rw [twoB_succ, ho])
              have HSA : Hid (∀ a b, anewM S T (J + 1) a b = (anewM S T J a b || anewH S T o a b)) := Lib.hid (fun a b => by unfold anewM; rw [twoB_succ, ho])
              have ht := act_tree S T o hop.2.2.1
              have HOP := Lib.hid hop
              have HNM := Lib.hid hnm
              clear hnm
              obtain ⟨owr, okey, ofrm, onum⟩ := o
              dsimp only at p0 p1 p2 p3 hop ht
              have HAL : Hid (∀ ob, Below W0.heap.size W0 (wr.alloc ob) ∧ Tri (wr.alloc ob) W0.heap.size S.n r (overPM S 8 0) (seenM S T J) (anewM S T J) ∧ (wr.alloc ob).cell? ⟨bt, 1, none⟩ = some (.bool (S.c T)) ∧ bt < (wr.alloc ob).heap.size ∧ EBox (wr.alloc ob) be r S.n c1 c2 c3) :=
                Lib.hid (fun ob => ⟨HB.out.alloc HB.out.size _, HT.out.alloc _, (((Below.refl _ wr).alloc (Nat.le_refl _) ob).cell (p := ⟨bt, 1, none⟩) hbl).trans HBC.out, by simp; omega, HE.out.alloc _⟩)
              have s0 := (HB.out.cell (p := ⟨gs, 0, none⟩) HX2.out.2.2.1).trans HX2.out.1
              have hgl : gs < wr.heap.size := Nat.lt_of_lt_of_le HX2.out.2.2.1 HB.out.size
              have hel := HE.out.lt
              clear ho
              rcases ht with ⟨d1, hact⟩ | ⟨d1, d2, hact⟩ | ⟨d1, d2, d3, hact⟩ | ⟨f, d1, d2, d3, d4, hact⟩ | ⟨f, d1, d2, d3, d4, hact⟩
              · rw [d1] at hbc
                clear d1
                go_wp2
                go_roundw
                case rel => exact ⟨J + 1, by go_num, by omega, (HAL.out _).1, (HAL.out _).2.1.congr (fun _ _ => rfl) (fun a b => by rw [HSS.out, seenH_act hact, Bool.or_false]) (fun a b => by rw [HSA.out, anewH_act hact, Bool.or_false]), (HAL.out _).2.2.1, (HAL.out _).2.2.2⟩
                case measure => go_light; simp [intOf] <;> omega
              · subst d2
                rw [d1] at hbc
                clear d1
                go_wp2
                go_roundw
                case rel => exact ⟨J + 1, by go_num, by omega, (HAL.out _).1, (HAL.out _).2.1.congr (fun _ _ => rfl) (fun a b => by rw [HSS.out, seenH_act hact, Bool.or_false]) (fun a b => by rw [HSA.out, anewH_act hact, Bool.or_false]), (HAL.out _).2.2.1, (HAL.out _).2.2.2⟩
                case measure => go_light; simp [intOf] <;> omega
              · subst d2 d3
                rw [d1] at hbc
                clear d1
                have HRD := Lib.hid (fun W (hb : Below W0.heap.size W0 W) (htr : Tri W W0.heap.size S.n r (overPM S 8 0) (seenM S T J) (anewM S T J)) => iread_any (some ⟨b, off, none⟩) V c cv S T ⟨false, okey, (-1), onum⟩ W W0.heap.size r c1 c2 c3 (overPM S 8 0) (seenM S T J) (anewM S T J) (HSW.out.below hb) HOK.out hTn hact rfl HOP.out (fun f hf => absurd hf (by show ¬ (-1 : Int) = f; omega)) hc1 hc2 hc3 htr hb.size
                  (fun vb vo hv => by subst hv; obtain ⟨b9, o9, he, hl, _⟩ := HSW.out.rows 0 (by have := HOK.out.m; omega); injection he with he; injection he with he1 he2; subst he1; exact hl)
                  (fun q hq A9 c9 hx b9 o9 h9 hl9 => by
                    obtain ⟨vb, vo, hv, hcell⟩ := hx
                    subst hv
                    obtain ⟨b8, o8, he, hl8, _, A8, c8, hc8, _, hi8⟩ := HSW.out.rows q hq
                    injection he with he
                    injection he with he1 he2
                    subst he1 he2
                    have hh := ((hb.cell (p := ⟨vb, vo + q, none⟩) hl8).trans hc8).symm.trans hcell
                    injection hh with hh
                    injection hh with hh1 _ hh2
                    subst hh1
                    obtain ⟨b7, o7, he7, hl7, _⟩ := hi8 0 hl9
                    rw [h9] at he7
                    injection he7 with he7
                    injection he7 with he71 he72
                    rw [he71]
                    exact hl7))
                have HWA := Lib.hid (HAL.out (.cells #[.bool false, .int .i64 okey, .int .i64 (-1), .int .i64 onum] 139))
                have s1 := (HWA.out.1.cell (p := ⟨gs, 1, none⟩) HX2.out.2.2.1).trans HX2.out.2.1
                have e1 := HWA.out.2.2.2.2.e1
                have e2 := HWA.out.2.2.2.2.e2
                have e3 := HWA.out.2.2.2.2.e3
                have s0' := (HWA.out.1.cell (p := ⟨gs, 0, none⟩) HX2.out.2.2.1).trans HX2.out.1
                have o0 : (wr.alloc (.cells #[.bool false, .int .i64 okey, .int .i64 (-1), .int .i64 onum] 139)).cell? ⟨wr.heap.size, 0, none⟩ = some (.bool false) := by simp [World.cell?_alloc_new]
                have o1 : (wr.alloc (.cells #[.bool false, .int .i64 okey, .int .i64 (-1), .int .i64 onum] 139)).cell? ⟨wr.heap.size, 1, none⟩ = some (.int .i64 okey) := by simp [World.cell?_alloc_new]
                have o2 : (wr.alloc (.cells #[.bool false, .int .i64 okey, .int .i64 (-1), .int .i64 onum] 139)).cell? ⟨wr.heap.size, 2, none⟩ = some (.int .i64 (-1)) := by simp [World.cell?_alloc_new]
                have o3 : (wr.alloc (.cells #[.bool false, .int .i64 okey, .int .i64 (-1), .int .i64 onum] 139)).cell? ⟨wr.heap.size, 3, none⟩ = some (.int .i64 onum) := by simp [World.cell?_alloc_new]
                go_wp2_with fail
                generalize wr.alloc (.cells #[.bool false, .int .i64 okey, .int .i64 (-1), .int .i64 onum] 139) = W at *
                refine (HRD.out W HWA.out.1 HWA.out.2.1).mono ?_
                rintro e w5 ⟨rfl, htr5, hb5, hk5⟩
                have HT5 := Lib.hid (htr5.congr (N1 := overPM S 8 0) (N2 := seenM S T (J + 1)) (N3 := anewM S T (J + 1)) (fun _ _ => rfl) (fun a b => (HSS.out a b).symm) (fun a b => (HSA.out a b).symm))
                have HB5 : Hid (Below W0.heap.size W0 w5) := Lib.hid (HWA.out.1.trans hb5)
                have HE5 : Hid (EBox w5 be r S.n c1 c2 c3) := Lib.hid (HWA.out.2.2.2.2.keep (hk5 be HBE.out.1 HWA.out.2.2.2.2.lt) hb5.size)
                have HC5 : Hid (w5.cell? ⟨bt, 1, none⟩ = some (.bool (S.c T)) ∧ bt < w5.heap.size) := Lib.hid ⟨(World.cell?_of_block (w := W) (hk5 bt HBT.out.1 HWA.out.2.2.2.1)).trans HWA.out.2.2.1, Nat.lt_of_lt_of_le HWA.out.2.2.2.1 hb5.size⟩
                clear htr5 hb5 hk5 s1 e1 e2 e3 s0' o0 o1 o2 o3
                go_wp2
                go_roundw
                case rel => exact ⟨J + 1, by go_num, by omega, HB5.out, HT5.out, HC5.out.1, HC5.out.2, HE5.out⟩
                case measure => go_light; simp [intOf] <;> omega
              · subst d2 d3
                obtain ⟨bf, offf, hAe, hbf, _, A2f, c2f, f0, _, f1, _⟩ := (HSW.out.below HB.out).txs f (by omega)
                injection hAe with hAe
                injection hAe with hAe1 hAe2
                subst hAe1 hAe2
                rw [d1] at hbc
                clear d1
                rw [d4] at f1
                clear d4
                go_wp2
                go_roundw
                case rel => exact ⟨J + 1, by go_num, by omega, (HAL.out _).1, (HAL.out _).2.1.congr (fun _ _ => rfl) (fun a b => by rw [HSS.out, seenH_act hact, Bool.or_false]) (fun a b => by rw [HSA.out, anewH_act hact, Bool.or_false]), (HAL.out _).2.2.1, (HAL.out _).2.2.2⟩
                case measure => go_light; simp [intOf] <;> omega
              · subst d2 d3
                have hfn : f < S.n := by omega
                obtain ⟨bf', offf', hAe', hbf', _, A2f', c2f', f0', _, f1', _⟩ := (HSW.out.below HB.out).txs f hfn
                injection hAe' with hAe'
                injection hAe' with hAe1' hAe2'
                subst hAe1' hAe2'
                rw [d1] at hbc
                clear d1
                rw [d4] at f1'
                clear d4
                have hf1 : ((f : Int) == -1) = false := by simp
                have HRD := Lib.hid (fun W (hb : Below W0.heap.size W0 W) (htr : Tri W W0.heap.size S.n r (overPM S 8 0) (seenM S T J) (anewM S T J)) => iread_any (some ⟨b, off, none⟩) V c cv S T ⟨false, okey, (f : Int), onum⟩ W W0.heap.size r c1 c2 c3 (overPM S 8 0) (seenM S T J) (anewM S T J) (HSW.out.below hb) HOK.out hTn hact rfl HOP.out (fun f' hf => HNM.out rfl f' hf) hc1 hc2 hc3 htr hb.size
                  (fun vb vo hv => by subst hv; obtain ⟨b9, o9, he, hl, _⟩ := HSW.out.rows 0 (by have := HOK.out.m; omega); injection he with he; injection he with he1 he2; subst he1; exact hl)
                  (fun q hq A9 c9 hx b9 o9 h9 hl9 => by
                    obtain ⟨vb, vo, hv, hcell⟩ := hx
                    subst hv
                    obtain ⟨b8, o8, he, hl8, _, A8, c8, hc8, _, hi8⟩ := HSW.out.rows q hq
                    injection he with he
                    injection he with he1 he2
                    subst he1 he2
                    have hh := ((hb.cell (p := ⟨vb, vo + q, none⟩) hl8).trans hc8).symm.trans hcell
                    injection hh with hh
                    injection hh with hh1 _ hh2
                    subst hh1
                    obtain ⟨b7, o7, he7, hl7, _⟩ := hi8 0 hl9
                    rw [h9] at he7
                    injection he7 with he7
                    injection he7 with he71 he72
                    rw [he71]
                    exact hl7))
                have HWA := Lib.hid (HAL.out (.cells #[.bool false, .int .i64 okey, .int .i64 (f : Int), .int .i64 onum] 139))
                have s1 := (HWA.out.1.cell (p := ⟨gs, 1, none⟩) HX2.out.2.2.1).trans HX2.out.2.1
                have e1 := HWA.out.2.2.2.2.e1
                have e2 := HWA.out.2.2.2.2.e2
                have e3 := HWA.out.2.2.2.2.e3
                have s0' := (HWA.out.1.cell (p := ⟨gs, 0, none⟩) HX2.out.2.2.1).trans HX2.out.1
                have o0 : (wr.alloc (.cells #[.bool false, .int .i64 okey, .int .i64 (f : Int), .int .i64 onum] 139)).cell? ⟨wr.heap.size, 0, none⟩ = some (.bool false) := by simp [World.cell?_alloc_new]
                have o1 : (wr.alloc (.cells #[.bool false, .int .i64 okey, .int .i64 (f : Int), .int .i64 onum] 139)).cell? ⟨wr.heap.size, 1, none⟩ = some (.int .i64 okey) := by simp [World.cell?_alloc_new]
                have o2 : (wr.alloc (.cells #[.bool false, .int .i64 okey, .int .i64 (f : Int), .int .i64 onum] 139)).cell? ⟨wr.heap.size, 2, none⟩ = some (.int .i64 (f : Int)) := by simp [World.cell?_alloc_new]
                have o3 : (wr.alloc (.cells #[.bool false, .int .i64 okey, .int .i64 (f : Int), .int .i64 onum] 139)).cell? ⟨wr.heap.size, 3, none⟩ = some (.int .i64 onum) := by simp [World.cell?_alloc_new]
                go_wp2_with fail
                generalize wr.alloc (.cells #[.bool false, .int .i64 okey, .int .i64 (f : Int), .int .i64 onum] 139) = W at *
                refine (HRD.out W HWA.out.1 HWA.out.2.1).mono ?_
                rintro e w5 ⟨rfl, htr5, hb5, hk5⟩
                have HT5 := Lib.hid (htr5.congr (N1 := overPM S 8 0) (N2 := seenM S T (J + 1)) (N3 := anewM S T (J + 1)) (fun _ _ => rfl) (fun a b => (HSS.out a b).symm) (fun a b => (HSA.out a b).symm))
                have HB5 : Hid (Below W0.heap.size W0 w5) := Lib.hid (HWA.out.1.trans hb5)
                have HE5 : Hid (EBox w5 be r S.n c1 c2 c3) := Lib.hid (HWA.out.2.2.2.2.keep (hk5 be HBE.out.1 HWA.out.2.2.2.2.lt) hb5.size)
                have HC5 : Hid (w5.cell? ⟨bt, 1, none⟩ = some (.bool (S.c T)) ∧ bt < w5.heap.size) := Lib.hid ⟨(World.cell?_of_block (w := W) (hk5 bt HBT.out.1 HWA.out.2.2.2.1)).trans HWA.out.2.2.1, Nat.lt_of_lt_of_le HWA.out.2.2.2.1 hb5.size⟩
                clear htr5 hb5 hk5 s1 e1 e2 e3 s0' o0 o1 o2 o3
                go_wp2
                go_roundw
                case rel => exact ⟨J + 1, by go_num, by omega, HB5.out, HT5.out, HC5.out.1, HC5.out.2, HE5.out⟩
                case measure => go_light; simp [intOf] <;> omega
            · obtain rfl : J = S.k T := by omega
              go_wp2
              go_roundw
              case rel => exact ⟨T + 1, by go_num, by omega, HB.out, HT.out.congr (fun _ _ => rfl) (fun a b => twoB_next _ _ _) (fun a b => twoB_next _ _ _), HE.out⟩
              case measure => go_light; simp [intOf] <;> omega
        · obtain rfl : T = S.n := by omega
          have HFIN : Hid (∀ W, Tri W W0.heap.size S.n r (overPM S 8 0) (seenM S S.n 0) (anewM S S.n 0) → Tri W w.heap.size S.n r (overPM S 8 0) (seenM S S.n 0) (anewM S S.n 0)) := Lib.hid fun W h => ⟨⟨h.m1.out, h.m1.row, h.m1.ne, h.m1.inj, ⟨Nat.le_trans HBW.out.size h.m1.rO.1, h.m1.rO.2⟩, fun i hi => ⟨Nat.le_trans HBW.out.size (h.m1.rG i hi).1, (h.m1.rG i hi).2⟩, h.m1.top⟩, h.m2, h.m3, Nat.le_trans HBW.out.size h.o1, h.o2, h.o3⟩
          have e1 := HE.out.e1
          have e2 := HE.out.e2
          have e3 := HE.out.e3
          have HR9 := Lib.hid (HR1.out.below HB.out HX2.out.2.2.2)
          have r0 := HR9.out.c 0 (by omega)
          have r1 := HR9.out.c 1 (by omega)
          have r2 := HR9.out.c 2 (by omega)
          have f0 := HR9.out.f 0
          have f1 := HR9.out.f 1
          have f2 := HR9.out.f 2
          have HG9 : Hid (gs + 1 < W0.heap.size) := Lib.hid HX2.out.2.2.2
          have HBWR : Hid (Below w.heap.size w wo) := Lib.hid (HBW.out.trans (HB.out.mono HBW.out.size))
          go_wp2
          refine bodyPost_ret (v := .tuple #[.agg #[.slice (some ⟨r.g1, 0, none⟩) S.n c1, .slice (some ⟨r.g2, 0, none⟩) S.n c2, .slice (some ⟨r.g3, 0, none⟩) S.n c3], .nilIface]) (by simp [results, Tryd.results81, go_sem, r0, r1, r2]) rfl ?_
          exact ⟨r, c1, c2, c3, rfl, hc1, hc2, hc3, HFIN.out _ (((HT.out.setLow HG9.out _).setLow HG9.out _).setLow HG9.out _), ((HBWR.out.setCell HGW.out _).setCell HGW.out _).setCell HGW.out _⟩
end Go.Proofs.YtkncomfbedbikaaDoor
