/- testimonyref.Edges: what leads to what among transactions. -/
import Derived.Test.YtkncomfbedbikaaDoorIsoQ
import Derived.OwnWalk
namespace Go.Proofs.YtkncomfbedbikaaDoor
open Go.RowKit
set_option maxRecDepth 100000 in
set_option maxHeartbeats 4000000 in
/-- The function value in Edges. -/
theorem behind_any (V : Option Addr) (cv gs : Nat) (S : GStory) (key : Nat) (t : Int) (w : World) (hV : RowsC w V S.m S.l S.x) (hkey : key < S.m) (hs : w.cell? ⟨gs, 1, none⟩ = some (.slice V S.m cv)) :
    Calls Tryd.prog 116 #[.int .i64 (key : Int), .int .i64 t, .pointer (some ⟨gs, 0, none⟩)] w fun e w' => e = .returned (.int .i64 (behindF S key t)) ∧ w = w' := by
  obtain ⟨vb, vo, rfl, hvb, hL, A2, c2, hvc, hlc, hI⟩ := hV key hkey
  have HIX := Lib.hid (rindex_any A2 (S.l key) c2 (S.x key) t w (by unfold maxLen; omega) hI)
  have HI := Lib.hid hI
  have HR := Lib.hid (idx_range (S.x key) (S.l key) t)
  have HB : Hid (behindF S key t = if 0 ≤ t then (if idxF (S.x key) (S.l key) t + 1 < (S.l key : Int) then S.x key (idxF (S.x key) (S.l key) t + 1).toNat else -1) else (if 0 < S.l key then S.x key 0 else -1)) := Lib.hid rfl
  obtain ⟨bh, hbh⟩ : ∃ bh, behindF S key t = bh := ⟨_, rfl⟩
  rw [hbh] at HB ⊢
  clear hV hI hbh
  generalize S.l key = L at *
  by_cases ht : 0 ≤ t
  · obtain ⟨p, hp⟩ : ∃ p : Nat, idxF (S.x key) L t = (p : Int) - 1 := ⟨(idxF (S.x key) L t + 1).toNat, by have := HR.out; omega⟩
    have hpb : p ≤ L := by have := HR.out; omega
    rw [hp] at HIX HB
    clear hp HR
    by_cases hpl : p < L
    · obtain ⟨b2, o2, rfl, hb2, g0⟩ := HI.out p hpl
      have HE : Hid (bh = S.x key p) := Lib.hid (by rw [HB.out, if_pos ht, if_pos (by omega)]; congr 1; omega)
      rw [HE.out]
      clear HE HB
      go_enter Tryd.func116, Tryd.ntmps116
      go_wp2_with (go_at_call 46; refine HIX.out.mono ?_; rintro e w' ⟨rfl, rfl⟩)
      go_ret
      exact ⟨rfl, rfl⟩
    · have HE : Hid (bh = -1) := Lib.hid (by rw [HB.out, if_pos ht, if_neg (by omega)])
      rw [HE.out]
      clear HE HB
      obtain rfl : p = L := by omega
      have hd : ¬ p < p := Nat.lt_irrefl p
      go_enter Tryd.func116, Tryd.ntmps116
      go_wp2_with (go_at_call 46; refine HIX.out.mono ?_; rintro e w' ⟨rfl, rfl⟩)
      go_ret
      exact ⟨rfl, rfl⟩
  · clear HIX HR
    by_cases hpl : 0 < L
    · obtain ⟨b2, o2, rfl, hb2, g0⟩ := HI.out 0 hpl
      rw [Nat.add_zero] at g0
      have HE : Hid (bh = S.x key 0) := Lib.hid (by rw [HB.out, if_neg ht, if_pos hpl])
      rw [HE.out]
      clear HE HB
      go_enter Tryd.func116, Tryd.ntmps116
      go_wp2
      go_ret
      exact ⟨rfl, rfl⟩
    · have HE : Hid (bh = -1) := Lib.hid (by rw [HB.out, if_neg ht, if_neg hpl])
      rw [HE.out]
      clear HE HB
      go_enter Tryd.func116, Tryd.ntmps116
      go_wp2
      go_ret
      exact ⟨rfl, rfl⟩
def EdgesPost (S : GStory) (M1 : Nat → Nat → Bool) (w : World) (e : Ending) (w' : World) : Prop :=
  ∃ (r : TriR) (c1 c2 c3 : Nat), e = .returned (.tuple #[.slice (some ⟨r.g1, 0, none⟩) S.n c1, .slice (some ⟨r.g2, 0, none⟩) S.n c2, .slice (some ⟨r.g3, 0, none⟩) S.n c3]) ∧ S.n ≤ c1 ∧ S.n ≤ c2 ∧ S.n ≤ c3 ∧ Tri w' w.heap.size S.n r M1 (seenM S S.n 0) (anewM S S.n 0) ∧ Below w.heap.size w w'
theorem act_tree (S : GStory) (t : Nat) (o : IOp) (h1 : -1 ≤ o.frm) :
    (S.c t = false ∧ actB S t o = false) ∨ (S.c t = true ∧ o.wr = true ∧ actB S t o = false) ∨ (S.c t = true ∧ o.wr = false ∧ o.frm = -1 ∧ actB S t o = true) ∨ (∃ f : Nat, S.c t = true ∧ o.wr = false ∧ o.frm = (f : Int) ∧ S.c f = false ∧ actB S t o = false) ∨ (∃ f : Nat, S.c t = true ∧ o.wr = false ∧ o.frm = (f : Int) ∧ S.c f = true ∧ actB S t o = true) := by
  unfold actB
  cases hc : S.c t
  · exact .inl ⟨rfl, rfl⟩
  cases hw : o.wr
  rotate_left
  · exact .inr (.inl ⟨rfl, rfl, rfl⟩)
  by_cases h : o.frm = -1
  · exact .inr (.inr (.inl ⟨rfl, rfl, h, by rw [h]; rfl⟩))
  obtain ⟨f, hf⟩ : ∃ f : Nat, o.frm = (f : Int) := ⟨o.frm.toNat, by omega⟩
  cases hcf : S.c f
  · exact .inr (.inr (.inr (.inl ⟨f, rfl, rfl, hf, hcf, by rw [hf]; simp [hcf]⟩)))
  · exact .inr (.inr (.inr (.inr ⟨f, rfl, rfl, hf, hcf, by rw [hf]; simp [hcf]⟩)))
set_option maxRecDepth 100000 in
set_option maxHeartbeats 16000000 in
theorem rEdges_any (A V : Option Addr) (c cv : Nat) (S : GStory) (w : World) (h : StoryAt w A V S) (hok : StoryOk S) (hn0 : 0 < S.n) :
    Calls Tryd.prog 79 #[.agg #[.slice A S.n c, .slice V S.m cv]] w (EdgesPost S (overRM S 8 0) w) := by
  have HS := Lib.hid h
  have HOK := Lib.hid hok
  have hn8 := hok.n
  have hm8 : S.m ≤ 8 := by have := hok.m; omega
  have HX : Hid (Below w.heap.size w (w.alloc (.cells #[.slice A S.n c, .slice V S.m cv] 80)) ∧ (w.alloc (.cells #[.slice A S.n c, .slice V S.m cv] 80)).cell? ⟨w.heap.size, 0, none⟩ = some (.slice A S.n c) ∧ (w.alloc (.cells #[.slice A S.n c, .slice V S.m cv] 80)).cell? ⟨w.heap.size, 1, none⟩ = some (.slice V S.m cv) ∧ w.heap.size < (w.alloc (.cells #[.slice A S.n c, .slice V S.m cv] 80)).heap.size) :=
    Lib.hid ⟨(Below.refl _ _).alloc (Nat.le_refl _) _, by simp [World.cell?_alloc_new], by simp [World.cell?_alloc_new], by simp⟩
  clear h hok
  go_enter Tryd.func79, Tryd.ntmps79
  go_wp2_with fail
  obtain ⟨gs, hgs⟩ : ∃ gs, gs = w.heap.size := ⟨_, rfl⟩
  have HSW : Hid (StoryAt (w.alloc (.cells #[.slice A S.n c, .slice V S.m cv] 80)) A V S) := Lib.hid (HS.out.below HX.out.1)
  have HB0 : Hid (Below w.heap.size w (w.alloc (.cells #[.slice A S.n c, .slice V S.m cv] 80))) := Lib.hid HX.out.1
  have HX2 := Lib.hid HX.out.2
  have HGW : Hid (w.heap.size ≤ gs) := Lib.hid (by omega)
  rw [← hgs] at HX2 ⊢
  clear HX hgs HS
  generalize w.alloc (.cells #[.slice A S.n c, .slice V S.m cv] 80) = W0 at *
  have s0 := HX2.out.1
  have s1 := HX2.out.2.1
  have HB1 := Lib.hid (blank_any S.n W0 hn0 (by omega))
  go_wp2_with fail
  refine HB1.out.mono ?_
  rintro e w1 ⟨g1, c1, G1, rfl, hc1, hm1, hb1⟩
  have HM1 := Lib.hid hm1
  have HBB1 := Lib.hid hb1
  have HB2 := Lib.hid (blank_any S.n w1 hn0 (by omega))
  clear hm1 hb1
  go_wp2_with fail
  refine HB2.out.mono ?_
  rintro e w2 ⟨g2, c2, G2, rfl, hc2, hm2, hb2⟩
  have HM2 := Lib.hid hm2
  have HM1' := Lib.hid (HM1.out.below hb2)
  have HBB2 : Hid (Below W0.heap.size W0 w2) := Lib.hid (HBB1.out.trans (hb2.mono HBB1.out.size))
  have HSZ2 := Lib.hid hb2.size
  have HB3 := Lib.hid (blank_any S.n w2 hn0 (by omega))
  clear hm2 hb2
  go_wp2_with fail
  refine HB3.out.mono ?_
  rintro e w3 ⟨g3, c3, G3, rfl, hc3, hm3, hb3⟩
  obtain ⟨r, hr⟩ : ∃ r : TriR, r = ⟨w1.heap.size, w2.heap.size, w3.heap.size, g1, g2, g3, G1, G2, G3⟩ := ⟨_, rfl⟩
  have HT : Hid (Tri w3 W0.heap.size S.n r (overRM S 0 0) (seenM S 0 0) (anewM S 0 0) ∧ r.g1 = g1 ∧ r.g2 = g2 ∧ r.g3 = g3) := Lib.hid (by
    subst hr
    refine ⟨⟨(HM1'.out.below hb3).congr fun a b _ _ => ?_, (HM2.out.below hb3).congr fun a b _ _ => ?_, hm3.congr fun a b _ _ => ?_, HBB1.out.size, HSZ2.out, hb3.size⟩, rfl, rfl, rfl⟩
    · exact (twoB_zero _ _).symm
    · exact (twoB_zero _ _).symm
    · exact (twoB_zero _ _).symm)
  have HBB3 : Hid (Below W0.heap.size W0 w3) := Lib.hid (HBB2.out.trans (hb3.mono HBB2.out.size))
  obtain ⟨rfl, rfl, rfl⟩ := HT.out.2
  have HT1 := Lib.hid HT.out.1
  clear HT HM1 HM1' HM2 hm3 hb3 HBB1 HBB2 HSZ2 hr s0 s1
  have s0 := (HBB3.out.cell (p := ⟨gs, 0, none⟩) HX2.out.2.2).trans HX2.out.1
  have s1 := (HBB3.out.cell (p := ⟨gs, 1, none⟩) HX2.out.2.2).trans HX2.out.2.1
  go_wp2_with fail
  go_loopw [30] (fun x wr => ∃ q : Nat, x = .int .i64 q ∧ q ≤ S.m ∧ Below W0.heap.size W0 wr ∧ Tri wr W0.heap.size S.n r (overRM S q 0) (seenM S 0 0) (anewM S 0 0)) (fun x _ => S.m - (intOf x).toNat)
  case atStart => exact ⟨0, rfl, by omega, HBB3.out, HT1.out⟩
  case round =>
    clear HBB3 HT1 s0 s1
    obtain ⟨q, rfl, hq, hbw, htri⟩ := hrel
    have HB := Lib.hid hbw
    have HT := Lib.hid htri
    clear hbw htri
    have s0 := (HB.out.cell (p := ⟨gs, 0, none⟩) HX2.out.2.2).trans HX2.out.1
    have s1 := (HB.out.cell (p := ⟨gs, 1, none⟩) HX2.out.2.2).trans HX2.out.2.1
    by_cases hqm : q < S.m
    · obtain ⟨vb, vo, rfl, hvb, hL, A2, cc2, hvc, hlc, hI⟩ := (HSW.out.below HB.out).rows q hqm
      obtain ⟨vb', vo', hVe, hvb0, _, A2', cc2', hvc0, _, hI0⟩ := HSW.out.rows q hqm
      injection hVe with hVe
      injection hVe with hVe1 hVe2
      subst hVe1 hVe2
      have hae := ((HB.out.cell (p := ⟨vb, vo + q, none⟩) hvb0).trans hvc0).symm.trans hvc
      injection hae with hae
      injection hae with hae1 _ hae2
      subst hae1 hae2
      have HI0 := Lib.hid hI0
      clear hI hI0 hvc0
      go_wp2_with fail
      go_loopw [37] (fun x wr => ∃ i : Nat, x = .int .i64 i ∧ i ≤ S.l q ∧ Below W0.heap.size W0 wr ∧ Tri wr W0.heap.size S.n r (overRM S q i) (seenM S 0 0) (anewM S 0 0)) (fun x _ => S.l q - (intOf x).toNat)
      case atStart => exact ⟨0, rfl, by omega, HB.out, HT.out⟩
      case round =>
        clear HB HT s0 s1 hvc
        obtain ⟨i, rfl, hi, hbw, htri⟩ := hrel
        have HB := Lib.hid hbw
        have HT := Lib.hid htri
        clear hbw htri
        have s1 := (HB.out.cell (p := ⟨gs, 1, none⟩) HX2.out.2.2).trans HX2.out.2.1
        by_cases hil : i < S.l q
        · obtain ⟨b3, o3, rfl, hb3, p0⟩ := (HI0.out.below HB.out) i hil
          obtain ⟨f, hf, hfn, _⟩ := HOK.out.ent q i (by have := HOK.out.m; omega) hil
          rw [hf] at p0
          have HBH := Lib.hid (behind_any (some ⟨vb, vo, none⟩) cv gs S q (f : Int) wr ((HSW.out.below HB.out).rows) hqm s1)
          have HF := Lib.hid hf
          have hbc := behind_cases HOK.out (show q < 8 by have := HOK.out.m; omega) (f : Int)
          have HSU : Hid (∀ a b, overRM S q (i + 1) a b = (overRM S q i a b || overR S q i a b)) := Lib.hid (fun a b => twoB_succ (fun t j => overR S t j a b) S.l q i)
          clear hf
          rcases hbc with hb | ⟨b, hb, hbn⟩
          · have HNO : Hid (∀ a b, overRM S q (i + 1) a b = overRM S q i a b) := Lib.hid (fun a b => by
              rw [HSU.out]
              refine (nomark ?_).symm
              unfold overR
              rw [HF.out, hb]
              simp
              try (intro _; omega))
            rw [hb] at HBH
            clear hb
            go_wp2_with fail
            refine HBH.out.mono ?_
            rintro e w4 ⟨rfl, rfl⟩
            go_wp2
            go_roundw
            case rel => exact ⟨i + 1, by go_num, by omega, HB.out, HT.out.congr (fun a b => (HNO.out a b).symm) (fun _ _ => rfl) (fun _ _ => rfl)⟩
            case measure => go_light; simp [intOf] <;> omega
          · have HM2 : Hid (∀ a b', (if a = f ∧ b' = b then true else overRM S q i a b') = overRM S q (i + 1) a b') := Lib.hid (fun a b' => by
              rw [HSU.out]
              refine mark ?_
              unfold overR
              rw [HF.out, hb]
              apply Bool.eq_iff_iff.2
              simp
              omega)
            rw [hb] at HBH
            have c1' := HT.out.m1.out f hfn
            have c2' := HT.out.m1.cell hfn hbn
            have c3' := (HT.out.m1.row f hfn).frozen b
            have HGE := Lib.hid (HT.out.ge1 hfn)
            clear hb
            go_wp2_with fail
            refine HBH.out.mono ?_
            rintro e w4 ⟨rfl, rfl⟩
            go_wp2
            go_roundw
            case rel => exact ⟨i + 1, by go_num, by omega, HB.out.setCell HGE.out _, (HT.out.set1 hfn b).congr HM2.out (fun _ _ => rfl) (fun _ _ => rfl)⟩
            case measure => go_light; simp [intOf] <;> omega
        · obtain rfl : i = S.l q := by omega
          go_wp2
          go_roundw
          case rel => exact ⟨q + 1, by go_num, by omega, HB.out, HT.out.congr (fun a b => twoB_next _ _ _) (fun _ _ => rfl) (fun _ _ => rfl)⟩
          case measure => go_light; simp [intOf] <;> omega
    · obtain rfl : q = S.m := by omega
      have HT8 : Hid (Tri wr W0.heap.size S.n r (overRM S 8 0) (seenM S 0 0) (anewM S 0 0)) := Lib.hid (by have := HT.out; rwa [HOK.out.m] at this)
      clear HT
      go_wp2_with fail
      go_loopw [58] (fun x wr => ∃ T : Nat, x = .int .i64 T ∧ T ≤ S.n ∧ Below W0.heap.size W0 wr ∧ Tri wr W0.heap.size S.n r (overRM S 8 0) (seenM S T 0) (anewM S T 0)) (fun x _ => S.n - (intOf x).toNat)
      case atStart => exact ⟨0, rfl, by omega, HB.out, HT8.out⟩
      case round =>
        clear HB HT8 s0 s1
        obtain ⟨wo, rfl⟩ : ∃ wo : World, wo = wr := ⟨_, rfl⟩
        obtain ⟨T, rfl, hT, hbw, htri⟩ := hrel
        have HB := Lib.hid hbw
        have HT := Lib.hid htri
        clear hbw htri
        by_cases hTn : T < S.n
        · obtain ⟨b, off, rfl, hb, hk, A2, cc2, g0, hkc, g1, hops⟩ := HSW.out.txs T hTn
          have HO := Lib.hid hops
          have g0' := (HB.out.cell (p := ⟨b, off + T * 2, none⟩) hb).trans g0
          have g1' := (HB.out.cell (p := ⟨b, off + T * 2 + 1, none⟩) hb).trans g1
          have HK60 := Lib.hid (HOK.out.k T hTn)
          obtain ⟨bt, hbt⟩ : ∃ bt, bt = wo.heap.size := ⟨_, rfl⟩
          have HW : Hid (Below W0.heap.size W0 (wo.alloc (.cells #[.slice A2 (S.k T) cc2, .bool (S.c T)] 145)) ∧ Tri (wo.alloc (.cells #[.slice A2 (S.k T) cc2, .bool (S.c T)] 145)) W0.heap.size S.n r (overRM S 8 0) (seenM S T 0) (anewM S T 0) ∧ (wo.alloc (.cells #[.slice A2 (S.k T) cc2, .bool (S.c T)] 145)).cell? ⟨bt, 1, none⟩ = some (.bool (S.c T)) ∧ bt < (wo.alloc (.cells #[.slice A2 (S.k T) cc2, .bool (S.c T)] 145)).heap.size) :=
            Lib.hid ⟨HB.out.alloc HB.out.size _, HT.out.alloc _, by rw [hbt]; simp [World.cell?_alloc_new], by rw [hbt]; simp⟩
          have HBT : Hid (r.h3 ≤ bt ∧ W0.heap.size ≤ bt) := Lib.hid ⟨by rw [hbt]; exact HT.out.m3.top, by rw [hbt]; exact HB.out.size⟩
          clear g0 g1 hops hkc hk
          go_wp2_with fail
          rw [← hbt]
          clear hbt
          go_loopw [66] (fun x wr => ∃ J : Nat, x = .int .i64 J ∧ J ≤ S.k T ∧ Below W0.heap.size W0 wr ∧ Tri wr W0.heap.size S.n r (overRM S 8 0) (seenM S T J) (anewM S T J) ∧ wr.cell? ⟨bt, 1, none⟩ = some (.bool (S.c T)) ∧ bt < wr.heap.size) (fun x _ => S.k T - (intOf x).toNat)
          case atStart => exact ⟨0, rfl, by omega, HW.out.1, HW.out.2.1, HW.out.2.2.1, HW.out.2.2.2⟩
          case round =>
            clear HB HT HW g0' g1'
            obtain ⟨J, rfl, hJ, hbw, htri, hbc, hbl⟩ := hrel
            have HB := Lib.hid hbw
            have HT := Lib.hid htri
            have HBC := Lib.hid hbc
            clear hbw htri
            by_cases hJk : J < S.k T
            · obtain ⟨b3, off3, rfl, hb3, p0, p1, p2, p3⟩ := (HO.out.below HB.out) J hJk
              have hJ60 : J + 1 ≤ 60 := by have := HK60.out; omega
              obtain ⟨o, ho⟩ : ∃ o, S.o T J = o := ⟨_, rfl⟩
              have hop := HOK.out.op T J hTn hJk
              have hnm := HOK.out.num T J hTn hJk
              rw [ho] at p0 p1 p2 p3 hop hnm
              have HSS : Hid (∀ a b, seenM S T (J + 1) a b = (seenM S T J a b || seenH S T o a b)) := Lib.hid (fun a b => by unfold seenM; rw [twoB_succ, ho])
              have HSA : Hid (∀ a b, anewM S T (J + 1) a b = (anewM S T J a b || anewH S T o a b)) := Lib.hid (fun a b => by unfold anewM; rw [twoB_succ, ho])
              have ht := act_tree S T o hop.2.2.1
              obtain ⟨owr, okey, ofrm, onum⟩ := o
              dsimp only at p0 p1 p2 p3 hop ht hnm
              have HNM := Lib.hid hnm
              clear hnm
              obtain ⟨kk, rfl⟩ : ∃ kk : Nat, okey = (kk : Int) := ⟨okey.toNat, by omega⟩
              have hkk : kk < S.m := by have := HOK.out.m; omega
              have HAL : Hid (∀ ob, Below W0.heap.size W0 (wr.alloc ob) ∧ Tri (wr.alloc ob) W0.heap.size S.n r (overRM S 8 0) (seenM S T J) (anewM S T J) ∧ (wr.alloc ob).cell? ⟨bt, 1, none⟩ = some (.bool (S.c T)) ∧ bt < (wr.alloc ob).heap.size) :=
                Lib.hid (fun ob => ⟨HB.out.alloc HB.out.size _, HT.out.alloc _, (((Below.refl _ wr).alloc (Nat.le_refl _) ob).cell (p := ⟨bt, 1, none⟩) hbl).trans HBC.out, by simp; omega⟩)
              have s0 := (HB.out.cell (p := ⟨gs, 0, none⟩) HX2.out.2.2).trans HX2.out.1
              have hgl : gs < wr.heap.size := Nat.lt_of_lt_of_le HX2.out.2.2 HB.out.size
              clear ho
              rcases ht with ⟨d1, hact⟩ | ⟨d1, d2, hact⟩ | ⟨d1, d2, d3, hact⟩ | ⟨f, d1, d2, d3, d4, hact⟩ | ⟨f, d1, d2, d3, d4, hact⟩
              · rw [d1] at hbc
                clear d1
                go_wp2
                go_roundw
                case rel => exact ⟨J + 1, by go_num, by omega, (HAL.out _).1, (HAL.out _).2.1.congr (fun _ _ => rfl) (fun a b => by rw [HSS.out, seenH_act hact, Bool.or_false]) (fun a b => by rw [HSA.out, anewH_act hact, Bool.or_false]), (HAL.out _).2.2.1, (HAL.out _).2.2.2⟩
                case measure => go_light; simp [intOf] <;> omega
              · subst d2
                rw [d1] at hbc
                clear d1
                go_wp2
                go_roundw
                case rel => exact ⟨J + 1, by go_num, by omega, (HAL.out _).1, (HAL.out _).2.1.congr (fun _ _ => rfl) (fun a b => by rw [HSS.out, seenH_act hact, Bool.or_false]) (fun a b => by rw [HSA.out, anewH_act hact, Bool.or_false]), (HAL.out _).2.2.1, (HAL.out _).2.2.2⟩
                case measure => go_light; simp [intOf] <;> omega
              · subst d2 d3
                rw [d1] at hbc
                clear d1
                have HWX : Hid ((wr.alloc (.cells #[.bool false, .int .i64 (kk : Int), .int .i64 (-1), .int .i64 onum] 146)).cell? ⟨wr.heap.size, 0, none⟩ = some (.bool false) ∧ (wr.alloc (.cells #[.bool false, .int .i64 (kk : Int), .int .i64 (-1), .int .i64 onum] 146)).cell? ⟨wr.heap.size, 1, none⟩ = some (.int .i64 (kk : Int)) ∧ (wr.alloc (.cells #[.bool false, .int .i64 (kk : Int), .int .i64 (-1), .int .i64 onum] 146)).cell? ⟨wr.heap.size, 2, none⟩ = some (.int .i64 (-1)) ∧ (wr.alloc (.cells #[.bool false, .int .i64 (kk : Int), .int .i64 (-1), .int .i64 onum] 146)).cell? ⟨wr.heap.size, 3, none⟩ = some (.int .i64 onum) ∧ wr.heap.size < (wr.alloc (.cells #[.bool false, .int .i64 (kk : Int), .int .i64 (-1), .int .i64 onum] 146)).heap.size) :=
                  Lib.hid ⟨by simp [World.cell?_alloc_new], by simp [World.cell?_alloc_new], by simp [World.cell?_alloc_new], by simp [World.cell?_alloc_new], by simp⟩
                have HWA := Lib.hid (HAL.out (.cells #[.bool false, .int .i64 (kk : Int), .int .i64 (-1), .int .i64 onum] 146))
                obtain ⟨bo, hbo⟩ : ∃ bo, bo = wr.heap.size := ⟨_, rfl⟩
                have HBO : Hid (r.h3 ≤ bo ∧ W0.heap.size ≤ bo) := Lib.hid ⟨by have := HBT.out; omega, by have := HBT.out; omega⟩
                go_wp2_with fail
                rw [← hbo] at HWX ⊢
                clear hbo
                generalize wr.alloc (.cells #[.bool false, .int .i64 (kk : Int), .int .i64 (-1), .int .i64 onum] 146) = W at *
                have k0 := cell_regrown HWX.out.1
                have k1 := cell_regrown HWX.out.2.1
                have k2 := cell_regrown HWX.out.2.2.1
                have k3 := cell_regrown HWX.out.2.2.2.1
                have ks := cell_regrown ((HWA.out.1.cell (p := ⟨gs, 0, none⟩) HX2.out.2.2).trans HX2.out.1)
                refine wp_region_quiet_below (by kernel_rfl) (by kernel_rfl) ?_
                repeat (go_big_quiet_step (fail))
                refine wpQuiet_nil ?_
                rintro wq ⟨pq, hpq⟩
                have HBQ : Hid (Below W.heap.size W wq) := Lib.hid (hpq ▸ below_regrown W pq.d pq.os)
                clear hpq
                clear k0 k1 k2 k3 ks
                have HB3 : Hid (Below W0.heap.size W0 wq) := Lib.hid (HWA.out.1.trans (HBQ.out.mono HWA.out.1.size))
                have HT3 := Lib.hid (HWA.out.2.1.below HBQ.out)
                have HC3 : Hid (wq.cell? ⟨bt, 1, none⟩ = some (.bool (S.c T)) ∧ bt < wq.heap.size ∧ wq.cell? ⟨bo, 1, none⟩ = some (.int .i64 (kk : Int)) ∧ wq.cell? ⟨bo, 2, none⟩ = some (.int .i64 (-1))) := Lib.hid ⟨(HBQ.out.cell (p := ⟨bt, 1, none⟩) HWA.out.2.2.2).trans HWA.out.2.2.1, Nat.lt_of_lt_of_le HWA.out.2.2.2 HBQ.out.size, (HBQ.out.cell (p := ⟨bo, 1, none⟩) HWX.out.2.2.2.2).trans HWX.out.2.1, (HBQ.out.cell (p := ⟨bo, 2, none⟩) HWX.out.2.2.2.2).trans HWX.out.2.2.1⟩
                clear HWX HWA
                obtain ⟨wz, rfl⟩ : ∃ wz : World, wz = wq := ⟨_, rfl⟩
                have HZ : Hid (Below W0.heap.size W0 wz ∧ Tri wz W0.heap.size S.n r (overRM S 8 0) (seenM S T (J + 1)) (anewM S T J) ∧ wz.cell? ⟨bt, 1, none⟩ = some (.bool (S.c T)) ∧ bt < wz.heap.size ∧ wz.cell? ⟨bo, 1, none⟩ = some (.int .i64 (kk : Int)) ∧ wz.cell? ⟨bo, 2, none⟩ = some (.int .i64 (-1))) :=
                  Lib.hid ⟨HB3.out, HT3.out.congr (fun _ _ => rfl) (fun a b' => by rw [HSS.out, seenH_no (by rfl), Bool.or_false]) (fun _ _ => rfl), HC3.out⟩
                have s1 := (HZ.out.1.cell (p := ⟨gs, 1, none⟩) HX2.out.2.2).trans HX2.out.2.1
                have y1 := HZ.out.2.2.2.2.1
                have y2 := HZ.out.2.2.2.2.2
                have HBH := Lib.hid (behind_any V cv gs S kk (-1) wz ((HSW.out.below HZ.out.1).rows) hkk s1)
                have hbcs := behind_cases HOK.out (show kk < 8 by have := HOK.out.m; omega) (-1)
                rcases hbcs with hb | ⟨b, hb, hbn⟩
                · have HNO : Hid (∀ a b, anewM S T (J + 1) a b = anewM S T J a b) := Lib.hid (fun a b => by rw [HSA.out, anewH_none (by simpa using hb), Bool.or_false])
                  rw [hb] at HBH
                  clear hb
                  go_wp2_with fail
                  refine HBH.out.mono ?_
                  rintro e w4 ⟨rfl, rfl⟩
                  go_wp2
                  go_roundw
                  case rel => exact ⟨J + 1, by go_num, by omega, HZ.out.1, HZ.out.2.1.congr (fun _ _ => rfl) (fun _ _ => rfl) (fun a b => (HNO.out a b).symm), HZ.out.2.2.1, HZ.out.2.2.2.1⟩
                  case measure => go_light; simp [intOf] <;> omega
                · by_cases hbT : b = T
                  · have HNO : Hid (∀ a b, anewM S T (J + 1) a b = anewM S T J a b) := Lib.hid (fun a b' => by rw [HSA.out, anewH_self (by rw [← hbT]; simpa using hb), Bool.or_false])
                    have hne : ((b : Int) != (T : Int)) = false := by rw [hbT]; simp
                    rw [hb] at HBH
                    clear hb hbT
                    go_wp2_with fail
                    refine HBH.out.mono ?_
                    rintro e w4 ⟨rfl, rfl⟩
                    go_wp2
                    go_roundw
                    case rel => exact ⟨J + 1, by go_num, by omega, HZ.out.1, HZ.out.2.1.congr (fun _ _ => rfl) (fun _ _ => rfl) (fun a b => (HNO.out a b).symm), HZ.out.2.2.1, HZ.out.2.2.2.1⟩
                    case measure => go_light; simp [intOf] <;> omega
                  · have HMK : Hid (∀ a b', (if a = T ∧ b' = b then true else anewM S T J a b') = anewM S T (J + 1) a b') := Lib.hid (fun a b' => by rw [HSA.out, mark (anewH_hit hact (by simpa using hb) hbT a b')])
                    have hne : ((b : Int) != (T : Int)) = true := by simp; omega
                    have c1' := HZ.out.2.1.m3.out T hTn
                    have c2' := HZ.out.2.1.m3.cell hTn hbn
                    have c3' := (HZ.out.2.1.m3.row T hTn).frozen b
                    have HGE := Lib.hid (HZ.out.2.1.ge3 hTn)
                    have HLT := Lib.hid (HZ.out.2.1.lt3 hTn)
                    rw [hb] at HBH
                    clear hb hbT
                    go_wp2_with fail
                    refine HBH.out.mono ?_
                    rintro e w4 ⟨rfl, rfl⟩
                    go_wp2
                    go_roundw
                    case rel => exact ⟨J + 1, by go_num, by omega, HZ.out.1.setCell HGE.out _, (HZ.out.2.1.set3 hTn b).congr (fun _ _ => rfl) (fun _ _ => rfl) HMK.out, (World.cell?_of_block (w := wz) (heap_setCell_other _ _ _ _ (by have := HBT.out; have := HLT.out; show bt ≠ r.G3 T; omega))).trans HZ.out.2.2.1, by simp [World.setCell]; exact HZ.out.2.2.2.1⟩
                    case measure => go_light; simp [intOf] <;> omega
              · subst d2 d3
                obtain ⟨bf, offf, hAe, hbf, _, A2f, c2f, f0, _, f1, _⟩ := (HSW.out.below HB.out).txs f (by omega)
                injection hAe with hAe
                injection hAe with hAe1 hAe2
                subst hAe1 hAe2
                rw [d1] at hbc
                clear d1
                rw [d4] at f1
                clear d4
                go_wp2
                go_roundw
                case rel => exact ⟨J + 1, by go_num, by omega, (HAL.out _).1, (HAL.out _).2.1.congr (fun _ _ => rfl) (fun a b => by rw [HSS.out, seenH_act hact, Bool.or_false]) (fun a b => by rw [HSA.out, anewH_act hact, Bool.or_false]), (HAL.out _).2.2.1, (HAL.out _).2.2.2⟩
                case measure => go_light; simp [intOf] <;> omega
              · subst d2 d3
                have hfn : f < S.n := by omega
                obtain ⟨bf', offf', hAe', hbf', _, A2f', c2f', f0', _, f1', _⟩ := (HSW.out.below HB.out).txs f hfn
                injection hAe' with hAe'
                injection hAe' with hAe1' hAe2'
                subst hAe1' hAe2'
                rw [d1] at hbc
                clear d1
                rw [d4] at f1'
                clear d4
                by_cases hfT : f = T
                · have hq1 : ((f : Int) != (T : Int)) = false := by rw [hfT]; simp
                  have hq2 : (f != T) = false := by rw [hfT]; simp
                  have HFT := Lib.hid hfT
                  clear hfT
                  have HWX : Hid ((wr.alloc (.cells #[.bool false, .int .i64 (kk : Int), .int .i64 (f : Int), .int .i64 onum] 146)).cell? ⟨wr.heap.size, 0, none⟩ = some (.bool false) ∧ (wr.alloc (.cells #[.bool false, .int .i64 (kk : Int), .int .i64 (f : Int), .int .i64 onum] 146)).cell? ⟨wr.heap.size, 1, none⟩ = some (.int .i64 (kk : Int)) ∧ (wr.alloc (.cells #[.bool false, .int .i64 (kk : Int), .int .i64 (f : Int), .int .i64 onum] 146)).cell? ⟨wr.heap.size, 2, none⟩ = some (.int .i64 (f : Int)) ∧ (wr.alloc (.cells #[.bool false, .int .i64 (kk : Int), .int .i64 (f : Int), .int .i64 onum] 146)).cell? ⟨wr.heap.size, 3, none⟩ = some (.int .i64 onum) ∧ wr.heap.size < (wr.alloc (.cells #[.bool false, .int .i64 (kk : Int), .int .i64 (f : Int), .int .i64 onum] 146)).heap.size) :=
                    Lib.hid ⟨by simp [World.cell?_alloc_new], by simp [World.cell?_alloc_new], by simp [World.cell?_alloc_new], by simp [World.cell?_alloc_new], by simp⟩
                  have HWA := Lib.hid (HAL.out (.cells #[.bool false, .int .i64 (kk : Int), .int .i64 (f : Int), .int .i64 onum] 146))
                  obtain ⟨bo, hbo⟩ : ∃ bo, bo = wr.heap.size := ⟨_, rfl⟩
                  have HBO : Hid (r.h3 ≤ bo ∧ W0.heap.size ≤ bo) := Lib.hid ⟨by have := HBT.out; omega, by have := HBT.out; omega⟩
                  go_wp2_with fail
                  rw [← hbo] at HWX ⊢
                  clear hbo
                  generalize wr.alloc (.cells #[.bool false, .int .i64 (kk : Int), .int .i64 (f : Int), .int .i64 onum] 146) = W at *
                  have k0 := cell_regrown HWX.out.1
                  have k1 := cell_regrown HWX.out.2.1
                  have k2 := cell_regrown HWX.out.2.2.1
                  have k3 := cell_regrown HWX.out.2.2.2.1
                  have ks := cell_regrown ((HWA.out.1.cell (p := ⟨gs, 0, none⟩) HX2.out.2.2).trans HX2.out.1)
                  refine wp_region_quiet_below (by kernel_rfl) (by kernel_rfl) ?_
                  repeat (go_big_quiet_step (fail))
                  refine wpQuiet_nil ?_
                  rintro wq ⟨pq, hpq⟩
                  have HBQ : Hid (Below W.heap.size W wq) := Lib.hid (hpq ▸ below_regrown W pq.d pq.os)
                  clear hpq
                  clear k0 k1 k2 k3 ks
                  have HB3 : Hid (Below W0.heap.size W0 wq) := Lib.hid (HWA.out.1.trans (HBQ.out.mono HWA.out.1.size))
                  have HT3 := Lib.hid (HWA.out.2.1.below HBQ.out)
                  have HC3 : Hid (wq.cell? ⟨bt, 1, none⟩ = some (.bool (S.c T)) ∧ bt < wq.heap.size ∧ wq.cell? ⟨bo, 1, none⟩ = some (.int .i64 (kk : Int)) ∧ wq.cell? ⟨bo, 2, none⟩ = some (.int .i64 (f : Int))) := Lib.hid ⟨(HBQ.out.cell (p := ⟨bt, 1, none⟩) HWA.out.2.2.2).trans HWA.out.2.2.1, Nat.lt_of_lt_of_le HWA.out.2.2.2 HBQ.out.size, (HBQ.out.cell (p := ⟨bo, 1, none⟩) HWX.out.2.2.2.2).trans HWX.out.2.1, (HBQ.out.cell (p := ⟨bo, 2, none⟩) HWX.out.2.2.2.2).trans HWX.out.2.2.1⟩
                  clear HWX HWA
                  obtain ⟨wz, rfl⟩ : ∃ wz : World, wz = wq := ⟨_, rfl⟩
                  have HZ : Hid (Below W0.heap.size W0 wz ∧ Tri wz W0.heap.size S.n r (overRM S 8 0) (seenM S T (J + 1)) (anewM S T J) ∧ wz.cell? ⟨bt, 1, none⟩ = some (.bool (S.c T)) ∧ bt < wz.heap.size ∧ wz.cell? ⟨bo, 1, none⟩ = some (.int .i64 (kk : Int)) ∧ wz.cell? ⟨bo, 2, none⟩ = some (.int .i64 (f : Int))) :=
                    Lib.hid ⟨HB3.out, HT3.out.congr (fun _ _ => rfl) (fun a b' => by rw [HSS.out, seenH_no (by rw [HFT.out]; simp), Bool.or_false]) (fun _ _ => rfl), HC3.out⟩
                  have s1 := (HZ.out.1.cell (p := ⟨gs, 1, none⟩) HX2.out.2.2).trans HX2.out.2.1
                  have y1 := HZ.out.2.2.2.2.1
                  have y2 := HZ.out.2.2.2.2.2
                  have HBH := Lib.hid (behind_any V cv gs S kk (f : Int) wz ((HSW.out.below HZ.out.1).rows) hkk s1)
                  have hbcs := behind_cases HOK.out (show kk < 8 by have := HOK.out.m; omega) (f : Int)
                  rcases hbcs with hb | ⟨b, hb, hbn⟩
                  · have HNO : Hid (∀ a b, anewM S T (J + 1) a b = anewM S T J a b) := Lib.hid (fun a b => by rw [HSA.out, anewH_none (by simpa using hb), Bool.or_false])
                    rw [hb] at HBH
                    clear hb
                    go_wp2_with fail
                    refine HBH.out.mono ?_
                    rintro e w4 ⟨rfl, rfl⟩
                    go_wp2
                    go_roundw
                    case rel => exact ⟨J + 1, by go_num, by omega, HZ.out.1, HZ.out.2.1.congr (fun _ _ => rfl) (fun _ _ => rfl) (fun a b => (HNO.out a b).symm), HZ.out.2.2.1, HZ.out.2.2.2.1⟩
                    case measure => go_light; simp [intOf] <;> omega
                  · by_cases hbT : b = T
                    · have HNO : Hid (∀ a b, anewM S T (J + 1) a b = anewM S T J a b) := Lib.hid (fun a b' => by rw [HSA.out, anewH_self (by rw [← hbT]; simpa using hb), Bool.or_false])
                      have hne : ((b : Int) != (T : Int)) = false := by rw [hbT]; simp
                      rw [hb] at HBH
                      clear hb hbT
                      go_wp2_with fail
                      refine HBH.out.mono ?_
                      rintro e w4 ⟨rfl, rfl⟩
                      go_wp2
                      go_roundw
                      case rel => exact ⟨J + 1, by go_num, by omega, HZ.out.1, HZ.out.2.1.congr (fun _ _ => rfl) (fun _ _ => rfl) (fun a b => (HNO.out a b).symm), HZ.out.2.2.1, HZ.out.2.2.2.1⟩
                      case measure => go_light; simp [intOf] <;> omega
                    · have HMK : Hid (∀ a b', (if a = T ∧ b' = b then true else anewM S T J a b') = anewM S T (J + 1) a b') := Lib.hid (fun a b' => by rw [HSA.out, mark (anewH_hit hact (by simpa using hb) hbT a b')])
                      have hne : ((b : Int) != (T : Int)) = true := by simp; omega
                      have c1' := HZ.out.2.1.m3.out T hTn
                      have c2' := HZ.out.2.1.m3.cell hTn hbn
                      have c3' := (HZ.out.2.1.m3.row T hTn).frozen b
                      have HGE := Lib.hid (HZ.out.2.1.ge3 hTn)
                      have HLT := Lib.hid (HZ.out.2.1.lt3 hTn)
                      rw [hb] at HBH
                      clear hb hbT
                      go_wp2_with fail
                      refine HBH.out.mono ?_
                      rintro e w4 ⟨rfl, rfl⟩
                      go_wp2
                      go_roundw
                      case rel => exact ⟨J + 1, by go_num, by omega, HZ.out.1.setCell HGE.out _, (HZ.out.2.1.set3 hTn b).congr (fun _ _ => rfl) (fun _ _ => rfl) HMK.out, (World.cell?_of_block (w := wz) (heap_setCell_other _ _ _ _ (by have := HBT.out; have := HLT.out; show bt ≠ r.G3 T; omega))).trans HZ.out.2.2.1, by simp [World.setCell]; exact HZ.out.2.2.2.1⟩
                      case measure => go_light; simp [intOf] <;> omega

                · have hq1 : ((f : Int) != (T : Int)) = true := by simp; omega
                  have hq2 : (f != T) = true := by simpa using hfT
                  have hq3 : decide (f = T) = false := by simpa using hfT
                  cases hv : (onum + 1 == (vers (S.o f) (kk : Int) (S.k f) : Int))
                  · skip
                    have HWX : Hid ((wr.alloc (.cells #[.bool false, .int .i64 (kk : Int), .int .i64 (f : Int), .int .i64 onum] 146)).cell? ⟨wr.heap.size, 0, none⟩ = some (.bool false) ∧ (wr.alloc (.cells #[.bool false, .int .i64 (kk : Int), .int .i64 (f : Int), .int .i64 onum] 146)).cell? ⟨wr.heap.size, 1, none⟩ = some (.int .i64 (kk : Int)) ∧ (wr.alloc (.cells #[.bool false, .int .i64 (kk : Int), .int .i64 (f : Int), .int .i64 onum] 146)).cell? ⟨wr.heap.size, 2, none⟩ = some (.int .i64 (f : Int)) ∧ (wr.alloc (.cells #[.bool false, .int .i64 (kk : Int), .int .i64 (f : Int), .int .i64 onum] 146)).cell? ⟨wr.heap.size, 3, none⟩ = some (.int .i64 onum) ∧ wr.heap.size < (wr.alloc (.cells #[.bool false, .int .i64 (kk : Int), .int .i64 (f : Int), .int .i64 onum] 146)).heap.size) :=
                      Lib.hid ⟨by simp [World.cell?_alloc_new], by simp [World.cell?_alloc_new], by simp [World.cell?_alloc_new], by simp [World.cell?_alloc_new], by simp⟩
                    have HWA := Lib.hid (HAL.out (.cells #[.bool false, .int .i64 (kk : Int), .int .i64 (f : Int), .int .i64 onum] 146))
                    obtain ⟨bo, hbo⟩ : ∃ bo, bo = wr.heap.size := ⟨_, rfl⟩
                    have HBO : Hid (r.h3 ≤ bo ∧ W0.heap.size ≤ bo) := Lib.hid ⟨by have := HBT.out; omega, by have := HBT.out; omega⟩
                    go_wp2_with fail
                    rw [← hbo] at HWX ⊢
                    clear hbo
                    generalize wr.alloc (.cells #[.bool false, .int .i64 (kk : Int), .int .i64 (f : Int), .int .i64 onum] 146) = W at *
                    have k0 := cell_regrown HWX.out.1
                    have k1 := cell_regrown HWX.out.2.1
                    have k2 := cell_regrown HWX.out.2.2.1
                    have k3 := cell_regrown HWX.out.2.2.2.1
                    have ks := cell_regrown ((HWA.out.1.cell (p := ⟨gs, 0, none⟩) HX2.out.2.2).trans HX2.out.1)
                    obtain ⟨bf, offf, hAe, hbf, hkf, A2f, c2f, f0, hkcf, f1, hopf⟩ := HSW.out.txs f hfn
                    injection hAe with hAe
                    injection hAe with hAe1 hAe2
                    subst hAe1 hAe2
                    have kf0 := cell_regrown ((HWA.out.1.cell (p := ⟨b, off + f * 2, none⟩) hbf).trans f0)
                    have kf1 := cell_regrown ((HWA.out.1.cell (p := ⟨b, off + f * 2 + 1, none⟩) hbf).trans f1)
                    have cI := fun d os => Calls.regrown_of (d := d) (os := os) (wrote_any A2f (S.k f) c2f (S.c f) (kk : Int) (S.o f) (Go.Sort.grow (redrawn W d) os) hkf (hopf.below (HWA.out.1.trans ((below_regrown W d os).mono HWA.out.1.size))))
                    clear hopf f0 f1
                    have hnum := HNM.out (by first | trivial | rfl) f rfl
                    generalize hvf : vers (S.o f) (kk : Int) (S.k f) = vf at *
                    have HVF := Lib.hid hvf
                    clear hvf
                    obtain ⟨hnum1, hnum2⟩ := hnum
                    refine wp_region_quiet_below (by kernel_rfl) (by kernel_rfl) ?_
                    repeat (go_big_quiet_step (with_reducible exact cI _ _))
                    refine wpQuiet_nil ?_
                    rintro wq ⟨pq, hpq⟩
                    have HBQ : Hid (Below W.heap.size W wq) := Lib.hid (hpq ▸ below_regrown W pq.d pq.os)
                    clear hpq
                    clear k0 k1 k2 k3 ks kf0 kf1 cI
                    have HB3 : Hid (Below W0.heap.size W0 wq) := Lib.hid (HWA.out.1.trans (HBQ.out.mono HWA.out.1.size))
                    have HT3 := Lib.hid (HWA.out.2.1.below HBQ.out)
                    have HC3 : Hid (wq.cell? ⟨bt, 1, none⟩ = some (.bool (S.c T)) ∧ bt < wq.heap.size ∧ wq.cell? ⟨bo, 1, none⟩ = some (.int .i64 (kk : Int)) ∧ wq.cell? ⟨bo, 2, none⟩ = some (.int .i64 (f : Int))) := Lib.hid ⟨(HBQ.out.cell (p := ⟨bt, 1, none⟩) HWA.out.2.2.2).trans HWA.out.2.2.1, Nat.lt_of_lt_of_le HWA.out.2.2.2 HBQ.out.size, (HBQ.out.cell (p := ⟨bo, 1, none⟩) HWX.out.2.2.2.2).trans HWX.out.2.1, (HBQ.out.cell (p := ⟨bo, 2, none⟩) HWX.out.2.2.2.2).trans HWX.out.2.2.1⟩
                    clear HWX HWA
                    obtain ⟨wz, rfl⟩ : ∃ wz : World, wz = wq := ⟨_, rfl⟩
                    have HZ : Hid (Below W0.heap.size W0 wz ∧ Tri wz W0.heap.size S.n r (overRM S 8 0) (seenM S T (J + 1)) (anewM S T J) ∧ wz.cell? ⟨bt, 1, none⟩ = some (.bool (S.c T)) ∧ bt < wz.heap.size ∧ wz.cell? ⟨bo, 1, none⟩ = some (.int .i64 (kk : Int)) ∧ wz.cell? ⟨bo, 2, none⟩ = some (.int .i64 (f : Int))) :=
                      Lib.hid ⟨HB3.out, HT3.out.congr (fun _ _ => rfl) (fun a b' => by rw [HSS.out, seenH_no (by dsimp only; rw [Int.toNat_natCast, HVF.out, hv]; simp), Bool.or_false]) (fun _ _ => rfl), HC3.out⟩
                    have s1 := (HZ.out.1.cell (p := ⟨gs, 1, none⟩) HX2.out.2.2).trans HX2.out.2.1
                    have y1 := HZ.out.2.2.2.2.1
                    have y2 := HZ.out.2.2.2.2.2
                    have HBH := Lib.hid (behind_any V cv gs S kk (f : Int) wz ((HSW.out.below HZ.out.1).rows) hkk s1)
                    have hbcs := behind_cases HOK.out (show kk < 8 by have := HOK.out.m; omega) (f : Int)
                    rcases hbcs with hb | ⟨b, hb, hbn⟩
                    · have HNO : Hid (∀ a b, anewM S T (J + 1) a b = anewM S T J a b) := Lib.hid (fun a b => by rw [HSA.out, anewH_none (by simpa using hb), Bool.or_false])
                      rw [hb] at HBH
                      clear hb
                      go_wp2_with fail
                      refine HBH.out.mono ?_
                      rintro e w4 ⟨rfl, rfl⟩
                      go_wp2
                      go_roundw
                      case rel => exact ⟨J + 1, by go_num, by omega, HZ.out.1, HZ.out.2.1.congr (fun _ _ => rfl) (fun _ _ => rfl) (fun a b => (HNO.out a b).symm), HZ.out.2.2.1, HZ.out.2.2.2.1⟩
                      case measure => go_light; simp [intOf] <;> omega
                    · by_cases hbT : b = T
                      · have HNO : Hid (∀ a b, anewM S T (J + 1) a b = anewM S T J a b) := Lib.hid (fun a b' => by rw [HSA.out, anewH_self (by rw [← hbT]; simpa using hb), Bool.or_false])
                        have hne : ((b : Int) != (T : Int)) = false := by rw [hbT]; simp
                        rw [hb] at HBH
                        clear hb hbT
                        go_wp2_with fail
                        refine HBH.out.mono ?_
                        rintro e w4 ⟨rfl, rfl⟩
                        go_wp2
                        go_roundw
                        case rel => exact ⟨J + 1, by go_num, by omega, HZ.out.1, HZ.out.2.1.congr (fun _ _ => rfl) (fun _ _ => rfl) (fun a b => (HNO.out a b).symm), HZ.out.2.2.1, HZ.out.2.2.2.1⟩
                        case measure => go_light; simp [intOf] <;> omega
                      · have HMK : Hid (∀ a b', (if a = T ∧ b' = b then true else anewM S T J a b') = anewM S T (J + 1) a b') := Lib.hid (fun a b' => by rw [HSA.out, mark (anewH_hit hact (by simpa using hb) hbT a b')])
                        have hne : ((b : Int) != (T : Int)) = true := by simp; omega
                        have c1' := HZ.out.2.1.m3.out T hTn
                        have c2' := HZ.out.2.1.m3.cell hTn hbn
                        have c3' := (HZ.out.2.1.m3.row T hTn).frozen b
                        have HGE := Lib.hid (HZ.out.2.1.ge3 hTn)
                        have HLT := Lib.hid (HZ.out.2.1.lt3 hTn)
                        rw [hb] at HBH
                        clear hb hbT
                        go_wp2_with fail
                        refine HBH.out.mono ?_
                        rintro e w4 ⟨rfl, rfl⟩
                        go_wp2
                        go_roundw
                        case rel => exact ⟨J + 1, by go_num, by omega, HZ.out.1.setCell HGE.out _, (HZ.out.2.1.set3 hTn b).congr (fun _ _ => rfl) (fun _ _ => rfl) HMK.out, (World.cell?_of_block (w := wz) (heap_setCell_other _ _ _ _ (by have := HBT.out; have := HLT.out; show bt ≠ r.G3 T; omega))).trans HZ.out.2.2.1, by simp [World.setCell]; exact HZ.out.2.2.2.1⟩
                        case measure => go_light; simp [intOf] <;> omega

                  · skip
                    have HWX : Hid ((wr.alloc (.cells #[.bool false, .int .i64 (kk : Int), .int .i64 (f : Int), .int .i64 onum] 146)).cell? ⟨wr.heap.size, 0, none⟩ = some (.bool false) ∧ (wr.alloc (.cells #[.bool false, .int .i64 (kk : Int), .int .i64 (f : Int), .int .i64 onum] 146)).cell? ⟨wr.heap.size, 1, none⟩ = some (.int .i64 (kk : Int)) ∧ (wr.alloc (.cells #[.bool false, .int .i64 (kk : Int), .int .i64 (f : Int), .int .i64 onum] 146)).cell? ⟨wr.heap.size, 2, none⟩ = some (.int .i64 (f : Int)) ∧ (wr.alloc (.cells #[.bool false, .int .i64 (kk : Int), .int .i64 (f : Int), .int .i64 onum] 146)).cell? ⟨wr.heap.size, 3, none⟩ = some (.int .i64 onum) ∧ wr.heap.size < (wr.alloc (.cells #[.bool false, .int .i64 (kk : Int), .int .i64 (f : Int), .int .i64 onum] 146)).heap.size) :=
                      Lib.hid ⟨by simp [World.cell?_alloc_new], by simp [World.cell?_alloc_new], by simp [World.cell?_alloc_new], by simp [World.cell?_alloc_new], by simp⟩
                    have HWA := Lib.hid (HAL.out (.cells #[.bool false, .int .i64 (kk : Int), .int .i64 (f : Int), .int .i64 onum] 146))
                    obtain ⟨bo, hbo⟩ : ∃ bo, bo = wr.heap.size := ⟨_, rfl⟩
                    have HBO : Hid (r.h3 ≤ bo ∧ W0.heap.size ≤ bo) := Lib.hid ⟨by have := HBT.out; omega, by have := HBT.out; omega⟩
                    go_wp2_with fail
                    rw [← hbo] at HWX ⊢
                    clear hbo
                    generalize wr.alloc (.cells #[.bool false, .int .i64 (kk : Int), .int .i64 (f : Int), .int .i64 onum] 146) = W at *
                    have k0 := cell_regrown HWX.out.1
                    have k1 := cell_regrown HWX.out.2.1
                    have k2 := cell_regrown HWX.out.2.2.1
                    have k3 := cell_regrown HWX.out.2.2.2.1
                    have ks := cell_regrown ((HWA.out.1.cell (p := ⟨gs, 0, none⟩) HX2.out.2.2).trans HX2.out.1)
                    obtain ⟨bf, offf, hAe, hbf, hkf, A2f, c2f, f0, hkcf, f1, hopf⟩ := HSW.out.txs f hfn
                    injection hAe with hAe
                    injection hAe with hAe1 hAe2
                    subst hAe1 hAe2
                    have kf0 := cell_regrown ((HWA.out.1.cell (p := ⟨b, off + f * 2, none⟩) hbf).trans f0)
                    have kf1 := cell_regrown ((HWA.out.1.cell (p := ⟨b, off + f * 2 + 1, none⟩) hbf).trans f1)
                    have cI := fun d os => Calls.regrown_of (d := d) (os := os) (wrote_any A2f (S.k f) c2f (S.c f) (kk : Int) (S.o f) (Go.Sort.grow (redrawn W d) os) hkf (hopf.below (HWA.out.1.trans ((below_regrown W d os).mono HWA.out.1.size))))
                    clear hopf f0 f1
                    have hnum := HNM.out (by first | trivial | rfl) f rfl
                    generalize hvf : vers (S.o f) (kk : Int) (S.k f) = vf at *
                    have HVF := Lib.hid hvf
                    clear hvf
                    obtain ⟨hnum1, hnum2⟩ := hnum
                    refine wp_region_quiet_below (by kernel_rfl) (by kernel_rfl) ?_
                    repeat (go_big_quiet_step (with_reducible exact cI _ _))
                    refine wpQuiet_nil ?_
                    rintro wq ⟨pq, hpq⟩
                    have HBQ : Hid (Below W.heap.size W wq) := Lib.hid (hpq ▸ below_regrown W pq.d pq.os)
                    clear hpq
                    clear k0 k1 k2 k3 ks kf0 kf1 cI
                    have HB3 : Hid (Below W0.heap.size W0 wq) := Lib.hid (HWA.out.1.trans (HBQ.out.mono HWA.out.1.size))
                    have HT3 := Lib.hid (HWA.out.2.1.below HBQ.out)
                    have HC3 : Hid (wq.cell? ⟨bt, 1, none⟩ = some (.bool (S.c T)) ∧ bt < wq.heap.size ∧ wq.cell? ⟨bo, 1, none⟩ = some (.int .i64 (kk : Int)) ∧ wq.cell? ⟨bo, 2, none⟩ = some (.int .i64 (f : Int))) := Lib.hid ⟨(HBQ.out.cell (p := ⟨bt, 1, none⟩) HWA.out.2.2.2).trans HWA.out.2.2.1, Nat.lt_of_lt_of_le HWA.out.2.2.2 HBQ.out.size, (HBQ.out.cell (p := ⟨bo, 1, none⟩) HWX.out.2.2.2.2).trans HWX.out.2.1, (HBQ.out.cell (p := ⟨bo, 2, none⟩) HWX.out.2.2.2.2).trans HWX.out.2.2.1⟩
                    clear HWX HWA
                    have HGE2 := Lib.hid (HT3.out.ge2 hfn)
                    have HLT2 := Lib.hid (HT3.out.lt3 hfn)
                    have c1'' := HT3.out.m2.out f hfn
                    have c2'' := HT3.out.m2.cell hfn hTn
                    have c3'' := (HT3.out.m2.row f hfn).frozen T
                    have y0 := HC3.out.2.2.2
                    have HZ0 : Hid (Below W0.heap.size W0 (wq.setCell ⟨r.G2 f, T, none⟩ (.bool true)) ∧ Tri (wq.setCell ⟨r.G2 f, T, none⟩ (.bool true)) W0.heap.size S.n r (overRM S 8 0) (seenM S T (J + 1)) (anewM S T J) ∧ (wq.setCell ⟨r.G2 f, T, none⟩ (.bool true)).cell? ⟨bt, 1, none⟩ = some (.bool (S.c T)) ∧ bt < (wq.setCell ⟨r.G2 f, T, none⟩ (.bool true)).heap.size ∧ (wq.setCell ⟨r.G2 f, T, none⟩ (.bool true)).cell? ⟨bo, 1, none⟩ = some (.int .i64 (kk : Int)) ∧ (wq.setCell ⟨r.G2 f, T, none⟩ (.bool true)).cell? ⟨bo, 2, none⟩ = some (.int .i64 (f : Int))) :=
                      Lib.hid ⟨HB3.out.setCell HGE2.out _, (HT3.out.set2 hfn T).congr (fun _ _ => rfl) (fun a b' => by rw [HSS.out, mark (seenH_hit hact rfl hfT (by rw [HVF.out]; simpa using hv) a b')]) (fun _ _ => rfl),
                        (World.cell?_of_block (w := wq) (heap_setCell_other _ _ _ _ (by have := HBT.out; have := HLT2.out; show bt ≠ r.G2 f; omega))).trans HC3.out.1, by simp [World.setCell]; exact HC3.out.2.1,
                        (World.cell?_of_block (w := wq) (heap_setCell_other _ _ _ _ (by have := HBO.out; have := HLT2.out; show bo ≠ r.G2 f; omega))).trans HC3.out.2.2.1, (World.cell?_of_block (w := wq) (heap_setCell_other _ _ _ _ (by have := HBO.out; have := HLT2.out; show bo ≠ r.G2 f; omega))).trans HC3.out.2.2.2⟩
                    have z1 := HZ0.out.2.2.2.2.1
                    have z2 := HZ0.out.2.2.2.2.2
                    have y9 := HC3.out.2.2.1
                    have hne1 : bo ≠ r.G2 f := by have := HBO.out; have := HLT2.out; omega
                    have hne2 : r.G2 f ≠ bo := fun h => hne1 h.symm
                    go_wp2_with fail
                    generalize wq.setCell ⟨r.G2 f, T, none⟩ (.bool true) = wz at *
                    clear c1'' c2'' c3'' y0 y9 z1 z2 hne1 hne2
                    have HZ := HZ0
                    have s1 := (HZ.out.1.cell (p := ⟨gs, 1, none⟩) HX2.out.2.2).trans HX2.out.2.1
                    have y1 := HZ.out.2.2.2.2.1
                    have y2 := HZ.out.2.2.2.2.2
                    have HBH := Lib.hid (behind_any V cv gs S kk (f : Int) wz ((HSW.out.below HZ.out.1).rows) hkk s1)
                    have hbcs := behind_cases HOK.out (show kk < 8 by have := HOK.out.m; omega) (f : Int)
                    rcases hbcs with hb | ⟨b, hb, hbn⟩
                    · have HNO : Hid (∀ a b, anewM S T (J + 1) a b = anewM S T J a b) := Lib.hid (fun a b => by rw [HSA.out, anewH_none (by simpa using hb), Bool.or_false])
                      rw [hb] at HBH
                      clear hb
                      go_wp2_with fail
                      refine HBH.out.mono ?_
                      rintro e w4 ⟨rfl, rfl⟩
                      go_wp2
                      go_roundw
                      case rel => exact ⟨J + 1, by go_num, by omega, HZ.out.1, HZ.out.2.1.congr (fun _ _ => rfl) (fun _ _ => rfl) (fun a b => (HNO.out a b).symm), HZ.out.2.2.1, HZ.out.2.2.2.1⟩
                      case measure => go_light; simp [intOf] <;> omega
                    · by_cases hbT : b = T
                      · have HNO : Hid (∀ a b, anewM S T (J + 1) a b = anewM S T J a b) := Lib.hid (fun a b' => by rw [HSA.out, anewH_self (by rw [← hbT]; simpa using hb), Bool.or_false])
                        have hne : ((b : Int) != (T : Int)) = false := by rw [hbT]; simp
                        rw [hb] at HBH
                        clear hb hbT
                        go_wp2_with fail
                        refine HBH.out.mono ?_
                        rintro e w4 ⟨rfl, rfl⟩
                        go_wp2
                        go_roundw
                        case rel => exact ⟨J + 1, by go_num, by omega, HZ.out.1, HZ.out.2.1.congr (fun _ _ => rfl) (fun _ _ => rfl) (fun a b => (HNO.out a b).symm), HZ.out.2.2.1, HZ.out.2.2.2.1⟩
                        case measure => go_light; simp [intOf] <;> omega
                      · have HMK : Hid (∀ a b', (if a = T ∧ b' = b then true else anewM S T J a b') = anewM S T (J + 1) a b') := Lib.hid (fun a b' => by rw [HSA.out, mark (anewH_hit hact (by simpa using hb) hbT a b')])
                        have hne : ((b : Int) != (T : Int)) = true := by simp; omega
                        have c1' := HZ.out.2.1.m3.out T hTn
                        have c2' := HZ.out.2.1.m3.cell hTn hbn
                        have c3' := (HZ.out.2.1.m3.row T hTn).frozen b
                        have HGE := Lib.hid (HZ.out.2.1.ge3 hTn)
                        have HLT := Lib.hid (HZ.out.2.1.lt3 hTn)
                        rw [hb] at HBH
                        clear hb hbT
                        go_wp2_with fail
                        refine HBH.out.mono ?_
                        rintro e w4 ⟨rfl, rfl⟩
                        go_wp2
                        go_roundw
                        case rel => exact ⟨J + 1, by go_num, by omega, HZ.out.1.setCell HGE.out _, (HZ.out.2.1.set3 hTn b).congr (fun _ _ => rfl) (fun _ _ => rfl) HMK.out, (World.cell?_of_block (w := wz) (heap_setCell_other _ _ _ _ (by have := HBT.out; have := HLT.out; show bt ≠ r.G3 T; omega))).trans HZ.out.2.2.1, by simp [World.setCell]; exact HZ.out.2.2.2.1⟩
                        case measure => go_light; simp [intOf] <;> omega

            · obtain rfl : J = S.k T := by omega
              go_wp2
              go_roundw
              case rel => exact ⟨T + 1, by go_num, by omega, HB.out, HT.out.congr (fun _ _ => rfl) (fun a b => twoB_next _ _ _) (fun a b => twoB_next _ _ _)⟩
              case measure => go_light; simp [intOf] <;> omega
        · obtain rfl : T = S.n := by omega
          have HFIN : Hid (Tri wo w.heap.size S.n r (overRM S 8 0) (seenM S S.n 0) (anewM S S.n 0)) := Lib.hid ⟨⟨HT.out.m1.out, HT.out.m1.row, HT.out.m1.ne, HT.out.m1.inj, ⟨Nat.le_trans HB0.out.size HT.out.m1.rO.1, HT.out.m1.rO.2⟩, fun i hi => ⟨Nat.le_trans HB0.out.size (HT.out.m1.rG i hi).1, (HT.out.m1.rG i hi).2⟩, HT.out.m1.top⟩, HT.out.m2, HT.out.m3, Nat.le_trans HB0.out.size HT.out.o1, HT.out.o2, HT.out.o3⟩
          go_wp2
          go_ret3
          exact ⟨r, c1, c2, c3, rfl, hc1, hc2, hc3, HFIN.out, HB0.out.trans (HB.out.mono HB0.out.size)⟩
end Go.Proofs.YtkncomfbedbikaaDoor
