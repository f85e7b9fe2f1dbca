/- testimonyref.StoryFinds: the two loops over all ops. -/
import Derived.Test.YtkncomfbedbikaaDoorIsoV
import Derived.Test.YtkncomfbedbikaaDoorIsoI
import Derived.Deep.RegionHeld3
import Derived.Test.YtkncomfbedbikaaDoorQTail
import Derived.Deep.DeepCutAuto
namespace Go.Proofs.YtkncomfbedbikaaDoor
open Go.RowKit
def FindsPost (S : GStory) (w : World) (e : Ending) (w' : World) : Prop :=
  ∃ g, e = .returned (.slice (some ⟨g, 0, none⟩) 6 6) ∧ w'.rowIs g 4 6 (fun k => .bool (findsV S k)) ∧ Below w.heap.size w w'
theorem make_six (W : World) : (Instr.makeSlice 87 (.int .i64 6) (.int .i64 6)).run Tryd.prog W = .ok (.slice (some ⟨W.heap.size, 0, none⟩) 6 6) (W.alloc (.cells (madeCells #[.bool false] 6) 4)) := make_bools 6 (by omega) W
/-- What stands while the ops are gone over: the six, and the box of the transaction. -/
structure FindAt (S : GStory) (w1 wr : World) (T J bt : Nat) : Prop where
  bel : Below w1.heap.size w1 wr
  row : wr.rowIs w1.heap.size 4 6 (fun k => .bool (six false (abF S T J) (beF S T J) false false false k))
  bc : wr.cell? ⟨bt, 1, none⟩ = some (.bool (S.c T))
  bl : bt < wr.heap.size
  bg : w1.heap.size < bt
/-- .. and the box of the op. -/
structure FindOp (S : GStory) (w1 wr : World) (T J J2 bt bo : Nat) (o : IOp) : Prop where
  bel : Below w1.heap.size w1 wr
  row : wr.rowIs w1.heap.size 4 6 (fun k => .bool (six false (abF S T J2) (beF S T J) false false false k))
  bc : wr.cell? ⟨bt, 1, none⟩ = some (.bool (S.c T))
  bl : bt < wr.heap.size
  bg : w1.heap.size < bt
  bx : IBoxAt wr bo o
  bol : bo < wr.heap.size
  bog : w1.heap.size < bo
theorem IBoxAt.setOther {w : World} {b : Nat} {o : IOp} (h : IBoxAt w b o) {p : Addr} (hne : p.block ≠ b) (v : Value) : IBoxAt (w.setCell p v) b o := by
  obtain ⟨h0, h1, h2, h3⟩ := h
  have e : ∀ k, (w.setCell p v).cell? ⟨b, k, none⟩ = w.cell? ⟨b, k, none⟩ := fun k => World.cell?_setCell_other w p ⟨b, k, none⟩ v (fun e => hne (by rw [e]))
  exact ⟨(e _).trans h0, (e _).trans h1, (e _).trans h2, (e _).trans h3⟩
theorem FindAt.op {S : GStory} {w1 wr : World} {T J bt : Nat} (h : FindAt S w1 wr T J bt) (o : IOp) : FindOp S w1 (wr.alloc (o.obj 146)) T J J bt wr.heap.size o := by
  have hb : Below wr.heap.size wr (wr.alloc (o.obj 146)) := (Below.refl _ _).alloc (Nat.le_refl _) _
  exact ⟨h.bel.alloc h.bel.size _, rowIs_below h.row hb, (hb.cell (p := ⟨bt, 1, none⟩) h.bl).trans h.bc, Nat.lt_of_lt_of_le h.bl hb.size, h.bg, ibox_new rfl _ _, by simp, Nat.lt_trans h.bg h.bl⟩
theorem FindOp.set1 {S : GStory} {w1 wr : World} {T J bt bo : Nat} {o : IOp} (h : FindOp S w1 wr T J J bt bo o) (x : Bool) (hx : abF S T (J + 1) = x) : FindOp S w1 (wr.setCell ⟨w1.heap.size, 1, none⟩ (.bool x)) T J (J + 1) bt bo o := by
  have hg := h.bg
  have hog := h.bog
  refine ⟨h.bel.setCell (Nat.le_refl _) _, six_set h.row 1 x fun k hk => ?_, ?_, by simp [World.setCell]; exact h.bl, h.bg, h.bx.setOther (by show w1.heap.size ≠ bo; omega) _, by simp [World.setCell]; exact h.bol, h.bog⟩
  · rw [hx]
    exact six1 _ _ _ _ _ _ _ k hk
  · exact (World.cell?_of_block (w := wr) (heap_setCell_other _ _ _ _ (by show bt ≠ w1.heap.size; omega))).trans h.bc
theorem FindOp.set2 {S : GStory} {w1 wr w' : World} {T J bt bo : Nat} {o : IOp} (h : FindOp S w1 wr T J (J + 1) bt bo o) (hb : Below wr.heap.size wr w') (x : Bool) (hx : beF S T (J + 1) = x) : FindAt S w1 (w'.setCell ⟨w1.heap.size, 2, none⟩ (.bool x)) T (J + 1) bt := by
  have hg := h.bg
  refine ⟨(h.bel.trans (hb.mono h.bel.size)).setCell (Nat.le_refl _) _, six_set (rowIs_below h.row hb) 2 x fun k hk => ?_, ?_, by simp [World.setCell]; exact Nat.lt_of_lt_of_le h.bl hb.size, h.bg⟩
  · rw [hx]
    exact six2 _ _ _ _ _ _ _ k hk
  · exact (World.cell?_of_block (w := w') (heap_setCell_other _ _ _ _ (by show bt ≠ w1.heap.size; omega))).trans ((hb.cell (p := ⟨bt, 1, none⟩) h.bl).trans h.bc)
theorem FindAt.skip {S : GStory} {w1 wr : World} {T J bt : Nat} (h : FindAt S w1 wr T J bt) (hno : readB S T (S.o T J) = false) (ob : Obj) : FindAt S w1 (wr.alloc ob) T (J + 1) bt := by
  have hb : Below wr.heap.size wr (wr.alloc ob) := (Below.refl _ _).alloc (Nat.le_refl _) _
  refine ⟨h.bel.alloc h.bel.size _, ?_, (hb.cell (p := ⟨bt, 1, none⟩) h.bl).trans h.bc, Nat.lt_of_lt_of_le h.bl hb.size, h.bg⟩
  rw [abF_succ, beF_succ, abH_no hno, beH_no hno, Bool.or_false, Bool.or_false]
  exact rowIs_below h.row hb
theorem FindAt.drew {S : GStory} {w1 wr : World} {T J bt : Nat} (h : FindAt S w1 wr T J bt) : FindAt S w1 wr.drew T J bt := ⟨h.bel.drew, h.row, h.bc, h.bl, h.bg⟩
theorem find_start {S : GStory} (w1 : World) : Below w1.heap.size w1 (w1.alloc (.cells (madeCells #[.bool false] 6) 4)) ∧ (w1.alloc (.cells (madeCells #[.bool false] 6) 4)).rowIs w1.heap.size 4 6 (fun k => .bool (six false (abF S 0 0) (beF S 0 0) false false false k)) :=
  ⟨(Below.refl _ _).alloc (Nat.le_refl _) _, (World.rowIs_made w1 (.bool false) 6 4).congr fun k _ => by
    rw [show abF S 0 0 = false from twoB_zero _ _, show beF S 0 0 = false from twoB_zero _ _]
    simp [six]⟩
/-- What stands while what is anew is held against what leads back. -/
def backH (S : GStory) (C : Nat → Nat → Bool) (i k : Nat) : Bool := twoB (fun i k => anewM S S.n 0 i k && C k i) (fun _ => S.n) i k
theorem BoolssNew.congr {w : World} {lo : Nat} {A : Option Addr} {n : Nat} {M M' : Nat → Nat → Bool} (h : BoolssNew w lo A n M) (e : ∀ i k, i < n → k < n → M i k = M' i k) : BoolssNew w lo A n M' := fun i hi => by
  obtain ⟨b, off, hA, g, hb, b2, off2, c2, h1, h2, g2, h3, h4⟩ := h i hi
  exact ⟨b, off, hA, g, hb, b2, off2, c2, h1, h2, g2, h3, fun k hk => by rw [← e i k hi hk]; exact h4 k hk⟩
structure LastAt (S : GStory) (w1 wr : World) (lo : Nat) (BA BB : Option Addr) (i k : Nat) : Prop where
  bel : Below w1.heap.size w1 wr
  row : wr.rowIs w1.heap.size 4 6 (fun t => .bool (six (roundB (overPM S 8 0) S.n) (abF S S.n 0) (beF S S.n 0) (roundB (knownM S) S.n) (backH S (warsh (knownM S) S.n) i k) (backH S (warsh (serM S) S.n) i k) t))
  ca : BoolssNew wr lo BA S.n (warsh (knownM S) S.n)
  cb : BoolssNew wr lo BB S.n (warsh (serM S) S.n)
  lt : w1.heap.size < lo
theorem LastAt.step {S : GStory} {w1 wr : World} {lo i k : Nat} {BA BB : Option Addr} (h : LastAt S w1 wr lo BA BB i k) (x y : Bool) (hx : backH S (warsh (knownM S) S.n) i (k + 1) = x) (hy : backH S (warsh (serM S) S.n) i (k + 1) = y) :
    LastAt S w1 ((wr.setCell ⟨w1.heap.size, 4, none⟩ (.bool x)).setCell ⟨w1.heap.size, 5, none⟩ (.bool y)) lo BA BB i (k + 1) := by
  have hl := h.lt
  have hk : ∀ v v' a, lo ≤ a → a < wr.heap.size → ((wr.setCell ⟨w1.heap.size, 4, none⟩ v).setCell ⟨w1.heap.size, 5, none⟩ v').heap[a]? = wr.heap[a]? := fun v v' a ha _ => by
    rw [heap_setCell_other _ _ _ _ (show a ≠ w1.heap.size by omega), heap_setCell_other _ _ _ _ (show a ≠ w1.heap.size by omega)]
  refine ⟨(h.bel.setCell (Nat.le_refl _) _).setCell (Nat.le_refl _) _, six_set (six_set (F' := six (roundB (overPM S 8 0) S.n) (abF S S.n 0) (beF S S.n 0) (roundB (knownM S) S.n) x (backH S (warsh (serM S) S.n) i k)) h.row 4 x fun t ht => ?_) 5 y fun t ht => ?_, h.ca.keep (hk _ _) (by simp [World.setCell]), h.cb.keep (hk _ _) (by simp [World.setCell]), hl⟩
  · exact six4 _ _ _ _ _ _ _ t ht
  · rw [hx, hy]
    exact six5 _ _ _ _ _ _ _ t ht
set_option maxRecDepth 100000 in
set_option maxHeartbeats 16000000 in
theorem rStoryFinds_any (A V : Option Addr) (c cv : Nat) (S : GStory) (w : World) (h : StoryAt w A V S) (hz : storyErr S = 0) (hn0 : 0 < S.n) :
    Calls Tryd.prog 35 #[.agg #[.slice A S.n c, .slice V S.m cv]] w (FindsPost S w) := by
  have hok := story_ok hz
  have HX : Hid (Below w.heap.size w (w.alloc (.cells #[.slice A S.n c, .slice V S.m cv] 80)) ∧ (w.alloc (.cells #[.slice A S.n c, .slice V S.m cv] 80)).cell? ⟨w.heap.size, 0, none⟩ = some (.slice A S.n c) ∧ w.heap.size < (w.alloc (.cells #[.slice A S.n c, .slice V S.m cv] 80)).heap.size) :=
    Lib.hid ⟨(Below.refl _ _).alloc (Nat.le_refl _) _, by simp [World.cell?_alloc_new], by simp⟩
  have hn8 := hok.n
  have HS := Lib.hid h
  have HOK := Lib.hid hok
  have hmk6 := make_six
  clear h hz hok
  go_enter Tryd.func35, Tryd.ntmps35
  go_wp2_with fail
  obtain ⟨gs, hgs⟩ : ∃ gs, gs = w.heap.size := ⟨_, rfl⟩
  have HSW : Hid (StoryAt (w.alloc (.cells #[.slice A S.n c, .slice V S.m cv] 80)) A V S) := Lib.hid (HS.out.below HX.out.1)
  have HB0 : Hid (Below w.heap.size w (w.alloc (.cells #[.slice A S.n c, .slice V S.m cv] 80))) := Lib.hid HX.out.1
  have HX2 := Lib.hid HX.out.2
  rw [← hgs] at HX2 ⊢
  clear HX hgs HS
  generalize w.alloc (.cells #[.slice A S.n c, .slice V S.m cv] 80) = W0 at *
  refine (rEdges_any A V c cv S W0 HSW.out HOK.out hn0).mono ?_
  rintro e w1 ⟨r, c1, c2, c3, rfl, hc1, hc2, hc3, htri, hb1⟩
  have HBW1 := Lib.hid hb1
  have H1 : Hid (BoolssAt w1 (some ⟨r.g1, 0, none⟩) S.n (overPM S 8 0)) := Lib.hid (htri.m1.reads.congr fun i k _ _ => over_eq HOK.out i k)
  have H2 : Hid (BoolssAt w1 (some ⟨r.g2, 0, none⟩) S.n (seenM S S.n 0)) := Lib.hid htri.m2.reads
  have H3 : Hid (BoolssAt w1 (some ⟨r.g3, 0, none⟩) S.n (anewM S S.n 0)) := Lib.hid htri.m3.reads
  have s0 := (hb1.cell (p := ⟨gs, 0, none⟩) HX2.out.2).trans HX2.out.1
  have HF0 := Lib.hid (find_start (S := S) w1)
  have HGL : Hid (gs < w1.heap.size) := Lib.hid (Nat.lt_of_lt_of_le HX2.out.2 hb1.size)
  have hs1w := hb1.size
  have hgl := HGL.out
  clear htri hb1
  go_wp2_with fail
  have HS0 := Lib.hid s0
  clear s0 hgl
  go_loopw [25] (fun x wr => ∃ T : Nat, x = .int .i64 T ∧ T ≤ S.n ∧ Below w1.heap.size w1 wr ∧ wr.rowIs w1.heap.size 4 6 (fun k => .bool (six false (abF S T 0) (beF S T 0) false false false k))) (fun x _ => S.n - (intOf x).toNat)
  case atStart => exact ⟨0, rfl, by omega, HF0.out.1, HF0.out.2⟩
  case round =>
    clear HF0
    obtain ⟨wo, rfl⟩ : ∃ wo : World, wo = wr := ⟨_, rfl⟩
    obtain ⟨T, rfl, hT, hbw, hrow⟩ := hrel
    have HB := Lib.hid hbw
    have HR := Lib.hid hrow
    clear hbw hrow
    have HBO : Hid (Below W0.heap.size W0 wo) := Lib.hid (HBW1.out.trans (HB.out.mono hs1w))
    by_cases hTn : T < S.n
    · obtain ⟨b, off, rfl, hb, hk, A2, cc2, g0, hkc, g1, hops⟩ := HSW.out.txs T hTn
      have HO := Lib.hid hops
      have g0' := (HBO.out.cell (p := ⟨b, off + T * 2, none⟩) hb).trans g0
      have g1' := (HBO.out.cell (p := ⟨b, off + T * 2 + 1, none⟩) hb).trans g1
      have HK60 := Lib.hid (HOK.out.k T hTn)
      have HW : Hid (FindAt S w1 (wo.alloc (.cells #[.slice A2 (S.k T) cc2, .bool (S.c T)] 145)) T 0 wo.heap.size) :=
        Lib.hid ⟨HB.out.alloc HB.out.size _, HR.out.alloc _, by simp [World.cell?_alloc_new], by simp, HR.out.lt⟩
      clear hops hkc hk g0 g1
      go_wp2_with fail
      obtain ⟨bt, hbt⟩ : ∃ bt, bt = wo.heap.size := ⟨_, rfl⟩
      rw [← hbt] at HW ⊢
      clear hbt
      go_loopw [33] (fun x wr => ∃ J : Nat, x = .int .i64 J ∧ J ≤ S.k T ∧ FindAt S w1 wr T J bt) (fun x _ => S.k T - (intOf x).toNat)
      case atStart => exact ⟨0, rfl, by omega, HW.out⟩
      case round =>
        clear HW
        obtain ⟨J, rfl, hJ, hfa⟩ := hrel
        have HFA := Lib.hid hfa
        have HBR : Hid (Below W0.heap.size W0 wr) := Lib.hid (HBW1.out.trans (hfa.bel.mono hs1w))
        clear hfa g0' g1'
        by_cases hJk : J < S.k T
        · obtain ⟨b3, off3, rfl, hb3, p0, p1, p2, p3⟩ := (HO.out.below HBR.out) J hJk
          have hJ60 : J + 1 ≤ 60 := by have := HK60.out; omega
          obtain ⟨o, ho⟩ : ∃ o, S.o T J = o := ⟨_, rfl⟩
          have hop := HOK.out.op T J hTn hJk
          have hnm := HOK.out.num T J hTn hJk
          rw [ho] at p0 p1 p2 p3 hop hnm
          have HHO := Lib.hid ho
          have ht := iread_tree S T o hop.2.2.1
          have HNM := Lib.hid hnm
          have hbc := HFA.out.bc
          have hbl := HFA.out.bl
          have HSK : Hid (readB S T o = false → ∀ ob, FindAt S w1 (wr.alloc ob) T (J + 1) bt) := Lib.hid fun hno ob => HFA.out.skip (by rw [ho]; exact hno) ob
          have HFO := Lib.hid (HFA.out.op o)
          clear ho hnm
          obtain ⟨owr, okey, ofrm, onum⟩ := o
          dsimp only at p0 p1 p2 p3 hop ht
          obtain ⟨kk, rfl⟩ : ∃ kk : Nat, okey = (kk : Int) := ⟨okey.toNat, by omega⟩
          have hkk : kk < S.m := by have := HOK.out.m; omega
          rcases ht with ⟨d1, hact⟩ | ⟨d1, d2, hact⟩ | ⟨d1, d2, d3, hact⟩ | ⟨d1, d2, d3, hact⟩ | ⟨f, d1, d2, d3, hfT, hact⟩
          · rw [d1] at hbc
            clear d1
            have HT1 := Lib.hid (HSK.out hact)
            clear hact
            go_wp2
            go_roundw
            case rel => exact ⟨J + 1, by go_num, by omega, HT1.out _⟩
            case measure => go_light; simp [intOf] <;> omega
          · subst d2
            rw [d1] at hbc
            have HT1 := Lib.hid (HSK.out hact)
            clear hact d1
            go_wp2
            go_roundw
            case rel => exact ⟨J + 1, by go_num, by omega, HT1.out _⟩
            case measure => go_light; simp [intOf] <;> omega
          · subst d2 d3
            rw [d1] at hbc
            have HT1 := Lib.hid (HSK.out hact)
            clear hact d1
            go_wp2
            go_roundw
            case rel => exact ⟨J + 1, by go_num, by omega, HT1.out _⟩
            case measure => go_light; simp [intOf] <;> omega
          · subst d2 d3
            rw [d1] at hbc
            have HT1 := Lib.hid (HSK.out hact)
            have hq1 : ((T : Int) != (T : Int)) = false := by simp
            clear hact d1
            go_wp2
            go_roundw
            case rel => exact ⟨J + 1, by go_num, by omega, HT1.out _⟩
            case measure => go_light; simp [intOf] <;> omega
          · subst d2 d3
            have hfn : f < S.n := by omega
            have HACT := Lib.hid hact
            have hq1 : ((f : Int) != (T : Int)) = true := by simp; omega
            have hq2 : (f != T) = true := by simpa using hfT
            have hq3 : decide (f = T) = false := by simpa using hfT
            have HHT := Lib.hid d1
            rw [d1] at hbc
            have HW : Hid (FindOp S w1 (wr.alloc (.cells #[.bool false, .int .i64 (kk : Int), .int .i64 (f : Int), .int .i64 onum] 146)) T J J bt wr.heap.size ⟨false, (kk : Int), (f : Int), onum⟩) := HFO
            clear hact d1 HFO HSK
            go_upto_region 10 with fail
            obtain ⟨bo, hbo⟩ : ∃ bo, bo = wr.heap.size := ⟨_, rfl⟩
            rw [← hbo] at HW ⊢
            clear hbo p0 p1 p2 p3 hbc hbl hb3
            generalize wr.alloc (.cells #[.bool false, .int .i64 (kk : Int), .int .i64 (f : Int), .int .i64 onum] 146) = W at *
            go_cut [] (fun wx => FindOp S w1 wx T J (J + 1) bt bo ⟨false, (kk : Int), (f : Int), onum⟩)
            case first =>
              have HBX : Hid (Below W0.heap.size W0 W) := Lib.hid (HBW1.out.trans (HW.out.bel.mono hs1w))
              obtain ⟨bf, offf, hAe, hbf, hkf, A2f, c2f, f0, hkcf, f1, hopf⟩ := HSW.out.txs f hfn
              injection hAe with hAe
              injection hAe with hAe1 hAe2
              subst hAe1 hAe2
              have f1' := (HBX.out.cell (p := ⟨b, off + f * 2 + 1, none⟩) hbf).trans f1
              have s0 := (HW.out.bel.cell (p := ⟨gs, 0, none⟩) HGL.out).trans HS0.out
              have y2 := HW.out.bx.2.2.1
              have x1 : W.cell? ⟨w1.heap.size, 1, none⟩ = some (.bool (abF S T J)) := HW.out.row.cell (show 1 < 6 by omega)
              have x2 := HW.out.row.frozen 1
              have HSU : Hid (abF S T (J + 1) = (abF S T J || !S.c f)) := Lib.hid (by rw [abF_succ, HHO.out, abH_yes HACT.out rfl])
              have HST := Lib.hid (fun x hx => HW.out.set1 x hx)
              clear f1 f0 hopf hkcf hkf
              generalize abF S T J = X at *
              generalize S.c f = Y at *
              cases X
              · cases Y
                · go_wp2_with fail
                  go_meet
                  case rel => exact HST.out _ (by rw [HSU.out]; rfl)
                · go_wp2_with fail
                  go_meet
                  case rel => exact HST.out _ (by rw [HSU.out]; rfl)
              · go_wp2_with fail
                go_meet
                case rel => exact HST.out _ (by rw [HSU.out]; rfl)
            case rest =>
              have HC := Lib.hid hcut
              clear hcut HW
              have HBX : Hid (Below W0.heap.size W0 wc) := Lib.hid (HBW1.out.trans (HC.out.bel.mono hs1w))
              have HSU : Hid (beF S T (J + 1) = (beF S T J || (onum + 1 != (vers (S.o f) (kk : Int) (S.k f) : Int)))) := Lib.hid (by rw [beF_succ, HHO.out, beH_yes HACT.out rfl])
              have x1 : wc.cell? ⟨w1.heap.size, 2, none⟩ = some (.bool (beF S T J)) := HC.out.row.cell (show 2 < 6 by omega)
              have x2 := HC.out.row.frozen 2
              have HST := Lib.hid (fun W hb x hx => HC.out.set2 (w' := W) hb x hx)
              have HGLT : Hid (w1.heap.size < wc.heap.size ∧ bo ≠ w1.heap.size ∧ gs ≠ w1.heap.size ∧ b ≠ w1.heap.size) := Lib.hid ⟨HC.out.row.lt, by have := HC.out.bog; omega, by have := HGL.out; omega, by omega⟩
              generalize beF S T J = X at *
              cases X
              · obtain ⟨bf, offf, hAe, hbf, hkf, A2f, c2f, f0, hkcf, f1, hopf⟩ := HSW.out.txs f hfn
                injection hAe with hAe
                injection hAe with hAe1 hAe2
                subst hAe1 hAe2
                have f0' := (HBX.out.cell (p := ⟨b, off + f * 2, none⟩) hbf).trans f0
                have f1' := (HBX.out.cell (p := ⟨b, off + f * 2 + 1, none⟩) hbf).trans f1
                have s0 := (HC.out.bel.cell (p := ⟨gs, 0, none⟩) HGL.out).trans HS0.out
                obtain ⟨_, y1, y2, y3⟩ := HC.out.bx
                have HOF := Lib.hid (hopf.below HBX.out)
                have hnum := HNM.out rfl f rfl
                obtain ⟨hnum1, hnum2⟩ := hnum
                dsimp only at hnum1 hnum2 y1 y2 y3
                have k1 := cell_regrown y1
                have k2 := cell_regrown y2
                have k3 := cell_regrown y3
                have ks := cell_regrown s0
                have kf0 := cell_regrown f0'
                have kf1 := cell_regrown f1'
                have kx := cell_regrown x1
                have cI := fun d os => Calls.regrown_of (d := d) (os := os) (wrote_any A2f (S.k f) c2f (S.c f) (kk : Int) (S.o f) (Go.Sort.grow (redrawn wc d) os) hkf (HOF.out.below (below_regrown wc d os)))
                clear f0 f1 hopf hkcf
                generalize vers (S.o f) (kk : Int) (S.k f) = vf at *
                generalize S.c f = Y at *
                have hw1 : IntKind.i64.wrap (onum + 1) = onum + 1 := IntWalk.i64_in _ (by omega)
                cases hv : (onum + 1 != (vf : Int))
                all_goals
                  have HV := Lib.hid hv
                  go_wp2_with fail
                  refine wp_region_below_tail 20 (by kernel_rfl) (by kernel_rfl) ?_
                  simp only [List.take_succ_cons, List.take_zero, List.drop_succ_cons, List.drop_zero]
                  repeat (go_big_quiet_step (with_reducible exact cI _ _))
                  refine wpQuiet_nil ?_
                  rintro wq ⟨pq, hpq⟩
                  have HBQ : Hid (Below wc.heap.size wc wq) := Lib.hid (hpq ▸ below_regrown wc pq.d pq.os)
                  clear hpq
                  have z1 := (HBQ.out.cell (p := ⟨w1.heap.size, 2, none⟩) HGLT.out.1).trans x1
                  have z2 := (HBQ.out.frozen (p := ⟨w1.heap.size, 2, none⟩) HGLT.out.1).trans x2
                  clear k1 k2 k3 ks kf0 kf1 kx cI
                  go_wp2
                  go_roundw
                  case rel => exact ⟨J + 1, by go_num, by omega, HST.out wq HBQ.out _ (by rw [HSU.out, HV.out]; rfl)⟩
                  case measure => go_light; simp [intOf] <;> omega
              · go_wp2_with fail
                refine wp_region_still_tail 20 (by kernel_rfl) (by kernel_rfl) ?_
                simp only [List.take_succ_cons, List.take_zero, List.drop_succ_cons, List.drop_zero]
                change wpStill _ _ wc.drew _ _ _
                refine wpStill_of_quiet ?_
                repeat (go_big_quiet_step (fail))
                refine wpQuiet_nil ?_
                change wpList _ _ _ _ _ wc.drew
                go_wp2
                go_roundw
                case rel => exact ⟨J + 1, by go_num, by omega, (HST.out wc (Below.refl _ _) true (by rw [HSU.out]; rfl)).drew⟩
                case measure => go_light; simp [intOf] <;> omega
        · obtain rfl : J = S.k T := by omega
          go_wp2
          go_roundw
          case rel => exact ⟨T + 1, by go_num, by omega, HFA.out.bel, by rw [show abF S (T + 1) 0 = abF S T (S.k T) from (twoB_next _ _ _).symm, show beF S (T + 1) 0 = beF S T (S.k T) from (twoB_next _ _ _).symm]; exact HFA.out.row⟩
          case measure => go_light; simp [intOf] <;> omega
    · obtain rfl : T = S.n := by omega
      have HA1 := Lib.hid (H1.out.below HB.out)
      have HA2 := Lib.hid (H2.out.below HB.out)
      have HRR := Lib.hid (rround_any (some ⟨r.g1, 0, none⟩) S.n c1 (overPM S 8 0) wo (by omega) HA1.out)
      go_wp2_with fail
      refine HRR.out.mono ?_
      rintro e w2 ⟨rfl, hb2⟩
      have HB2 : Hid (Below w1.heap.size w1 w2) := Lib.hid (HB.out.trans (hb2.mono HB.out.size))
      have HR2 := Lib.hid (rowIs_below HR.out hb2)
      have HGS2 : Hid (GsAt (w2.alloc (.cells #[.slice (some ⟨r.g1, 0, none⟩) S.n c1, .slice (some ⟨r.g2, 0, none⟩) S.n c2] 97)) w2.heap.size 2 S.n (triMs (overPM S 8 0) (seenM S S.n 0) (anewM S S.n 0))) := Lib.hid (gs2_of (HA1.out.below hb2) (HA2.out.below hb2) hc1 hc2)
      have HAL2 : Hid (∀ ob, Below w2.heap.size w2 (w2.alloc ob)) := Lib.hid fun ob => (Below.refl _ _).alloc (Nat.le_refl _) ob
      clear hb2 HRR HA1 HA2
      go_wp2_with fail
      refine (either_any w2.heap.size 2 2 S.n _ _ (by omega) (by omega) hn0 (by omega) HGS2.out).mono ?_
      rintro e w3 ⟨gO, cap, G, rfl, hcap, hmat, hb3⟩
      have HM3 : Hid (BoolssAt w3 (some ⟨gO, 0, none⟩) S.n (knownM S)) := Lib.hid hmat.reads
      have HB3' : Hid (Below w2.heap.size w2 w3) := Lib.hid ((HAL2.out _).trans (hb3.mono (HAL2.out _).size))
      have HRR := Lib.hid (rround_any (some ⟨gO, 0, none⟩) S.n cap (knownM S) w3 (by omega) HM3.out)
      clear hmat hb3 HGS2
      go_wp2_with fail
      refine HRR.out.mono ?_
      rintro e w4 ⟨rfl, hb4⟩
      have HB4' : Hid (Below w2.heap.size w2 w4) := Lib.hid (HB3'.out.trans (hb4.mono HB3'.out.size))
      have HR4 := Lib.hid (rowIs_below HR2.out HB4'.out)
      have HB4 : Hid (Below w1.heap.size w1 w4) := Lib.hid (HB2.out.trans (HB4'.out.mono HB2.out.size))
      have z0 : w4.cell? ⟨w1.heap.size, 0, none⟩ = some (.bool false) := HR4.out.cell (show 0 < 6 by omega)
      have z1 := HR4.out.frozen 0
      have z2 : w4.cell? ⟨w1.heap.size, 3, none⟩ = some (.bool false) := HR4.out.cell (show 3 < 6 by omega)
      have z3 := HR4.out.frozen 3
      have HR5 : Hid (((w4.setCell ⟨w1.heap.size, 0, none⟩ (.bool (roundB (overPM S 8 0) S.n))).setCell ⟨w1.heap.size, 3, none⟩ (.bool (roundB (knownM S) S.n))).rowIs w1.heap.size 4 6 (fun t => .bool (six (roundB (overPM S 8 0) S.n) (abF S S.n 0) (beF S S.n 0) (roundB (knownM S) S.n) false false t))) :=
        Lib.hid (six_set (six_set (F' := six (roundB (overPM S 8 0) S.n) (abF S S.n 0) (beF S S.n 0) false false false) HR4.out 0 _ fun t ht => six0 _ _ _ _ _ _ _ t ht) 3 _ fun t ht => six3 _ _ _ _ _ _ _ t ht)
      have HB5 : Hid (Below w1.heap.size w1 ((w4.setCell ⟨w1.heap.size, 0, none⟩ (.bool (roundB (overPM S 8 0) S.n))).setCell ⟨w1.heap.size, 3, none⟩ (.bool (roundB (knownM S) S.n)))) := Lib.hid ((HB4.out.setCell (Nat.le_refl _) _).setCell (Nat.le_refl _) _)
      have HSZ5 : Hid (((w4.setCell ⟨w1.heap.size, 0, none⟩ (.bool (roundB (overPM S 8 0) S.n))).setCell ⟨w1.heap.size, 3, none⟩ (.bool (roundB (knownM S) S.n))).heap.size = w4.heap.size) := Lib.hid (by simp [World.setCell])
      clear hb4 HRR HR4 HB4 HB4' HB3' HR2 HB2 HM3 HAL2
      go_wp2_with fail
      generalize (w4.setCell ⟨w1.heap.size, 0, none⟩ (.bool (roundB (overPM S 8 0) S.n))).setCell ⟨w1.heap.size, 3, none⟩ (.bool (roundB (knownM S) S.n)) = W5 at *
      clear z0 z1 z2 z3
      have HA1 := Lib.hid (H1.out.below HB5.out)
      have HA2 := Lib.hid (H2.out.below HB5.out)
      have HGS5 : Hid (GsAt (W5.alloc (.cells #[.slice (some ⟨r.g1, 0, none⟩) S.n c1, .slice (some ⟨r.g2, 0, none⟩) S.n c2] 97)) w4.heap.size 2 S.n (triMs (overPM S 8 0) (seenM S S.n 0) (anewM S S.n 0))) := Lib.hid (by have h := gs2_of (ty := 97) (X := anewM S S.n 0) HA1.out HA2.out hc1 hc2; rwa [HSZ5.out] at h)
      have HAL5 : Hid (∀ ob, Below W5.heap.size W5 (W5.alloc ob)) := Lib.hid fun ob => (Below.refl _ _).alloc (Nat.le_refl _) ob
      (with_reducible refine (either_any w4.heap.size 2 2 S.n _ _ (by omega) (by omega) hn0 (by omega) HGS5.out).mono ?_)
      rintro e w6 ⟨gO2, cap2, G2, rfl, hcap2, hmat, hb6⟩
      have HB6 : Hid (Below W5.heap.size W5 w6) := Lib.hid ((HAL5.out _).trans (hb6.mono (HAL5.out _).size))
      have HGC := Lib.hid (GraphClosed_new (some ⟨gO2, 0, none⟩) S.n cap2 (knownM S) w6 (by omega) hmat.reads)
      clear hmat hb6 HGS5 HAL5
      go_wp2_with fail
      refine HGC.out.mono ?_
      rintro e w7 ⟨BA, cA, CA, rfl, hcA, hca, hra, hb7⟩
      have HB7 : Hid (Below W5.heap.size W5 w7) := Lib.hid (HB6.out.trans (hb7.mono HB6.out.size))
      have HCA : Hid (BoolssNew w7 W5.heap.size BA S.n (warsh (knownM S) S.n)) := Lib.hid ((hca.mono HB6.out.size).congr (reach_warsh hra))
      have HA1 := Lib.hid (HA1.out.below HB7.out)
      have HA2 := Lib.hid (HA2.out.below HB7.out)
      have HA3 := Lib.hid ((H3.out.below HB5.out).below HB7.out)
      have HGS7 : Hid (GsAt (w7.alloc (.cells #[.slice (some ⟨r.g1, 0, none⟩) S.n c1, .slice (some ⟨r.g2, 0, none⟩) S.n c2, .slice (some ⟨r.g3, 0, none⟩) S.n c3] 97)) w7.heap.size 3 S.n (triMs (overPM S 8 0) (seenM S S.n 0) (anewM S S.n 0))) := Lib.hid (gs3_of HA1.out HA2.out HA3.out hc1 hc2 hc3)
      have HAL7 : Hid (∀ ob, Below w7.heap.size w7 (w7.alloc ob)) := Lib.hid fun ob => (Below.refl _ _).alloc (Nat.le_refl _) ob
      clear hca hra hb7 HGC HA1 HA2 HA3
      go_wp2_with fail
      (with_reducible refine (either_any w7.heap.size 3 3 S.n _ _ (by omega) (by omega) hn0 (by omega) HGS7.out).mono ?_)
      rintro e w8 ⟨gO3, cap3, G3, rfl, hcap3, hmat, hb8⟩
      have HB8 : Hid (Below w7.heap.size w7 w8) := Lib.hid ((HAL7.out _).trans (hb8.mono (HAL7.out _).size))
      have HGC := Lib.hid (GraphClosed_new (some ⟨gO3, 0, none⟩) S.n cap3 (serM S) w8 (by omega) hmat.reads)
      clear hmat hb8 HGS7 HAL7
      go_wp2_with fail
      refine HGC.out.mono ?_
      rintro e w9 ⟨BB, cB, CB, rfl, hcB, hcb, hrb, hb9⟩
      have HB9' : Hid (Below w7.heap.size w7 w9) := Lib.hid (HB8.out.trans (hb9.mono HB8.out.size))
      have HB9 : Hid (Below W5.heap.size W5 w9) := Lib.hid (HB7.out.trans (HB9'.out.mono HB7.out.size))
      have HLA : Hid (LastAt S w1 w9 W5.heap.size BA BB 0 0) := Lib.hid ⟨HB5.out.trans (HB9.out.mono HB5.out.size), by
        have h := rowIs_below HR5.out HB9.out
        rw [show backH S (warsh (knownM S) S.n) 0 0 = false from twoB_zero _ _, show backH S (warsh (serM S) S.n) 0 0 = false from twoB_zero _ _]
        exact h, HCA.out.below HB9'.out, (hcb.mono (Nat.le_trans HB7.out.size HB8.out.size)).congr (reach_warsh hrb), HR5.out.lt⟩
      clear hcb hrb hb9 HGC HCA HB9 HB9' HB8 HB7 HB6 HR5
      go_wp2_with fail
      go_loopw [116] (fun x wr => ∃ i : Nat, x = .int .i64 i ∧ i ≤ S.n ∧ LastAt S w1 wr W5.heap.size BA BB i 0) (fun x _ => S.n - (intOf x).toNat)
      case atStart => exact ⟨0, rfl, by omega, HLA.out⟩
      case round =>
        clear HLA
        obtain ⟨wq, rfl⟩ : ∃ wq : World, wq = wr := ⟨_, rfl⟩
        obtain ⟨i, rfl, hi, hla⟩ := hrel
        have HL := Lib.hid hla
        clear hla
        by_cases hin : i < S.n
        · go_wp2_with fail
          go_loopw [121] (fun x wr => ∃ k : Nat, x = .int .i64 k ∧ k ≤ S.n ∧ LastAt S w1 wr W5.heap.size BA BB i k) (fun x _ => S.n - (intOf x).toNat)
          case atStart => exact ⟨0, rfl, by omega, HL.out⟩
          case round =>
            clear HL
            obtain ⟨k, rfl, hk, hla⟩ := hrel
            have HL := Lib.hid hla
            clear hla
            by_cases hkn : k < S.n
            · obtain ⟨b1, o1, hB1, hb1, b2, o2, cc2, q1, q2, q3, q4⟩ := H3.out i hin
              injection hB1 with hB1
              injection hB1 with hB1 hO1
              subst hB1 hO1
              have q1' := (HL.out.bel.cell (p := ⟨r.g3, 0 + i, none⟩) hb1).trans q1
              have q5 := (HL.out.bel.cell (p := ⟨b2, o2 + k, none⟩) q3).trans (q4 k hkn)
              rw [Nat.zero_add] at q1'
              obtain ⟨bA, oA, rfl, hgA, hbA, b3, o3, cc3, s1, s2, hgA2, s3, s4⟩ := HL.out.ca k hkn
              have s5 := s4 i hin
              obtain ⟨bB, oB, rfl, hgB, hbB, b4, o4, cc4, t1, t2, hgB2, t3, t4⟩ := HL.out.cb k hkn
              have t5 := t4 i hin
              have x4 : wr.cell? ⟨w1.heap.size, 4, none⟩ = some (.bool (backH S (warsh (knownM S) S.n) i k)) := HL.out.row.cell (show 4 < 6 by omega)
              have x5 : wr.cell? ⟨w1.heap.size, 5, none⟩ = some (.bool (backH S (warsh (serM S) S.n) i k)) := HL.out.row.cell (show 5 < 6 by omega)
              have f4 := HL.out.row.frozen 4
              have f5 := HL.out.row.frozen 5
              have HU4 : Hid (backH S (warsh (knownM S) S.n) i (k + 1) = (backH S (warsh (knownM S) S.n) i k || (anewM S S.n 0 i k && warsh (knownM S) S.n k i))) := Lib.hid (twoB_succ _ _ _ _)
              have HU5 : Hid (backH S (warsh (serM S) S.n) i (k + 1) = (backH S (warsh (serM S) S.n) i k || (anewM S S.n 0 i k && warsh (serM S) S.n k i))) := Lib.hid (twoB_succ _ _ _ _)
              have HST := Lib.hid (fun x y hx hy => HL.out.step x y hx hy)
              have hlt5 := HL.out.lt
              have hne1 : b2 ≠ w1.heap.size := by omega
              have hne2 : r.g3 ≠ w1.heap.size := by omega
              have hne3 : bB ≠ w1.heap.size := by omega
              have hne4 : b4 ≠ w1.heap.size := by omega
              have hne5 : w1.heap.size ≠ b2 := by omega
              have hne6 : w1.heap.size ≠ r.g3 := by omega
              have hne7 : w1.heap.size ≠ bB := by omega
              have hne8 : w1.heap.size ≠ b4 := by omega
              clear q4 s4 t4 q2 s2 t2 q1
              generalize backH S (warsh (knownM S) S.n) i k = X at *
              generalize backH S (warsh (serM S) S.n) i k = X2 at *
              generalize anewM S S.n 0 i k = Y at *
              generalize warsh (knownM S) S.n k i = Z at *
              generalize warsh (serM S) S.n k i = Z2 at *
              cases X <;> cases X2 <;> cases Y
              all_goals
                go_wp2
                go_roundw
                case rel => exact ⟨k + 1, by go_num, by omega, HST.out _ _ (by rw [HU4.out]; rfl) (by rw [HU5.out]; rfl)⟩
                case measure => go_light; simp [intOf] <;> omega
            · obtain rfl : k = S.n := by omega
              go_wp2
              go_roundw
              case rel => exact ⟨i + 1, by go_num, by omega, HL.out.bel, by rw [show backH S (warsh (knownM S) S.n) (i + 1) 0 = backH S (warsh (knownM S) S.n) i S.n from (twoB_next _ (fun _ => S.n) _).symm, show backH S (warsh (serM S) S.n) (i + 1) 0 = backH S (warsh (serM S) S.n) i S.n from (twoB_next _ (fun _ => S.n) _).symm]; exact HL.out.row, HL.out.ca, HL.out.cb, HL.out.lt⟩
              case measure => go_light; simp [intOf] <;> omega
        · obtain rfl : i = S.n := by omega
          go_wp2
          go_ret
          exact ⟨w1.heap.size, rfl, HL.out.row, HB0.out.trans ((HBW1.out.trans (HL.out.bel.mono hs1w)).mono HB0.out.size)⟩
end Go.Proofs.YtkncomfbedbikaaDoor
