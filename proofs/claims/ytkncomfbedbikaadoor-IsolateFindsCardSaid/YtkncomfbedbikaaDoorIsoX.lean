/- isolate.Finds: which of Adya's six things there are. -/
import Derived.Test.YtkncomfbedbikaaDoorIsoW
namespace Go.Proofs.YtkncomfbedbikaaDoor
open Go.RowKit
attribute [local go_sem] eq_nil ne_nil nil_eq_nil nil_ne_nil
set_option maxRecDepth 100000 in
set_option maxHeartbeats 4000000 in
/-- The function value in isolate.Finds. -/
theorem findsL_any (A : Option Addr) (c gs : Nat) (S : GStory) (x : Nat) (w : World) (h : TxsAt w A S) (hx : x < S.n) (hs : w.cell? ⟨gs, 0, none⟩ = some (.slice A S.n c)) :
    Calls Tryd.prog 86 #[.int .i64 (x : Int), .pointer (some ⟨gs, 0, none⟩)] w fun e w' => e = .returned (.bool (S.c x)) ∧ w = w' := by
  obtain ⟨bf, offf, rfl, hbf, hkf, A2f, c2f, f0, hkcf, f1, hopf⟩ := h x hx
  clear h hopf
  go_enter Tryd.func86, Tryd.ntmps86
  go_wp2
  go_ret
  exact ⟨rfl, rfl⟩
def IFindsPost (S : GStory) (w : World) (e : Ending) (w' : World) : Prop :=
  ∃ g, e = .returned (.tuple #[.slice (some ⟨g, 0, none⟩) 6 6, .nilIface]) ∧ w'.rowIs g 4 6 (fun k => .bool (findsV S k)) ∧ Below w.heap.size w w'
theorem FindAt.opT {S : GStory} {w1 wr : World} {T J bt : Nat} (h : FindAt S w1 wr T J bt) (o : IOp) (t : TypeId) : FindOp S w1 (wr.alloc (o.obj t)) T J J bt wr.heap.size o := by
  have hb : Below wr.heap.size wr (wr.alloc (o.obj t)) := (Below.refl _ _).alloc (Nat.le_refl _) _
  exact ⟨h.bel.alloc h.bel.size _, rowIs_below h.row hb, (hb.cell (p := ⟨bt, 1, none⟩) h.bl).trans h.bc, Nat.lt_of_lt_of_le h.bl hb.size, h.bg, ibox_new rfl _ _, by simp, Nat.lt_trans h.bg h.bl⟩
theorem ne_sub (a : Int) (v : Nat) : (a + 1 != (v : Int)) = (a != (v : Int) - 1) := by
  rw [Bool.eq_iff_iff]
  simp
  omega
set_option maxRecDepth 100000 in
set_option maxHeartbeats 4000000 in
theorem iFinds_err (A V : Option Addr) (c cv : Nat) (S : GStory) (w : World) (h : StoryAt w A V S) (hz : storyErr S ≠ 0) :
    Calls Tryd.prog 37 #[.agg #[.slice A S.n c, .slice V S.m cv]] w fun e w' => e = .returned (.tuple #[.slice none 0 0, errV (storyErr S)]) ∧ Below w.heap.size w w' := by
  have HAL := Lib.hid (fun ob => iAll_err A V c cv S (w.alloc ob) (h.below ((Below.refl _ _).alloc (Nat.le_refl _) ob)) hz)
  have HB : Hid (∀ ob w2, Below (w.alloc ob).heap.size (w.alloc ob) w2 → Below w.heap.size w w2) := Lib.hid (fun ob w2 hb => ((Below.refl _ _).alloc (Nat.le_refl _) ob).trans (hb.mono (by simp)))
  simp only [errV_ne _ hz] at HAL ⊢
  clear h hz
  generalize storyErr S = E at *
  go_enter Tryd.func37, Tryd.ntmps37
  go_wp2_with fail
  refine (HAL.out _).mono ?_
  rintro e w2 ⟨rfl, hb2⟩
  have HB2 := Lib.hid (HB.out _ _ hb2)
  clear hb2
  go_wp2
  go_ret2
  exact ⟨rfl, HB2.out.alloc HB2.out.size _⟩
set_option maxRecDepth 100000 in
set_option maxHeartbeats 16000000 in
theorem iFinds_any (A V : Option Addr) (c cv : Nat) (S : GStory) (w : World) (h : StoryAt w A V S) (hz : storyErr S = 0) (hn0 : 0 < S.n) :
    Calls Tryd.prog 37 #[.agg #[.slice A S.n c, .slice V S.m cv]] w (IFindsPost S w) := by
  have hok := story_ok hz
  have HX : Hid (Below w.heap.size w (w.alloc (.cells #[.slice A S.n c, .slice V S.m cv] 77)) ∧ (w.alloc (.cells #[.slice A S.n c, .slice V S.m cv] 77)).cell? ⟨w.heap.size, 0, none⟩ = some (.slice A S.n c) ∧ w.heap.size < (w.alloc (.cells #[.slice A S.n c, .slice V S.m cv] 77)).heap.size) :=
    Lib.hid ⟨(Below.refl _ _).alloc (Nat.le_refl _) _, by simp [World.cell?_alloc_new], by simp⟩
  have hn8 := hok.n
  have HS := Lib.hid h
  have HZ := Lib.hid hz
  have HOK := Lib.hid hok
  have hmk6 := make_six
  clear h hz hok
  go_enter Tryd.func37, Tryd.ntmps37
  go_wp2_with fail
  obtain ⟨gs, hgs⟩ : ∃ gs, gs = w.heap.size := ⟨_, rfl⟩
  have HSW : Hid (StoryAt (w.alloc (.cells #[.slice A S.n c, .slice V S.m cv] 77)) A V S) := Lib.hid (HS.out.below HX.out.1)
  have HB0 : Hid (Below w.heap.size w (w.alloc (.cells #[.slice A S.n c, .slice V S.m cv] 77))) := Lib.hid HX.out.1
  have HX2 := Lib.hid HX.out.2
  rw [← hgs] at HX2 ⊢
  clear HX hgs HS
  generalize w.alloc (.cells #[.slice A S.n c, .slice V S.m cv] 77) = W0 at *
  refine (iAll_any A V c cv S W0 HSW.out HZ.out hn0).mono ?_
  rintro e w0 ⟨r, c1, c2, c3, rfl, hc1, hc2, hc3, htri, hb0⟩
  have HBX : Hid (Below W0.heap.size W0 (w0.alloc (.cells #[.slice (some ⟨r.g1, 0, none⟩) S.n c1, .slice (some ⟨r.g2, 0, none⟩) S.n c2, .slice (some ⟨r.g3, 0, none⟩) S.n c3] 166))) := Lib.hid (hb0.alloc hb0.size _)
  have HTX : Hid (Tri (w0.alloc (.cells #[.slice (some ⟨r.g1, 0, none⟩) S.n c1, .slice (some ⟨r.g2, 0, none⟩) S.n c2, .slice (some ⟨r.g3, 0, none⟩) S.n c3] 166)) W0.heap.size S.n r (overPM S 8 0) (seenM S S.n 0) (anewM S S.n 0)) := Lib.hid (htri.alloc _)
  have HEX : Hid (EBox (w0.alloc (.cells #[.slice (some ⟨r.g1, 0, none⟩) S.n c1, .slice (some ⟨r.g2, 0, none⟩) S.n c2, .slice (some ⟨r.g3, 0, none⟩) S.n c3] 166)) w0.heap.size r S.n c1 c2 c3) := Lib.hid ⟨by simp [World.cell?_alloc_new], by simp [World.cell?_alloc_new], by simp [World.cell?_alloc_new], by simp⟩
  have s0 := (hb0.cell (p := ⟨gs, 0, none⟩) HX2.out.2).trans HX2.out.1
  have hgl0 : gs < w0.heap.size := Nat.lt_of_lt_of_le HX2.out.2 hb0.size
  clear htri hb0
  go_upto_region 5 with fail
  obtain ⟨be, hbe⟩ : ∃ be, be = w0.heap.size := ⟨_, rfl⟩
  rw [← hbe] at HEX ⊢
  clear hbe s0 hgl0
  generalize w0.alloc (.cells #[.slice (some ⟨r.g1, 0, none⟩) S.n c1, .slice (some ⟨r.g2, 0, none⟩) S.n c2, .slice (some ⟨r.g3, 0, none⟩) S.n c3] 166) = w1 at *
  have HBW1 := HBX
  have H1 : Hid (BoolssAt w1 (some ⟨r.g1, 0, none⟩) S.n (overPM S 8 0)) := Lib.hid HTX.out.m1.reads
  have H2 : Hid (BoolssAt w1 (some ⟨r.g2, 0, none⟩) S.n (seenM S S.n 0)) := Lib.hid HTX.out.m2.reads
  have H3 : Hid (BoolssAt w1 (some ⟨r.g3, 0, none⟩) S.n (anewM S S.n 0)) := Lib.hid HTX.out.m3.reads
  have s0 := (HBW1.out.cell (p := ⟨gs, 0, none⟩) HX2.out.2).trans HX2.out.1
  have HF0 := Lib.hid (find_start (S := S) w1)
  have HGL : Hid (gs < w1.heap.size) := Lib.hid (Nat.lt_of_lt_of_le HX2.out.2 HBW1.out.size)
  have hs1w := HBW1.out.size
  have hgl := HGL.out
  have HCM := Lib.hid (fun W x (hb : Below w1.heap.size w1 W) (hx : x < S.n) => findsL_any A c gs S x W (HSW.out.below (HBW1.out.trans (hb.mono hs1w))).txs hx ((hb.cell (p := ⟨gs, 0, none⟩) HGL.out).trans s0))
  clear HBX HTX
  go_wp2_with fail
  have HS0 := Lib.hid s0
  clear s0 hgl
  go_loopw [26] (fun x wr => ∃ T : Nat, x = .int .i64 T ∧ T ≤ S.n ∧ Below w1.heap.size w1 wr ∧ wr.rowIs w1.heap.size 4 6 (fun k => .bool (six false (abF S T 0) (beF S T 0) false false false k))) (fun x _ => S.n - (intOf x).toNat)
  case atStart => exact ⟨0, rfl, by omega, HF0.out.1, HF0.out.2⟩
  case round =>
    clear HF0
    obtain ⟨wo, rfl⟩ : ∃ wo : World, wo = wr := ⟨_, rfl⟩
    obtain ⟨T, rfl, hT, hbw, hrow⟩ := hrel
    have HB := Lib.hid hbw
    have HR := Lib.hid hrow
    clear hbw hrow
    have HBO : Hid (Below W0.heap.size W0 wo) := Lib.hid (HBW1.out.trans (HB.out.mono hs1w))
    by_cases hTn : T < S.n
    · obtain ⟨b, off, rfl, hb, hk, A2, cc2, g0, hkc, g1, hops⟩ := HSW.out.txs T hTn
      have HO := Lib.hid hops
      have g0' := (HBO.out.cell (p := ⟨b, off + T * 2, none⟩) hb).trans g0
      have g1' := (HBO.out.cell (p := ⟨b, off + T * 2 + 1, none⟩) hb).trans g1
      have HK60 := Lib.hid (HOK.out.k T hTn)
      have HW : Hid (FindAt S w1 (wo.alloc (.cells #[.slice A2 (S.k T) cc2, .bool (S.c T)] 152)) T 0 wo.heap.size) :=
        Lib.hid ⟨HB.out.alloc HB.out.size _, HR.out.alloc _, by simp [World.cell?_alloc_new], by simp, HR.out.lt⟩
      clear hops hkc hk g0 g1
      go_wp2_with fail
      obtain ⟨bt, hbt⟩ : ∃ bt, bt = wo.heap.size := ⟨_, rfl⟩
      rw [← hbt] at HW ⊢
      clear hbt
      go_loopw [34] (fun x wr => ∃ J : Nat, x = .int .i64 J ∧ J ≤ S.k T ∧ FindAt S w1 wr T J bt) (fun x _ => S.k T - (intOf x).toNat)
      case atStart => exact ⟨0, rfl, by omega, HW.out⟩
      case round =>
        clear HW
        obtain ⟨J, rfl, hJ, hfa⟩ := hrel
        have HFA := Lib.hid hfa
        have HBR : Hid (Below W0.heap.size W0 wr) := Lib.hid (HBW1.out.trans (hfa.bel.mono hs1w))
        clear hfa g0' g1'
        by_cases hJk : J < S.k T
        · obtain ⟨b3, off3, rfl, hb3, p0, p1, p2, p3⟩ := (HO.out.below HBR.out) J hJk
          have hJ60 : J + 1 ≤ 60 := by have := HK60.out; omega
          obtain ⟨o, ho⟩ : ∃ o, S.o T J = o := ⟨_, rfl⟩
          have hop := HOK.out.op T J hTn hJk
          have hnm := HOK.out.num T J hTn hJk
          rw [ho] at p0 p1 p2 p3 hop hnm
          have HHO := Lib.hid ho
          have ht := iread_tree S T o hop.2.2.1
          have HNM := Lib.hid hnm
          have HSK : Hid (readB S T o = false → ∀ ob, FindAt S w1 (wr.alloc ob) T (J + 1) bt) := Lib.hid fun hno ob => HFA.out.skip (by rw [ho]; exact hno) ob
          have HFO := Lib.hid (HFA.out.opT o 139)
          have HCT := Lib.hid (fun W (hb : Below w1.heap.size w1 W) => HCM.out W T hb hTn)
          clear ho hnm
          obtain ⟨owr, okey, ofrm, onum⟩ := o
          dsimp only at p0 p1 p2 p3 hop ht
          obtain ⟨kk, rfl⟩ : ∃ kk : Nat, okey = (kk : Int) := ⟨okey.toNat, by omega⟩
          have hkk : kk < S.m := by have := HOK.out.m; omega
          rcases ht with ⟨d1, hact⟩ | ⟨d1, d2, hact⟩ | ⟨d1, d2, d3, hact⟩ | ⟨d1, d2, d3, hact⟩ | ⟨f, d1, d2, d3, hfT, hact⟩
          · rw [d1] at HCT
            clear d1
            have HT1 := Lib.hid (HSK.out hact)
            clear hact
            go_wp2_with fail
            (with_reducible refine (HCT.out _ HFO.out.bel).mono ?_)
            rintro e w' ⟨rfl, rfl⟩
            go_wp2
            go_roundw
            case rel => exact ⟨J + 1, by go_num, by omega, HT1.out _⟩
            case measure => go_light; simp [intOf] <;> omega
          · subst d2
            rw [d1] at HCT
            have HT1 := Lib.hid (HSK.out hact)
            clear hact d1
            go_wp2_with fail
            (with_reducible refine (HCT.out _ HFO.out.bel).mono ?_)
            rintro e w' ⟨rfl, rfl⟩
            go_wp2
            go_roundw
            case rel => exact ⟨J + 1, by go_num, by omega, HT1.out _⟩
            case measure => go_light; simp [intOf] <;> omega
          · subst d2 d3
            rw [d1] at HCT
            have HT1 := Lib.hid (HSK.out hact)
            clear hact d1
            go_wp2_with fail
            (with_reducible refine (HCT.out _ HFO.out.bel).mono ?_)
            rintro e w' ⟨rfl, rfl⟩
            go_wp2
            go_roundw
            case rel => exact ⟨J + 1, by go_num, by omega, HT1.out _⟩
            case measure => go_light; simp [intOf] <;> omega
          · subst d2 d3
            rw [d1] at HCT
            have HT1 := Lib.hid (HSK.out hact)
            have hq0 : ((T : Int) == -1) = false := by simp
            have hq1 : ((T : Int) == (T : Int)) = true := by simp
            clear hact d1
            go_wp2_with fail
            (with_reducible refine (HCT.out _ HFO.out.bel).mono ?_)
            rintro e w' ⟨rfl, rfl⟩
            go_wp2
            go_roundw
            case rel => exact ⟨J + 1, by go_num, by omega, HT1.out _⟩
            case measure => go_light; simp [intOf] <;> omega
          · subst d2 d3
            have hfn : f < S.n := by omega
            have HACT := Lib.hid hact
            have hq0 : ((f : Int) == -1) = false := by simp
            have hq1 : ((f : Int) == (T : Int)) = false := by simp; omega
            have hq2 : (f == T) = false := by simpa using hfT
            have hq3 : decide (f = T) = false := by simpa using hfT
            rw [d1] at HCT
            have HW : Hid (FindOp S w1 (wr.alloc (.cells #[.bool false, .int .i64 (kk : Int), .int .i64 (f : Int), .int .i64 onum] 139)) T J J bt wr.heap.size ⟨false, (kk : Int), (f : Int), onum⟩) := HFO
            clear hact d1 HSK
            go_wp2_with fail
            (with_reducible refine (HCT.out _ HFO.out.bel).mono ?_)
            rintro e w' ⟨rfl, rfl⟩
            clear HFO
            go_upto_region 13 with fail
            obtain ⟨bo, hbo⟩ : ∃ bo, bo = wr.heap.size := ⟨_, rfl⟩
            rw [← hbo] at HW ⊢
            clear hbo p0 p1 p2 p3 hb3
            generalize wr.alloc (.cells #[.bool false, .int .i64 (kk : Int), .int .i64 (f : Int), .int .i64 onum] 139) = W at *
            go_cut [] (fun wx => FindOp S w1 wx T J (J + 1) bt bo ⟨false, (kk : Int), (f : Int), onum⟩)
            case first =>
              have HCF := Lib.hid (HCM.out W f HW.out.bel hfn)
              have y2 := HW.out.bx.2.2.1
              have x1 : W.cell? ⟨w1.heap.size, 1, none⟩ = some (.bool (abF S T J)) := HW.out.row.cell (show 1 < 6 by omega)
              have x2 := HW.out.row.frozen 1
              have HSU : Hid (abF S T (J + 1) = (abF S T J || !S.c f)) := Lib.hid (by rw [abF_succ, HHO.out, abH_yes HACT.out rfl])
              have HST := Lib.hid (fun x hx => HW.out.set1 x hx)
              generalize abF S T J = X at *
              generalize S.c f = Y at *
              cases X
              · cases Y
                all_goals
                  go_wp2_with fail
                  (with_reducible refine HCF.out.mono ?_)
                  rintro e w' ⟨rfl, rfl⟩
                  go_wp2_with fail
                  go_meet
                  case rel => exact HST.out _ (by rw [HSU.out]; rfl)
              · go_wp2_with fail
                go_meet
                case rel => exact HST.out _ (by rw [HSU.out]; rfl)
            case rest =>
              have HC := Lib.hid hcut
              clear hcut HW
              have HBX : Hid (Below W0.heap.size W0 wc) := Lib.hid (HBW1.out.trans (HC.out.bel.mono hs1w))
              have HSU : Hid (beF S T (J + 1) = (beF S T J || (onum + 1 != (vers (S.o f) (kk : Int) (S.k f) : Int)))) := Lib.hid (by rw [beF_succ, HHO.out, beH_yes HACT.out rfl])
              have x1 : wc.cell? ⟨w1.heap.size, 2, none⟩ = some (.bool (beF S T J)) := HC.out.row.cell (show 2 < 6 by omega)
              have x2 := HC.out.row.frozen 2
              have HST := Lib.hid (fun W hb x hx => HC.out.set2 (w' := W) hb x hx)
              have HGLT : Hid (w1.heap.size < wc.heap.size ∧ bo ≠ w1.heap.size ∧ gs ≠ w1.heap.size ∧ b ≠ w1.heap.size) := Lib.hid ⟨HC.out.row.lt, by have := HC.out.bog; omega, by have := HGL.out; omega, by omega⟩
              generalize beF S T J = X at *
              cases X
              · obtain ⟨bf, offf, hAe, hbf, hkf, A2f, c2f, f0, hkcf, f1, hopf⟩ := HSW.out.txs f hfn
                injection hAe with hAe
                injection hAe with hAe1 hAe2
                subst hAe1 hAe2
                have f0' := (HBX.out.cell (p := ⟨b, off + f * 2, none⟩) hbf).trans f0
                have f1' := (HBX.out.cell (p := ⟨b, off + f * 2 + 1, none⟩) hbf).trans f1
                have s0 := (HC.out.bel.cell (p := ⟨gs, 0, none⟩) HGL.out).trans HS0.out
                obtain ⟨_, y1, y2, y3⟩ := HC.out.bx
                have HOF := Lib.hid (hopf.below HBX.out)
                have hnum := HNM.out (by first | trivial | rfl) f rfl
                obtain ⟨hnum1, hnum2⟩ := hnum
                dsimp only at hnum1 hnum2 y1 y2 y3
                have k1 := cell_regrown y1
                have k2 := cell_regrown y2
                have k3 := cell_regrown y3
                have ks := cell_regrown s0
                have kf0 := cell_regrown f0'
                have kf1 := cell_regrown f1'
                have kx := cell_regrown x1
                have cI := fun d os => Calls.regrown_of (d := d) (os := os) (versions_any A2f (S.k f) c2f (S.c f) (kk : Int) (S.o f) (Go.Sort.grow (redrawn wc d) os) hkf (HOF.out.below (below_regrown wc d os)))
                clear f0 f1 hopf hkcf HCM HCT
                generalize vers (S.o f) (kk : Int) (S.k f) = vf at *
                generalize S.c f = Y at *
                have hw1 : IntKind.i64.wrap ((vf : Int) - 1) = (vf : Int) - 1 := IntWalk.i64_in _ (by omega)
                have HNE := Lib.hid (ne_sub onum vf)
                cases hv : (onum != (vf : Int) - 1)
                all_goals
                  have HV := Lib.hid hv
                  go_wp2_with fail
                  refine wp_region_below_tail 20 (by kernel_rfl) (by kernel_rfl) ?_
                  simp only [List.take_succ_cons, List.take_zero, List.drop_succ_cons, List.drop_zero]
                  repeat (go_big_quiet_step (with_reducible exact cI _ _))
                  refine wpQuiet_nil ?_
                  rintro wq ⟨pq, hpq⟩
                  have HBQ : Hid (Below wc.heap.size wc wq) := Lib.hid (hpq ▸ below_regrown wc pq.d pq.os)
                  clear hpq
                  have z1 := (HBQ.out.cell (p := ⟨w1.heap.size, 2, none⟩) HGLT.out.1).trans x1
                  have z2 := (HBQ.out.frozen (p := ⟨w1.heap.size, 2, none⟩) HGLT.out.1).trans x2
                  clear k1 k2 k3 ks kf0 kf1 kx cI
                  go_wp2
                  go_roundw
                  case rel => exact ⟨J + 1, by go_num, by omega, HST.out wq HBQ.out _ (by rw [HSU.out, HNE.out, HV.out]; rfl)⟩
                  case measure => go_light; simp [intOf] <;> omega
              · go_wp2_with fail
                refine wp_region_still_tail 20 (by kernel_rfl) (by kernel_rfl) ?_
                simp only [List.take_succ_cons, List.take_zero, List.drop_succ_cons, List.drop_zero]
                change wpStill _ _ wc.drew _ _ _
                refine wpStill_of_quiet ?_
                repeat (go_big_quiet_step (fail))
                refine wpQuiet_nil ?_
                change wpList _ _ _ _ _ wc.drew
                go_wp2
                go_roundw
                case rel => exact ⟨J + 1, by go_num, by omega, (HST.out wc (Below.refl _ _) true (by rw [HSU.out]; rfl)).drew⟩
                case measure => go_light; simp [intOf] <;> omega
        · obtain rfl : J = S.k T := by omega
          go_wp2
          go_roundw
          case rel => exact ⟨T + 1, by go_num, by omega, HFA.out.bel, by rw [show abF S (T + 1) 0 = abF S T (S.k T) from (twoB_next _ _ _).symm, show beF S (T + 1) 0 = beF S T (S.k T) from (twoB_next _ _ _).symm]; exact HFA.out.row⟩
          case measure => go_light; simp [intOf] <;> omega
    · obtain rfl : T = S.n := by omega
      have HA1 := Lib.hid (H1.out.below HB.out)
      have HA2 := Lib.hid (H2.out.below HB.out)
      have HE := Lib.hid (HEX.out.below HB.out)
      have HGS2 : Hid (GsAt (wo.alloc (.cells #[.slice (some ⟨r.g1, 0, none⟩) S.n c1, .slice (some ⟨r.g2, 0, none⟩) S.n c2] 156)) wo.heap.size 2 S.n (triMs (overPM S 8 0) (seenM S S.n 0) (anewM S S.n 0))) := Lib.hid (gs2_of HA1.out HA2.out hc1 hc2)
      have HAL2 : Hid (∀ ob, Below wo.heap.size wo (wo.alloc ob)) := Lib.hid fun ob => (Below.refl _ _).alloc (Nat.le_refl _) ob
      have e1 := HE.out.e1
      have e2 := HE.out.e2
      clear HCM HOK
      go_wp2_with fail
      (with_reducible refine (together_any wo.heap.size 2 2 S.n _ _ (by omega) (by omega) hn0 (by omega) HGS2.out).mono ?_)
      rintro e w3 ⟨gO, cap, G, rfl, hcap, hmat, hb3⟩
      have HM3 : Hid (MatB w3 (w1.heap.size + 1) w3.heap.size gO S.n G (knownM S)) := Lib.hid (by
        have hl := HR.out.lt
        have hz := hmat.rO.1
        simp only [World.size_alloc] at hz
        refine ⟨hmat.out, hmat.row, hmat.ne, hmat.inj, ⟨by omega, hmat.rO.2⟩, fun i hi => ⟨?_, (hmat.rG i hi).2⟩, hmat.top⟩
        have h2 := (hmat.rG i hi).1
        simp only [World.size_alloc] at h2
        omega)
      have HB3 : Hid (Below wo.heap.size wo w3) := Lib.hid ((HAL2.out _).trans (hb3.mono (HAL2.out _).size))
      have HE3 := Lib.hid (HE.out.below HB3.out)
      have HRR := Lib.hid (iround_any (some ⟨r.g1, 0, none⟩) S.n c1 (overPM S 8 0) w3 (by omega) (HA1.out.below HB3.out))
      clear hmat hb3 HGS2 HAL2 e1 e2
      have e1 := HE3.out.e1
      go_wp2_with fail
      (with_reducible refine HRR.out.mono ?_)
      rintro e w4 ⟨rfl, hb4⟩
      have HM4 := Lib.hid (HM3.out.below hb4)
      have HB4 : Hid (Below wo.heap.size wo w4) := Lib.hid (HB3.out.trans (hb4.mono HB3.out.size))
      have HRR := Lib.hid (iround_any (some ⟨gO, 0, none⟩) S.n cap (knownM S) w4 (by omega) HM4.out.reads)
      clear hb4 e1
      go_wp2_with fail
      (with_reducible refine HRR.out.mono ?_)
      rintro e w5 ⟨rfl, hb5⟩
      have HM5 := Lib.hid (HM4.out.below hb5)
      have HB5 : Hid (Below wo.heap.size wo w5) := Lib.hid (HB4.out.trans (hb5.mono HB4.out.size))
      have HR5 := Lib.hid (rowIs_below HR.out HB5.out)
      have z0 : w5.cell? ⟨w1.heap.size, 0, none⟩ = some (.bool false) := HR5.out.cell (show 0 < 6 by omega)
      have z1 := HR5.out.frozen 0
      have z2 : w5.cell? ⟨w1.heap.size, 3, none⟩ = some (.bool false) := HR5.out.cell (show 3 < 6 by omega)
      have z3 := HR5.out.frozen 3
      have HR6 : Hid (((w5.setCell ⟨w1.heap.size, 0, none⟩ (.bool (roundB (overPM S 8 0) S.n))).setCell ⟨w1.heap.size, 3, none⟩ (.bool (roundB (knownM S) S.n))).rowIs w1.heap.size 4 6 (fun t => .bool (six (roundB (overPM S 8 0) S.n) (abF S S.n 0) (beF S S.n 0) (roundB (knownM S) S.n) false false t))) :=
        Lib.hid (six_set (six_set (F' := six (roundB (overPM S 8 0) S.n) (abF S S.n 0) (beF S S.n 0) false false false) HR5.out 0 _ fun t ht => six0 _ _ _ _ _ _ _ t ht) 3 _ fun t ht => six3 _ _ _ _ _ _ _ t ht)
      have HB6 : Hid (Below w1.heap.size w1 ((w5.setCell ⟨w1.heap.size, 0, none⟩ (.bool (roundB (overPM S 8 0) S.n))).setCell ⟨w1.heap.size, 3, none⟩ (.bool (roundB (knownM S) S.n)))) := Lib.hid (((HB.out.trans (HB5.out.mono HB.out.size)).setCell (Nat.le_refl _) _).setCell (Nat.le_refl _) _)
      have HK6 : Hid (BoolssAt ((w5.setCell ⟨w1.heap.size, 0, none⟩ (.bool (roundB (overPM S 8 0) S.n))).setCell ⟨w1.heap.size, 3, none⟩ (.bool (roundB (knownM S) S.n))) (some ⟨gO, 0, none⟩) S.n (knownM S)) := Lib.hid ((HM5.out.setOut (.inl (Nat.lt_succ_self _)) _).setOut (.inl (Nat.lt_succ_self _)) _).reads
      clear hb5 HRR HM3 HM4 HM5 HB3 HB4 HB5 HR5 HA1 HA2 HE HE3
      go_wp2_with fail
      generalize (w5.setCell ⟨w1.heap.size, 0, none⟩ (.bool (roundB (overPM S 8 0) S.n))).setCell ⟨w1.heap.size, 3, none⟩ (.bool (roundB (knownM S) S.n)) = W6 at *
      clear z0 z1 z2 z3
      have e3 := (HEX.out.below HB6.out).e3
      have x4 : W6.cell? ⟨w1.heap.size, 4, none⟩ = some (.bool false) := HR6.out.cell (show 4 < 6 by omega)
      have f4 := HR6.out.frozen 4
      have x5 : W6.cell? ⟨w1.heap.size, 5, none⟩ = some (.bool false) := HR6.out.cell (show 5 < 6 by omega)
      have f5 := HR6.out.frozen 5
      have HGN : Hid (be ≠ w1.heap.size ∧ w1.heap.size < W6.heap.size ∧ be < W6.heap.size) := Lib.hid ⟨by have := HEX.out.lt; omega, HR6.out.lt, by have := HEX.out.lt; have := HB6.out.size; omega⟩
      have HKEEP : Hid (∀ W : World, (∀ k, k ≠ w1.heap.size → k < W6.heap.size → W.heap[k]? = W6.heap[k]?) → W.cell? ⟨be, 2, none⟩ = some (.slice (some ⟨r.g3, 0, none⟩) S.n c3)) := Lib.hid fun W hW => (World.cell?_of_block (w := W6) (hW be HGN.out.1 HGN.out.2.2)).trans e3
      have HBK1 := Lib.hid (fun W (hb : Below W6.heap.size W6 W) => iback_any (some ⟨r.g3, 0, none⟩) S.n c3 (anewM S S.n 0) (some ⟨gO, 0, none⟩) cap (knownM S) W (by omega) ((H3.out.below HB6.out).below hb) (HK6.out.below hb))
      have HBK2 := Lib.hid (fun W A2 k2 (hb : Below W6.heap.size W6 W) (hA : BoolssAt W A2 S.n (serM S)) => iback_any (some ⟨r.g3, 0, none⟩) S.n c3 (anewM S S.n 0) A2 k2 (serM S) W (by omega) ((H3.out.below HB6.out).below hb) hA)
      have HGS6 : Hid (∀ W, Below W6.heap.size W6 W → GsAt (W.alloc (.cells #[.slice (some ⟨gO, 0, none⟩) S.n cap, .slice (some ⟨r.g3, 0, none⟩) S.n c3] 156)) W.heap.size 2 S.n (triMs (knownM S) (anewM S S.n 0) (anewM S S.n 0))) := Lib.hid fun W hb => gs2_of (HK6.out.below hb) ((H3.out.below HB6.out).below hb) hcap hc3
      have HTG : Hid (∀ W g, GsAt W g 2 S.n (triMs (knownM S) (anewM S S.n 0) (anewM S S.n 0)) → Calls Tryd.prog 82 #[.slice (some ⟨g, 0, none⟩) 2 2] W (OrPost S.n (serM S) W)) := Lib.hid fun W g hg => by
        have h := together_any g 2 2 S.n _ W (by omega) (by omega) hn0 (by omega) hg
        rwa [ser_known] at h
      have HFIN := Lib.hid (fun W (hb : Below W6.heap.size W6 W) (x4 x5 : Bool) (h4 : x4 = backB (anewM S S.n 0) (warsh (knownM S) S.n) S.n) (h5 : x5 = backB (anewM S S.n 0) (warsh (serM S) S.n) S.n) => (show (((W.setCell ⟨w1.heap.size, 4, none⟩ (.bool x4)).setCell ⟨w1.heap.size, 5, none⟩ (.bool x5)).rowIs w1.heap.size 4 6 (fun t => .bool (findsV S t))) ∧ Below w.heap.size w ((W.setCell ⟨w1.heap.size, 4, none⟩ (.bool x4)).setCell ⟨w1.heap.size, 5, none⟩ (.bool x5)) by
        subst h4 h5
        refine ⟨six_set (six_set (F' := six (roundB (overPM S 8 0) S.n) (abF S S.n 0) (beF S S.n 0) (roundB (knownM S) S.n) (backB (anewM S S.n 0) (warsh (knownM S) S.n) S.n) false) (rowIs_below HR6.out hb) 4 _ fun t ht => six4 _ _ _ _ _ _ _ t ht) 5 _ fun t ht => six5 _ _ _ _ _ _ _ t ht, ?_⟩
        exact HB0.out.trans ((HBW1.out.trans ((((HB6.out.trans (hb.mono HB6.out.size)).setCell (Nat.le_refl _) _).setCell (Nat.le_refl _) _).mono hs1w)).mono HB0.out.size)))
      generalize hr4 : backB (anewM S S.n 0) (warsh (knownM S) S.n) S.n = R4 at HBK1 HFIN
      generalize hr5 : backB (anewM S S.n 0) (warsh (serM S) S.n) S.n = R5 at HBK2 HFIN
      clear hr4 hr5
      clear HR HB HR6 HEX H1 H2 H3 HK6 HB6 HS0 HBO HSW HB0 HBW1
      go_region_held3 (fun w' => w'.cell? ⟨be, 2, none⟩ = some (.slice (some ⟨r.g3, 0, none⟩) S.n c3))
        ((refine HKEEP.out _ ?_; first | (intro k _ _; rfl) | (intro k _ hk; exact hqb.block k hk) | (intro k _ hk; exact hqt.block k hk) | (intro k _ hk; exact hqa.block k hk) | (intro k _ hk; exact (hqa.alloc hqa.size _).block k hk) | (intro k _ hk; exact (((Below.refl _ _).alloc (Nat.le_refl _) _).drew).block k hk) | (intro k hne hk; exact (heap_setCell_other _ _ _ _ hne).trans (hqb.block k hk)) | (intro k hne hk; exact (heap_setCell_other _ _ _ _ hne).trans ((heap_setCell_other _ _ _ _ hne).trans (hqb.block k hk)))))
        (first
          | (go_at_call 89; (with_reducible refine (HBK1.out _ ?_).mono ?_); (first | exact (Below.refl _ _).drew | exact ((Below.refl _ _).alloc (Nat.le_refl _) _).drew | exact (Below.refl _ _).drew.alloc (Nat.le_refl _) _); rintro e wa ⟨rfl, hba⟩; have hqa : Below W6.heap.size W6 wa := (by first | exact (Below.refl _ _).drew.trans hba | exact ((Below.refl _ _).alloc (Nat.le_refl _) _).drew.trans (hba.mono (by simp)) | exact ((Below.refl _ _).drew.alloc (Nat.le_refl _) _).trans (hba.mono (by simp))))
          | (go_at_call 82; (with_reducible refine (HTG.out _ _ ?_).mono ?_); (first | exact HGS6.out _ hqa | exact ((HGS6.out _ (Below.refl _ _)).below (Below.refl _ _).drew).below hba | exact (HGS6.out _ (Below.refl _ _).drew).below hba); rintro e wt ⟨gO2, cap2, G2, rfl, hcap2, hmat2, hbt⟩; have hqt : Below W6.heap.size W6 wt := (by first | exact hqa.trans (hbt.mono hqa.size) | exact (hqa.alloc hqa.size _).trans (hbt.mono (by have := hqa.size; simp; omega))); have hrt := hmat2.reads)
          | (go_at_call 89; (with_reducible refine (HBK2.out _ _ _ hqt hrt).mono ?_); rintro e wb ⟨rfl, hbb⟩; have hqb : Below W6.heap.size W6 wb := hqt.trans (hbb.mono hqt.size); have v4 := (hqb.cell (p := ⟨w1.heap.size, 4, none⟩) HGN.out.2.1).trans x4; have v5 := (hqb.cell (p := ⟨w1.heap.size, 5, none⟩) HGN.out.2.1).trans x5; have v6 := (hqb.frozen (p := ⟨w1.heap.size, 4, none⟩) HGN.out.2.1).trans f4; have v7 := (hqb.frozen (p := ⟨w1.heap.size, 5, none⟩) HGN.out.2.1).trans f5))
      all_goals
        go_wp2
        go_ret2
        exact ⟨w1.heap.size, rfl, (HFIN.out wb hqb R4 R5 rfl rfl).1, (HFIN.out wb hqb R4 R5 rfl rfl).2⟩
end Go.Proofs.YtkncomfbedbikaaDoor
