/- testimonyref.StoryCheck: which error a story has. -/
import Derived.Test.YtkncomfbedbikaaDoorIsoP
namespace Go.Proofs.YtkncomfbedbikaaDoor
open Go.RowKit
set_option maxRecDepth 100000 in
set_option maxHeartbeats 8000000 in
theorem rStoryCheck_any (A V : Option Addr) (c cv : Nat) (S : GStory) (w : World) (h : StoryAt w A V S) :
    Calls Tryd.prog 32 #[.agg #[.slice A S.n c, .slice V S.m cv]] w fun e w' => e = .returned (.int .i64 (storyErr S)) ∧ Below w.heap.size w w' := by
  have HS := Lib.hid h
  have hnn := h.hn
  have hmm := h.hm
  clear h
  by_cases h8 : S.n ≤ 8
  rotate_left
  · have hd : decide ((8 : Int) < (S.n : Int)) = true := by simp; omega
    have HE : Hid (storyErr S = 4) := Lib.hid (by unfold storyErr; rw [if_pos (by omega)])
    go_enter Tryd.func32, Tryd.ntmps32
    go_wp2
    go_ret
    exact ⟨by rw [HE.out]; rfl, (Below.refl _ _).alloc (Nat.le_refl _) _⟩
  have hd : decide ((8 : Int) < (S.n : Int)) = false := by simp; omega
  by_cases hm : S.m = 8
  rotate_left
  · have hd2 : ((S.m : Int) != 8) = true := by simpa using (show ¬ (S.m : Int) = 8 by omega)
    have HE : Hid (storyErr S = 3) := Lib.hid (by unfold storyErr; rw [if_neg (by omega), if_pos hm])
    go_enter Tryd.func32, Tryd.ntmps32
    go_wp2
    go_ret
    exact ⟨by rw [HE.out]; rfl, (Below.refl _ _).alloc (Nat.le_refl _) _⟩
  have hd2 : ((S.m : Int) != 8) = false := by simpa using (show (S.m : Int) = 8 by omega)
  have HE : Hid (storyErr S = if firstErr (txErr S) S.n ≠ 0 then firstErr (txErr S) S.n else firstErr (ordErr S) 8) := Lib.hid (by unfold storyErr; rw [if_neg (by omega), if_neg (by omega)])
  have HM := Lib.hid hm
  have HOT := Lib.hid (fun o => op_tree S o)
  have hx : ∀ T, Below w.heap.size w (w.alloc (.cells #[.slice A S.n c, .slice V S.m cv] T)) ∧ (w.alloc (.cells #[.slice A S.n c, .slice V S.m cv] T)).cell? ⟨w.heap.size, 0, none⟩ = some (.slice A S.n c) ∧ (w.alloc (.cells #[.slice A S.n c, .slice V S.m cv] T)).cell? ⟨w.heap.size, 1, none⟩ = some (.slice V S.m cv) ∧ w.heap.size < (w.alloc (.cells #[.slice A S.n c, .slice V S.m cv] T)).heap.size := fun T =>
    ⟨(Below.refl _ _).alloc (Nat.le_refl _) _, by simp [World.cell?_alloc_new], by simp [World.cell?_alloc_new], by simp⟩
  have HX := Lib.hid (hx 80)
  clear hx hm
  go_enter Tryd.func32, Tryd.ntmps32
  go_wp2_with fail
  obtain ⟨gs, hgs⟩ : ∃ gs, gs = w.heap.size := ⟨_, rfl⟩
  rw [← hgs] at HX ⊢
  have HSW : Hid (StoryAt (w.alloc (.cells #[.slice A S.n c, .slice V S.m cv] 80)) A V S) := Lib.hid (HS.out.below (by rw [hgs] at HX; exact HX.out.1))
  have HB0 : Hid (Below w.heap.size w (w.alloc (.cells #[.slice A S.n c, .slice V S.m cv] 80))) := Lib.hid (by rw [hgs] at HX; exact HX.out.1)
  have HX2 := Lib.hid HX.out.2
  clear HX hgs HS
  generalize w.alloc (.cells #[.slice A S.n c, .slice V S.m cv] 80) = W0 at *
  go_loopw [25] (fun x wr => ∃ i : Nat, x = .int .i64 i ∧ i ≤ S.n ∧ (∀ t, t < i → txErr S t = 0) ∧ Below W0.heap.size W0 wr) (fun x _ => S.n - (intOf x).toNat)
  case atStart => exact ⟨0, rfl, by omega, fun t ht => absurd ht (by omega), Below.refl _ _⟩
  case round =>
    obtain ⟨wo, rfl⟩ : ∃ wo : World, wo = wr := ⟨_, rfl⟩
    obtain ⟨i, rfl, hi, hall, hbw⟩ := hrel
    have HALL := Lib.hid hall
    have HB := Lib.hid hbw
    clear hall hbw
    by_cases hin : i < S.n
    · obtain ⟨b, off, rfl, hb, hk, A2, c2, g0, hkc, g1, hops⟩ := (HSW.out.below HB.out).txs i hin
      have HO := Lib.hid hops
      have HRT : Hid (∀ e, txErr S i = e → e ≠ 0 → storyErr S = e) := Lib.hid (fun e he h0 => by
        have := firstErr_ret HALL.out hin he h0
        rw [HE.out, this, if_pos h0])
      have HWA : Hid (∀ ob, Below W0.heap.size W0 (wo.alloc ob)) := Lib.hid (fun ob => HB.out.alloc HB.out.size _)
      have HWA2 : Hid (∀ ob, Below wo.heap.size wo (wo.alloc ob)) := Lib.hid (fun ob => (Below.refl _ _).alloc (Nat.le_refl _) _)
      clear hops hkc
      generalize hki : S.k i = ki at *
      generalize hci : S.c i = ci at *
      have HKI := Lib.hid hki
      clear hki hci
      by_cases h60 : ki ≤ 60
      rotate_left
      · have hd3 : decide ((60 : Int) < (ki : Int)) = true := by simp; omega
        have HT : Hid (txErr S i = 4) := Lib.hid (by unfold txErr; rw [HKI.out, if_pos (by omega)])
        go_wp2
        go_ret
        exact ⟨by rw [HRT.out 4 HT.out (by omega)]; rfl, HB0.out.trans ((HWA.out _).mono HB0.out.size)⟩
      · have hd3 : decide ((60 : Int) < (ki : Int)) = false := by simp; omega
        have HT : Hid (txErr S i = firstErr (fun j => opErrI S (S.o i j)) ki) := Lib.hid (by unfold txErr; rw [HKI.out, if_neg (by omega)])
        go_wp2_with fail
        go_loopw [36] (fun x wr => ∃ j : Nat, x = .int .i64 j ∧ j ≤ ki ∧ (∀ t, t < j → opErrI S (S.o i t) = 0) ∧ Below wo.heap.size wo wr ∧ wo.heap.size ≤ wr.heap.size) (fun x _ => ki - (intOf x).toNat)
        case atStart => exact ⟨0, rfl, by omega, fun t ht => absurd ht (by omega), HWA2.out _, (HWA2.out _).size⟩
        case round =>
          obtain ⟨j, rfl, hj, hall, hbw, hsz⟩ := hrel
          have HALL2 := Lib.hid hall
          have HB2 := Lib.hid hbw
          have HB2' : Hid (Below W0.heap.size W0 wr) := Lib.hid (HB.out.trans (hbw.mono HB.out.size))
          clear hall hbw hsz
          by_cases hjk : j < ki
          · obtain ⟨b3, off3, rfl, hb3, p0, p1, p2, p3⟩ := (HO.out.below HB2.out) j hjk
            obtain ⟨o, ho⟩ : ∃ o, S.o i j = o := ⟨_, rfl⟩
            rw [ho] at p0 p1 p2 p3
            have HOO := Lib.hid ho
            clear ho
            have HRE : Hid (∀ e, opErrI S o = e → e ≠ 0 → storyErr S = e) := Lib.hid (fun e he h0 => HRT.out e (by rw [HT.out]; exact firstErr_ret HALL2.out hjk (by rw [HOO.out]; exact he) h0) h0)
            have HNX : Hid (opErrI S o = 0 → ∀ t, t < j + 1 → opErrI S (S.o i t) = 0) := Lib.hid (fun h => upto_succ HALL2.out (by rw [HOO.out]; exact h))
            have HWB : Hid (∀ ob, Below wo.heap.size wo (wr.alloc ob)) := Lib.hid (fun ob => HB2.out.alloc HB2.out.size _)
            have HWC : Hid (∀ ob, Below W0.heap.size W0 (wr.alloc ob)) := Lib.hid (fun ob => HB2'.out.alloc HB2'.out.size _)
            have s0 := (HB2'.out.cell (p := ⟨gs, 0, none⟩) HX2.out.2.2).trans HX2.out.1
            have hgw : gs < wr.heap.size := Nat.lt_of_lt_of_le HX2.out.2.2 HB2'.out.size
            obtain ⟨owr, okey, ofrm, onum⟩ := o
            dsimp only at p0 p1 p2 p3
            have ht := HOT.out ⟨owr, okey, ofrm, onum⟩
            dsimp only at ht
            rcases ht with ⟨d1, hd⟩ | ⟨d1, d2, hd⟩ | ⟨d1, d2, d3, hd⟩ | ⟨d1, d2, d3, d4, hd⟩ | ⟨d1, d2, d3, d4, d5, hd⟩ | ⟨d1, d2, d3, d4, d5, d6, d7, hd⟩ | ⟨d1, d2, d3, d4, d5, d6, d7, d8, hd⟩ | ⟨d1, d2, d3, d4, d5, d6, d7, d8, hd⟩ | ⟨d1, d2, d3, d4, d5, d6, d7, d8, hd⟩ | ⟨d1, d2, d3, d4, d5, d6, d7, d8, hd⟩ | ⟨f, d1, d2, d3, d4, d5, d6, d7, hd⟩ | ⟨f, d1, d2, d3, d4, d5, d6, d7, hd⟩
            all_goals
              have HD := Lib.hid hd
              clear hd
            · skip
              go_wp2
              go_ret
              exact ⟨by rw [HRE.out 2 HD.out (by omega)]; rfl, HB0.out.trans ((HWC.out _).mono HB0.out.size)⟩
            · skip
              go_wp2
              go_ret
              exact ⟨by rw [HRE.out 2 HD.out (by omega)]; rfl, HB0.out.trans ((HWC.out _).mono HB0.out.size)⟩
            · skip
              go_wp2
              go_ret
              exact ⟨by rw [HRE.out 2 HD.out (by omega)]; rfl, HB0.out.trans ((HWC.out _).mono HB0.out.size)⟩
            · skip
              go_wp2
              go_ret
              exact ⟨by rw [HRE.out 2 HD.out (by omega)]; rfl, HB0.out.trans ((HWC.out _).mono HB0.out.size)⟩
            · skip
              go_wp2
              go_ret
              exact ⟨by rw [HRE.out 2 HD.out (by omega)]; rfl, HB0.out.trans ((HWC.out _).mono HB0.out.size)⟩
            · subst d6
              go_wp2
              go_ret
              exact ⟨by rw [HRE.out 1 HD.out (by omega)]; rfl, HB0.out.trans ((HWC.out _).mono HB0.out.size)⟩
            · subst d6 d7
              go_wp2
              go_ret
              exact ⟨by rw [HRE.out 1 HD.out (by omega)]; rfl, HB0.out.trans ((HWC.out _).mono HB0.out.size)⟩
            · subst d6 d7 d8
              have HWX : Hid (Below W0.heap.size W0 (wr.alloc (.cells #[.bool true, .int .i64 okey, .int .i64 0, .int .i64 0] 146)) ∧ Below wo.heap.size wo (wr.alloc (.cells #[.bool true, .int .i64 okey, .int .i64 0, .int .i64 0] 146)) ∧ (wr.alloc (.cells #[.bool true, .int .i64 okey, .int .i64 0, .int .i64 0] 146)).cell? ⟨wr.heap.size, 0, none⟩ = some (.bool true) ∧ (wr.alloc (.cells #[.bool true, .int .i64 okey, .int .i64 0, .int .i64 0] 146)).cell? ⟨wr.heap.size, 1, none⟩ = some (.int .i64 okey) ∧ (wr.alloc (.cells #[.bool true, .int .i64 okey, .int .i64 0, .int .i64 0] 146)).cell? ⟨wr.heap.size, 2, none⟩ = some (.int .i64 0) ∧ (wr.alloc (.cells #[.bool true, .int .i64 okey, .int .i64 0, .int .i64 0] 146)).cell? ⟨wr.heap.size, 3, none⟩ = some (.int .i64 0)) :=
                Lib.hid ⟨HWC.out _, HWB.out _, by simp [World.cell?_alloc_new], by simp [World.cell?_alloc_new], by simp [World.cell?_alloc_new], by simp [World.cell?_alloc_new]⟩
              go_wp2_with fail
              generalize wr.alloc (.cells #[.bool true, .int .i64 okey, .int .i64 0, .int .i64 0] 146) = W at *
              have k0 := cell_regrown HWX.out.2.2.1
              have k1 := cell_regrown HWX.out.2.2.2.1
              have k2 := cell_regrown HWX.out.2.2.2.2.1
              have k3 := cell_regrown HWX.out.2.2.2.2.2
              have ks := cell_regrown ((HWX.out.1.cell (p := ⟨gs, 0, none⟩) HX2.out.2.2).trans HX2.out.1)
              refine wp_region_quiet_below (by kernel_rfl) (by kernel_rfl) ?_
              repeat (go_big_quiet_step (fail))
              refine wpQuiet_nil ?_
              rintro wq ⟨pq, hpq⟩
              have HBQ : Hid (Below W.heap.size W wq) := Lib.hid (hpq ▸ below_regrown W pq.d pq.os)
              clear hpq
              clear k0 k1 k2 k3 ks
              have HB3 : Hid (Below W0.heap.size W0 wq) := Lib.hid (HWX.out.1.trans (HBQ.out.mono HWX.out.1.size))
              have HB4 : Hid (Below wo.heap.size wo wq) := Lib.hid (HWX.out.2.1.trans (HBQ.out.mono HWX.out.2.1.size))
              go_wp2
              go_roundw
              case rel => exact ⟨j + 1, by go_num, by omega, HNX.out HD.out, HB4.out, HB4.out.size⟩
              case measure => go_light; simp [intOf] <;> omega
            · subst d6 d7
              go_wp2
              go_ret
              exact ⟨by rw [HRE.out 1 HD.out (by omega)]; rfl, HB0.out.trans ((HWC.out _).mono HB0.out.size)⟩
            · subst d6 d7 d8
              have HWX : Hid (Below W0.heap.size W0 (wr.alloc (.cells #[.bool false, .int .i64 okey, .int .i64 (-1), .int .i64 0] 146)) ∧ Below wo.heap.size wo (wr.alloc (.cells #[.bool false, .int .i64 okey, .int .i64 (-1), .int .i64 0] 146)) ∧ (wr.alloc (.cells #[.bool false, .int .i64 okey, .int .i64 (-1), .int .i64 0] 146)).cell? ⟨wr.heap.size, 0, none⟩ = some (.bool false) ∧ (wr.alloc (.cells #[.bool false, .int .i64 okey, .int .i64 (-1), .int .i64 0] 146)).cell? ⟨wr.heap.size, 1, none⟩ = some (.int .i64 okey) ∧ (wr.alloc (.cells #[.bool false, .int .i64 okey, .int .i64 (-1), .int .i64 0] 146)).cell? ⟨wr.heap.size, 2, none⟩ = some (.int .i64 (-1)) ∧ (wr.alloc (.cells #[.bool false, .int .i64 okey, .int .i64 (-1), .int .i64 0] 146)).cell? ⟨wr.heap.size, 3, none⟩ = some (.int .i64 0)) :=
                Lib.hid ⟨HWC.out _, HWB.out _, by simp [World.cell?_alloc_new], by simp [World.cell?_alloc_new], by simp [World.cell?_alloc_new], by simp [World.cell?_alloc_new]⟩
              go_wp2_with fail
              generalize wr.alloc (.cells #[.bool false, .int .i64 okey, .int .i64 (-1), .int .i64 0] 146) = W at *
              have k0 := cell_regrown HWX.out.2.2.1
              have k1 := cell_regrown HWX.out.2.2.2.1
              have k2 := cell_regrown HWX.out.2.2.2.2.1
              have k3 := cell_regrown HWX.out.2.2.2.2.2
              have ks := cell_regrown ((HWX.out.1.cell (p := ⟨gs, 0, none⟩) HX2.out.2.2).trans HX2.out.1)
              refine wp_region_quiet_below (by kernel_rfl) (by kernel_rfl) ?_
              repeat (go_big_quiet_step (fail))
              refine wpQuiet_nil ?_
              rintro wq ⟨pq, hpq⟩
              have HBQ : Hid (Below W.heap.size W wq) := Lib.hid (hpq ▸ below_regrown W pq.d pq.os)
              clear hpq
              clear k0 k1 k2 k3 ks
              have HB3 : Hid (Below W0.heap.size W0 wq) := Lib.hid (HWX.out.1.trans (HBQ.out.mono HWX.out.1.size))
              have HB4 : Hid (Below wo.heap.size wo wq) := Lib.hid (HWX.out.2.1.trans (HBQ.out.mono HWX.out.2.1.size))
              go_wp2
              go_roundw
              case rel => exact ⟨j + 1, by go_num, by omega, HNX.out HD.out, HB4.out, HB4.out.size⟩
              case measure => go_light; simp [intOf] <;> omega
            · subst d6 d3
              have HWX : Hid (Below W0.heap.size W0 (wr.alloc (.cells #[.bool false, .int .i64 okey, .int .i64 (f : Int), .int .i64 onum] 146)) ∧ Below wo.heap.size wo (wr.alloc (.cells #[.bool false, .int .i64 okey, .int .i64 (f : Int), .int .i64 onum] 146)) ∧ (wr.alloc (.cells #[.bool false, .int .i64 okey, .int .i64 (f : Int), .int .i64 onum] 146)).cell? ⟨wr.heap.size, 0, none⟩ = some (.bool false) ∧ (wr.alloc (.cells #[.bool false, .int .i64 okey, .int .i64 (f : Int), .int .i64 onum] 146)).cell? ⟨wr.heap.size, 1, none⟩ = some (.int .i64 okey) ∧ (wr.alloc (.cells #[.bool false, .int .i64 okey, .int .i64 (f : Int), .int .i64 onum] 146)).cell? ⟨wr.heap.size, 2, none⟩ = some (.int .i64 (f : Int)) ∧ (wr.alloc (.cells #[.bool false, .int .i64 okey, .int .i64 (f : Int), .int .i64 onum] 146)).cell? ⟨wr.heap.size, 3, none⟩ = some (.int .i64 onum)) :=
                Lib.hid ⟨HWC.out _, HWB.out _, by simp [World.cell?_alloc_new], by simp [World.cell?_alloc_new], by simp [World.cell?_alloc_new], by simp [World.cell?_alloc_new]⟩
              go_wp2_with fail
              generalize wr.alloc (.cells #[.bool false, .int .i64 okey, .int .i64 (f : Int), .int .i64 onum] 146) = W at *
              have k0 := cell_regrown HWX.out.2.2.1
              have k1 := cell_regrown HWX.out.2.2.2.1
              have k2 := cell_regrown HWX.out.2.2.2.2.1
              have k3 := cell_regrown HWX.out.2.2.2.2.2
              have ks := cell_regrown ((HWX.out.1.cell (p := ⟨gs, 0, none⟩) HX2.out.2.2).trans HX2.out.1)
              obtain ⟨bf, offf, hAe, hbf, hkf, A2f, c2f, f0, hkcf, f1, hopf⟩ := HSW.out.txs f d4
              injection hAe with hAe
              injection hAe with hAe1 hAe2
              subst hAe1 hAe2
              have kf0 := cell_regrown ((HWX.out.1.cell (p := ⟨b, off + f * 2, none⟩) hbf).trans f0)
              have kf1 := cell_regrown ((HWX.out.1.cell (p := ⟨b, off + f * 2 + 1, none⟩) hbf).trans f1)
              have cI := fun d os => Calls.regrown_of (d := d) (os := os) (wrote_any A2f (S.k f) c2f (S.c f) okey (S.o f) (Go.Sort.grow (redrawn W d) os) hkf (hopf.below (HWX.out.1.trans ((below_regrown W d os).mono HWX.out.1.size))))
              clear hopf f0 f1
              generalize vers (S.o f) okey (S.k f) = vf at *
              have hf1 : ((f : Int) != -1) = true := by simp
              refine wp_region_quiet_below (by kernel_rfl) (by kernel_rfl) ?_
              repeat (go_big_quiet_step (with_reducible exact cI _ _))
              refine wpQuiet_nil ?_
              rintro wq ⟨pq, hpq⟩
              have HBQ : Hid (Below W.heap.size W wq) := Lib.hid (hpq ▸ below_regrown W pq.d pq.os)
              clear hpq
              clear k0 k1 k2 k3 ks kf0 kf1 cI
              have HB3 : Hid (Below W0.heap.size W0 wq) := Lib.hid (HWX.out.1.trans (HBQ.out.mono HWX.out.1.size))
              have HB4 : Hid (Below wo.heap.size wo wq) := Lib.hid (HWX.out.2.1.trans (HBQ.out.mono HWX.out.2.1.size))
              go_wp2
              go_ret
              exact ⟨by rw [HRE.out 7 HD.out (by omega)]; rfl, HB0.out.trans (HB3.out.mono HB0.out.size)⟩
            · subst d6 d3
              have HWX : Hid (Below W0.heap.size W0 (wr.alloc (.cells #[.bool false, .int .i64 okey, .int .i64 (f : Int), .int .i64 onum] 146)) ∧ Below wo.heap.size wo (wr.alloc (.cells #[.bool false, .int .i64 okey, .int .i64 (f : Int), .int .i64 onum] 146)) ∧ (wr.alloc (.cells #[.bool false, .int .i64 okey, .int .i64 (f : Int), .int .i64 onum] 146)).cell? ⟨wr.heap.size, 0, none⟩ = some (.bool false) ∧ (wr.alloc (.cells #[.bool false, .int .i64 okey, .int .i64 (f : Int), .int .i64 onum] 146)).cell? ⟨wr.heap.size, 1, none⟩ = some (.int .i64 okey) ∧ (wr.alloc (.cells #[.bool false, .int .i64 okey, .int .i64 (f : Int), .int .i64 onum] 146)).cell? ⟨wr.heap.size, 2, none⟩ = some (.int .i64 (f : Int)) ∧ (wr.alloc (.cells #[.bool false, .int .i64 okey, .int .i64 (f : Int), .int .i64 onum] 146)).cell? ⟨wr.heap.size, 3, none⟩ = some (.int .i64 onum)) :=
                Lib.hid ⟨HWC.out _, HWB.out _, by simp [World.cell?_alloc_new], by simp [World.cell?_alloc_new], by simp [World.cell?_alloc_new], by simp [World.cell?_alloc_new]⟩
              go_wp2_with fail
              generalize wr.alloc (.cells #[.bool false, .int .i64 okey, .int .i64 (f : Int), .int .i64 onum] 146) = W at *
              have k0 := cell_regrown HWX.out.2.2.1
              have k1 := cell_regrown HWX.out.2.2.2.1
              have k2 := cell_regrown HWX.out.2.2.2.2.1
              have k3 := cell_regrown HWX.out.2.2.2.2.2
              have ks := cell_regrown ((HWX.out.1.cell (p := ⟨gs, 0, none⟩) HX2.out.2.2).trans HX2.out.1)
              obtain ⟨bf, offf, hAe, hbf, hkf, A2f, c2f, f0, hkcf, f1, hopf⟩ := HSW.out.txs f d4
              injection hAe with hAe
              injection hAe with hAe1 hAe2
              subst hAe1 hAe2
              have kf0 := cell_regrown ((HWX.out.1.cell (p := ⟨b, off + f * 2, none⟩) hbf).trans f0)
              have kf1 := cell_regrown ((HWX.out.1.cell (p := ⟨b, off + f * 2 + 1, none⟩) hbf).trans f1)
              have cI := fun d os => Calls.regrown_of (d := d) (os := os) (wrote_any A2f (S.k f) c2f (S.c f) okey (S.o f) (Go.Sort.grow (redrawn W d) os) hkf (hopf.below (HWX.out.1.trans ((below_regrown W d os).mono HWX.out.1.size))))
              clear hopf f0 f1
              generalize vers (S.o f) okey (S.k f) = vf at *
              have hf1 : ((f : Int) != -1) = true := by simp
              refine wp_region_quiet_below (by kernel_rfl) (by kernel_rfl) ?_
              repeat (go_big_quiet_step (with_reducible exact cI _ _))
              refine wpQuiet_nil ?_
              rintro wq ⟨pq, hpq⟩
              have HBQ : Hid (Below W.heap.size W wq) := Lib.hid (hpq ▸ below_regrown W pq.d pq.os)
              clear hpq
              clear k0 k1 k2 k3 ks kf0 kf1 cI
              have HB3 : Hid (Below W0.heap.size W0 wq) := Lib.hid (HWX.out.1.trans (HBQ.out.mono HWX.out.1.size))
              have HB4 : Hid (Below wo.heap.size wo wq) := Lib.hid (HWX.out.2.1.trans (HBQ.out.mono HWX.out.2.1.size))
              go_wp2
              go_roundw
              case rel => exact ⟨j + 1, by go_num, by omega, HNX.out HD.out, HB4.out, HB4.out.size⟩
              case measure => go_light; simp [intOf] <;> omega
          · obtain rfl : j = ki := by omega
            have HTX : Hid (txErr S i = 0) := Lib.hid (by rw [HT.out]; exact firstErr_none HALL2.out)
            go_wp2
            go_roundw
            case rel => exact ⟨i + 1, by go_num, by omega, upto_succ HALL.out HTX.out, HB2'.out⟩
            case measure => go_light; simp [intOf] <;> omega
    · obtain rfl : i = S.n := by omega
      have s0 := (HB.out.cell (p := ⟨gs, 0, none⟩) HX2.out.2.2).trans HX2.out.1
      have s1 := (HB.out.cell (p := ⟨gs, 1, none⟩) HX2.out.2.2).trans HX2.out.2.1
      have HTX0 : Hid (firstErr (txErr S) S.n = 0) := Lib.hid (firstErr_none HALL.out)
      have HE2 : Hid (storyErr S = firstErr (ordErr S) 8) := Lib.hid (by rw [HE.out, HTX0.out, if_neg (by simp)])
      clear HALL HE HTX0 HOT
      go_wp2_with fail
      go_loopw [115] (fun x wr => ∃ q : Nat, x = .int .i64 q ∧ q ≤ S.m ∧ (∀ t, t < q → ordErr S t = 0) ∧ Below W0.heap.size W0 wr) (fun x _ => S.m - (intOf x).toNat)
      case atStart => exact ⟨0, rfl, by omega, fun t ht => absurd ht (by omega), HB.out⟩
      case round =>
        clear HB s0 s1
        obtain ⟨wk, rfl⟩ : ∃ wk : World, wk = wr := ⟨_, rfl⟩
        obtain ⟨q, rfl, hq, hall, hbw⟩ := hrel
        have HALL := Lib.hid hall
        have HB := Lib.hid hbw
        clear hall hbw
        by_cases hqm : q < S.m
        · obtain ⟨vb, vo, rfl, hvb, hL, A2, c2, hvc, hlc, hI⟩ := (HSW.out.below HB.out).rows q hqm
          have HI := Lib.hid hI
          have HRT : Hid (∀ e, ordErr S q = e → e ≠ 0 → storyErr S = e) := Lib.hid (fun e he h0 => by
            rw [HE2.out]
            exact firstErr_ret HALL.out (by have := HM.out; omega) he h0)
          have HSK := Lib.hid (HSW.out.below HB.out)
          have hgk : gs < wk.heap.size := Nat.lt_of_lt_of_le HX2.out.2.2 HB.out.size
          have t0 := (HB.out.cell (p := ⟨gs, 0, none⟩) HX2.out.2.2).trans HX2.out.1
          have HLM : Hid (S.l q ≤ 9223372036854775807) := Lib.hid (by omega)
          clear hI hL
          go_wp2_with fail
          go_loopw [122] (fun x wr => ∃ t : Nat, x = .int .i64 t ∧ t ≤ S.l q ∧ (∀ t', t' < t → entErr S q t' = 0) ∧ Below wk.heap.size wk wr) (fun x _ => S.l q - (intOf x).toNat)
          case atStart => exact ⟨0, rfl, by omega, fun t ht => absurd ht (by omega), Below.refl _ _⟩
          case round =>
            obtain ⟨t, rfl, ht, hall, hbw⟩ := hrel
            have HALL2 := Lib.hid hall
            have HB2 := Lib.hid hbw
            have HB2' : Hid (Below W0.heap.size W0 wr) := Lib.hid (HB.out.trans (hbw.mono HB.out.size))
            clear hall hbw
            by_cases htl : t < S.l q
            · obtain ⟨b3, off3, rfl, hb3, p0⟩ := (HI.out.below HB2.out) t htl
              obtain ⟨xv, hxv⟩ : ∃ xv, S.x q t = xv := ⟨_, rfl⟩
              rw [hxv] at p0
              have HXV := Lib.hid hxv
              have HRE : Hid (∀ e, entErr S q t = e → e ≠ 0 → storyErr S = e) := Lib.hid (fun e he h0 => HRT.out e (by unfold ordErr; rw [firstErr_ret HALL2.out htl he h0, if_pos h0]) h0)
              have s0 := (HB2.out.cell (p := ⟨gs, 0, none⟩) hgk).trans t0
              have htm : t + 1 ≤ 9223372036854775807 := by have := HLM.out; omega
              have htc : t ≤ c2 := by omega
              clear hxv
              by_cases hx0 : xv < 0
              · have HEE : Hid (entErr S q t = 2) := Lib.hid (by unfold entErr; rw [HXV.out, if_pos (.inl hx0)])
                go_wp2
                go_ret
                exact ⟨by rw [HRE.out 2 HEE.out (by omega)]; rfl, HB0.out.trans (HB2'.out.mono HB0.out.size)⟩
              by_cases hxn : (S.n : Int) ≤ xv
              · have HEE : Hid (entErr S q t = 2) := Lib.hid (by unfold entErr; rw [HXV.out, if_pos (.inr hxn)])
                go_wp2
                go_ret
                exact ⟨by rw [HRE.out 2 HEE.out (by omega)]; rfl, HB0.out.trans (HB2'.out.mono HB0.out.size)⟩
              obtain ⟨f, rfl⟩ : ∃ f : Nat, xv = (f : Int) := ⟨xv.toNat, by omega⟩
              have hfn : f < S.n := by omega
              have HEN : Hid (entErr S q t = if writB S q f = false then 8 else if anyB (fun t' => S.x q t' == (f : Int)) t = true then 9 else 0) := Lib.hid (by unfold entErr; rw [HXV.out, if_neg (by omega)]; simp)
              obtain ⟨bf, offf, rfl, hbf, hkf, A2f, c2f, f0, hkcf, f1, hopf⟩ := (HSW.out.below HB2'.out).txs f hfn
              have HWR := Lib.hid (fun W (hb : Below wr.heap.size wr W) => wrote_any A2f (S.k f) c2f (S.c f) (q : Int) (S.o f) W hkf (hopf.below hb))
              have HWB : Hid (writB S q f = (S.c f && decide (0 < vers (S.o f) (q : Int) (S.k f)))) := Lib.hid rfl
              clear hopf hx0 hxn
              generalize vers (S.o f) (q : Int) (S.k f) = vf at *
              cases hcf : S.c f
              · rw [hcf] at f1
                have HEE : Hid (entErr S q t = 8) := Lib.hid (by rw [HEN.out, HWB.out, hcf]; rfl)
                clear hcf
                go_wp2
                go_ret
                exact ⟨by rw [HRE.out 8 HEE.out (by omega)]; rfl, HB0.out.trans (HB2'.out.mono HB0.out.size)⟩
              · rw [hcf] at f1 HWR HWB
                clear hcf
                have HWR1 := Lib.hid (HWR.out wr (Below.refl _ _))
                cases hv0 : ((vf : Int) == 0)
                · have HWT : Hid (writB S q f = true) := Lib.hid (by rw [HWB.out]; simp at hv0; simp; omega)
                  go_wp2_with fail
                  refine HWR1.out.mono ?_
                  rintro e w2 ⟨rfl, hb2⟩
                  have HB3 : Hid (Below wk.heap.size wk w2) := Lib.hid (HB2.out.trans (hb2.mono HB2.out.size))
                  have HB3' : Hid (Below W0.heap.size W0 w2) := Lib.hid (HB2'.out.trans (hb2.mono HB2'.out.size))
                  obtain ⟨ib, hib⟩ : ∃ ib, decide (0 ≤ idxF (S.x q) t (f : Int)) = ib := ⟨_, rfl⟩
                  have HIX := Lib.hid (rindex_any (some ⟨b3, off3, none⟩) t c2 (S.x q) (f : Int) w2 (by have := HLM.out; unfold maxLen; omega) (fun i hi => (HI.out.below HB3.out) i (by omega)))
                  have HIB : Hid (ib = anyB (fun t' => S.x q t' == (f : Int)) t) := Lib.hid (by rw [← hib]; exact idx_any _ _ _)
                  generalize idxF (S.x q) t (f : Int) = ix at *
                  clear hb2
                  cases ib
                  · have HEE : Hid (entErr S q t = 0) := Lib.hid (by rw [HEN.out, HWT.out, ← HIB.out]; rfl)
                    go_wp2_with (go_at_call 46; refine HIX.out.mono ?_; rintro e w' ⟨rfl, rfl⟩)
                    go_roundw
                    case rel => exact ⟨t + 1, by go_num, by omega, upto_succ HALL2.out HEE.out, HB3.out⟩
                    case measure => go_light; simp [intOf] <;> omega
                  · have HEE : Hid (entErr S q t = 9) := Lib.hid (by rw [HEN.out, HWT.out, ← HIB.out]; rfl)
                    go_wp2_with (go_at_call 46; refine HIX.out.mono ?_; rintro e w' ⟨rfl, rfl⟩)
                    go_ret
                    exact ⟨by rw [HRE.out 9 HEE.out (by omega)]; rfl, HB0.out.trans (HB3'.out.mono HB0.out.size)⟩
                · have HEE : Hid (entErr S q t = 8) := Lib.hid (by rw [HEN.out, HWB.out]; simp at hv0; simp [hv0])
                  go_wp2_with fail
                  refine HWR1.out.mono ?_
                  rintro e w2 ⟨rfl, hb2⟩
                  have HB3' : Hid (Below W0.heap.size W0 w2) := Lib.hid (HB2'.out.trans (hb2.mono HB2'.out.size))
                  clear hb2
                  go_wp2
                  go_ret
                  exact ⟨by rw [HRE.out 8 HEE.out (by omega)]; rfl, HB0.out.trans (HB3'.out.mono HB0.out.size)⟩
            · obtain rfl : t = S.l q := by omega
              have HF0 : Hid (firstErr (entErr S q) (S.l q) = 0) := Lib.hid (firstErr_none HALL2.out)
              have HOE : Hid (ordErr S q = if cntW S q S.n ≠ S.l q then 3 else 0) := Lib.hid (by unfold ordErr; rw [HF0.out, if_neg (by simp)])
              have s0 := (HB2.out.cell (p := ⟨gs, 0, none⟩) hgk).trans t0
              clear HALL2 HF0
              go_wp2_with fail
              go_loopw [11, 163] (fun v x wx => ∃ i : Nat, x = .int .i64 i ∧ i ≤ S.n ∧ v = .int .i64 (cntW S q i : Nat) ∧ Below W0.heap.size W0 wx) (fun _ x _ => S.n - (intOf x).toNat)
              case atStart => exact ⟨0, rfl, by omega, rfl, HB2'.out⟩
              case round =>
                obtain ⟨wx, rfl⟩ : ∃ wz : World, wz = wr := ⟨_, rfl⟩
                obtain ⟨i, rfl, hi, rfl, hbw⟩ := hrel
                have HB3 := Lib.hid hbw
                have hcl := cntW_le S q i
                clear hbw
                by_cases hin : i < S.n
                · obtain ⟨bf, offf, rfl, hbf, hkf, A2f, c2f, f0, hkcf, f1, hopf⟩ := (HSW.out.below HB3.out).txs i hin
                  have HWR := Lib.hid (fun W (hb : Below wx.heap.size wx W) => wrote_any A2f (S.k i) c2f (S.c i) (q : Int) (S.o i) W hkf (hopf.below hb))
                  have HWB : Hid (writB S q i = (S.c i && decide (0 < vers (S.o i) (q : Int) (S.k i)))) := Lib.hid rfl
                  have HCS := Lib.hid (cntW_succ S q i)
                  have HW : Hid (∀ ob, Below W0.heap.size W0 (wx.alloc ob)) := Lib.hid (fun ob => HB3.out.alloc HB3.out.size _)
                  have HW2 : Hid (∀ ob, Below wx.heap.size wx (wx.alloc ob)) := Lib.hid (fun ob => (Below.refl _ _).alloc (Nat.le_refl _) _)
                  clear hopf
                  generalize vers (S.o i) (q : Int) (S.k i) = vf at *
                  generalize cntW S q i = cq at *
                  cases hcf : S.c i
                  · rw [hcf] at f1 HWB
                    have HD : Hid (cntW S q (i + 1) = cq) := Lib.hid (by rw [HCS.out, HWB.out]; rfl)
                    clear hcf
                    go_wp2
                    go_roundw
                    case rel => exact ⟨i + 1, by go_num, by omega, by rw [HD.out], HW.out _⟩
                    case measure => go_light; simp [intOf] <;> omega
                  · rw [hcf] at f1 HWR HWB
                    clear hcf
                    cases hv0 : decide (0 < vf)
                    all_goals
                      go_wp2_with (go_at_call 67; refine (HWR.out _ (HW2.out _)).mono ?_; rintro e w2 ⟨rfl, hb2⟩)
                      have HB4 : Hid (Below W0.heap.size W0 w2) := Lib.hid ((HW.out _).trans (hb2.mono (HW.out _).size))
                      clear hb2
                    · have HD : Hid (cntW S q (i + 1) = cq) := Lib.hid (by rw [HCS.out, HWB.out, hv0]; rfl)
                      go_roundw
                      case rel => exact ⟨i + 1, by go_num, by omega, by rw [HD.out], HB4.out⟩
                      case measure => go_light; simp [intOf] <;> omega
                    · have HD : Hid (cntW S q (i + 1) = cq + 1) := Lib.hid (by rw [HCS.out, HWB.out, hv0]; rfl)
                      go_roundw
                      case rel => exact ⟨i + 1, by go_num, by omega, by rw [HD.out] <;> rfl, HB4.out⟩
                      case measure => go_light; simp [intOf] <;> omega
                · obtain rfl : i = S.n := by omega
                  cases hne : ((cntW S q S.n : Int) != (S.l q : Int))
                  · have HD : Hid (ordErr S q = 0) := Lib.hid (by rw [HOE.out, if_neg (by simp at hne; omega)])
                    go_wp2
                    go_roundw
                    case rel => exact ⟨q + 1, by go_num, by omega, upto_succ HALL.out HD.out, HB3.out⟩
                    case measure => go_light; simp [intOf] <;> omega
                  · have HD : Hid (ordErr S q = 3) := Lib.hid (by rw [HOE.out, if_pos (by simp at hne; omega)])
                    go_wp2
                    go_ret
                    exact ⟨by rw [HRT.out 3 HD.out (by omega)]; rfl, HB0.out.trans (HB3.out.mono HB0.out.size)⟩
        · obtain rfl : q = S.m := by omega
          go_wp2
          go_ret
          exact ⟨by rw [HE2.out, firstErr_none (by have := HM.out; rw [this] at HALL; exact HALL.out)]; rfl, HB0.out.trans (HB.out.mono HB0.out.size)⟩
end Go.Proofs.YtkncomfbedbikaaDoor
