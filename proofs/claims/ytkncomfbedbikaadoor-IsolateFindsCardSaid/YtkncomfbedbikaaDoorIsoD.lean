/- isolate.checkOrder, isolate.Check: which error a story has. -/
import Derived.Test.YtkncomfbedbikaaDoorIsoC
namespace Go.Proofs.YtkncomfbedbikaaDoor
open Go.RowKit
attribute [local go_sem] eq_nil ne_nil nil_eq_nil nil_ne_nil
set_option maxRecDepth 100000 in
set_option maxHeartbeats 8000000 in
theorem icheckOrder_any (A V : Option Addr) (c cv : Nat) (S : GStory) (q : Nat) (w : World) (h : StoryAt w A V S) (hqm : q < S.m) :
    Calls Tryd.prog 134 #[.agg #[.slice A S.n c, .slice V S.m cv], .int .i64 (q : Int)] w fun e w' => e = .returned (errV (ordErr S q)) ∧ Below w.heap.size w w' := by
  have HS := Lib.hid h
  have hnn := h.hn
  have hmm := h.hm
  clear h
  have HX : Hid (Below w.heap.size w ((w.alloc (.cells #[.slice A S.n c, .slice V S.m cv] 77)).alloc (.cells #[.int .i64 (q : Int)] 3)) ∧ ((w.alloc (.cells #[.slice A S.n c, .slice V S.m cv] 77)).alloc (.cells #[.int .i64 (q : Int)] 3)).cell? ⟨w.heap.size, 0, none⟩ = some (.slice A S.n c) ∧
      ((w.alloc (.cells #[.slice A S.n c, .slice V S.m cv] 77)).alloc (.cells #[.int .i64 (q : Int)] 3)).cell? ⟨w.heap.size, 1, none⟩ = some (.slice V S.m cv) ∧ ((w.alloc (.cells #[.slice A S.n c, .slice V S.m cv] 77)).alloc (.cells #[.int .i64 (q : Int)] 3)).cell? ⟨w.heap.size + 1, 0, none⟩ = some (.int .i64 (q : Int)) ∧
      w.heap.size + 1 < ((w.alloc (.cells #[.slice A S.n c, .slice V S.m cv] 77)).alloc (.cells #[.int .i64 (q : Int)] 3)).heap.size) :=
    Lib.hid ⟨((Below.refl _ _).alloc (Nat.le_refl _) _).alloc (by simp) _, by simp, by simp, by simp, by simp⟩
  obtain ⟨vb, vo, rfl, hvb, hL, A2, c2, hvc, hlc, hI⟩ := HS.out.rows q hqm
  have HLM : Hid (S.l q ≤ 9223372036854775807) := Lib.hid (by omega)
  have HSW : Hid (StoryAt ((w.alloc (.cells #[.slice A S.n c, .slice (some ⟨vb, vo, none⟩) S.m cv] 77)).alloc (.cells #[.int .i64 (q : Int)] 3)) A (some ⟨vb, vo, none⟩) S) := Lib.hid (HS.out.below HX.out.1)
  have HI : Hid (IntsAt ((w.alloc (.cells #[.slice A S.n c, .slice (some ⟨vb, vo, none⟩) S.m cv] 77)).alloc (.cells #[.int .i64 (q : Int)] 3)) A2 (S.l q) (S.x q)) := Lib.hid (hI.below HX.out.1)
  have hvc' := (HX.out.1.cell (p := ⟨vb, vo + q, none⟩) hvb).trans hvc
  clear hI hL hvc HS
  go_enter Tryd.func134, Tryd.ntmps134
  go_wp2_with fail
  obtain ⟨gs, hgs⟩ : ∃ gs, gs = w.heap.size := ⟨_, rfl⟩
  have HB0 : Hid (Below w.heap.size w ((w.alloc (.cells #[.slice A S.n c, .slice (some ⟨vb, vo, none⟩) S.m cv] 77)).alloc (.cells #[.int .i64 (q : Int)] 3))) := Lib.hid HX.out.1
  have HX2 := Lib.hid HX.out.2
  rw [← hgs] at HX2 ⊢
  clear HX hgs hvb hvc'
  generalize (w.alloc (.cells #[.slice A S.n c, .slice (some ⟨vb, vo, none⟩) S.m cv] 77)).alloc (.cells #[.int .i64 (q : Int)] 3) = W0 at *
  go_loopw [19] (fun x wr => ∃ t : Nat, x = .int .i64 t ∧ t ≤ S.l q ∧ (∀ t', t' < t → entErr S q t' = 0) ∧ Below W0.heap.size W0 wr) (fun x _ => S.l q - (intOf x).toNat)
  case atStart => exact ⟨0, rfl, by omega, fun t ht => absurd ht (by omega), Below.refl _ _⟩
  case round =>
    obtain ⟨t, rfl, ht, hall, hbw⟩ := hrel
    have HALL2 := Lib.hid hall
    have HB2 := Lib.hid hbw
    clear hall hbw
    have s0 := (HB2.out.cell (p := ⟨gs, 0, none⟩) (by have := HX2.out.2.2.2; show gs < _; omega)).trans HX2.out.1
    have s1 := (HB2.out.cell (p := ⟨gs + 1, 0, none⟩) HX2.out.2.2.2).trans HX2.out.2.2.1
    by_cases htl : t < S.l q
    · obtain ⟨b3, off3, rfl, hb3, p0⟩ := (HI.out.below HB2.out) t htl
      obtain ⟨xv, hxv⟩ : ∃ xv, S.x q t = xv := ⟨_, rfl⟩
      rw [hxv] at p0
      have HXV := Lib.hid hxv
      have HRE : Hid (∀ e, entErr S q t = e → e ≠ 0 → errV (ordErr S q) = .iface 23 (.int .i64 e)) := Lib.hid (fun e he h0 => by unfold ordErr; rw [firstErr_ret HALL2.out htl he h0, if_pos h0, errV_ne _ h0])
      have htm : t + 1 ≤ 9223372036854775807 := by have := HLM.out; omega
      have htc : t ≤ c2 := by omega
      clear hxv
      by_cases hx0 : xv < 0
      · have HEE : Hid (entErr S q t = 2) := Lib.hid (by unfold entErr; rw [HXV.out, if_pos (.inl hx0)])
        go_wp2
        go_ret
        exact ⟨by rw [HRE.out 2 HEE.out (by omega)]; rfl, HB0.out.trans (HB2.out.mono HB0.out.size)⟩
      by_cases hxn : (S.n : Int) ≤ xv
      · have HEE : Hid (entErr S q t = 2) := Lib.hid (by unfold entErr; rw [HXV.out, if_pos (.inr hxn)])
        go_wp2
        go_ret
        exact ⟨by rw [HRE.out 2 HEE.out (by omega)]; rfl, HB0.out.trans (HB2.out.mono HB0.out.size)⟩
      obtain ⟨f, rfl⟩ : ∃ f : Nat, xv = (f : Int) := ⟨xv.toNat, by omega⟩
      have hfn : f < S.n := by omega
      have HEN : Hid (entErr S q t = if writB S q f = false then 8 else if anyB (fun t' => S.x q t' == (f : Int)) t = true then 9 else 0) := Lib.hid (by unfold entErr; rw [HXV.out, if_neg (by omega)]; simp)
      have HWR := Lib.hid (iwrites_any A (some ⟨vb, vo, none⟩) c cv gs (gs + 1) S q f wr (HSW.out.below HB2.out) hfn s0 s1)
      clear hx0 hxn
      cases hwb : writB S q f
      · have HEE : Hid (entErr S q t = 8) := Lib.hid (by rw [HEN.out, hwb]; rfl)
        rw [hwb] at HWR
        clear hwb
        go_wp2_with fail
        refine HWR.out.mono ?_
        rintro e w2 ⟨rfl, hb2⟩
        have HB3 : Hid (Below W0.heap.size W0 w2) := Lib.hid (HB2.out.trans (hb2.mono HB2.out.size))
        clear hb2
        go_wp2
        go_ret
        exact ⟨by rw [HRE.out 8 HEE.out (by omega)]; rfl, HB0.out.trans (HB3.out.mono HB0.out.size)⟩
      · rw [hwb] at HWR
        have HWT := Lib.hid hwb
        clear hwb
        go_wp2_with fail
        refine HWR.out.mono ?_
        rintro e w2 ⟨rfl, hb2⟩
        have HB3 : Hid (Below W0.heap.size W0 w2) := Lib.hid (HB2.out.trans (hb2.mono HB2.out.size))
        obtain ⟨ib, hib⟩ : ∃ ib, decide (0 ≤ idxF (S.x q) t (f : Int)) = ib := ⟨_, rfl⟩
        have HIX := Lib.hid (Contains_any (some ⟨b3, off3, none⟩) t c2 (S.x q) (f : Int) w2 (by have := HLM.out; unfold maxLen; omega) (fun i hi => (HI.out.below HB3.out) i (by omega)))
        have HIB : Hid (ib = anyB (fun t' => S.x q t' == (f : Int)) t) := Lib.hid (by rw [← hib]; exact idx_any _ _ _)
        rw [hib] at HIX
        clear hb2 hib
        cases ib
        · have HEE : Hid (entErr S q t = 0) := Lib.hid (by rw [HEN.out, HWT.out, ← HIB.out]; rfl)
          go_wp2_with (go_at_call 50; refine HIX.out.mono ?_; rintro e w' ⟨rfl, rfl⟩)
          go_roundw
          case rel => exact ⟨t + 1, by go_num, by omega, upto_succ HALL2.out HEE.out, HB3.out⟩
          case measure => go_light; simp [intOf] <;> omega
        · have HEE : Hid (entErr S q t = 9) := Lib.hid (by rw [HEN.out, HWT.out, ← HIB.out]; rfl)
          go_wp2_with (go_at_call 50; refine HIX.out.mono ?_; rintro e w' ⟨rfl, rfl⟩)
          go_ret
          exact ⟨by rw [HRE.out 9 HEE.out (by omega)]; rfl, HB0.out.trans (HB3.out.mono HB0.out.size)⟩
    · obtain rfl : t = S.l q := by omega
      have HF0 : Hid (firstErr (entErr S q) (S.l q) = 0) := Lib.hid (firstErr_none HALL2.out)
      have HOE : Hid (ordErr S q = if cntW S q S.n ≠ S.l q then 3 else 0) := Lib.hid (by unfold ordErr; rw [HF0.out, if_neg (by simp)])
      clear HALL2 HF0
      go_wp2_with fail
      go_loopw [9, 52] (fun v x wr => ∃ i : Nat, x = .int .i64 i ∧ i ≤ S.n ∧ v = .int .i64 (cntW S q i : Nat) ∧ Below W0.heap.size W0 wr) (fun _ x _ => S.n - (intOf x).toNat)
      case atStart => exact ⟨0, rfl, by omega, rfl, HB2.out⟩
      case round =>
        clear s0 s1
        obtain ⟨wz, rfl⟩ : ∃ wz : World, wz = wr := ⟨_, rfl⟩
        obtain ⟨i, rfl, hi, rfl, hbw⟩ := hrel
        have HB3 := Lib.hid hbw
        have hcl := cntW_le S q i
        have s0 := (HB3.out.cell (p := ⟨gs, 0, none⟩) (by have := HX2.out.2.2.2; show gs < _; omega)).trans HX2.out.1
        have s1 := (HB3.out.cell (p := ⟨gs + 1, 0, none⟩) HX2.out.2.2.2).trans HX2.out.2.2.1
        clear hbw
        by_cases hin : i < S.n
        · have HWR := Lib.hid (iwrites_any A (some ⟨vb, vo, none⟩) c cv gs (gs + 1) S q i wz (HSW.out.below HB3.out) hin s0 s1)
          have HCS := Lib.hid (cntW_succ S q i)
          generalize cntW S q i = cq at *
          cases hwb : writB S q i
          all_goals
            rw [hwb] at HWR HCS
            clear hwb
            go_wp2_with fail
            refine HWR.out.mono ?_
            rintro e w2 ⟨rfl, hb2⟩
            have HB4 : Hid (Below W0.heap.size W0 w2) := Lib.hid (HB3.out.trans (hb2.mono HB3.out.size))
            clear hb2
            go_wp2
            go_roundw
            case rel => exact ⟨i + 1, by go_num, by omega, by rw [HCS.out] <;> rfl, HB4.out⟩
            case measure => go_light; simp [intOf] <;> omega
        · obtain rfl : i = S.n := by omega
          cases hne : ((S.l q : Int) != (cntW S q S.n : Int))
          · have HD : Hid (ordErr S q = 0) := Lib.hid (by rw [HOE.out, if_neg (by simp at hne; omega)])
            go_wp2
            go_ret
            exact ⟨by rw [HD.out]; rfl, HB0.out.trans (HB3.out.mono HB0.out.size)⟩
          · have HD : Hid (ordErr S q = 3) := Lib.hid (by rw [HOE.out, if_pos (by simp at hne; omega)])
            go_wp2
            go_ret
            exact ⟨by rw [HD.out]; rfl, HB0.out.trans (HB3.out.mono HB0.out.size)⟩
set_option maxRecDepth 100000 in
set_option maxHeartbeats 8000000 in
theorem iCheck_any (A V : Option Addr) (c cv : Nat) (S : GStory) (w : World) (h : StoryAt w A V S) :
    Calls Tryd.prog 117 #[.agg #[.slice A S.n c, .slice V S.m cv]] w fun e w' => e = .returned (errV (storyErr S)) ∧ Below w.heap.size w w' := by
  have HS := Lib.hid h
  have hnn := h.hn
  have hmm := h.hm
  clear h
  by_cases h8 : S.n ≤ 8
  rotate_left
  · have hd : decide ((8 : Int) < (S.n : Int)) = true := by simp; omega
    have HE : Hid (storyErr S = 4) := Lib.hid (by unfold storyErr; rw [if_pos (by omega)])
    go_enter Tryd.func117, Tryd.ntmps117
    go_wp2
    go_ret
    exact ⟨by rw [HE.out]; rfl, (Below.refl _ _).alloc (Nat.le_refl _) _⟩
  have hd : decide ((8 : Int) < (S.n : Int)) = false := by simp; omega
  by_cases hm : S.m = 8
  rotate_left
  · have hd2 : ((S.m : Int) != 8) = true := by simpa using (show ¬ (S.m : Int) = 8 by omega)
    have HE : Hid (storyErr S = 3) := Lib.hid (by unfold storyErr; rw [if_neg (by omega), if_pos hm])
    go_enter Tryd.func117, Tryd.ntmps117
    go_wp2
    go_ret
    exact ⟨by rw [HE.out]; rfl, (Below.refl _ _).alloc (Nat.le_refl _) _⟩
  have hd2 : ((S.m : Int) != 8) = false := by simpa using (show (S.m : Int) = 8 by omega)
  have HE : Hid (storyErr S = if firstErr (txErr S) S.n ≠ 0 then firstErr (txErr S) S.n else firstErr (ordErr S) 8) := Lib.hid (by unfold storyErr; rw [if_neg (by omega), if_neg (by omega)])
  have HM := Lib.hid hm
  have hx : ∀ T, Below w.heap.size w (w.alloc (.cells #[.slice A S.n c, .slice V S.m cv] T)) ∧ (w.alloc (.cells #[.slice A S.n c, .slice V S.m cv] T)).cell? ⟨w.heap.size, 0, none⟩ = some (.slice A S.n c) ∧ (w.alloc (.cells #[.slice A S.n c, .slice V S.m cv] T)).cell? ⟨w.heap.size, 1, none⟩ = some (.slice V S.m cv) ∧ w.heap.size < (w.alloc (.cells #[.slice A S.n c, .slice V S.m cv] T)).heap.size := fun T =>
    ⟨(Below.refl _ _).alloc (Nat.le_refl _) _, by simp [World.cell?_alloc_new], by simp [World.cell?_alloc_new], by simp⟩
  have HX := Lib.hid (hx 77)
  clear hx hm
  go_enter Tryd.func117, Tryd.ntmps117
  go_wp2_with fail
  obtain ⟨gs, hgs⟩ : ∃ gs, gs = w.heap.size := ⟨_, rfl⟩
  rw [← hgs] at HX ⊢
  have HSW : Hid (StoryAt (w.alloc (.cells #[.slice A S.n c, .slice V S.m cv] 77)) A V S) := Lib.hid (HS.out.below (by rw [hgs] at HX; exact HX.out.1))
  have HB0 : Hid (Below w.heap.size w (w.alloc (.cells #[.slice A S.n c, .slice V S.m cv] 77))) := Lib.hid (by rw [hgs] at HX; exact HX.out.1)
  have HX2 := Lib.hid HX.out.2
  clear HX hgs HS
  generalize w.alloc (.cells #[.slice A S.n c, .slice V S.m cv] 77) = W0 at *
  go_loopw [25] (fun x wr => ∃ i : Nat, x = .int .i64 i ∧ i ≤ S.n ∧ (∀ t, t < i → txErr S t = 0) ∧ Below W0.heap.size W0 wr) (fun x _ => S.n - (intOf x).toNat)
  case atStart => exact ⟨0, rfl, by omega, fun t ht => absurd ht (by omega), Below.refl _ _⟩
  case round =>
    obtain ⟨wo, rfl⟩ : ∃ wo : World, wo = wr := ⟨_, rfl⟩
    obtain ⟨i, rfl, hi, hall, hbw⟩ := hrel
    have HALL := Lib.hid hall
    have HB := Lib.hid hbw
    clear hall hbw
    by_cases hin : i < S.n
    · obtain ⟨b, off, rfl, hb, hk, A2, c2, g0, hkc, g1, hops⟩ := (HSW.out.below HB.out).txs i hin
      have HO := Lib.hid hops
      have HRT : Hid (∀ e, txErr S i = e → e ≠ 0 → errV (storyErr S) = .iface 23 (.int .i64 e)) := Lib.hid (fun e he h0 => by
        have := firstErr_ret HALL.out hin he h0
        rw [HE.out, this, if_pos h0, errV_ne _ h0])
      have HWA : Hid (∀ ob, Below W0.heap.size W0 (wo.alloc ob)) := Lib.hid (fun ob => HB.out.alloc HB.out.size _)
      have HWA2 : Hid (∀ ob, Below wo.heap.size wo (wo.alloc ob)) := Lib.hid (fun ob => (Below.refl _ _).alloc (Nat.le_refl _) _)
      clear hops hkc
      generalize hki : S.k i = ki at *
      generalize hci : S.c i = ci at *
      have HKI := Lib.hid hki
      clear hki hci
      by_cases h60 : ki ≤ 60
      rotate_left
      · have hd3 : decide ((60 : Int) < (ki : Int)) = true := by simp; omega
        have HT : Hid (txErr S i = 4) := Lib.hid (by unfold txErr; rw [HKI.out, if_pos (by omega)])
        go_wp2
        go_ret
        exact ⟨by rw [HRT.out 4 HT.out (by omega)]; rfl, HB0.out.trans ((HWA.out _).mono HB0.out.size)⟩
      · have hd3 : decide ((60 : Int) < (ki : Int)) = false := by simp; omega
        have HT : Hid (txErr S i = firstErr (fun j => opErrI S (S.o i j)) ki) := Lib.hid (by unfold txErr; rw [HKI.out, if_neg (by omega)])
        go_wp2_with fail
        go_loopw [37] (fun x wr => ∃ j : Nat, x = .int .i64 j ∧ j ≤ ki ∧ (∀ t, t < j → opErrI S (S.o i t) = 0) ∧ Below wo.heap.size wo wr ∧ wo.heap.size ≤ wr.heap.size) (fun x _ => ki - (intOf x).toNat)
        case atStart => exact ⟨0, rfl, by omega, fun t ht => absurd ht (by omega), HWA2.out _, (HWA2.out _).size⟩
        case round =>
          obtain ⟨j, rfl, hj, hall, hbw, hsz⟩ := hrel
          have HALL2 := Lib.hid hall
          have HB2 := Lib.hid hbw
          have HB2' : Hid (Below W0.heap.size W0 wr) := Lib.hid (HB.out.trans (hbw.mono HB.out.size))
          clear hall hbw hsz
          by_cases hjk : j < ki
          · obtain ⟨b3, off3, rfl, hb3, p0, p1, p2, p3⟩ := (HO.out.below HB2.out) j hjk
            obtain ⟨o, ho⟩ : ∃ o, S.o i j = o := ⟨_, rfl⟩
            rw [ho] at p0 p1 p2 p3
            have HOO := Lib.hid ho
            clear ho
            have s0 := (HB2'.out.cell (p := ⟨gs, 0, none⟩) HX2.out.2.2).trans HX2.out.1
            have s1 := (HB2'.out.cell (p := ⟨gs, 1, none⟩) HX2.out.2.2).trans HX2.out.2.1
            have hgw : gs < wr.heap.size := Nat.lt_of_lt_of_le HX2.out.2.2 HB2'.out.size
            have HCO := Lib.hid (fun ob => icheckOp_any (some ⟨b, off, none⟩) V c cv S o (wr.alloc ob) (HSW.out.below (HB2'.out.alloc HB2'.out.size ob)))
            have HWB : Hid (∀ ob w2, Below (wr.alloc ob).heap.size (wr.alloc ob) w2 → Below wo.heap.size wo w2 ∧ Below W0.heap.size W0 w2) := Lib.hid (fun ob w2 hb => ⟨(HB2.out.alloc HB2.out.size ob).trans (hb.mono (HB2.out.alloc HB2.out.size ob).size), (HB2'.out.alloc HB2'.out.size ob).trans (hb.mono (HB2'.out.alloc HB2'.out.size ob).size)⟩)
            cases hz : (opErrI S o == 0)
            · have hz' : opErrI S o ≠ 0 := by simpa using hz
              have HRE := Lib.hid (HRT.out (opErrI S o) (by rw [HT.out]; exact firstErr_ret HALL2.out hjk (by rw [HOO.out]) hz') hz')
              simp only [errV_ne _ hz'] at HCO
              clear hz hz'
              go_wp2_with fail
              refine (HCO.out _).mono ?_
              rintro e w2 ⟨rfl, hb2⟩
              have HB3 := Lib.hid (HWB.out _ _ hb2)
              clear hb2
              go_wp2
              go_ret
              exact ⟨by rw [HRE.out]; rfl, HB0.out.trans (HB3.out.2.mono HB0.out.size)⟩
            · have hz' : opErrI S o = 0 := by simpa using hz
              rw [hz', errV_zero] at HCO
              have HNX : Hid (∀ t, t < j + 1 → opErrI S (S.o i t) = 0) := Lib.hid (upto_succ HALL2.out (by rw [HOO.out]; exact hz'))
              clear hz hz'
              go_wp2_with fail
              refine (HCO.out _).mono ?_
              rintro e w2 ⟨rfl, hb2⟩
              have HB3 := Lib.hid (HWB.out _ _ hb2)
              clear hb2
              go_wp2
              go_roundw
              case rel => exact ⟨j + 1, by go_num, by omega, HNX.out, HB3.out.1, HB3.out.1.size⟩
              case measure => go_light; simp [intOf] <;> omega
          · obtain rfl : j = ki := by omega
            have HTX : Hid (txErr S i = 0) := Lib.hid (by rw [HT.out]; exact firstErr_none HALL2.out)
            go_wp2
            go_roundw
            case rel => exact ⟨i + 1, by go_num, by omega, upto_succ HALL.out HTX.out, HB2'.out⟩
            case measure => go_light; simp [intOf] <;> omega
    · obtain rfl : i = S.n := by omega
      have s1 := (HB.out.cell (p := ⟨gs, 1, none⟩) HX2.out.2.2).trans HX2.out.2.1
      have HTX0 : Hid (firstErr (txErr S) S.n = 0) := Lib.hid (firstErr_none HALL.out)
      have HE2 : Hid (storyErr S = firstErr (ordErr S) 8) := Lib.hid (by rw [HE.out, HTX0.out, if_neg (by simp)])
      clear HALL HE HTX0
      go_wp2_with fail
      go_loopw [52] (fun x wr => ∃ q : Nat, x = .int .i64 q ∧ q ≤ S.m ∧ (∀ t, t < q → ordErr S t = 0) ∧ Below W0.heap.size W0 wr) (fun x _ => S.m - (intOf x).toNat)
      case atStart => exact ⟨0, rfl, by omega, fun t ht => absurd ht (by omega), HB.out⟩
      case round =>
        clear HB s1
        obtain ⟨wk, rfl⟩ : ∃ wk : World, wk = wr := ⟨_, rfl⟩
        obtain ⟨q, rfl, hq, hall, hbw⟩ := hrel
        have HALL := Lib.hid hall
        have HB := Lib.hid hbw
        clear hall hbw
        by_cases hqm : q < S.m
        · have t0 := (HB.out.cell (p := ⟨gs, 0, none⟩) HX2.out.2.2).trans HX2.out.1
          have t1 := (HB.out.cell (p := ⟨gs, 1, none⟩) HX2.out.2.2).trans HX2.out.2.1
          have HCO := Lib.hid (icheckOrder_any A V c cv S q wk (HSW.out.below HB.out) hqm)
          cases hz : (ordErr S q == 0)
          · have hz' : ordErr S q ≠ 0 := by simpa using hz
            have HRE : Hid (errV (storyErr S) = .iface 23 (.int .i64 (ordErr S q))) := Lib.hid (by rw [HE2.out, firstErr_ret HALL.out (by have := HM.out; omega) rfl hz', errV_ne _ hz'])
            rw [errV_ne _ hz'] at HCO
            clear hz hz'
            go_wp2_with fail
            refine HCO.out.mono ?_
            rintro e w2 ⟨rfl, hb2⟩
            have HB3 : Hid (Below W0.heap.size W0 w2) := Lib.hid (HB.out.trans (hb2.mono HB.out.size))
            clear hb2
            go_wp2
            go_ret
            exact ⟨by rw [HRE.out]; rfl, HB0.out.trans (HB3.out.mono HB0.out.size)⟩
          · have hz' : ordErr S q = 0 := by simpa using hz
            have HNX : Hid (∀ t, t < q + 1 → ordErr S t = 0) := Lib.hid (upto_succ HALL.out hz')
            rw [hz', errV_zero] at HCO
            clear hz hz'
            go_wp2_with fail
            refine HCO.out.mono ?_
            rintro e w2 ⟨rfl, hb2⟩
            have HB3 : Hid (Below W0.heap.size W0 w2) := Lib.hid (HB.out.trans (hb2.mono HB.out.size))
            clear hb2
            go_wp2
            go_roundw
            case rel => exact ⟨q + 1, by go_num, by omega, HNX.out, HB3.out⟩
            case measure => go_light; simp [intOf] <;> omega
        · obtain rfl : q = S.m := by omega
          go_wp2
          go_ret
          exact ⟨by rw [HE2.out, firstErr_none (by have := HM.out; rw [this] at HALL; exact HALL.out)]; rfl, HB0.out.trans (HB.out.mono HB0.out.size)⟩
end Go.Proofs.YtkncomfbedbikaaDoor
