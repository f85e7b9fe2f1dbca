/- testimonyref.SessionCheck: which error ops and rows have. -/
import Derived.Test.YtkncomfbedbikaaDoorSessC
namespace Go.Proofs.YtkncomfbedbikaaDoor
open Go.RowKit
set_option maxRecDepth 100000 in
set_option maxHeartbeats 4000000 in
theorem rSessionCheck_any (A : Option Addr) (n c : Nat) (F : Nat → GOp) (V : Option Addr) (m cv : Nat) (L : Nat → Nat) (X : Nat → Nat → Int) (w : World) (hn : n ≤ 60) (hcap : n ≤ c) (hA : OpsAt w A n F) (hV : RowsAt w V m L X) :
    Calls Tryd.prog 14 #[.slice A n c, .slice V m cv] w fun e w' => e = .returned (.int .i64 (sessErr (causalErrE F n) F n m L X)) ∧ Below w.heap.size w w' := by
  have HA := Lib.hid hA
  have HV := Lib.hid hV
  have HCK := Lib.hid (rCausalCheck_any A n c F w hn hcap hA)
  have HKR := Lib.hid (fun (h : causalErrE F n = 0) i (hi : i < n) => key_range h hi)
  rw [← causalErr_eq] at HCK
  clear hA hV
  cases hz : causalErrE F n == 0
  · have HZ : Hid (causalErrE F n ≠ 0) := Lib.hid (by simpa using hz)
    have HS : Hid (sessErr (causalErrE F n) F n m L X = causalErrE F n) := Lib.hid (by unfold sessErr; rw [if_pos HZ.out])
    rw [HS.out]
    clear HS HKR
    have hne : (causalErrE F n != 0) = true := by simpa using hz
    generalize causalErrE F n = ce at *
    clear HZ
    go_enter Tryd.func14, Tryd.ntmps14
    go_wp2_with (go_at_call 10; refine HCK.out.mono ?_; rintro e w' ⟨rfl, hb'⟩)
    go_ret
    exact ⟨rfl, hb'⟩
  · have hz' : causalErrE F n = 0 := by simpa using hz
    have HKR' := Lib.hid (HKR.out hz')
    rw [hz'] at HCK ⊢
    clear hz hz' HKR
    by_cases hm : m = 8
    · have HM := Lib.hid hm
      have hm8 : ((m : Int) != 8) = false := by rw [hm]; rfl
      have HS : Hid (sessErr 0 F n m L X = if firstErr (sessOp F L X) n ≠ 0 then firstErr (sessOp F L X) n else if anyB (fun k => decide (L k ≠ (written F k n).length)) 8 = true then 3 else 0) := Lib.hid (by unfold sessErr; rw [if_neg (by simp), if_neg (by simp [hm])])
      clear hm
      go_enter Tryd.func14, Tryd.ntmps14
      go_wp2_with (go_at_call 10; refine HCK.out.mono ?_; rintro e w' ⟨rfl, hb'⟩; have HB' := Lib.hid hb'; clear hb')
      obtain ⟨gm, hgm⟩ : ∃ gm, gm = w'.heap.size := ⟨_, rfl⟩
      rw [← hgm]
      have HG : Hid (w.heap.size ≤ gm ∧ (w'.alloc (.cells #[.int .i64 0, .int .i64 0, .int .i64 0, .int .i64 0, .int .i64 0, .int .i64 0, .int .i64 0, .int .i64 0] 103)).rowIs gm 103 8 (fun i => .int .i64 ((written F i 0).length : Nat)) ∧
          Below w.heap.size w (w'.alloc (.cells #[.int .i64 0, .int .i64 0, .int .i64 0, .int .i64 0, .int .i64 0, .int .i64 0, .int .i64 0, .int .i64 0] 103))) :=
        Lib.hid ⟨by rw [hgm]; exact HB'.out.size, by rw [hgm]; exact World.rowIs_alloc w' #[.int .i64 0, .int .i64 0, .int .i64 0, .int .i64 0, .int .i64 0, .int .i64 0, .int .i64 0, .int .i64 0] 103 _ (fun i hi => by
          match i, hi with
          | 0, _ => rfl
          | 1, _ => rfl
          | 2, _ => rfl
          | 3, _ => rfl
          | 4, _ => rfl
          | 5, _ => rfl
          | 6, _ => rfl
          | 7, _ => rfl), HB'.out.alloc HB'.out.size _⟩
      clear hgm
      go_loopw [20] (fun x wr => ∃ j : Nat, x = .int .i64 j ∧ j ≤ n ∧ (∀ t, t < j → sessOp F L X t = 0) ∧ Below w.heap.size w wr ∧ wr.rowIs gm 103 8 (fun i => .int .i64 ((written F i j).length : Nat))) (fun x _ => n - (intOf x).toNat)
      case atStart => exact ⟨0, rfl, by omega, fun t ht => absurd ht (by omega), HG.out.2.2, HG.out.2.1⟩
      case round =>
        obtain ⟨j, rfl, hj, hall, hbw, hrow⟩ := hrel
        have HALL := Lib.hid hall
        have HB := Lib.hid hbw
        have HR := Lib.hid hrow
        clear hall hbw hrow
        by_cases hlt : j < n
        · have hkr := HKR'.out j hlt
          obtain ⟨b, off, rfl, hb, hc⟩ := (HA.out.below HB.out) j hlt
          obtain ⟨g0, g1, g2, g3, g4, g5, g6, g7⟩ := hc
          obtain ⟨o, ho⟩ : ∃ o, F j = o := ⟨_, rfl⟩
          rw [ho] at g0 g1 g2 g3 g4 g5 g6 g7 hkr
          obtain ⟨kn, hk⟩ : ∃ kn : Nat, o.key = (kn : Int) := ⟨o.key.toNat, by omega⟩
          have hk8 : kn < 8 := by omega
          have hkm : kn < m := by have := HM.out; omega
          obtain ⟨vb, vo, rfl, hvb, hL, A2, c2, hvc, hI⟩ := HV.out kn hkm
          obtain ⟨ix, hix⟩ : ∃ ix, idxF (X kn) (L kn) (valueO o) = ix := ⟨_, rfl⟩
          obtain ⟨tb, htb⟩ : ∃ tb, decide (0 ≤ ix) = tb := ⟨_, rfl⟩
          have hneg : decide (ix < 0) = !tb := by
            rw [← htb]
            by_cases e : 0 ≤ ix
            · simp [e]
            · simp [e]; omega
          have HSV := Lib.hid (sessOp_val (F := F) (L := L) (X := X) (tb := tb) ho hk (by rw [hix]; exact htb))
          have HIA : Hid ((o.kind == 2) = true → ∀ W, Below w.heap.size w W → Calls Tryd.prog 46 #[.slice A2 (L kn) c2, .int .i64 o.a] W fun e w' => e = .returned (.int .i64 ix) ∧ Below W.heap.size W w') := Lib.hid (fun h W hb => by
            have := rindex_below A2 (L kn) c2 (X kn) o.a W hL (hI.below hb)
            rw [show o.a = valueO o by unfold valueO; rw [if_pos (by simpa using h)]] at this ⊢
            rwa [hix] at this)
          have HIR : Hid ((o.kind == 2) = false → ∀ W, Below w.heap.size w W → Calls Tryd.prog 46 #[.slice A2 (L kn) c2, .int .i64 o.result] W fun e w' => e = .returned (.int .i64 ix) ∧ Below W.heap.size W w') := Lib.hid (fun h W hb => by
            have := rindex_below A2 (L kn) c2 (X kn) o.result W hL (hI.below hb)
            rw [show o.result = valueO o by unfold valueO; rw [if_neg (by simpa using h)]] at this ⊢
            rwa [hix] at this)
          have HVC := Lib.hid hvc
          have HF := Lib.hid ho
          have HK := Lib.hid hk
          have HW : Hid (Below w.heap.size w (wr.alloc (opCells o))) := Lib.hid (HB.out.alloc HB.out.size _)
          have HXB : Hid (BoxAt (wr.alloc (opCells o)) wr.heap.size o) := Lib.hid (boxAt_new rfl o 95)
          have HRW := Lib.hid (HR.out.alloc (opCells o))
          have hbl : wr.heap.size < (wr.alloc (opCells o)).heap.size := by simp
          have hwl : (written F kn j).length ≤ 60 := by have := written_le F kn j; omega
          have HRET : Hid (∀ e, sessOp F L X j = e → e ≠ 0 → sessErr 0 F n m L X = e) := Lib.hid (fun e h1 h2 => by
            have h3 := firstErr_found HALL.out (by rw [h1]; exact h2) hlt
            rw [HS.out, h3, h1, if_pos h2])
          clear ho hk htb hvc hI hL hkr hix
          obtain ⟨W, hWW⟩ : ∃ W, W = wr.alloc (opCells o) := ⟨_, rfl⟩
          rw [← hWW] at HW HXB HRW hbl
          have HWW := Lib.hid hWW
          clear hWW
          obtain ⟨k0, k1, k2, k3, k4, k5, k6, k7⟩ := HXB.out.regrown
          rw [HK.out] at k1
          have kc := cell_regrown ((HW.out.cell (p := ⟨vb, vo + kn, none⟩) hvb).trans HVC.out)
          have HNW : Hid ((o.kind == 2) = false → ∀ i, (written F i (j + 1)).length = (written F i j).length) := Lib.hid (fun h i => by rw [written_other (by rw [HF.out]; simpa using h)])
          have HWR : Hid ((o.kind == 2) = true → ∀ i, (written F i (j + 1)).length = if i = kn then (written F kn j).length + 1 else (written F i j).length) := Lib.hid (fun h i => written_write (by rw [HF.out]; simpa using h) (by rw [HF.out]; exact HK.out) i)
          have HGEN : Hid (∀ P : World → Prop, P (wr.alloc (opCells o)) ↔ P W) := Lib.hid (fun P => by rw [← HWW.out])
          rcases sess_tree o tb with ⟨d1, d2⟩ | ⟨d1, d2⟩ | ⟨d1, d2, d3⟩ | ⟨d1, d2, d3⟩ | ⟨d1, d2⟩
          · have HE := Lib.hid (HSV.out.1 d1 d2)
            subst d2
            rw [Bool.not_false] at hneg
            have cI := fun d os => Calls.regrown_of (d := d) (os := os) (HIA.out d1 (Go.Sort.grow (redrawn W d) os) (HW.out.trans ((below_regrown W d os).mono HW.out.size)))
            go_wp2_with fail
            rw [← HWW.out]
            refine wp_region_quiet_below (by kernel_rfl) (by kernel_rfl) ?_
            repeat (go_big_quiet_step (exact cI _ _))
            refine wpQuiet_nil ?_
            rintro wq ⟨pq, hpq⟩
            have HBQ : Hid (Below W.heap.size W wq) := Lib.hid (hpq ▸ below_regrown W pq.d pq.os)
            clear hpq
            clear k0 k1 k2 k3 k4 k5 k6 k7 kc g0 g1 g2 g3 g4 g5 g6 g7
            have HB2 : Hid (Below w.heap.size w wq) := Lib.hid (HW.out.trans (HBQ.out.mono HW.out.size))
            obtain ⟨x0, x1, x2, x3, x4, x5, x6, x7⟩ := HXB.out.below HBQ.out hbl
            rw [HK.out] at x1
            have HR2 := Lib.hid (rowIs_below HRW.out HBQ.out)
            have y1 := HR2.out.cell hk8
            have y2 := HR2.out.frozen kn
            go_wp2
            go_ret
            exact ⟨by rw [HRET.out 7 HE.out (by omega)]; rfl, HB2.out⟩
          · have HE := Lib.hid (HSV.out.2.1 d1 d2)
            have HN := Lib.hid (HWR.out d1)
            subst d2
            rw [Bool.not_true] at hneg
            have cI := fun d os => Calls.regrown_of (d := d) (os := os) (HIA.out d1 (Go.Sort.grow (redrawn W d) os) (HW.out.trans ((below_regrown W d os).mono HW.out.size)))
            go_wp2_with fail
            rw [← HWW.out]
            refine wp_region_quiet_below (by kernel_rfl) (by kernel_rfl) ?_
            repeat (go_big_quiet_step (exact cI _ _))
            refine wpQuiet_nil ?_
            rintro wq ⟨pq, hpq⟩
            have HBQ : Hid (Below W.heap.size W wq) := Lib.hid (hpq ▸ below_regrown W pq.d pq.os)
            clear hpq
            clear k0 k1 k2 k3 k4 k5 k6 k7 kc g0 g1 g2 g3 g4 g5 g6 g7
            have HB2 : Hid (Below w.heap.size w wq) := Lib.hid (HW.out.trans (HBQ.out.mono HW.out.size))
            obtain ⟨x0, x1, x2, x3, x4, x5, x6, x7⟩ := HXB.out.below HBQ.out hbl
            rw [HK.out] at x1
            have HR2 := Lib.hid (rowIs_below HRW.out HBQ.out)
            have y1 := HR2.out.cell hk8
            have y2 := HR2.out.frozen kn
            go_wp2
            go_roundw
            case rel => exact ⟨j + 1, by go_num, by omega, upto_succ HALL.out HE.out, HB2.out.setCell HG.out.1 _, (HR2.out.set kn _).congr fun i _ => by
              rw [HN.out i]
              by_cases e : i = kn
              · rw [if_pos e, if_pos e]; rfl
              · rw [if_neg e, if_neg e]⟩
            case measure => go_light; simp [intOf]; omega
          · have HE := Lib.hid (HSV.out.2.2.1 d1 d2 d3)
            subst d3
            rw [Bool.not_false] at hneg
            have cI := fun d os => Calls.regrown_of (d := d) (os := os) (HIR.out d1 (Go.Sort.grow (redrawn W d) os) (HW.out.trans ((below_regrown W d os).mono HW.out.size)))
            go_wp2_with fail
            rw [← HWW.out]
            refine wp_region_quiet_below (by kernel_rfl) (by kernel_rfl) ?_
            repeat (go_big_quiet_step (exact cI _ _))
            refine wpQuiet_nil ?_
            rintro wq ⟨pq, hpq⟩
            have HBQ : Hid (Below W.heap.size W wq) := Lib.hid (hpq ▸ below_regrown W pq.d pq.os)
            clear hpq
            clear k0 k1 k2 k3 k4 k5 k6 k7 kc g0 g1 g2 g3 g4 g5 g6 g7
            have HB2 : Hid (Below w.heap.size w wq) := Lib.hid (HW.out.trans (HBQ.out.mono HW.out.size))
            obtain ⟨x0, x1, x2, x3, x4, x5, x6, x7⟩ := HXB.out.below HBQ.out hbl
            rw [HK.out] at x1
            have HR2 := Lib.hid (rowIs_below HRW.out HBQ.out)
            have y1 := HR2.out.cell hk8
            have y2 := HR2.out.frozen kn
            go_wp2
            go_ret
            exact ⟨by rw [HRET.out 8 HE.out (by omega)]; rfl, HB2.out⟩
          · have HE := Lib.hid (HSV.out.2.2.2.1 d1 d2 d3)
            have HN := Lib.hid (HNW.out d1)
            subst d3
            rw [Bool.not_true] at hneg
            have cI := fun d os => Calls.regrown_of (d := d) (os := os) (HIR.out d1 (Go.Sort.grow (redrawn W d) os) (HW.out.trans ((below_regrown W d os).mono HW.out.size)))
            go_wp2_with fail
            rw [← HWW.out]
            refine wp_region_quiet_below (by kernel_rfl) (by kernel_rfl) ?_
            repeat (go_big_quiet_step (exact cI _ _))
            refine wpQuiet_nil ?_
            rintro wq ⟨pq, hpq⟩
            have HBQ : Hid (Below W.heap.size W wq) := Lib.hid (hpq ▸ below_regrown W pq.d pq.os)
            clear hpq
            clear k0 k1 k2 k3 k4 k5 k6 k7 kc g0 g1 g2 g3 g4 g5 g6 g7
            have HB2 : Hid (Below w.heap.size w wq) := Lib.hid (HW.out.trans (HBQ.out.mono HW.out.size))
            obtain ⟨x0, x1, x2, x3, x4, x5, x6, x7⟩ := HXB.out.below HBQ.out hbl
            rw [HK.out] at x1
            have HR2 := Lib.hid (rowIs_below HRW.out HBQ.out)
            have y1 := HR2.out.cell hk8
            have y2 := HR2.out.frozen kn
            go_wp2
            go_roundw
            case rel => exact ⟨j + 1, by go_num, by omega, upto_succ HALL.out HE.out, HB2.out, HR2.out.congr fun i _ => by rw [HN.out i]⟩
            case measure => go_light; simp [intOf]; omega
          · have HE := Lib.hid (HSV.out.2.2.2.2 d1 d2)
            have HN := Lib.hid (HNW.out d1)
            go_wp2_with fail
            rw [← HWW.out]
            refine wp_region_quiet_below (by kernel_rfl) (by kernel_rfl) ?_
            repeat (go_big_quiet_step (fail))
            refine wpQuiet_nil ?_
            rintro wq ⟨pq, hpq⟩
            have HBQ : Hid (Below W.heap.size W wq) := Lib.hid (hpq ▸ below_regrown W pq.d pq.os)
            clear hpq
            clear k0 k1 k2 k3 k4 k5 k6 k7 kc g0 g1 g2 g3 g4 g5 g6 g7
            have HB2 : Hid (Below w.heap.size w wq) := Lib.hid (HW.out.trans (HBQ.out.mono HW.out.size))
            obtain ⟨x0, x1, x2, x3, x4, x5, x6, x7⟩ := HXB.out.below HBQ.out hbl
            rw [HK.out] at x1
            have HR2 := Lib.hid (rowIs_below HRW.out HBQ.out)
            have y1 := HR2.out.cell hk8
            have y2 := HR2.out.frozen kn
            go_wp2
            go_roundw
            case rel => exact ⟨j + 1, by go_num, by omega, upto_succ HALL.out HE.out, HB2.out, HR2.out.congr fun i _ => by rw [HN.out i]⟩
            case measure => go_light; simp [intOf]; omega
        · obtain rfl : j = n := by omega
          obtain ⟨cnt, hcnt⟩ : ∃ cnt : Nat → Nat, ∀ i, (written F i j).length = cnt i := ⟨_, fun _ => rfl⟩
          have HC := Lib.hid hcnt
          have HRC := Lib.hid (HR.out.congr (g := fun i => .int .i64 (cnt i : Nat)) fun i _ => by rw [hcnt i])
          have HF0 : Hid (firstErr (sessOp F L X) j = 0) := Lib.hid (firstErr_none HALL.out)
          clear hcnt
          go_wp2_with fail
          go_loopw [59] (fun x wx => ∃ k : Nat, x = .int .i64 k ∧ k ≤ 8 ∧ (∀ t, t < k → L t = cnt t) ∧ Below w.heap.size w wx ∧ wx.rowIs gm 103 8 (fun i => .int .i64 (cnt i : Nat))) (fun x _ => 8 - (intOf x).toNat)
          case atStart => exact ⟨0, rfl, by omega, fun t ht => absurd ht (by omega), HB.out, HRC.out⟩
          case round =>
            rename_i wx
            obtain ⟨k, rfl, hk, hall, hbw, hrow⟩ := hrel
            have HALL2 := Lib.hid hall
            have HB2 := Lib.hid hbw
            have HR2 := Lib.hid hrow
            clear hall hbw hrow
            have hm8' : m = 8 := HM.out
            by_cases hk8 : k < 8
            · have hkm : k < m := by omega
              have hc := HR2.out.cell hk8
              obtain ⟨vb, vo, rfl, hvb, hL, A2, c2, hvc, hI⟩ := (HV.out.below HB2.out) k hkm
              clear hL hI hm8'
              cases hd : ((L k : Int) != (cnt k : Int))
              · have HD : Hid (L k = cnt k) := Lib.hid (by have : (L k : Int) = cnt k := by simpa using hd
                                                           omega)
                go_wp2_with fail
                go_quiet (fail)
                go_wp2
                go_roundw
                case rel => exact ⟨k + 1, by go_num, by omega, upto_succ HALL2.out HD.out, below_drewN HB2.out _, HR2.out⟩
                case measure => go_light; simp [intOf]; omega
              · have HD : Hid (L k ≠ cnt k) := Lib.hid (by have : ¬ (L k : Int) = cnt k := by simpa using hd
                                                           omega)
                go_wp2_with fail
                go_quiet (fail)
                go_wp2
                go_ret
                exact ⟨by rw [HS.out, HF0.out, if_neg (by simp), if_pos (anyB_true hk8 (by rw [HC.out k]; simpa using HD.out))]; rfl, below_drewN HB2.out _⟩
            · obtain rfl : k = 8 := by omega
              clear hm8'
              have hm8'' : decide ((8 : Int) < (m : Int)) = false := by have := HM.out; simp; omega
              go_wp2
              go_ret
              exact ⟨by rw [HS.out, HF0.out, if_neg (by simp), if_neg (by rw [anyB_false fun t ht => by rw [HC.out t]; simpa using HALL2.out t ht]; simp)]; rfl, HB2.out⟩
    · have HM := Lib.hid hm
      have hm8 : ((m : Int) != 8) = true := by simpa using (show ¬ (m : Int) = 8 by omega)
      have HS : Hid (sessErr 0 F n m L X = 3) := Lib.hid (by unfold sessErr; rw [if_neg (by simp), if_pos hm])
      clear hm HKR'
      go_enter Tryd.func14, Tryd.ntmps14
      go_wp2_with (go_at_call 10; refine HCK.out.mono ?_; rintro e w' ⟨rfl, hb'⟩; have HB' := Lib.hid hb'; clear hb')
      go_ret
      exact ⟨by rw [HS.out]; rfl, HB'.out⟩
end Go.Proofs.YtkncomfbedbikaaDoor
