/- session.Check: which error ops and rows have. -/
import Derived.Test.YtkncomfbedbikaaDoorSessB
import Derived.Test.YtkncomfbedbikaaDoorSessP
import Derived.Test.YtkncomfbedbikaaDoorMat
import Derived.Laws.Rows
namespace Go.Proofs.YtkncomfbedbikaaDoor
open Go.RowKit
theorem arr8_info : (Tryd.prog.info? 103).map (·.size) = some 8 := by kernel_rfl
theorem row8 {w : World} {b : Nat} {t : TypeId} {f : Nat → Value} (h : w.rowIs b t 8 f) : w.heap[b]? = some (.cells #[f 0, f 1, f 2, f 3, f 4, f 5, f 6, f 7] t (0, 0)) := by
  obtain ⟨c, h1, h2, h3⟩ := h
  rw [h1]
  congr 2
  apply Array.ext_getElem?
  intro i
  by_cases hi : i < 8
  · rw [h3 i hi]
    match i, hi with
    | 0, _ => rfl
    | 1, _ => rfl
    | 2, _ => rfl
    | 3, _ => rfl
    | 4, _ => rfl
    | 5, _ => rfl
    | 6, _ => rfl
    | 7, _ => rfl
  · rw [Array.getElem?_eq_none (by omega), Array.getElem?_eq_none (by simp; omega)]
theorem index8 (f : Nat → Nat) (k : Nat) (hk : k < 8) (W : World) :
    (Instr.index 103 (.agg #[.int .i64 (f 0 : Nat), .int .i64 (f 1 : Nat), .int .i64 (f 2 : Nat), .int .i64 (f 3 : Nat), .int .i64 (f 4 : Nat), .int .i64 (f 5 : Nat), .int .i64 (f 6 : Nat), .int .i64 (f 7 : Nat)]) (.int .i64 (k : Int))).run Tryd.prog W = .ok (.int .i64 (f k : Nat)) W := by
  obtain rfl | rfl | rfl | rfl | rfl | rfl | rfl | rfl : k = 0 ∨ k = 1 ∨ k = 2 ∨ k = 3 ∨ k = 4 ∨ k = 5 ∨ k = 6 ∨ k = 7 := by omega
  all_goals kernel_rfl
theorem sess_tree (o : GOp) (tb : Bool) :
    ((o.kind == 2) = true ∧ tb = false) ∨ ((o.kind == 2) = true ∧ tb = true) ∨ ((o.kind == 2) = false ∧ (o.result != 0) = true ∧ tb = false) ∨ ((o.kind == 2) = false ∧ (o.result != 0) = true ∧ tb = true) ∨ ((o.kind == 2) = false ∧ (o.result != 0) = false) := by
  cases (o.kind == 2) <;> cases (o.result != 0) <;> cases tb <;> simp
theorem written_le (F : Nat → GOp) (k : Nat) : ∀ n, (written F k n).length ≤ n
  | 0 => Nat.le_refl _
  | n + 1 => by
    have := written_le F k n
    unfold written
    split
    · simp; omega
    · omega
theorem written_write {F : Nat → GOp} {j kn : Nat} (h : (F j).kind = 2) (hk : (F j).key = (kn : Int)) (i : Nat) : (written F i (j + 1)).length = if i = kn then (written F kn j).length + 1 else (written F i j).length := by
  rw [show written F i (j + 1) = if (F j).kind = 2 ∧ (F j).key = (i : Int) then (F j).a :: written F i j else written F i j from rfl]
  by_cases e : i = kn
  · subst e; rw [if_pos ⟨h, hk⟩, if_pos rfl]; rfl
  · rw [if_neg (fun h' => e (by have := h'.2; omega)), if_neg e]
theorem written_other {F : Nat → GOp} {j : Nat} (h : (F j).kind ≠ 2) (i : Nat) : written F i (j + 1) = written F i j := by
  rw [show written F i (j + 1) = if (F j).kind = 2 ∧ (F j).key = (i : Int) then (F j).a :: written F i j else written F i j from rfl, if_neg (fun h' => h h'.1)]
theorem key_range {F : Nat → GOp} {n : Nat} (h : causalErrE F n = 0) {i : Nat} (hi : i < n) : 0 ≤ (F i).key ∧ (F i).key ≤ 7 := by
  have h2 : opsErrE F n = 0 := by
    unfold causalErrE at h
    split at h
    · rename_i h1; exact absurd h h1
    · rename_i h1; simpa using h1
  unfold opsErrE at h2
  split at h2
  · omega
  · have h3 := firstErr_zero h2 i hi
    unfold opErrE at h3
    split at h3
    · omega
    · rename_i ht
      have ht' : toldB (F i).proc (F i).key (opNums (F i)) 5 = true := by simpa using ht
      unfold toldB inB at ht'
      simp at ht'
      omega
theorem sessOp_val {F : Nat → GOp} {L : Nat → Nat} {X : Nat → Nat → Int} {j kn : Nat} {o : GOp} (ho : F j = o) (hk : o.key = (kn : Int)) {tb : Bool} (ht : decide (0 ≤ idxF (X kn) (L kn) (valueO o)) = tb) :
    ((o.kind == 2) = true → tb = false → sessOp F L X j = 7) ∧ ((o.kind == 2) = true → tb = true → sessOp F L X j = 0) ∧ ((o.kind == 2) = false → (o.result != 0) = true → tb = false → sessOp F L X j = 8) ∧
    ((o.kind == 2) = false → (o.result != 0) = true → tb = true → sessOp F L X j = 0) ∧ ((o.kind == 2) = false → (o.result != 0) = false → sessOp F L X j = 0) := by
  subst ht ho
  unfold sessOp valueO
  rw [hk]
  by_cases h2 : (F j).kind = 2
  · simp [h2]
  · simp [h2]
    refine ⟨fun h h1 => ⟨h, by omega⟩, fun h h1 _ => by omega, fun h1 h2 => absurd h1 h2⟩
set_option maxRecDepth 100000 in
set_option maxHeartbeats 4000000 in
theorem sCheck_any (A : Option Addr) (n c : Nat) (F : Nat → GOp) (V : Option Addr) (m cv : Nat) (L : Nat → Nat) (X : Nat → Nat → Int) (w : World) (hn : n ≤ 60) (hcap : n ≤ c) (hA : OpsAt w A n F) (hV : RowsAt w V m L X) :
    Calls Tryd.prog 17 #[.slice A n c, .slice V m cv] w fun e w' => e = .returned (errV (sessErr (causalErrE F n) F n m L X)) ∧ Below w.heap.size w w' := by
  have HA := Lib.hid hA
  have HV := Lib.hid hV
  have HCK := Lib.hid (cCheck_any A n c F w hn hcap hA)
  have HKR := Lib.hid (fun (h : causalErrE F n = 0) i (hi : i < n) => key_range h hi)
  clear hA hV
  cases hz : causalErrE F n == 0
  · have HZ : Hid (causalErrE F n ≠ 0) := Lib.hid (by simpa using hz)
    have HS : Hid (sessErr (causalErrE F n) F n m L X = causalErrE F n) := Lib.hid (by unfold sessErr; rw [if_pos HZ.out])
    rw [HS.out]
    clear HS
    rw [errV_ne _ HZ.out] at HCK ⊢
    clear hz HKR
    go_enter Tryd.func17, Tryd.ntmps17
    go_wp2_with (go_at_call 42; refine HCK.out.mono ?_; rintro e w' ⟨rfl, hb'⟩)
    go_ret
    exact ⟨rfl, hb'⟩
  · have hz' : causalErrE F n = 0 := by simpa using hz
    have HKR' := Lib.hid (HKR.out hz')
    rw [hz'] at HCK ⊢
    rw [show errV 0 = .nilIface from rfl] at HCK
    clear hz hz' HKR
    by_cases hm : m = 8
    · have HM := Lib.hid hm
      have hm8 : ((m : Int) != 8) = false := by rw [hm]; rfl
      have HS : Hid (sessErr 0 F n m L X = if firstErr (sessOp F L X) n ≠ 0 then firstErr (sessOp F L X) n else if anyB (fun k => decide (L k ≠ (written F k n).length)) 8 = true then 3 else 0) := Lib.hid (by unfold sessErr; rw [if_neg (by simp), if_neg (by simp [hm])])
      clear hm
      go_enter Tryd.func17, Tryd.ntmps17
      go_wp2_with (go_at_call 42; refine HCK.out.mono ?_; rintro e w' ⟨rfl, hb'⟩; have HB' := Lib.hid hb'; clear hb')
      obtain ⟨gm, hgm⟩ : ∃ gm, gm = w'.heap.size := ⟨_, rfl⟩
      rw [← hgm]
      have HG : Hid (w.heap.size ≤ gm ∧ (w'.alloc (.cells #[.int .i64 0, .int .i64 0, .int .i64 0, .int .i64 0, .int .i64 0, .int .i64 0, .int .i64 0, .int .i64 0] 103)).rowIs gm 103 8 (fun i => .int .i64 ((written F i 0).length : Nat)) ∧
          Below w.heap.size w (w'.alloc (.cells #[.int .i64 0, .int .i64 0, .int .i64 0, .int .i64 0, .int .i64 0, .int .i64 0, .int .i64 0, .int .i64 0] 103))) :=
        Lib.hid ⟨by rw [hgm]; exact HB'.out.size, by rw [hgm]; exact World.rowIs_alloc w' #[.int .i64 0, .int .i64 0, .int .i64 0, .int .i64 0, .int .i64 0, .int .i64 0, .int .i64 0, .int .i64 0] 103 _ (fun i hi => by
          match i, hi with
          | 0, _ => rfl
          | 1, _ => rfl
          | 2, _ => rfl
          | 3, _ => rfl
          | 4, _ => rfl
          | 5, _ => rfl
          | 6, _ => rfl
          | 7, _ => rfl), HB'.out.alloc HB'.out.size _⟩
      clear hgm
      go_loopw [24] (fun x wr => ∃ j : Nat, x = .int .i64 j ∧ j ≤ n ∧ (∀ t, t < j → sessOp F L X t = 0) ∧ Below w.heap.size w wr ∧ wr.rowIs gm 103 8 (fun i => .int .i64 ((written F i j).length : Nat))) (fun x _ => n - (intOf x).toNat)
      case atStart => exact ⟨0, rfl, by omega, fun t ht => absurd ht (by omega), HG.out.2.2, HG.out.2.1⟩
      case round =>
        obtain ⟨j, rfl, hj, hall, hbw, hrow⟩ := hrel
        have HALL := Lib.hid hall
        have HB := Lib.hid hbw
        have HR := Lib.hid hrow
        clear hall hbw hrow
        by_cases hlt : j < n
        · have hkr := HKR'.out j hlt
          obtain ⟨b, off, rfl, hb, hc⟩ := (HA.out.below HB.out) j hlt
          obtain ⟨g0, g1, g2, g3, g4, g5, g6, g7⟩ := hc
          obtain ⟨o, ho⟩ : ∃ o, F j = o := ⟨_, rfl⟩
          rw [ho] at g0 g1 g2 g3 g4 g5 g6 g7 hkr
          obtain ⟨kn, hk⟩ : ∃ kn : Nat, o.key = (kn : Int) := ⟨o.key.toNat, by omega⟩
          have hk8 : kn < 8 := by omega
          have hkm : kn < m := by have := HM.out; omega
          obtain ⟨vb, vo, rfl, hvb, hL, A2, c2, hvc, hI⟩ := HV.out kn hkm
          obtain ⟨tb, htb⟩ : ∃ tb, decide (0 ≤ idxF (X kn) (L kn) (valueO o)) = tb := ⟨_, rfl⟩
          have HSV := Lib.hid (sessOp_val ho hk htb)
          have HVK := Lib.hid (fun W => svalue_at o kn hk W)
          have HCT := Lib.hid (fun W (hb : Below w.heap.size w W) => Contains_below A2 (L kn) c2 (X kn) (valueO o) W hL (hI.below hb))
          rw [htb] at HCT
          have HVC := Lib.hid hvc
          have HF := Lib.hid ho
          have HK := Lib.hid hk
          have HW : Hid (Below w.heap.size w (wr.alloc (opCells o))) := Lib.hid (HB.out.alloc HB.out.size _)
          have HXB : Hid (BoxAt (wr.alloc (opCells o)) wr.heap.size o) := Lib.hid (boxAt_new rfl o 95)
          have HRW := Lib.hid (HR.out.alloc (opCells o))
          have hbl : wr.heap.size < (wr.alloc (opCells o)).heap.size := by simp
          have hwl : (written F kn j).length ≤ 60 := by have := written_le F kn j; omega
          have HRET : Hid (∀ e, sessOp F L X j = e → e ≠ 0 → errV (sessErr 0 F n m L X) = .iface 23 (.int .i64 e)) := Lib.hid (fun e h1 h2 => by
            have h3 := firstErr_found HALL.out (by rw [h1]; exact h2) hlt
            rw [HS.out, h3, h1, if_pos h2, errV_ne _ h2])
          clear ho hk htb hvc hI hL hkr
          go_wp2_with fail
          generalize wr.alloc (.cells #[.int .i64 o.proc, .int .i64 o.key, .int .i64 o.kind, .int .i64 o.a, .int .i64 o.b, .int .i64 o.result, .int .i64 o.call, .int .i64 o.ret] 95) = W at *
          obtain ⟨k0, k1, k2, k3, k4, k5, k6, k7⟩ := HXB.out.regrown
          rw [HK.out] at k1
          have kc := cell_regrown ((HW.out.cell (p := ⟨vb, vo + kn, none⟩) hvb).trans HVC.out)
          have cV := fun d os => Calls.regrown_of (d := d) (os := os) (HVK.out (Go.Sort.grow (redrawn W d) os))
          have cI := fun d os => Calls.regrown_of (d := d) (os := os) (HCT.out (Go.Sort.grow (redrawn W d) os) (HW.out.trans ((below_regrown W d os).mono HW.out.size)))
          refine wp_region_quiet_below (by kernel_rfl) (by kernel_rfl) ?_
          repeat (go_big_quiet_step (first | exact cV _ _ | exact cI _ _))
          refine wpQuiet_nil ?_
          rintro wq ⟨pq, hpq⟩
          have HBQ : Hid (Below W.heap.size W wq) := Lib.hid (hpq ▸ below_regrown W pq.d pq.os)
          clear hpq
          clear k0 k1 k2 k3 k4 k5 k6 k7 kc cV cI g0 g1 g2 g3 g4 g5 g6 g7
          have HB2 : Hid (Below w.heap.size w wq) := Lib.hid (HW.out.trans (HBQ.out.mono HW.out.size))
          obtain ⟨x0, x1, x2, x3, x4, x5, x6, x7⟩ := HXB.out.below HBQ.out hbl
          rw [HK.out] at x1
          have HR2 := Lib.hid (rowIs_below HRW.out HBQ.out)
          have y1 := HR2.out.cell hk8
          have y2 := HR2.out.frozen kn
          have HNW : Hid ((o.kind == 2) = false → ∀ i, (written F i (j + 1)).length = (written F i j).length) := Lib.hid (fun h i => by rw [written_other (by rw [HF.out]; simpa using h)])
          have HWR : Hid ((o.kind == 2) = true → ∀ i, (written F i (j + 1)).length = if i = kn then (written F kn j).length + 1 else (written F i j).length) := Lib.hid (fun h i => written_write (by rw [HF.out]; simpa using h) (by rw [HF.out]; exact HK.out) i)
          rcases sess_tree o tb with ⟨d1, d2⟩ | ⟨d1, d2⟩ | ⟨d1, d2, d3⟩ | ⟨d1, d2, d3⟩ | ⟨d1, d2⟩
          · have HE := Lib.hid (HSV.out.1 d1 d2)
            go_wp2
            go_ret
            exact ⟨by rw [HRET.out 7 HE.out (by omega)]; rfl, HB2.out⟩
          · have HE := Lib.hid (HSV.out.2.1 d1 d2)
            have HN := Lib.hid (HWR.out d1)
            go_wp2
            go_roundw
            case rel => exact ⟨j + 1, by go_num, by omega, upto_succ HALL.out HE.out, HB2.out.setCell HG.out.1 _, (HR2.out.set kn _).congr fun i _ => by
              rw [HN.out i]
              by_cases e : i = kn
              · rw [if_pos e, if_pos e]; rfl
              · rw [if_neg e, if_neg e]⟩
            case measure => go_light; simp [intOf]; omega
          · have HE := Lib.hid (HSV.out.2.2.1 d1 d2 d3)
            go_wp2
            go_ret
            exact ⟨by rw [HRET.out 8 HE.out (by omega)]; rfl, HB2.out⟩
          · have HE := Lib.hid (HSV.out.2.2.2.1 d1 d2 d3)
            have HN := Lib.hid (HNW.out d1)
            go_wp2
            go_roundw
            case rel => exact ⟨j + 1, by go_num, by omega, upto_succ HALL.out HE.out, HB2.out, HR2.out.congr fun i _ => by rw [HN.out i]⟩
            case measure => go_light; simp [intOf]; omega
          · have HE := Lib.hid (HSV.out.2.2.2.2 d1 d2)
            have HN := Lib.hid (HNW.out d1)
            cases tb
            all_goals
              go_wp2
              go_roundw
              case rel => exact ⟨j + 1, by go_num, by omega, upto_succ HALL.out HE.out, HB2.out, HR2.out.congr fun i _ => by rw [HN.out i]⟩
              case measure => go_light; simp [intOf]; omega
        · obtain rfl : j = n := by omega
          obtain ⟨cnt, hcnt⟩ : ∃ cnt : Nat → Nat, ∀ i, (written F i j).length = cnt i := ⟨_, fun _ => rfl⟩
          have HC := Lib.hid hcnt
          have HR8 := Lib.hid (row8 (HR.out.congr (g := fun i => .int .i64 (cnt i : Nat)) fun i _ => by rw [hcnt i]))
          have HIX := Lib.hid (fun k hk W => index8 cnt k hk W)
          have HF0 : Hid (firstErr (sessOp F L X) j = 0) := Lib.hid (firstErr_none HALL.out)
          clear hcnt
          go_wp2_with (refine wpList_load_row rfl 103 _ rfl gm rfl 103 _ (0, 0) _ HR8.out Tryd.underlying103 rfl (by kernel_rfl) ?_)
          go_loop [69] (fun x => ∃ k : Nat, x = .int .i64 k ∧ k ≤ 8 ∧ ∀ t, t < k → L t = cnt t) (fun x => 8 - (intOf x).toNat)
          case atStart => exact ⟨0, rfl, by omega, fun t ht => absurd ht (by omega)⟩
          case round =>
            obtain ⟨k, rfl, hk, hall⟩ := hrel
            have HALL2 := Lib.hid hall
            clear hall
            by_cases hk8 : k < 8
            · have hkm : k < m := by have := HM.out; omega
              have hix := HIX.out k hk8
              obtain ⟨vb, vo, rfl, hvb, hL, A2, c2, hvc, hI⟩ := (HV.out.below HB.out) k hkm
              clear hL hI
              cases hd : ((L k : Int) != (cnt k : Int))
              · have HD : Hid (L k = cnt k) := Lib.hid (by have : (L k : Int) = cnt k := by simpa using hd
                                                           omega)
                go_wp2
                go_round
                case rel => exact ⟨k + 1, by go_num, by omega, upto_succ HALL2.out HD.out⟩
                case measure => simp [intOf]; omega
              · have HD : Hid (L k ≠ cnt k) := Lib.hid (by have : ¬ (L k : Int) = cnt k := by simpa using hd
                                                           omega)
                go_wp2
                go_ret
                exact ⟨by rw [HS.out, HF0.out, if_neg (by simp), if_pos (anyB_true hk8 (by rw [HC.out k]; simpa using HD.out))]; rfl, HB.out⟩
            · obtain rfl : k = 8 := by omega
              go_wp2
              go_ret
              exact ⟨by rw [HS.out, HF0.out, if_neg (by simp), if_neg (by rw [anyB_false fun t ht => by rw [HC.out t]; simpa using HALL2.out t ht]; simp)]; rfl, HB.out⟩
    · have HM := Lib.hid hm
      have hm8 : ((m : Int) != 8) = true := by simpa using (show ¬ (m : Int) = 8 by omega)
      have HS : Hid (sessErr 0 F n m L X = 3) := Lib.hid (by unfold sessErr; rw [if_neg (by simp), if_pos hm])
      clear hm HKR'
      go_enter Tryd.func17, Tryd.ntmps17
      go_wp2_with (go_at_call 42; refine HCK.out.mono ?_; rintro e w' ⟨rfl, hb'⟩; have HB' := Lib.hid hb'; clear hb')
      go_ret
      exact ⟨by rw [HS.out]; rfl, HB'.out⟩
end Go.Proofs.YtkncomfbedbikaaDoor
