/- event.checkOp, event.CheckOps: which error a list of ops has. -/
import Derived.Test.YtkncomfbedbikaaDoorOpsA
import Derived.Deep.Light
import Derived.Deep.CutBlock
import Derived.Deep.DeepCutAuto
namespace Go.Proofs.YtkncomfbedbikaaDoor
open Go.RowKit
def opNums (o : GOp) : Nat → Int
  | 0 => o.a
  | 1 => o.b
  | 2 => o.result
  | 3 => o.call
  | _ => o.ret
def orderB (F : Nat → GOp) (i : Nat) : Bool :=
  decide ((F i).call < 0) || (decide (0 < i) && decide ((F i).call ≤ (F (i - 1)).call)) || (decide ((F i).ret ≠ -1) && decide ((F i).ret ≤ (F i).call)) || (decide ((F i).ret = -1) && decide ((F i).result ≠ 0))
def clashN (o : GOp) (n : Int) : Bool := decide (n ≠ -1) && (decide (n = o.call) || decide (n = o.ret))
def clashE (o p : GOp) : Bool := clashN o p.call || clashN o p.ret
def stateB (o p : GOp) : Bool := decide (p.proc = o.proc) && !beforeB p o
def opErrE (F : Nat → GOp) (i : Nat) : Int :=
  if toldB (F i).proc (F i).key (opNums (F i)) 5 = false then 2 else if inB (F i).kind 1 12 = false then 1 else if orderB F i = true then 10 else
  if anyB (fun j => clashE (F i) (F j)) i = true then 9 else if anyB (fun j => stateB (F i) (F j)) i = true then 6 else 0
/-- An error without a place; 0 is none. -/
def errV (e : Int) : Value := if e = 0 then .nilIface else .iface 23 (.int .i64 e)
abbrev opCells (o : GOp) : Obj := .cells #[.int .i64 o.proc, .int .i64 o.key, .int .i64 o.kind, .int .i64 o.a, .int .i64 o.b, .int .i64 o.result, .int .i64 o.call, .int .i64 o.ret] 95
theorem nums5 (w : World) (o : GOp) (g : Nat) (hg : g = w.heap.size) : IntsAt (w.alloc (.cells #[.int .i64 o.a, .int .i64 o.b, .int .i64 o.result, .int .i64 o.call, .int .i64 o.ret] 3)) (some ⟨g, 0, none⟩) 5 (opNums o) :=
  intsAt_new hg _ _ _ _ fun i hi => by
    match i, hi with
    | 0, _ => rfl
    | 1, _ => rfl
    | 2, _ => rfl
    | 3, _ => rfl
    | 4, _ => rfl
theorem below_drewN {B : Nat} {a w : World} (h : Below B a w) (k : Nat) : Below B a (w.drewN k) := ⟨h.os, h.tape, h.output, h.size, h.block⟩
theorem boxAt_drewN {w : World} {b : Nat} {o : GOp} (h : BoxAt w b o) (k : Nat) : BoxAt (w.drewN k) b o := h
/-- What stands at the loops' heads: the box of the op, all else as it was. -/
def Boxed (w wx : World) (o : GOp) : Prop := Below w.heap.size w wx ∧ BoxAt wx w.heap.size o ∧ w.heap.size < wx.heap.size
theorem Boxed.drewN {w wx : World} {o : GOp} (h : Boxed w wx o) (k : Nat) : Boxed w (wx.drewN k) o := ⟨below_drewN h.1 k, h.2.1, h.2.2⟩
theorem Boxed.on {w wx wy : World} {o : GOp} (h : Boxed w wx o) (hb : Below wx.heap.size wx wy) : Boxed w wy o :=
  ⟨h.1.trans (hb.mono h.1.size), h.2.1.below hb h.2.2, Nat.lt_of_lt_of_le h.2.2 hb.size⟩
theorem order_tree (F : Nat → GOp) (i : Nat) (hpos : 0 < i) :
    ((F i).call < 0 ∧ orderB F i = true) ∨ (0 ≤ (F i).call ∧ (F i).call ≤ (F (i - 1)).call ∧ orderB F i = true) ∨
    (0 ≤ (F i).call ∧ (F (i - 1)).call < (F i).call ∧ ((F i).ret == -1) = true ∧ ((F i).result != 0) = true ∧ orderB F i = true) ∨
    (0 ≤ (F i).call ∧ (F (i - 1)).call < (F i).call ∧ ((F i).ret == -1) = true ∧ ((F i).result != 0) = false ∧ orderB F i = false) ∨
    (0 ≤ (F i).call ∧ (F (i - 1)).call < (F i).call ∧ ((F i).ret == -1) = false ∧ (F i).ret ≤ (F i).call ∧ orderB F i = true) ∨
    (0 ≤ (F i).call ∧ (F (i - 1)).call < (F i).call ∧ ((F i).ret == -1) = false ∧ (F i).call < (F i).ret ∧ orderB F i = false) := by
  unfold orderB
  by_cases a1 : (F i).call < 0
  · exact .inl ⟨a1, by simp [a1]⟩
  by_cases a2 : (F i).call ≤ (F (i - 1)).call
  · exact .inr (.inl ⟨by omega, a2, by simp [a2, hpos]⟩)
  by_cases a3 : (F i).ret = -1
  · by_cases a4 : (F i).result = 0
    · exact .inr (.inr (.inr (.inl ⟨by omega, by omega, by simp [a3], by simp [a4], by simp [a3, a4]; omega⟩)))
    · exact .inr (.inr (.inl ⟨by omega, by omega, by simp [a3], by simp [a4], by simp [a3, a4]⟩))
  · by_cases a4 : (F i).ret ≤ (F i).call
    · exact .inr (.inr (.inr (.inr (.inl ⟨by omega, by omega, by simp [a3], a4, by simp [a3, a4]⟩))))
    · exact .inr (.inr (.inr (.inr (.inr ⟨by omega, by omega, by simp [a3], by omega, by simp [a3]; omega⟩))))
theorem order_tree0 (F : Nat → GOp) (i : Nat) (h0 : i = 0) :
    ((F i).call < 0 ∧ orderB F i = true) ∨
    (0 ≤ (F i).call ∧ ((F i).ret == -1) = true ∧ ((F i).result != 0) = true ∧ orderB F i = true) ∨
    (0 ≤ (F i).call ∧ ((F i).ret == -1) = true ∧ ((F i).result != 0) = false ∧ orderB F i = false) ∨
    (0 ≤ (F i).call ∧ ((F i).ret == -1) = false ∧ (F i).ret ≤ (F i).call ∧ orderB F i = true) ∨
    (0 ≤ (F i).call ∧ ((F i).ret == -1) = false ∧ (F i).call < (F i).ret ∧ orderB F i = false) := by
  unfold orderB
  by_cases a1 : (F i).call < 0
  · exact .inl ⟨a1, by simp [a1]⟩
  by_cases a3 : (F i).ret = -1
  · by_cases a4 : (F i).result = 0
    · exact .inr (.inr (.inl ⟨by omega, by simp [a3], by simp [a4], by simp [h0] at *; omega⟩))
    · exact .inr (.inl ⟨by omega, by simp [a3], by simp [a4], by simp [a3, a4]⟩)
  · by_cases a4 : (F i).ret ≤ (F i).call
    · exact .inr (.inr (.inr (.inl ⟨by omega, by simp [a3], a4, by simp [a3, a4]⟩)))
    · exact .inr (.inr (.inr (.inr ⟨by omega, by simp [a3], by omega, by simp [h0] at *; omega⟩)))
theorem clashN_tree (o : GOp) (n : Int) :
    ((n != -1) = false ∧ clashN o n = false) ∨ ((n != -1) = true ∧ (n == o.call) = true ∧ clashN o n = true) ∨
    ((n != -1) = true ∧ (n == o.call) = false ∧ (n == o.ret) = true ∧ clashN o n = true) ∨ ((n != -1) = true ∧ (n == o.call) = false ∧ (n == o.ret) = false ∧ clashN o n = false) := by
  unfold clashN
  by_cases h1 : n = -1
  · exact .inl ⟨by simp [h1], by simp [h1]⟩
  by_cases h2 : n = o.call
  · exact .inr (.inl ⟨by simpa using h1, by simpa using h2, by simp [h1]; exact .inl h2⟩)
  by_cases h3 : n = o.ret
  · exact .inr (.inr (.inl ⟨by simpa using h1, by simpa using h2, by simpa using h3, by simp [h1]; exact .inr h3⟩))
  · exact .inr (.inr (.inr ⟨by simpa using h1, by simpa using h2, by simpa using h3, by simp [h2, h3]⟩))
set_option maxRecDepth 100000 in
set_option maxHeartbeats 4000000 in
theorem checkOp_any (A : Option Addr) (i c : Nat) (F : Nat → GOp) (w : World) (hi : i ≤ 60) (hA : OpsAt w A i F) :
    Calls Tryd.prog 122 #[(F i).val, .slice A i c] w fun e w' => e = .returned (errV (opErrE F i)) ∧ Below w.heap.size w w' := by
  have HA := Lib.hid hA
  clear hA
  have HBX0 : Hid (Boxed w (w.alloc (opCells (F i))) (F i)) := Lib.hid ⟨(Below.refl _ w).alloc (Nat.le_refl _) _, boxAt_new rfl (F i) 95, by simp⟩
  have HBX : Hid (Boxed w ((w.alloc (opCells (F i))).alloc (.cells #[.int .i64 (F i).a, .int .i64 (F i).b, .int .i64 (F i).result, .int .i64 (F i).call, .int .i64 (F i).ret] 3)) (F i)) :=
    Lib.hid (HBX0.out.on ((Below.refl _ _).alloc (Nat.le_refl _) _))
  obtain ⟨o, ho⟩ : ∃ o, F i = o := ⟨_, rfl⟩
  have HO := Lib.hid ho
  rw [ho] at HBX0 HBX
  rw [ho]
  clear ho
  go_enter Tryd.func122, Tryd.ntmps122
  go_upto_block 0 with fail
  go_cut [5, 14] (fun _ _ wx => (toldB o.proc o.key (opNums o) 5 = true ∧ inB o.kind 1 12 = true ∧ orderB F i = false) ∧ Boxed w wx o)
  case first =>
    have HT := Lib.hid (fun w A h => told_any o.proc o.key A 5 5 (opNums o) w (by omega) h)
    cases h1 : toldB o.proc o.key (opNums o) 5
    · have HS : Hid (opErrE F i = 2) := Lib.hid (by simp [opErrE, HO.out, h1])
      rw [h1] at HT
      clear h1
      go_wp2_with (go_at_call 135; refine (HT.out _ _ (nums5 _ _ _ (by simp))).mono ?_; rintro e w' ⟨rfl, rfl⟩)
      go_ret
      exact ⟨by rw [HS.out]; rfl, HBX.out.1⟩
    · cases h2 : inB o.kind 1 12
      · have HS : Hid (opErrE F i = 1) := Lib.hid (by simp [opErrE, HO.out, h1, h2])
        rw [h1] at HT
        clear h1
        have HI := Lib.hid (fun w => in_any o.kind 1 12 w)
        rw [h2] at HI
        clear h2
        go_wp2_with (first
          | (go_at_call 135; refine (HT.out _ _ (nums5 _ _ _ (by simp))).mono ?_; rintro e w' ⟨rfl, rfl⟩)
          | (go_at_call 136; refine (HI.out _).mono ?_; rintro e w' ⟨rfl, rfl⟩))
        go_ret
        exact ⟨by rw [HS.out]; rfl, HBX.out.1⟩
      · rw [h1] at HT
        have HI := Lib.hid (fun w => in_any o.kind 1 12 w)
        rw [h2] at HI
        have HS : Hid (orderB F i = true → opErrE F i = 10) := Lib.hid (by intro h; simp [opErrE, HO.out, h1, h2, h])
        have H1 := Lib.hid h1
        have H2 := Lib.hid h2
        clear h1 h2
        rcases Nat.eq_zero_or_pos i with h0 | hpos
        · have hz : (decide (0 < i)) = false := by simp [h0]
          have ht := order_tree0 F i h0
          rw [HO.out] at ht
          rcases ht with ⟨d1, hcl⟩ | ⟨d1, d3, d4, hcl⟩ | ⟨d1, d3, d4, hcl⟩ | ⟨d1, d3, d4, hcl⟩ | ⟨d1, d3, d4, hcl⟩
          all_goals
            have HCL := Lib.hid hcl
            clear hcl h0
            go_wp2_with (first
              | (go_at_call 135; refine (HT.out _ _ (nums5 _ _ _ (by simp))).mono ?_; rintro e w' ⟨rfl, rfl⟩)
              | (go_at_call 136; refine (HI.out _).mono ?_; rintro e w' ⟨rfl, rfl⟩))
            try (go_quiet (fail); go_wp2)
            first
              | (go_meet; case rel => exact ⟨⟨H1.out, H2.out, HCL.out⟩, HBX.out.drewN _⟩)
              | (go_ret; exact ⟨by rw [HS.out HCL.out]; rfl, by first | exact HBX.out.1 | exact (HBX.out.drewN _).1⟩)
        · have hprev : (0 : Int) ≤ (i : Int) - 1 := by omega
          have ht := order_tree F i hpos
          rw [HO.out] at ht
          obtain ⟨b, off, hAe, hb, hc⟩ := HA.out (i - 1) (by omega)
          subst hAe
          obtain ⟨_, _, _, _, _, _, hc6, _⟩ := hc
          have hc6' : ((w.alloc (opCells o)).alloc (.cells #[.int .i64 o.a, .int .i64 o.b, .int .i64 o.result, .int .i64 o.call, .int .i64 o.ret] 3)).cell? ⟨b, off + (i - 1) * 8 + 6, none⟩ = some (.int .i64 (F (i - 1)).call) := by
            rw [World.cell?_alloc_lt _ _ _ (by simp; omega), World.cell?_alloc_lt _ _ _ hb]; exact hc6
          clear hc6
          generalize (F (i - 1)).call = pc at *
          rcases ht with ⟨d1, hcl⟩ | ⟨d1, d2, hcl⟩ | ⟨d1, d2, d3, d4, hcl⟩ | ⟨d1, d2, d3, d4, hcl⟩ | ⟨d1, d2, d3, d4, hcl⟩ | ⟨d1, d2, d3, d4, hcl⟩
          all_goals
            have HCL := Lib.hid hcl
            clear hcl
            go_wp2_with (first
              | (go_at_call 135; refine (HT.out _ _ (nums5 _ _ _ (by simp))).mono ?_; rintro e w' ⟨rfl, rfl⟩)
              | (go_at_call 136; refine (HI.out _).mono ?_; rintro e w' ⟨rfl, rfl⟩))
            try (go_quiet (fail); go_wp2)
            first
              | (go_meet; case rel => exact ⟨⟨H1.out, H2.out, HCL.out⟩, HBX.out.drewN _⟩)
              | (go_ret; exact ⟨by rw [HS.out HCL.out]; rfl, by first | exact HBX.out.1 | exact (HBX.out.drewN _).1⟩)
  case rest =>
    obtain ⟨⟨ht1, ht2, hord⟩, hbx⟩ := hcut
    have HS : Hid (opErrE F i = if anyB (fun j => clashE o (F j)) i = true then 9 else if anyB (fun j => stateB o (F j)) i = true then 6 else 0) := Lib.hid (by simp [opErrE, HO.out, ht1, ht2, hord])
    have HC := Lib.hid hbx
    clear ht1 ht2 hord hbx HBX HBX0
    go_upto_block 1 with fail
    go_cut [] (fun wx => (∀ t, t < i → clashE o (F t) = false) ∧ Boxed w wx o)
    case first =>
      go_wp2_with fail
      go_loopw [77] (fun x wr => ∃ j : Nat, x = .int .i64 j ∧ j ≤ i ∧ (∀ t, t < j → clashE o (F t) = false) ∧ Boxed w wr o) (fun x _ => i - (intOf x).toNat)
      case atStart => exact ⟨0, rfl, by omega, fun t ht => absurd ht (by omega), HC.out⟩
      case round =>
        obtain ⟨j, rfl, hj, hall, hbw⟩ := hrel
        have HALL := Lib.hid hall
        clear hall
        have HB := Lib.hid hbw
        obtain ⟨_, ⟨x0, x1, x2, x3, x4, x5, x6, x7⟩, hsz⟩ := hbw
        by_cases hlt : j < i
        · obtain ⟨b, off, rfl, hb, hc⟩ := (HA.out.below HB.out.1) j hlt
          obtain ⟨g0, g1, g2, g3, g4, g5, g6, g7⟩ := hc
          obtain ⟨q, hq⟩ : ∃ q, F j = q := ⟨_, rfl⟩
          rw [hq] at g0 g1 g2 g3 g4 g5 g6 g7
          have HF := Lib.hid hq
          clear hq
          have HW : Hid (Boxed w (((wr.alloc (opCells q))).alloc (.cells #[.int .i64 q.call, .int .i64 q.ret] 3)) o) := Lib.hid (HB.out.on (((Below.refl _ _).alloc (Nat.le_refl _) _).alloc (by simp) _))
          rcases clashN_tree o q.call with ⟨d1, dc⟩ | ⟨d1, d2, dc⟩ | ⟨d1, d2, d3, dc⟩ | ⟨d1, d2, d3, dc⟩
          all_goals
            have HD := Lib.hid dc
            clear dc
            rcases clashN_tree o q.ret with ⟨e1, ec⟩ | ⟨e1, e2, ec⟩ | ⟨e1, e2, e3, ec⟩ | ⟨e1, e2, e3, ec⟩
            all_goals
              have HE := Lib.hid ec
              clear ec
              go_wp2
              refine wp_loop_rounds 3 ?_
              rw [rounds_succ]
              go_wp2
              try (rw [rounds_succ]; go_wp2)
              try (rw [rounds_succ]; go_wp2)
              first
                | (go_ret
                   exact ⟨by rw [HS.out, if_pos (anyB_true (p := fun j => clashE o (F j)) hlt (by rw [HF.out]; simp [clashE, HD.out, HE.out]))]; rfl, HW.out.1⟩)
                | (go_roundw
                   case rel => exact ⟨j + 1, by go_num, by omega, upto_succ HALL.out (by rw [HF.out]; simp [clashE, HD.out, HE.out]), HW.out⟩
                   case measure => go_light; simp [intOf]; omega)
        · obtain rfl : j = i := by omega
          go_wp2
          go_meet
          case rel => exact ⟨HALL.out, HB.out⟩
    case rest =>
      obtain ⟨hall, hbx⟩ := hcut
      have HS2 : Hid (opErrE F i = if anyB (fun j => stateB o (F j)) i = true then 6 else 0) := Lib.hid (by rw [HS.out, if_neg (by rw [anyB_false hall]; simp)])
      clear HS HC hall
      have HC := Lib.hid hbx
      clear hbx
      go_wp2_with fail
      go_loopw [110] (fun x wr => ∃ j : Nat, x = .int .i64 j ∧ j ≤ i ∧ (∀ t, t < j → stateB o (F t) = false) ∧ Boxed w wr o) (fun x _ => i - (intOf x).toNat)
      case atStart => exact ⟨0, rfl, by omega, fun t ht => absurd ht (by omega), HC.out⟩
      case round =>
        obtain ⟨j, rfl, hj, hall, hbw⟩ := hrel
        have HALL := Lib.hid hall
        clear hall
        have HB := Lib.hid hbw
        obtain ⟨_, ⟨x0, x1, x2, x3, x4, x5, x6, x7⟩, hsz⟩ := hbw
        by_cases hlt : j < i
        · obtain ⟨b, off, rfl, hb, hc⟩ := (HA.out.below HB.out.1) j hlt
          obtain ⟨g0, g1, g2, g3, g4, g5, g6, g7⟩ := hc
          obtain ⟨q, hq⟩ : ∃ q, F j = q := ⟨_, rfl⟩
          rw [hq] at g0 g1 g2 g3 g4 g5 g6 g7
          have HF := Lib.hid hq
          clear hq
          have HW : Hid (Boxed w (wr.alloc (opCells q)) o) := Lib.hid (HB.out.on ((Below.refl _ _).alloc (Nat.le_refl _) _))
          have HBF := Lib.hid (fun W => Before_any q o W)
          cases d1 : (q.proc == o.proc)
          · have HD : Hid (stateB o q = false) := Lib.hid (by simp at d1; simp [stateB, d1])
            go_wp2
            go_roundw
            case rel => exact ⟨j + 1, by go_num, by omega, upto_succ HALL.out (by rw [HF.out]; exact HD.out), HW.out⟩
            case measure => go_light; simp [intOf]; omega
          · cases d2 : beforeB q o
            all_goals
              have HD : Hid (stateB o q = !beforeB q o) := Lib.hid (by simp at d1; simp [stateB, d1])
              rw [d2] at HD HBF
              clear d2
              go_wp2_with (go_at_call 137; refine (HBF.out _).mono ?_; rintro e w' ⟨rfl, hb'⟩)
              have HW2 := Lib.hid (HW.out.on hb')
              first
                | (go_ret
                   exact ⟨by rw [HS2.out, if_pos (anyB_true (p := fun j => stateB o (F j)) hlt (by rw [HF.out]; exact HD.out))]; rfl, HW2.out.1⟩)
                | (go_roundw
                   case rel => exact ⟨j + 1, by go_num, by omega, upto_succ HALL.out (by rw [HF.out]; exact HD.out), HW2.out⟩
                   case measure => go_light; simp [intOf]; omega)
        · obtain rfl : j = i := by omega
          go_wp2
          go_ret
          exact ⟨by rw [HS2.out, if_neg (by rw [anyB_false HALL.out]; simp)]; rfl, HB.out.1⟩
end Go.Proofs.YtkncomfbedbikaaDoor
