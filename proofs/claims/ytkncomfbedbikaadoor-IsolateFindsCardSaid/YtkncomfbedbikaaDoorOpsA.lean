/- Ops in memory, and the small functions that look at their numbers. -/
import Derived.Test.YtkncomfbedbikaaDoorErrWalk
import Derived.Test.YtkncomfbedbikaaDoorReach
namespace Go.Proofs.YtkncomfbedbikaaDoor
open Go.RowKit
/-- An op's numbers. -/
structure GOp where
  proc : Int
  key : Int
  kind : Int
  a : Int
  b : Int
  result : Int
  call : Int
  ret : Int
def CellsAt (w : World) (b off : Nat) (o : GOp) : Prop :=
  w.cell? ⟨b, off, none⟩ = some (.int .i64 o.proc) ∧ w.cell? ⟨b, off + 1, none⟩ = some (.int .i64 o.key) ∧ w.cell? ⟨b, off + 2, none⟩ = some (.int .i64 o.kind) ∧ w.cell? ⟨b, off + 3, none⟩ = some (.int .i64 o.a) ∧
  w.cell? ⟨b, off + 4, none⟩ = some (.int .i64 o.b) ∧ w.cell? ⟨b, off + 5, none⟩ = some (.int .i64 o.result) ∧ w.cell? ⟨b, off + 6, none⟩ = some (.int .i64 o.call) ∧ w.cell? ⟨b, off + 7, none⟩ = some (.int .i64 o.ret)
abbrev GOp.val (o : GOp) : Value := .agg #[.int .i64 o.proc, .int .i64 o.key, .int .i64 o.kind, .int .i64 o.a, .int .i64 o.b, .int .i64 o.result, .int .i64 o.call, .int .i64 o.ret]
theorem CellsAt.below {w w' : World} {b off : Nat} {o : GOp} {B : Nat} (h : CellsAt w b off o) (hb : Below B w w') (hB : b < B) : CellsAt w' b off o := by
  obtain ⟨h0, h1, h2, h3, h4, h5, h6, h7⟩ := h
  have e : ∀ k, w'.cell? ⟨b, k, none⟩ = w.cell? ⟨b, k, none⟩ := fun k => hb.cell (p := ⟨b, k, none⟩) hB
  exact ⟨(e _).trans h0, (e _).trans h1, (e _).trans h2, (e _).trans h3, (e _).trans h4, (e _).trans h5, (e _).trans h6, (e _).trans h7⟩
/-- The slice at A reads as the n ops F 0, F 1, .. -/
def OpsAt (w : World) (A : Option Addr) (n : Nat) (F : Nat → GOp) : Prop :=
  ∀ i, i < n → ∃ b off, A = some ⟨b, off, none⟩ ∧ b < w.heap.size ∧ CellsAt w b (off + i * 8) (F i)
theorem OpsAt.below {w w' : World} {A : Option Addr} {n : Nat} {F : Nat → GOp} (h : OpsAt w A n F) (hb : Below w.heap.size w w') : OpsAt w' A n F := fun i hi => by
  obtain ⟨b, off, rfl, hlt, hc⟩ := h i hi
  exact ⟨b, off, rfl, Nat.lt_of_lt_of_le hlt hb.size, hc.below hb hlt⟩
theorem OpsAt.take {w : World} {A : Option Addr} {n m : Nat} {F : Nat → GOp} (h : OpsAt w A n F) (hm : m ≤ n) : OpsAt w A m F := fun i hi => h i (by omega)
/-- The slice at A reads as the n numbers f 0, f 1, .. -/
def IntsAt (w : World) (A : Option Addr) (n : Nat) (f : Nat → Int) : Prop :=
  ∀ i, i < n → ∃ b off, A = some ⟨b, off, none⟩ ∧ b < w.heap.size ∧ w.cell? ⟨b, off + i, none⟩ = some (.int .i64 (f i))
theorem IntsAt.below {w w' : World} {A : Option Addr} {n : Nat} {f : Nat → Int} (h : IntsAt w A n f) (hb : Below w.heap.size w w') : IntsAt w' A n f := fun i hi => by
  obtain ⟨b, off, rfl, hlt, hc⟩ := h i hi
  exact ⟨b, off, rfl, Nat.lt_of_lt_of_le hlt hb.size, (hb.cell (p := ⟨b, off + i, none⟩) hlt).trans hc⟩
theorem intsAt_new {w : World} {g : Nat} (hg : g = w.heap.size) (cs : Array Value) (t : TypeId) (n : Nat) (f : Nat → Int) (h : ∀ i, i < n → cs[i]? = some (.int .i64 (f i))) :
    IntsAt (w.alloc (.cells cs t)) (some ⟨g, 0, none⟩) n f := fun i hi => by
  subst hg
  exact ⟨_, _, rfl, by simp, by rw [Nat.zero_add, World.cell?_alloc_new]; exact h i hi⟩
/-- A box that holds an op. -/
def BoxAt (w : World) (b : Nat) (o : GOp) : Prop :=
  w.cell? ⟨b, 0, none⟩ = some (.int .i64 o.proc) ∧ w.cell? ⟨b, 1, none⟩ = some (.int .i64 o.key) ∧ w.cell? ⟨b, 2, none⟩ = some (.int .i64 o.kind) ∧ w.cell? ⟨b, 3, none⟩ = some (.int .i64 o.a) ∧
  w.cell? ⟨b, 4, none⟩ = some (.int .i64 o.b) ∧ w.cell? ⟨b, 5, none⟩ = some (.int .i64 o.result) ∧ w.cell? ⟨b, 6, none⟩ = some (.int .i64 o.call) ∧ w.cell? ⟨b, 7, none⟩ = some (.int .i64 o.ret)
theorem BoxAt.below {w w' : World} {b : Nat} {o : GOp} {B : Nat} (h : BoxAt w b o) (hb : Below B w w') (hB : b < B) : BoxAt w' b o := by
  obtain ⟨h0, h1, h2, h3, h4, h5, h6, h7⟩ := h
  have e : ∀ k, w'.cell? ⟨b, k, none⟩ = w.cell? ⟨b, k, none⟩ := fun k => hb.cell (p := ⟨b, k, none⟩) hB
  exact ⟨(e _).trans h0, (e _).trans h1, (e _).trans h2, (e _).trans h3, (e _).trans h4, (e _).trans h5, (e _).trans h6, (e _).trans h7⟩
theorem boxAt_new {w : World} {g : Nat} (hg : g = w.heap.size) (o : GOp) (t : TypeId) : BoxAt (w.alloc (.cells #[.int .i64 o.proc, .int .i64 o.key, .int .i64 o.kind, .int .i64 o.a, .int .i64 o.b, .int .i64 o.result, .int .i64 o.call, .int .i64 o.ret] t)) g o := by
  subst hg
  simp [BoxAt, World.cell?_alloc_new]
def inB (x lo hi : Int) : Bool := decide (lo ≤ x) && decide (x ≤ hi)
set_option maxHeartbeats 400000 in
theorem in_any (a b c : Int) (w : World) : Calls Tryd.prog 136 #[.int .i64 a, .int .i64 b, .int .i64 c] w fun e w' => e = .returned (.bool (inB a b c)) ∧ w = w' := by
  unfold inB
  go_enter Tryd.func136, Tryd.ntmps136
  go_wp2
  all_goals (go_ret; simp; try omega)
def beforeB (x y : GOp) : Bool := decide (0 ≤ x.ret) && decide (x.ret < y.call)
set_option maxHeartbeats 400000 in
theorem Before_any (x y : GOp) (w : World) : Calls Tryd.prog 137 #[x.val, y.val] w fun e w' => e = .returned (.bool (beforeB x y)) ∧ Below w.heap.size w w' := by
  unfold beforeB
  go_enter Tryd.func137, Tryd.ntmps137
  go_wp2
  all_goals (go_ret; refine ⟨by simp; try omega, ((Below.refl _ _).alloc (Nat.le_refl _) _).alloc (by simp) _⟩)
set_option maxHeartbeats 400000 in
theorem rBefore_any (x y : GOp) (w : World) : Calls Tryd.prog 91 #[x.val, y.val] w fun e w' => e = .returned (.bool (beforeB x y)) ∧ Below w.heap.size w w' := by
  unfold beforeB
  go_enter Tryd.func91, Tryd.ntmps91
  go_wp2
  all_goals (go_ret; refine ⟨by simp; try omega, ((Below.refl _ _).alloc (Nat.le_refl _) _).alloc (by simp) _⟩)
def smallB (x : Int) : Bool := inB x (-1000000) 1000000
def toldB (p k : Int) (f : Nat → Int) (n : Nat) : Bool := allB (fun i => smallB (f i)) n && (inB p 0 7 && inB k 0 7)
set_option maxHeartbeats 400000 in
theorem told_any (p k : Int) (A : Option Addr) (n c : Nat) (f : Nat → Int) (w : World) (hn : n ≤ 60) (hA : IntsAt w A n f) :
    Calls Tryd.prog 135 #[.int .i64 p, .int .i64 k, .slice A n c] w fun e w' => e = .returned (.bool (toldB p k f n)) ∧ w = w' := by
  have HA := Lib.hid hA
  clear hA
  go_enter Tryd.func135, Tryd.ntmps135
  go_wp2
  go_loop [11] (fun i => ∃ j : Nat, i = .int .i64 j ∧ j ≤ n ∧ ∀ t, t < j → smallB (f t) = true) (fun i => n - (intOf i).toNat)
  case atStart => exact ⟨0, rfl, by omega, fun t ht => absurd ht (by omega)⟩
  case round =>
    obtain ⟨j, rfl, hj, hall⟩ := hrel
    have HALL := Lib.hid hall
    clear hall
    by_cases hlt : j < n
    · obtain ⟨b, off, rfl, hb, hc⟩ := HA.out j hlt
      cases hin : smallB (f j)
      all_goals
        have hinB : inB (f j) (-1000000) 1000000 = smallB (f j) := rfl
        rw [hin] at hinB
        have HIN := Lib.hid hin
        clear hin
        go_wp2_with (go_at_call 136; refine (in_any _ _ _ _).mono ?_; rintro e w' ⟨rfl, rfl⟩)
      · go_ret
        exact ⟨by unfold toldB; rw [allB_false hlt HIN.out]; rfl, rfl⟩
      · go_round
        case rel => exact ⟨j + 1, by go_num, by omega, upto_succ HALL.out HIN.out⟩
        case measure => simp [intOf]; omega
    · obtain rfl : j = n := by omega
      cases h1 : inB p 0 7 <;> cases h2 : inB k 0 7
      all_goals
        go_wp2_with (go_at_call 136; refine (in_any _ _ _ _).mono ?_; rintro e w' ⟨rfl, rfl⟩)
        go_ret
        exact ⟨by unfold toldB; rw [allB_true HALL.out, h1, h2]; rfl, rfl⟩
theorem small_any (A : Option Addr) (n c : Nat) (f : Nat → Int) (w : World) (hn : n ≤ 60) (hA : IntsAt w A n f) :
    Calls Tryd.prog 90 #[.slice A n c] w fun e w' => e = .returned (.bool (allB (fun i => smallB (f i)) n)) ∧ w = w' := by
  have HA := Lib.hid hA
  clear hA
  go_enter Tryd.func90, Tryd.ntmps90
  go_wp2
  go_loop [7] (fun i => ∃ j : Nat, i = .int .i64 j ∧ j ≤ n ∧ ∀ t, t < j → smallB (f t) = true) (fun i => n - (intOf i).toNat)
  case atStart => exact ⟨0, rfl, by omega, fun t ht => absurd ht (by omega)⟩
  case round =>
    obtain ⟨j, rfl, hj, hall⟩ := hrel
    have HALL := Lib.hid hall
    clear hall
    by_cases hlt : j < n
    · obtain ⟨b, off, rfl, hb, hc⟩ := HA.out j hlt
      go_wp2
      all_goals first
        | (go_ret; exact ⟨by rw [allB_false hlt (by simp [smallB, inB]; omega)]; rfl, rfl⟩)
        | (go_round
           case rel => exact ⟨j + 1, by go_num, by omega, upto_succ HALL.out (by simp [smallB, inB]; omega)⟩
           case measure => simp [intOf]; omega)
    · obtain rfl : j = n := by omega
      go_wp2
      go_ret
      exact ⟨by rw [allB_true HALL.out]; rfl, rfl⟩
end Go.Proofs.YtkncomfbedbikaaDoor
