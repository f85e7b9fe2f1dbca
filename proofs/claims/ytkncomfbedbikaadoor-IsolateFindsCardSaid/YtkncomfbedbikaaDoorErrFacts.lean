/- Closed facts on what the model's reflectlite answers about an Errno, an At and a pointer to an Errno; steps through a run that loads or stores one cell. -/
import Derived.Test.YtkncomfbedbikaaDoorProg
import Derived.WalkKit
import Derived.WalkSpells
import Derived.WalkLawsBesides
import Derived.Stop.Asserts
namespace Go.Proofs.YtkncomfbedbikaaDoor
open Go.RowKit
section gen
variable {α : Type} {P : Program}
def skipS (P : Program) : Sem α → Sem α
  | .program k => skipS P (k P)
  | .mark _ k => skipS P k
  | c => c
theorem run_skipS (c : Sem α) (w : World) : (skipS P c).run P w = c.run P w := by
  induction c with
  | program k ih => exact ih P
  | mark m k ih => exact ih
  | _ => rfl
def loadAt? : Sem α → Option Addr
  | .load .plain a _ => some a
  | _ => none
def fedS (v : Value) : Sem α → Sem α
  | .load .plain _ k => k v
  | c => c
def storeAt? : Sem α → Option (Addr × Value)
  | .store .plain a v _ => some (a, v)
  | _ => none
def storedS : Sem α → Sem α
  | .store .plain _ _ k => k
  | c => c
theorem run_via_load {c : Sem α} {w : World} {a : Addr} {v : Value} {r : Result α} (ha : loadAt? (skipS P c) = some a) (hw : w.cell? a = some v)
    (h : (fedS v (skipS P c)).run P w = r) : c.run P w = r := by
  rw [← run_skipS c w, ← h]
  generalize skipS P c = d at *
  cases d with
  | load m a' k =>
    cases m
    · simp only [loadAt?, Option.some.injEq] at ha
      subst ha
      simp [Sem.run, fedS, hw]
    · simp [loadAt?] at ha
  | _ => simp [loadAt?] at ha
def single : Value → Bool
  | .agg _ | .tuple _ => false
  | _ => true
theorem run_via_store {c : Sem α} {w : World} {a : Addr} {v u : Value} {r : Result α} (ha : storeAt? (skipS P c) = some (a, v)) (h1 : single v = true) (hw : w.cell? a = some u) (hf : w.frozen? a = false)
    (h : (storedS (skipS P c)).run P (w.setCell a v) = r) : c.run P w = r := by
  rw [← run_skipS c w, ← h]
  generalize skipS P c = d at *
  cases d with
  | store m a' v' k =>
    cases m
    · simp only [storeAt?, Option.some.injEq, Prod.mk.injEq] at ha
      obtain ⟨rfl, rfl⟩ := ha
      cases v' <;> first | (simp [single] at h1; done) | simp [Sem.run, storedS, hw, hf]
    · simp [storeAt?] at ha
  | _ => simp [storeAt?] at ha
end gen
theorem value_of_target (w : World) (b : Nat) : (callFunc 138 #[.iface 217 (.pointer (some ⟨b, 0, none⟩))]).run Tryd.prog w = .ok (.value (.agg #[Value.pointer (some ⟨2, 217, none⟩), .pointer (some ⟨w.heap.size, 0, none⟩), .int .u64 150])) (w.alloc (.cells #[.pointer (some ⟨b,0,none⟩)] 217)) := by kernel_rfl
theorem value_of_errno (w : World) (m : Int) : (callFunc 138 #[.iface 23 (.int .i64 m)]).run Tryd.prog w = .ok (.value (.agg #[Value.pointer (some ⟨2, 23, none⟩), .pointer (some ⟨w.heap.size, 0, none⟩), .int .u64 130])) (w.alloc (.cells #[.int .i64 m] 23)) := by kernel_rfl
theorem type_of_target (w : World) (b : Nat) : (callFunc 139 #[.agg #[Value.pointer (some ⟨2, 217, none⟩), .pointer (some ⟨b, 0, none⟩), .int .u64 150]]).run Tryd.prog w = .ok (.value (.iface 244 (.agg #[Value.pointer (some ⟨2, 217, none⟩)]))) w := by kernel_rfl
theorem m_kind_target (w : World) : (method 385 244 (.agg #[Value.pointer (some ⟨2, 217, none⟩)]) "Kind").run Tryd.prog w = .ok (163, Value.pointer (some ⟨2, 217, none⟩)) w := by kernel_rfl
theorem kind_target (w : World) : (callFunc 163 #[Value.pointer (some ⟨2, 217, none⟩)]).run Tryd.prog w = .ok (.value (.int .u8 22)) w := by kernel_rfl
theorem m_elem_target (w : World) : (method 385 244 (.agg #[Value.pointer (some ⟨2, 217, none⟩)]) "Elem").run Tryd.prog w = .ok (175, .agg #[Value.pointer (some ⟨2, 217, none⟩)]) w := by kernel_rfl
theorem elem_target (w : World) : (callFunc 175 #[.agg #[Value.pointer (some ⟨2, 217, none⟩)]]).run Tryd.prog w = .ok (.value (.iface 244 (.agg #[Value.pointer (some ⟨2, 23, none⟩)]))) w := by kernel_rfl
theorem m_kind_errno (w : World) : (method 385 244 (.agg #[Value.pointer (some ⟨2, 23, none⟩)]) "Kind").run Tryd.prog w = .ok (163, Value.pointer (some ⟨2, 23, none⟩)) w := by kernel_rfl
theorem kind_errno (w : World) : (callFunc 163 #[Value.pointer (some ⟨2, 23, none⟩)]).run Tryd.prog w = .ok (.value (.int .u8 2)) w := by kernel_rfl
theorem type_of_errno (w : World) (m : Int) : (callFunc 146 #[.iface 23 (.int .i64 m)]).run Tryd.prog w = .ok (.value (.iface 244 (.agg #[Value.pointer (some ⟨2, 23, none⟩)]))) w := by kernel_rfl
theorem type_of_at (w : World) (p : Option Addr) : (callFunc 146 #[.iface 187 (.pointer p)]).run Tryd.prog w = .ok (.value (.iface 244 (.agg #[Value.pointer (some ⟨2, 187, none⟩)]))) w := by kernel_rfl
theorem m_assignable_errno (w : World) : (method 385 244 (.agg #[Value.pointer (some ⟨2, 23, none⟩)]) "AssignableTo").run Tryd.prog w = .ok (173, .agg #[Value.pointer (some ⟨2, 23, none⟩)]) w := by kernel_rfl
theorem assignable_errno (w : World) : (callFunc 173 #[.agg #[Value.pointer (some ⟨2, 23, none⟩)], .iface 244 (.agg #[Value.pointer (some ⟨2, 23, none⟩)])]).run Tryd.prog w = .ok (.value (.bool true)) w := by kernel_rfl
theorem m_assignable_at (w : World) : (method 385 244 (.agg #[Value.pointer (some ⟨2, 187, none⟩)]) "AssignableTo").run Tryd.prog w = .ok (173, .agg #[Value.pointer (some ⟨2, 187, none⟩)]) w := by kernel_rfl
theorem assignable_at (w : World) : (callFunc 173 #[.agg #[Value.pointer (some ⟨2, 187, none⟩)], .iface 244 (.agg #[Value.pointer (some ⟨2, 23, none⟩)])]).run Tryd.prog w = .ok (.value (.bool false)) w := by kernel_rfl
theorem target_isnil (w : World) (b b2 : Nat) (h : w.cell? ⟨b, 0, none⟩ = some (.pointer (some ⟨b2, 0, none⟩))) : (callFunc 140 #[.agg #[Value.pointer (some ⟨2, 217, none⟩), .pointer (some ⟨b, 0, none⟩), .int .u64 150]]).run Tryd.prog w = .ok (.value (.bool false)) w :=
  run_via_load (by kernel_rfl) h (by kernel_rfl)
theorem target_elem (w : World) (b b2 : Nat) (h : w.cell? ⟨b, 0, none⟩ = some (.pointer (some ⟨b2, 0, none⟩))) : (callFunc 147 #[.agg #[Value.pointer (some ⟨2, 217, none⟩), .pointer (some ⟨b, 0, none⟩), .int .u64 150]]).run Tryd.prog w = .ok (.value (.agg #[Value.pointer (some ⟨2, 23, none⟩), .pointer (some ⟨b2, 0, none⟩), .int .u64 386])) w :=
  run_via_load (by kernel_rfl) h (by kernel_rfl)
theorem set_target (w : World) (b b2 : Nat) (m : Int) (u : Value) (h : w.cell? ⟨b, 0, none⟩ = some (.int .i64 m)) (h2 : w.cell? ⟨b2, 0, none⟩ = some u) (h3 : w.frozen? ⟨b2, 0, none⟩ = false) :
    (callFunc 148 #[.agg #[Value.pointer (some ⟨2, 23, none⟩), .pointer (some ⟨b2, 0, none⟩), .int .u64 386], .agg #[Value.pointer (some ⟨2, 23, none⟩), .pointer (some ⟨b, 0, none⟩), .int .u64 130]]).run Tryd.prog w = .ok (.value (.tuple #[])) (w.setCell ⟨b2, 0, none⟩ (.int .i64 m)) :=
  run_via_load (a := ⟨b, 0, none⟩) (v := .int .i64 m) (by kernel_rfl) h (run_via_store (a := ⟨b2, 0, none⟩) (v := .int .i64 m) (by kernel_rfl) rfl h2 h3 (by kernel_rfl))
theorem m_implements (w : World) : (method 385 244 (.agg #[Value.pointer (some ⟨2, 23, none⟩)]) "Implements").run Tryd.prog w = .ok (176, .agg #[Value.pointer (some ⟨2, 23, none⟩)]) w := by kernel_rfl
theorem implements_error (w : World) : (callFunc 176 #[.agg #[Value.pointer (some ⟨2, 23, none⟩)], .iface 244 (.agg #[Value.pointer (some ⟨2, 28, none⟩)])]).run Tryd.prog w = .ok (.value (.bool true)) w := by kernel_rfl
/-- The variable errors.errorType holds the type error. -/
def ErrLaid (w : World) : Prop := w.cell? ⟨1, 0, none⟩ = some (.iface 244 (.agg #[Value.pointer (some ⟨2, 28, none⟩)]))
theorem ErrLaid.below {w w' : World} (h : ErrLaid w) {B : Nat} (hb : Below B w w') (hB : 1 < B) : ErrLaid w' := (hb.cell (p := ⟨1, 0, none⟩) hB).trans h
theorem m_unwrap_at (w : World) (p : Addr) : (method 385 187 (.pointer (some p)) "Unwrap").run Tryd.prog w = .ok (168, .pointer (some p)) w := by kernel_rfl
theorem errno_no_at (w : World) (m : Int) : (Instr.typeAssert (.iface 23 (.int .i64 m)) 28 187 true).run Tryd.prog w = .ok (.tuple #[.pointer none, .bool false]) w := by kernel_rfl
theorem errno_no_unwrap (w : World) (m : Int) : (Instr.typeAssert (.iface 23 (.int .i64 m)) 28 196 true).run Tryd.prog w = .ok (.tuple #[.nilIface, .bool false]) w := run_typeAssert_lacksB Tryd.underlying196 (by kernel_rfl) (by kernel_rfl) _ _ _
theorem errno_no_as (w : World) (m : Int) : (Instr.typeAssert (.iface 23 (.int .i64 m)) 28 249 true).run Tryd.prog w = .ok (.tuple #[.nilIface, .bool false]) w := run_typeAssert_lacksB Tryd.underlying249 (by kernel_rfl) (by kernel_rfl) _ _ _
theorem at_at (w : World) (p : Addr) : (Instr.typeAssert (.iface 187 (.pointer (some p))) 28 187 true).run Tryd.prog w = .ok (.tuple #[.pointer (some p), .bool true]) w := by kernel_rfl
theorem at_unwrap (w : World) (p : Addr) : (Instr.typeAssert (.iface 187 (.pointer (some p))) 28 196 true).run Tryd.prog w = .ok (.tuple #[.iface 187 (.pointer (some p)), .bool true]) w := by kernel_rfl
theorem at_no_as (w : World) (p : Addr) : (Instr.typeAssert (.iface 187 (.pointer (some p))) 28 249 true).run Tryd.prog w = .ok (.tuple #[.nilIface, .bool false]) w := run_typeAssert_lacksB Tryd.underlying249 (by kernel_rfl) (by kernel_rfl) _ _ _
theorem eq_nil (w : World) (t : TypeId) (v : Value) : (binOp .eql 28 (.iface t v) .nilIface).run Tryd.prog w = .ok (.bool false) w := by kernel_rfl
theorem ne_nil (w : World) (t : TypeId) (v : Value) : (binOp .neq 28 (.iface t v) .nilIface).run Tryd.prog w = .ok (.bool true) w := by kernel_rfl
theorem eq_nil_any (w : World) (t : TypeId) (v : Value) : (binOp .eql 20 (.iface t v) .nilIface).run Tryd.prog w = .ok (.bool false) w := by kernel_rfl
theorem nil_eq_nil (w : World) : (binOp .eql 28 .nilIface .nilIface).run Tryd.prog w = .ok (.bool true) w := by kernel_rfl
theorem nil_ne_nil (w : World) : (binOp .neq 28 .nilIface .nilIface).run Tryd.prog w = .ok (.bool false) w := by kernel_rfl
end Go.Proofs.YtkncomfbedbikaaDoor
