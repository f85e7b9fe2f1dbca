/- What errors.As, Tell, Place answer of an Errno or an At. -/
import Derived.Test.YtkncomfbedbikaaDoorErrFacts
import Derived.BigQuiet
import Derived.Deep.QuietTactic
import Derived.Deep.LoopGhost
import Derived.Deep.DeepCutAuto
import Derived.Lib.Hide
namespace Go.Proofs.YtkncomfbedbikaaDoor
open Go.RowKit
attribute [local go_sem] type_of_errno assignable_errno m_assignable_errno type_of_at assignable_at m_assignable_at value_of_errno at_no_as at_unwrap m_unwrap_at errno_no_as errno_no_unwrap errno_no_at at_at eq_nil ne_nil eq_nil_any nil_eq_nil nil_ne_nil m_implements implements_error value_of_target type_of_target m_kind_target kind_target m_elem_target elem_target m_kind_errno kind_errno
theorem cell_lt {w : World} {b o : Nat} {v : Value} (h : w.cell? ⟨b, o, none⟩ = some v) : b < w.heap.size := by
  rcases Nat.lt_or_ge b w.heap.size with h' | h'
  · exact h'
  · simp [World.cell?, Array.getElem?_eq_none h'] at h
set_option maxRecDepth 100000 in
set_option maxHeartbeats 400000 in
theorem as_errno (m : Int) (b b1 : Nat) (u : Value) (w : World) (hb : w.cell? ⟨b, 0, none⟩ = some u) (hf : w.frozen? ⟨b, 0, none⟩ = false)
    (hb1 : w.cell? ⟨b1, 0, none⟩ = some (.pointer (some ⟨b, 0, none⟩))) :
    Calls Tryd.prog 141 #[.iface 23 (.int .i64 m), .iface 217 (.pointer (some ⟨b, 0, none⟩)), .agg #[Value.pointer (some ⟨2, 217, none⟩), .pointer (some ⟨b1, 0, none⟩), .int .u64 150], .iface 244 (.agg #[Value.pointer (some ⟨2, 23, none⟩)])] w
      fun e w' => e = .returned (.bool true) ∧ w'.cell? ⟨b, 0, none⟩ = some (.int .i64 m) ∧ Below b w w' := by
  have hl := cell_lt hb
  have hl1 := cell_lt hb1
  have t4 := fun w h => target_elem w b1 b h
  have t5 := set_target ((w.alloc (.cells #[Value.pointer (some ⟨2, 217, none⟩), .pointer (some ⟨b1, 0, none⟩), .int .u64 150] 233)).alloc (.cells #[.int .i64 m] 23)) (w.heap.size + 1) b m u
    (by simp [go_sem]) (by rw [World.cell?_alloc_lt _ _ _ (by simp; omega), World.cell?_alloc_lt _ _ _ hl]; exact hb) (by rw [World.frozen?_alloc_past _ _ _ (by simp; omega), World.frozen?_alloc_past _ _ _ hl]; exact hf)
  go_enter Tryd.func141, Tryd.ntmps141
  go_wp2
  refine wp_loop_rounds 1 ?_
  rw [rounds_succ]
  go_wp2
  go_ret
  refine ⟨rfl, ?_, ?_⟩
  · rw [World.cell?_alloc_lt _ _ _ (by simp; omega), World.cell?_alloc_lt _ _ _ (by simpa using hl)]; exact World.cell?_setCell_same _ _ _ hb
  · exact (((Below.refl b w).setCell (Nat.le_refl _) _).alloc (by simp; omega) _).alloc (by simp; omega) _
set_option maxHeartbeats 400000 in
theorem unwrap_any (p : Addr) (m : Int) (w : World) (hp : w.cell? p = some (.int .i64 m)) :
    Calls Tryd.prog 168 #[.pointer (some p)] w fun e w' => e = .returned (.iface 23 (.int .i64 m)) ∧ w = w' := by
  go_enter Tryd.func168, Tryd.ntmps168
  go_wp2
  go_ret
  exact ⟨rfl, rfl⟩
set_option maxRecDepth 100000 in
set_option maxHeartbeats 400000 in
theorem as_at (m : Int) (p : Addr) (b b1 : Nat) (u : Value) (w : World) (hp : w.cell? p = some (.int .i64 m)) (hpl : p.block < w.heap.size) (hb : w.cell? ⟨b, 0, none⟩ = some u) (hf : w.frozen? ⟨b, 0, none⟩ = false)
    (hb1 : w.cell? ⟨b1, 0, none⟩ = some (.pointer (some ⟨b, 0, none⟩))) :
    Calls Tryd.prog 141 #[.iface 187 (.pointer (some p)), .iface 217 (.pointer (some ⟨b, 0, none⟩)), .agg #[Value.pointer (some ⟨2, 217, none⟩), .pointer (some ⟨b1, 0, none⟩), .int .u64 150], .iface 244 (.agg #[Value.pointer (some ⟨2, 23, none⟩)])] w
      fun e w' => e = .returned (.bool true) ∧ w'.cell? ⟨b, 0, none⟩ = some (.int .i64 m) ∧ Below b w w' := by
  have hl := cell_lt hb
  have hl1 := cell_lt hb1
  have t4 := fun w h => target_elem w b1 b h
  have t5 := set_target ((w.alloc (.cells #[Value.pointer (some ⟨2, 217, none⟩), .pointer (some ⟨b1, 0, none⟩), .int .u64 150] 233)).alloc (.cells #[.int .i64 m] 23)) (w.heap.size + 1) b m u
    (by simp [go_sem]) (by rw [World.cell?_alloc_lt _ _ _ (by simp; omega), World.cell?_alloc_lt _ _ _ hl]; exact hb) (by rw [World.frozen?_alloc_past _ _ _ (by simp; omega), World.frozen?_alloc_past _ _ _ hl]; exact hf)
  go_enter Tryd.func141, Tryd.ntmps141
  go_wp2_with fail
  refine wp_loop_rounds 2 ?_
  rw [rounds_succ]
  go_wp2_with (go_at_call 168; refine (unwrap_any p m _ (by rw [World.cell?_alloc_lt _ _ _ hpl]; exact hp)).mono ?_; rintro e w' ⟨rfl, rfl⟩)
  rw [rounds_succ]
  go_wp2
  go_ret
  refine ⟨rfl, ?_, ?_⟩
  · rw [World.cell?_alloc_lt _ _ _ (by simp; omega), World.cell?_alloc_lt _ _ _ (by simpa using hl)]; exact World.cell?_setCell_same _ _ _ hb
  · exact (((Below.refl b w).setCell (Nat.le_refl _) _).alloc (by simp; omega) _).alloc (by simp; omega) _
/-- An error of this program: what its Errno and its place are (none: an Errno without a place). -/
def ErrIs (w : World) (v : Value) (m : Int) (place : Int) : Prop :=
  (v = .nilIface ∧ m = 0 ∧ place = -1) ∨ (v = .iface 23 (.int .i64 m) ∧ place = -1) ∨
  (∃ b o : Nat, v = .iface 187 (.pointer (some ⟨b, o, none⟩)) ∧ b < w.heap.size ∧ w.cell? ⟨b, o, none⟩ = some (.int .i64 m) ∧ w.cell? ⟨b, o + 1, none⟩ = some (.int .i64 place))
set_option maxRecDepth 100000 in
set_option maxHeartbeats 400000 in
theorem As_gen (t : TypeId) (v : Value) (m : Int) (b : Nat) (u : Value) (w : World) (hlaid : ErrLaid w) (hb : w.cell? ⟨b, 0, none⟩ = some u) (hf : w.frozen? ⟨b, 0, none⟩ = false)
    (H : ∀ W, W = ((w.alloc (.cells #[.pointer (some ⟨b, 0, none⟩)] 217)).alloc (.cells #[.pointer (some ⟨2, 217, none⟩), .pointer (some ⟨w.heap.size, 0, none⟩), .int .u64 150] 233)) → W.cell? ⟨b, 0, none⟩ = some u → W.frozen? ⟨b, 0, none⟩ = false → W.cell? ⟨w.heap.size, 0, none⟩ = some (.pointer (some ⟨b, 0, none⟩)) →
      Calls Tryd.prog 141 #[.iface t v, .iface 217 (.pointer (some ⟨b, 0, none⟩)), .agg #[Value.pointer (some ⟨2, 217, none⟩), .pointer (some ⟨w.heap.size, 0, none⟩), .int .u64 150], .iface 244 (.agg #[Value.pointer (some ⟨2, 23, none⟩)])] W
      fun e w' => e = .returned (.bool true) ∧ w'.cell? ⟨b, 0, none⟩ = some (.int .i64 m) ∧ Below b W w') :
    Calls Tryd.prog 123 #[.iface t v, .iface 217 (.pointer (some ⟨b, 0, none⟩))] w
      fun e w' => e = .returned (.bool true) ∧ w'.cell? ⟨b, 0, none⟩ = some (.int .i64 m) ∧ Below b w w' := by
  unfold ErrLaid at hlaid
  have hgl := cell_lt hlaid
  have hg2 : ((w.alloc (.cells #[.pointer (some ⟨b, 0, none⟩)] 217)).alloc (.cells #[.pointer (some ⟨2, 217, none⟩), .pointer (some ⟨w.heap.size, 0, none⟩), .int .u64 150] 233)).cell? ⟨1, 0, none⟩ = some (.iface 244 (.agg #[Value.pointer (some ⟨2, 28, none⟩)])) := by
    rw [World.cell?_alloc_lt _ _ _ (by simp; omega), World.cell?_alloc_lt _ _ _ hgl]; exact hlaid
  have n6 := target_isnil ((w.alloc (.cells #[.pointer (some ⟨b, 0, none⟩)] 217)).alloc (.cells #[.pointer (some ⟨2, 217, none⟩), .pointer (some ⟨w.heap.size, 0, none⟩), .int .u64 150] 233)) w.heap.size b (by rw [World.cell?_alloc_lt _ _ _ (by simp)]; simp [go_sem])
  have hl := cell_lt hb
  have H1 := Lib.hid (H _ rfl (by rw [World.cell?_alloc_lt _ _ _ (by simp; omega), World.cell?_alloc_lt _ _ _ hl]; exact hb) (by rw [World.frozen?_alloc_past _ _ _ (by simp; omega), World.frozen?_alloc_past _ _ _ hl]; exact hf) (by rw [World.cell?_alloc_lt _ _ _ (by simp)]; simp [go_sem]))
  clear H
  go_enter Tryd.func123, Tryd.ntmps123
  go_wp2_with (go_at_call 141; refine H1.out.mono ?_; rintro e w' ⟨rfl, hc', hb'⟩)
  go_ret
  exact ⟨rfl, hc', (((Below.refl b w).alloc (by omega) _).alloc (by simp; omega) _).trans hb'⟩
theorem As_err (v : Value) (m place : Int) (b : Nat) (u : Value) (w : World) (hv : ErrIs w v m place) (hnn : v ≠ .nilIface) (hlaid : ErrLaid w) (hb : w.cell? ⟨b, 0, none⟩ = some u) (hf : w.frozen? ⟨b, 0, none⟩ = false) :
    Calls Tryd.prog 123 #[v, .iface 217 (.pointer (some ⟨b, 0, none⟩))] w
      fun e w' => e = .returned (.bool true) ∧ w'.cell? ⟨b, 0, none⟩ = some (.int .i64 m) ∧ Below b w w' := by
  rcases hv with ⟨rfl, _⟩ | ⟨rfl, _⟩ | ⟨pb, po, rfl, hpl, hp, _⟩
  · exact absurd rfl hnn
  · exact As_gen _ _ m b u w hlaid hb hf fun W _ h1 h2 h3 => as_errno m b w.heap.size u W h1 h2 h3
  · exact As_gen _ _ m b u w hlaid hb hf fun W hW h1 h2 h3 => as_at m ⟨pb, po, none⟩ b w.heap.size u W (by rw [hW, World.cell?_alloc_lt _ _ _ (by simp; omega), World.cell?_alloc_lt _ _ _ hpl]; exact hp) (by rw [hW]; simp; omega) h1 h2 h3
theorem ErrIs.below {w w' : World} {v : Value} {m place : Int} (h : ErrIs w v m place) (hb : Below w.heap.size w w') : ErrIs w' v m place := by
  rcases h with h | h | ⟨pb, po, rfl, hpl, hp, hq⟩
  · exact .inl h
  · exact .inr (.inl h)
  · exact .inr (.inr ⟨pb, po, rfl, Nat.lt_of_lt_of_le hpl hb.size, (hb.cell (p := ⟨pb, po, none⟩) hpl).trans hp, (hb.cell (p := ⟨pb, po + 1, none⟩) hpl).trans hq⟩)
set_option maxRecDepth 100000 in
set_option maxHeartbeats 400000 in
theorem Tell_nil (w : World) : Calls Tryd.prog 99 #[.nilIface] w fun e w' => e = .returned (.int .i64 0) ∧ w = w' := by
  go_enter Tryd.func99, Tryd.ntmps99
  go_wp2
  go_ret
  exact ⟨rfl, rfl⟩
set_option maxRecDepth 100000 in
set_option maxHeartbeats 400000 in
theorem Tell_iface (t : TypeId) (x : Value) (m place : Int) (w : World) (hv : ErrIs w (.iface t x) m place) (hlaid : ErrLaid w) : Calls Tryd.prog 99 #[.iface t x] w fun e w' => e = .returned (.int .i64 m) ∧ Below w.heap.size w w' := by
  have hgl := cell_lt hlaid
  have hbel : Below w.heap.size w (w.alloc (.cells #[.int .i64 0] 23)) := (Below.refl _ w).alloc (Nat.le_refl _) _
  have H1 := Lib.hid (As_err (.iface t x) m place w.heap.size (.int .i64 0) (w.alloc (.cells #[.int .i64 0] 23)) (hv.below hbel) (by simp) (hlaid.below hbel hgl) (by simp [go_sem]) (by simp [go_sem]))
  clear hv hlaid
  go_enter Tryd.func99, Tryd.ntmps99
  go_wp2_with (go_at_call 123; refine H1.out.mono ?_; rintro e w' ⟨rfl, hc', hb'⟩)
  go_ret
  exact ⟨rfl, hbel.trans hb'⟩
/-- What Place answers. -/
def PlaceOf (w : World) (m place : Int) (e : Ending) (w' : World) : Prop := e = .returned (.tuple #[.int .i64 m, .int .i64 place]) ∧ Below w.heap.size w w'
set_option maxRecDepth 100000 in
set_option maxHeartbeats 400000 in
theorem Place_nil (w : World) : Calls Tryd.prog 63 #[.nilIface] w (PlaceOf w 0 (-1)) := by
  go_enter Tryd.func63, Tryd.ntmps63
  go_wp2_with (go_at_call 99; refine (Tell_nil _).mono ?_; rintro e w' ⟨rfl, rfl⟩)
  refine wp_loop_rounds 1 ?_
  rw [rounds_succ]
  go_wp2
  go_ret2
  exact ⟨rfl, Below.refl _ _⟩
set_option maxRecDepth 100000 in
set_option maxHeartbeats 400000 in
theorem Place_errno (m : Int) (w : World) (hlaid : ErrLaid w) : Calls Tryd.prog 63 #[.iface 23 (.int .i64 m)] w (PlaceOf w m (-1)) := by
  have H1 := Lib.hid (Tell_iface _ _ m (-1) w (.inr (.inl ⟨rfl, rfl⟩)) hlaid)
  clear hlaid
  go_enter Tryd.func63, Tryd.ntmps63
  go_wp2_with (go_at_call 99; refine H1.out.mono ?_; rintro e w' ⟨rfl, hb'⟩)
  refine wp_loop_rounds 1 ?_
  rw [rounds_succ]
  go_wp2
  go_ret2
  exact ⟨rfl, hb'⟩
set_option maxRecDepth 100000 in
set_option maxHeartbeats 400000 in
theorem Place_at (pb po : Nat) (m place : Int) (w : World) (hpl : pb < w.heap.size) (hp : w.cell? ⟨pb, po, none⟩ = some (.int .i64 m)) (hq : w.cell? ⟨pb, po + 1, none⟩ = some (.int .i64 place)) (hlaid : ErrLaid w) :
    Calls Tryd.prog 63 #[.iface 187 (.pointer (some ⟨pb, po, none⟩))] w (PlaceOf w m place) := by
  have H1 := Lib.hid (Tell_iface _ _ m place w (.inr (.inr ⟨pb, po, rfl, hpl, hp, hq⟩)) hlaid)
  clear hlaid hp
  go_enter Tryd.func63, Tryd.ntmps63
  go_wp2_with (go_at_call 99; refine H1.out.mono ?_; rintro e w' ⟨rfl, hb'⟩)
  have hq' : w'.cell? ⟨pb, po + 1, none⟩ = some (.int .i64 place) := (hb'.cell (p := ⟨pb, po + 1, none⟩) hpl).trans hq
  clear hq
  refine wp_loop_rounds 1 ?_
  rw [rounds_succ]
  go_wp2
  go_region
  all_goals (go_wp2; go_ret2; exact ⟨rfl, hb'.drew⟩)
theorem Place_any (v : Value) (m place : Int) (w : World) (hv : ErrIs w v m place) (hlaid : ErrLaid w) : Calls Tryd.prog 63 #[v] w (PlaceOf w m place) := by
  rcases hv with ⟨rfl, rfl, rfl⟩ | ⟨rfl, rfl⟩ | ⟨pb, po, rfl, hpl, hp, hq⟩
  · exact Place_nil w
  · exact Place_errno m w hlaid
  · exact Place_at pb po m place w hpl hp hq hlaid
set_option maxHeartbeats 400000 in
theorem at_any (v : Value) (m place x y : Int) (w : World) (hv : ErrIs w v m place) (hlaid : ErrLaid w) :
    Calls Tryd.prog 22 #[v, .agg #[.int .i64 x, .int .i64 y]] w fun e w' => e = .returned (.bool (decide (m = x) && decide (place = y))) ∧ Below w.heap.size w w' := by
  have hgl := cell_lt hlaid
  have hbel : Below w.heap.size w (w.alloc (.cells #[.int .i64 x, .int .i64 y] 48)) := (Below.refl _ w).alloc (Nat.le_refl _) _
  have H1 := Lib.hid (Place_any v m place _ (hv.below hbel) (hlaid.below hbel hgl))
  clear hv hlaid
  by_cases hm : m = x
  · have hm' : (m == x) = true := by simpa using hm
    go_enter Tryd.func22, Tryd.ntmps22
    go_wp2_with (go_at_call 63; refine H1.out.mono ?_; rintro e w' ⟨rfl, hb'⟩; have hx1 := (hb'.cell (p := ⟨w.heap.size, 0, none⟩) (by simp)); have hx2 := (hb'.cell (p := ⟨w.heap.size, 1, none⟩) (by simp)); simp [go_sem] at hx1 hx2)
    go_ret
    exact ⟨by simp [hm, Bool.beq_eq_decide_eq], hbel.trans (hb'.mono (by simp))⟩
  · have hm' : (m == x) = false := by simpa using hm
    go_enter Tryd.func22, Tryd.ntmps22
    go_wp2_with (go_at_call 63; refine H1.out.mono ?_; rintro e w' ⟨rfl, hb'⟩; have hx1 := (hb'.cell (p := ⟨w.heap.size, 0, none⟩) (by simp)); have hx2 := (hb'.cell (p := ⟨w.heap.size, 1, none⟩) (by simp)); simp [go_sem] at hx1 hx2)
    go_ret
    exact ⟨by simp [hm], hbel.trans (hb'.mono (by simp))⟩
theorem bare_any (v : Value) (m place x : Int) (w : World) (hv : ErrIs w v m place) (hlaid : ErrLaid w) :
    Calls Tryd.prog 13 #[v, .int .i64 x] w fun e w' => e = .returned (.bool (decide (m = x) && decide (place = -1))) ∧ Below w.heap.size w w' := by
  have H1 := Lib.hid (at_any v m place x (-1) w hv hlaid)
  clear hv hlaid
  go_enter Tryd.func13, Tryd.ntmps13
  go_wp2_with (go_at_call 22; refine H1.out.mono ?_; rintro e w' ⟨rfl, hb'⟩)
  go_ret
  exact ⟨rfl, hb'⟩
end Go.Proofs.YtkncomfbedbikaaDoor
