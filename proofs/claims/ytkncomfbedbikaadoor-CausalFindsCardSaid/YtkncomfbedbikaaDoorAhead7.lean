/- testimonyref.Ahead7: what comes ahead of what, gone over by walks. -/
import Derived.Test.YtkncomfbedbikaaDoorWalks
import Derived.Test.YtkncomfbedbikaaDoorCausE
namespace Go.Proofs.YtkncomfbedbikaaDoor
open Go.RowKit
theorem BoolssAt.congr {w : World} {A : Option Addr} {n : Nat} {M M' : Nat → Nat → Bool} (h : BoolssAt w A n M) (e : ∀ i k, i < n → k < n → M i k = M' i k) : BoolssAt w A n M' := fun i hi => by
  obtain ⟨b, off, hA, hb, b2, off2, c2, h1, h2, h3, h4⟩ := h i hi
  exact ⟨b, off, hA, hb, b2, off2, c2, h1, h2, h3, fun k hk => by rw [← e i k hi hk]; exact h4 k hk⟩
theorem bool_iff {a b : Bool} (h : a = true ↔ b = true) : a = b := by cases a <;> cases b <;> simp at h ⊢
theorem lead7_enter (args : Array Value) (W : World) : (callFunc 92 args).run Tryd.prog W = .ok (.enter 92 args) W := by kernel_rfl
set_option maxRecDepth 100000 in
set_option maxHeartbeats 4000000 in
theorem Ahead7_any (A : Option Addr) (n c : Nat) (F : Nat → GOp) (w : World) (hn : n ≤ 60) (hA : OpsAt w A n F) :
    Calls Tryd.prog 41 #[.slice A n c] w fun e w' => ∃ B c', e = .returned (.slice B n c') ∧ n ≤ c' ∧ BoolssAt w' B n (warsh (leadB F (readsR F n)) n) ∧ Below w.heap.size w w' := by
  have hcell : (w.alloc (.cells #[.slice A n c] 22)).cell? ⟨w.heap.size, 0, none⟩ = some (.slice A n c) := by simp [World.cell?_alloc_new]
  have hA' := hA.below ((Below.refl w.heap.size w).alloc (Nat.le_refl _) (.cells #[.slice A n c] 22))
  have HW := Lib.hid (walks_any 92 (.pointer (some ⟨w.heap.size, 0, none⟩)) n (leadB F (readsR F n)) (w.alloc (.cells #[.slice A n c] 22)) hn lead7_enter (fun W i k hb hi hk => lead7_any w.heap.size A n c i k F W hn hi hk (hA'.below hb) (by rw [hb.cell (by simp)]; exact hcell)))
  clear hA hA'
  go_enter Tryd.func41, Tryd.ntmps41
  go_wp2_with fail
  refine HW.out.mono ?_
  rintro e w' ⟨B, c', M, rfl, h1, h2, h3, h4⟩
  have HB := Lib.hid (h2.congr fun i k hi hk => bool_iff ((h3 i k hi hk).trans (warsh_iff hk).symm))
  have HL := Lib.hid h4
  clear h2 h3 h4
  go_wp2_with fail
  go_ret
  exact ⟨B, c', rfl, h1, HB.out, (((Below.refl w.heap.size w).alloc (Nat.le_refl _) _)).trans (HL.out.mono (by simp))⟩
end Go.Proofs.YtkncomfbedbikaaDoor
