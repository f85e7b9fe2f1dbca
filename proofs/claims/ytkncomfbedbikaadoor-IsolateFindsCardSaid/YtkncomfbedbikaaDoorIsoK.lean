/- isolate.All: what leads to what among transactions. -/
import Derived.Test.YtkncomfbedbikaaDoorIsoJ
import Derived.Test.YtkncomfbedbikaaDoorIsoD
namespace Go.Proofs.YtkncomfbedbikaaDoor
open Go.RowKit
attribute [local go_sem] eq_nil ne_nil nil_eq_nil nil_ne_nil
/-- The box of the three graphs. -/
structure EBox (w : World) (be : Nat) (r : TriR) (n c1 c2 c3 : Nat) : Prop where
  e1 : w.cell? ⟨be, 0, none⟩ = some (.slice (some ⟨r.g1, 0, none⟩) n c1)
  e2 : w.cell? ⟨be, 1, none⟩ = some (.slice (some ⟨r.g2, 0, none⟩) n c2)
  e3 : w.cell? ⟨be, 2, none⟩ = some (.slice (some ⟨r.g3, 0, none⟩) n c3)
  lt : be < w.heap.size
theorem EBox.keep {w w' : World} {be : Nat} {r : TriR} {n c1 c2 c3 : Nat} (h : EBox w be r n c1 c2 c3) (hk : w'.heap[be]? = w.heap[be]?) (hs : w.heap.size ≤ w'.heap.size) : EBox w' be r n c1 c2 c3 :=
  ⟨(World.cell?_of_block (w := w) hk).trans h.e1, (World.cell?_of_block (w := w) hk).trans h.e2, (World.cell?_of_block (w := w) hk).trans h.e3, Nat.lt_of_lt_of_le h.lt hs⟩
theorem EBox.below {w w' : World} {be : Nat} {r : TriR} {n c1 c2 c3 : Nat} (h : EBox w be r n c1 c2 c3) (hb : Below w.heap.size w w') : EBox w' be r n c1 c2 c3 := h.keep (hb.block be h.lt) hb.size
theorem EBox.alloc {w : World} {be : Nat} {r : TriR} {n c1 c2 c3 : Nat} (h : EBox w be r n c1 c2 c3) (o : Obj) : EBox (w.alloc o) be r n c1 c2 c3 := h.below ((Below.refl _ _).alloc (Nat.le_refl _) _)
def AllPost (S : GStory) (w : World) (e : Ending) (w' : World) : Prop :=
  ∃ (r : TriR) (c1 c2 c3 : Nat), e = .returned (.tuple #[.agg #[.slice (some ⟨r.g1, 0, none⟩) S.n c1, .slice (some ⟨r.g2, 0, none⟩) S.n c2, .slice (some ⟨r.g3, 0, none⟩) S.n c3], .nilIface]) ∧ S.n ≤ c1 ∧ S.n ≤ c2 ∧ S.n ≤ c3 ∧ Tri w' w.heap.size S.n r (overPM S 8 0) (seenM S S.n 0) (anewM S S.n 0) ∧ Below w.heap.size w w'
theorem boxes2 (w : World) (a b : Array Value) (ta tb : TypeId) : (∀ i, ((w.alloc (.cells a ta)).alloc (.cells b tb)).cell? ⟨w.heap.size, i, none⟩ = a[i]?) ∧ (∀ i, ((w.alloc (.cells a ta)).alloc (.cells b tb)).cell? ⟨w.heap.size + 1, i, none⟩ = b[i]?) ∧ (∀ i, ((w.alloc (.cells a ta)).alloc (.cells b tb)).frozen? ⟨w.heap.size + 1, i, none⟩ = false) ∧
    Below w.heap.size w ((w.alloc (.cells a ta)).alloc (.cells b tb)) ∧ w.heap.size + 1 < ((w.alloc (.cells a ta)).alloc (.cells b tb)).heap.size := by
  have h2 : ((w.alloc (.cells a ta)).alloc (.cells b tb)).heap[w.heap.size + 1]? = some (.cells b tb (0, 0)) := by rw [show w.heap.size + 1 = (w.alloc (.cells a ta)).heap.size by simp, heap_alloc_new]
  refine ⟨fun i => cell_of_row _ _ i a ta (0, 0) ?_, fun i => cell_of_row _ _ i b tb (0, 0) h2, fun i => frozen_of_row _ _ i b tb h2, ((Below.refl _ _).alloc (Nat.le_refl _) _).alloc (by simp) _, by simp⟩
  rw [heap_alloc_old _ _ (show w.heap.size < _ by simp), heap_alloc_new]
structure ResBox (w : World) (gr : Nat) : Prop where
  c : ∀ i, i < 3 → w.cell? ⟨gr, i, none⟩ = some (.slice none 0 0)
  f : ∀ i, w.frozen? ⟨gr, i, none⟩ = false
  lt : gr < w.heap.size
theorem ResBox.below {w w' : World} {gr B : Nat} (h : ResBox w gr) (hb : Below B w w') (hB : gr < B) : ResBox w' gr :=
  ⟨fun i hi => (hb.cell (p := ⟨gr, i, none⟩) hB).trans (h.c i hi), fun i => (hb.frozen (p := ⟨gr, i, none⟩) hB).trans (h.f i), Nat.lt_of_lt_of_le h.lt hb.size⟩
set_option maxRecDepth 100000 in
set_option maxHeartbeats 4000000 in
theorem iAll_err (A V : Option Addr) (c cv : Nat) (S : GStory) (w : World) (h : StoryAt w A V S) (hz : storyErr S ≠ 0) :
    Calls Tryd.prog 81 #[.agg #[.slice A S.n c, .slice V S.m cv]] w fun e w' => e = .returned (.tuple #[.agg #[.slice none 0 0, .slice none 0 0, .slice none 0 0], errV (storyErr S)]) ∧ Below w.heap.size w w' := by
  have HCK := Lib.hid (fun W (hb : Below w.heap.size w W) => iCheck_any A V c cv S W (h.below hb))
  have HX := Lib.hid (boxes2 w #[.slice A S.n c, .slice V S.m cv] #[.slice none 0 0, .slice none 0 0, .slice none 0 0] 77 166)
  have HR : Hid (ResBox ((w.alloc (.cells #[.slice A S.n c, .slice V S.m cv] 77)).alloc (.cells #[.slice none 0 0, .slice none 0 0, .slice none 0 0] 166)) (w.heap.size + 1)) := Lib.hid ⟨fun i hi => by
    rw [HX.out.2.1]
    match i, hi with
    | 0, _ => rfl
    | 1, _ => rfl
    | 2, _ => rfl, HX.out.2.2.1, HX.out.2.2.2.2⟩
  simp only [errV_ne _ hz] at HCK ⊢
  clear h hz
  generalize storyErr S = E at *
  go_enter Tryd.func81, Tryd.ntmps81
  go_wp2_with fail
  have HB0 := Lib.hid HX.out.2.2.2.1
  obtain ⟨gr, hgr⟩ : ∃ gr, gr = w.heap.size + 1 := ⟨_, rfl⟩
  rw [← hgr] at HR ⊢
  have HGR : Hid (w.heap.size ≤ gr) := Lib.hid (by omega)
  clear HX hgr
  generalize (w.alloc (.cells #[.slice A S.n c, .slice V S.m cv] 77)).alloc (.cells #[.slice none 0 0, .slice none 0 0, .slice none 0 0] 166) = W0 at *
  refine (HCK.out W0 HB0.out).mono ?_
  rintro e w1 ⟨rfl, hb1⟩
  have HB1 := Lib.hid (HB0.out.trans (hb1.mono HB0.out.size))
  have HR1 := Lib.hid (HR.out.below hb1 HR.out.lt)
  have r0 := HR1.out.c 0 (by omega)
  have r1 := HR1.out.c 1 (by omega)
  have r2 := HR1.out.c 2 (by omega)
  have f0 := HR1.out.f 0
  have f1 := HR1.out.f 1
  have f2 := HR1.out.f 2
  clear hb1
  go_wp2
  exact bodyPost_ret (v := .tuple #[.agg #[.slice none 0 0, .slice none 0 0, .slice none 0 0], .iface 23 (.int .i64 E)]) (by simp [results, Tryd.results81, go_sem, r0, r1, r2]) rfl ⟨rfl, ((HB1.out.setCell HGR.out _).setCell HGR.out _).setCell HGR.out _⟩
end Go.Proofs.YtkncomfbedbikaaDoor
