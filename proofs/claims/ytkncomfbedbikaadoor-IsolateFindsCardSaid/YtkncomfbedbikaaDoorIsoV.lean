/- Plain: which of Adya's six things there are. -/
import Derived.Test.YtkncomfbedbikaaDoorIsoU
import Derived.Test.YtkncomfbedbikaaDoorIsoN
namespace Go.Proofs.YtkncomfbedbikaaDoor
open Go.RowKit
/-- An op is a read by one that commits of what another one wrote. -/
def readB (S : GStory) (t : Nat) (o : IOp) : Bool := S.c t && !o.wr && decide (0 ≤ o.frm) && (o.frm != (t : Int))
def abH (S : GStory) (t : Nat) (o : IOp) : Bool := readB S t o && !S.c o.frm.toNat
def beH (S : GStory) (t : Nat) (o : IOp) : Bool := readB S t o && (o.num + 1 != (vers (S.o o.frm.toNat) o.key (S.k o.frm.toNat) : Int))
def abF (S : GStory) (T J : Nat) : Bool := twoB (fun t j => abH S t (S.o t j)) S.k T J
def beF (S : GStory) (T J : Nat) : Bool := twoB (fun t j => beH S t (S.o t j)) S.k T J
theorem iread_tree (S : GStory) (t : Nat) (o : IOp) (h1 : -1 ≤ o.frm) :
    (S.c t = false ∧ readB S t o = false) ∨ (S.c t = true ∧ o.wr = true ∧ readB S t o = false) ∨ (S.c t = true ∧ o.wr = false ∧ o.frm = -1 ∧ readB S t o = false) ∨ (S.c t = true ∧ o.wr = false ∧ o.frm = (t : Int) ∧ readB S t o = false) ∨ (∃ f : Nat, S.c t = true ∧ o.wr = false ∧ o.frm = (f : Int) ∧ f ≠ t ∧ readB S t o = true) := by
  unfold readB
  cases hc : S.c t
  · exact .inl ⟨rfl, rfl⟩
  cases hw : o.wr
  rotate_left
  · exact .inr (.inl ⟨rfl, rfl, rfl⟩)
  by_cases h : o.frm = -1
  · exact .inr (.inr (.inl ⟨rfl, rfl, h, by rw [h]; rfl⟩))
  obtain ⟨f, hf⟩ : ∃ f : Nat, o.frm = (f : Int) := ⟨o.frm.toNat, by omega⟩
  by_cases e : f = t
  · exact .inr (.inr (.inr (.inl ⟨rfl, rfl, by rw [hf, e], by rw [hf, e]; simp⟩)))
  · exact .inr (.inr (.inr (.inr ⟨f, rfl, rfl, hf, e, by rw [hf]; simp; omega⟩)))
theorem abH_no {S : GStory} {t : Nat} {o : IOp} (h : readB S t o = false) : abH S t o = false := by simp [abH, h]
theorem beH_no {S : GStory} {t : Nat} {o : IOp} (h : readB S t o = false) : beH S t o = false := by simp [beH, h]
theorem abH_yes {S : GStory} {t f : Nat} {o : IOp} (h : readB S t o = true) (hf : o.frm = (f : Int)) : abH S t o = !S.c f := by simp [abH, h, hf]
theorem beH_yes {S : GStory} {t f : Nat} {o : IOp} (h : readB S t o = true) (hf : o.frm = (f : Int)) : beH S t o = (o.num + 1 != (vers (S.o f) o.key (S.k f) : Int)) := by simp [beH, h, hf]
theorem abF_succ (S : GStory) (T J : Nat) : abF S T (J + 1) = (abF S T J || abH S T (S.o T J)) := twoB_succ _ _ _ _
theorem beF_succ (S : GStory) (T J : Nat) : beF S T (J + 1) = (beF S T J || beH S T (S.o T J)) := twoB_succ _ _ _ _
/-- Six Booleans in a row. -/
def six (a b c d e f : Bool) (t : Nat) : Bool := if t = 0 then a else if t = 1 then b else if t = 2 then c else if t = 3 then d else if t = 4 then e else f
theorem six_set {w : World} {g : Nat} {t : TypeId} {F F' : Nat → Bool} (h : w.rowIs g t 6 (fun k => .bool (F k))) (i : Nat) (x : Bool) (e : ∀ k, k < 6 → F' k = if k = i then x else F k) : (w.setCell ⟨g, i, none⟩ (.bool x)).rowIs g t 6 (fun k => .bool (F' k)) :=
  (h.set i (.bool x)).congr fun k hk => by
    rw [e k hk]
    by_cases hb : k = i <;> simp [hb]
theorem six0 (a b c d e f x : Bool) (k : Nat) (_ : k < 6) : six x b c d e f k = if k = 0 then x else six a b c d e f k := by
  unfold six
  by_cases h : k = 0 <;> simp [h]
theorem six1 (a b c d e f x : Bool) (k : Nat) (_ : k < 6) : six a x c d e f k = if k = 1 then x else six a b c d e f k := by
  unfold six
  by_cases h : k = 1 <;> simp [h]
theorem six2 (a b c d e f x : Bool) (k : Nat) (_ : k < 6) : six a b x d e f k = if k = 2 then x else six a b c d e f k := by
  unfold six
  by_cases h : k = 2 <;> simp [h]
theorem six3 (a b c d e f x : Bool) (k : Nat) (_ : k < 6) : six a b c x e f k = if k = 3 then x else six a b c d e f k := by
  unfold six
  by_cases h : k = 3 <;> simp [h]
theorem six4 (a b c d e f x : Bool) (k : Nat) (_ : k < 6) : six a b c d x f k = if k = 4 then x else six a b c d e f k := by
  unfold six
  by_cases h : k = 4 <;> simp [h]
theorem six5 (a b c d e f x : Bool) (k : Nat) (hk : k < 6) : six a b c d e x k = if k = 5 then x else six a b c d e f k := by
  unfold six
  by_cases h : k = 5
  · simp [h]
  · by_cases h4 : k = 4 <;> by_cases h3 : k = 3 <;> by_cases h2 : k = 2 <;> by_cases h1 : k = 1 <;> by_cases h0 : k = 0 <;> simp [h, h0, h1, h2, h3, h4] <;> omega
/-- Over and Seen. -/
def knownM (S : GStory) : Nat → Nat → Bool := orB (triMs (overPM S 8 0) (seenM S S.n 0) (anewM S S.n 0)) 2
noncomputable def findsV (S : GStory) : Nat → Bool :=
  six (roundB (overPM S 8 0) S.n) (abF S S.n 0) (beF S S.n 0) (roundB (knownM S) S.n) (backB (anewM S S.n 0) (warsh (knownM S) S.n) S.n) (backB (anewM S S.n 0) (warsh (serM S) S.n) S.n)
def levelV (F : Nat → Bool) : Int := if F 0 = true then 0 else if F 1 = true then 1 else if F 2 = true then 1 else if F 3 = true then 1 else if F 5 = true then 2 else 3
theorem orB_two (M N : Nat → Nat → Bool) (X : Nat → Nat → Bool) (a b : Nat) : orB (triMs M N X) 2 a b = (M a b || N a b) := by
  rw [orB_succ, orB_succ]
  simp [orB, triMs, anyB]
theorem orB_three (M N X : Nat → Nat → Bool) (a b : Nat) : orB (triMs M N X) 3 a b = (M a b || N a b || X a b) := by
  rw [orB_succ, orB_two]
  simp [triMs]
theorem ser_known (S : GStory) (X : Nat → Nat → Bool) : orB (triMs (knownM S) (anewM S S.n 0) X) 2 = serM S := by
  funext a b
  unfold serM knownM
  rw [orB_two, orB_two, orB_three]
theorem reach_warsh {C M : Nat → Nat → Bool} {n : Nat} (h : ∀ i k, i < n → k < n → (C i k = true ↔ Reach M n i k)) (i k : Nat) (hi : i < n) (hk : k < n) : C i k = warsh M n i k := by
  rw [Bool.eq_iff_iff, h i k hi hk, warsh_iff hk]
theorem gs2_of {w : World} {A1 A2 : Option Addr} {n : Nat} {M1 M2 X : Nat → Nat → Bool} {c1 c2 : Nat} {ty : TypeId} (h1 : BoolssAt w A1 n M1) (h2 : BoolssAt w A2 n M2) (g1 : n ≤ c1) (g2 : n ≤ c2) :
    GsAt (w.alloc (.cells #[.slice A1 n c1, .slice A2 n c2] ty)) w.heap.size 2 n (triMs M1 M2 X) := by
  have hb : Below w.heap.size w (w.alloc (.cells #[.slice A1 n c1, .slice A2 n c2] ty)) := (Below.refl _ _).alloc (Nat.le_refl _) _
  refine ⟨by simp, fun t ht => ?_⟩
  match t, ht with
  | 0, _ => exact ⟨_, c1, by rw [World.cell?_alloc_new]; rfl, g1, h1.below hb⟩
  | 1, _ => exact ⟨_, c2, by rw [World.cell?_alloc_new]; rfl, g2, h2.below hb⟩
theorem gs3_of {w : World} {A1 A2 A3 : Option Addr} {n : Nat} {M1 M2 M3 : Nat → Nat → Bool} {c1 c2 c3 : Nat} {ty : TypeId} (h1 : BoolssAt w A1 n M1) (h2 : BoolssAt w A2 n M2) (h3 : BoolssAt w A3 n M3) (g1 : n ≤ c1) (g2 : n ≤ c2) (g3 : n ≤ c3) :
    GsAt (w.alloc (.cells #[.slice A1 n c1, .slice A2 n c2, .slice A3 n c3] ty)) w.heap.size 3 n (triMs M1 M2 M3) := by
  have hb : Below w.heap.size w (w.alloc (.cells #[.slice A1 n c1, .slice A2 n c2, .slice A3 n c3] ty)) := (Below.refl _ _).alloc (Nat.le_refl _) _
  refine ⟨by simp, fun t ht => ?_⟩
  match t, ht with
  | 0, _ => exact ⟨_, c1, by rw [World.cell?_alloc_new]; rfl, g1, h1.below hb⟩
  | 1, _ => exact ⟨_, c2, by rw [World.cell?_alloc_new]; rfl, g2, h2.below hb⟩
  | 2, _ => exact ⟨_, c3, by rw [World.cell?_alloc_new]; rfl, g3, h3.below hb⟩
end Go.Proofs.YtkncomfbedbikaaDoor
