/- What the two Finds compute, in plain words. -/
import Derived.Test.YtkncomfbedbikaaDoorAhead7
namespace Go.Proofs.YtkncomfbedbikaaDoor
/-- The first pair i, j with h i j, row by row. -/
def pairs (h : Nat → Nat → Bool) (n : Nat) : Option (Nat × Nat) := (firstAt (fun i => anyB (h i) n) n).bind fun i => (firstAt (h i) n).map fun j => (i, j)
theorem pairs_none {h : Nat → Nat → Bool} {n : Nat} (hh : ∀ i, i < n → ∀ j, j < n → h i j = false) : pairs h n = none := by
  unfold pairs
  rw [firstAt_none fun i hi => anyB_false (hh i hi)]
  rfl
theorem pairs_found {h : Nat → Nat → Bool} {n i j : Nat} (h1 : ∀ i', i' < i → ∀ j, j < n → h i' j = false) (h2 : ∀ j', j' < j → h i j' = false) (h3 : h i j = true) (hi : i < n) (hj : j < n) : pairs h n = some (i, j) := by
  unfold pairs
  rw [firstAt_found (k := i) (fun i' hi' => anyB_false (h1 i' hi')) (anyB_true hj h3) hi]
  simp [firstAt_found h2 h3 hj]
/-- The pair i, j shows pattern p. -/
def hitB (F : Nat → GOp) (R : Nat → Int) (M : Nat → Nat → Bool) (p i j : Nat) : Bool :=
  (((F i).kind == 1) && ((F j).kind == 2) && ((F j).key == (F i).key) && M j i) && (if p = 3 then R i == -1 else decide (0 ≤ R i) && !((j : Int) == R i) && M (R i).toNat j)
def finds (F : Nat → GOp) (R : Nat → Int) (M : Nat → Nat → Bool) (n : Nat) : Int × Int × Int :=
  match firstAt (fun i => R i == -2) n with
  | some i => (1, (i : Int), (i : Int))
  | none => match firstAt (fun i => M i i) n with
    | some i => (2, (i : Int), (i : Int))
    | none => match pairs (hitB F R M 3) n with
      | some (i, j) => (3, (i : Int), (j : Int))
      | none => match pairs (hitB F R M 4) n with
        | some (i, j) => (4, (i : Int), (j : Int))
        | none => (0, 0, 0)
abbrev trip (t : Int × Int × Int) : Ending := .returned (.tuple #[.int .i64 t.1, .int .i64 t.2.1, .int .i64 t.2.2])
theorem skip_tree (F : Nat → GOp) (R : Nat → Int) (M : Nat → Nat → Bool) (p i j : Nat) :
    (((F i).kind != 1) = true ∧ hitB F R M p i j = false) ∨ (((F i).kind != 1) = false ∧ ((F j).kind != 2) = true ∧ hitB F R M p i j = false) ∨ (((F i).kind != 1) = false ∧ ((F j).kind != 2) = false ∧ ((F j).key != (F i).key) = true ∧ hitB F R M p i j = false) ∨
    (((F i).kind != 1) = false ∧ ((F j).kind != 2) = false ∧ ((F j).key != (F i).key) = false ∧ M j i = false ∧ hitB F R M p i j = false) ∨
    (((F i).kind != 1) = false ∧ ((F j).kind != 2) = false ∧ ((F j).key != (F i).key) = false ∧ M j i = true ∧ hitB F R M p i j = (if p = 3 then R i == -1 else decide (0 ≤ R i) && !((j : Int) == R i) && M (R i).toNat j)) := by
  unfold hitB bne
  cases ((F i).kind == 1) <;> cases ((F j).kind == 2) <;> cases ((F j).key == (F i).key) <;> cases (M j i) <;> simp
theorem readsR_range (F : Nat → GOp) (n i : Nat) : readsR F n i = -1 ∨ readsR F n i = -2 ∨ ∃ k, k < n ∧ readsR F n i = (k : Int) := by
  unfold readsR
  split
  · exact .inl rfl
  · cases h : firstAt (fun k => writesB (F k) ((F i).key, (F i).result)) n with
    | none => exact .inr (.inl rfl)
    | some k => exact .inr (.inr ⟨k, (firstAt_spec h).1, rfl⟩)
theorem wrote_lt {F : Nat → GOp} {k : Int × Int} : ∀ {n t : Nat}, wrote F n k = some t → t < n
  | 0, _, h => by cases h
  | n + 1, t, h => by
    unfold wrote at h
    split at h
    · cases h; omega
    · have := wrote_lt h; omega
theorem readsE_range (F : Nat → GOp) (n i : Nat) : readsE F n i = -1 ∨ readsE F n i = -2 ∨ ∃ k, k < n ∧ readsE F n i = (k : Int) := by
  unfold readsE
  split
  · exact .inl rfl
  · cases h : wrote F n ((F i).key, (F i).result) with
    | none => exact .inr (.inl rfl)
    | some k => exact .inr (.inr ⟨k, wrote_lt h, rfl⟩)
end Go.Proofs.YtkncomfbedbikaaDoor
