/- Plain words: all and any below a bound, the first number that is not 0. -/
namespace Go.Proofs.YtkncomfbedbikaaDoor
def allB (p : Nat → Bool) (n : Nat) : Bool := (List.range n).all p
def anyB (p : Nat → Bool) (n : Nat) : Bool := (List.range n).any p
theorem allB_true {p : Nat → Bool} {n : Nat} (h : ∀ i, i < n → p i = true) : allB p n = true := by simp [allB]; exact h
theorem allB_false {p : Nat → Bool} {n i : Nat} (hi : i < n) (h : p i = false) : allB p n = false := by simp [allB]; exact ⟨i, hi, h⟩
theorem anyB_true {p : Nat → Bool} {n i : Nat} (hi : i < n) (h : p i = true) : anyB p n = true := by simp [anyB]; exact ⟨i, hi, h⟩
theorem anyB_false {p : Nat → Bool} {n : Nat} (h : ∀ i, i < n → p i = false) : anyB p n = false := by simp [anyB]; exact h
theorem allB_iff {p : Nat → Bool} {n : Nat} : allB p n = true ↔ ∀ i, i < n → p i = true := by simp [allB]
theorem anyB_iff {p : Nat → Bool} {n : Nat} : anyB p n = true ↔ ∃ i, i < n ∧ p i = true := by simp [anyB]
theorem upto_succ {q : Nat → Prop} {j : Nat} (h : ∀ t, t < j → q t) (hj : q j) : ∀ t, t < j + 1 → q t := fun t ht => by
  rcases Nat.lt_or_ge t j with h' | h'
  · exact h t h'
  · obtain rfl : t = j := by omega
    exact hj
/-- The first of f 0, .., f (n - 1) that is not 0; 0 if there is none. -/
def firstErr (f : Nat → Int) : Nat → Int
  | 0 => 0
  | n + 1 => if firstErr f n ≠ 0 then firstErr f n else f n
theorem firstErr_none {f : Nat → Int} : ∀ {n : Nat}, (∀ i, i < n → f i = 0) → firstErr f n = 0
  | 0, _ => rfl
  | n + 1, h => by
    have := firstErr_none (n := n) fun i hi => h i (by omega)
    simp [firstErr, this, h n (by omega)]
theorem firstErr_found {f : Nat → Int} {k : Nat} (h : ∀ i, i < k → f i = 0) (hk : f k ≠ 0) : ∀ {n : Nat}, k < n → firstErr f n = f k
  | 0, hn => absurd hn (by omega)
  | n + 1, hn => by
    rcases Nat.lt_or_ge k n with h' | h'
    · have := firstErr_found h hk h'
      simp [firstErr, this, hk]
    · obtain rfl : k = n := by omega
      simp [firstErr, firstErr_none h]
theorem firstErr_zero {f : Nat → Int} : ∀ {n : Nat}, firstErr f n = 0 → ∀ i, i < n → f i = 0
  | 0, _, i, hi => absurd hi (by omega)
  | n + 1, h, i, hi => by
    simp only [firstErr] at h
    split at h
    · exact absurd h ‹_›
    · rename_i h0
      rcases Nat.lt_or_ge i n with h' | h'
      · exact firstErr_zero (by simpa using h0) i h'
      · obtain rfl : i = n := by omega
        exact h
end Go.Proofs.YtkncomfbedbikaaDoor
