/- Plain: the two sides of CausalFinds answer alike. -/
import Derived.Test.YtkncomfbedbikaaDoorFindsC
import Derived.Test.YtkncomfbedbikaaDoorCausQ
namespace Go.Proofs.YtkncomfbedbikaaDoor
theorem wrote_first {F : Nat → GOp} {k : Int × Int} : ∀ {n : Nat}, (∀ i t, i < n → t < i → writesB (F i) k = true → writesB (F t) k = true → False) → wrote F n k = firstAt (fun t => writesB (F t) k) n
  | 0, _ => rfl
  | n + 1, h => by
    have ih := wrote_first (n := n) fun i t hi ht => h i t (by omega) ht
    unfold wrote firstAt
    cases hf : firstAt (fun t => writesB (F t) k) n with
    | none => rw [ih, hf]
    | some t =>
      obtain ⟨h1, h2, _⟩ := firstAt_spec hf
      have : writesB (F n) k = false := by
        cases e : writesB (F n) k
        · rfl
        · exact (h n t (by omega) h1 e h2).elim
      rw [this, ih, hf]
      simp
theorem reads_eq {F : Nat → GOp} {n : Nat} (h : causalErrE F n = 0) (i : Nat) (hi : i < n) : readsE F n i = readsR F n i := by
  obtain ⟨h1, _⟩ := causal_zero h
  have hk := form_kind (cErr_zero (h1 i hi)).1
  have hw : wrote F n ((F i).key, (F i).result) = firstAt (fun k => writesB (F k) ((F i).key, (F i).result)) n := by
    refine wrote_first fun a t ha ht e1 e2 => ?_
    have h3 := (cErr_zero (h1 a ha)).2
    have h4 : twinB (F a) (F t) = true := by
      unfold twinB
      unfold writesB at e1
      simp at e1
      rw [← e1.2.1, ← e1.2.2, e2, e1.1]
      simp
    have := anyB_true (p := fun j => twinB (F a) (F j)) ht h4
    rw [h3] at this
    cases this
  unfold readsE readsR
  rw [hw]
  have : ((F i).kind = 2 ∨ (F i).result = 0) ↔ ((F i).kind ≠ 1 ∨ (F i).result = 0) := by omega
  simp only [this]
theorem firstAt_congr {p q : Nat → Bool} : ∀ {n : Nat}, (∀ i, i < n → p i = q i) → firstAt p n = firstAt q n
  | 0, _ => rfl
  | n + 1, h => by
    unfold firstAt
    rw [firstAt_congr (n := n) fun i hi => h i (by omega), h n (by omega)]
theorem anyB_congr {p q : Nat → Bool} {n : Nat} (h : ∀ i, i < n → p i = q i) : anyB p n = anyB q n := by
  apply bool_iff
  rw [anyB_iff, anyB_iff]
  exact ⟨fun ⟨j, hj, h1⟩ => ⟨j, hj, by rw [← h j hj]; exact h1⟩, fun ⟨j, hj, h1⟩ => ⟨j, hj, by rw [h j hj]; exact h1⟩⟩
theorem pairs_congr {h g : Nat → Nat → Bool} {n : Nat} (e : ∀ i, i < n → ∀ j, j < n → h i j = g i j) : pairs h n = pairs g n := by
  unfold pairs
  rw [firstAt_congr fun i hi => anyB_congr (e i hi)]
  cases hf : firstAt (fun i => anyB (g i) n) n with
  | none => rfl
  | some i => simp only [Option.bind_some]; rw [firstAt_congr (e i (firstAt_spec hf).1)]
theorem warsh_congr {E E' : Nat → Nat → Bool} {n : Nat} (h : ∀ i k, i < n → k < n → E i k = E' i k) : ∀ {m : Nat}, m ≤ n → ∀ i k, i < n → k < n → warsh E m i k = warsh E' m i k
  | 0, _, i, k, hi, hk => h i k hi hk
  | m + 1, hm, i, k, hi, hk => by
    unfold warsh
    rw [warsh_congr h (m := m) (by omega) i k hi hk, warsh_congr h (m := m) (by omega) i m hi (by omega), warsh_congr h (m := m) (by omega) m k (by omega) hk]
theorem finds_congr {F : Nat → GOp} {R R' : Nat → Int} {M M' : Nat → Nat → Bool} {n : Nat} (hR : ∀ i, i < n → R i = R' i) (hM : ∀ i k, i < n → k < n → M i k = M' i k) (hr : ∀ i, i < n → R i < (n : Int)) : finds F R M n = finds F R' M' n := by
  have hh : ∀ p, ∀ i, i < n → ∀ j, j < n → hitB F R M p i j = hitB F R' M' p i j := fun p i hi j hj => by
    unfold hitB
    rw [hM j i hj hi, ← hR i hi]
    by_cases hp : p = 3
    · simp [hp]
    · simp only [if_neg hp]
      by_cases h0 : 0 ≤ R i
      · rw [hM (R i).toNat j (by have := hr i hi; omega) hj]
      · simp [h0]
  unfold finds
  rw [firstAt_congr (q := fun i => R' i == -2) fun i hi => by rw [hR i hi], firstAt_congr (q := fun i => M' i i) fun i hi => hM i i hi hi, pairs_congr (hh 3), pairs_congr (hh 4)]
theorem finds_eq {F : Nat → GOp} {n : Nat} (h : causalErrE F n = 0) : finds F (readsE F n) (warsh (leadB F (readsE F n)) n) n = finds F (readsR F n) (warsh (leadB F (readsR F n)) n) n :=
  finds_congr (reads_eq h) (warsh_congr (fun i k _ hk => by unfold leadB; rw [reads_eq h k hk]) (Nat.le_refl n)) fun i hi => by
    rcases readsE_range F n i with e | e | ⟨k, hk, e⟩ <;> rw [e] <;> omega
end Go.Proofs.YtkncomfbedbikaaDoor
