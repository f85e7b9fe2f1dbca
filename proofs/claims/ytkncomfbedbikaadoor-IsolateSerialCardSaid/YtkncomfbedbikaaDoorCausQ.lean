/- Plain: the checks of ops on both sides answer alike. -/
import Derived.Test.YtkncomfbedbikaaDoorCausD
namespace Go.Proofs.YtkncomfbedbikaaDoor
theorem boolIff {a b : Bool} (h : a = true ↔ b = true) : a = b := by cases a <;> cases b <;> simp_all
theorem firstErr_congr {f g : Nat → Int} : ∀ {n : Nat}, (∀ i, i < n → (∀ t, t < i → f t = 0) → f i = g i) → firstErr f n = firstErr g n
  | 0, _ => rfl
  | n + 1, h => by
    have ih := firstErr_congr (n := n) fun i hi ht => h i (by omega) ht
    unfold firstErr
    rw [← ih]
    by_cases e : firstErr f n = 0
    · rw [h n (by omega) (firstErr_zero e)]
    · simp [e]
theorem opErrE_call {F : Nat → GOp} {i : Nat} (h : opErrE F i = 0) : orderB F i = false := by
  unfold opErrE at h
  cases ho : orderB F i
  · rfl
  · rw [ho] at h
    split at h
    · omega
    · split at h
      · omega
      · simp at h
theorem order_call {F : Nat → GOp} {i : Nat} (h : orderB F i = false) : 0 ≤ (F i).call := by
  unfold orderB at h
  simp at h
  omega
theorem clash_eq {o p : GOp} (ho : 0 ≤ o.call) (hp : 0 ≤ p.call) : clashE o p = clashR o p := by
  apply boolIff
  unfold clashE clashN clashR
  simp
  omega
theorem opErr_eq {F : Nat → GOp} {i : Nat} (h : ∀ t, t < i → opErrE F t = 0) : opErrE F i = opErrR F i := by
  unfold opErrE opErrR
  split
  · rfl
  · split
    · rfl
    · split
      · rfl
      · rename_i ho
        have ho' : orderB F i = false := by simpa using ho
        have : anyB (fun j => clashE (F i) (F j)) i = anyB (fun j => clashR (F i) (F j)) i := by
          apply boolIff
          rw [anyB_iff, anyB_iff]
          exact ⟨fun ⟨j, hj, h1⟩ => ⟨j, hj, by rw [← clash_eq (order_call ho') (order_call (opErrE_call (h j hj)))]; exact h1⟩, fun ⟨j, hj, h1⟩ => ⟨j, hj, by rw [clash_eq (order_call ho') (order_call (opErrE_call (h j hj)))]; exact h1⟩⟩
        rw [this]
theorem opsErr_eq (F : Nat → GOp) (n : Nat) : opsErrE F n = opsErrR F n := by
  unfold opsErrE opsErrR
  split
  · rfl
  · exact firstErr_congr fun i _ h => opErr_eq h
theorem causalErr_eq (F : Nat → GOp) (n : Nat) : causalErrE F n = causalErrR F n := by
  unfold causalErrE causalErrR
  rw [opsErr_eq]
theorem causal_zero {F : Nat → GOp} {n : Nat} (h : causalErrE F n = 0) : (∀ i, i < n → cErr F i = 0) ∧ n ≤ 40 := by
  unfold causalErrE at h
  split at h
  · rename_i h1
    exact absurd h h1
  · rename_i h1
    refine ⟨firstErr_zero h, ?_⟩
    have h2 : opsErrE F n = 0 := by simpa using h1
    unfold opsErrE at h2
    split at h2
    · omega
    · omega
theorem cErr_zero {F : Nat → GOp} {i : Nat} (h : cErr F i = 0) : formB (F i) = false ∧ anyB (fun j => twinB (F i) (F j)) i = false := by
  unfold cErr at h
  cases h1 : formB (F i)
  · refine ⟨rfl, ?_⟩
    cases h2 : anyB (fun j => twinB (F i) (F j)) i
    · rfl
    · rw [h1, h2] at h; simp at h
  · rw [h1] at h; simp at h
theorem form_kind {o : GOp} (h : formB o = false) : o.kind = 1 ∨ o.kind = 2 := by
  unfold formB at h
  simp at h
  omega
end Go.Proofs.YtkncomfbedbikaaDoor
