/- Plain: what a session's checks and findings are; nothing but what was written stands in a row. -/
import Derived.Test.YtkncomfbedbikaaDoorSessB
import Derived.Test.YtkncomfbedbikaaDoorCausQ
namespace Go.Proofs.YtkncomfbedbikaaDoor
/-- The values that are written under key k by the ops below n. -/
def written (F : Nat → GOp) (k : Nat) : Nat → List Int
  | 0 => []
  | n + 1 => if (F n).kind = 2 ∧ (F n).key = (k : Int) then (F n).a :: written F k n else written F k n
def sessOp (F : Nat → GOp) (L : Nat → Nat) (X : Nat → Nat → Int) (i : Nat) : Int :=
  if (F i).kind = 2 then (if idxF (X (F i).key.toNat) (L (F i).key.toNat) (F i).a < 0 then 7 else 0)
  else if (F i).result ≠ 0 ∧ idxF (X (F i).key.toNat) (L (F i).key.toNat) (F i).result < 0 then 8 else 0
/-- The error of ops and rows; ce: the ops' own. -/
def sessErr (ce : Int) (F : Nat → GOp) (n m : Nat) (L : Nat → Nat) (X : Nat → Nat → Int) : Int :=
  if ce ≠ 0 then ce else if m ≠ 8 then 3 else if firstErr (sessOp F L X) n ≠ 0 then firstErr (sessOp F L X) n else if anyB (fun k => decide (L k ≠ (written F k n).length)) 8 = true then 3 else 0
theorem nodup_length {xs : List Int} : ∀ {ys : List Int}, ys.Nodup → (∀ y ∈ ys, y ∈ xs) → ys.length ≤ xs.length := by
  intro ys
  induction ys generalizing xs with
  | nil => intro _ _; simp
  | cons y ys ih =>
    intro h1 h2
    obtain ⟨h3, h4⟩ := List.nodup_cons.1 h1
    have hy : y ∈ xs := h2 y List.mem_cons_self
    have := ih (xs := xs.erase y) h4 fun z hz => (List.mem_erase_of_ne (fun e => h3 (by rw [← e]; exact hz))).2 (h2 z (List.mem_cons_of_mem _ hz))
    rw [List.length_erase_of_mem hy] at this
    have hl : 0 < xs.length := List.length_pos_of_mem hy
    simp only [List.length_cons]
    omega
theorem written_mem {F : Nat → GOp} {k : Nat} : ∀ {n : Nat} {y : Int}, y ∈ written F k n → ∃ i, i < n ∧ (F i).kind = 2 ∧ (F i).key = (k : Int) ∧ (F i).a = y
  | 0, _, h => by simp [written] at h
  | n + 1, y, h => by
    unfold written at h
    split at h
    · rename_i hc
      rcases List.mem_cons.1 h with rfl | h
      · exact ⟨n, by omega, hc.1, hc.2, rfl⟩
      · obtain ⟨i, hi, h'⟩ := written_mem h
        exact ⟨i, by omega, h'⟩
    · obtain ⟨i, hi, h'⟩ := written_mem h
      exact ⟨i, by omega, h'⟩
theorem written_nodup {F : Nat → GOp} {k : Nat} : ∀ {n : Nat}, (∀ i, i < n → anyB (fun j => twinB (F i) (F j)) i = false) → (written F k n).Nodup
  | 0, _ => by simp [written]
  | n + 1, h => by
    have ih := written_nodup (k := k) (n := n) fun i hi => h i (by omega)
    unfold written
    split
    · rename_i hc
      refine List.nodup_cons.2 ⟨fun hm => ?_, ih⟩
      obtain ⟨i, hi, h1, h2, h3⟩ := written_mem hm
      have ht : twinB (F n) (F i) = true := by
        unfold twinB writesB
        simp [hc.1, h1, h2, h3, hc.2]
      have := anyB_true (p := fun j => twinB (F n) (F j)) hi ht
      rw [h n (by omega)] at this
      cases this
    · exact ih
theorem idxF_neg {f : Nat → Int} {n : Nat} {v : Int} (h : ∀ t, t < n → f t ≠ v) : idxF f n v = -1 := by
  unfold idxF
  rw [firstAt_none fun t ht => by simpa using h t ht]
  rfl
theorem idxF_mem {f : Nat → Int} {n : Nat} {v : Int} (h : ¬ idxF f n v < 0) : ∃ t, t < n ∧ f t = v := by
  unfold idxF at h
  cases hf : firstAt (fun t => f t == v) n with
  | none => rw [hf] at h; simp [optN] at h
  | some t =>
    obtain ⟨h1, h2, _⟩ := firstAt_spec hf
    exact ⟨t, h1, by simpa using h2⟩
/-- 0 stands in no row. -/
theorem zero_nowhere {F : Nat → GOp} {n m : Nat} {L : Nat → Nat} {X : Nat → Nat → Int} (hc : causalErrE F n = 0) (h : sessErr 0 F n m L X = 0) {k : Nat} (hk : k < 8) : idxF (X k) (L k) 0 = -1 := by
  obtain ⟨h1, _⟩ := causal_zero hc
  unfold sessErr at h
  split at h
  · omega
  · split at h
    · omega
    · split at h
      · omega
      · rename_i hf
        split at h
        · omega
        · rename_i ha
          have hf' : firstErr (sessOp F L X) n = 0 := by omega
          have hL : L k = (written F k n).length := by
            cases e : decide (L k ≠ (written F k n).length)
            · simpa using e
            · exact absurd (anyB_true (p := fun k => decide (L k ≠ (written F k n).length)) hk e) ha
          refine idxF_neg fun t ht e => ?_
          have hsub : ∀ y ∈ (0 : Int) :: written F k n, y ∈ (List.range (L k)).map (X k) := fun y hy => by
            rcases List.mem_cons.1 hy with rfl | hy
            · exact List.mem_map.2 ⟨t, List.mem_range.2 ht, e⟩
            · obtain ⟨i, hi, g1, g2, g3⟩ := written_mem hy
              have := firstErr_zero hf' i hi
              unfold sessOp at this
              rw [if_pos g1] at this
              split at this
              · omega
              · rename_i hneg
                rw [g2] at hneg
                obtain ⟨t', ht', e'⟩ := idxF_mem hneg
                exact List.mem_map.2 ⟨t', List.mem_range.2 ht', by rw [← g3]; exact e'⟩
          have hnd : ((0 : Int) :: written F k n).Nodup := by
            refine List.nodup_cons.2 ⟨fun hm => ?_, written_nodup fun i hi => (cErr_zero (h1 i hi)).2⟩
            obtain ⟨i, hi, g1, g2, g3⟩ := written_mem hm
            have := (cErr_zero (h1 i hi)).1
            unfold formB at this
            simp [g1, g3] at this
          have := nodup_length hnd hsub
          simp at this
          omega
/-- x, y are the first pair of S (by the later, then by the earlier) that p has; -1, -1: there is none. -/
def FirstIn (p : Nat → Nat → Bool) (S : Nat → Nat → Prop) (x y : Int) : Prop :=
  (x = -1 ∧ y = -1 ∧ ∀ i k, S i k → p i k = false) ∨ ∃ i k : Nat, x = i ∧ y = k ∧ S i k ∧ p i k = true ∧ ∀ i' k', S i' k' → p i' k' = true → k < k' ∨ (k = k' ∧ i ≤ i')
namespace FirstIn
variable {p q : Nat → Nat → Bool} {S S' : Nat → Nat → Prop} {x y x' y' : Int}
theorem unique (h : FirstIn p S x y) (h' : FirstIn p S x' y') : x = x' ∧ y = y' := by
  rcases h with ⟨rfl, rfl, h1⟩ | ⟨i, k, rfl, rfl, h1, h2, h3⟩ <;> rcases h' with ⟨rfl, rfl, g1⟩ | ⟨i', k', rfl, rfl, g1, g2, g3⟩
  · exact ⟨rfl, rfl⟩
  · rw [h1 _ _ g1] at g2; cases g2
  · rw [g1 _ _ h1] at h2; cases h2
  · have a := h3 _ _ g1 g2
    have b := g3 _ _ h1 h2
    omega
theorem congr (h : FirstIn p S x y) (e : ∀ i k, S i k ↔ S' i k) : FirstIn p S' x y := by
  rcases h with ⟨rfl, rfl, h1⟩ | ⟨i, k, rfl, rfl, h1, h2, h3⟩
  · exact .inl ⟨rfl, rfl, fun i k hs => h1 i k ((e i k).2 hs)⟩
  · exact .inr ⟨i, k, rfl, rfl, (e i k).1 h1, h2, fun i' k' hs => h3 i' k' ((e i' k').2 hs)⟩
theorem pcongr (h : FirstIn p S x y) (e : ∀ i k, S i k → p i k = q i k) : FirstIn q S x y := by
  rcases h with ⟨rfl, rfl, h1⟩ | ⟨i, k, rfl, rfl, h1, h2, h3⟩
  · exact .inl ⟨rfl, rfl, fun i k hs => (e i k hs) ▸ h1 i k hs⟩
  · exact .inr ⟨i, k, rfl, rfl, h1, (e i k h1) ▸ h2, fun i' k' hs hq => h3 i' k' hs ((e i' k' hs).trans hq)⟩
theorem range (h : FirstIn p S x y) : (x = -1 ∧ y = -1) ∨ (0 ≤ x ∧ 0 ≤ y) := by
  rcases h with ⟨rfl, rfl, _⟩ | ⟨i, k, rfl, rfl, _⟩
  · exact .inl ⟨rfl, rfl⟩
  · exact .inr ⟨by omega, by omega⟩
/-- One pair more that p has not. -/
theorem skip (h : FirstIn p S x y) (I K : Nat) (hp : p I K = false) : FirstIn p (fun i k => S i k ∨ (i = I ∧ k = K)) x y := by
  rcases h with ⟨rfl, rfl, h1⟩ | ⟨i, k, rfl, rfl, h1, h2, h3⟩
  · refine .inl ⟨rfl, rfl, fun i k hs => ?_⟩
    rcases hs with hs | ⟨rfl, rfl⟩
    · exact h1 i k hs
    · exact hp
  · refine .inr ⟨i, k, rfl, rfl, .inl h1, h2, fun i' k' hs hq => ?_⟩
    rcases hs with hs | ⟨rfl, rfl⟩
    · exact h3 _ _ hs hq
    · rw [hp] at hq; cases hq
/-- One pair more, behind all. -/
theorem behind (h : FirstIn p S x y) (I K : Nat) (hS : ∀ i k, S i k → k < K ∨ (k = K ∧ i < I)) (h0 : 0 ≤ x) : FirstIn p (fun i k => S i k ∨ (i = I ∧ k = K)) x y := by
  rcases h with ⟨rfl, rfl, h1⟩ | ⟨i, k, rfl, rfl, h1, h2, h3⟩
  · omega
  · refine .inr ⟨i, k, rfl, rfl, .inl h1, h2, fun i' k' hs hq => ?_⟩
    rcases hs with hs | ⟨rfl, rfl⟩
    · exact h3 _ _ hs hq
    · have := hS _ _ h1
      omega
theorem found (h : FirstIn p S x y) (I K : Nat) (hx : x < 0) (hp : p I K = true) : FirstIn p (fun i k => S i k ∨ (i = I ∧ k = K)) I K := by
  rcases h with ⟨rfl, rfl, h1⟩ | ⟨i, k, rfl, rfl, h1, h2, h3⟩
  · refine .inr ⟨I, K, rfl, rfl, .inr ⟨rfl, rfl⟩, hp, fun i' k' hs hq => ?_⟩
    rcases hs with hs | ⟨rfl, rfl⟩
    · rw [h1 _ _ hs] at hq; cases hq
    · exact .inr ⟨rfl, Nat.le_refl _⟩
  · omega
/-- One pair more, ahead of all. -/
theorem ahead (I K : Nat) (hS : ∀ i k, S i k → K < k ∨ (K = k ∧ I < i)) (hp : p I K = true) : FirstIn p (fun i k => S i k ∨ (i = I ∧ k = K)) I K := by
  refine .inr ⟨I, K, rfl, rfl, .inr ⟨rfl, rfl⟩, hp, fun i' k' hs hq => ?_⟩
  rcases hs with hs | ⟨rfl, rfl⟩
  · have := hS _ _ hs
    omega
  · exact .inr ⟨rfl, Nat.le_refl _⟩
theorem none (hS : ∀ i k, ¬ S i k) : FirstIn p S (-1) (-1) := .inl ⟨rfl, rfl, fun i k h => absurd h (hS i k)⟩
end FirstIn
/-- What is broken by ops i, k: the g-th thing. -/
def brkB (L : Nat → Nat) (X : Nat → Nat → Int) (o q : GOp) : Bool := decide (o.proc = q.proc) && decide (o.key = q.key) && decide (ageF L X q < ageF L X o)
def brkS (F : Nat → GOp) (L : Nat → Nat) (X : Nat → Nat → Int) (g i k : Nat) : Bool := decide (nameF (F i).kind (F k).kind = g) && brkB L X (F i) (F k)
def idxV (L : Nat → Nat) (X : Nat → Nat → Int) (o : GOp) : Int := idxF (X o.key.toNat) (L o.key.toNat) (valueO o)
def gA (g : Nat) : Int := if g = 0 ∨ g = 2 then 2 else 1
def gB (g : Nat) : Int := if g = 0 ∨ g = 1 then 1 else 2
def brkR (F : Nat → GOp) (L : Nat → Nat) (X : Nat → Nat → Int) (g i k : Nat) : Bool :=
  decide ((F i).kind = gA g) && decide ((F k).kind = gB g) && decide ((F i).proc = (F k).proc) && decide ((F i).key = (F k).key) && decide (idxV L X (F k) < idxV L X (F i))
theorem age_idx {F : Nat → GOp} {n m : Nat} {L : Nat → Nat} {X : Nat → Nat → Int} (hc : causalErrE F n = 0) (h : sessErr 0 F n m L X = 0) (hk : ∀ i, i < n → 0 ≤ (F i).key ∧ (F i).key ≤ 7) {i : Nat} (hi : i < n) : ageF L X (F i) = idxV L X (F i) := by
  unfold ageF idxV
  split
  · rename_i h0
    rw [h0, zero_nowhere hc h (by have := hk i hi; omega)]
  · rfl
theorem brk_eq {F : Nat → GOp} {n m : Nat} {L : Nat → Nat} {X : Nat → Nat → Int} (hc : causalErrE F n = 0) (h : sessErr 0 F n m L X = 0) (hk : ∀ i, i < n → 0 ≤ (F i).key ∧ (F i).key ≤ 7) {g i k : Nat} (hg : g < 4) (hi : i < n) (hkn : k < n) : brkR F L X g i k = brkS F L X g i k := by
  have h1 := form_kind (cErr_zero ((causal_zero hc).1 i hi)).1
  have h2 := form_kind (cErr_zero ((causal_zero hc).1 k hkn)).1
  unfold brkR brkS brkB
  rw [age_idx hc h hk hi, age_idx hc h hk hkn]
  rw [show decide (nameF (F i).kind (F k).kind = g) = (decide ((F i).kind = gA g) && decide ((F k).kind = gB g)) by
    match g, hg with
    | 0, _ => rcases h1 with h1 | h1 <;> rcases h2 with h2 | h2 <;> simp [nameF, gA, gB, h1, h2]
    | 1, _ => rcases h1 with h1 | h1 <;> rcases h2 with h2 | h2 <;> simp [nameF, gA, gB, h1, h2]
    | 2, _ => rcases h1 with h1 | h1 <;> rcases h2 with h2 | h2 <;> simp [nameF, gA, gB, h1, h2]
    | 3, _ => rcases h1 with h1 | h1 <;> rcases h2 with h2 | h2 <;> simp [nameF, gA, gB, h1, h2]]
  simp [Bool.and_assoc]
end Go.Proofs.YtkncomfbedbikaaDoor
