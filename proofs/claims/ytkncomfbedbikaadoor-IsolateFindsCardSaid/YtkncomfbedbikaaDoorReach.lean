/- Plain words: all and any below a bound, the first number that is not 0. · Plain words: what can be come to over roads; a search by a queue; all between gone over. -/

namespace Go.Proofs.YtkncomfbedbikaaDoor
def allB (p : Nat → Bool) (n : Nat) : Bool := (List.range n).all p
def anyB (p : Nat → Bool) (n : Nat) : Bool := (List.range n).any p
theorem allB_true {p : Nat → Bool} {n : Nat} (h : ∀ i, i < n → p i = true) : allB p n = true := by simp [allB]; exact h
theorem allB_false {p : Nat → Bool} {n i : Nat} (hi : i < n) (h : p i = false) : allB p n = false := by simp [allB]; exact ⟨i, hi, h⟩
theorem anyB_true {p : Nat → Bool} {n i : Nat} (hi : i < n) (h : p i = true) : anyB p n = true := by simp [anyB]; exact ⟨i, hi, h⟩
theorem anyB_false {p : Nat → Bool} {n : Nat} (h : ∀ i, i < n → p i = false) : anyB p n = false := by simp [anyB]; exact h
theorem allB_iff {p : Nat → Bool} {n : Nat} : allB p n = true ↔ ∀ i, i < n → p i = true := by simp [allB]
theorem anyB_iff {p : Nat → Bool} {n : Nat} : anyB p n = true ↔ ∃ i, i < n ∧ p i = true := by simp [anyB]
theorem upto_succ {q : Nat → Prop} {j : Nat} (h : ∀ t, t < j → q t) (hj : q j) : ∀ t, t < j + 1 → q t := fun t ht => by
  rcases Nat.lt_or_ge t j with h' | h'
  · exact h t h'
  · obtain rfl : t = j := by omega
    exact hj
/-- The first of f 0, .., f (n - 1) that is not 0; 0 if there is none. -/
def firstErr (f : Nat → Int) : Nat → Int
  | 0 => 0
  | n + 1 => if firstErr f n ≠ 0 then firstErr f n else f n
theorem firstErr_none {f : Nat → Int} : ∀ {n : Nat}, (∀ i, i < n → f i = 0) → firstErr f n = 0
  | 0, _ => rfl
  | n + 1, h => by
    have := firstErr_none (n := n) fun i hi => h i (by omega)
    simp [firstErr, this, h n (by omega)]
theorem firstErr_found {f : Nat → Int} {k : Nat} (h : ∀ i, i < k → f i = 0) (hk : f k ≠ 0) : ∀ {n : Nat}, k < n → firstErr f n = f k
  | 0, hn => absurd hn (by omega)
  | n + 1, hn => by
    rcases Nat.lt_or_ge k n with h' | h'
    · have := firstErr_found h hk h'
      simp [firstErr, this, hk]
    · obtain rfl : k = n := by omega
      simp [firstErr, firstErr_none h]
theorem firstErr_zero {f : Nat → Int} : ∀ {n : Nat}, firstErr f n = 0 → ∀ i, i < n → f i = 0
  | 0, _, i, hi => absurd hi (by omega)
  | n + 1, h, i, hi => by
    simp only [firstErr] at h
    split at h
    · exact absurd h ‹_›
    · rename_i h0
      rcases Nat.lt_or_ge i n with h' | h'
      · exact firstErr_zero (by simpa using h0) i h'
      · obtain rfl : i = n := by omega
        exact h
end Go.Proofs.YtkncomfbedbikaaDoor
namespace Go.Proofs.YtkncomfbedbikaaDoor
/-- One road or more, over nodes below n. -/
inductive Reach (E : Nat → Nat → Bool) (n : Nat) (a : Nat) : Nat → Prop where
  | one {b : Nat} (h : E a b = true) (hb : b < n) : Reach E n a b
  | on {b c : Nat} (h : Reach E n a b) (h' : E b c = true) (hc : c < n) : Reach E n a c
theorem Reach.lt {E : Nat → Nat → Bool} {n a b : Nat} (h : Reach E n a b) : b < n := by
  cases h <;> assumption
theorem Reach.trans {E : Nat → Nat → Bool} {n a b c : Nat} (h : Reach E n a b) (h' : Reach E n b c) : Reach E n a c := by
  induction h' with
  | one h1 h2 => exact .on h h1 h2
  | on _ h1 h2 ih => exact .on ih h1 h2
structure Bfs (E : Nat → Nat → Bool) (n a : Nat) (S : Nat → Bool) (T : List Nat) : Prop where
  sound : ∀ k, k < n → S k = true → Reach E n a k
  todo : ∀ x ∈ T, x < n ∧ (x = a ∨ S x = true)
  done : ∀ x, x < n → (x = a ∨ S x = true) → x ∈ T ∨ ∀ k, k < n → E x k = true → S k = true
structure Bfs1 (E : Nat → Nat → Bool) (n a : Nat) (S : Nat → Bool) (T : List Nat) (i kk : Nat) : Prop where
  sound : ∀ k, k < n → S k = true → Reach E n a k
  todo : ∀ x ∈ T, x < n ∧ (x = a ∨ S x = true)
  cur : i < n ∧ (i = a ∨ S i = true)
  done : ∀ x, x < n → (x = a ∨ S x = true) → x ∈ T ∨ (∀ k, k < n → E x k = true → S k = true) ∨ (x = i ∧ ∀ k, k < kk → E i k = true → S k = true)
variable {E : Nat → Nat → Bool} {n a : Nat} {S : Nat → Bool} {T : List Nat} {i kk : Nat}
theorem bfs_start (ha : a < n) : Bfs E n a (fun _ => false) [a] :=
  ⟨fun _ _ h => (Bool.noConfusion h), fun x hx => by simp at hx; subst hx; exact ⟨ha, .inl rfl⟩, fun x _ h => .inl (by rcases h with rfl | h; simp; exact Bool.noConfusion h)⟩
theorem bfs_pop (h : Bfs E n a S (i :: T)) : Bfs1 E n a S T i 0 :=
  ⟨h.sound, fun x hx => h.todo x (List.mem_cons_of_mem _ hx), h.todo i List.mem_cons_self, fun x hx h' => by
    rcases h.done x hx h' with h1 | h1
    · rcases List.mem_cons.1 h1 with rfl | h2
      · exact .inr (.inr ⟨rfl, fun k hk => absurd hk (by omega)⟩)
      · exact .inl h2
    · exact .inr (.inl h1)⟩
theorem bfs_skip (h : Bfs1 E n a S T i kk) (hs : E i kk = true → S kk = true) : Bfs1 E n a S T i (kk + 1) :=
  ⟨h.sound, h.todo, h.cur, fun x hx h' => by
    rcases h.done x hx h' with h1 | h1 | ⟨h1, h2⟩
    · exact .inl h1
    · exact .inr (.inl h1)
    · exact .inr (.inr ⟨h1, upto_succ (q := fun k => E i k = true → S k = true) h2 hs⟩)⟩
theorem bfs_push (h : Bfs1 E n a S T i kk) (hk : kk < n) (he : E i kk = true) : Bfs1 E n a (fun k => if k = kk then true else S k) (T ++ [kk]) i (kk + 1) := by
  have hr : Reach E n a kk := by
    rcases h.cur.2 with h1 | h1
    · rw [← h1]; exact .one he hk
    · exact .on (h.sound i h.cur.1 h1) he hk
  have up : ∀ k, S k = true → (if k = kk then true else S k) = true := fun k hk => by by_cases e : k = kk <;> simp [e, hk]
  refine ⟨fun k hkn hs => ?_, fun x hx => ?_, ⟨h.cur.1, h.cur.2.imp id (up i)⟩, fun x hx h' => ?_⟩
  · by_cases e : k = kk
    · rw [e]; exact hr
    · simp [e] at hs; exact h.sound k hkn hs
  · rcases List.mem_append.1 hx with h1 | h1
    · exact ⟨(h.todo x h1).1, (h.todo x h1).2.imp id (up x)⟩
    · simp at h1
      subst h1
      exact ⟨hk, .inr (by simp)⟩
  · by_cases e : x = kk
    · exact .inl (by simp [e])
    · have h'' : x = a ∨ S x = true := by simpa [e] using h'
      rcases h.done x hx h'' with h1 | h1 | ⟨h1, h2⟩
      · exact .inl (by simp [h1])
      · exact .inr (.inl fun k hkn hek => up k (h1 k hkn hek))
      · exact .inr (.inr ⟨h1, upto_succ (q := fun k => E i k = true → (if k = kk then true else S k) = true) (fun k hk' he' => up k (h2 k hk' he')) (fun _ => by simp)⟩)
theorem bfs_next (h : Bfs1 E n a S T i n) : Bfs E n a S T :=
  ⟨h.sound, h.todo, fun x hx h' => by
    rcases h.done x hx h' with h1 | h1 | ⟨rfl, h2⟩
    · exact .inl h1
    · exact .inr h1
    · exact .inr h2⟩
theorem bfs_end (ha : a < n) (h : Bfs E n a S []) (k : Nat) (hk : k < n) : S k = true ↔ Reach E n a k := by
  refine ⟨h.sound k hk, fun hr => ?_⟩
  induction hr with
  | one h1 h2 =>
    rcases h.done a ha (.inl rfl) with h3 | h3
    · cases h3
    · exact h3 _ h2 h1
  | on h0 h1 h2 ih =>
    rcases h.done _ h0.lt (.inr (ih h0.lt)) with h3 | h3
    · cases h3
    · exact h3 _ h2 h1
/-- How many below n are not yet seen. -/
def unseen (S : Nat → Bool) : Nat → Nat
  | 0 => 0
  | n + 1 => unseen S n + if S n = true then 0 else 1
theorem unseen_congr {S S' : Nat → Bool} : ∀ {n : Nat}, (∀ k, k < n → S k = S' k) → unseen S n = unseen S' n
  | 0, _ => rfl
  | n + 1, h => by simp only [unseen, unseen_congr (n := n) fun k hk => h k (by omega), h n (by omega)]
theorem unseen_set {S : Nat → Bool} {kk : Nat} (hs : S kk = false) : ∀ {n : Nat}, kk < n → unseen (fun k => if k = kk then true else S k) n + 1 = unseen S n
  | 0, h => absurd h (by omega)
  | n + 1, h => by
    simp only [unseen]
    by_cases e : n = kk
    · subst e
      rw [unseen_congr (S' := S) fun k hk => by simp [show k ≠ n by omega]]
      simp [hs]
    · have := unseen_set hs (n := n) (by omega)
      simp only [e, if_false]
      omega
/-- What is come to by going over all between. -/
def warsh (E : Nat → Nat → Bool) : Nat → Nat → Nat → Bool
  | 0, i, k => E i k
  | m + 1, i, k => warsh E m i k || (warsh E m i m && warsh E m m k)
theorem warsh_sound {E : Nat → Nat → Bool} {n : Nat} : ∀ {m : Nat}, m ≤ n → ∀ {i k : Nat}, k < n → warsh E m i k = true → Reach E n i k
  | 0, _, _, _, hk, h => .one h hk
  | m + 1, hm, i, k, hk, h => by
    simp only [warsh, Bool.or_eq_true, Bool.and_eq_true] at h
    rcases h with h | ⟨h1, h2⟩
    · exact warsh_sound (by omega) hk h
    · exact (warsh_sound (by omega) (by omega) h1).trans (warsh_sound (by omega) hk h2)
theorem warsh_mono {E : Nat → Nat → Bool} {m m' i k : Nat} (hm : m ≤ m') (h : warsh E m i k = true) : warsh E m' i k = true := by
  induction hm with
  | refl => exact h
  | step _ ih => simp [warsh, ih]
/-- What is come to over nodes below m between. -/
theorem warsh_complete {E : Nat → Nat → Bool} {n : Nat} : ∀ {m : Nat} {i b k : Nat}, b < m → warsh E m i b = true → warsh E m b k = true → warsh E m i k = true
  | 0, _, _, _, hb, _, _ => absurd hb (by omega)
  | m + 1, i, b, k, hb, h1, h2 => by
    simp only [warsh, Bool.or_eq_true, Bool.and_eq_true] at h1 h2 ⊢
    have tr : ∀ {x y z : Nat}, y < m → warsh E m x y = true → warsh E m y z = true → warsh E m x z = true := fun hy a b => warsh_complete (n := n) hy a b
    rcases Nat.lt_or_ge b m with hbm | hbm
    · rcases h1 with h1 | ⟨h1, h1'⟩ <;> rcases h2 with h2 | ⟨h2, h2'⟩
      · exact .inl (tr hbm h1 h2)
      · exact .inr ⟨tr hbm h1 h2, h2'⟩
      · exact .inr ⟨h1, tr hbm h1' h2⟩
      · exact .inr ⟨h1, h2'⟩
    · obtain rfl : b = m := by omega
      rcases h1 with h1 | ⟨h1, h1'⟩ <;> rcases h2 with h2 | ⟨h2, h2'⟩
      · exact .inr ⟨h1, h2⟩
      · exact .inr ⟨h1, h2'⟩
      · exact .inr ⟨h1, h2⟩
      · exact .inr ⟨h1, h2'⟩
theorem warsh_iff {E : Nat → Nat → Bool} {n i k : Nat} (hk : k < n) : warsh E n i k = true ↔ Reach E n i k := by
  refine ⟨warsh_sound (Nat.le_refl _) hk, fun h => ?_⟩
  induction h with
  | one h1 h2 => exact warsh_mono (m := 0) (Nat.zero_le _) h1
  | on h0 h1 h2 ih => exact warsh_complete (n := n) h0.lt (ih h0.lt) (warsh_mono (m := 0) (Nat.zero_le _) h1)
end Go.Proofs.YtkncomfbedbikaaDoor
