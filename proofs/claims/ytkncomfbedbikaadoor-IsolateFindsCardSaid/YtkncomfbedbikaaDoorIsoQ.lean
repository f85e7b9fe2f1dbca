/- Plain: what leads to what among transactions; three matrices. -/
import Derived.Test.YtkncomfbedbikaaDoorIsoP
import Derived.Test.YtkncomfbedbikaaDoorIsoF
namespace Go.Proofs.YtkncomfbedbikaaDoor
open Go.RowKit
/-- Steps t < T with all of theirs, and of step T those below J: whether one of them marks. -/
def twoB (h : Nat → Nat → Bool) (K : Nat → Nat) (T J : Nat) : Bool := anyB (fun t => anyB (h t) (K t)) T || anyB (h T) J
theorem anyB_succ (p : Nat → Bool) (k : Nat) : anyB p (k + 1) = (anyB p k || p k) := by
  unfold anyB
  rw [List.range_succ]
  simp
theorem twoB_succ (h : Nat → Nat → Bool) (K : Nat → Nat) (T J : Nat) : twoB h K T (J + 1) = (twoB h K T J || h T J) := by
  unfold twoB
  rw [anyB_succ, Bool.or_assoc]
theorem twoB_next (h : Nat → Nat → Bool) (K : Nat → Nat) (T : Nat) : twoB h K T (K T) = twoB h K (T + 1) 0 := by
  unfold twoB
  rw [anyB_succ]
  simp [anyB]
theorem twoB_zero (h : Nat → Nat → Bool) (K : Nat → Nat) : twoB h K 0 0 = false := by simp [twoB, anyB]
theorem twoB_iff {h : Nat → Nat → Bool} {K : Nat → Nat} {T : Nat} : twoB h K T 0 = true ↔ ∃ t, t < T ∧ ∃ j, j < K t ∧ h t j = true := by
  unfold twoB
  simp only [Bool.or_eq_true, anyB_iff]
  constructor
  · rintro (⟨t, h1, j, h2, h3⟩ | ⟨j, hj, _⟩)
    · exact ⟨t, h1, j, h2, h3⟩
    · omega
  · rintro ⟨t, h1, j, h2, h3⟩
    exact .inl ⟨t, h1, j, h2, h3⟩
/-- Who stands right behind t in a row; t < 0: the first one; -1: nobody. -/
def behindF (S : GStory) (key : Nat) (t : Int) : Int :=
  if 0 ≤ t then (if idxF (S.x key) (S.l key) t + 1 < (S.l key : Int) then S.x key (idxF (S.x key) (S.l key) t + 1).toNat else -1) else (if 0 < S.l key then S.x key 0 else -1)
def overR (S : GStory) (key i a b : Nat) : Bool := (S.x key i == (a : Int)) && (behindF S key (S.x key i) == (b : Int))
def overP (S : GStory) (key i a b : Nat) : Bool := (S.x key i == (a : Int)) && (S.x key (i + 1) == (b : Int))
def actB (S : GStory) (t : Nat) (o : IOp) : Bool := S.c t && !o.wr && (decide (o.frm < 0) || S.c o.frm.toNat)
def seenH (S : GStory) (t : Nat) (o : IOp) (a b : Nat) : Bool := actB S t o && (decide (0 ≤ o.frm) && (o.frm != (t : Int)) && (o.num + 1 == (vers (S.o o.frm.toNat) o.key (S.k o.frm.toNat) : Int))) && ((o.frm == (a : Int)) && (t == b))
def anewH (S : GStory) (t : Nat) (o : IOp) (a b : Nat) : Bool := actB S t o && (behindF S o.key.toNat o.frm != (t : Int)) && ((t == a) && (behindF S o.key.toNat o.frm == (b : Int)))
def overRM (S : GStory) (T J a b : Nat) : Bool := twoB (fun t j => overR S t j a b) S.l T J
def overPM (S : GStory) (T J a b : Nat) : Bool := twoB (fun t j => overP S t j a b) (fun t => S.l t - 1) T J
def seenM (S : GStory) (T J a b : Nat) : Bool := twoB (fun t j => seenH S t (S.o t j) a b) S.k T J
def anewM (S : GStory) (T J a b : Nat) : Bool := twoB (fun t j => anewH S t (S.o t j) a b) S.k T J
theorem mark {M : Nat → Nat → Bool} {u v a b : Nat} {hit : Bool} (h : hit = (decide (a = u ∧ b = v))) : (if a = u ∧ b = v then true else M a b) = (M a b || hit) := by
  subst h
  by_cases e : a = u ∧ b = v <;> simp [e]
theorem nomark {x hit : Bool} (h : hit = false) : x = (x || hit) := by simp [h]
theorem anewH_act {S : GStory} {t : Nat} {o : IOp} (h : actB S t o = false) (a b : Nat) : anewH S t o a b = false := by simp [anewH, h]
theorem seenH_act {S : GStory} {t : Nat} {o : IOp} (h : actB S t o = false) (a b : Nat) : seenH S t o a b = false := by simp [seenH, h]
theorem anewH_none {S : GStory} {t : Nat} {o : IOp} (h : behindF S o.key.toNat o.frm = -1) (a b : Nat) : anewH S t o a b = false := by
  unfold anewH
  rw [h]
  simp
  try (intro _ _ _; omega)
theorem anewH_self {S : GStory} {t : Nat} {o : IOp} (h : behindF S o.key.toNat o.frm = (t : Int)) (a b : Nat) : anewH S t o a b = false := by
  unfold anewH
  rw [h]
  simp
theorem anewH_hit {S : GStory} {t b0 : Nat} {o : IOp} (ha : actB S t o = true) (h : behindF S o.key.toNat o.frm = (b0 : Int)) (hne : b0 ≠ t) (a b : Nat) : anewH S t o a b = decide (a = t ∧ b = b0) := by
  unfold anewH
  rw [h, ha]
  apply Bool.eq_iff_iff.2
  simp
  omega
theorem seenH_no {S : GStory} {t : Nat} {o : IOp} (h : (decide (0 ≤ o.frm) && (o.frm != (t : Int)) && (o.num + 1 == (vers (S.o o.frm.toNat) o.key (S.k o.frm.toNat) : Int))) = false) (a b : Nat) : seenH S t o a b = false := by
  unfold seenH
  rw [h]
  simp
theorem seenH_hit {S : GStory} {t f : Nat} {o : IOp} (ha : actB S t o = true) (hf : o.frm = (f : Int)) (hne : f ≠ t) (hv : o.num + 1 = (vers (S.o f) o.key (S.k f) : Int)) (a b : Nat) : seenH S t o a b = decide (a = f ∧ b = t) := by
  unfold seenH
  rw [ha, hf]
  apply Bool.eq_iff_iff.2
  simp [hv]
  omega
/-! What a story without an error is. -/
structure StoryOk (S : GStory) : Prop where
  n : S.n ≤ 8
  m : S.m = 8
  k : ∀ i, i < S.n → S.k i ≤ 60
  op : ∀ i j, i < S.n → j < S.k i → 0 ≤ (S.o i j).key ∧ (S.o i j).key ≤ 7 ∧ -1 ≤ (S.o i j).frm ∧ (S.o i j).frm < (S.n : Int) ∧ 0 ≤ (S.o i j).num
  num : ∀ i j, i < S.n → j < S.k i → (S.o i j).wr = false → ∀ f : Nat, (S.o i j).frm = (f : Int) → (S.o i j).num < (vers (S.o f) (S.o i j).key (S.k f) : Int) ∧ vers (S.o f) (S.o i j).key (S.k f) ≤ 60
  wr : ∀ i j, i < S.n → j < S.k i → (S.o i j).wr = true → (S.o i j).frm = 0 ∧ (S.o i j).num = 0
  ent : ∀ q t, q < 8 → t < S.l q → ∃ f : Nat, S.x q t = (f : Int) ∧ f < S.n ∧ writB S q f = true
  inj : ∀ q s t, q < 8 → s < t → t < S.l q → S.x q s ≠ S.x q t
theorem story_ok {S : GStory} (h : storyErr S = 0) : StoryOk S := by
  unfold storyErr at h
  split at h
  · omega
  rename_i h8
  split at h
  · omega
  rename_i hm
  split at h
  · rename_i hne; exact absurd h hne
  rename_i hne
  have htx : firstErr (txErr S) S.n = 0 := by omega
  have hop : ∀ i j, i < S.n → j < S.k i → opErrI S (S.o i j) = 0 := fun i j hi hj => by
    have := firstErr_zero htx i hi
    unfold txErr at this
    split at this
    · omega
    · exact firstErr_zero this j hj
  have hent : ∀ q t, q < 8 → t < S.l q → entErr S q t = 0 := fun q t hq ht => by
    have := firstErr_zero h q hq
    unfold ordErr at this
    split at this
    · rename_i h1; exact absurd this h1
    · rename_i h1
      exact firstErr_zero (by omega) t ht
  have hent2 : ∀ q t, q < 8 → t < S.l q → 0 ≤ S.x q t ∧ S.x q t < S.n ∧ writB S q (S.x q t).toNat = true ∧ anyB (fun t' => S.x q t' == S.x q t) t = false := fun q t hq ht => by
    have h1 := hent q t hq ht
    unfold entErr at h1
    split at h1
    · omega
    · rename_i h2
      split at h1
      · omega
      · rename_i h3
        split at h1
        · omega
        · rename_i h4
          exact ⟨by omega, by omega, by simpa using h3, by simpa using h4⟩
  have hk60 : ∀ i, i < S.n → S.k i ≤ 60 := fun i hi => by
    have := firstErr_zero htx i hi
    unfold txErr at this
    split at this
    · omega
    · omega
  refine ⟨by omega, by omega, hk60, fun i j hi hj => ?_, fun i j hi hj hw f hf => ?_, fun i j hi hj hw => ?_, fun q t hq ht => ?_, fun q s t hq hs ht e => ?_⟩
  · have h1 := hop i j hi hj
    unfold opErrI at h1
    split at h1
    · omega
    · omega
  · have h1 := hop i j hi hj
    have h9 : f < S.n := by
      unfold opErrI at h1
      split at h1
      · omega
      · omega
    refine ⟨?_, Nat.le_trans (vers_le _ _ _) (hk60 f h9)⟩
    unfold opErrI at h1
    split at h1
    · omega
    · split at h1
      · omega
      · split at h1
        · omega
        · rename_i h3
          rw [hf] at h3
          simp only [Int.toNat_natCast] at h3
          refine Classical.byContradiction fun e => h3 ⟨hw, by omega, by omega⟩
  · have h1 := hop i j hi hj
    unfold opErrI at h1
    split at h1
    · omega
    · split at h1
      · omega
      · rename_i h2
        constructor
        · refine Classical.byContradiction fun e => h2 (.inl ⟨hw, .inl e⟩)
        · refine Classical.byContradiction fun e => h2 (.inl ⟨hw, .inr e⟩)
  · obtain ⟨h1, h2, h3, _⟩ := hent2 q t hq ht
    exact ⟨(S.x q t).toNat, by omega, by omega, h3⟩
  · obtain ⟨_, _, _, h4⟩ := hent2 q t hq ht
    have := anyB_true (p := fun t' => S.x q t' == S.x q t) hs (by simpa using e)
    rw [h4] at this
    cases this
theorem idx_at {f : Nat → Int} {n i : Nat} (hi : i < n) (h : ∀ s, s < i → f s ≠ f i) : idxF f n (f i) = i := by
  unfold idxF
  rw [firstAt_found (k := i) (fun t ht => by simpa using h t ht) (by simp) hi]
  rfl
theorem idx_range (f : Nat → Int) (n : Nat) (v : Int) : -1 ≤ idxF f n v ∧ idxF f n v < (n : Int) ∨ n = 0 ∧ idxF f n v = -1 := by
  unfold idxF
  cases h : firstAt (fun t => f t == v) n with
  | none =>
    simp [optN]
    omega
  | some t =>
    have := (firstAt_spec h).1
    simp [optN]
    omega
/-- behindF is nobody, or one of the transactions. -/
theorem behind_cases {S : GStory} (h : StoryOk S) {key : Nat} (hk : key < 8) (t : Int) : behindF S key t = -1 ∨ ∃ f : Nat, behindF S key t = (f : Int) ∧ f < S.n := by
  unfold behindF
  split
  · split
    · rename_i h1
      right
      have := idx_range (S.x key) (S.l key) t
      obtain ⟨f, h2, h3, _⟩ := h.ent key (idxF (S.x key) (S.l key) t + 1).toNat hk (by omega)
      exact ⟨f, h2, h3⟩
    · exact .inl rfl
  · split
    · rename_i h1
      right
      obtain ⟨f, h2, h3, _⟩ := h.ent key 0 hk h1
      exact ⟨f, h2, h3⟩
    · exact .inl rfl
theorem behind_next {S : GStory} (h : StoryOk S) {key i : Nat} (hk : key < 8) (hi : i < S.l key) : behindF S key (S.x key i) = if i + 1 < S.l key then S.x key (i + 1) else -1 := by
  obtain ⟨f, hf, _, _⟩ := h.ent key i hk hi
  have hx := idx_at hi fun s hs => h.inj key s i hk hs hi
  unfold behindF
  rw [if_pos (by omega), hx]
  by_cases e : i + 1 < S.l key
  · rw [if_pos (by omega), if_pos e]
    congr 1
  · rw [if_neg (by omega), if_neg e]
theorem over_eq {S : GStory} (h : StoryOk S) (a b : Nat) : overRM S 8 0 a b = overPM S 8 0 a b := by
  apply Bool.eq_iff_iff.2
  unfold overRM overPM
  rw [twoB_iff, twoB_iff]
  constructor
  · rintro ⟨key, hk, i, hi, h1⟩
    unfold overR at h1
    simp only [Bool.and_eq_true, beq_iff_eq] at h1
    obtain ⟨h2, h3⟩ := h1
    rw [behind_next h hk hi] at h3
    by_cases e : i + 1 < S.l key
    · rw [if_pos e] at h3
      exact ⟨key, hk, i, by omega, by unfold overP; simp [h2, h3]⟩
    · rw [if_neg e] at h3
      omega
  · rintro ⟨key, hk, i, hi, h1⟩
    unfold overP at h1
    simp only [Bool.and_eq_true, beq_iff_eq] at h1
    obtain ⟨h2, h3⟩ := h1
    refine ⟨key, hk, i, by omega, ?_⟩
    unfold overR
    rw [behind_next h hk (by omega), if_pos (by omega)]
    simp [h2, h3]
/-! Three matrices, one behind the other. -/
structure TriR where
  h1 : Nat
  h2 : Nat
  h3 : Nat
  g1 : Nat
  g2 : Nat
  g3 : Nat
  G1 : Nat → Nat
  G2 : Nat → Nat
  G3 : Nat → Nat
structure Tri (w : World) (B n : Nat) (r : TriR) (M1 M2 M3 : Nat → Nat → Bool) : Prop where
  m1 : MatB w B r.h1 r.g1 n r.G1 M1
  m2 : MatB w r.h1 r.h2 r.g2 n r.G2 M2
  m3 : MatB w r.h2 r.h3 r.g3 n r.G3 M3
  o1 : B ≤ r.h1
  o2 : r.h1 ≤ r.h2
  o3 : r.h2 ≤ r.h3
namespace Tri
variable {w w' : World} {B n : Nat} {r : TriR} {M1 M2 M3 N1 N2 N3 : Nat → Nat → Bool}
theorem below (h : Tri w B n r M1 M2 M3) (hb : Below w.heap.size w w') : Tri w' B n r M1 M2 M3 := ⟨h.m1.below hb, h.m2.below hb, h.m3.below hb, h.o1, h.o2, h.o3⟩
theorem alloc (h : Tri w B n r M1 M2 M3) (o : Obj) : Tri (w.alloc o) B n r M1 M2 M3 := h.below ((Below.refl _ _).alloc (Nat.le_refl _) _)
theorem drew (h : Tri w B n r M1 M2 M3) : Tri w.drew B n r M1 M2 M3 := ⟨h.m1.drew, h.m2.drew, h.m3.drew, h.o1, h.o2, h.o3⟩
theorem congr (h : Tri w B n r M1 M2 M3) (e1 : ∀ a b, M1 a b = N1 a b) (e2 : ∀ a b, M2 a b = N2 a b) (e3 : ∀ a b, M3 a b = N3 a b) : Tri w B n r N1 N2 N3 :=
  ⟨h.m1.congr fun a b _ _ => e1 a b, h.m2.congr fun a b _ _ => e2 a b, h.m3.congr fun a b _ _ => e3 a b, h.o1, h.o2, h.o3⟩
theorem set1 (h : Tri w B n r M1 M2 M3) {i : Nat} (hi : i < n) (k : Nat) : Tri (w.setCell ⟨r.G1 i, k, none⟩ (.bool true)) B n r (fun a b => if a = i ∧ b = k then true else M1 a b) M2 M3 := by
  have := h.m1.rG i hi
  have := h.o1; have := h.o2; have := h.o3
  exact ⟨h.m1.set hi k true, h.m2.setOut (.inl (by show r.G1 i < _; omega)) _, h.m3.setOut (.inl (by show r.G1 i < _; omega)) _, h.o1, h.o2, h.o3⟩
theorem set2 (h : Tri w B n r M1 M2 M3) {i : Nat} (hi : i < n) (k : Nat) : Tri (w.setCell ⟨r.G2 i, k, none⟩ (.bool true)) B n r M1 (fun a b => if a = i ∧ b = k then true else M2 a b) M3 := by
  have := h.m2.rG i hi
  have := h.o1; have := h.o2; have := h.o3
  exact ⟨h.m1.setOut (.inr (by show _ ≤ r.G2 i; omega)) _, h.m2.set hi k true, h.m3.setOut (.inl (by show r.G2 i < _; omega)) _, h.o1, h.o2, h.o3⟩
theorem set3 (h : Tri w B n r M1 M2 M3) {i : Nat} (hi : i < n) (k : Nat) : Tri (w.setCell ⟨r.G3 i, k, none⟩ (.bool true)) B n r M1 M2 (fun a b => if a = i ∧ b = k then true else M3 a b) := by
  have := h.m3.rG i hi
  have := h.o1; have := h.o2; have := h.o3
  exact ⟨h.m1.setOut (.inr (by show _ ≤ r.G3 i; omega)) _, h.m2.setOut (.inr (by show _ ≤ r.G3 i; omega)) _, h.m3.set hi k true, h.o1, h.o2, h.o3⟩
theorem setLow (h : Tri w B n r M1 M2 M3) {p : Addr} (hp : p.block < B) (v : Value) : Tri (w.setCell p v) B n r M1 M2 M3 := by
  have := h.o1; have := h.o2
  exact ⟨h.m1.setOut (.inl hp) _, h.m2.setOut (.inl (by omega)) _, h.m3.setOut (.inl (by omega)) _, h.o1, h.o2, h.o3⟩
theorem ge1 (h : Tri w B n r M1 M2 M3) {i : Nat} (hi : i < n) : B ≤ r.G1 i := (h.m1.rG i hi).1
theorem ge2 (h : Tri w B n r M1 M2 M3) {i : Nat} (hi : i < n) : B ≤ r.G2 i := by
  have := h.m2.rG i hi
  have := h.o1; omega
theorem ge3 (h : Tri w B n r M1 M2 M3) {i : Nat} (hi : i < n) : B ≤ r.G3 i := by
  have := h.m3.rG i hi
  have := h.o1; have := h.o2; omega
theorem lt3 (h : Tri w B n r M1 M2 M3) {i : Nat} (hi : i < n) : r.G1 i < r.h3 ∧ r.G2 i < r.h3 ∧ r.G3 i < r.h3 := by
  have := h.m1.rG i hi
  have := h.m2.rG i hi
  have := h.m3.rG i hi
  have := h.o1; have := h.o2; have := h.o3; omega
end Tri
end Go.Proofs.YtkncomfbedbikaaDoor
