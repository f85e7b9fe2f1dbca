/- Plain: which error a story has. -/
import Derived.Test.YtkncomfbedbikaaDoorIsoA
namespace Go.Proofs.YtkncomfbedbikaaDoor
def opErrI (S : GStory) (o : IOp) : Int :=
  if o.key < 0 ∨ 7 < o.key ∨ o.frm < -1 ∨ (S.n : Int) ≤ o.frm ∨ o.num < 0 then 2
  else if (o.wr = true ∧ (o.frm ≠ 0 ∨ o.num ≠ 0)) ∨ (o.frm = -1 ∧ o.num ≠ 0) then 1
  else if o.wr = false ∧ o.frm ≠ -1 ∧ (vers (S.o o.frm.toNat) o.key (S.k o.frm.toNat) : Int) ≤ o.num then 7 else 0
def txErr (S : GStory) (i : Nat) : Int := if 60 < S.k i then 4 else firstErr (fun j => opErrI S (S.o i j)) (S.k i)
def writB (S : GStory) (key x : Nat) : Bool := S.c x && decide (0 < vers (S.o x) (key : Int) (S.k x))
def entErr (S : GStory) (key t : Nat) : Int :=
  if S.x key t < 0 ∨ (S.n : Int) ≤ S.x key t then 2 else if writB S key (S.x key t).toNat = false then 8 else if anyB (fun t' => S.x key t' == S.x key t) t = true then 9 else 0
def cntW (S : GStory) (key : Nat) : Nat → Nat
  | 0 => 0
  | n + 1 => if writB S key n = true then cntW S key n + 1 else cntW S key n
def ordErr (S : GStory) (key : Nat) : Int := if firstErr (entErr S key) (S.l key) ≠ 0 then firstErr (entErr S key) (S.l key) else if cntW S key S.n ≠ S.l key then 3 else 0
def storyErr (S : GStory) : Int := if 8 < S.n then 4 else if S.m ≠ 8 then 3 else if firstErr (txErr S) S.n ≠ 0 then firstErr (txErr S) S.n else firstErr (ordErr S) 8
theorem cntW_le (S : GStory) (key : Nat) : ∀ n, cntW S key n ≤ n
  | 0 => Nat.le_refl _
  | n + 1 => by
    have := cntW_le S key n
    unfold cntW
    split <;> omega
theorem cntW_succ (S : GStory) (key n : Nat) : cntW S key (n + 1) = if writB S key n = true then cntW S key n + 1 else cntW S key n := rfl
theorem op_tree (S : GStory) (o : IOp) :
    (o.key < 0 ∧ opErrI S o = 2) ∨ (0 ≤ o.key ∧ 7 < o.key ∧ opErrI S o = 2) ∨ (0 ≤ o.key ∧ o.key ≤ 7 ∧ o.frm < -1 ∧ opErrI S o = 2) ∨ (0 ≤ o.key ∧ o.key ≤ 7 ∧ -1 ≤ o.frm ∧ (S.n : Int) ≤ o.frm ∧ opErrI S o = 2) ∨
    (0 ≤ o.key ∧ o.key ≤ 7 ∧ -1 ≤ o.frm ∧ o.frm < (S.n : Int) ∧ o.num < 0 ∧ opErrI S o = 2) ∨
    (0 ≤ o.key ∧ o.key ≤ 7 ∧ -1 ≤ o.frm ∧ o.frm < (S.n : Int) ∧ 0 ≤ o.num ∧ o.wr = true ∧ (o.frm != 0) = true ∧ opErrI S o = 1) ∨
    (0 ≤ o.key ∧ o.key ≤ 7 ∧ -1 ≤ o.frm ∧ o.frm < (S.n : Int) ∧ 0 ≤ o.num ∧ o.wr = true ∧ o.frm = 0 ∧ (o.num != 0) = true ∧ opErrI S o = 1) ∨
    (0 ≤ o.key ∧ o.key ≤ 7 ∧ -1 ≤ o.frm ∧ o.frm < (S.n : Int) ∧ 0 ≤ o.num ∧ o.wr = true ∧ o.frm = 0 ∧ o.num = 0 ∧ opErrI S o = 0) ∨
    (0 ≤ o.key ∧ o.key ≤ 7 ∧ -1 ≤ o.frm ∧ o.frm < (S.n : Int) ∧ 0 ≤ o.num ∧ o.wr = false ∧ o.frm = -1 ∧ (o.num != 0) = true ∧ opErrI S o = 1) ∨
    (0 ≤ o.key ∧ o.key ≤ 7 ∧ -1 ≤ o.frm ∧ o.frm < (S.n : Int) ∧ 0 ≤ o.num ∧ o.wr = false ∧ o.frm = -1 ∧ o.num = 0 ∧ opErrI S o = 0) ∨
    (∃ f : Nat, 0 ≤ o.key ∧ o.key ≤ 7 ∧ o.frm = (f : Int) ∧ f < S.n ∧ 0 ≤ o.num ∧ o.wr = false ∧ decide ((vers (S.o f) o.key (S.k f) : Int) ≤ o.num) = true ∧ opErrI S o = 7) ∨
    (∃ f : Nat, 0 ≤ o.key ∧ o.key ≤ 7 ∧ o.frm = (f : Int) ∧ f < S.n ∧ 0 ≤ o.num ∧ o.wr = false ∧ decide ((vers (S.o f) o.key (S.k f) : Int) ≤ o.num) = false ∧ opErrI S o = 0) := by
  by_cases a1 : o.key < 0
  · exact .inl ⟨a1, by unfold opErrI; rw [if_pos (.inl a1)]⟩
  by_cases a2 : 7 < o.key
  · exact .inr (.inl ⟨by omega, a2, by unfold opErrI; rw [if_pos (by omega)]⟩)
  by_cases a3 : o.frm < -1
  · exact .inr (.inr (.inl ⟨by omega, by omega, a3, by unfold opErrI; rw [if_pos (by omega)]⟩))
  by_cases a4 : (S.n : Int) ≤ o.frm
  · exact .inr (.inr (.inr (.inl ⟨by omega, by omega, by omega, a4, by unfold opErrI; rw [if_pos (by omega)]⟩)))
  by_cases a5 : o.num < 0
  · exact .inr (.inr (.inr (.inr (.inl ⟨by omega, by omega, by omega, by omega, a5, by unfold opErrI; rw [if_pos (by omega)]⟩))))
  have h0 : opErrI S o = if (o.wr = true ∧ (o.frm ≠ 0 ∨ o.num ≠ 0)) ∨ (o.frm = -1 ∧ o.num ≠ 0) then 1
      else if o.wr = false ∧ o.frm ≠ -1 ∧ (vers (S.o o.frm.toNat) o.key (S.k o.frm.toNat) : Int) ≤ o.num then 7 else 0 := by unfold opErrI; rw [if_neg (by omega)]
  cases hw : o.wr
  · rw [hw] at h0
    by_cases b1 : o.frm = -1
    · by_cases b2 : o.num = 0
      · exact .inr (.inr (.inr (.inr (.inr (.inr (.inr (.inr (.inr (.inl ⟨by omega, by omega, by omega, by omega, by omega, rfl, b1, b2, by rw [h0]; simp [b1, b2]⟩)))))))))
      · exact .inr (.inr (.inr (.inr (.inr (.inr (.inr (.inr (.inl ⟨by omega, by omega, by omega, by omega, by omega, rfl, b1, by simpa using b2, by rw [h0]; simp [b1, b2]⟩))))))))
    · obtain ⟨f, hf⟩ : ∃ f : Nat, o.frm = (f : Int) := ⟨o.frm.toNat, by omega⟩
      have hft : o.frm.toNat = f := by omega
      rw [hft] at h0
      by_cases b3 : (vers (S.o f) o.key (S.k f) : Int) ≤ o.num
      · exact .inr (.inr (.inr (.inr (.inr (.inr (.inr (.inr (.inr (.inr (.inl ⟨f, by omega, by omega, hf, by omega, by omega, rfl, by simpa using b3, by rw [h0]; simp [b1, b3]⟩))))))))))
      · exact .inr (.inr (.inr (.inr (.inr (.inr (.inr (.inr (.inr (.inr (.inr ⟨f, by omega, by omega, hf, by omega, by omega, rfl, by simpa using b3, by rw [h0]; simp [b1, b3]⟩))))))))))
  · rw [hw] at h0
    by_cases b1 : o.frm = 0
    · by_cases b2 : o.num = 0
      · exact .inr (.inr (.inr (.inr (.inr (.inr (.inr (.inl ⟨by omega, by omega, by omega, by omega, by omega, rfl, b1, b2, by rw [h0]; simp [b1, b2]⟩)))))))
      · exact .inr (.inr (.inr (.inr (.inr (.inr (.inl ⟨by omega, by omega, by omega, by omega, by omega, rfl, b1, by simpa using b2, by rw [h0]; simp [b1, b2]⟩))))))
    · exact .inr (.inr (.inr (.inr (.inr (.inl ⟨by omega, by omega, by omega, by omega, by omega, rfl, by simpa using b1, by rw [h0]; simp [b1]⟩)))))
theorem firstErr_ret {f : Nat → Int} {n j : Nat} {e : Int} (h : ∀ t, t < j → f t = 0) (hj : j < n) (he : f j = e) (h0 : e ≠ 0) : firstErr f n = e := by
  rw [firstErr_found h (by rw [he]; exact h0) hj, he]
theorem idx_any (f : Nat → Int) (n : Nat) (v : Int) : decide (0 ≤ idxF f n v) = anyB (fun t => f t == v) n := by
  unfold idxF
  cases h : firstAt (fun t => f t == v) n with
  | none =>
    rw [anyB_false fun t ht => firstAt_spec.firstAt_isNone h t ht]
    rfl
  | some t =>
    obtain ⟨h1, h2, _⟩ := firstAt_spec h
    rw [anyB_true h1 h2]
    simp [optN]
end Go.Proofs.YtkncomfbedbikaaDoor
