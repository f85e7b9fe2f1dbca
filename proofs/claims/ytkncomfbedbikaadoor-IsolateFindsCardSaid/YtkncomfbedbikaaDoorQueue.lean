/- A queue of numbers of the call's own: cut at its front, appended to at its end. -/
import Derived.Test.YtkncomfbedbikaaDoorMat
import Derived.ArgAppend
namespace Go.Proofs.YtkncomfbedbikaaDoor
open Go.RowKit
/-- The slice of n numbers at off of block g, capacity cap, holds xs. -/
structure IntQ (w : World) (base g off n cap : Nat) (xs : List Nat) : Prop where
  len : xs.length = n
  ge : base ≤ g
  fit : n ≤ cap
  big : cap ≤ maxLen
  row : ∃ N f, w.rowIs g 3 N f ∧ off + cap ≤ N ∧ ∀ (j x : Nat), xs[j]? = some x → f (off + j) = .int .i64 (x : Int)
namespace IntQ
variable {w w' : World} {base g off n cap : Nat} {xs : List Nat}
theorem lt (h : IntQ w base g off n cap xs) : g < w.heap.size := by
  obtain ⟨N, f, hr, _⟩ := h.row
  exact hr.lt
theorem of_rows (h : IntQ w base g off n cap xs) (hr : ∀ N f, w.rowIs g 3 N f → w'.rowIs g 3 N f) : IntQ w' base g off n cap xs := by
  obtain ⟨N, f, h1, h2, h3⟩ := h.row
  exact ⟨h.len, h.ge, h.fit, h.big, N, f, hr N f h1, h2, h3⟩
theorem below (h : IntQ w base g off n cap xs) (hb : Below w.heap.size w w') : IntQ w' base g off n cap xs := h.of_rows fun _ _ hr => rowIs_below hr hb
theorem setOther (h : IntQ w base g off n cap xs) {p : Addr} (hne : g ≠ p.block) (v : Value) : IntQ (w.setCell p v) base g off n cap xs := h.of_rows fun _ _ hr => hr.setOther hne v
theorem type (h : IntQ w base g off n cap xs) {b : Nat} {t : TypeId} {m : Nat} {f : Nat → Value} (hr : w.rowIs b t m f) (ht : 3 ≠ t) : g ≠ b := fun e => by
  obtain ⟨N, f', h1, _⟩ := h.row
  rw [e] at h1
  exact ht (rowIs_type h1 hr)
theorem head {x : Nat} {rest : List Nat} (h : IntQ w base g off n cap (x :: rest)) : 0 < n ∧ 0 < cap ∧ w.cell? ⟨g, off, none⟩ = some (.int .i64 (x : Int)) := by
  obtain ⟨N, f, h1, h2, h3⟩ := h.row
  have hn := h.len
  simp at hn
  have hf := h.fit
  refine ⟨by omega, by omega, ?_⟩
  rw [h1.cell (i := off) (by omega)]
  have := h3 0 x rfl
  rw [Nat.add_zero] at this
  rw [this]
theorem tail1 {x : Nat} {rest : List Nat} (h : IntQ w base g off n 1 (x :: rest)) : IntQ w base g off (n - 1) 0 rest := by
  obtain ⟨N, f, h1, h2, h3⟩ := h.row
  have hn := h.len
  simp at hn
  have hf := h.fit
  have hr : rest = [] := List.eq_nil_of_length_eq_zero (by omega)
  subst hr
  exact ⟨by simp at hn ⊢; omega, h.ge, by omega, by simp, N, f, h1, by omega, fun j y hj => by simp at hj⟩
theorem tail {x : Nat} {rest : List Nat} (h : IntQ w base g off n cap (x :: rest)) : IntQ w base g (off + 1) (n - 1) (cap - 1) rest := by
  obtain ⟨N, f, h1, h2, h3⟩ := h.row
  have hn := h.len
  simp at hn
  have hf := h.fit
  have hb := h.big
  exact ⟨by omega, h.ge, by omega, by omega, N, f, h1, by omega, fun j y hj => by
    have := h3 (j + 1) y (by simpa using hj)
    rwa [show off + 1 + j = off + (j + 1) by omega]⟩
/-- One number more. -/
theorem push (h : IntQ w base g off n cap xs) (hb : base ≤ w.heap.size) (hn : n ≤ 1000000) (ad : Addr) (c : Nat) (x : Nat) (hx : w.cell? ad = some (.int .i64 (x : Int))) (ty : TypeId) :
    ∃ g' off' cap' w', (Builtin.append_ #[34, 34] ty #[.slice (some ⟨g, off, none⟩) n cap, .slice (some ad) 1 c]).run Tryd.prog w = .ok (.slice (some ⟨g', off', none⟩) (n + 1) cap') w' ∧
      IntQ w' base g' off' (n + 1) cap' (xs ++ [x]) ∧ w.grownBy w' (some g) := by
  obtain ⟨i0, hi0, hz0, hz1, hz2⟩ := info_parts int_info
  obtain ⟨N, f, h1, h2, h3⟩ := h.row
  have hn' := h.len
  have hfit := h.fit
  have hnews : ∀ j u, [Value.int .i64 (x : Int)][j]? = some u → w.cell? (ad.add j) = some u := fun j u hj => by
    match j, hj with
    | 0, hj => cases hj; simpa [Addr.add] using hx
  by_cases hroom : n + 1 ≤ cap
  · have hrun := run_append_room_cells (P := Tryd.prog) w 34 ty 3 i0 Tryd.underlying34 hi0 g off n cap ad 1 c [.int .i64 (x : Int)] (by rw [hz1]; rfl) hnews (by intro u hu; simp at hu; rw [hu]; rfl) hroom
      (fun j hj => by
        have hj0 : j = 0 := by simpa using hj
        subst hj0
        rw [hz1, h1.cell (by omega)]; rfl)
      (fun j _ => h1.frozen _)
    refine ⟨g, off, cap, _, hrun, ?_, ?_⟩
    · have hset : w.setCells g (off + n * i0.size) [.int .i64 (x : Int)] = w.setCell ⟨g, off + n, none⟩ (.int .i64 (x : Int)) := by rw [hz1, Nat.mul_one]; rfl
      rw [hset]
      refine ⟨by simp [hn'], h.ge, hroom, h.big, N, _, h1.set (off + n) _, h2, fun j y hj => ?_⟩
      by_cases e : j < xs.length
      · rw [List.getElem?_append_left e] at hj
        rw [if_neg (by omega)]
        exact h3 j y hj
      · rw [List.getElem?_append_right (by omega)] at hj
        have hj0 : j - xs.length = 0 := by
          rcases Nat.eq_zero_or_pos (j - xs.length) with h0 | h0
          · exact h0
          · rw [List.getElem?_eq_none (by simp; omega)] at hj; cases hj
        rw [hj0] at hj
        cases hj
        rw [if_pos (by omega)]
    · have hset : w.setCells g (off + n * i0.size) [.int .i64 (x : Int)] = w.setCell ⟨g, off + n, none⟩ (.int .i64 (x : Int)) := by rw [hz1, Nat.mul_one]; rfl
      rw [hset]
      exact ⟨rfl, rfl, rfl, by simp [World.setCell], fun k _ hne => Below.heap_setCell _ _ _ _ (fun e => hne (by rw [e]))⟩
  · obtain ⟨v', w', hrun, hown, hg⟩ := run_append_arg_grows (P := Tryd.prog) w 34 ty 3 i0 _ 1 8 Tryd.underlying34 hi0 hz0 hz1 hz2 rfl (by decide) ⟨g, off, none⟩ n cap (xs.map fun (y : Nat) => Value.int .i64 (y : Int)) (by simp [hn'])
      (fun j u hj => by
        simp only [List.getElem?_map, Option.map_eq_some_iff] at hj
        obtain ⟨y, hy, rfl⟩ := hj
        have hjl : j < xs.length := by
          rcases Nat.lt_or_ge j xs.length with h' | h'
          · exact h'
          · rw [List.getElem?_eq_none h'] at hy; cases hy
        have := h1.cell (i := off + j) (by omega)
        rw [h3 j y hy] at this
        rw [← this]
        by_cases hj0 : j = 0
        · subst hj0; simp [Addr.add]
        · simp [Addr.add, hj0])
      ad 1 c [.int .i64 (x : Int)] rfl hnews (by omega) (by unfold maxLen; omega) (by omega)
    rcases hown.2 with ⟨_, h0⟩ | ⟨g', cap', cur, rfl, hge, hgg, hfit', hbig, hcs, htake⟩
    · omega
    · refine ⟨g', 0, cap', w', hrun, ⟨by simp [hn'], by omega, hfit', hbig, cap', fun j => cur.getD j (.int .i64 0), ⟨cur, hgg, by omega, fun j hj => by rw [Array.getElem?_eq_getElem (by omega)]; simp [Array.getD, show j < cur.size by omega]⟩, by omega, fun j y hj => ?_⟩, ⟨hg.os, hg.tape, hg.output, hg.size, fun k hk _ => hg.block k hk (by simp)⟩⟩
      have h4 : (cur.toList.take ((n + 1) * 1))[j]? = some (.int .i64 (y : Int)) := by
        rw [htake]
        have : (xs.map fun (y : Nat) => Value.int .i64 (y : Int)) ++ [.int .i64 (x : Int)] = (xs ++ [x]).map fun (y : Nat) => Value.int .i64 (y : Int) := by simp
        rw [this, List.getElem?_map, hj]
        rfl
      rw [List.getElem?_take] at h4
      split at h4
      · rw [Nat.zero_add]
        have h5 : cur[j]? = some (.int .i64 (y : Int)) := by simpa using h4
        simp [Array.getD, (Array.getElem?_eq_some_iff.1 h5).1, (Array.getElem?_eq_some_iff.1 h5).2]
      · cases h4
end IntQ
theorem wpList_push {ops : Array Oper} {rest : List Oper} {o : Oper} {a : Act} {Q : Exit → Act → World → Prop} (w : World) (hgd : o.guard = none) (s x : Operand)
    (ho : o.op = .call { callee := .builtin .append, args := #[s, x], argTypes := #[34, 34] }) {base g off n cap : Nat} {xs : List Nat} (h : IntQ w base g off n cap xs) (hb : base ≤ w.heap.size) (hn : n ≤ 1000000)
    (hs : a.eval s = .slice (some ⟨g, off, none⟩) n cap) (ad : Addr) (c : Nat) (y : Nat) (hx : a.eval x = .slice (some ad) 1 c) (hy : w.cell? ad = some (.int .i64 (y : Int)))
    (hK : ∀ g' off' cap' w', IntQ w' base g' off' (n + 1) cap' (xs ++ [y]) → w.grownBy w' (some g) → wpList Tryd.prog ops Q rest (a.put o.dst (.slice (some ⟨g', off', none⟩) (n + 1) cap')) w') : wpList Tryd.prog ops Q (o :: rest) a w := by
  refine wpList_plain hgd fun K hK' => ?_
  obtain ⟨g', off', cap', w', hrun, h1, h2⟩ := h.push hb hn ad c y hy o.type
  unfold Oper.wp
  simp [execOp, ho, resolve, invoke, builtin, hs, hx, hrun, Result.andThen]
  exact hK' _ _ (hK g' off' cap' w' h1 h2)
end Go.Proofs.YtkncomfbedbikaaDoor
