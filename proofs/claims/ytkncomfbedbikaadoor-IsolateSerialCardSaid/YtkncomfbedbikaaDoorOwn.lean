/- Rows of the call's own: small lemmas. -/
import Derived.Test.YtkncomfbedbikaaDoorOpsA
import Derived.Test.YtkncomfbedbikaaDoorMapFn
namespace Go.Proofs.YtkncomfbedbikaaDoor
open Go.RowKit
theorem int_info : (Tryd.prog.info? 3).map (fun i => (i.zero, i.size, i.bytes)) = some (some (.int .i64 0), 1, 8) := by kernel_rfl
/-- A row of the call's own as a slice that is read. -/
theorem own_ints {w : World} {base n : Nat} {v : Value} {f : Nat → Int} (h : w.ownsRow base 3 1 v n ((List.range n).map fun t => .int .i64 (f t))) :
    ∃ A cap, v = .slice A n cap ∧ n ≤ cap ∧ IntsAt w A n f := by
  rcases h.2 with ⟨rfl, rfl⟩ | ⟨g, cap, cur, rfl, hb, hg, hn, hc, hs, hx⟩
  · exact ⟨none, 0, rfl, Nat.le_refl _, fun i hi => absurd hi (by omega)⟩
  · refine ⟨_, cap, rfl, hn, fun i hi => ⟨g, 0, rfl, (Array.getElem?_eq_some_iff.1 hg).1, ?_⟩⟩
    have := h.cellAt i (by omega)
    rw [Nat.zero_add, this]
    simp [hi]
theorem own_not_map {w : World} {base n size b : Nat} {e : TypeId} {v : Value} {xs : List Value} {K : Type} [DecidableEq K] {enc : K → Value} {f : K → Option Value} (h : w.ownsRow base e size v n xs) (hm : mapFn w b enc f) : some b ≠ v.ownBlock := by
  obtain ⟨_, ⟨es, clock, hb, _⟩, _⟩ := hm
  rcases h.2 with ⟨rfl, rfl⟩ | ⟨g, cap, cur, rfl, _, hg, _⟩
  · simp [Value.ownBlock]
  · intro he
    have : b = g := by simpa [Value.ownBlock] using he
    subst this
    rw [hb] at hg
    cases hg
theorem mapFn.grown {w w' : World} {b : Nat} {K : Type} [DecidableEq K] {enc : K → Value} {f : K → Option Value} {row : Option Nat} (h : mapFn w b enc f) (hg : w.grownBy w' row) (hne : some b ≠ row) : mapFn w' b enc f := by
  have hlt := h.lt
  obtain ⟨L, ⟨es, clock, h1, h2⟩, h3⟩ := h
  exact ⟨L, ⟨es, clock, (hg.block b hlt hne).trans h1, h2⟩, h3⟩
theorem own_ge {w : World} {base n size : Nat} {e : TypeId} {v : Value} {xs : List Value} (h : w.ownsRow base e size v n xs) : ∀ k, v.ownBlock = some k → base ≤ k := fun k hk => (h.lt k hk).1
theorem own_nil (w : World) (base size : Nat) (e : TypeId) : w.ownsRow base e size (.slice none 0 0) 0 [] := ⟨by simp, .inl ⟨rfl, rfl⟩⟩
theorem own_below {w w' : World} {base n size : Nat} {e : TypeId} {v : Value} {xs : List Value} (h : w.ownsRow base e size v n xs) (hb : Below w.heap.size w w') : w'.ownsRow base e size v n xs := by
  refine h.kept (row := none) ⟨hb.os, hb.tape, hb.output, hb.size, fun k hk _ => hb.block k hk⟩ ?_
  cases hv : v.ownBlock
  · exact .inl rfl
  · exact .inr (by simp)
theorem own_grown {w w' : World} {base n size : Nat} {e : TypeId} {v : Value} {xs : List Value} {row : Option Nat} (h : w.ownsRow base e size v n xs) (hg : w.grownBy w' row) (hne : v.ownBlock ≠ row ∨ row = none) : w'.ownsRow base e size v n xs := by
  refine h.kept hg ?_
  rcases hne with h' | rfl
  · exact .inr h'
  · cases hv : v.ownBlock
    · exact .inl rfl
    · exact .inr (by simp)
theorem range_snoc (f : Nat → Value) (j : Nat) : (List.range j).map f ++ [f j] = (List.range (j + 1)).map f := by simp [List.range_succ]
theorem news1 {w : World} {g : Nat} (hg : g = w.heap.size) {x y : Int} (h : x = y) (t : TypeId) : ∀ k u, [Value.int .i64 x][k]? = some u → (w.alloc (.cells #[.int .i64 y] t)).cell? ((⟨g, 0, none⟩ : Addr).add k) = some u := by
  intro k u hk
  subst hg h
  match k, hk with
  | 0, hk =>
    cases hk
    simp [Addr.add, World.cell?_alloc_new]
theorem news1_one (x : Int) : ∀ u ∈ [Value.int .i64 x], u.oneCell' = true := fun u hu => by
  simp at hu
  rw [hu]
  rfl
end Go.Proofs.YtkncomfbedbikaaDoor
