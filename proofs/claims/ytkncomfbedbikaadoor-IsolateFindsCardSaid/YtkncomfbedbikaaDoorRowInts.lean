/- What the rows of this seat share: the listed variable's cell, an argument that is a slice of ops, a world for the witness. · An argument [][]int: its rows. -/
import Derived.Test.YtkncomfbedbikaaDoorErrWalk
import Derived.Test.YtkncomfbedbikaaDoorOpsA
import Derived.Test.YtkncomfbedbikaaDoorCards
import Derived.Test.YtkncomfbedbikaaDoorTie
import Derived.WalkKit
import Derived.ProofKit
import Derived.OpenShut
import Derived.Deep.DeepHandedRow
import Derived.Deep.Slices
import Derived.Deep.Fields
import Derived.ChangeSame
import Derived.Carry
import Derived.LaidHandle
import Derived.Test.YtkncomfbedbikaaDoorSessB
import Derived.Deep.Matrix
namespace Go.Proofs.YtkncomfbedbikaaDoor
open Go.ChangeShapes Go.WideShapes Go.ChangeAt Go.RowKit Go.Deep
theorem own : ownKnob Tryd.prog.godebug = none := by kernel_rfl
theorem laidOutP : laidOutB Tryd.prog = true := by kernel_rfl
theorem gErr : Tryd.prog.globalNamed "errors.errorType" = some 1 := by kernel_rfl
theorem rtypeId : (Tryd.prog.cutTypes.find? (·.1 == "internal/reflectlite.rtype")).map (·.2) = some 244 := by kernel_rfl
theorem oneRow : ((List.range Tryd.prog.types.size).filter fun t => Tryd.prog.rowNamed t [101, 114, 114, 111, 114]) = [28] := by kernel_rfl
theorem errHandle : typeHandle Tryd.prog 28 = .pointer (some ⟨2, 28, none⟩) := by kernel_rfl
theorem errLaid_of {W : World} {l : List (String × DataW Unit)} (hm : ("errors.errorType", Rows.laid_errors_errorType) ∈ l) (h : handlesMet Tryd.prog l W) : ErrLaid W := by
  obtain ⟨name, u, ty, e1, e2, e3, e4, e5⟩ := h _ hm
  have en : name = [101, 114, 114, 111, 114] := (Option.some.inj e1).symm
  subst en
  obtain rfl := Option.some.inj (rtypeId.symm.trans e2)
  have hmm : ty ∈ (List.range Tryd.prog.types.size).filter fun t => Tryd.prog.rowNamed t [101, 114, 114, 111, 114] := List.mem_filter.2 ⟨List.mem_range.2 e3, e4⟩
  rw [oneRow] at hmm
  obtain rfl := List.mem_singleton.1 hmm
  rw [errHandle] at e5
  unfold ErrLaid
  simpa using World.var?_cell gErr e5 0
section
variable {H : Type} {enc : TypeId × Value → H} {P : Program} {w : World} {base : Nat} {spare : Nat → Bool} {held : Bool}
theorem open_slice_fields {t e : TypeId} {fs : Array Field} {fuel : Nat} {cs : List Value} {x : DataW H × List MemPlace} (ht : P.underlying t = some (.slice e)) (he : P.underlying e = some (.struct fs))
    (hone : oneCellFields P fs = true) (hC : P.cellsOf e = fs.size) (h : DataW.trod enc P w base spare held fuel t cs = some x) :
    (cs = [.slice none 0 0] ∧ x = (.nil, [])) ∨
    ∃ (a : Addr) (len cap m : Nat) (D : Nat → DataW H) (Pl : Nat → List MemPlace), cs = [.slice (some a) len cap] ∧ base ≤ a.block ∧ len ≤ cap ∧ cap ≤ maxLen ∧ m = (if spare a.block then cap else len) ∧
      x = (.slice ((List.range len).map D) ((List.range (m - len)).map fun j => D (len + j)), MemPlace.row a (m * fs.size) ++ (List.range m).flatMap Pl) ∧
      ∀ i, i < m → ∃ (ys : List (DataW H × List MemPlace)) (n : Nat), D i = .agg (ys.map (·.1)) ∧ Pl i = ys.flatMap (·.2) ∧ ys.length = fs.size ∧
        ∀ (j : Nat) (f : Field), fs[j]? = some f → ∃ (v : Value) (y : DataW H × List MemPlace), w.cell? (a.add (i * fs.size + j)) = some v ∧ ys[j]? = some y ∧ DataW.trod enc P w base spare held n f.type [v] = some y := by
  rcases open_slice ht h with h0 | ⟨a, len, cap, m, n, D, Pl, hcs, hb, hl, hm, hmm, hx, hi⟩
  · exact .inl h0
  · refine .inr ⟨a, len, cap, m, D, Pl, hcs, hb, hl, hm, hmm, by rw [hC] at hx; exact hx, fun i him => ?_⟩
    obtain ⟨cs', hc, ht'⟩ := hi i him
    rw [hC] at hc
    obtain ⟨ys, n', hn', hy, hlen, hyl, hf⟩ := DataW.trod_struct he ht'
    obtain ⟨_, hcl, hat⟩ := World.cells?_some hc
    simp only [Prod.mk.injEq] at hy
    refine ⟨ys, n', hy.1, hy.2, hyl, fun j f hj => ?_⟩
    obtain ⟨ho, hk⟩ := hone_of hone j f hj
    have hjl : j < fs.size := (Array.getElem?_eq_some_iff.1 hj).1
    have hcell := hat j hjl
    have hv : cs'[j]? = some (cs'[j]'(by omega)) := List.getElem?_eq_getElem (by omega)
    have h1 := hf j f hj
    rw [ho, hk] at h1
    have hone' : (cs'.drop j).take 1 = [cs'[j]'(by omega)] := by
      rw [List.drop_eq_getElem_cons (by omega)]
      rfl
    rw [hone'] at h1
    have hys : ys[j]? = some (ys[j]'(by omega)) := List.getElem?_eq_getElem (by omega)
    refine ⟨_, _, ?_, hys, h1.trans hys⟩
    rw [← Go.Deep.add_add, hcell, hv]
end

set_option maxRecDepth 100000 in
/-- An argument []Op: a slice value whose elements read as ops; n its length. -/
theorem open_ops {H : Type} {enc : TypeId × Value → H} {w : World} {base b0 : Nat} {v : Value} {d : DataW H} {p : List MemPlace} (hv : Value.okWide Tryd.prog w .any base 22 v) (h : DataW.Trod enc Tryd.prog w b0 (fun _ => true) true 22 v d p) :
    ∃ (A : Option Addr) (n c : Nat) (F : Nat → GOp), v = .slice A n c ∧ n ≤ c ∧ OpsAt w A n F := by
  obtain ⟨a, len, cap, rfl⟩ := okWide_slice Tryd.underlying22 hv
  obtain ⟨fuel, hf⟩ := h
  have hcs : (Value.slice a len cap).cells.toList = [.slice a len cap] := rfl
  rcases open_slice_fields Tryd.underlying22 Tryd.underlying95 (by kernel_rfl) (by kernel_rfl) hf with ⟨h1, _⟩ | ⟨ad, l, c, m, D, Pl, h1, _, hlc, _, hm, _, hall⟩
  · rw [hcs] at h1
    injection h1 with h1
    cases h1
    exact ⟨none, 0, 0, fun _ => ⟨0, 0, 0, 0, 0, 0, 0, 0⟩, rfl, Nat.le_refl _, fun i hi => absurd hi (by omega)⟩
  · rw [hcs] at h1
    injection h1 with h1
    cases h1
    have hml : len ≤ m := by simp at hm; omega
    have hint : ∀ i, i < len → ∃ o : GOp, w.cell? (ad.add (i * 8 + 0)) = some (.int .i64 o.proc) ∧ w.cell? (ad.add (i * 8 + 1)) = some (.int .i64 o.key) ∧ w.cell? (ad.add (i * 8 + 2)) = some (.int .i64 o.kind) ∧ w.cell? (ad.add (i * 8 + 3)) = some (.int .i64 o.a) ∧
        w.cell? (ad.add (i * 8 + 4)) = some (.int .i64 o.b) ∧ w.cell? (ad.add (i * 8 + 5)) = some (.int .i64 o.result) ∧ w.cell? (ad.add (i * 8 + 6)) = some (.int .i64 o.call) ∧ w.cell? (ad.add (i * 8 + 7)) = some (.int .i64 o.ret) := by
      intro i hi
      obtain ⟨ys, n', _, _, hyl, hf'⟩ := hall i (by omega)
      obtain ⟨v0, y0, c0, _, t0⟩ := hf' 0 _ rfl
      obtain ⟨v1, y1, c1, _, t1⟩ := hf' 1 _ rfl
      obtain ⟨v2, y2, c2, _, t2⟩ := hf' 2 _ rfl
      obtain ⟨v3, y3, c3, _, t3⟩ := hf' 3 _ rfl
      obtain ⟨v4, y4, c4, _, t4⟩ := hf' 4 _ rfl
      obtain ⟨v5, y5, c5, _, t5⟩ := hf' 5 _ rfl
      obtain ⟨v6, y6, c6, _, t6⟩ := hf' 6 _ rfl
      obtain ⟨v7, y7, c7, _, t7⟩ := hf' 7 _ rfl
      obtain ⟨z0, e0, _⟩ := DataW.trod_int Tryd.underlying3 t0
      obtain ⟨z1, e1, _⟩ := DataW.trod_int Tryd.underlying3 t1
      obtain ⟨z2, e2, _⟩ := DataW.trod_int Tryd.underlying3 t2
      obtain ⟨z3, e3, _⟩ := DataW.trod_int Tryd.underlying3 t3
      obtain ⟨z4, e4, _⟩ := DataW.trod_int Tryd.underlying3 t4
      obtain ⟨z5, e5, _⟩ := DataW.trod_int Tryd.underlying3 t5
      obtain ⟨z6, e6, _⟩ := DataW.trod_int Tryd.underlying3 t6
      obtain ⟨z7, e7, _⟩ := DataW.trod_int Tryd.underlying3 t7
      cases e0; cases e1; cases e2; cases e3; cases e4; cases e5; cases e6; cases e7
      exact ⟨⟨z0, z1, z2, z3, z4, z5, z6, z7⟩, c0, c1, c2, c3, c4, c5, c6, c7⟩
    have hsp : 0 < len → ad.spot = none := fun h0 => by
      obtain ⟨o, h, _⟩ := hint 0 h0
      cases hs : ad.spot with
      | none => rfl
      | some x =>
        unfold World.cell? at h
        simp [Addr.add, hs] at h
        split at h <;> simp at h
    have hadd : 0 < len → ∀ k, ad.add k = ⟨ad.block, ad.off + k, none⟩ := fun h0 k => by
      have := hsp h0
      unfold Addr.add
      split
      · rename_i h; subst h; rw [← this]; rfl
      · rfl
    refine ⟨some ad, len, cap, fun i => if h : i < len then Classical.choose (hint i h) else ⟨0, 0, 0, 0, 0, 0, 0, 0⟩, rfl, hlc, fun i hi => ?_⟩
    have h0 : 0 < len := by omega
    have hc := Classical.choose_spec (hint i hi)
    simp only [dif_pos hi]
    generalize Classical.choose (hint i hi) = o at hc
    simp only [hadd h0] at hc
    refine ⟨ad.block, ad.off, ?_, cell_lt hc.1, ?_⟩
    · exact congrArg some (hadd h0 0)
    · unfold CellsAt
      simpa [Nat.add_assoc] using hc
/-- A world for the witness: the settled one, the listed variable holding what the text lays. -/
noncomputable def laidWorld (os : Os) : World :=
  { World.holding Tryd.prog os ⟨#[], #[], []⟩ with heap := (World.holding Tryd.prog os ⟨#[], #[], []⟩).heap.modify 1 fun
      | .cells _ t frozen => .cells #[.iface 244 (.agg #[.pointer (some ⟨2, 28, none⟩)])] t frozen
      | o => o }
end Go.Proofs.YtkncomfbedbikaaDoor
namespace Go.Proofs.YtkncomfbedbikaaDoor
open Go.ChangeShapes Go.WideShapes Go.ChangeAt Go.RowKit Go.Deep
theorem spot_none {w : World} {ad : Addr} {v : Value} (h : w.cell? (ad.add 0) = some v) : ad.spot = none := by
  cases hs : ad.spot with
  | none => rfl
  | some x =>
    have hs' : (ad.add 0).spot = some x := hs
    unfold World.cell? at h
    simp [hs'] at h
    split at h <;> simp at h
theorem add_none {ad : Addr} (h : ad.spot = none) (k : Nat) : ad.add k = ⟨ad.block, ad.off + k, none⟩ := by
  unfold Addr.add
  split
  · rename_i h'; subst h'; rw [← h]; rfl
  · rfl
theorem addr_eta {ad : Addr} (h : ad.spot = none) : ad = ⟨ad.block, ad.off, none⟩ := by
  obtain ⟨b, o, s⟩ := ad
  simp at h
  rw [h]
set_option maxRecDepth 100000 in
/-- An argument [][]int: a slice value whose elements read as rows of numbers. -/
theorem open_rows {H : Type} {enc : TypeId × Value → H} {w : World} {base b0 : Nat} {v : Value} {d : DataW H} {p : List MemPlace} (hv : Value.okWide Tryd.prog w .any base 33 v) (h : DataW.Trod enc Tryd.prog w b0 (fun _ => true) true 33 v d p) :
    ∃ (A : Option Addr) (m c : Nat) (L : Nat → Nat) (X : Nat → Nat → Int), v = .slice A m c ∧ m ≤ c ∧ m ≤ maxLen ∧ RowsAt w A m L X := by
  obtain ⟨a, len, cap, rfl⟩ := okWide_slice Tryd.underlying33 hv
  obtain ⟨fuel, hf⟩ := h
  have hcs : (Value.slice a len cap).cells.toList = [.slice a len cap] := rfl
  rcases open_int_rows Tryd.underlying33 Tryd.underlying34 Tryd.underlying3 (by kernel_rfl) (by kernel_rfl) hf with ⟨h1, _⟩ | ⟨ad, l, c, A, L, C, Z, h1, _, hlc, hcm, _, hall⟩
  · rw [hcs] at h1
    injection h1 with h1
    cases h1
    exact ⟨none, 0, 0, fun _ => 0, fun _ _ => 0, rfl, Nat.le_refl _, Nat.zero_le _, fun i hi => absurd hi (by omega)⟩
  · rw [hcs] at h1
    injection h1 with h1
    cases h1
    refine ⟨some ad, len, cap, L, fun r t => (Z r).getD t 0, rfl, hlc, Nat.le_trans hlc hcm, fun i hi => ?_⟩
    obtain ⟨hc, hLC, hCm, _, _, hA0, hA1⟩ := hall i (by omega)
    have hsp := spot_none (hall 0 (by omega)).1
    rw [add_none hsp] at hc
    refine ⟨ad.block, ad.off, congrArg some (addr_eta hsp), cell_lt hc, Nat.le_trans hLC hCm, A i, C i, hc, fun t ht => ?_⟩
    cases hAi : A i with
    | none => have := hA0 hAi; omega
    | some a' =>
      obtain ⟨_, hcell⟩ := hA1 a' hAi
      have hc' := hcell t (by omega)
      have hsp' := spot_none (hcell 0 (by omega))
      rw [add_none hsp'] at hc'
      exact ⟨a'.block, a'.off, congrArg some (addr_eta hsp'), cell_lt hc', hc'⟩
end Go.Proofs.YtkncomfbedbikaaDoor
