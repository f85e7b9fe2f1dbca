/- An argument [][]int: its rows. -/
import Derived.Test.YtkncomfbedbikaaDoorRowBase
import Derived.Test.YtkncomfbedbikaaDoorSessB
import Derived.Deep.Matrix
namespace Go.Proofs.YtkncomfbedbikaaDoor
open Go.ChangeShapes Go.WideShapes Go.ChangeAt Go.RowKit Go.Deep
theorem spot_none {w : World} {ad : Addr} {v : Value} (h : w.cell? (ad.add 0) = some v) : ad.spot = none := by
  cases hs : ad.spot with
  | none => rfl
  | some x =>
    have hs' : (ad.add 0).spot = some x := hs
    unfold World.cell? at h
    simp [hs'] at h
    split at h <;> simp at h
theorem add_none {ad : Addr} (h : ad.spot = none) (k : Nat) : ad.add k = ⟨ad.block, ad.off + k, none⟩ := by
  unfold Addr.add
  split
  · rename_i h'; subst h'; rw [← h]; rfl
  · rfl
theorem addr_eta {ad : Addr} (h : ad.spot = none) : ad = ⟨ad.block, ad.off, none⟩ := by
  obtain ⟨b, o, s⟩ := ad
  simp at h
  rw [h]
set_option maxRecDepth 100000 in
/-- An argument [][]int: a slice value whose elements read as rows of numbers. -/
theorem open_rows {H : Type} {enc : TypeId × Value → H} {w : World} {base b0 : Nat} {v : Value} {d : DataW H} {p : List MemPlace} (hv : Value.okWide Tryd.prog w .any base 33 v) (h : DataW.Trod enc Tryd.prog w b0 (fun _ => true) true 33 v d p) :
    ∃ (A : Option Addr) (m c : Nat) (L : Nat → Nat) (X : Nat → Nat → Int), v = .slice A m c ∧ m ≤ c ∧ m ≤ maxLen ∧ RowsAt w A m L X := by
  obtain ⟨a, len, cap, rfl⟩ := okWide_slice Tryd.underlying33 hv
  obtain ⟨fuel, hf⟩ := h
  have hcs : (Value.slice a len cap).cells.toList = [.slice a len cap] := rfl
  rcases open_int_rows Tryd.underlying33 Tryd.underlying34 Tryd.underlying3 (by kernel_rfl) (by kernel_rfl) hf with ⟨h1, _⟩ | ⟨ad, l, c, A, L, C, Z, h1, _, hlc, hcm, _, hall⟩
  · rw [hcs] at h1
    injection h1 with h1
    cases h1
    exact ⟨none, 0, 0, fun _ => 0, fun _ _ => 0, rfl, Nat.le_refl _, Nat.zero_le _, fun i hi => absurd hi (by omega)⟩
  · rw [hcs] at h1
    injection h1 with h1
    cases h1
    refine ⟨some ad, len, cap, L, fun r t => (Z r).getD t 0, rfl, hlc, Nat.le_trans hlc hcm, fun i hi => ?_⟩
    obtain ⟨hc, hLC, hCm, _, _, hA0, hA1⟩ := hall i (by omega)
    have hsp := spot_none (hall 0 (by omega)).1
    rw [add_none hsp] at hc
    refine ⟨ad.block, ad.off, congrArg some (addr_eta hsp), cell_lt hc, Nat.le_trans hLC hCm, A i, C i, hc, fun t ht => ?_⟩
    cases hAi : A i with
    | none => have := hA0 hAi; omega
    | some a' =>
      obtain ⟨_, hcell⟩ := hA1 a' hAi
      have hc' := hcell t (by omega)
      have hsp' := spot_none (hcell 0 (by omega))
      rw [add_none hsp'] at hc'
      exact ⟨a'.block, a'.off, congrArg some (addr_eta hsp'), cell_lt hc', hc'⟩
end Go.Proofs.YtkncomfbedbikaaDoor
