/- An argument isolate.Story: its parts; each slice's length by the reach. -/
import Derived.Test.YtkncomfbedbikaaDoorRowInts
import Derived.Test.YtkncomfbedbikaaDoorIsoP
import Derived.SizedLaws
namespace Go.Proofs.YtkncomfbedbikaaDoor
open Go.ChangeShapes Go.WideShapes Go.ChangeAt Go.RowKit Go.Deep
theorem wt_all {H : Type} {P : Program} {e : TypeId} {d : DataW H} {n : Nat} (hn : n ∈ d.weights P e) : ∀ {l : List (DataW H)}, d ∈ l → n ∈ DataW.weightsAll P e l
  | [], h => by cases h
  | d' :: r, h => by
    unfold DataW.weightsAll
    rcases List.mem_cons.1 h with rfl | h
    · exact List.mem_append_left _ hn
    · exact List.mem_append_right _ (wt_all hn h)
theorem wt_slice {H : Type} {P : Program} {t e : TypeId} {el sp : List (DataW H)} {R : Nat} (hu : P.underlying t = some (.slice e)) (h : ∀ n ∈ (DataW.slice el sp).weights P t, n ≤ R) :
    (el.length + sp.length) * P.bytesOf e ≤ R ∧ ∀ d ∈ el, ∀ n ∈ d.weights P e, n ≤ R := by
  refine ⟨h _ (by simp [DataW.weights, hu]), fun d hd n hn => h n ?_⟩
  simp only [DataW.weights, hu]
  exact List.mem_cons_of_mem _ (List.mem_append_left _ (wt_all hn hd))
theorem wt_part {H : Type} {P : Program} {t u : TypeId} {fs : Array Field} {ds : List (DataW H)} {d : DataW H} {j R : Nat} (hu : P.underlying t = some (.struct fs)) (h : ∀ n ∈ (DataW.agg ds).weights P t, n ≤ R) (hj : (fs.toList.map (·.type))[j]? = some u) (hd : ds[j]? = some d) :
    ∀ n ∈ d.weights P u, n ≤ R := fun n hn => h n (by
  simp only [DataW.weights, hu]
  exact DataW.weights_mem_each hj hd n hn)
theorem bytes_iop : Tryd.prog.bytesOf 139 = 32 := by kernel_rfl
theorem bytes_itx : Tryd.prog.bytesOf 152 = 32 := by kernel_rfl
theorem bytes_ints : Tryd.prog.bytesOf 34 = 24 := by kernel_rfl
theorem bytes_int : Tryd.prog.bytesOf 3 = 8 := by kernel_rfl
section
variable {H : Type} {enc : TypeId × Value → H} {w : World} {b0 : Nat}
set_option maxRecDepth 100000 in
theorem open_iops {v : Value} {x : DataW H × List MemPlace} {fuel : Nat} (hf : DataW.trod enc Tryd.prog w b0 (fun _ => true) true fuel 132 [v] = some x) (hw : ∀ n ∈ x.1.weights Tryd.prog 132, n ≤ reachBytes) :
    ∃ (A : Option Addr) (k c : Nat) (O : Nat → IOp), v = .slice A k c ∧ k ≤ c ∧ k ≤ 4398046510976 ∧ IOpsAt w A k O := by
  rcases open_slice_fields Tryd.underlying132 Tryd.underlying139 (by kernel_rfl) (by kernel_rfl) hf with ⟨h1, _⟩ | ⟨ad, len, cap, m, D, Pl, h1, _, hlc, _, hm, hx, hall⟩
  · cases h1
    exact ⟨none, 0, 0, fun _ => ⟨false, 0, 0, 0⟩, rfl, Nat.le_refl _, by omega, fun i hi => absurd hi (by omega)⟩
  · cases h1
    have hml : len ≤ m := by simp at hm; omega
    rw [hx] at hw
    have hb := (wt_slice Tryd.underlying132 hw).1
    rw [bytes_iop] at hb
    simp only [List.length_map, List.length_range, reachBytes] at hb
    have hint : ∀ i, i < len → ∃ o : IOp, w.cell? (ad.add (i * 4 + 0)) = some (.bool o.wr) ∧ w.cell? (ad.add (i * 4 + 1)) = some (.int .i64 o.key) ∧ w.cell? (ad.add (i * 4 + 2)) = some (.int .i64 o.frm) ∧ w.cell? (ad.add (i * 4 + 3)) = some (.int .i64 o.num) := by
      intro i hi
      obtain ⟨ys, n', _, _, hyl, hf'⟩ := hall i (by omega)
      obtain ⟨v0, y0, c0, _, t0⟩ := hf' 0 _ rfl
      obtain ⟨v1, y1, c1, _, t1⟩ := hf' 1 _ rfl
      obtain ⟨v2, y2, c2, _, t2⟩ := hf' 2 _ rfl
      obtain ⟨v3, y3, c3, _, t3⟩ := hf' 3 _ rfl
      obtain ⟨z0, e0, _⟩ := DataW.trod_bool Tryd.underlying4 t0
      obtain ⟨z1, e1, _⟩ := DataW.trod_int Tryd.underlying3 t1
      obtain ⟨z2, e2, _⟩ := DataW.trod_int Tryd.underlying3 t2
      obtain ⟨z3, e3, _⟩ := DataW.trod_int Tryd.underlying3 t3
      cases e0; cases e1; cases e2; cases e3
      exact ⟨⟨z0, z1, z2, z3⟩, c0, c1, c2, c3⟩
    refine ⟨some ad, len, cap, fun i => if h : i < len then Classical.choose (hint i h) else ⟨false, 0, 0, 0⟩, rfl, hlc, by omega, fun i hi => ?_⟩
    have hsp : ad.spot = none := by
      obtain ⟨o, h, _⟩ := hint 0 (by omega)
      rw [Nat.zero_mul, Nat.zero_add] at h
      exact spot_none h
    have hc := Classical.choose_spec (hint i hi)
    simp only [dif_pos hi]
    generalize Classical.choose (hint i hi) = o at hc
    simp only [add_none hsp] at hc
    exact ⟨ad.block, ad.off, congrArg some (addr_eta hsp), cell_lt hc.1, by simpa using hc.1, by simpa [Nat.add_assoc] using hc.2.1, by simpa [Nat.add_assoc] using hc.2.2.1, by simpa [Nat.add_assoc] using hc.2.2.2⟩
structure ITx where
  A : Option Addr
  k : Nat
  cap : Nat
  o : Nat → IOp
  c : Bool
set_option maxRecDepth 100000 in
theorem open_itxs {v : Value} {x : DataW H × List MemPlace} {fuel : Nat} (hf : DataW.trod enc Tryd.prog w b0 (fun _ => true) true fuel 75 [v] = some x) (hw : ∀ n ∈ x.1.weights Tryd.prog 75, n ≤ reachBytes) :
    ∃ (A : Option Addr) (n c : Nat) (T : Nat → ITx), v = .slice A n c ∧ n ≤ 4398046510976 ∧ ∀ i, i < n → ∃ b off, A = some ⟨b, off, none⟩ ∧ b < w.heap.size ∧ (T i).k ≤ 4398046510976 ∧ w.cell? ⟨b, off + i * 2, none⟩ = some (.slice (T i).A (T i).k (T i).cap) ∧ (T i).k ≤ (T i).cap ∧ w.cell? ⟨b, off + i * 2 + 1, none⟩ = some (.bool (T i).c) ∧ IOpsAt w (T i).A (T i).k (T i).o := by
  rcases open_slice_fields Tryd.underlying75 Tryd.underlying152 (by kernel_rfl) (by kernel_rfl) hf with ⟨h1, _⟩ | ⟨ad, len, cap, m, D, Pl, h1, _, hlc, _, hm, hx, hall⟩
  · cases h1
    exact ⟨none, 0, 0, fun _ => ⟨none, 0, 0, fun _ => ⟨false, 0, 0, 0⟩, false⟩, rfl, by omega, fun i hi => absurd hi (by omega)⟩
  · cases h1
    have hml : len ≤ m := by simp at hm; omega
    rw [hx] at hw
    obtain ⟨hb, hel⟩ := wt_slice Tryd.underlying75 hw
    rw [bytes_itx] at hb
    simp only [List.length_map, List.length_range, reachBytes] at hb
    have hint : ∀ i, i < len → ∃ o : ITx, w.cell? (ad.add (i * 2 + 0)) = some (.slice o.A o.k o.cap) ∧ w.cell? (ad.add (i * 2 + 1)) = some (.bool o.c) ∧ o.k ≤ o.cap ∧ o.k ≤ 4398046510976 ∧ IOpsAt w o.A o.k o.o := by
      intro i hi
      obtain ⟨ys, n', hD, _, hyl, hf'⟩ := hall i (by omega)
      obtain ⟨v0, y0, c0, g0, t0⟩ := hf' 0 _ rfl
      obtain ⟨v1, y1, c1, _, t1⟩ := hf' 1 _ rfl
      obtain ⟨z1, e1, _⟩ := DataW.trod_bool Tryd.underlying4 t1
      have hwi := hel (D i) (List.mem_map.2 ⟨i, List.mem_range.2 hi, rfl⟩)
      rw [hD] at hwi
      obtain ⟨A, k, c, O, rfl, h1, h2, h3⟩ := open_iops t0 (wt_part Tryd.underlying152 hwi (j := 0) rfl (by simp [g0]))
      cases e1
      exact ⟨⟨A, k, c, O, z1⟩, c0, c1, h1, h2, h3⟩
    refine ⟨some ad, len, cap, fun i => if h : i < len then Classical.choose (hint i h) else ⟨none, 0, 0, fun _ => ⟨false, 0, 0, 0⟩, false⟩, rfl, by omega, fun i hi => ?_⟩
    have hsp : ad.spot = none := by
      obtain ⟨o, h, _⟩ := hint 0 (by omega)
      rw [Nat.zero_mul, Nat.zero_add] at h
      exact spot_none h
    have hc := Classical.choose_spec (hint i hi)
    simp only [dif_pos hi]
    generalize Classical.choose (hint i hi) = o at hc
    simp only [add_none hsp] at hc
    exact ⟨ad.block, ad.off, congrArg some (addr_eta hsp), cell_lt hc.1, hc.2.2.2.1, by simpa using hc.1, hc.2.2.1, by simpa [Nat.add_assoc] using hc.2.1, hc.2.2.2.2⟩
set_option maxRecDepth 100000 in
theorem open_rowsC {v : Value} {x : DataW H × List MemPlace} {fuel : Nat} (hf : DataW.trod enc Tryd.prog w b0 (fun _ => true) true fuel 33 [v] = some x) (hw : ∀ n ∈ x.1.weights Tryd.prog 33, n ≤ reachBytes) :
    ∃ (A : Option Addr) (m c : Nat) (L : Nat → Nat) (X : Nat → Nat → Int), v = .slice A m c ∧ m ≤ 5864062014634 ∧ RowsC w A m L X := by
  rcases open_int_rows Tryd.underlying33 Tryd.underlying34 Tryd.underlying3 (by kernel_rfl) (by kernel_rfl) hf with ⟨h1, _⟩ | ⟨ad, len, cap, A, L, C, Z, h1, _, hlc, hcm, hx, hall⟩
  · cases h1
    exact ⟨none, 0, 0, fun _ => 0, fun _ _ => 0, rfl, by omega, fun i hi => absurd hi (by omega)⟩
  · cases h1
    rw [hx] at hw
    obtain ⟨hb, hel⟩ := wt_slice Tryd.underlying33 hw
    rw [bytes_ints] at hb
    simp only [List.length_map, List.length_range, reachBytes] at hb
    refine ⟨some ad, len, cap, L, fun r t => (Z r).getD t 0, rfl, by omega, fun i hi => ?_⟩
    obtain ⟨hc, hLC, hCm, hZ, _, hA0, hA1⟩ := hall i (by omega)
    have hsp := spot_none (hall 0 (by omega)).1
    rw [add_none hsp] at hc
    have hwi := hel _ (List.mem_map.2 ⟨i, List.mem_range.2 hi, rfl⟩)
    have hL : L i ≤ 17592186043904 := by
      cases hAi : A i with
      | none => have := hA0 hAi; omega
      | some a' =>
        rw [hAi] at hwi
        have := (wt_slice Tryd.underlying34 hwi).1
        rw [bytes_int] at this
        simp only [lits, List.length_map, List.length_take, List.length_drop, reachBytes] at this
        omega
    refine ⟨ad.block, ad.off, congrArg some (addr_eta hsp), cell_lt hc, hL, A i, C i, hc, hLC, fun t ht => ?_⟩
    cases hAi : A i with
    | none => have := hA0 hAi; omega
    | some a' =>
      obtain ⟨_, hcell⟩ := hA1 a' hAi
      have hc' := hcell t (by omega)
      have hsp' := spot_none (hcell 0 (by omega))
      rw [add_none hsp'] at hc'
      exact ⟨a'.block, a'.off, congrArg some (addr_eta hsp'), cell_lt hc', hc'⟩
set_option maxRecDepth 100000 in
theorem open_story {base : Nat} {v : Value} {d : DataW H} {p : List MemPlace} (hv : Value.okWide Tryd.prog w .any base 77 v) (h : DataW.Trod enc Tryd.prog w b0 (fun _ => true) true 77 v d p) (hw : ∀ n ∈ d.weights Tryd.prog 77, n ≤ reachBytes) :
    ∃ (A V : Option Addr) (c cv : Nat) (S : GStory), v = .agg #[.slice A S.n c, .slice V S.m cv] ∧ StoryAt w A V S := by
  obtain ⟨cs, rfl, hcs⟩ := okWide_struct Tryd.underlying77 hv
  obtain ⟨fuel, hf⟩ := h
  obtain ⟨y0, y1, n, hd, _, t0, t1⟩ := trod_struct2 Tryd.underlying77 hf
  obtain ⟨hd1, _⟩ := Prod.mk.inj hd
  subst hd1
  obtain ⟨l⟩ := cs
  have hl : l.length = 2 := hcs
  match l, hl with
  | [u0, u1], _ =>
    obtain ⟨A, n, c, T, rfl, hn, hT⟩ := open_itxs (v := u0) t0 (wt_part Tryd.underlying77 hw (j := 0) rfl rfl)
    obtain ⟨V, m, cv, L, X, rfl, hm, hX⟩ := open_rowsC (v := u1) t1 (wt_part Tryd.underlying77 hw (j := 1) rfl rfl)
    exact ⟨A, V, c, cv, ⟨n, fun i => (T i).k, fun i => (T i).o, fun i => (T i).c, m, L, X⟩, rfl, ⟨fun i hi => by
      obtain ⟨b, off, h1, h2, h3, h4, h5, h6, h7⟩ := hT i hi
      exact ⟨b, off, h1, h2, h3, _, _, h4, h5, h6, h7⟩, hX, hn, hm⟩⟩
end
end Go.Proofs.YtkncomfbedbikaaDoor
