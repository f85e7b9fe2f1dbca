/- Rows of the call's own: small lemmas. · testimonylaw.sameInts: two slices that read alike. · A matrix of Booleans of the call's own: a row of rows. -/
import Derived.Test.YtkncomfbedbikaaDoorOpsA
import Derived.Test.YtkncomfbedbikaaDoorMapFn
import Derived.BigQuiet
import Derived.Deep.Light
import Derived.Deep.OwnRows
namespace Go.Proofs.YtkncomfbedbikaaDoor
open Go.RowKit
theorem int_info : (Tryd.prog.info? 3).map (fun i => (i.zero, i.size, i.bytes)) = some (some (.int .i64 0), 1, 8) := by kernel_rfl
/-- A row of the call's own as a slice that is read. -/
theorem own_ints {w : World} {base n : Nat} {v : Value} {f : Nat → Int} (h : w.ownsRow base 3 1 v n ((List.range n).map fun t => .int .i64 (f t))) :
    ∃ A cap, v = .slice A n cap ∧ n ≤ cap ∧ IntsAt w A n f := by
  rcases h.2 with ⟨rfl, rfl⟩ | ⟨g, cap, cur, rfl, hb, hg, hn, hc, hs, hx⟩
  · exact ⟨none, 0, rfl, Nat.le_refl _, fun i hi => absurd hi (by omega)⟩
  · refine ⟨_, cap, rfl, hn, fun i hi => ⟨g, 0, rfl, (Array.getElem?_eq_some_iff.1 hg).1, ?_⟩⟩
    have := h.cellAt i (by omega)
    rw [Nat.zero_add, this]
    simp [hi]
theorem own_not_map {w : World} {base n size b : Nat} {e : TypeId} {v : Value} {xs : List Value} {K : Type} [DecidableEq K] {enc : K → Value} {f : K → Option Value} (h : w.ownsRow base e size v n xs) (hm : mapFn w b enc f) : some b ≠ v.ownBlock := by
  obtain ⟨_, ⟨es, clock, hb, _⟩, _⟩ := hm
  rcases h.2 with ⟨rfl, rfl⟩ | ⟨g, cap, cur, rfl, _, hg, _⟩
  · simp [Value.ownBlock]
  · intro he
    have : b = g := by simpa [Value.ownBlock] using he
    subst this
    rw [hb] at hg
    cases hg
theorem mapFn.grown {w w' : World} {b : Nat} {K : Type} [DecidableEq K] {enc : K → Value} {f : K → Option Value} {row : Option Nat} (h : mapFn w b enc f) (hg : w.grownBy w' row) (hne : some b ≠ row) : mapFn w' b enc f := by
  have hlt := h.lt
  obtain ⟨L, ⟨es, clock, h1, h2⟩, h3⟩ := h
  exact ⟨L, ⟨es, clock, (hg.block b hlt hne).trans h1, h2⟩, h3⟩
theorem own_ge {w : World} {base n size : Nat} {e : TypeId} {v : Value} {xs : List Value} (h : w.ownsRow base e size v n xs) : ∀ k, v.ownBlock = some k → base ≤ k := fun k hk => (h.lt k hk).1
theorem own_nil (w : World) (base size : Nat) (e : TypeId) : w.ownsRow base e size (.slice none 0 0) 0 [] := ⟨by simp, .inl ⟨rfl, rfl⟩⟩
theorem own_below {w w' : World} {base n size : Nat} {e : TypeId} {v : Value} {xs : List Value} (h : w.ownsRow base e size v n xs) (hb : Below w.heap.size w w') : w'.ownsRow base e size v n xs := by
  refine h.kept (row := none) ⟨hb.os, hb.tape, hb.output, hb.size, fun k hk _ => hb.block k hk⟩ ?_
  cases hv : v.ownBlock
  · exact .inl rfl
  · exact .inr (by simp)
theorem own_grown {w w' : World} {base n size : Nat} {e : TypeId} {v : Value} {xs : List Value} {row : Option Nat} (h : w.ownsRow base e size v n xs) (hg : w.grownBy w' row) (hne : v.ownBlock ≠ row ∨ row = none) : w'.ownsRow base e size v n xs := by
  refine h.kept hg ?_
  rcases hne with h' | rfl
  · exact .inr h'
  · cases hv : v.ownBlock
    · exact .inl rfl
    · exact .inr (by simp)
theorem range_snoc (f : Nat → Value) (j : Nat) : (List.range j).map f ++ [f j] = (List.range (j + 1)).map f := by simp [List.range_succ]
theorem news1 {w : World} {g : Nat} (hg : g = w.heap.size) {x y : Int} (h : x = y) (t : TypeId) : ∀ k u, [Value.int .i64 x][k]? = some u → (w.alloc (.cells #[.int .i64 y] t)).cell? ((⟨g, 0, none⟩ : Addr).add k) = some u := by
  intro k u hk
  subst hg h
  match k, hk with
  | 0, hk =>
    cases hk
    simp [Addr.add, World.cell?_alloc_new]
theorem news1_one (x : Int) : ∀ u ∈ [Value.int .i64 x], u.oneCell' = true := fun u hu => by
  simp at hu
  rw [hu]
  rfl
end Go.Proofs.YtkncomfbedbikaaDoor
namespace Go.Proofs.YtkncomfbedbikaaDoor
open Go.RowKit
set_option maxRecDepth 100000 in
set_option maxHeartbeats 4000000 in
theorem sameInts_eq (A B : Option Addr) (n c d : Nat) (f : Nat → Int) (w : World) (hn : n ≤ 1000000000) (hA : IntsAt w A n f) (hB : IntsAt w B n f) :
    Calls Tryd.prog 23 #[.slice A n c, .slice B n d] w fun e w' => e = .returned (.bool true) ∧ Below w.heap.size w w' := by
  have HA := Lib.hid hA
  have HB := Lib.hid hB
  clear hA hB
  go_enter Tryd.func23, Tryd.ntmps23
  have hne : ((n : Int) != n) = false := by simp
  go_wp2_with fail
  go_loopw [5] (fun x wr => ∃ i nd : Nat, x = .int .i64 i ∧ i ≤ n ∧ wr = w.drewN nd) (fun x _ => n - (intOf x).toNat)
  case atStart => exact ⟨0, 0, rfl, by omega, rfl⟩
  case round =>
    clear hne
    obtain ⟨i, nd, rfl, hi, rfl⟩ := hrel
    by_cases hin : i < n
    · obtain ⟨b1, o1, rfl, h1, c1⟩ := HA.out i hin
      obtain ⟨b2, o2, rfl, h2, c2⟩ := HB.out i hin
      have hff : (f i != f i) = false := by simp
      go_wp2_with fail
      go_quiet (fail)
      go_wp2
      go_roundw
      case rel => exact ⟨i + 1, _, by go_num, by omega, rfl⟩
      case measure => go_light; simp [intOf] <;> omega
    · obtain rfl : i = n := by omega
      go_wp2
      go_ret
      exact ⟨rfl, below_drewN (Below.refl _ _) nd⟩
end Go.Proofs.YtkncomfbedbikaaDoor
namespace Go.Proofs.YtkncomfbedbikaaDoor
open Go.RowKit
theorem rowIs_below {w w' : World} {b : Nat} {t : TypeId} {n : Nat} {f : Nat → Value} (h : w.rowIs b t n f) (hb : Below w.heap.size w w') : w'.rowIs b t n f := h.of_block (hb.block b h.lt)
theorem rowIs_grown {w w' : World} {b : Nat} {t : TypeId} {n : Nat} {f : Nat → Value} {row : Option Nat} (h : w.rowIs b t n f) (hb : w.grownBy w' row) (hne : some b ≠ row) : w'.rowIs b t n f := h.of_block (hb.block b h.lt hne)
theorem rowIs_type {w : World} {b : Nat} {t t' : TypeId} {n n' : Nat} {f f' : Nat → Value} (h : w.rowIs b t n f) (h' : w.rowIs b t' n' f') : t = t' := by
  obtain ⟨c, h1, _⟩ := h
  obtain ⟨c', h2, _⟩ := h'
  rw [h1] at h2
  injection h2 with h2
  injection h2
/-- The block gO holds m rows G 0, G 1, .. (and nil beyond), the i-th one M i. -/
structure MatAt (w : World) (base gO n m : Nat) (G : Nat → Nat) (M : Nat → Nat → Bool) : Prop where
  out : w.rowIs gO 87 n (fun i => if i < m then .slice (some ⟨G i, 0, none⟩) n n else .slice none 0 0)
  row : ∀ i, i < m → w.rowIs (G i) 4 n (fun k => .bool (M i k))
  ge : base ≤ gO ∧ ∀ i, i < m → base ≤ G i
  inj : ∀ i j, i < m → j < m → G i = G j → i = j
namespace MatAt
variable {w w' : World} {base gO n m : Nat} {G : Nat → Nat} {M M' : Nat → Nat → Bool}
theorem ne (h : MatAt w base gO n m G M) {i : Nat} (hi : i < m) : gO ≠ G i := fun e => by
  have h1 := h.out
  rw [e] at h1
  have := rowIs_type h1 (h.row i hi)
  exact absurd this (by decide)
theorem congr (h : MatAt w base gO n m G M) (e : ∀ i k, i < m → k < n → M i k = M' i k) : MatAt w base gO n m G M' :=
  ⟨h.out, fun i hi => (h.row i hi).congr fun k hk => by rw [e i k hi hk], h.ge, h.inj⟩
theorem below (h : MatAt w base gO n m G M) (hb : Below w.heap.size w w') : MatAt w' base gO n m G M :=
  ⟨rowIs_below h.out hb, fun i hi => rowIs_below (h.row i hi) hb, h.ge, h.inj⟩
theorem alloc (h : MatAt w base gO n m G M) (o : Obj) : MatAt (w.alloc o) base gO n m G M := h.below ((Below.refl _ _).alloc (Nat.le_refl _) _)
theorem drew (h : MatAt w base gO n m G M) : MatAt w.drew base gO n m G M := ⟨h.out, h.row, h.ge, h.inj⟩
theorem drewN (h : MatAt w base gO n m G M) (k : Nat) : MatAt (w.drewN k) base gO n m G M := ⟨h.out, h.row, h.ge, h.inj⟩
theorem cellO (h : MatAt w base gO n m G M) {i : Nat} (hi : i < m) (hn : i < n) : w.cell? ⟨gO, i, none⟩ = some (.slice (some ⟨G i, 0, none⟩) n n) := by
  have := h.out.cell hn
  rwa [if_pos hi] at this
theorem cell (h : MatAt w base gO n m G M) {i k : Nat} (hi : i < m) (hk : k < n) : w.cell? ⟨G i, k, none⟩ = some (.bool (M i k)) := (h.row i hi).cell hk
theorem set (h : MatAt w base gO n m G M) {i : Nat} (hi : i < m) (k : Nat) (x : Bool) : MatAt (w.setCell ⟨G i, k, none⟩ (.bool x)) base gO n m G (fun a b => if a = i ∧ b = k then x else M a b) := by
  refine ⟨h.out.setOther (h.ne hi) _, fun a ha => ?_, h.ge, h.inj⟩
  by_cases e : a = i
  · subst e
    exact ((h.row a ha).set k (.bool x)).congr fun b _ => by by_cases hb : b = k <;> simp [hb]
  · exact ((h.row a ha).setOther (fun e' => e (h.inj _ _ ha hi e')) _).congr fun b _ => by simp [e]
/-- One row more. -/
theorem more (h : MatAt w base gO n m G M) (hm : m < n) (hb : base ≤ w.heap.size) :
    MatAt ((w.alloc (.cells (madeCells #[.bool false] n) 4)).setCell ⟨gO, m, none⟩ (.slice (some ⟨w.heap.size, 0, none⟩) n n)) base gO n (m + 1) (fun i => if i < m then G i else w.heap.size) (fun i k => if i < m then M i k else false) := by
  have hgO := h.out.lt
  have hG : ∀ i, i < m → G i < w.heap.size := fun i hi => (h.row i hi).lt
  refine ⟨(((h.out.alloc _).set m _).congr fun i hi => ?_), fun i hi => ?_, ⟨h.ge.1, fun i hi => ?_⟩, fun i j hi hj e => ?_⟩
  · by_cases e : i = m
    · subst e; simp
    · by_cases e2 : i < m
      · simp [e, e2, show i < m + 1 by omega]
      · simp [e, e2, show ¬ i < m + 1 by omega]
  · by_cases e : i < m
    · simp only [e, if_true]
      exact ((h.row i e).alloc _).setOther (fun e' => h.ne e e'.symm) _
    · obtain rfl : i = m := by omega
      simp only [Nat.lt_irrefl, if_false]
      exact (World.rowIs_made w (.bool false) n 4).setOther (fun e' => by simp at e'; omega) _
  · by_cases e : i < m
    · simpa [e] using h.ge.2 i e
    · simpa [e] using hb
  · by_cases e1 : i < m <;> by_cases e2 : j < m <;> simp only [e1, e2, if_true, if_false] at e
    · exact h.inj i j e1 e2 e
    · exact absurd (hG i e1) (by omega)
    · exact absurd (hG j e2) (by omega)
    · omega
end MatAt
theorem mat_new (w : World) (n : Nat) (G : Nat → Nat) (M : Nat → Nat → Bool) : MatAt (w.alloc (.cells (madeCells #[.slice none 0 0] n) 87)) w.heap.size w.heap.size n 0 G M :=
  ⟨(World.rowIs_made w (.slice none 0 0) n 87).congr fun i _ => by simp, fun i hi => absurd hi (by omega), ⟨Nat.le_refl _, fun i hi => absurd hi (by omega)⟩, fun i _ hi => absurd hi (by omega)⟩
/-- The slice at A reads as the n rows M 0, M 1, .. of n Booleans each. -/
def BoolssAt (w : World) (A : Option Addr) (n : Nat) (M : Nat → Nat → Bool) : Prop :=
  ∀ i, i < n → ∃ b off, A = some ⟨b, off, none⟩ ∧ b < w.heap.size ∧ ∃ b2 off2 c, w.cell? ⟨b, off + i, none⟩ = some (.slice (some ⟨b2, off2, none⟩) n c) ∧ n ≤ c ∧ b2 < w.heap.size ∧ ∀ k, k < n → w.cell? ⟨b2, off2 + k, none⟩ = some (.bool (M i k))
theorem MatAt.reads {w : World} {base gO n : Nat} {G : Nat → Nat} {M : Nat → Nat → Bool} (h : MatAt w base gO n n G M) : BoolssAt w (some ⟨gO, 0, none⟩) n M := fun i hi =>
  ⟨gO, 0, rfl, h.out.lt, G i, 0, n, by rw [Nat.zero_add]; exact h.cellO hi hi, Nat.le_refl _, (h.row i hi).lt, fun k hk => by rw [Nat.zero_add]; exact h.cell hi hk⟩
theorem BoolssAt.below {w w' : World} {A : Option Addr} {n : Nat} {M : Nat → Nat → Bool} (h : BoolssAt w A n M) (hb : Below w.heap.size w w') : BoolssAt w' A n M := fun i hi => by
  obtain ⟨b, off, rfl, h1, b2, off2, c, h2, h3, h4, h5⟩ := h i hi
  exact ⟨b, off, rfl, Nat.lt_of_lt_of_le h1 hb.size, b2, off2, c, (hb.cell (p := ⟨b, off + i, none⟩) h1).trans h2, h3, Nat.lt_of_lt_of_le h4 hb.size, fun k hk => (hb.cell (p := ⟨b2, off2 + k, none⟩) h4).trans (h5 k hk)⟩
theorem bool_info : (Tryd.prog.info? 4).map (fun i => (i.zero, i.size, i.bytes)) = some (some (.bool false), 1, 1) := by kernel_rfl
theorem bools_info : (Tryd.prog.info? 87).map (fun i => (i.zero, i.size, i.bytes)) = some (some (.slice none 0 0), 1, 24) := by kernel_rfl
theorem make_bools (n : Nat) (hn : n ≤ 1000000) (W : World) : (Instr.makeSlice 87 (.int .i64 (n : Int)) (.int .i64 (n : Int))).run Tryd.prog W = .ok (.slice (some ⟨W.heap.size, 0, none⟩) n n) (W.alloc (.cells (madeCells #[.bool false] n) 4)) :=
  run_make_row' _ _ _ 1 Tryd.underlying87 bool_info rfl _ _ n (by omega) (by omega) W
theorem make_boolss (n : Nat) (hn : n ≤ 1000000) (W : World) : (Instr.makeSlice 97 (.int .i64 (n : Int)) (.int .i64 (n : Int))).run Tryd.prog W = .ok (.slice (some ⟨W.heap.size, 0, none⟩) n n) (W.alloc (.cells (madeCells #[.slice none 0 0] n) 87)) :=
  run_make_row' _ _ _ 24 Tryd.underlying97 bools_info rfl _ _ n (by omega) (by omega) W
end Go.Proofs.YtkncomfbedbikaaDoor
