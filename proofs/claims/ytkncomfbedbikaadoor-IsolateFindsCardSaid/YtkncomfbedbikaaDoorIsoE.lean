/- Matrices of Booleans of the call's own, between two bounds; testimonyref.blank, isolate.empty. -/
import Derived.Test.YtkncomfbedbikaaDoorMat
import Derived.BigQuiet
import Derived.Deep.Light
namespace Go.Proofs.YtkncomfbedbikaaDoor
open Go.RowKit
/-- The cells of block gO hold n rows G 0, G 1, .. of n Booleans each; all of these blocks lie from lo up to below hi. -/
structure MatB (w : World) (lo hi gO n : Nat) (G : Nat → Nat) (M : Nat → Nat → Bool) : Prop where
  out : ∀ i, i < n → w.cell? ⟨gO, i, none⟩ = some (.slice (some ⟨G i, 0, none⟩) n n)
  row : ∀ i, i < n → w.rowIs (G i) 4 n (fun k => .bool (M i k))
  ne : ∀ i, i < n → G i ≠ gO
  inj : ∀ i j, i < n → j < n → G i = G j → i = j
  rO : lo ≤ gO ∧ gO < hi
  rG : ∀ i, i < n → lo ≤ G i ∧ G i < hi
  top : hi ≤ w.heap.size
namespace MatB
variable {w w' : World} {lo hi gO n : Nat} {G : Nat → Nat} {M M' : Nat → Nat → Bool}
theorem congr (h : MatB w lo hi gO n G M) (e : ∀ i k, i < n → k < n → M i k = M' i k) : MatB w lo hi gO n G M' :=
  ⟨h.out, fun i hi => (h.row i hi).congr fun k hk => by rw [e i k hi hk], h.ne, h.inj, h.rO, h.rG, h.top⟩
theorem keep (h : MatB w lo hi gO n G M) (hk : ∀ k, lo ≤ k → k < hi → w'.heap[k]? = w.heap[k]?) (hs : w.heap.size ≤ w'.heap.size) : MatB w' lo hi gO n G M :=
  ⟨fun i hi => (World.cell?_of_block (w := w) (hk _ h.rO.1 h.rO.2)).trans (h.out i hi), fun i hi => (h.row i hi).of_block (hk _ (h.rG i hi).1 (h.rG i hi).2), h.ne, h.inj, h.rO, h.rG, Nat.le_trans h.top hs⟩
theorem below (h : MatB w lo hi gO n G M) (hb : Below w.heap.size w w') : MatB w' lo hi gO n G M := h.keep (fun k _ hk => hb.block k (Nat.lt_of_lt_of_le hk h.top)) hb.size
theorem belowHi (h : MatB w lo hi gO n G M) (hb : Below hi w w') : MatB w' lo hi gO n G M := h.keep (fun k _ hk => hb.block k hk) hb.size
theorem alloc (h : MatB w lo hi gO n G M) (o : Obj) : MatB (w.alloc o) lo hi gO n G M := h.below ((Below.refl _ _).alloc (Nat.le_refl _) _)
theorem drew (h : MatB w lo hi gO n G M) : MatB w.drew lo hi gO n G M := h.keep (fun _ _ _ => rfl) (Nat.le_refl _)
theorem drewN (h : MatB w lo hi gO n G M) (k : Nat) : MatB (w.drewN k) lo hi gO n G M := h.keep (fun _ _ _ => rfl) (Nat.le_refl _)
theorem cell (h : MatB w lo hi gO n G M) {i k : Nat} (hi : i < n) (hk : k < n) : w.cell? ⟨G i, k, none⟩ = some (.bool (M i k)) := (h.row i hi).cell hk
theorem set (h : MatB w lo hi gO n G M) {i : Nat} (hi' : i < n) (k : Nat) (x : Bool) : MatB (w.setCell ⟨G i, k, none⟩ (.bool x)) lo hi gO n G (fun a b => if a = i ∧ b = k then x else M a b) := by
  refine ⟨fun a ha => ?_, fun a ha => ?_, h.ne, h.inj, h.rO, h.rG, by simpa [World.setCell] using h.top⟩
  · exact (World.cell?_of_block (w := w) (heap_setCell_other _ _ _ _ (fun e => h.ne i hi' e.symm))).trans (h.out a ha)
  · by_cases e : a = i
    · subst e
      exact ((h.row a ha).set k (.bool x)).congr fun b _ => by by_cases hb : b = k <;> simp [hb]
    · exact ((h.row a ha).setOther (fun e' => e (h.inj _ _ ha hi' e')) _).congr fun b _ => by simp [e]
/-- A store outside of the bounds. -/
theorem setOut (h : MatB w lo hi gO n G M) {p : Addr} (hp : p.block < lo ∨ hi ≤ p.block) (v : Value) : MatB (w.setCell p v) lo hi gO n G M :=
  h.keep (fun k h1 h2 => heap_setCell_other _ _ _ _ (by omega)) (by simp [World.setCell])
theorem reads (h : MatB w lo hi gO n G M) : BoolssAt w (some ⟨gO, 0, none⟩) n M := fun i hi' =>
  ⟨gO, 0, rfl, Nat.lt_of_lt_of_le h.rO.2 h.top, G i, 0, n, by rw [Nat.zero_add]; exact h.out i hi', Nat.le_refl _, (h.row i hi').lt, fun k hk => by rw [Nat.zero_add]; exact h.cell hi' hk⟩
end MatB
def ext (G : Nat → Nat) (i g : Nat) (t : Nat) : Nat := if t = i then g else G t
theorem ext_same (G : Nat → Nat) (i g : Nat) : ext G i g i = g := if_pos rfl
theorem ext_ne {G : Nat → Nat} {i g t : Nat} (h : t ≠ i) : ext G i g t = G t := if_neg h
def BlankPost (n : Nat) (w : World) (e : Ending) (w' : World) : Prop :=
  ∃ gO cap G, e = .returned (.slice (some ⟨gO, 0, none⟩) n cap) ∧ n ≤ cap ∧ MatB w' w.heap.size w'.heap.size gO n G (fun _ _ => false) ∧ Below w.heap.size w w'
theorem own_type {w : World} {base n size : Nat} {e : TypeId} {v : Value} {xs : List Value} (h : w.ownsRow base e size v n xs) {b : Nat} {t : TypeId} {m : Nat} {f : Nat → Value} (hr : w.rowIs b t m f) (ht : t ≠ e) : some b ≠ v.ownBlock := by
  rcases h.2 with ⟨rfl, rfl⟩ | ⟨g, cap, cur, rfl, _, hg, _⟩
  · simp [Value.ownBlock]
  · intro he
    have hbg : b = g := by simpa [Value.ownBlock] using he
    subst hbg
    obtain ⟨c, h1, _⟩ := hr
    rw [hg] at h1
    injection h1 with h1
    injection h1 with _ h2
    exact ht h2.symm
theorem own_cells {w : World} {base n : Nat} {e : TypeId} {v : Value} {f : Nat → Value} (hn : 0 < n) (h : w.ownsRow base e 1 v n ((List.range n).map f)) : ∃ g cap, v = .slice (some ⟨g, 0, none⟩) n cap ∧ n ≤ cap ∧ base ≤ g ∧ g < w.heap.size ∧ (∀ i, i < n → w.cell? ⟨g, i, none⟩ = some (f i)) := by
  rcases h.2 with ⟨rfl, h0⟩ | ⟨g, cap, cur, rfl, hb, hg, hnc, hc, hs, hx⟩
  · omega
  · refine ⟨g, cap, rfl, hnc, hb, (Array.getElem?_eq_some_iff.1 hg).1, fun t ht => ?_⟩
    have h1 : (cur.toList.take (n * 1))[t]? = some (f t) := by rw [hx]; simp [ht]
    rw [List.getElem?_take] at h1
    rw [if_pos (by omega)] at h1
    simp [World.cell?, hg]
    simpa using h1
theorem news1v {w : World} {g : Nat} (hg : g = w.heap.size) (x : Value) (t : TypeId) : ∀ k u, [x][k]? = some u → (w.alloc (.cells #[x] t)).cell? ((⟨g, 0, none⟩ : Addr).add k) = some u := by
  intro k u hk
  subst hg
  match k, hk with
  | 0, hk =>
    cases hk
    simp [Addr.add, World.cell?_alloc_new]
set_option maxRecDepth 100000 in
set_option maxHeartbeats 4000000 in
theorem blank_any (n : Nat) (w : World) (h0 : 0 < n) (hn : n ≤ 1000) : Calls Tryd.prog 110 #[.int .i64 (n : Int)] w (BlankPost n w) := by
  have hmk1 := make_bools n (by omega)
  obtain ⟨i0, hi0, hz0, hz1, hz2⟩ := info_parts bools_info
  go_enter Tryd.func110, Tryd.ntmps110
  go_wp2_with fail
  go_loopw [3, 5] (fun v x wr => ∃ (i : Nat) (G : Nat → Nat), x = .int .i64 i ∧ i ≤ n ∧ Below w.heap.size w wr ∧ wr.ownsRow w.heap.size 87 1 v i ((List.range i).map fun t => .slice (some ⟨G t, 0, none⟩) n n) ∧
    (∀ t, t < i → wr.rowIs (G t) 4 n (fun _ => .bool false) ∧ w.heap.size ≤ G t) ∧ (∀ s t, s < i → t < i → G s = G t → s = t)) (fun _ x _ => n - (intOf x).toNat)
  case atStart => exact ⟨0, fun _ => 0, rfl, by omega, Below.refl _ _, own_nil _ _ _ _, fun t ht => absurd ht (by omega), fun s t hs => absurd hs (by omega)⟩
  case round =>
    obtain ⟨i, G, rfl, hi, hbw, hown, hrow, hinj⟩ := hrel
    have HB := Lib.hid hbw
    have HV := Lib.hid hown
    have HR := Lib.hid hrow
    have HJ := Lib.hid hinj
    clear hbw hown hrow hinj
    by_cases hin : i < n
    · go_wp2_with (at_builtin; refine wpList_append_own _ rfl _ _ 97 rfl w.heap.size 87 i0 (.slice none 0 0) 1 24 Tryd.underlying97 hi0 hz0 hz1 hz2 rfl (by decide) _ _ _ rfl ((HV.out.alloc _).alloc _) ⟨wr.heap.size + 1, 0, none⟩ 1 1 [.slice (some ⟨wr.heap.size, 0, none⟩) n n] rfl rfl (news1v (by simp) _ _) (by intro u hu; simp at hu; rw [hu]; rfl) (by unfold maxLen; omega) (by omega) (by simp; have := HB.out.size; omega) ?_; intro v' w1 hown1 hg1 _; have HV1 := Lib.hid hown1; have HG1 := Lib.hid hg1; clear hown1 hg1)
      go_roundw
      case rel =>
        have hne : ∀ {t : Nat} {m : Nat} {f : Nat → Value} {b : Nat}, ((wr.alloc (.cells (madeCells #[.bool false] n) 4)).alloc (.cells #[.slice (some ⟨wr.heap.size, 0, none⟩) n n] 87)).rowIs b 4 m f → some b ≠ u3.ownBlock := fun h => own_type ((HV.out.alloc _).alloc _) h (by decide)
        have hnew : ((wr.alloc (.cells (madeCells #[.bool false] n) 4)).alloc (.cells #[.slice (some ⟨wr.heap.size, 0, none⟩) n n] 87)).rowIs wr.heap.size 4 n (fun _ => .bool false) := (World.rowIs_made wr (.bool false) n 4).alloc _
        refine ⟨i + 1, ext G i wr.heap.size, by go_num, by omega, ((HB.out.alloc HB.out.size _).alloc (by simp; have := HB.out.size; omega) _).grown HG1.out (by simp; have := HB.out.size; omega) (own_ge HV.out), ?_, fun t ht => ?_, fun s t hs ht e => ?_⟩
        · have e : ((List.range i).map fun t => Value.slice (some ⟨ext G i wr.heap.size t, 0, none⟩) n n) = (List.range i).map fun t => .slice (some ⟨G t, 0, none⟩) n n := by
            apply List.map_congr_left
            intro t ht
            have := List.mem_range.1 ht
            rw [ext_ne (by omega)]
          rw [← range_snoc (fun t => Value.slice (some ⟨ext G i wr.heap.size t, 0, none⟩) n n), e, ext_same]
          exact HV1.out
        · by_cases e : t = i
          · rw [e, ext_same]
            exact ⟨rowIs_grown hnew HG1.out (hne (t := 0) hnew), HB.out.size⟩
          · rw [ext_ne e]
            obtain ⟨h1, h2⟩ := HR.out t (by omega)
            exact ⟨rowIs_grown ((h1.alloc _).alloc _) HG1.out (hne (t := 0) ((h1.alloc _).alloc _)), h2⟩
        · by_cases e1 : s = i <;> by_cases e2 : t = i
          · omega
          · rw [e1, ext_same, ext_ne e2] at e
            have := (HR.out t (by omega)).1.lt
            omega
          · rw [e2, ext_same, ext_ne e1] at e
            have := (HR.out s (by omega)).1.lt
            omega
          · rw [ext_ne e1, ext_ne e2] at e
            exact HJ.out s t (by omega) (by omega) e
      case measure => go_light; simp [intOf] <;> omega
    · obtain rfl : i = n := by omega
      obtain ⟨g, cap, rfl, hcap, hge, hlt, hcell⟩ := own_cells h0 HV.out
      have hM : MatB wr w.heap.size wr.heap.size g i G (fun _ _ => false) := ⟨hcell, fun t ht => (HR.out t ht).1, fun t ht e => own_type HV.out (HR.out t ht).1 (by decide) (by rw [e]; rfl), HJ.out, ⟨hge, hlt⟩, fun t ht => ⟨(HR.out t ht).2, (HR.out t ht).1.lt⟩, Nat.le_refl _⟩
      have HM := Lib.hid hM
      clear hM hcell
      go_wp2
      go_ret
      exact ⟨g, cap, G, rfl, hcap, HM.out, HB.out⟩
theorem make_graph (n : Nat) (hn : n ≤ 1000000) (W : World) : (Instr.makeSlice 156 (.int .i64 (n : Int)) (.int .i64 (n : Int))).run Tryd.prog W = .ok (.slice (some ⟨W.heap.size, 0, none⟩) n n) (W.alloc (.cells (madeCells #[.slice none 0 0] n) 87)) :=
  run_make_row' _ _ _ 24 Tryd.underlying156 bools_info rfl _ _ n (by omega) (by omega) W
set_option maxRecDepth 100000 in
set_option maxHeartbeats 4000000 in
theorem empty_any (n : Nat) (w : World) (h0 : 0 < n) (hn : n ≤ 1000) : Calls Tryd.prog 118 #[.int .i64 (n : Int)] w (BlankPost n w) := by
  have hmk1 := make_bools n (by omega)
  have hmk2 := make_graph n (by omega)
  have HM0 := Lib.hid (mat_new w n (fun _ => 0) (fun _ _ => false))
  have HB0 : Hid (Below w.heap.size w (w.alloc (.cells (madeCells #[.slice none 0 0] n) 87))) := Lib.hid ((Below.refl _ _).alloc (Nat.le_refl _) _)
  go_enter Tryd.func118, Tryd.ntmps118
  go_wp2_with fail
  go_loopw [9] (fun x wr => ∃ (i : Nat) (G : Nat → Nat), x = .int .i64 i ∧ i ≤ n ∧ Below w.heap.size w wr ∧ MatAt wr w.heap.size w.heap.size n i G (fun _ _ => false)) (fun x _ => n - (intOf x).toNat)
  case atStart => exact ⟨0, _, rfl, by omega, HB0.out, HM0.out⟩
  case round =>
    obtain ⟨i, G, rfl, hi, hbw, hmat⟩ := hrel
    have HB := Lib.hid hbw
    have HM := Lib.hid hmat
    clear hbw hmat
    by_cases hin : i < n
    · have hgO : w.heap.size < wr.heap.size := HM.out.out.lt
      have hcO : (wr.alloc (.cells (madeCells #[.bool false] n) 4)).cell? ⟨w.heap.size, i, none⟩ = some (.slice none 0 0) := by
        have := (HM.out.out.alloc (.cells (madeCells #[.bool false] n) 4)).cell hin
        simpa using this
      have hfO : (wr.alloc (.cells (madeCells #[.bool false] n) 4)).frozen? ⟨w.heap.size, i, none⟩ = false := (HM.out.out.alloc (.cells (madeCells #[.bool false] n) 4)).frozen i
      have HMM := Lib.hid (HM.out.more hin HB.out.size)
      have HBB : Hid (Below w.heap.size w ((wr.alloc (.cells (madeCells #[.bool false] n) 4)).setCell ⟨w.heap.size, i, none⟩ (.slice (some ⟨wr.heap.size, 0, none⟩) n n))) := Lib.hid ((HB.out.alloc HB.out.size _).setCell (Nat.le_refl _) _)
      go_wp2
      go_roundw
      case rel =>
        first
          | exact ⟨i + 1, _, by go_num, by omega, HBB.out, HMM.out.congr fun a b _ _ => by simp⟩
          | exact ⟨i + 1, _, by go_num, by omega, (World.setCell_alloc_past _ _ _ _ hgO) ▸ HBB.out, (World.setCell_alloc_past _ _ _ _ hgO) ▸ HMM.out.congr fun a b _ _ => by simp⟩
      case measure => go_light; simp [intOf] <;> omega
    · obtain rfl : i = n := by omega
      have hM : MatB wr w.heap.size wr.heap.size w.heap.size i G (fun _ _ => false) := ⟨fun t ht => HM.out.cellO ht ht, HM.out.row, fun t ht e => HM.out.ne ht e.symm, HM.out.inj, ⟨Nat.le_refl _, HM.out.out.lt⟩, fun t ht => ⟨HM.out.ge.2 t ht, (HM.out.row t ht).lt⟩, Nat.le_refl _⟩
      have HMB := Lib.hid hM
      clear hM
      go_wp2
      go_ret
      exact ⟨w.heap.size, i, G, rfl, Nat.le_refl _, HMB.out, HB.out⟩
end Go.Proofs.YtkncomfbedbikaaDoor
