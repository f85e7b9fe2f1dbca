/- testimonylaw.story: a story's copy. -/
import Derived.Test.YtkncomfbedbikaaDoorIsoE
import Derived.Test.YtkncomfbedbikaaDoorIsoK
import Derived.Below
import Derived.Deep.RegionLaw
import Derived.BigRegion
namespace Go.Proofs.YtkncomfbedbikaaDoor
open Go.RowKit
def opVals (o : IOp) : List Value := [.bool o.wr, .int .i64 o.key, .int .i64 o.frm, .int .i64 o.num]
def opsVals (O : Nat → IOp) : Nat → List Value
  | 0 => []
  | n + 1 => opsVals O n ++ opVals (O n)
theorem opsVals_at (O : Nat → IOp) : ∀ n i, i < n → (opsVals O n)[i * 4]? = some (.bool (O i).wr) ∧ (opsVals O n)[i * 4 + 1]? = some (.int .i64 (O i).key) ∧ (opsVals O n)[i * 4 + 2]? = some (.int .i64 (O i).frm) ∧ (opsVals O n)[i * 4 + 3]? = some (.int .i64 (O i).num)
  | 0, i, hi => absurd hi (by omega)
  | n + 1, i, hi => by
    have hl : ∀ m, (opsVals O m).length = m * 4 := fun m => by
      induction m with
      | zero => rfl
      | succ m ih => unfold opsVals; simp [ih, opVals]; omega
    unfold opsVals
    by_cases h : i < n
    · have ih := opsVals_at O n i h
      have := hl n
      rw [List.getElem?_append_left (by omega), List.getElem?_append_left (by omega), List.getElem?_append_left (by omega), List.getElem?_append_left (by omega)]
      exact ih
    · obtain rfl : i = n := by omega
      have := hl i
      rw [List.getElem?_append_right (by omega), List.getElem?_append_right (by omega), List.getElem?_append_right (by omega), List.getElem?_append_right (by omega), this]
      simp [opVals, show i * 4 + 1 - i * 4 = 1 by omega, show i * 4 + 2 - i * 4 = 2 by omega, show i * 4 + 3 - i * 4 = 3 by omega]
theorem rop_info : (Tryd.prog.info? 146).map (fun i => (i.zero, i.size, i.bytes)) = some (some (.agg #[.bool false, .int .i64 0, .int .i64 0, .int .i64 0]), 4, 32) := by kernel_rfl
theorem rtx_info : (Tryd.prog.info? 145).map (fun i => (i.zero, i.size, i.bytes)) = some (some (.agg #[.slice none 0 0, .bool false]), 2, 32) := by kernel_rfl
theorem ints1_info : (Tryd.prog.info? 34).map (fun i => (i.zero, i.size, i.bytes)) = some (some (.slice none 0 0), 1, 24) := by kernel_rfl
theorem rows_vals {w : World} {V : Option Addr} {m : Nat} {L : Nat → Nat} {X : Nat → Nat → Int} (h : RowsC w V m L X) : ∃ Rv : Nat → Value, ∀ i, i < m → ∃ b off, V = some ⟨b, off, none⟩ ∧ b < w.heap.size ∧ L i ≤ 17592186043904 ∧ w.cell? ⟨b, off + i, none⟩ = some (Rv i) ∧ ∃ A2 c2, Rv i = .slice A2 (L i) c2 ∧ L i ≤ c2 ∧ IntsAt w A2 (L i) (X i) := by
  refine ⟨fun i => match V with | some p => (w.cell? ⟨p.block, p.off + i, none⟩).getD (.slice none 0 0) | none => .slice none 0 0, fun i hi => ?_⟩
  obtain ⟨b, off, rfl, hb, hl, A2, c2, hc, hlc, hI⟩ := h i hi
  refine ⟨b, off, rfl, hb, hl, ?_, A2, c2, ?_, hlc, hI⟩
  · simp only [hc]; rfl
  · simp only [hc]; rfl
theorem own_own {w : World} {b b' n n' z z' : Nat} {e e' : TypeId} {v v' : Value} {xs xs' : List Value} (h : w.ownsRow b e z v n xs) (h' : w.ownsRow b' e' z' v' n' xs') (ht : e ≠ e') : v.ownBlock ≠ v'.ownBlock ∨ v'.ownBlock = none := by
  rcases h'.2 with ⟨rfl, _⟩ | ⟨g', cap', cur', rfl, _, hg', _⟩
  · exact .inr rfl
  · refine .inl fun he => ?_
    rcases h.2 with ⟨rfl, _⟩ | ⟨g, cap, cur, rfl, _, hg, _⟩
    · simp [Value.ownBlock] at he
    · have : g = g' := by simpa [Value.ownBlock] using he
      subst this
      rw [hg] at hg'
      injection hg' with hg'
      injection hg' with _ h2
      exact ht h2
theorem step_append_own {P : Program} {ops : Array Oper} {o : Oper} {a : Act} {w : World} {K : Act → World → Prop} {Q : Exit → Act → World → Prop} {E : Prop}
    (hg : o.guard = none) (s x : Operand) (t : TypeId) (ho : o.op = .call { callee := .builtin .append, args := #[s, x], argTypes := #[t, t] })
    (base : Nat) (e : TypeId) (i : TypeInfo) (z : Value) (size bytes : Nat) (ht : P.underlying t = some (.slice e)) (hi : P.info? e = some i) (hz : i.zero = some z)
    (hsize : i.size = size) (hby : i.bytes = bytes) (hzs : z.cells.size = size) (hsz : 0 < size)
    (v : Value) (n : Nat) (xs : List Value) (hs : a.eval s = v) (hown : w.ownsRow base e size v n xs)
    (ad : Addr) (m c : Nat) (news : List Value) (hx : a.eval x = .slice (some ad) m c) (hl : news.length = m * size) (hnews : ∀ j u, news[j]? = some u → w.cell? (ad.add j) = some u) (h1 : ∀ u ∈ news, u.oneCell' = true)
    (h63 : n + m ≤ maxLen) (hbytes : (n + m) * bytes ≤ 140737488355328) (hbase : base ≤ w.heap.size)
    (h : ∀ v' w', w'.ownsRow base e size v' (n + m) (xs ++ news) → w.grownBy w' v.ownBlock → (v' = .slice none 0 0 ↔ v = .slice none 0 0 ∧ m = 0) → K (a.put o.dst v') w') :
    if Region.wanted o (yielded ops a.tmps) = true then Oper.wp P o a w K Q else E := by
  have hw : Region.wanted o (yielded ops a.tmps) = true := by simp [Region.wanted, hg]
  rw [if_pos hw]
  exact wp_append_own w s x t ho base e i z size bytes ht hi hz hsize hby hzs hsz v n xs hs hown ad m c news hx hl hnews h1 h63 hbytes hbase h
theorem news4 {w : World} {g : Nat} (hg : g = w.heap.size) (a b c d : Value) (t : TypeId) : ∀ k u, [a, b, c, d][k]? = some u → (w.alloc (.cells #[a, b, c, d] t)).cell? ((⟨g, 0, none⟩ : Addr).add k) = some u := by
  intro k u hk
  subst hg
  match k, hk with
  | 0, hk => cases hk; simp [Addr.add, World.cell?_alloc_new]
  | 1, hk => cases hk; simp [Addr.add, World.cell?_alloc_new]
  | 2, hk => cases hk; simp [Addr.add, World.cell?_alloc_new]
  | 3, hk => cases hk; simp [Addr.add, World.cell?_alloc_new]
theorem news2v {w : World} {g : Nat} (hg : g = w.heap.size) (a b : Value) (t : TypeId) : ∀ k u, [a, b][k]? = some u → (w.alloc (.cells #[a, b] t)).cell? ((⟨g, 0, none⟩ : Addr).add k) = some u := by
  intro k u hk
  subst hg
  match k, hk with
  | 0, hk => cases hk; simp [Addr.add, World.cell?_alloc_new]
  | 1, hk => cases hk; simp [Addr.add, World.cell?_alloc_new]
/-- A row of ops of the call's own. -/
def OpsRow (w : World) (v : Value) (k : Nat) (O : Nat → IOp) : Prop := ∃ base, w.ownsRow base 146 4 v k (opsVals O k)
theorem OpsRow.reads {w : World} {v : Value} {k : Nat} {O : Nat → IOp} (h : OpsRow w v k O) : ∃ A c, v = .slice A k c ∧ k ≤ c ∧ IOpsAt w A k O := by
  obtain ⟨base, h⟩ := h
  rcases h.2 with ⟨rfl, rfl⟩ | ⟨g, cap, cur, rfl, hb, hg, hnc, hc, hs, hx⟩
  · exact ⟨none, 0, rfl, Nat.le_refl _, fun i hi => absurd hi (by omega)⟩
  · refine ⟨_, cap, rfl, hnc, fun i hi => ⟨g, 0, rfl, (Array.getElem?_eq_some_iff.1 hg).1, ?_⟩⟩
    have hcell : ∀ t, t < k * 4 → w.cell? ⟨g, t, none⟩ = (opsVals O k)[t]? := fun t ht => by
      rw [← hx, List.getElem?_take, if_pos ht]
      simp [World.cell?, hg]
    obtain ⟨h1, h2, h3, h4⟩ := opsVals_at O k i hi
    exact ⟨by rw [Nat.zero_add, hcell _ (by omega), h1], by rw [Nat.zero_add, hcell _ (by omega), h2], by rw [Nat.zero_add, hcell _ (by omega), h3], by rw [Nat.zero_add, hcell _ (by omega), h4]⟩
theorem own_slice {w : World} {base n size : Nat} {e : TypeId} {v : Value} {xs : List Value} (h : w.ownsRow base e size v n xs) : ∃ A c, v = .slice A n c := by
  rcases h.2 with ⟨rfl, rfl⟩ | ⟨g, cap, cur, rfl, _⟩
  · exact ⟨_, _, rfl⟩
  · exact ⟨_, _, rfl⟩
theorem opVals_one (o : IOp) : ∀ u ∈ opVals o, u.oneCell' = true := by
  intro u hu
  simp only [opVals, List.mem_cons, List.not_mem_nil, or_false] at hu
  rcases hu with rfl | rfl | rfl | rfl <;> rfl
theorem OpsRow.one2 {w : World} {base k : Nat} {v : Value} {xs : List Value} (h : w.ownsRow base 146 4 v k xs) (x : Bool) : ∀ u ∈ [v, .bool x], u.oneCell' = true := by
  intro u hu
  simp only [List.mem_cons, List.not_mem_nil, or_false] at hu
  rcases hu with rfl | rfl
  · rcases h.2 with ⟨rfl, _⟩ | ⟨g, cap, cur, rfl, _⟩ <;> rfl
  · rfl
/-- Blocks of this type are as they were. -/
def TypeKept (t : TypeId) (w w' : World) : Prop := ∀ (k : Nat) (cs : Array Value), w.heap[k]? = some (Obj.cells cs t (0, 0)) → w'.heap[k]? = w.heap[k]?
theorem OpsRow.kept {w w' : World} {v : Value} {k : Nat} {O : Nat → IOp} (h : OpsRow w v k O) (hk : TypeKept 146 w w') : OpsRow w' v k O := by
  obtain ⟨base, h1, h2⟩ := h
  refine ⟨base, h1, ?_⟩
  rcases h2 with h2 | ⟨g, cap, cur, h3, h4, h5, h6⟩
  · exact .inl h2
  · exact .inr ⟨g, cap, cur, h3, h4, (hk g cur h5).trans h5, h6⟩
theorem TypeKept.trans {t : TypeId} {w w' w'' : World} (h : TypeKept t w w') (h' : TypeKept t w' w'') : TypeKept t w w'' := fun k cs hk => (h' k cs ((h k cs hk).trans hk)).trans (h k cs hk)
theorem TypeKept.refl (t : TypeId) (w : World) : TypeKept t w w := fun _ _ _ => rfl
theorem TypeKept.below {t : TypeId} {w w' : World} (hb : Below w.heap.size w w') : TypeKept t w w' := fun k _ hk => hb.block k (Array.getElem?_eq_some_iff.1 hk).1
theorem TypeKept.set {t t' : TypeId} {w : World} {b n : Nat} {f : Nat → Value} (h : w.rowIs b t' n f) (ht : t ≠ t') (i : Nat) (v : Value) : TypeKept t w (w.setCell ⟨b, i, none⟩ v) := fun k cs hk => by
  refine heap_setCell_other _ _ _ _ (fun e => ?_)
  have e' : k = b := e
  subst e'
  obtain ⟨c, h1, _⟩ := h
  rw [hk] at h1
  injection h1 with h1
  injection h1 with _ h2
  exact ht h2
theorem TypeKept.grown {t e : TypeId} {w w' : World} {base size n : Nat} {v : Value} {xs : List Value} (h : w.ownsRow base e size v n xs) (ht : t ≠ e) (hg : w.grownBy w' v.ownBlock) : TypeKept t w w' := fun k cs hk => by
  refine hg.block k (Array.getElem?_eq_some_iff.1 hk).1 (fun e' => ?_)
  rcases h.2 with ⟨rfl, _⟩ | ⟨g, cap, cur, rfl, _, h5, _⟩
  · simp [Value.ownBlock] at e'
  · have : k = g := by simpa [Value.ownBlock] using e'
    subst this
    rw [hk] at h5
    injection h5 with h5
    injection h5 with _ h6
    exact ht h6
def txVals (S : GStory) (R : Nat → Value) : Nat → List Value
  | 0 => []
  | n + 1 => txVals S R n ++ [R n, .bool (S.c n)]
theorem txVals_congr (S : GStory) {R R' : Nat → Value} : ∀ {n : Nat}, (∀ t, t < n → R t = R' t) → txVals S R n = txVals S R' n
  | 0, _ => rfl
  | n + 1, h => by unfold txVals; rw [h n (by omega), txVals_congr S fun t ht => h t (by omega)]
theorem story_boxes (w : World) (A V : Option Addr) (n m c cv : Nat) (ts tr : TypeId) :
    Below w.heap.size w (((w.alloc (.cells #[.slice A n c, .slice V m cv] ts)).alloc (.cells #[.slice none 0 0, .slice none 0 0] tr)).alloc (.cells #[.slice none 0 0, .slice none 0 0] tr)) ∧
    (((w.alloc (.cells #[.slice A n c, .slice V m cv] ts)).alloc (.cells #[.slice none 0 0, .slice none 0 0] tr)).alloc (.cells #[.slice none 0 0, .slice none 0 0] tr)).cell? ⟨w.heap.size, 0, none⟩ = some (.slice A n c) ∧
    (((w.alloc (.cells #[.slice A n c, .slice V m cv] ts)).alloc (.cells #[.slice none 0 0, .slice none 0 0] tr)).alloc (.cells #[.slice none 0 0, .slice none 0 0] tr)).cell? ⟨w.heap.size, 1, none⟩ = some (.slice V m cv) ∧
    (((w.alloc (.cells #[.slice A n c, .slice V m cv] ts)).alloc (.cells #[.slice none 0 0, .slice none 0 0] tr)).alloc (.cells #[.slice none 0 0, .slice none 0 0] tr)).rowIs (w.heap.size + 1) tr 2 (fun _ => .slice none 0 0) ∧
    (((w.alloc (.cells #[.slice A n c, .slice V m cv] ts)).alloc (.cells #[.slice none 0 0, .slice none 0 0] tr)).alloc (.cells #[.slice none 0 0, .slice none 0 0] tr)).rowIs (w.heap.size + 2) tr 2 (fun _ => .slice none 0 0) ∧
    (((w.alloc (.cells #[.slice A n c, .slice V m cv] ts)).alloc (.cells #[.slice none 0 0, .slice none 0 0] tr)).alloc (.cells #[.slice none 0 0, .slice none 0 0] tr)).heap.size = w.heap.size + 3 := by
  have hb := boxes3 w #[.slice A n c, .slice V m cv] #[.slice none 0 0, .slice none 0 0] #[.slice none 0 0, .slice none 0 0] ts tr tr
  have hz : ∀ i, i < 2 → (#[Value.slice none 0 0, Value.slice none 0 0] : Array Value)[i]? = some (.slice none 0 0) := fun i hi => by
    match i, hi with
    | 0, _ => rfl
    | 1, _ => rfl
  refine ⟨(((Below.refl _ _).alloc (Nat.le_refl _) _).alloc (by simp) _).alloc (by simp; omega) _, hb.1 0, hb.1 1, ?_, ?_, by simp⟩
  · refine World.rowIs.alloc ?_ _
    have := World.rowIs_alloc (w.alloc (.cells #[.slice A n c, .slice V m cv] ts)) #[.slice none 0 0, .slice none 0 0] tr (fun _ => .slice none 0 0) hz
    simpa using this
  · have := World.rowIs_alloc ((w.alloc (.cells #[.slice A n c, .slice V m cv] ts)).alloc (.cells #[.slice none 0 0, .slice none 0 0] tr)) #[.slice none 0 0, .slice none 0 0] tr (fun _ => .slice none 0 0) hz
    simpa using this
theorem txVals_at (S : GStory) (R : Nat → Value) : ∀ n i, i < n → (txVals S R n)[i * 2]? = some (R i) ∧ (txVals S R n)[i * 2 + 1]? = some (.bool (S.c i))
  | 0, i, hi => absurd hi (by omega)
  | n + 1, i, hi => by
    have hl : ∀ m, (txVals S R m).length = m * 2 := fun m => by
      induction m with
      | zero => rfl
      | succ m ih => unfold txVals; simp [ih]; omega
    unfold txVals
    by_cases h : i < n
    · have ih := txVals_at S R n i h
      have := hl n
      rw [List.getElem?_append_left (by omega), List.getElem?_append_left (by omega)]
      exact ih
    · obtain rfl : i = n := by omega
      have := hl i
      rw [List.getElem?_append_right (by omega), List.getElem?_append_right (by omega), this]
      simp [show i * 2 + 1 - i * 2 = 1 by omega]
theorem story_made {w : World} {A V : Option Addr} {c cv b b' : Nat} {S : GStory} {R Rv : Nat → Value} (hn : S.n ≤ 4398046510976) (hm : S.m ≤ 5864062014634) (hk : ∀ i, i < S.n → S.k i ≤ 4398046510976)
    (h1 : w.ownsRow b 145 2 (.slice A S.n c) S.n (txVals S R S.n)) (h2 : ∀ t, t < S.n → OpsRow w (R t) (S.k t) (S.o t)) (h3 : w.ownsRow b' 34 1 (.slice V S.m cv) S.m ((List.range S.m).map Rv))
    (h4 : ∀ i, i < S.m → S.l i ≤ 17592186043904 ∧ ∃ A2 c2, Rv i = .slice A2 (S.l i) c2 ∧ S.l i ≤ c2 ∧ IntsAt w A2 (S.l i) (S.x i)) : StoryAt w A V S := by
  refine ⟨fun i hi => ?_, fun i hi => ?_, hn, hm⟩
  · rcases h1.2 with ⟨_, h0⟩ | ⟨g, cap, cur, he, hb, hg, hnc, hc, hs, hx⟩
    · omega
    · injection he with he1 _ _
      subst he1
      have hcell : ∀ t, t < S.n * 2 → w.cell? ⟨g, t, none⟩ = (txVals S R S.n)[t]? := fun t ht => by
        rw [← hx, List.getElem?_take, if_pos ht]
        simp [World.cell?, hg]
      obtain ⟨e1, e2⟩ := txVals_at S R S.n i hi
      obtain ⟨A2, c2, hR, hkc, hI⟩ := (h2 i hi).reads
      exact ⟨g, 0, rfl, (Array.getElem?_eq_some_iff.1 hg).1, hk i hi, A2, c2, by rw [Nat.zero_add, hcell _ (by omega), e1, hR], hkc, by rw [Nat.zero_add, hcell _ (by omega), e2], hI⟩
  · obtain ⟨hl, A2, c2, hR, hlc, hI⟩ := h4 i hi
    obtain ⟨g, cap, he, _, _, hg, hcell⟩ := own_cells (by omega) h3
    injection he with he1 _ _
    subst he1
    exact ⟨g, 0, rfl, hg, hl, A2, c2, by rw [Nat.zero_add, hcell i hi, hR], hlc, hI⟩
def StoryPost (S : GStory) (w : World) (e : Ending) (w' : World) : Prop :=
  ∃ A c V cv ok, e = .returned (.tuple #[.agg #[.slice A S.n c, .slice V S.m cv], .bool ok]) ∧ StoryAt w' A V S ∧ Below w.heap.size w w'
set_option maxRecDepth 100000 in
set_option maxHeartbeats 16000000 in
theorem story_any (A V : Option Addr) (c cv : Nat) (S : GStory) (w : World) (h : StoryAt w A V S) :
    Calls Tryd.prog 31 #[.agg #[.slice A S.n c, .slice V S.m cv]] w (StoryPost S w) := by
  have HH := Lib.hid h
  have hnn := h.hn
  have hmm := h.hm
  obtain ⟨i4, hi4, hz4, hs4, hb4⟩ := info_parts rop_info
  obtain ⟨i2, hi2, hz2, hs2, hb2⟩ := info_parts rtx_info
  obtain ⟨i0, hi0, hz0, hs0, hb0⟩ := info_parts ints1_info
  obtain ⟨Rv, hRv⟩ := rows_vals h.rows
  have HRV := Lib.hid hRv
  clear h hRv
  have HX := Lib.hid (story_boxes w A V S.n S.m c cv 77 80)
  go_enter Tryd.func31, Tryd.ntmps31
  go_wp2_with fail
  obtain ⟨gs, hgs⟩ : ∃ gs, gs = w.heap.size := ⟨_, rfl⟩
  have HB0 := Lib.hid HX.out.1
  have HX2 := Lib.hid HX.out.2
  rw [← hgs] at HX2 ⊢
  have HGW : Hid (w.heap.size = gs) := Lib.hid (by omega)
  clear HX hgs
  generalize ((w.alloc (.cells #[.slice A S.n c, .slice V S.m cv] 77)).alloc (.cells #[.slice none 0 0, .slice none 0 0] 80)).alloc (.cells #[.slice none 0 0, .slice none 0 0] 80) = W0 at *
  have s1 := HX2.out.2.1
  go_wp2_with fail
  go_loopw [5, 6] (fun sm x wr => ∃ (i : Nat) (nn : Int) (R : Nat → Value) (v : Value), x = .int .i64 i ∧ sm = .int .i64 nn ∧ i ≤ S.n ∧ Below (gs + 2) W0 wr ∧ wr.rowIs (gs + 1 + 1) 80 2 (fun t => if t = 0 then v else .slice none 0 0) ∧ wr.ownsRow W0.heap.size 145 2 v i (txVals S R i) ∧ ∀ t, t < i → OpsRow wr (R t) (S.k t) (S.o t)) (fun _ x _ => S.n - (intOf x).toNat)
  case atStart => exact ⟨0, _, fun _ => .slice none 0 0, .slice none 0 0, rfl, rfl, by omega, Below.refl _ _, HX2.out.2.2.2.1.congr fun i _ => by simp, own_nil _ _ _ _, fun t ht => absurd ht (by omega)⟩
  case round =>
    clear s1
    obtain ⟨wo, rfl⟩ : ∃ wo : World, wo = wr := ⟨_, rfl⟩
    obtain ⟨i, nn, R, v, rfl, rfl, hi, hbw, hrow, hown, hops⟩ := hrel
    have HB := Lib.hid hbw
    have HRW := Lib.hid hrow
    have HV := Lib.hid hown
    have HOR := Lib.hid hops
    clear hbw hrow hown hops
    have HBW : Hid (Below w.heap.size w wo) := Lib.hid (HB0.out.trans (HB.out.mono (by have := HGW.out; omega)))
    have s0 := (HB.out.cell (p := ⟨gs, 0, none⟩) (show gs < gs + 2 by omega)).trans HX2.out.1
    have s1 := (HB.out.cell (p := ⟨gs, 1, none⟩) (show gs < gs + 2 by omega)).trans HX2.out.2.1
    have hgl : gs + 1 + 1 < wo.heap.size := HRW.out.lt
    have hgl1 : gs < wo.heap.size := by omega
    by_cases hin : i < S.n
    · obtain ⟨b, off, rfl, hb, hk, A2, cc2, g0, hkc, g1, hops⟩ := (HH.out.below HBW.out).txs i hin
      have HOP := Lib.hid hops
      have HGB : Hid (b < gs) := Lib.hid (by
        obtain ⟨b', off', he, hb', _⟩ := HH.out.txs i hin
        injection he with he
        injection he with he1 he2
        rw [he1, ← HGW.out]
        exact hb')
      clear hops
      have HBA : Hid (Below wo.heap.size wo (wo.alloc (.cells #[.slice none 0 0, .bool (S.c i)] 145))) := Lib.hid ((Below.refl _ _).alloc (Nat.le_refl _) _)
      have HR0 : Hid ((wo.alloc (.cells #[.slice none 0 0, .bool (S.c i)] 145)).rowIs wo.heap.size 145 2 (fun t => if t = 0 then .slice none 0 0 else .bool (S.c i))) := Lib.hid (World.rowIs_alloc wo #[.slice none 0 0, .bool (S.c i)] 145 _ (fun t ht => by
        match t, ht with
        | 0, _ => rfl
        | 1, _ => rfl))
      have HS0 : Hid ((wo.alloc (.cells #[.slice none 0 0, .bool (S.c i)] 145)).heap.size = wo.heap.size + 1) := Lib.hid (by simp)
      go_wp2_with fail
      generalize wo.alloc (.cells #[.slice none 0 0, .bool (S.c i)] 145) = W1 at *
      generalize wrap64 (nn + (1 + (S.k i : Int))) = n2 at *
      clear s0 s1 g1
      go_loopw [8] (fun x wr => ∃ (j : Nat) (vo : Value), x = .int .i64 j ∧ j ≤ S.k i ∧ Below wo.heap.size W1 wr ∧ wr.rowIs wo.heap.size 145 2 (fun t => if t = 0 then vo else .bool (S.c i)) ∧ wr.ownsRow (wo.heap.size + 1) 146 4 vo j (opsVals (S.o i) j)) (fun x _ => S.k i - (intOf x).toNat)
      case atStart => exact ⟨0, _, rfl, by omega, Below.refl _ _, HR0.out, own_nil _ _ _ _⟩
      case round =>
        obtain ⟨w2, rfl⟩ : ∃ w2 : World, w2 = wr := ⟨_, rfl⟩
        obtain ⟨j, vo, rfl, hj, hbw, hrow, hown⟩ := hrel
        have HB2 := Lib.hid hbw
        have HR2 := Lib.hid hrow
        have HV2 := Lib.hid hown
        clear hbw hrow hown
        have HW2 : Hid (Below wo.heap.size wo w2) := Lib.hid (HBA.out.trans HB2.out)
        have s0 := (HW2.out.cell (p := ⟨gs, 0, none⟩) (show gs < wo.heap.size by omega)).trans ((HB.out.cell (p := ⟨gs, 0, none⟩) (show gs < gs + 2 by omega)).trans HX2.out.1)
        have s1 := (HW2.out.cell (p := ⟨gs, 1, none⟩) (show gs < wo.heap.size by omega)).trans ((HB.out.cell (p := ⟨gs, 1, none⟩) (show gs < gs + 2 by omega)).trans HX2.out.2.1)
        have c0 := (HW2.out.cell (p := ⟨b, off + i * 2, none⟩) (show b < wo.heap.size from hb)).trans g0
        have hl2 : wo.heap.size < w2.heap.size := HR2.out.lt
        have hl3 : gs < w2.heap.size := by omega
        by_cases hjk : j < S.k i
        · obtain ⟨b3, o3, rfl, hb3, p0, p1, p2, p3⟩ := (HOP.out.below HW2.out) j hjk
          have r0 : w2.cell? ⟨wo.heap.size, 0, none⟩ = some vo := HR2.out.cell (i := 0) (by omega)
          have HVA := Lib.hid ((HV2.out.alloc ((S.o i j).obj 139)).alloc ((S.o i j).obj 146))
          have HRA := Lib.hid ((HR2.out.alloc ((S.o i j).obj 139)).alloc ((S.o i j).obj 146))
          have HBA2 := Lib.hid ((HB2.out.alloc (Nat.le_of_lt hl2) ((S.o i j).obj 139)).alloc (by simp; omega) ((S.o i j).obj 146))
          have HSA : Hid (wo.heap.size + 1 ≤ ((w2.alloc ((S.o i j).obj 139)).alloc ((S.o i j).obj 146)).heap.size) := Lib.hid (by simp; omega)
          go_wp2_with (at_builtin; refine wpList_append_own _ rfl _ _ 143 rfl (wo.heap.size + 1) 146 i4 (.agg #[.bool false, .int .i64 0, .int .i64 0, .int .i64 0]) 4 32 Tryd.underlying143 hi4 hz4 hs4 hb4 rfl (by decide) _ _ _ rfl HVA.out ⟨w2.heap.size + 1, 0, none⟩ 1 1 (opVals (S.o i j)) (by simp [go_sem]) rfl (news4 (by simp) _ _ _ _ _) (opVals_one _) (by unfold maxLen; omega) (by omega) HSA.out ?_; intro v' w3 hown1 hg1 _; have HV3 := Lib.hid hown1; have HG3 := Lib.hid hg1; have HR3 := Lib.hid (rowIs_grown HRA.out hg1 (own_type HVA.out HRA.out (by decide))); obtain ⟨A', c', rfl⟩ := own_slice hown1; clear hown1 hg1; have r3 : w3.cell? ⟨wo.heap.size, 0, none⟩ = some vo := HR3.out.cell (i := 0) (by omega); have f3 := HR3.out.frozen 0)
          go_roundw
          case rel => exact ⟨j + 1, _, by go_num, by omega, (HBA2.out.grown HG3.out (by have := HSA.out; omega) (fun k hk => Nat.le_of_succ_le (own_ge HVA.out k hk))).setCell (Nat.le_refl _) _, (HR3.out.set 0 _).congr fun t _ => by by_cases ht : t = 0 <;> simp [ht], ownsRow_setCell_other HV3.out (a := ⟨wo.heap.size, 0, none⟩) (own_type HV3.out HR3.out (by decide)).symm _⟩
          case measure => go_light; simp [intOf] <;> omega
        · obtain rfl : j = S.k i := by omega
          have r0 : w2.cell? ⟨wo.heap.size, 0, none⟩ = some vo := HR2.out.cell (i := 0) (by omega)
          have r1 : w2.cell? ⟨wo.heap.size, 1, none⟩ = some (.bool (S.c i)) := HR2.out.cell (i := 1) (by omega)
          have HRO := Lib.hid (HRW.out.of_block (HW2.out.block (gs + 1 + 1) hgl))
          have o0 : w2.cell? ⟨gs + 1 + 1, 0, none⟩ = some v := HRO.out.cell (i := 0) (by omega)
          have HVO := Lib.hid (own_below HV.out HW2.out)
          have HSA : Hid (W0.heap.size ≤ w2.heap.size) := Lib.hid (Nat.le_trans HB.out.size HW2.out.size)
          have hgl2 : gs + 1 + 1 < w2.heap.size := by omega
          have HVA := Lib.hid (HVO.out.alloc (.cells #[vo, .bool (S.c i)] 145))
          have HRA := Lib.hid (HRO.out.alloc (.cells #[vo, .bool (S.c i)] 145))
          go_wp2_with (at_builtin; refine wpList_append_own _ rfl _ _ 78 rfl W0.heap.size 145 i2 (.agg #[.slice none 0 0, .bool false]) 2 32 Tryd.underlying78 hi2 hz2 hs2 hb2 rfl (by decide) _ _ _ rfl HVA.out ⟨w2.heap.size, 0, none⟩ 1 1 [vo, .bool (S.c i)] (by simp [go_sem]) rfl (news2v rfl _ _ _) (OpsRow.one2 HV2.out _) (by unfold maxLen; omega) (by omega) (by simp; have := HSA.out; omega) ?_; intro v' w3 hown1 hg1 _; have HV3 := Lib.hid hown1; have HG3 := Lib.hid hg1; have HR3 := Lib.hid (rowIs_grown HRA.out hg1 (own_type HVA.out HRA.out (by decide))); obtain ⟨A', c', rfl⟩ := own_slice hown1; clear hown1 hg1; have r3 : w3.cell? ⟨gs + 1 + 1, 0, none⟩ = some v := HR3.out.cell (i := 0) (by omega); have f3 := HR3.out.frozen 0)
          have HTK : Hid (TypeKept 146 w2 (w3.setCell ⟨gs + 1 + 1, 0, none⟩ (.slice A' (i + 1) c'))) := Lib.hid (((TypeKept.below ((Below.refl _ _).alloc (Nat.le_refl _) (.cells #[vo, .bool (S.c i)] 145))).trans (TypeKept.grown HVA.out (by decide) HG3.out)).trans (TypeKept.set HR3.out (by decide) 0 _))
          have HBE : Hid (Below (gs + 2) W0 w3) := Lib.hid (((HB.out.trans (HW2.out.mono (by omega))).alloc (by omega) (.cells #[vo, .bool (S.c i)] 145)).grown HG3.out (by simp; omega) (fun k hk => Nat.le_trans (by have := HX2.out.2.2.2.2; omega) (own_ge HVA.out k hk)))
          go_roundw
          case rel =>
            refine ⟨i + 1, n2, fun t => if t = i then vo else R t, .slice A' (i + 1) c', by go_num, rfl, by omega, HBE.out.setCell (by show gs + 2 ≤ gs + 1 + 1; omega) _, (HR3.out.set 0 _).congr fun t _ => by by_cases ht : t = 0 <;> simp [ht], ?_, fun t ht => ?_⟩
            · rw [show txVals S (fun t => if t = i then vo else R t) (i + 1) = txVals S R i ++ [vo, .bool (S.c i)] by rw [txVals, if_pos rfl, txVals_congr S (R' := R) fun t ht => if_neg (Nat.ne_of_lt ht)]]
              exact ownsRow_setCell_other HV3.out (a := ⟨gs + 1 + 1, 0, none⟩) (own_type HV3.out HR3.out (by decide)).symm _
            · by_cases hti : t = i
              · have hvv : (if t = i then vo else R t) = vo := if_pos hti
                show OpsRow _ (if t = i then vo else R t) _ _
                rw [hvv, hti]
                exact OpsRow.kept ⟨_, HV2.out⟩ HTK.out
              · show OpsRow _ (if t = i then vo else R t) _ _
                rw [if_neg hti]
                exact ((HOR.out t (by omega)).kept (TypeKept.below HW2.out)).kept HTK.out
          case measure => go_light; simp [intOf] <;> omega
    · obtain rfl : i = S.n := by omega
      go_wp2_with fail
      clear s0 s1
      go_loopw [5, 10] (fun sm x wr => ∃ (j : Nat) (n2 : Int) (vr : Value), x = .int .i64 j ∧ sm = .int .i64 n2 ∧ j ≤ S.m ∧ Below (gs + 2) W0 wr ∧ TypeKept 146 wo wr ∧ wr.rowIs (gs + 1 + 1) 80 2 (fun t => if t = 0 then v else vr) ∧ wr.ownsRow W0.heap.size 145 2 v S.n (txVals S R S.n) ∧ wr.ownsRow W0.heap.size 34 1 vr j ((List.range j).map Rv)) (fun _ x _ => S.m - (intOf x).toNat)
      case atStart => exact ⟨0, _, .slice none 0 0, rfl, rfl, by omega, HB.out, TypeKept.refl _ _, HRW.out, HV.out, own_nil _ _ _ _⟩
      case round =>
        obtain ⟨w2, rfl⟩ : ∃ w2 : World, w2 = wr := ⟨_, rfl⟩
        obtain ⟨j, n2, vr, rfl, rfl, hj, hbw, htk, hrow, hown, hownr⟩ := hrel
        have HB2 := Lib.hid hbw
        have HTK := Lib.hid htk
        have HR2 := Lib.hid hrow
        have HV2 := Lib.hid hown
        have HW2 := Lib.hid hownr
        clear hbw htk hrow hown hownr
        have s1 := (HB2.out.cell (p := ⟨gs, 1, none⟩) (show gs < gs + 2 by omega)).trans HX2.out.2.1
        have hl2 : gs + 1 + 1 < w2.heap.size := HR2.out.lt
        have hl3 : gs < w2.heap.size := by omega
        have HSZ : Hid (W0.heap.size ≤ w2.heap.size) := Lib.hid HB2.out.size
        by_cases hjm : j < S.m
        · obtain ⟨b, off, rfl, hb, hlk, hc, A2, c2, hrv, hlc, hI⟩ := HRV.out j hjm
          have c0 := (HB2.out.cell (p := ⟨b, off + j, none⟩) (show b < gs + 2 by have := HGW.out; omega)).trans ((HB0.out.cell (p := ⟨b, off + j, none⟩) hb).trans hc)
          rw [hrv] at c0
          have HRVJ := Lib.hid hrv
          clear hrv hc hI
          have r1 : w2.cell? ⟨gs + 1 + 1, 1, none⟩ = some vr := HR2.out.cell (i := 1) (by omega)
          have HVA := Lib.hid ((show w2.drew.ownsRow W0.heap.size 34 1 vr j ((List.range j).map Rv) from HW2.out).alloc (.cells #[.slice A2 (S.l j) c2] 34))
          have HVB := Lib.hid ((show w2.drew.ownsRow W0.heap.size 145 2 v S.n (txVals S R S.n) from HV2.out).alloc (.cells #[.slice A2 (S.l j) c2] 34))
          have HRA := Lib.hid (HR2.out.drew.alloc (.cells #[.slice A2 (S.l j) c2] 34))
          have hjj : (j : Int) < S.m := by omega
          go_wp2_with fail
          go_region_law (refine step_append_own rfl _ _ 33 rfl W0.heap.size 34 i0 (.slice none 0 0) 1 24 Tryd.underlying33 hi0 hz0 hs0 hb0 rfl (by decide) _ _ _ rfl HVA.out ⟨w2.heap.size, 0, none⟩ 1 1 [.slice A2 (S.l j) c2] rfl rfl (news1v rfl _ _) (by intro u hu; simp at hu; rw [hu]; rfl) (by unfold maxLen; omega) (by omega) (by simp; have := HSZ.out; omega) ?_; intro v' w3 hown1 hg1 _; have HV3 := Lib.hid hown1; have HG3 := Lib.hid hg1; have HR3 := Lib.hid (rowIs_grown HRA.out hg1 (own_type HVA.out HRA.out (by decide))); obtain ⟨A', c', rfl⟩ := own_slice hown1; clear hown1 hg1; have r3 : w3.cell? ⟨gs + 1 + 1, 1, none⟩ = some vr := HR3.out.cell (i := 1) (by omega); have f3 := HR3.out.frozen 1)
          all_goals
            go_wp2_with fail
            go_roundw
            case rel =>
              refine ⟨j + 1, _, .slice A' (j + 1) c', by go_num, rfl, by omega, ((((HB2.out.drew.alloc (by show _ ≤ w2.heap.size; omega) (.cells #[.slice A2 (S.l j) c2] 34)).grown HG3.out (by simp; omega) (fun k hk => Nat.le_trans (by have := HX2.out.2.2.2.2; omega) (own_ge HVA.out k hk)))).setCell (by show gs + 2 ≤ gs + 1 + 1; omega) _), ((HTK.out.trans (TypeKept.below (w := w2) (w' := w2.drew.alloc (.cells #[.slice A2 (S.l j) c2] 34)) ((Below.refl _ _).drew.alloc (Nat.le_refl _) _))).trans (TypeKept.grown HVA.out (by decide) HG3.out)).trans (TypeKept.set HR3.out (by decide) 1 _), (HR3.out.set 1 _).congr fun t ht => ?_, ownsRow_setCell_other (own_grown HVB.out HG3.out (own_own HVB.out HVA.out (by decide))) (a := ⟨gs + 1 + 1, 1, none⟩) (own_type (own_grown HVB.out HG3.out (own_own HVB.out HVA.out (by decide))) HR3.out (by decide)).symm _, ?_⟩
              · match t, ht with
                | 0, _ => rfl
                | 1, _ => rfl
              · rw [← range_snoc Rv j, HRVJ.out]
                exact ownsRow_setCell_other HV3.out (a := ⟨gs + 1 + 1, 1, none⟩) (own_type HV3.out HR3.out (by decide)).symm _
            case measure => go_light; simp [intOf] <;> omega
        · obtain rfl : j = S.m := by omega
          have r0 : w2.cell? ⟨gs + 1 + 1, 0, none⟩ = some v := HR2.out.cell (i := 0) (by omega)
          have r1 : w2.cell? ⟨gs + 1 + 1, 1, none⟩ = some vr := HR2.out.cell (i := 1) (by omega)
          obtain ⟨A1, c1, rfl⟩ := own_slice HV2.out
          obtain ⟨V1, cv1, rfl⟩ := own_slice HW2.out
          have HRR := Lib.hid (HX2.out.2.2.1.of_block (HB2.out.block (gs + 1) (by omega)))
          have f0 := HRR.out.frozen 0
          have f1 := HRR.out.frozen 1
          have q0 := HRR.out.cell (i := 0) (by omega)
          have q1 := HRR.out.cell (i := 1) (by omega)
          go_wp2_with fail
          refine bodyPost_ret (v := .tuple #[.agg #[.slice A1 S.n c1, .slice V1 S.m cv1], .bool (decide (n2 ≤ 200))]) (by simp [results, Tryd.results31, go_sem, q0, q1]) rfl ?_
          have HWW : Hid (Below w.heap.size w w2) := Lib.hid (HB0.out.trans (HB2.out.mono (by have := HGW.out; omega)))
          refine ⟨A1, c1, V1, cv1, _, rfl, story_made hnn hmm (fun i hi => by obtain ⟨_, _, _, _, h2, _⟩ := HH.out.txs i hi; exact h2) (ownsRow_setCell_other (ownsRow_setCell_other HV2.out (a := ⟨gs + 1, 0, none⟩) (own_type HV2.out HRR.out (by decide)).symm _) (a := ⟨gs + 1, 1, none⟩) (own_type HV2.out HRR.out (by decide)).symm _) (fun t ht => (((HOR.out t ht).kept HTK.out).kept (TypeKept.set HRR.out (by decide) 0 _)).kept (TypeKept.set (HRR.out.set 0 _) (by decide) 1 _)) (ownsRow_setCell_other (ownsRow_setCell_other HW2.out (a := ⟨gs + 1, 0, none⟩) (own_type HW2.out HRR.out (by decide)).symm _) (a := ⟨gs + 1, 1, none⟩) (own_type HW2.out HRR.out (by decide)).symm _) (fun i hi => ?_), ?_⟩
          · obtain ⟨_, _, _, _, hl, _, A2, c2, h1, h2, h3⟩ := HRV.out i hi
            exact ⟨hl, A2, c2, h1, h2, h3.below ((HWW.out.setCell (by have := HGW.out; show _ ≤ gs + 1; omega) _).setCell (by have := HGW.out; show _ ≤ gs + 1; omega) _)⟩
          · exact (HWW.out.setCell (by have := HGW.out; show _ ≤ gs + 1; omega) _).setCell (by have := HGW.out; show _ ≤ gs + 1; omega) _
end Go.Proofs.YtkncomfbedbikaaDoor
