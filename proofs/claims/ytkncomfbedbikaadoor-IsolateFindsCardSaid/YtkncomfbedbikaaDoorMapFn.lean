/- A map of the call's own, told by the function that it is. -/
import Derived.Test.YtkncomfbedbikaaDoorErrWalk
import Derived.Laws.StructEq
namespace Go.Proofs.YtkncomfbedbikaaDoor
open Go.RowKit
structure KeyOk (P : Program) (kt : TypeId) {K : Type} [DecidableEq K] (enc : K → Value) : Prop where
  check : ∀ em w k, (Instr.checkKey em 10000 kt (enc k)).run P w = .ok () w
  desc : ∃ d, P.underlying kt = some d ∧ ∀ k k', Instr.sameNow d (enc k) (enc k') = none ∨ Instr.sameNow d (enc k) (enc k') = some (decide (k = k'))
  eq : ∀ w k k', (Op.equal kt (enc k) (enc k')).run P w = .ok (decide (k = k')) w
  stays : ∀ k, Instr.sameBits 10000 (enc k) (enc k) = true
section
variable {K : Type} [DecidableEq K]
def lget (L : List (K × Value)) (k : K) : Option Value := (L.find? fun p => decide (k = p.1)).map (·.2)
def lidx (k : K) : List (K × Value) → Nat → Option (Nat × Value)
  | [], _ => none
  | p :: r, i => if k = p.1 then some (i, p.2) else lidx k r (i + 1)
theorem lidx_none {k : K} : ∀ {L : List (K × Value)} {i : Nat}, lidx k L i = none → lget L k = none
  | [], _, _ => rfl
  | p :: r, i, h => by
    unfold lidx at h
    split at h
    · cases h
    · rename_i hne
      have := lidx_none h
      simp [lget, hne] at this ⊢
      exact this
theorem lidx_some {k : K} : ∀ {L : List (K × Value)} {i j : Nat} {v : Value}, lidx k L i = some (j, v) → lget L k = some v ∧ i ≤ j ∧ (L[j - i]?).map (·.1) = some k
  | [], _, _, _, h => by cases h
  | p :: r, i, j, v, h => by
    unfold lidx at h
    split at h
    · rename_i he
      cases h
      simp [lget, he]
    · rename_i hne
      obtain ⟨h1, h2, h3⟩ := lidx_some h
      refine ⟨by simp [lget, hne] at h1 ⊢; exact h1, by omega, ?_⟩
      rw [show j - i = (j - (i + 1)) + 1 by omega, List.getElem?_cons_succ]
      exact h3
theorem lget_append {L : List (K × Value)} {k : K} (h : lget L k = none) (v : Value) (k' : K) : lget (L ++ [(k, v)]) k' = if k' = k then some v else lget L k' := by
  unfold lget at *
  rw [List.find?_append]
  simp only [Option.map_eq_none_iff] at h
  by_cases hk : k' = k
  · subst hk
    simp [h]
  · rw [if_neg hk]
    have : List.find? (fun p => decide (k' = p.1)) [(k, v)] = none := by simp [hk]
    rw [this]
    simp
theorem lget_modify {k : K} (v : Value) (k' : K) : ∀ {L : List (K × Value)} {i j : Nat} {u : Value}, lidx k L i = some (j, u) → lget (L.modify (j - i) fun _ => (k, v)) k' = if k' = k then some v else lget L k'
  | [], _, _, _, h => by cases h
  | p :: r, i, j, u, h => by
    unfold lidx at h
    split at h
    · rename_i he
      cases h
      subst he
      by_cases hk : k' = p.1
      · simp [lget, hk]
      · simp [lget, hk]
    · rename_i hne
      obtain ⟨_, h2, _⟩ := lidx_some h
      have ih := lget_modify v k' h
      rw [show j - i = (j - (i + 1)) + 1 by omega, List.modify_succ_cons]
      by_cases hk : k' = p.1
      · have : k' ≠ k := fun e => hne (by rw [← e]; exact hk)
        simp [lget, hk]
        intro e; exact absurd (hk.trans e) this
      · simp only [lget, List.find?_cons, hk, decide_false] at ih ⊢
        exact ih
/-- Block b is a map whose entries are L's, in this order. -/
def mapIs (w : World) (b : Nat) (enc : K → Value) (L : List (K × Value)) : Prop :=
  ∃ es clock, w.heap[b]? = some (.map es clock) ∧ es.toList.map (fun e => (e.key, e.val)) = L.map (fun p => (enc p.1, p.2))
/-- Block b is a map that is the function f. -/
def mapFn (w : World) (b : Nat) (enc : K → Value) (f : K → Option Value) : Prop := ∃ L, mapIs w b enc L ∧ ∀ k, lget L k = f k
theorem mapFn.lt {w : World} {b : Nat} {enc : K → Value} {f : K → Option Value} (h : mapFn w b enc f) : b < w.heap.size := by
  obtain ⟨_, ⟨es, clock, hb, _⟩, _⟩ := h
  exact (Array.getElem?_eq_some_iff.1 hb).1
theorem mapFn.below {w w' : World} {b B : Nat} {enc : K → Value} {f : K → Option Value} (h : mapFn w b enc f) (hb : Below B w w') (hB : b < B) : mapFn w' b enc f := by
  obtain ⟨L, ⟨es, clock, h1, h2⟩, h3⟩ := h
  exact ⟨L, ⟨es, clock, (hb.block b hB).trans h1, h2⟩, h3⟩
theorem mapFn_new {w : World} {g : Nat} (hg : g = w.heap.size) (enc : K → Value) : mapFn (w.alloc (.map #[] 0)) g enc (fun _ => none) := by
  subst hg
  exact ⟨[], ⟨#[], 0, by show (w.heap.push _)[w.heap.size]? = _; simp, rfl⟩, fun _ => rfl⟩
variable {P : Program} {kt : TypeId} {enc : K → Value}
theorem run_findAsking (H : KeyOk P kt enc) (w : World) (k : K) : ∀ (es : List MapEntry) (L : List (K × Value)) (i : Nat), es.map (fun e => (e.key, e.val)) = L.map (fun p => (enc p.1, p.2)) →
    (Instr.findAsking kt (enc k) es i).run P w = .ok (lidx k L i) w
  | [], [], i, _ => rfl
  | [], p :: r, _, h => by cases h
  | e :: es, [], _, h => by cases h
  | e :: es, p :: r, i, h => by
    simp only [List.map_cons, List.cons.injEq, Prod.mk.injEq] at h
    obtain ⟨⟨h1, h2⟩, h3⟩ := h
    unfold Instr.findAsking lidx
    rw [h1, h2, Sem.run_bind, H.eq]
    simp only [Result.andThen]
    by_cases hk : k = p.1
    · simp [hk]
    · simp only [hk, decide_false, if_false]
      exact run_findAsking H w k es r (i + 1) h3
theorem findNow_lidx {d : TypeDesc} (hd : ∀ k k', Instr.sameNow d (enc k) (enc k') = none ∨ Instr.sameNow d (enc k) (enc k') = some (decide (k = k'))) (k : K) :
    ∀ (es : List MapEntry) (L : List (K × Value)) (i : Nat), es.map (fun e => (e.key, e.val)) = L.map (fun p => (enc p.1, p.2)) → Instr.findNow d (enc k) es i = none ∨ Instr.findNow d (enc k) es i = some (lidx k L i)
  | [], [], i, _ => .inr rfl
  | [], p :: r, _, h => by cases h
  | e :: es, [], _, h => by cases h
  | e :: es, p :: r, i, h => by
    simp only [List.map_cons, List.cons.injEq, Prod.mk.injEq] at h
    obtain ⟨⟨h1, h2⟩, h3⟩ := h
    unfold Instr.findNow lidx
    rw [h1, h2]
    rcases hd k p.1 with h' | h'
    · rw [h']; exact .inl rfl
    · rw [h']
      by_cases hk : k = p.1
      · simp [hk]
      · simp only [hk, decide_false, if_false]
        exact findNow_lidx hd k es r (i + 1) h3
theorem run_findKey (H : KeyOk P kt enc) (w : World) (k : K) (es : List MapEntry) (L : List (K × Value)) (h : es.map (fun e => (e.key, e.val)) = L.map (fun p => (enc p.1, p.2))) :
    (Instr.findKey kt (enc k) es).run P w = .ok (lidx k L 0) w := by
  obtain ⟨d, hu, hd⟩ := H.desc
  unfold Instr.findKey
  rw [Sem.run_bind, run_underlying hu]
  simp only [Result.andThen]
  rcases findNow_lidx hd k es L 0 h with h' | h'
  · rw [h']; exact run_findAsking H w k es L 0 h
  · rw [h']; rfl
theorem run_lookup_fn (H : KeyOk P kt enc) {w : World} {b : Nat} {f : K → Option Value} (h : mapFn w b enc f) {t e : TypeId} (ht : P.underlying t = some (.map kt e)) {z : Value} (hz : ∀ w, (zeroValue e).run P w = .ok z w) (k : K) :
    (Instr.lookup t (.map (some b)) (enc k) true).run P w = .ok (.tuple #[(f k).getD z, .bool (f k).isSome]) w ∧ (Instr.lookup t (.map (some b)) (enc k) false).run P w = .ok ((f k).getD z) w := by
  obtain ⟨L, ⟨es, clock, h1, h2⟩, h3⟩ := h
  have hf := run_findKey H w k es.toList L h2
  have hg : ∀ w', w' = w → (getObj b).run P w' = .ok (.map es clock) w' := fun w' e => by
    subst e; simp [getObj, Sem.run, h1]
  cases hl : lidx k L 0 with
  | none =>
    have hn : f k = none := (h3 k).symm.trans (lidx_none hl)
    rw [hl] at hf
    constructor <;> simp [Instr.lookup, Sem.run_bind, run_underlying ht, hg w rfl, H.check, hf, hz, hn]
  | some r =>
    obtain ⟨j, v⟩ := r
    have hn : f k = some v := (h3 k).symm.trans (lidx_some hl).1
    rw [hl] at hf
    constructor <;> simp [Instr.lookup, Sem.run_bind, run_underlying ht, hg w rfl, H.check, hf, hn]
theorem map_modify_eq {α β : Type} (g : α → β) (u : β) : ∀ (l : List α) (i : Nat) (f : α → α), (∀ a ∈ l, g (f a) = u) → (l.modify i f).map g = (l.map g).modify i fun _ => u
  | [], _, _, _ => by simp
  | a :: r, 0, f, h => by simp [h a]
  | a :: r, i + 1, f, h => by simp [map_modify_eq g u r i f fun a ha => h a (by simp [ha])]
theorem run_update_fn (H : KeyOk P kt enc) {w : World} {b : Nat} {f : K → Option Value} (h : mapFn w b enc f) {t e : TypeId} (ht : P.underlying t = some (.map kt e)) (k : K) (v : Value) :
    ∃ w', (Instr.mapUpdate t (.map (some b)) (enc k) v).run P w = .ok () w' ∧ mapFn w' b enc (fun k' => if k' = k then some v else f k') ∧ w.grownBy w' (some b) ∧ w'.heap.size = w.heap.size := by
  have hlt := h.lt
  obtain ⟨L, ⟨es, clock, h1, h2⟩, h3⟩ := h
  have hf := run_findKey H w k es.toList L h2
  have hg : (getObj b).run P w = .ok (.map es clock) w := by simp [getObj, Sem.run, h1]
  have hs : ∀ o, (setObj b o).run P w = .ok () { w with heap := w.heap.setIfInBounds b o } := fun o => by simp [setObj, Sem.run, h1]
  have hgr : ∀ o, w.grownBy { w with heap := w.heap.setIfInBounds b o } (some b) := fun o =>
    ⟨rfl, rfl, rfl, by simp, fun i _ hne => by
      have : i ≠ b := fun e => hne (by rw [e])
      simp [Ne.symm this]⟩
  cases hl : lidx k L 0 with
  | none =>
    rw [hl] at hf
    refine ⟨_, by simp [Instr.mapUpdate, Sem.run_bind, run_underlying ht, hg, H.check, hf, hs]; rfl, ?_, hgr _, by simp⟩
    refine ⟨L ++ [(k, v)], ⟨_, _, by simp [hlt]; exact ⟨rfl, rfl⟩, by simp [h2]⟩, fun k' => ?_⟩
    rw [lget_append (lidx_none hl), h3]
  | some r =>
    obtain ⟨j, u⟩ := r
    rw [hl] at hf
    obtain ⟨hlg, _, hjk⟩ := lidx_some hl
    simp only [Nat.sub_zero] at hjk
    have hjl : j < L.length := by
      rcases Nat.lt_or_ge j L.length with h' | h'
      · exact h'
      · rw [List.getElem?_eq_none h'] at hjk; cases hjk
    have hes : es.toList.length = L.length := by have := congrArg List.length h2; simpa using this
    have hjs : j < es.size := by rw [← hes] at hjl; simpa using hjl
    have hkey : es[j].key = enc k := by
      have h4 := congrArg (fun l => l[j]?) h2
      simp only [List.getElem?_map] at h4
      rw [List.getElem?_eq_getElem (by simpa using hjs), List.getElem?_eq_getElem hjl] at h4
      rw [List.getElem?_eq_getElem hjl] at hjk
      simp only [Option.map_some, Option.some.injEq, Prod.mk.injEq] at h4 hjk
      rw [← hjk]
      simpa using h4.1
    have hst : (Instr.keyThatStays (((es[j]?).map (·.key)).getD (enc k)) (enc k)).run P w = .ok (enc k) w := by
      rw [Array.getElem?_eq_getElem hjs]
      simp [hkey, Instr.keyThatStays, H.stays]
    refine ⟨_, by simp only [Instr.mapUpdate, Sem.run_bind, run_underlying ht, hg, H.check, hf, Result.andThen, hst, hs]; rfl, ?_, hgr _, by simp⟩
    refine ⟨L.modify j fun _ => (k, v), ⟨_, _, by simp [hlt]; exact ⟨rfl, rfl⟩, ?_⟩, fun k' => ?_⟩
    · rw [Array.toList_modify, map_modify_eq (fun e : MapEntry => (e.key, e.val)) (enc k, v) _ _ _ (fun _ _ => rfl), map_modify_eq (fun p : K × Value => (enc p.1, p.2)) (enc k, v) _ _ _ (fun _ _ => rfl), h2]
    · have := lget_modify v k' hl
      rw [Nat.sub_zero] at this
      rw [this, h3]
theorem wpList_lookup_fn {ops : Array Oper} {rest : List Oper} {o : Oper} {a : Act} {Q : Exit → Act → World → Prop} (w : World) (hg : o.guard = none) (m x : Operand) (t : TypeId) (hop : o.op = Op.lookup t m x true)
    (H : KeyOk P kt enc) {b : Nat} {f : K → Option Value} (h : mapFn w b enc f) {e : TypeId} (ht : P.underlying t = some (.map kt e)) {z : Value} (hz : ∀ w, (zeroValue e).run P w = .ok z w) (k : K)
    (hm : a.eval m = .map (some b)) (hx : a.eval x = enc k) (hK : wpList P ops Q rest (a.put o.dst (.tuple #[(f k).getD z, .bool (f k).isSome])) w) : wpList P ops Q (o :: rest) a w := by
  refine wpList_plain hg fun K' hK' => ?_
  unfold Oper.wp
  simp [execOp, hop, hm, hx, (run_lookup_fn H h ht hz k).1, Result.andThen]
  exact hK' _ _ hK
theorem wpList_lookup1_fn {ops : Array Oper} {rest : List Oper} {o : Oper} {a : Act} {Q : Exit → Act → World → Prop} (w : World) (hg : o.guard = none) (m x : Operand) (t : TypeId) (hop : o.op = Op.lookup t m x false)
    (H : KeyOk P kt enc) {b : Nat} {f : K → Option Value} (h : mapFn w b enc f) {e : TypeId} (ht : P.underlying t = some (.map kt e)) {z : Value} (hz : ∀ w, (zeroValue e).run P w = .ok z w) (k : K)
    (hm : a.eval m = .map (some b)) (hx : a.eval x = enc k) (hK : wpList P ops Q rest (a.put o.dst ((f k).getD z)) w) : wpList P ops Q (o :: rest) a w := by
  refine wpList_plain hg fun K' hK' => ?_
  unfold Oper.wp
  simp [execOp, hop, hm, hx, (run_lookup_fn H h ht hz k).2, Result.andThen]
  exact hK' _ _ hK
theorem wpList_update_fn {ops : Array Oper} {rest : List Oper} {o : Oper} {a : Act} {Q : Exit → Act → World → Prop} (w : World) (hg : o.guard = none) (m x v : Operand) (t : TypeId) (hop : o.op = Op.mapUpdate t m x v)
    (H : KeyOk P kt enc) {b : Nat} {f : K → Option Value} (h : mapFn w b enc f) {e : TypeId} (ht : P.underlying t = some (.map kt e)) (k : K)
    (hm : a.eval m = .map (some b)) (hx : a.eval x = enc k)
    (hK : ∀ w', mapFn w' b enc (fun k' => if k' = k then some (a.eval v) else f k') → w.grownBy w' (some b) → w'.heap.size = w.heap.size → wpList P ops Q rest (a.put o.dst undef) w') : wpList P ops Q (o :: rest) a w := by
  refine wpList_plain hg fun K' hK' => ?_
  obtain ⟨w', hr, h1, h2, h3⟩ := run_update_fn H h ht k (a.eval v)
  unfold Oper.wp
  simp [execOp, hop, hm, hx, hr, Result.andThen]
  exact hK' _ _ (hK w' h1 h2 h3)
end
/-- A key of two numbers. -/
abbrev key2 (p : Int × Int) : Value := .agg #[.int .i64 p.1, .int .i64 p.2]
theorem key2_check (em : Bool) (w : World) (k : Int × Int) : (Instr.checkKey em 10000 182 (key2 k)).run Tryd.prog w = .ok () w := by kernel_rfl
theorem key2_ok : KeyOk Tryd.prog 182 key2 := {
  check := key2_check
  desc := ⟨_, Tryd.underlying182, fun _ _ => .inl rfl⟩
  eq := fun w k k' => by
    have h := run_equalIn_agg (P := Tryd.prog) w 9999 182 #[.int .i64 k.1, .int .i64 k.2] #[.int .i64 k'.1, .int .i64 k'.2] (by kernel_rfl) (by kernel_rfl)
    have hf : (Tryd.prog.fieldsOf 182).toList = [⟨"key", 3, 0, false, "", "testimony/causal", 0⟩, ⟨"n", 3, 1, false, "", "testimony/causal", 8⟩] := by kernel_rfl
    rw [hf] at h
    simp [Op.equal, Op.maxDepth, h, go_sem]
    by_cases h1 : k.1 = k'.1 <;> by_cases h2 : k.2 = k'.2 <;> simp [h1, h2, Prod.ext_iff]
  stays := fun k => by simp [Instr.sameBits] }
end Go.Proofs.YtkncomfbedbikaaDoor
