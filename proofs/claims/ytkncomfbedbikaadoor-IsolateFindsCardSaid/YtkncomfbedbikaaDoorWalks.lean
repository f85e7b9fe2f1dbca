/- testimonyref.walks: what can be come to from each, by a queue. -/
import Derived.Test.YtkncomfbedbikaaDoorQueue
import Derived.Test.YtkncomfbedbikaaDoorReach
import Derived.Deep.CutBlock
import Derived.Deep.DeepCutAuto
import Derived.Deep.Light
namespace Go.Proofs.YtkncomfbedbikaaDoor
open Go.RowKit
/-- Rows that are done. -/
def RowsOk (w : World) (j n : Nat) (G : Nat → Nat) (M : Nat → Nat → Bool) : Prop := ∀ i, i < j → w.rowIs (G i) 4 n (fun k => .bool (M i k))
theorem RowsOk.below {w w' : World} {j n : Nat} {G : Nat → Nat} {M : Nat → Nat → Bool} (h : RowsOk w j n G M) (hb : Below w.heap.size w w') : RowsOk w' j n G M := fun i hi => rowIs_below (h i hi) hb
theorem RowsOk.setOther {w : World} {j n : Nat} {G : Nat → Nat} {M : Nat → Nat → Bool} (h : RowsOk w j n G M) {p : Addr} (hne : ∀ i, i < j → G i ≠ p.block) (v : Value) : RowsOk (w.setCell p v) j n G M := fun i hi => (h i hi).setOther (hne i hi) v
theorem RowsOk.grown {w w' : World} {j n : Nat} {G : Nat → Nat} {M : Nat → Nat → Bool} {row : Option Nat} (h : RowsOk w j n G M) (hg : w.grownBy w' row) (hne : ∀ i, i < j → some (G i) ≠ row) : RowsOk w' j n G M := fun i hi => rowIs_grown (h i hi) hg (hne i hi)
/-- All that stands while one node's search runs. -/
structure Search (w wr : World) (n j : Nat) (v5 : Value) (G : Nat → Nat) (M : Nat → Nat → Bool) (gs : Nat) (S : Nat → Bool) (g off m cap : Nat) (T : List Nat) : Prop where
  bel : Below w.heap.size w wr
  own : wr.ownsRow w.heap.size 87 1 v5 j ((List.range j).map fun i => .slice (some ⟨G i, 0, none⟩) n n)
  rows : RowsOk wr j n G M
  old : ∀ i, i < j → G i < gs
  seen : wr.rowIs gs 4 n (fun k => .bool (S k))
  ge : w.heap.size ≤ gs
  q : IntQ wr w.heap.size g off m cap T
theorem ownsRow_block {w : World} {base n size b : Nat} {e t : TypeId} {m : Nat} {f : Nat → Value} {v : Value} {xs : List Value} (h : w.ownsRow base e size v n xs) (hr : w.rowIs b t m f) (hne : e ≠ t) : v.ownBlock ≠ some b := by
  rcases h.2 with ⟨rfl, rfl⟩ | ⟨g, cap, cur, rfl, _, hg, _⟩
  · simp [Value.ownBlock]
  · intro he
    have : g = b := by simpa [Value.ownBlock] using he
    subst this
    obtain ⟨c, h2, _⟩ := hr
    rw [hg] at h2
    injection h2 with h2
    injection h2 with _ h3
    exact hne h3
namespace Search
variable {w wr w' : World} {n j gs g off m cap : Nat} {v5 : Value} {G : Nat → Nat} {M : Nat → Nat → Bool} {S : Nat → Bool} {T : List Nat}
theorem below (h : Search w wr n j v5 G M gs S g off m cap T) (hb : Below wr.heap.size wr w') : Search w w' n j v5 G M gs S g off m cap T :=
  ⟨h.bel.trans (hb.mono h.bel.size), own_below h.own hb, h.rows.below hb, h.old, rowIs_below h.seen hb, h.ge, h.q.below hb⟩
theorem mark (h : Search w wr n j v5 G M gs S g off m cap T) (k : Nat) : Search w (wr.setCell ⟨gs, k, none⟩ (.bool true)) n j v5 G M gs (fun k' => if k' = k then true else S k') g off m cap T := by
  have hgr : wr.grownBy (wr.setCell ⟨gs, k, none⟩ (.bool true)) (some gs) := ⟨rfl, rfl, rfl, by simp [World.setCell], fun a _ hne => Below.heap_setCell _ _ _ _ (fun e => hne (by rw [e]))⟩
  refine ⟨h.bel.setCell h.ge _, own_grown h.own hgr (.inl (ownsRow_block h.own h.seen (by decide))), h.rows.setOther (fun i hi => by have := h.old i hi; simp; omega) _, h.old, (h.seen.set k _).congr fun a _ => by by_cases e : a = k <;> simp [e], h.ge, h.q.setOther (h.q.type h.seen (by decide)) _⟩
theorem pushed (h : Search w wr n j v5 G M gs S g off m cap T) (hg : wr.grownBy w' (some g)) {g' off' m' cap' : Nat} {T' : List Nat} (hq : IntQ w' w.heap.size g' off' m' cap' T') : Search w w' n j v5 G M gs S g' off' m' cap' T' := by
  obtain ⟨N, f, hr, _⟩ := h.q.row
  refine ⟨h.bel.grown hg h.bel.size (by rintro k e; cases e; exact h.q.ge), own_grown h.own hg (.inl (ownsRow_block h.own hr (by decide))), h.rows.grown hg (fun i hi e => ?_), h.old, rowIs_grown h.seen hg (fun e => ?_), h.ge, hq⟩
  · injection e with e
    exact h.q.type (h.rows i hi) (by decide) e.symm
  · injection e with e
    exact h.q.type h.seen (by decide) e.symm
theorem queue (h : Search w wr n j v5 G M gs S g off m cap T) {g' off' m' cap' : Nat} {T' : List Nat} (hq : IntQ wr w.heap.size g' off' m' cap' T') : Search w wr n j v5 G M gs S g' off' m' cap' T' :=
  ⟨h.bel, h.own, h.rows, h.old, h.seen, h.ge, hq⟩
theorem close (h : Search w wr n j v5 G M gs S g off m cap T) (o : Obj) (hg : (wr.alloc o).grownBy w' v5.ownBlock) :
    RowsOk w' (j + 1) n (fun i => if i < j then G i else gs) (fun i k => if i < j then M i k else S k) ∧ Below w.heap.size w w' := by
  refine ⟨fun i hi => ?_, (h.bel.alloc h.bel.size o).grown hg (by simp; have := h.bel.size; omega) (own_ge h.own)⟩
  by_cases e : i < j
  · simp only [e, if_true]
    exact rowIs_grown ((h.rows i e).alloc o) hg (Ne.symm (ownsRow_block h.own (h.rows i e) (by decide)))
  · simp only [e, if_false]
    exact rowIs_grown (h.seen.alloc o) hg (Ne.symm (ownsRow_block h.own h.seen (by decide)))
end Search
theorem newsV {w : World} {g : Nat} (hg : g = w.heap.size) (u : Value) (t : TypeId) : ∀ k x, [u][k]? = some x → (w.alloc (.cells #[u] t)).cell? ((⟨g, 0, none⟩ : Addr).add k) = some x := by
  intro k x hk
  subst hg
  match k, hk with
  | 0, hk =>
    cases hk
    simp [Addr.add, World.cell?_alloc_new]
/-- The slice at A reads as the n rows M 0, M 1, ..; all lie in blocks from lo on. -/
def BoolssNew (w : World) (lo : Nat) (A : Option Addr) (n : Nat) (M : Nat → Nat → Bool) : Prop :=
  ∀ i, i < n → ∃ b off, A = some ⟨b, off, none⟩ ∧ lo ≤ b ∧ b < w.heap.size ∧ ∃ b2 off2 c, w.cell? ⟨b, off + i, none⟩ = some (.slice (some ⟨b2, off2, none⟩) n c) ∧ n ≤ c ∧ lo ≤ b2 ∧ b2 < w.heap.size ∧ ∀ k, k < n → w.cell? ⟨b2, off2 + k, none⟩ = some (.bool (M i k))
theorem BoolssNew.reads {w : World} {lo : Nat} {A : Option Addr} {n : Nat} {M : Nat → Nat → Bool} (h : BoolssNew w lo A n M) : BoolssAt w A n M := fun i hi => by
  obtain ⟨b, off, hA, _, hb, b2, off2, c2, h1, h2, _, h3, h4⟩ := h i hi
  exact ⟨b, off, hA, hb, b2, off2, c2, h1, h2, h3, h4⟩
theorem BoolssNew.keep {w w' : World} {lo : Nat} {A : Option Addr} {n : Nat} {M : Nat → Nat → Bool} (h : BoolssNew w lo A n M) (hk : ∀ k, lo ≤ k → k < w.heap.size → w'.heap[k]? = w.heap[k]?) (hs : w.heap.size ≤ w'.heap.size) : BoolssNew w' lo A n M := fun i hi => by
  obtain ⟨b, off, hA, g, hb, b2, off2, c2, h1, h2, g2, h3, h4⟩ := h i hi
  exact ⟨b, off, hA, g, Nat.lt_of_lt_of_le hb hs, b2, off2, c2, (World.cell?_of_block (w := w) (hk b g hb)).trans h1, h2, g2, Nat.lt_of_lt_of_le h3 hs, fun k hk' => (World.cell?_of_block (w := w) (hk b2 g2 h3)).trans (h4 k hk')⟩
theorem BoolssNew.below {w w' : World} {lo : Nat} {A : Option Addr} {n : Nat} {M : Nat → Nat → Bool} (h : BoolssNew w lo A n M) (hb : Below w.heap.size w w') : BoolssNew w' lo A n M := h.keep (fun k _ hk => hb.block k hk) hb.size
theorem BoolssNew.mono {w : World} {lo lo' : Nat} {A : Option Addr} {n : Nat} {M : Nat → Nat → Bool} (h : BoolssNew w lo A n M) (hl : lo' ≤ lo) : BoolssNew w lo' A n M := fun i hi => by
  obtain ⟨b, off, hA, g, hb, b2, off2, c2, h1, h2, g2, h3, h4⟩ := h i hi
  exact ⟨b, off, hA, Nat.le_trans hl g, hb, b2, off2, c2, h1, h2, Nat.le_trans hl g2, h3, h4⟩
theorem own_booln {w : World} {base n : Nat} {v : Value} {G : Nat → Nat} {M : Nat → Nat → Bool} (h : w.ownsRow base 87 1 v n ((List.range n).map fun i => .slice (some ⟨G i, 0, none⟩) n n)) (hr : RowsOk w n n G M) (hge : ∀ i, i < n → base ≤ G i) :
    ∃ A cap, v = .slice A n cap ∧ n ≤ cap ∧ BoolssNew w base A n M := by
  rcases h.2 with ⟨rfl, rfl⟩ | ⟨g, cap, cur, rfl, hb, hg, hn, hc, hs, hx⟩
  · exact ⟨none, 0, rfl, Nat.le_refl _, fun i hi => absurd hi (by omega)⟩
  · refine ⟨_, cap, rfl, hn, fun i hi => ⟨g, 0, rfl, hb, (Array.getElem?_eq_some_iff.1 hg).1, G i, 0, n, ?_, Nat.le_refl _, hge i hi, (hr i hi).lt, fun k hk => by rw [Nat.zero_add]; exact (hr i hi).cell hk⟩⟩
    have := h.cellAt i (by omega)
    rw [Nat.zero_add, this]
    simp [hi]
theorem unseen_all : ∀ n, unseen (fun _ => false) n = n
  | 0 => rfl
  | n + 1 => by simp [unseen, unseen_all n]
set_option maxRecDepth 100000 in
set_option maxHeartbeats 4000000 in
theorem walks_new (L : FuncId) (cp : Value) (n : Nat) (E : Nat → Nat → Bool) (w : World) (hn : n ≤ 60) (hcall : ∀ (args : Array Value) (W : World), (callFunc L args).run Tryd.prog W = .ok (.enter L args) W)
    (hL : ∀ W i k, Below w.heap.size w W → i < n → k < n → Calls Tryd.prog L #[.int .i64 (i : Int), .int .i64 (k : Int), cp] W fun e w' => e = .returned (.bool (E i k)) ∧ Below W.heap.size W w') :
    Calls Tryd.prog 93 #[.int .i64 (n : Int), .func (.func L) #[] #[cp]] w fun e w' => ∃ B c' M, e = .returned (.slice B n c') ∧ n ≤ c' ∧ BoolssNew w' w.heap.size B n M ∧ (∀ i k, i < n → k < n → (M i k = true ↔ Reach E n i k)) ∧ Below w.heap.size w w' := by
  have HL := Lib.hid hL
  clear hL
  obtain ⟨i0, hi0, hz0, hz1, hz2⟩ := info_parts bools_info
  have hmk := make_bools n (by omega)
  go_enter Tryd.func93, Tryd.ntmps93
  go_wp2_with fail
  go_loopw [5, 12] (fun v x wr => ∃ (j : Nat) (G : Nat → Nat) (M : Nat → Nat → Bool), x = .int .i64 j ∧ j ≤ n ∧ Below w.heap.size w wr ∧ wr.ownsRow w.heap.size 87 1 v j ((List.range j).map fun i => .slice (some ⟨G i, 0, none⟩) n n) ∧ RowsOk wr j n G M ∧ (∀ i, i < j → w.heap.size ≤ G i) ∧ ∀ i k, i < j → k < n → (M i k = true ↔ Reach E n i k)) (fun _ x _ => n - (intOf x).toNat)
  case atStart => exact ⟨0, fun _ => 0, fun _ _ => false, rfl, by omega, Below.refl _ _, own_nil _ _ _ _, fun i hi => absurd hi (by omega), fun i hi => absurd hi (by omega), fun i k hi => absurd hi (by omega)⟩
  case round =>
    obtain ⟨wo, rfl⟩ : ∃ wo : World, wo = wr := ⟨_, rfl⟩
    obtain ⟨j, G, M, rfl, hj, hbw, hown, hrows, hge, hM⟩ := hrel
    have HGE := Lib.hid hge
    have HB := Lib.hid hbw
    have HV := Lib.hid hown
    have HR := Lib.hid hrows
    have HM := Lib.hid hM
    clear hbw hown hrows hM hge
    by_cases hlt : j < n
    · have HS0 : Hid (Search w ((wo.alloc (.cells (madeCells #[.bool false] n) 4)).alloc (.cells #[.int .i64 (j : Int)] 3)) n j u5 G M wo.heap.size (fun _ => false) (wo.heap.size + 1) 0 1 1 [j]) := Lib.hid (by
        have hb1 : Below wo.heap.size wo ((wo.alloc (.cells (madeCells #[.bool false] n) 4)).alloc (.cells #[.int .i64 (j : Int)] 3)) := ((Below.refl _ _).alloc (Nat.le_refl _) _).alloc (by simp) _
        refine ⟨HB.out.trans (hb1.mono HB.out.size), own_below HV.out hb1, HR.out.below hb1, fun i hi => (HR.out i hi).lt, (World.rowIs_made wo (.bool false) n 4).alloc _, HB.out.size, ⟨rfl, by have := HB.out.size; omega, Nat.le_refl _, by simp [maxLen], 1, fun _ => .int .i64 (j : Int), ?_, Nat.le_refl _, fun t x hx => ?_⟩⟩
        · have := World.rowIs_alloc (wo.alloc (.cells (madeCells #[.bool false] n) 4)) #[.int .i64 (j : Int)] 3 (fun _ => .int .i64 (j : Int)) (fun i hi => by
            have : i = 0 := by simpa using hi
            subst this; rfl)
          simpa using this
        · match t, hx with
          | 0, hx => cases hx; rfl)
      go_wp2_with fail
      go_loopg [8] (n + 1) (fun gk v wr => ∃ (g off m cap : Nat) (T : List Nat) (S : Nat → Bool), v = .slice (some ⟨g, off, none⟩) m cap ∧ Search w wr n j u5 G M wo.heap.size S g off m cap T ∧ Bfs E n j S T ∧ unseen S n + m = gk ∧ gk ≤ n + 1)
      case atStart => exact ⟨_, _, _, _, _, _, rfl, HS0.out, bfs_start hlt, by rw [unseen_all], Nat.le_refl _⟩
      case round =>
        obtain ⟨w1, rfl⟩ : ∃ w1 : World, w1 = wr := ⟨_, rfl⟩
        obtain ⟨g, off, m, cap, T, S, rfl, hs, hbfs, hun, hgk⟩ := hrel
        have HS := Lib.hid hs
        have HQ := Lib.hid hbfs
        clear hs hbfs
        have hml := HS.out.q.len
        cases T with
        | nil =>
          have hm0 : m = 0 := by simpa using hml.symm
          subst hm0
          clear hml hun
          go_wp2_with (at_builtin; refine wpList_append_own _ rfl _ _ 97 rfl w.heap.size 87 i0 (.slice none 0 0) 1 24 Tryd.underlying97 hi0 hz0 hz1 hz2 rfl (by decide) _ _ _ rfl (HS.out.own.alloc _) ⟨w1.heap.size, 0, none⟩ 1 1 [.slice (some ⟨wo.heap.size, 0, none⟩) n n] rfl rfl (newsV rfl _ _) (fun u hu => by simp at hu; rw [hu]; rfl) (by unfold maxLen; omega) (by omega) (by simp; have := HS.out.bel.size; omega) ?_; intro v' wz hown1 hg1 _; have HV1 := Lib.hid hown1; have HC := Lib.hid (HS.out.close _ hg1); clear hown1 hg1)
          go_roundw
          case rel => exact ⟨j + 1, _, _, by go_num, by omega, HC.out.2, by
            have h := HV1.out
            have e : ((List.range j).map fun i => Value.slice (some ⟨G i, 0, none⟩) n n) ++ [.slice (some ⟨wo.heap.size, 0, none⟩) n n] = (List.range (j + 1)).map fun i => Value.slice (some ⟨if i < j then G i else wo.heap.size, 0, none⟩) n n := by
              rw [← range_snoc]
              congr 1
              · exact List.map_congr_left fun i hi => by rw [if_pos (by simpa using hi)]
              · simp
            rw [e] at h
            exact h, HC.out.1, fun i hi => by
            by_cases e : i < j
            · simp only [e, if_true]; exact HGE.out i e
            · simp only [e, if_false]; exact HB.out.size, fun i k hi hk => by
            by_cases e : i < j
            · simp only [e, if_true]; exact HM.out i k e hk
            · obtain rfl : i = j := by omega
              simp only [e, if_false]
              exact bfs_end hlt HQ.out k hk⟩
          case measure => go_light; simp [intOf]; omega
        | cons x rest =>
          obtain ⟨hm, hcp, hcell⟩ := HS.out.q.head
          have hxn : x < n := (HQ.out.todo x List.mem_cons_self).1
          clear hml
          go_upto_region 9 with fail
          go_cut [8] (fun v wx => wx = w1 ∧ ∃ off2 cap2, v = .slice (some ⟨g, off2, none⟩) (m - 1) cap2 ∧ IntQ w1 w.heap.size g off2 (m - 1) cap2 rest)
          case first =>
            by_cases hc1 : cap = 1
            · subst hc1
              have HT := Lib.hid HS.out.q.tail1
              obtain rfl : m = 1 := by have := HS.out.q.fit; omega
              go_wp2_with fail
              go_meet
              case rel => exact ⟨rfl, off, 0, rfl, HT.out⟩
            · have HT := Lib.hid HS.out.q.tail
              go_wp2_with fail
              go_meet
              case rel => exact ⟨rfl, off + 1, cap - 1, rfl, HT.out⟩
          case rest =>
            obtain ⟨rfl, off2, cap2, rfl, hq2⟩ := hcut
            have HS2 := Lib.hid (HS.out.queue hq2)
            have HP := Lib.hid (bfs_pop HQ.out)
            clear hq2 hcell
            go_wp2_with fail
            go_loopw [8, 28] (fun v y wr => ∃ (k g off m2 cap : Nat) (T : List Nat) (S : Nat → Bool), y = .int .i64 k ∧ k ≤ n ∧ v = .slice (some ⟨g, off, none⟩) m2 cap ∧ Search w wr n j u5 G M wo.heap.size S g off m2 cap T ∧ Bfs1 E n j S T x k ∧ unseen S n + m2 + 1 = gk) (fun _ y _ => n - (intOf y).toNat)
            case atStart => exact ⟨0, g, off2, m - 1, cap2, rest, S, rfl, by omega, rfl, HS2.out, HP.out, by omega⟩
            case round =>
              clear HS2 HP HS HQ hcp hm hun
              obtain ⟨k, g, off, m2, cap, T, S, rfl, hk, rfl, hs, hbfs, hun⟩ := hrel
              have HS := Lib.hid hs
              have HQ := Lib.hid hbfs
              clear hs hbfs
              by_cases hkn : k < n
              · have HC := Lib.hid (HL.out wr x k HS.out.bel hxn hkn)
                cases hE : E x k
                · rw [hE] at HC
                  have HE := Lib.hid hE
                  clear hE
                  go_wp2_with fail
                  refine HC.out.mono ?_
                  rintro e w' ⟨rfl, hb'⟩
                  have HS3 := Lib.hid (HS.out.below hb')
                  clear hb'
                  go_wp2_with fail
                  go_roundw
                  case rel => exact ⟨k + 1, _, _, _, _, T, S, by go_num, by omega, rfl, HS3.out, bfs_skip HQ.out (fun h => by rw [HE.out] at h; cases h), hun⟩
                  case measure => go_light; simp [intOf]; omega
                · rw [hE] at HC
                  have HE := Lib.hid hE
                  clear hE
                  go_wp2_with fail
                  refine HC.out.mono ?_
                  rintro e w' ⟨rfl, hb'⟩
                  have HS3 := Lib.hid (HS.out.below hb')
                  clear hb'
                  have hcs := HS3.out.seen.cell hkn
                  cases hS : S k
                  · rw [hS] at hcs
                    have HSK := Lib.hid hS
                    clear hS
                    have hfs := HS3.out.seen.frozen k
                    have HS4 := Lib.hid (HS3.out.mark k)
                    have HU : Hid (unseen (fun k' => if k' = k then true else S k') n + 1 = unseen S n) := Lib.hid (unseen_set HSK.out hkn)
                    have HS5 := Lib.hid (HS4.out.below ((Below.refl _ _).alloc (Nat.le_refl _) (.cells #[.int .i64 (k : Int)] 3)))
                    have hm2 : m2 ≤ 1000000 := by omega
                    go_wp2_with (at_builtin; go_loud (refine wpList_push _ rfl _ _ rfl HS5.out.q HS5.out.bel.size hm2 rfl ⟨w'.heap.size, 0, none⟩ 1 k rfl (newsV (by simp [World.setCell]) _ _ 0 _ rfl) ?_); intro g' off' cap' w2 hq2 hg2; have HS6 := Lib.hid (HS5.out.pushed hg2 hq2); clear hq2 hg2)
                    go_roundw
                    case rel => exact ⟨k + 1, g', off', m2 + 1, cap', T ++ [k], _, by go_num, by omega, rfl, HS6.out, bfs_push HQ.out hkn HE.out, by have := HU.out; omega⟩
                    case measure => go_light; simp [intOf]; omega
                  · rw [hS] at hcs
                    have HSK := Lib.hid hS
                    clear hS
                    go_wp2_with fail
                    go_roundw
                    case rel => exact ⟨k + 1, _, _, _, _, T, S, by go_num, by omega, rfl, HS3.out, bfs_skip HQ.out (fun _ => HSK.out), hun⟩
                    case measure => go_light; simp [intOf]; omega
              · obtain rfl : k = n := by omega
                go_wp2_with fail
                go_roundg (gk - 1)
                case measure => go_light; omega
                case rel => exact ⟨g, off, m2, cap, T, S, rfl, HS.out, bfs_next HQ.out, by omega, by omega⟩
    · obtain rfl : j = n := by omega
      obtain ⟨B, c', rfl, hc', hB⟩ := own_booln HV.out HR.out HGE.out
      have HBs := Lib.hid hB
      clear hB
      go_wp2
      go_ret
      exact ⟨B, c', M, rfl, hc', HBs.out, HM.out, HB.out⟩
theorem walks_any (L : FuncId) (cp : Value) (n : Nat) (E : Nat → Nat → Bool) (w : World) (hn : n ≤ 60) (hcall : ∀ (args : Array Value) (W : World), (callFunc L args).run Tryd.prog W = .ok (.enter L args) W)
    (hL : ∀ W i k, Below w.heap.size w W → i < n → k < n → Calls Tryd.prog L #[.int .i64 (i : Int), .int .i64 (k : Int), cp] W fun e w' => e = .returned (.bool (E i k)) ∧ Below W.heap.size W w') :
    Calls Tryd.prog 93 #[.int .i64 (n : Int), .func (.func L) #[] #[cp]] w fun e w' => ∃ B c' M, e = .returned (.slice B n c') ∧ n ≤ c' ∧ BoolssAt w' B n M ∧ (∀ i k, i < n → k < n → (M i k = true ↔ Reach E n i k)) ∧ Below w.heap.size w w' :=
  (walks_new L cp n E w hn hcall hL).mono fun _ _ ⟨B, c', M, h1, h2, h3, h4⟩ => ⟨B, c', M, h1, h2, h3.reads, h4⟩
end Go.Proofs.YtkncomfbedbikaaDoor
