/- testimonyref.Broken: of each of the four things the first two ops by which it is broken. -/
import Derived.Test.YtkncomfbedbikaaDoorSessE
import Derived.Deep.DeepCutAuto
import Derived.BigRegion
namespace Go.Proofs.YtkncomfbedbikaaDoor
open Go.RowKit
/-- The pairs i < k below n that come behind (I, K), with it. -/
def dnS (n K I : Nat) (i k : Nat) : Prop := i < k ∧ k < n ∧ (K < k ∨ (k = K ∧ I ≤ i))
theorem dnS_succ {n K I : Nat} (h : I < K) (hK : K < n) (i k : Nat) : (dnS n K (I + 1) i k ∨ (i = I ∧ k = K)) ↔ dnS n K I i k := by unfold dnS; omega
theorem dnS_next {n K : Nat} (i k : Nat) : dnS n (K + 1) 0 i k ↔ dnS n K K i k := by unfold dnS; omega
theorem dnS_up {n : Nat} (i k : Nat) : dnS n 0 0 i k ↔ upS n 0 i k := by unfold dnS upS; omega
theorem dnS_lt {n K I i k : Nat} (h : dnS n K (I + 1) i k) : K < k ∨ (K = k ∧ I < i) := by unfold dnS at h; omega
theorem brkR_tree (g0 g1 : Int) (o q : GOp) (xo xq : Int) :
    ((o.kind == g0) = false ∧ (decide (o.kind = g0) && decide (q.kind = g1) && decide (o.proc = q.proc) && decide (o.key = q.key) && decide (xq < xo)) = false) ∨
    ((o.kind == g0) = true ∧ (q.kind == g1) = false ∧ (decide (o.kind = g0) && decide (q.kind = g1) && decide (o.proc = q.proc) && decide (o.key = q.key) && decide (xq < xo)) = false) ∨
    ((o.kind == g0) = true ∧ (q.kind == g1) = true ∧ (o.proc == q.proc) = false ∧ (decide (o.kind = g0) && decide (q.kind = g1) && decide (o.proc = q.proc) && decide (o.key = q.key) && decide (xq < xo)) = false) ∨
    ((o.kind == g0) = true ∧ (q.kind == g1) = true ∧ (o.proc == q.proc) = true ∧ (o.key == q.key) = false ∧ (decide (o.kind = g0) && decide (q.kind = g1) && decide (o.proc = q.proc) && decide (o.key = q.key) && decide (xq < xo)) = false) ∨
    ((o.kind == g0) = true ∧ (q.kind == g1) = true ∧ (o.proc == q.proc) = true ∧ (o.key == q.key) = true ∧ decide (xq < xo) = false ∧ (decide (o.kind = g0) && decide (q.kind = g1) && decide (o.proc = q.proc) && decide (o.key = q.key) && decide (xq < xo)) = false) ∨
    ((o.kind == g0) = true ∧ (q.kind == g1) = true ∧ (o.proc == q.proc) = true ∧ (o.key == q.key) = true ∧ decide (xq < xo) = true ∧ (decide (o.kind = g0) && decide (q.kind = g1) && decide (o.proc = q.proc) && decide (o.key = q.key) && decide (xq < xo)) = true) := by
  have e : ∀ a b : Int, (a == b) = decide (a = b) := fun a b => rfl
  rw [e, e, e, e]
  cases decide (o.kind = g0) <;> cases decide (q.kind = g1) <;> cases decide (o.proc = q.proc) <;> cases decide (o.key = q.key) <;> cases decide (xq < xo) <;> simp
def RBrokenPost (F : Nat → GOp) (n : Nat) (L : Nat → Nat) (X : Nat → Nat → Int) (w : World) (e : Ending) (w' : World) : Prop :=
  ∃ R cR Z, e = .returned (.slice R 4 cR) ∧ PairsAt w' R Z ∧ (∀ g, g < 4 → FirstIn (brkR F L X g) (upS n 0) (Z (g * 2)) (Z (g * 2 + 1))) ∧ Below w.heap.size w w'
theorem pair_info : (Tryd.prog.info? 42).map (fun i => (i.zero, i.size, i.bytes)) = some (some (.agg #[.int .i64 0, .int .i64 0]), 2, 16) := by kernel_rfl
theorem news2 {w : World} {g : Nat} (hg : g = w.heap.size) (x y : Int) (t : TypeId) : ∀ k u, [Value.int .i64 x, Value.int .i64 y][k]? = some u → (w.alloc (.cells #[.int .i64 x, .int .i64 y] t)).cell? ((⟨g, 0, none⟩ : Addr).add k) = some u := by
  intro k u hk
  subst hg
  match k, hk with
  | 0, hk =>
    cases hk
    simp [Addr.add, World.cell?_alloc_new]
  | 1, hk =>
    cases hk
    simp [Addr.add, World.cell?_alloc_new]
theorem news2_one (x y : Int) : ∀ u ∈ [Value.int .i64 x, Value.int .i64 y], u.oneCell' = true := fun u hu => by
  simp at hu
  rcases hu with rfl | rfl <;> rfl
theorem range_snoc2 (Z : Nat → Int) (g : Nat) (x y : Int) : ((List.range (g * 2)).map fun t => Value.int .i64 (Z t)) ++ [.int .i64 x, .int .i64 y] = (List.range ((g + 1) * 2)).map fun t => .int .i64 (if t = g * 2 + 1 then y else if t = g * 2 then x else Z t) := by
  rw [show (g + 1) * 2 = g * 2 + 1 + 1 by omega, List.range_succ, List.range_succ]
  simp
  intro a ha
  rw [if_neg (by omega), if_neg (by omega)]
theorem BoxAt.drew {w : World} {b : Nat} {o : GOp} (h : BoxAt w b o) : BoxAt w.drew b o := h
theorem own_pairs {w : World} {base : Nat} {v : Value} {Z : Nat → Int} (h : w.ownsRow base 42 2 v 4 ((List.range (4 * 2)).map fun t => .int .i64 (Z t))) : ∃ A cap, v = .slice A 4 cap ∧ PairsAt w A Z := by
  rcases h.2 with ⟨rfl, h0⟩ | ⟨b, cap, cur, rfl, hb, hg, hn, hc, hs, hx⟩
  · omega
  · refine ⟨_, cap, rfl, b, rfl, (Array.getElem?_eq_some_iff.1 hg).1, fun t ht => ?_⟩
    have h1 : (cur.toList.take (4 * 2))[t]? = some (.int .i64 (Z t)) := by rw [hx]; simp [ht]
    rw [List.getElem?_take] at h1
    rw [if_pos (by omega)] at h1
    simp [World.cell?, hg]
    simpa using h1
def DnRel (p : Nat → Nat → Bool) (S : Nat → Nat → Nat → Prop) (B b : Nat) (WM : World) (x : Value) (wr : World) : Prop :=
  ∃ (z : Int) (Y : Nat → Int), x = .int .i64 z ∧ -1 ≤ z ∧ z < B ∧ Below b WM wr ∧ wr.rowIs b 42 2 (fun t => .int .i64 (Y t)) ∧ FirstIn p (S (z + 1).toNat) (Y 0) (Y 1)
def gsF (t : Nat) : Int := if t % 2 = 0 then gA (t / 2) else gB (t / 2)
set_option maxRecDepth 100000 in
set_option maxHeartbeats 4000000 in
theorem rBroken_any (A : Option Addr) (n c : Nat) (F : Nat → GOp) (V : Option Addr) (m cv : Nat) (L : Nat → Nat) (X : Nat → Nat → Int) (w : World) (hn : n ≤ 60) (_hcap : n ≤ c) (hA : OpsAt w A n F) (hV : RowsAt w V m L X) (hm : m = 8) (hkr : ∀ i, i < n → 0 ≤ (F i).key ∧ (F i).key ≤ 7) :
    Calls Tryd.prog 15 #[.slice A n c, .slice V m cv] w (RBrokenPost F n L X w) := by
  have HKR := Lib.hid hkr
  have HM := Lib.hid hm
  have HA := Lib.hid hA
  have HV := Lib.hid hV
  clear hA hV hm hkr
  obtain ⟨i0, hi0, hz0, hz1, hz2⟩ := info_parts pair_info
  have HG : Hid ((w.alloc (.cells #[.int .i64 2, .int .i64 1, .int .i64 1, .int .i64 1, .int .i64 2, .int .i64 2, .int .i64 1, .int .i64 2] 42)).rowIs w.heap.size 42 8 (fun i => .int .i64 (gsF i)) ∧
      Below w.heap.size w (w.alloc (.cells #[.int .i64 2, .int .i64 1, .int .i64 1, .int .i64 1, .int .i64 2, .int .i64 2, .int .i64 1, .int .i64 2] 42))) :=
    Lib.hid ⟨World.rowIs_alloc w #[.int .i64 2, .int .i64 1, .int .i64 1, .int .i64 1, .int .i64 2, .int .i64 2, .int .i64 1, .int .i64 2] 42 _ (fun i hi => by
      match i, hi with
      | 0, _ => rfl
      | 1, _ => rfl
      | 2, _ => rfl
      | 3, _ => rfl
      | 4, _ => rfl
      | 5, _ => rfl
      | 6, _ => rfl
      | 7, _ => rfl), (Below.refl _ _).alloc (Nat.le_refl _) _⟩
  go_enter Tryd.func15, Tryd.ntmps15
  go_wp2_with fail
  go_loopw [5, 19] (fun v x wr => ∃ (g : Nat) (Z : Nat → Int), x = .int .i64 g ∧ g ≤ 4 ∧ Below w.heap.size w wr ∧ wr.rowIs w.heap.size 42 8 (fun i => .int .i64 (gsF i)) ∧ wr.ownsRow (w.heap.size + 1) 42 2 v g ((List.range (g * 2)).map fun t => .int .i64 (Z t)) ∧ ∀ g', g' < g → FirstIn (brkR F L X g') (upS n 0) (Z (g' * 2)) (Z (g' * 2 + 1))) (fun _ x _ => 4 - (intOf x).toNat)
  case atStart => exact ⟨0, fun _ => 0, rfl, by omega, HG.out.2, HG.out.1, own_nil _ _ _ _, fun g' h => absurd h (by omega)⟩
  case round =>
    obtain ⟨wo, rfl⟩ : ∃ wo : World, wo = wr := ⟨_, rfl⟩
    obtain ⟨g, Z, rfl, hg, hbw, hrow, hown, hall⟩ := hrel
    have HALL := Lib.hid hall
    have HB := Lib.hid hbw
    have HR := Lib.hid hrow
    have HV5 := Lib.hid hown
    clear hall hbw hrow hown
    by_cases hg4 : g < 4
    · have r1 := HR.out.cell (i := g * 2) (by omega)
      have r2 := HR.out.cell (i := g * 2 + 1) (by omega)
      rw [show gsF (g * 2) = gA g by simp [gsF]] at r1
      rw [show gsF (g * 2 + 1) = gB g by simp [gsF, show (g * 2 + 1) / 2 = g by omega]] at r2
      have HGA := Lib.hid (rfl : gA g = gA g)
      obtain ⟨a0, ha0⟩ : ∃ x, gA g = x := ⟨_, rfl⟩
      obtain ⟨a1, ha1⟩ : ∃ x, gB g = x := ⟨_, rfl⟩
      rw [ha0] at r1
      rw [ha1] at r2
      have HA0 := Lib.hid ha0
      have HA1 := Lib.hid ha1
      have hsz : w.heap.size < wo.heap.size := HR.out.lt
      clear ha0 ha1 HGA
      go_wp2_with fail
      obtain ⟨bg, hbg⟩ : ∃ bg, bg = wo.heap.size := ⟨_, rfl⟩
      rw [← hbg]
      have HWM : Hid (Below w.heap.size w ((wo.alloc (.cells #[.int .i64 a0, .int .i64 a1] 42)).alloc (.cells #[.int .i64 (-1), .int .i64 (-1)] 42)) ∧ ((wo.alloc (.cells #[.int .i64 a0, .int .i64 a1] 42)).alloc (.cells #[.int .i64 (-1), .int .i64 (-1)] 42)).cell? ⟨bg, 0, none⟩ = some (.int .i64 a0) ∧
          ((wo.alloc (.cells #[.int .i64 a0, .int .i64 a1] 42)).alloc (.cells #[.int .i64 (-1), .int .i64 (-1)] 42)).cell? ⟨bg, 1, none⟩ = some (.int .i64 a1) ∧ ((wo.alloc (.cells #[.int .i64 a0, .int .i64 a1] 42)).alloc (.cells #[.int .i64 (-1), .int .i64 (-1)] 42)).rowIs (bg + 1) 42 2 (fun t => .int .i64 ((fun _ => -1 : Nat → Int) t)) ∧
          ((wo.alloc (.cells #[.int .i64 a0, .int .i64 a1] 42)).alloc (.cells #[.int .i64 (-1), .int .i64 (-1)] 42)).rowIs w.heap.size 42 8 (fun i => .int .i64 (gsF i)) ∧
          ((wo.alloc (.cells #[.int .i64 a0, .int .i64 a1] 42)).alloc (.cells #[.int .i64 (-1), .int .i64 (-1)] 42)).ownsRow (w.heap.size + 1) 42 2 u5 g ((List.range (g * 2)).map fun t => .int .i64 (Z t)) ∧ (∀ k, u5.ownBlock = some k → k < bg) ∧ ((wo.alloc (.cells #[.int .i64 a0, .int .i64 a1] 42)).alloc (.cells #[.int .i64 (-1), .int .i64 (-1)] 42)).heap.size = bg + 2) :=
        Lib.hid ⟨(HB.out.alloc HB.out.size _).alloc (by simp; have := HB.out.size; omega) _, by rw [hbg]; simp, by rw [hbg]; simp,
          by
            have := World.rowIs_alloc (wo.alloc (.cells #[.int .i64 a0, .int .i64 a1] 42)) #[.int .i64 (-1), .int .i64 (-1)] 42 (fun t => .int .i64 ((fun _ => -1 : Nat → Int) t)) (fun i hi => by
              match i, hi with
              | 0, _ => rfl
              | 1, _ => rfl)
            simpa [hbg] using this, (HR.out.alloc _).alloc _, (HV5.out.alloc _).alloc _, fun k hk => by rw [hbg]; exact (HV5.out.lt k hk).2, by rw [hbg]; simp⟩
      have hwb : w.heap.size < bg := by omega
      clear hbg r1 r2 hsz
      generalize (wo.alloc (.cells #[.int .i64 a0, .int .i64 a1] 42)).alloc (.cells #[.int .i64 (-1), .int .i64 (-1)] 42) = WM at *
      clear HB HR HV5
      go_loopw [9] (fun x wr => DnRel (brkR F L X g) (fun t => dnS n t 0) n (bg + 1) WM x wr) (fun x _ => (intOf x + 1).toNat)
      case atStart => exact ⟨(n : Int) - 1, _, rfl, by omega, by omega, Below.refl _ _, HWM.out.2.2.2.1, FirstIn.none fun i k h => by unfold dnS at h; omega⟩
      case round =>
        obtain ⟨w3, rfl⟩ : ∃ w3 : World, w3 = wr := ⟨_, rfl⟩
        obtain ⟨z, Y, rfl, hz1', hz2', hbw, hrow, hall⟩ := hrel
        have HALL2 := Lib.hid hall
        have HB := Lib.hid hbw
        have HR := Lib.hid hrow
        clear hall hbw hrow
        by_cases hz0' : 0 ≤ z
        · obtain ⟨k, rfl⟩ : ∃ k : Nat, z = k := ⟨z.toNat, by omega⟩
          have hkn : k < n := by omega
          clear hz1' hz2' hz0'
          go_wp2_with fail
          go_loopw [10] (fun x wr => DnRel (brkR F L X g) (fun t => dnS n k t) k (bg + 1) WM x wr) (fun x _ => (intOf x + 1).toNat)
          case atStart => exact ⟨(k : Int) - 1, Y, rfl, by omega, by omega, HB.out, HR.out, HALL2.out.congr fun i' k' => by unfold dnS; omega⟩
          case round =>
            clear HALL2 HB HR
            obtain ⟨w4, rfl⟩ : ∃ w4 : World, w4 = wr := ⟨_, rfl⟩
            obtain ⟨z, Y, rfl, hz1', hz2', hbw, hrow, hall⟩ := hrel
            have HALL2 := Lib.hid hall
            have HB := Lib.hid hbw
            have HR := Lib.hid hrow
            clear hall hbw hrow
            by_cases hz0' : 0 ≤ z
            · obtain ⟨i, rfl⟩ : ∃ i : Nat, z = i := ⟨z.toNat, by omega⟩
              have hik : i < k := by omega
              clear hz1' hz2' hz0'
              have HBW : Hid (Below w.heap.size w w4) := Lib.hid (HWM.out.1.trans (HB.out.mono (by omega)))
              obtain ⟨b, off, rfl, hb, hc⟩ := (HA.out.below HBW.out) k hkn
              obtain ⟨b2, off2, hAe, hb2, hc2⟩ := (HA.out.below HBW.out) i (by omega)
              injection hAe with hAe
              injection hAe with hAe1 hAe2
              subst hAe1 hAe2
              obtain ⟨o, ho⟩ : ∃ o, F i = o := ⟨_, rfl⟩
              obtain ⟨q, hq⟩ : ∃ q, F k = q := ⟨_, rfl⟩
              have hko := HKR.out i (by omega)
              rw [ho] at hc2 hko
              rw [hq] at hc
              obtain ⟨p0, p1, p2, p3, p4, p5, p6, p7⟩ := hc2
              obtain ⟨q0, q1, q2, q3, q4, q5, q6, q7⟩ := hc
              have hkc : (k : Int) < n := by omega
              have hic : (i : Int) < n := by omega
              have HO := Lib.hid ho
              have HQ := Lib.hid hq
              have HKO := Lib.hid hko
              clear ho hq hko
              go_upto_region 12 with fail
              go_cut [11, 12] (fun p11 p12 W => ∃ wy : World, wy = W ∧ ∃ bo bq, p11 = .pointer (some ⟨bo, 0, none⟩) ∧ p12 = .pointer (some ⟨bq, 0, none⟩) ∧ Below w4.heap.size w4 W ∧ BoxAt W bo o ∧ BoxAt W bq q ∧ w4.heap.size ≤ bo ∧ w4.heap.size ≤ bq ∧ bo < W.heap.size ∧ bq < W.heap.size)
              case first =>
                go_region
                · go_wp2_with fail
                  go_meet
                  refine ⟨_, rfl, w4.heap.size, w4.heap.size + 1, rfl, rfl, ?_, ?_, ?_, ?_, ?_, ?_, ?_⟩
                  · exact (((Below.refl _ _).alloc (Nat.le_refl _) _).alloc (by simp) _).drew
                  · exact BoxAt.drew ((boxAt_new rfl o 95).below ((Below.refl _ _).alloc (Nat.le_refl _) _) (by simp))
                  · exact BoxAt.drew (boxAt_new (by simp) q 95)
                  all_goals (simp [heap_drew]; try omega)
                · go_wp2_with fail
                  go_meet
                  refine ⟨_, rfl, w4.heap.size + 1, w4.heap.size, rfl, rfl, ?_, ?_, ?_, ?_, ?_, ?_, ?_⟩
                  · exact (((Below.refl _ _).alloc (Nat.le_refl _) _).alloc (by simp) _).drew
                  · exact BoxAt.drew (boxAt_new (by simp) o 95)
                  · exact BoxAt.drew ((boxAt_new rfl q 95).below ((Below.refl _ _).alloc (Nat.le_refl _) _) (by simp))
                  all_goals (simp [heap_drew]; try omega)
              case rest =>
                obtain ⟨wx, rfl, bo, bq, rfl, rfl, hbw, hbo, hbq, ho1, hq1, ho2, hq2⟩ := hcut
                clear p0 p1 p2 p3 p4 p5 p6 p7 q0 q1 q2 q3 q4 q5 q6 q7
                obtain ⟨k0, k1, k2, k3, k4, k5, k6, k7⟩ := hbo.regrown
                obtain ⟨l0, l1, l2, l3, l4, l5, l6, l7⟩ := hbq.regrown
                have HB5 : Hid (Below (bg + 1) WM wx) := Lib.hid (HB.out.trans (hbw.mono (Nat.le_of_lt HR.out.lt)))
                have HBW5 : Hid (Below w.heap.size w wx) := Lib.hid (HBW.out.trans (hbw.mono HBW.out.size))
                have HR5 := Lib.hid (rowIs_below HR.out hbw)
                obtain ⟨kn, hk⟩ : ∃ kn : Nat, o.key = (kn : Int) := ⟨o.key.toNat, by have := HKO.out; omega⟩
                have hkm : kn < m := by have := HM.out; have := HKO.out; omega
                have HKN := Lib.hid hk
                obtain ⟨vb, vo, rfl, hvb, hL, A2, c2, hvc, hI⟩ := HV.out kn hkm
                obtain ⟨xo, hxo⟩ : ∃ x, idxF (X kn) (L kn) (valueO o) = x := ⟨_, rfl⟩
                obtain ⟨xq, hxq⟩ : ∃ x, idxF (X kn) (L kn) (valueO q) = x := ⟨_, rfl⟩
                obtain ⟨vq, hvq⟩ : ∃ x, valueO q = x := ⟨_, rfl⟩
                obtain ⟨vv, hvv⟩ : ∃ x, valueO o = x := ⟨_, rfl⟩
                have HVO := Lib.hid (fun W => rvalue_at o kn hk W)
                have HVQ := Lib.hid (fun W => rvalue_any q W)
                have HIO := Lib.hid (fun W (hb : Below w.heap.size w W) => rindex_below A2 (L kn) c2 (X kn) (valueO o) W hL (hI.below hb))
                have HIQ := Lib.hid (fun W (hb : Below w.heap.size w W) => rindex_below A2 (L kn) c2 (X kn) (valueO q) W hL (hI.below hb))
                rw [hxo] at HIO
                rw [hxq] at HIQ
                rw [hvv] at HIO HVO
                rw [hvq] at HIQ HVQ
                rw [hk] at k1
                have HBR : Hid ((o.key == q.key) = true → brkR F L X g i k = (decide (o.kind = a0) && decide (q.kind = a1) && decide (o.proc = q.proc) && decide (o.key = q.key) && decide (xq < xo))) := Lib.hid (fun h => by
                  have hqk : q.key = (kn : Int) := by rw [← hk]; simpa using (show o.key = q.key by simpa using h).symm
                  unfold brkR idxV
                  rw [HO.out, HQ.out, HA0.out, HA1.out, hqk, hk]
                  simp only [Int.toNat_natCast, hxo, hxq])
                have HBN : Hid ((o.key == q.key) = false → brkR F L X g i k = false) := Lib.hid (fun h => by
                  unfold brkR
                  rw [HO.out, HQ.out]
                  simp at h
                  simp [h])
                have HBK : Hid ((decide (o.kind = a0) && decide (q.kind = a1) && decide (o.proc = q.proc) && decide (o.key = q.key) && decide (xq < xo)) = false → brkR F L X g i k = false) := Lib.hid (fun h => by
                  cases e : (o.key == q.key)
                  · exact HBN.out e
                  · rw [HBR.out e]; exact h)
                have kc := cell_regrown ((HBW5.out.cell (p := ⟨vb, vo + kn, none⟩) hvb).trans hvc)
                have kb0 := cell_regrown ((HB5.out.cell (p := ⟨bg, 0, none⟩) (show bg < bg + 1 by omega)).trans HWM.out.2.1)
                have kb1 := cell_regrown ((HB5.out.cell (p := ⟨bg, 1, none⟩) (show bg < bg + 1 by omega)).trans HWM.out.2.2.1)
                have cVO := fun d os => Calls.regrown_of (d := d) (os := os) (HVO.out (Go.Sort.grow (redrawn wx d) os))
                have cVQ := fun d os => Calls.regrown_of (d := d) (os := os) (HVQ.out (Go.Sort.grow (redrawn wx d) os))
                have cIO := fun d os => Calls.regrown_of (d := d) (os := os) (HIO.out (Go.Sort.grow (redrawn wx d) os) (HBW5.out.trans ((below_regrown wx d os).mono HBW5.out.size)))
                have cIQ := fun d os => Calls.regrown_of (d := d) (os := os) (HIQ.out (Go.Sort.grow (redrawn wx d) os) (HBW5.out.trans ((below_regrown wx d os).mono HBW5.out.size)))
                clear hbo hbq hbw hk hxo hxq hvq hvv hL hI hvc hb hb2 HVO HVQ HIO HIQ
                rcases brkR_tree a0 a1 o q xo xq with ⟨d1, hd⟩ | ⟨d1, d2, hd⟩ | ⟨d1, d2, d3, hd⟩ | ⟨d1, d2, d3, d4, hd⟩ | ⟨d1, d2, d3, d4, d5, hd⟩ | ⟨d1, d2, d3, d4, d5, hd⟩
                all_goals
                  have HD := Lib.hid hd
                  clear hd
                  try rw [HKN.out] at d4
                  go_wp2_with fail
                  refine wp_region_quiet_below (by kernel_rfl) (by kernel_rfl) ?_
                  repeat (go_big_quiet_step (first | with_reducible exact cVO _ _ | with_reducible exact cVQ _ _ | with_reducible exact cIO _ _ | with_reducible exact cIQ _ _))
                  refine wpQuiet_nil ?_
                  rintro wq ⟨pq, hpq⟩
                  have HBQ : Hid (Below wx.heap.size wx wq) := Lib.hid (hpq ▸ below_regrown wx pq.d pq.os)
                  clear hpq
                  clear k0 k1 k2 k3 k4 k5 k6 k7 l0 l1 l2 l3 l4 l5 l6 l7 kc kb0 kb1 cVO cVQ cIO cIQ
                  have HB6 : Hid (Below (bg + 1) WM wq) := Lib.hid (HB5.out.trans (HBQ.out.mono (Nat.le_of_lt HR5.out.lt)))
                  have HR6 := Lib.hid (rowIs_below HR5.out HBQ.out)
                  have x0 := HR6.out.cell (i := 0) (by omega)
                  have x1 := HR6.out.cell (i := 1) (by omega)
                  have x2 := HR6.out.frozen 0
                  have x3 := HR6.out.frozen 1
                rotate_left 5
                · have HP : Hid (brkR F L X g i k = true) := Lib.hid (by rw [HBR.out (by rw [HKN.out]; exact d4)]; exact HD.out)
                  go_wp2
                  go_roundw
                  case rel =>
                    refine ⟨(i : Int) - 1, _, rfl, by omega, by omega, (HB6.out.setCell (Nat.le_refl _) _).setCell (Nat.le_refl _) _, (((HR6.out.set 0 _).set 1 _).congr (g := fun t => .int .i64 ((fun t => if t = 0 then (i : Int) else k) t)) fun t ht => ?_), (FirstIn.ahead (S := dnS n k (i + 1)) i k (fun i' k' h => dnS_lt h) HP.out).congr fun i' k' => ?_⟩
                    · match t, ht with
                      | 0, _ => rfl
                      | 1, _ => rfl
                    · rw [show ((i : Int) - 1 + 1).toNat = i by omega]
                      exact dnS_succ hik hkn i' k'
                  case measure => go_light; simp [intOf] <;> omega
                all_goals
                  have HP : Hid (brkR F L X g i k = false) := Lib.hid (HBK.out HD.out)
                  go_wp2
                  go_roundw
                  case rel => exact ⟨(i : Int) - 1, Y, rfl, by omega, by omega, HB6.out, HR6.out, ((HALL2.out.congr (S' := dnS n k (i + 1)) fun i' k' => by rw [show ((i : Int) + 1).toNat = i + 1 by omega]).skip i k HP.out).congr fun i' k' => by rw [show ((i : Int) - 1 + 1).toNat = i by omega]; exact dnS_succ hik hkn i' k'⟩
                  case measure => go_light; simp [intOf] <;> omega
            · obtain rfl : z = -1 := by omega
              go_wp2
              go_roundw
              case rel => exact ⟨(k : Int) - 1, Y, rfl, by omega, by omega, HB.out, HR.out, HALL2.out.congr fun i' k' => by unfold dnS; omega⟩
              case measure => go_light; simp [intOf] <;> omega
        · obtain rfl : z = -1 := by omega
          have y0 := HR.out.cell (i := 0) (by omega)
          have y1 := HR.out.cell (i := 1) (by omega)
          have HOW : Hid (w3.ownsRow (w.heap.size + 1) 42 2 u5 g ((List.range (g * 2)).map fun t => .int .i64 (Z t))) := Lib.hid (own_grown (row := some (bg + 1)) HWM.out.2.2.2.2.2.1 ⟨HB.out.os, HB.out.tape, HB.out.output, HB.out.size, fun k hk hne => HB.out.block k (by
            have := HWM.out.2.2.2.2.2.2.2
            rcases Nat.lt_or_ge k (bg + 1) with h | h
            · exact h
            · exact absurd (by rw [show k = bg + 1 by omega]) hne)⟩ (.inl fun h => by have := HWM.out.2.2.2.2.2.2.1 _ h; omega))
          have HGS : Hid (w3.rowIs w.heap.size 42 8 (fun i => .int .i64 (gsF i))) := Lib.hid (HWM.out.2.2.2.2.1.of_block (HB.out.block _ (by omega)))
          have HBW3 : Hid (Below w.heap.size w w3) := Lib.hid (HWM.out.1.trans (HB.out.mono (by omega)))
          have HSZ : Hid (w.heap.size + 1 ≤ w3.heap.size) := Lib.hid (by have := HR.out.lt; omega)
          have HFI : Hid (FirstIn (brkR F L X g) (upS n 0) (Y 0) (Y 1)) := Lib.hid (HALL2.out.congr dnS_up)
          clear HR HB hz1' hz2' hz0'
          go_wp2_with (at_builtin; refine wpList_append_own _ rfl _ _ 36 rfl (w.heap.size + 1) 42 i0 (.agg #[.int .i64 0, .int .i64 0]) 2 16 Tryd.underlying36 hi0 hz0 hz1 hz2 rfl (by decide) _ _ _ rfl (HOW.out.alloc _) ⟨w3.heap.size, 0, none⟩ 1 1 [.int .i64 (Y 0), .int .i64 (Y 1)] rfl rfl (news2 rfl _ _ _) (news2_one _ _) (by unfold maxLen; omega) (by omega) (by simp; have := HSZ.out; omega) ?_; intro v' w1 hown1 hg1 _; have HV1 := Lib.hid hown1; have HG1 := Lib.hid hg1; clear hown1 hg1)
          go_roundw
          case rel =>
            refine ⟨g + 1, fun t => if t = g * 2 + 1 then Y 1 else if t = g * 2 then Y 0 else Z t, by go_num, by omega, (HBW3.out.alloc HBW3.out.size _).grown HG1.out (by simp; have := HBW3.out.size; omega) (fun k hk => by have := own_ge HOW.out k hk; omega), rowIs_grown (HGS.out.alloc _) HG1.out (fun h => by have := own_ge HOW.out _ h.symm; omega), by rw [← range_snoc2]; exact HV1.out, fun g' hg' => ?_⟩
            show FirstIn _ _ (if g' * 2 = g * 2 + 1 then Y 1 else if g' * 2 = g * 2 then Y 0 else Z (g' * 2)) (if g' * 2 + 1 = g * 2 + 1 then Y 1 else if g' * 2 + 1 = g * 2 then Y 0 else Z (g' * 2 + 1))
            by_cases e : g' = g
            · subst e
              rw [if_neg (by omega), if_pos rfl, if_pos rfl]
              exact HFI.out
            · rw [if_neg (by omega), if_neg (by omega), if_neg (by omega), if_neg (by omega)]
              exact HALL.out g' (by omega)
          case measure => go_light; simp [intOf] <;> omega
    · obtain rfl : g = 4 := by omega
      obtain ⟨R, cR, rfl, hp⟩ := own_pairs HV5.out
      have HP := Lib.hid hp
      clear hp
      go_wp2
      go_ret
      exact ⟨R, cR, Z, rfl, HP.out, fun g hg => HALL.out g hg, HB.out⟩
end Go.Proofs.YtkncomfbedbikaaDoor
