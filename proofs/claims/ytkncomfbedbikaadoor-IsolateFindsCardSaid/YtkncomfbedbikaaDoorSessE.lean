/- session.Broken: of each of the four things the first two ops by which it is broken. -/
import Derived.Test.YtkncomfbedbikaaDoorSessC
namespace Go.Proofs.YtkncomfbedbikaaDoor
open Go.RowKit
attribute [local go_sem] eq_nil ne_nil nil_eq_nil nil_ne_nil
/-- The pairs i < k that come ahead of (I, K). -/
def upS (K I : Nat) (i k : Nat) : Prop := i < k ∧ (k < K ∨ (k = K ∧ i < I))
def AllFirst (F : Nat → GOp) (L : Nat → Nat) (X : Nat → Nat → Int) (S : Nat → Nat → Prop) (Z : Nat → Int) : Prop := ∀ g, g < 4 → FirstIn (brkS F L X g) S (Z (g * 2)) (Z (g * 2 + 1))
theorem upS_succ {K I : Nat} (h : I < K) (i k : Nat) : (upS K I i k ∨ (i = I ∧ k = K)) ↔ upS K (I + 1) i k := by unfold upS; omega
theorem upS_next {K : Nat} (i k : Nat) : upS K K i k ↔ upS (K + 1) 0 i k := by unfold upS; omega
theorem upS_lt {K I i k : Nat} (h : upS K I i k) : k < K ∨ (k = K ∧ i < I) := h.2
theorem nameF_lt (a b : Int) : nameF a b < 4 := by unfold nameF; split <;> (try split) <;> (try split) <;> omega
section
variable {F : Nat → GOp} {L : Nat → Nat} {X : Nat → Nat → Int} {Z : Nat → Int} {K I : Nat}
theorem AllFirst.keep (h : AllFirst F L X (upS K I) Z) (hI : I < K) (hp : brkB L X (F I) (F K) = false ∨ 0 ≤ Z (nameF (F I).kind (F K).kind * 2)) : AllFirst F L X (upS K (I + 1)) Z := fun g hg => by
  by_cases e : nameF (F I).kind (F K).kind = g
  · rcases hp with hp | hp
    · exact ((h g hg).skip I K (by simp [brkS, hp])).congr (upS_succ hI)
    · exact ((h g hg).behind I K (fun _ _ h' => upS_lt h') (by rw [← e]; exact hp)).congr (upS_succ hI)
  · exact ((h g hg).skip I K (by simp [brkS, e])).congr (upS_succ hI)
theorem AllFirst.set (h : AllFirst F L X (upS K I) Z) (hI : I < K) {g : Nat} (hg : nameF (F I).kind (F K).kind = g) (hp : brkB L X (F I) (F K) = true) (hx : Z (g * 2) < 0) :
    AllFirst F L X (upS K (I + 1)) (fun t => if t = g * 2 + 1 then (K : Int) else if t = g * 2 then (I : Int) else Z t) := fun g' hg' => by
  by_cases e : g' = g
  · subst e
    show FirstIn _ _ (if g' * 2 = g' * 2 + 1 then (K : Int) else if g' * 2 = g' * 2 then (I : Int) else Z (g' * 2)) (if g' * 2 + 1 = g' * 2 + 1 then (K : Int) else if g' * 2 + 1 = g' * 2 then (I : Int) else Z (g' * 2 + 1))
    rw [if_neg (by omega), if_pos rfl, if_pos rfl]
    exact ((h g' hg').found I K hx (by simp [brkS, hp, hg])).congr (upS_succ hI)
  · show FirstIn _ _ (if g' * 2 = g * 2 + 1 then (K : Int) else if g' * 2 = g * 2 then (I : Int) else Z (g' * 2)) (if g' * 2 + 1 = g * 2 + 1 then (K : Int) else if g' * 2 + 1 = g * 2 then (I : Int) else Z (g' * 2 + 1))
    rw [if_neg (by omega), if_neg (by omega), if_neg (by omega), if_neg (by omega)]
    exact ((h g' hg').skip I K (by simp [brkS, hg]; intro h'; exact absurd h'.symm e)).congr (upS_succ hI)
theorem AllFirst.next (h : AllFirst F L X (upS K K) Z) : AllFirst F L X (upS (K + 1) 0) Z := fun g hg => (h g hg).congr upS_next
end
theorem sess_m {F : Nat → GOp} {n m : Nat} {L : Nat → Nat} {X : Nat → Nat → Int} (h : sessErr 0 F n m L X = 0) : m = 8 := by
  unfold sessErr at h
  split at h
  · omega
  · split at h
    · omega
    · omega
theorem sess_zero {ce : Int} {F : Nat → GOp} {n m : Nat} {L : Nat → Nat} {X : Nat → Nat → Int} (h : sessErr ce F n m L X = 0) : ce = 0 := by
  unfold sessErr at h
  split at h
  · omega
  · omega
/-- The slice at A reads as the four pairs Z 0, Z 1; Z 2, Z 3; .. -/
def PairsAt (w : World) (A : Option Addr) (Z : Nat → Int) : Prop := ∃ b, A = some ⟨b, 0, none⟩ ∧ b < w.heap.size ∧ ∀ t, t < 8 → w.cell? ⟨b, t, none⟩ = some (.int .i64 (Z t))
theorem PairsAt.below {w w' : World} {A : Option Addr} {Z : Nat → Int} (h : PairsAt w A Z) (hb : Below w.heap.size w w') : PairsAt w' A Z := by
  obtain ⟨b, rfl, h1, h2⟩ := h
  exact ⟨b, rfl, Nat.lt_of_lt_of_le h1 hb.size, fun t ht => (hb.cell (p := ⟨b, t, none⟩) h1).trans (h2 t ht)⟩
theorem pairs_row {w : World} {b : Nat} {ty : TypeId} {Z : Nat → Int} (h : w.rowIs b ty 8 (fun t => .int .i64 (Z t))) : PairsAt w (some ⟨b, 0, none⟩) Z := ⟨b, rfl, h.lt, fun _ ht => h.cell ht⟩
theorem brk_tree (o q : GOp) (a1 a2 z : Int) :
    ((o.proc == q.proc) = false) ∨ ((o.proc == q.proc) = true ∧ (o.key == q.key) = false) ∨ ((o.proc == q.proc) = true ∧ (o.key == q.key) = true ∧ decide (a2 < a1) = false) ∨
    ((o.proc == q.proc) = true ∧ (o.key == q.key) = true ∧ decide (a2 < a1) = true ∧ decide (z < 0) = false) ∨ ((o.proc == q.proc) = true ∧ (o.key == q.key) = true ∧ decide (a2 < a1) = true ∧ decide (z < 0) = true) := by
  cases (o.proc == q.proc) <;> cases (o.key == q.key) <;> cases decide (a2 < a1) <;> cases decide (z < 0) <;> simp
theorem BoxAt.setOther' {w : World} {b : Nat} {o : GOp} (h : BoxAt w b o) {p : Addr} (hne : p.block ≠ b) (v : Value) : BoxAt (w.setCell p v) b o := by
  have e : ∀ k, (w.setCell p v).cell? ⟨b, k, none⟩ = w.cell? ⟨b, k, none⟩ := fun k => World.cell?_of_block (w := w) (heap_setCell_other _ _ _ _ (fun h => hne h.symm))
  obtain ⟨h0, h1, h2, h3, h4, h5, h6, h7⟩ := h
  exact ⟨(e _).trans h0, (e _).trans h1, (e _).trans h2, (e _).trans h3, (e _).trans h4, (e _).trans h5, (e _).trans h6, (e _).trans h7⟩
def BrokenPost (F : Nat → GOp) (n : Nat) (L : Nat → Nat) (X : Nat → Nat → Int) (w : World) (e : Ending) (w' : World) : Prop :=
  ∃ R cR Z, e = .returned (.tuple #[.slice R 4 cR, .nilIface]) ∧ PairsAt w' R Z ∧ AllFirst F L X (upS n 0) Z ∧ Below w.heap.size w w'
set_option maxRecDepth 100000 in
set_option maxHeartbeats 4000000 in
theorem sBroken_err (A : Option Addr) (n c : Nat) (F : Nat → GOp) (V : Option Addr) (m cv : Nat) (L : Nat → Nat) (X : Nat → Nat → Int) (w : World) (hn : n ≤ 60) (hcap : n ≤ c) (hA : OpsAt w A n F) (hV : RowsAt w V m L X) (hz : sessErr (causalErrE F n) F n m L X ≠ 0) :
    Calls Tryd.prog 16 #[.slice A n c, .slice V m cv] w fun e w' => e = .returned (.tuple #[.slice none 0 0, errV (sessErr (causalErrE F n) F n m L X)]) ∧ Below w.heap.size w w' := by
  have HCK := Lib.hid (sCheck_any A n c F V m cv L X w hn hcap hA hV)
  rw [errV_ne _ hz] at HCK ⊢
  clear hA hV hz
  generalize sessErr (causalErrE F n) F n m L X = E at *
  go_enter Tryd.func16, Tryd.ntmps16
  go_wp2_with (go_at_call 17; refine HCK.out.mono ?_; rintro e w' ⟨rfl, hb'⟩)
  go_ret2
  exact ⟨rfl, hb'⟩
set_option maxRecDepth 100000 in
set_option maxHeartbeats 4000000 in
theorem sBroken_any (A : Option Addr) (n c : Nat) (F : Nat → GOp) (V : Option Addr) (m cv : Nat) (L : Nat → Nat) (X : Nat → Nat → Int) (w : World) (hn : n ≤ 60) (hcap : n ≤ c) (hA : OpsAt w A n F) (hV : RowsAt w V m L X) (hz : sessErr (causalErrE F n) F n m L X = 0) :
    Calls Tryd.prog 16 #[.slice A n c, .slice V m cv] w (BrokenPost F n L X w) := by
  have HCK := Lib.hid (sCheck_any A n c F V m cv L X w hn hcap hA hV)
  have hc0 := sess_zero hz
  have HKR := Lib.hid (fun i (hi : i < n) => key_range hc0 hi)
  rw [hc0] at hz
  have HM := Lib.hid (sess_m hz)
  rw [hc0, hz, show errV 0 = .nilIface from rfl] at HCK
  have HA := Lib.hid hA
  have HV := Lib.hid hV
  clear hA hV hz hc0
  go_enter Tryd.func16, Tryd.ntmps16
  go_wp2_with (go_at_call 17; refine HCK.out.mono ?_; rintro e w' ⟨rfl, hb'⟩; have HB' := Lib.hid hb'; clear hb')
  obtain ⟨gm, hgm⟩ : ∃ gm, gm = w'.heap.size := ⟨_, rfl⟩
  rw [← hgm]
  have HG : Hid (w.heap.size ≤ gm ∧ (w'.alloc (.cells #[.int .i64 (-1), .int .i64 (-1), .int .i64 (-1), .int .i64 (-1), .int .i64 (-1), .int .i64 (-1), .int .i64 (-1), .int .i64 (-1)] 42)).rowIs gm 42 8 (fun i => .int .i64 ((fun _ => -1 : Nat → Int) i)) ∧
      Below w.heap.size w (w'.alloc (.cells #[.int .i64 (-1), .int .i64 (-1), .int .i64 (-1), .int .i64 (-1), .int .i64 (-1), .int .i64 (-1), .int .i64 (-1), .int .i64 (-1)] 42))) :=
    Lib.hid ⟨by rw [hgm]; exact HB'.out.size, by rw [hgm]; exact World.rowIs_alloc w' #[.int .i64 (-1), .int .i64 (-1), .int .i64 (-1), .int .i64 (-1), .int .i64 (-1), .int .i64 (-1), .int .i64 (-1), .int .i64 (-1)] 42 _ (fun i hi => by
      match i, hi with
      | 0, _ => rfl
      | 1, _ => rfl
      | 2, _ => rfl
      | 3, _ => rfl
      | 4, _ => rfl
      | 5, _ => rfl
      | 6, _ => rfl
      | 7, _ => rfl), HB'.out.alloc HB'.out.size _⟩
  clear hgm
  go_loopw [26] (fun x wr => ∃ (k : Nat) (Z : Nat → Int), x = .int .i64 k ∧ k ≤ n ∧ Below w.heap.size w wr ∧ wr.rowIs gm 42 8 (fun i => .int .i64 (Z i)) ∧ AllFirst F L X (upS k 0) Z) (fun x _ => n - (intOf x).toNat)
  case atStart => exact ⟨0, _, rfl, by omega, HG.out.2.2, HG.out.2.1, fun g _ => FirstIn.none fun i k h => by have := upS_lt h; omega⟩
  case round =>
    obtain ⟨wo, rfl⟩ : ∃ wo : World, wo = wr := ⟨_, rfl⟩
    obtain ⟨k, Z, rfl, hk, hbw, hrow, hall⟩ := hrel
    have HALL := Lib.hid hall
    have HB := Lib.hid hbw
    have HR := Lib.hid hrow
    have hgl := hrow.lt
    clear hall hbw hrow
    by_cases hkn : k < n
    · obtain ⟨b, off, rfl, hb, hc⟩ := (HA.out.below HB.out) k hkn
      obtain ⟨g0, g1, g2, g3, g4, g5, g6, g7⟩ := hc
      obtain ⟨q, hq⟩ : ∃ q, F k = q := ⟨_, rfl⟩
      have hkq := HKR.out k hkn
      rw [hq] at g0 g1 g2 g3 g4 g5 g6 g7 hkq
      have HQ := Lib.hid hq
      have HKQ := Lib.hid hkq
      clear hq hkq
      have HX0 : Hid (Below w.heap.size w (wo.alloc (opCells q)) ∧ BoxAt (wo.alloc (opCells q)) wo.heap.size q ∧ (wo.alloc (opCells q)).rowIs gm 42 8 (fun i => .int .i64 (Z i))) := Lib.hid ⟨HB.out.alloc HB.out.size _, boxAt_new rfl q 95, HR.out.alloc _⟩
      obtain ⟨bq, hbq⟩ : ∃ bq, bq = wo.heap.size := ⟨_, rfl⟩
      have HQG : Hid (w.heap.size ≤ bq ∧ bq ≠ gm ∧ bq < (wo.alloc (opCells q)).heap.size) := Lib.hid ⟨by rw [hbq]; exact HB.out.size, by omega, by simp [hbq]⟩
      have hkc : k ≤ c := by omega
      rw [← hbq] at HX0
      go_wp2_with fail
      rw [← hbq]
      clear hbq g0 g1 g2 g3 g4 g5 g6 g7
      go_loopw [35] (fun x wr => ∃ (i : Nat) (Z : Nat → Int), x = .int .i64 i ∧ i ≤ k ∧ Below w.heap.size w wr ∧ BoxAt wr bq q ∧ bq < wr.heap.size ∧ wr.rowIs gm 42 8 (fun i => .int .i64 (Z i)) ∧ AllFirst F L X (upS k i) Z) (fun x _ => k - (intOf x).toNat)
      case atStart => exact ⟨0, Z, rfl, by omega, HX0.out.1, HX0.out.2.1, HQG.out.2.2, HX0.out.2.2, HALL.out⟩
      case round =>
        clear HX0 HALL HR
        obtain ⟨i, Z, rfl, hi, hbw, hbx, hbl, hrow, hall⟩ := hrel
        have HALL := Lib.hid hall
        have HB2 := Lib.hid hbw
        have HR := Lib.hid hrow
        have HXQ := Lib.hid hbx
        have hgl2 := hrow.lt
        clear hall hbw hrow
        by_cases hik : i < k
        · obtain ⟨b2, off2, hAe, hb2, hc2⟩ := (HA.out.below HB2.out) i (by omega)
          injection hAe with hAe
          injection hAe with hAe1 hAe2
          subst hAe1 hAe2
          obtain ⟨p0, p1, p2, p3, p4, p5, p6, p7⟩ := hc2
          obtain ⟨o, ho⟩ : ∃ o, F i = o := ⟨_, rfl⟩
          have hko := HKR.out i (by omega)
          rw [ho] at p0 p1 p2 p3 p4 p5 p6 p7 hko
          obtain ⟨y0, y1, y2, y3, y4, y5, y6, y7⟩ := hbx
          obtain ⟨g, hg⟩ : ∃ g, nameF o.kind q.kind = g := ⟨_, rfl⟩
          obtain ⟨ao, hao⟩ : ∃ x, ageF L X o = x := ⟨_, rfl⟩
          obtain ⟨aq, haq⟩ : ∃ x, ageF L X q = x := ⟨_, rfl⟩
          have hg4 : g < 4 := by rw [← hg]; exact nameF_lt _ _
          have HNM := Lib.hid (fun W => name_any o q W)
          have HAO := Lib.hid (fun W (hb : Below w.heap.size w W) => age_any o V m cv L X W (by rw [HM.out]; omega) hko.1 (by rw [HM.out]; omega) (HV.out.below hb))
          have HAQ := Lib.hid (fun W (hb : Below w.heap.size w W) => age_any q V m cv L X W (by rw [HM.out]; omega) HKQ.out.1 (by rw [HM.out]; have := HKQ.out.2; omega) (HV.out.below hb))
          rw [hg] at HNM
          rw [hao] at HAO
          rw [haq] at HAQ
          have HBRK : Hid (brkB L X o q = (decide (o.proc = q.proc) && decide (o.key = q.key) && decide (aq < ao))) := Lib.hid (by unfold brkB; rw [hao, haq])
          have HO := Lib.hid ho
          have HGG := Lib.hid hg
          have HW : Hid (Below w.heap.size w (wr.alloc (opCells o)) ∧ BoxAt (wr.alloc (opCells o)) wr.heap.size o ∧ BoxAt (wr.alloc (opCells o)) bq q ∧ (wr.alloc (opCells o)).rowIs gm 42 8 (fun i => .int .i64 (Z i)) ∧ wr.heap.size < (wr.alloc (opCells o)).heap.size ∧ bq < (wr.alloc (opCells o)).heap.size) :=
            Lib.hid ⟨HB2.out.alloc HB2.out.size _, boxAt_new rfl o 95, HXQ.out.below ((Below.refl wr.heap.size wr).alloc (Nat.le_refl _) _) hbl, HR.out.alloc _, by simp, by simp; omega⟩
          obtain ⟨bo, hbo⟩ : ∃ bo, bo = wr.heap.size := ⟨_, rfl⟩
          have HBO : Hid (w.heap.size ≤ bo ∧ bo ≠ gm) := Lib.hid ⟨by rw [hbo]; exact HB2.out.size, by omega⟩
          rw [← hbo] at HW
          clear ho hao haq hg hko
          go_wp2_with fail
          rw [← hbo]
          clear hbo p0 p1 p2 p3 p4 p5 p6 p7 y0 y1 y2 y3 y4 y5 y6 y7 hbl hgl hgl2
          generalize wr.alloc (.cells #[.int .i64 o.proc, .int .i64 o.key, .int .i64 o.kind, .int .i64 o.a, .int .i64 o.b, .int .i64 o.result, .int .i64 o.call, .int .i64 o.ret] 95) = W at *
          refine (HNM.out W).mono ?_
          rintro e w2 ⟨rfl, hb2⟩
          have HW2 : Hid (Below w.heap.size w w2 ∧ BoxAt w2 bo o ∧ BoxAt w2 bq q ∧ w2.rowIs gm 42 8 (fun i => .int .i64 (Z i)) ∧ bo < w2.heap.size ∧ bq < w2.heap.size) :=
            Lib.hid ⟨HW.out.1.trans (hb2.mono HW.out.1.size), HW.out.2.1.below hb2 HW.out.2.2.2.2.1, HW.out.2.2.1.below hb2 HW.out.2.2.2.2.2, rowIs_below HW.out.2.2.2.1 hb2, Nat.lt_of_lt_of_le HW.out.2.2.2.2.1 hb2.size, Nat.lt_of_lt_of_le HW.out.2.2.2.2.2 hb2.size⟩
          clear hb2 HW
          obtain ⟨k0, k1, k2, k3, k4, k5, k6, k7⟩ := HW2.out.2.1.regrown
          obtain ⟨l0, l1, l2, l3, l4, l5, l6, l7⟩ := HW2.out.2.2.1.regrown
          have cO := fun d os => Calls.regrown_of (d := d) (os := os) (HAO.out (Go.Sort.grow (redrawn w2 d) os) (HW2.out.1.trans ((below_regrown w2 d os).mono HW2.out.1.size)))
          have cQ := fun d os => Calls.regrown_of (d := d) (os := os) (HAQ.out (Go.Sort.grow (redrawn w2 d) os) (HW2.out.1.trans ((below_regrown w2 d os).mono HW2.out.1.size)))
          have kz := cell_regrown (HW2.out.2.2.2.1.cell (i := g * 2) (by omega))
          obtain ⟨z, hz⟩ : ∃ z, Z (g * 2) = z := ⟨_, rfl⟩
          rw [hz] at kz
          have HZ := Lib.hid hz
          clear hz
          rcases brk_tree o q ao aq z with d1 | ⟨d1, d2⟩ | ⟨d1, d2, d3⟩ | ⟨d1, d2, d3, d4⟩ | ⟨d1, d2, d3, d4⟩
          all_goals
            go_wp2_with fail
            refine wp_region_quiet_below (by kernel_rfl) (by kernel_rfl) ?_
            repeat (go_big_quiet_step (first | with_reducible exact cQ _ _ | with_reducible exact cO _ _))
            refine wpQuiet_nil ?_
            rintro wq ⟨pq, hpq⟩
            have HBQ : Hid (Below w2.heap.size w2 wq) := Lib.hid (hpq ▸ below_regrown w2 pq.d pq.os)
            clear hpq
            clear k0 k1 k2 k3 k4 k5 k6 k7 l0 l1 l2 l3 l4 l5 l6 l7 cO cQ kz
            have HB3 : Hid (Below w.heap.size w wq) := Lib.hid (HW2.out.1.trans (HBQ.out.mono HW2.out.1.size))
            have HXQ3 := Lib.hid (HW2.out.2.2.1.below HBQ.out HW2.out.2.2.2.2.2)
            have HR3 := Lib.hid (rowIs_below HW2.out.2.2.2.1 HBQ.out)
            have hbl3 : bq < wq.heap.size := Nat.lt_of_lt_of_le HW2.out.2.2.2.2.2 HBQ.out.size
            have c1 := HR3.out.cell (i := g * 2) (by omega)
            have c2 := HR3.out.cell (i := g * 2 + 1) (by omega)
            have c3 := HR3.out.frozen (g * 2)
            have c4 := HR3.out.frozen (g * 2 + 1)
          rotate_left 4
          · have HP : Hid (brkB L X (F i) (F k) = true) := Lib.hid (by rw [HO.out, HQ.out, HBRK.out]; simp at d1 d2 d3; simp [d1, d2, d3])
            have HX : Hid (Z (g * 2) < 0) := Lib.hid (by rw [HZ.out]; simpa using d4)
            have HGF : Hid (nameF (F i).kind (F k).kind = g) := Lib.hid (by rw [HO.out, HQ.out]; exact HGG.out)
            go_wp2
            go_roundw
            case rel =>
              refine ⟨i + 1, _, by go_num, by omega, ((HB3.out.setCell HG.out.1 _).setCell HG.out.1 _), ((HXQ3.out.setOther' (fun h => HQG.out.2.1 h.symm) _).setOther' (fun h => HQG.out.2.1 h.symm) _), by simp [World.setCell]; exact hbl3, (((HR3.out.set (g * 2) _).set (g * 2 + 1) _).congr fun t _ => ?_), HALL.out.set hik HGF.out HP.out HX.out⟩
              by_cases e1 : t = g * 2 + 1
              · simp [e1]
              · by_cases e2 : t = g * 2
                · simp [e2]
                · simp [e1, e2]
            case measure => go_light; simp [intOf]; omega
          all_goals
            have HP : Hid (brkB L X (F i) (F k) = false ∨ 0 ≤ Z (nameF (F i).kind (F k).kind * 2)) := Lib.hid (by
              rw [HO.out, HQ.out, HBRK.out, HGG.out, HZ.out]
              simp_all <;> omega)
            go_wp2
            go_roundw
            case rel => exact ⟨i + 1, Z, by go_num, by omega, HB3.out, HXQ3.out, hbl3, HR3.out, HALL.out.keep hik HP.out⟩
            case measure => go_light; simp [intOf]; omega
        · obtain rfl : i = k := by omega
          go_wp2
          go_roundw
          case rel => exact ⟨i + 1, Z, by go_num, by omega, HB2.out, HR.out, HALL.out.next⟩
          case measure => go_light; simp [intOf]; omega
    · obtain rfl : k = n := by omega
      go_wp2
      go_ret2
      exact ⟨_, _, Z, rfl, pairs_row HR.out, HALL.out, HB.out⟩
end Go.Proofs.YtkncomfbedbikaaDoor
