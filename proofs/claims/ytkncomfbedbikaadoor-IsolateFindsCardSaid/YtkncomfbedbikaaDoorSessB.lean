/- Where a value stands in a list of numbers; what an op writes or reads. · Rows of numbers; session.name, session.age. -/
import Derived.Test.YtkncomfbedbikaaDoorCausB
import Derived.Lib.QuietBelow
import Derived.BigQuiet
import Derived.Deep.Light
namespace Go.Proofs.YtkncomfbedbikaaDoor
open Go.RowKit
/-- Where v stands first in f 0, .., f (n - 1); -1: nowhere. -/
def idxF (f : Nat → Int) (n : Nat) (v : Int) : Int := optN (-1) (firstAt (fun t => f t == v) n)
theorem rindex_any (A : Option Addr) (n c : Nat) (f : Nat → Int) (v : Int) (w : World) (hn : n ≤ maxLen) (hA : IntsAt w A n f) :
    Calls Tryd.prog 46 #[.slice A n c, .int .i64 v] w fun e w' => e = .returned (.int .i64 (idxF f n v)) ∧ w = w' := by
  have HA := Lib.hid hA
  clear hA
  have HN : Hid (n ≤ 9223372036854775807) := Lib.hid (by unfold maxLen at hn; omega)
  clear hn
  go_enter Tryd.func46, Tryd.ntmps46
  go_wp2
  go_loop [9] (fun i => ∃ j : Nat, i = .int .i64 j ∧ j ≤ n ∧ ∀ t, t < j → (f t == v) = false) (fun i => n - (intOf i).toNat)
  case atStart => exact ⟨0, rfl, by omega, fun t ht => absurd ht (by omega)⟩
  case round =>
    obtain ⟨j, rfl, hj, hall⟩ := hrel
    have HALL := Lib.hid hall
    clear hall
    by_cases hlt : j < n
    · obtain ⟨b, off, rfl, hb, hc⟩ := HA.out j hlt
      cases hin : f j == v
      · have HIN := Lib.hid hin
        have HB : j + 1 ≤ 9223372036854775807 := by have := HN.out; omega
        go_wp2
        go_round
        case rel => exact ⟨j + 1, by go_num, by omega, upto_succ HALL.out HIN.out⟩
        case measure => simp [intOf]; omega
      · have HIN := Lib.hid hin
        go_wp2
        go_ret
        exact ⟨by unfold idxF; rw [firstAt_found (p := fun i => f i == v) HALL.out HIN.out hlt]; rfl, rfl⟩
    · obtain rfl : j = n := by omega
      go_wp2
      go_ret
      exact ⟨by unfold idxF; rw [firstAt_none (p := fun i => f i == v) HALL.out]; rfl, rfl⟩
theorem Index_any (A : Option Addr) (n c : Nat) (f : Nat → Int) (v : Int) (w : World) (hn : n ≤ maxLen) (hA : IntsAt w A n f) :
    Calls Tryd.prog 95 #[.slice A n c, .int .i64 v] w fun e w' => e = .returned (.int .i64 (idxF f n v)) ∧ w = w' := by
  have HA := Lib.hid hA
  clear hA
  have HN : Hid (n ≤ 9223372036854775807) := Lib.hid (by unfold maxLen at hn; omega)
  clear hn
  go_enter Tryd.func95, Tryd.ntmps95
  go_wp2
  go_loop [8] (fun i => ∃ j : Nat, i = .int .i64 j ∧ j ≤ n ∧ ∀ t, t < j → (f t == v) = false) (fun i => n - (intOf i).toNat)
  case atStart => exact ⟨0, rfl, by omega, fun t ht => absurd ht (by omega)⟩
  case round =>
    obtain ⟨j, rfl, hj, hall⟩ := hrel
    have HALL := Lib.hid hall
    clear hall
    by_cases hlt : j < n
    · obtain ⟨b, off, rfl, hb, hc⟩ := HA.out j hlt
      cases hin : f j == v
      · have HIN := Lib.hid hin
        rw [Bool.beq_comm] at hin
        have HB : j + 1 ≤ 9223372036854775807 := by have := HN.out; omega
        go_wp2
        go_round
        case rel => exact ⟨j + 1, by go_num, by omega, upto_succ HALL.out HIN.out⟩
        case measure => simp [intOf]; omega
      · have HIN := Lib.hid hin
        rw [Bool.beq_comm] at hin
        go_wp2
        go_ret
        exact ⟨by unfold idxF; rw [firstAt_found (p := fun i => f i == v) HALL.out HIN.out hlt]; rfl, rfl⟩
    · obtain rfl : j = n := by omega
      go_wp2
      go_ret
      exact ⟨by unfold idxF; rw [firstAt_none (p := fun i => f i == v) HALL.out]; rfl, rfl⟩
theorem Contains_any (A : Option Addr) (n c : Nat) (f : Nat → Int) (v : Int) (w : World) (hn : n ≤ maxLen) (hA : IntsAt w A n f) :
    Calls Tryd.prog 50 #[.slice A n c, .int .i64 v] w fun e w' => e = .returned (.bool (decide (0 ≤ idxF f n v))) ∧ w = w' := by
  have HI := Lib.hid (Index_any A n c f v w hn hA)
  clear hA hn
  go_enter Tryd.func50, Tryd.ntmps50
  go_wp2_with (go_at_call 95; refine HI.out.mono ?_; rintro e w' ⟨rfl, rfl⟩)
  go_ret
  exact ⟨rfl, rfl⟩
def valueO (o : GOp) : Int := if o.kind = 2 then o.a else o.result
theorem rvalue_any (o : GOp) (w : World) : Calls Tryd.prog 47 #[o.val] w fun e w' => e = .returned (.int .i64 (valueO o)) ∧ Below w.heap.size w w' := by
  unfold valueO
  cases h : (o.kind == 2)
  · have h' : ¬ o.kind = 2 := by simpa using h
    rw [if_neg h']
    clear h'
    go_enter Tryd.func47, Tryd.ntmps47
    go_wp2
    go_ret
    exact ⟨rfl, (Below.refl _ _).alloc (Nat.le_refl _) _⟩
  · have h' : o.kind = 2 := by simpa using h
    rw [if_pos h']
    clear h'
    go_enter Tryd.func47, Tryd.ntmps47
    go_wp2
    go_ret
    exact ⟨rfl, (Below.refl _ _).alloc (Nat.le_refl _) _⟩
theorem svalue_any (o : GOp) (w : World) : Calls Tryd.prog 51 #[o.val] w fun e w' => e = .returned (.int .i64 (valueO o)) ∧ Below w.heap.size w w' := by
  unfold valueO
  cases h : (o.kind == 2)
  · have h' : ¬ o.kind = 2 := by simpa using h
    rw [if_neg h']
    clear h'
    go_enter Tryd.func51, Tryd.ntmps51
    go_wp2
    go_ret
    exact ⟨rfl, (Below.refl _ _).alloc (Nat.le_refl _) _⟩
  · have h' : o.kind = 2 := by simpa using h
    rw [if_pos h']
    clear h'
    go_enter Tryd.func51, Tryd.ntmps51
    go_wp2
    go_ret
    exact ⟨rfl, (Below.refl _ _).alloc (Nat.le_refl _) _⟩
end Go.Proofs.YtkncomfbedbikaaDoor
namespace Go.Proofs.YtkncomfbedbikaaDoor
open Go.RowKit
/-- The slice at A reads as m rows: row i holds X i 0, .., X i (L i - 1). -/
def RowsAt (w : World) (A : Option Addr) (m : Nat) (L : Nat → Nat) (X : Nat → Nat → Int) : Prop :=
  ∀ i, i < m → ∃ b off, A = some ⟨b, off, none⟩ ∧ b < w.heap.size ∧ L i ≤ maxLen ∧ ∃ A2 c2, w.cell? ⟨b, off + i, none⟩ = some (.slice A2 (L i) c2) ∧ IntsAt w A2 (L i) (X i)
theorem RowsAt.below {w w' : World} {A : Option Addr} {m : Nat} {L : Nat → Nat} {X : Nat → Nat → Int} (h : RowsAt w A m L X) (hb : Below w.heap.size w w') : RowsAt w' A m L X := fun i hi => by
  obtain ⟨b, off, rfl, h1, h2, A2, c2, h3, h4⟩ := h i hi
  exact ⟨b, off, rfl, Nat.lt_of_lt_of_le h1 hb.size, h2, A2, c2, (hb.cell (p := ⟨b, off + i, none⟩) h1).trans h3, h4.below hb⟩
theorem Index_below (A : Option Addr) (n c : Nat) (f : Nat → Int) (v : Int) (w : World) (hn : n ≤ maxLen) (hA : IntsAt w A n f) :
    Calls Tryd.prog 95 #[.slice A n c, .int .i64 v] w fun e w' => e = .returned (.int .i64 (idxF f n v)) ∧ Below w.heap.size w w' :=
  (Index_any A n c f v w hn hA).mono fun _ _ ⟨h1, h2⟩ => ⟨h1, h2 ▸ Below.refl _ _⟩
theorem rindex_below (A : Option Addr) (n c : Nat) (f : Nat → Int) (v : Int) (w : World) (hn : n ≤ maxLen) (hA : IntsAt w A n f) :
    Calls Tryd.prog 46 #[.slice A n c, .int .i64 v] w fun e w' => e = .returned (.int .i64 (idxF f n v)) ∧ Below w.heap.size w w' :=
  (rindex_any A n c f v w hn hA).mono fun _ _ ⟨h1, h2⟩ => ⟨h1, h2 ▸ Below.refl _ _⟩
theorem Contains_below (A : Option Addr) (n c : Nat) (f : Nat → Int) (v : Int) (w : World) (hn : n ≤ maxLen) (hA : IntsAt w A n f) :
    Calls Tryd.prog 50 #[.slice A n c, .int .i64 v] w fun e w' => e = .returned (.bool (decide (0 ≤ idxF f n v))) ∧ Below w.heap.size w w' :=
  (Contains_any A n c f v w hn hA).mono fun _ _ ⟨h1, h2⟩ => ⟨h1, h2 ▸ Below.refl _ _⟩
/-- The name of what is broken. -/
def nameF (a b : Int) : Nat := if a = 2 ∧ b = 1 then 0 else if a = 1 ∧ b = 1 then 1 else if a = 2 then 2 else 3
theorem name_tree (a b : Int) : ((a == 2) = true ∧ (b == 1) = true ∧ nameF a b = 0) ∨ ((a == 2) = true ∧ (b == 1) = false ∧ (a == 1) = false ∧ nameF a b = 2) ∨ ((a == 2) = false ∧ (a == 1) = true ∧ (b == 1) = true ∧ nameF a b = 1) ∨
    ((a == 2) = false ∧ (a == 1) = true ∧ (b == 1) = false ∧ nameF a b = 3) ∨ ((a == 2) = false ∧ (a == 1) = false ∧ nameF a b = 3) := by
  unfold nameF
  by_cases h2 : a = 2
  · by_cases hb : b = 1
    · exact .inl ⟨by simp [h2], by simp [hb], by simp [h2, hb]⟩
    · exact .inr (.inl ⟨by simp [h2], by simp [hb], by simp [h2], by simp [h2, hb]⟩)
  · by_cases h1 : a = 1
    · by_cases hb : b = 1
      · exact .inr (.inr (.inl ⟨by simp [h2], by simp [h1], by simp [hb], by simp [h1, hb]⟩))
      · exact .inr (.inr (.inr (.inl ⟨by simp [h2], by simp [h1], by simp [hb], by simp [h1, hb]⟩)))
    · exact .inr (.inr (.inr (.inr ⟨by simp [h2], by simp [h1], by simp [h1, h2]⟩)))
set_option maxRecDepth 100000 in
set_option maxHeartbeats 4000000 in
theorem name_any (o q : GOp) (w : World) : Calls Tryd.prog 48 #[o.val, q.val] w fun e w' => e = .returned (.int .i64 (nameF o.kind q.kind : Nat)) ∧ Below w.heap.size w w' := by
  have hb : Below w.heap.size w ((w.alloc (opCells o)).alloc (opCells q)) := ((Below.refl _ _).alloc (Nat.le_refl _) _).alloc (by simp) _
  have HB := Lib.hid hb
  clear hb
  rcases name_tree o.kind q.kind with ⟨d1, d2, hd⟩ | ⟨d1, d2, d3, hd⟩ | ⟨d1, d2, d3, hd⟩ | ⟨d1, d2, d3, hd⟩ | ⟨d1, d2, hd⟩
  all_goals
    have HD := Lib.hid hd
    clear hd
    go_enter Tryd.func48, Tryd.ntmps48
    go_wp2
    go_ret
    exact ⟨by rw [HD.out]; rfl, HB.out⟩
theorem BoxAt.regrown {W : World} {b : Nat} {o : GOp} (h : BoxAt W b o) :
    (∀ d os, (Go.Sort.grow (redrawn W d) os).cell? ⟨b, 0, none⟩ = some (.int .i64 o.proc)) ∧ (∀ d os, (Go.Sort.grow (redrawn W d) os).cell? ⟨b, 1, none⟩ = some (.int .i64 o.key)) ∧ (∀ d os, (Go.Sort.grow (redrawn W d) os).cell? ⟨b, 2, none⟩ = some (.int .i64 o.kind)) ∧ (∀ d os, (Go.Sort.grow (redrawn W d) os).cell? ⟨b, 3, none⟩ = some (.int .i64 o.a)) ∧
    (∀ d os, (Go.Sort.grow (redrawn W d) os).cell? ⟨b, 4, none⟩ = some (.int .i64 o.b)) ∧ (∀ d os, (Go.Sort.grow (redrawn W d) os).cell? ⟨b, 5, none⟩ = some (.int .i64 o.result)) ∧ (∀ d os, (Go.Sort.grow (redrawn W d) os).cell? ⟨b, 6, none⟩ = some (.int .i64 o.call)) ∧ (∀ d os, (Go.Sort.grow (redrawn W d) os).cell? ⟨b, 7, none⟩ = some (.int .i64 o.ret)) := by
  obtain ⟨h0, h1, h2, h3, h4, h5, h6, h7⟩ := h
  exact ⟨cell_regrown h0, cell_regrown h1, cell_regrown h2, cell_regrown h3, cell_regrown h4, cell_regrown h5, cell_regrown h6, cell_regrown h7⟩
abbrev GOp.valK (o : GOp) (k : Int) : Value := .agg #[.int .i64 o.proc, .int .i64 k, .int .i64 o.kind, .int .i64 o.a, .int .i64 o.b, .int .i64 o.result, .int .i64 o.call, .int .i64 o.ret]
theorem svalue_at (o : GOp) (k : Int) (hk : o.key = k) (w : World) : Calls Tryd.prog 51 #[o.valK k] w fun e w' => e = .returned (.int .i64 (valueO o)) ∧ Below w.heap.size w w' := by
  subst hk
  exact svalue_any o w
theorem rvalue_at (o : GOp) (k : Int) (hk : o.key = k) (w : World) : Calls Tryd.prog 47 #[o.valK k] w fun e w' => e = .returned (.int .i64 (valueO o)) ∧ Below w.heap.size w w' := by
  subst hk
  exact rvalue_any o w
/-- The place of an op's value among its row: -1 of 0. -/
def ageF (L : Nat → Nat) (X : Nat → Nat → Int) (o : GOp) : Int := if valueO o = 0 then -1 else idxF (X o.key.toNat) (L o.key.toNat) (valueO o)
set_option maxRecDepth 100000 in
set_option maxHeartbeats 4000000 in
theorem age_any (o : GOp) (A : Option Addr) (m c : Nat) (L : Nat → Nat) (X : Nat → Nat → Int) (w : World) (_hm : m ≤ 1000) (h0 : 0 ≤ o.key) (h1 : o.key < m) (hA : RowsAt w A m L X) :
    Calls Tryd.prog 49 #[o.val, .slice A m c] w fun e w' => e = .returned (.int .i64 (ageF L X o)) ∧ Below w.heap.size w w' := by
  obtain ⟨kn, hk⟩ : ∃ kn : Nat, o.key = (kn : Int) := ⟨o.key.toNat, by omega⟩
  have hkn : kn < m := by omega
  have hage : ageF L X o = if valueO o = 0 then -1 else idxF (X kn) (L kn) (valueO o) := by unfold ageF; rw [hk]; rfl
  rw [hage]
  have HV := Lib.hid (fun W => svalue_any o W)
  have HVK := Lib.hid (fun W => svalue_at o kn hk W)
  have hb0 : Below w.heap.size w (w.alloc (opCells o)) := (Below.refl _ _).alloc (Nat.le_refl _) _
  have hbox : BoxAt (w.alloc (opCells o)) w.heap.size o := boxAt_new rfl o 95
  obtain ⟨b, off, rfl, hb, hL, A2, c2, hc, hI⟩ := hA kn hkn
  have HC := Lib.hid hc
  have HI := Lib.hid hI
  have HB0 := Lib.hid hb0
  have HX := Lib.hid hbox
  have HK := Lib.hid hk
  clear hage hA h0 h1 hc hI hb0 hbox hk
  cases hv : (valueO o == 0)
  · have hv' : ¬ valueO o = 0 := by simpa using hv
    rw [if_neg hv']
    clear hv'
    generalize valueO o = vo at *
    go_enter Tryd.func49, Tryd.ntmps49
    go_wp2_with fail
    refine (HV.out _).mono ?_
    rintro e w1 ⟨rfl, hb1⟩
    have HB1 : Hid (Below w.heap.size w w1) := Lib.hid (HB0.out.trans (hb1.mono (by simp)))
    obtain ⟨k0, k1, k2, k3, k4, k5, k6, k7⟩ := (HX.out.below hb1 (by simp)).regrown
    rw [HK.out] at k1
    have kc := cell_regrown ((HB1.out.cell (p := ⟨b, off + kn, none⟩) hb).trans HC.out)
    have cV := fun d os => Calls.regrown_of (d := d) (os := os) (HVK.out (Go.Sort.grow (redrawn w1 d) os))
    have cI := fun d os => Calls.regrown_of (d := d) (os := os) (Index_below A2 (L kn) c2 (X kn) vo (Go.Sort.grow (redrawn w1 d) os) hL ((HI.out.below HB1.out).below (below_regrown w1 d os)))
    clear hb1 hL
    go_wp2_with fail
    refine wp_region_quiet_below (by kernel_rfl) (by kernel_rfl) ?_
    repeat (go_big_quiet_step (first | exact cV _ _ | exact cI _ _))
    refine wpQuiet_nil ?_
    rintro wq ⟨pq, hpq⟩
    have HBQ : Hid (Below w1.heap.size w1 wq) := Lib.hid (hpq ▸ below_regrown w1 pq.d pq.os)
    clear hpq
    go_wp2
    go_ret
    exact ⟨rfl, HB1.out.trans (HBQ.out.mono HB1.out.size)⟩
  · have hv' : valueO o = 0 := by simpa using hv
    rw [if_pos hv']
    rw [hv'] at HV
    clear hv hv'
    go_enter Tryd.func49, Tryd.ntmps49
    go_wp2_with (go_at_call 51; refine (HV.out _).mono ?_; rintro e w' ⟨rfl, hb'⟩)
    go_ret
    exact ⟨rfl, HB0.out.trans (hb'.mono (by simp))⟩
end Go.Proofs.YtkncomfbedbikaaDoor
