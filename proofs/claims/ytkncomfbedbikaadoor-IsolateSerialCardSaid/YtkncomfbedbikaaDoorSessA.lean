/- Where a value stands in a list of numbers; what an op writes or reads. -/
import Derived.Test.YtkncomfbedbikaaDoorCausB
namespace Go.Proofs.YtkncomfbedbikaaDoor
open Go.RowKit
/-- Where v stands first in f 0, .., f (n - 1); -1: nowhere. -/
def idxF (f : Nat → Int) (n : Nat) (v : Int) : Int := optN (-1) (firstAt (fun t => f t == v) n)
theorem rindex_any (A : Option Addr) (n c : Nat) (f : Nat → Int) (v : Int) (w : World) (hn : n ≤ maxLen) (hA : IntsAt w A n f) :
    Calls Tryd.prog 46 #[.slice A n c, .int .i64 v] w fun e w' => e = .returned (.int .i64 (idxF f n v)) ∧ w = w' := by
  have HA := Lib.hid hA
  clear hA
  have HN : Hid (n ≤ 9223372036854775807) := Lib.hid (by unfold maxLen at hn; omega)
  clear hn
  go_enter Tryd.func46, Tryd.ntmps46
  go_wp2
  go_loop [9] (fun i => ∃ j : Nat, i = .int .i64 j ∧ j ≤ n ∧ ∀ t, t < j → (f t == v) = false) (fun i => n - (intOf i).toNat)
  case atStart => exact ⟨0, rfl, by omega, fun t ht => absurd ht (by omega)⟩
  case round =>
    obtain ⟨j, rfl, hj, hall⟩ := hrel
    have HALL := Lib.hid hall
    clear hall
    by_cases hlt : j < n
    · obtain ⟨b, off, rfl, hb, hc⟩ := HA.out j hlt
      cases hin : f j == v
      · have HIN := Lib.hid hin
        have HB : j + 1 ≤ 9223372036854775807 := by have := HN.out; omega
        go_wp2
        go_round
        case rel => exact ⟨j + 1, by go_num, by omega, upto_succ HALL.out HIN.out⟩
        case measure => simp [intOf]; omega
      · have HIN := Lib.hid hin
        go_wp2
        go_ret
        exact ⟨by unfold idxF; rw [firstAt_found (p := fun i => f i == v) HALL.out HIN.out hlt]; rfl, rfl⟩
    · obtain rfl : j = n := by omega
      go_wp2
      go_ret
      exact ⟨by unfold idxF; rw [firstAt_none (p := fun i => f i == v) HALL.out]; rfl, rfl⟩
theorem Index_any (A : Option Addr) (n c : Nat) (f : Nat → Int) (v : Int) (w : World) (hn : n ≤ maxLen) (hA : IntsAt w A n f) :
    Calls Tryd.prog 95 #[.slice A n c, .int .i64 v] w fun e w' => e = .returned (.int .i64 (idxF f n v)) ∧ w = w' := by
  have HA := Lib.hid hA
  clear hA
  have HN : Hid (n ≤ 9223372036854775807) := Lib.hid (by unfold maxLen at hn; omega)
  clear hn
  go_enter Tryd.func95, Tryd.ntmps95
  go_wp2
  go_loop [8] (fun i => ∃ j : Nat, i = .int .i64 j ∧ j ≤ n ∧ ∀ t, t < j → (f t == v) = false) (fun i => n - (intOf i).toNat)
  case atStart => exact ⟨0, rfl, by omega, fun t ht => absurd ht (by omega)⟩
  case round =>
    obtain ⟨j, rfl, hj, hall⟩ := hrel
    have HALL := Lib.hid hall
    clear hall
    by_cases hlt : j < n
    · obtain ⟨b, off, rfl, hb, hc⟩ := HA.out j hlt
      cases hin : f j == v
      · have HIN := Lib.hid hin
        rw [Bool.beq_comm] at hin
        have HB : j + 1 ≤ 9223372036854775807 := by have := HN.out; omega
        go_wp2
        go_round
        case rel => exact ⟨j + 1, by go_num, by omega, upto_succ HALL.out HIN.out⟩
        case measure => simp [intOf]; omega
      · have HIN := Lib.hid hin
        rw [Bool.beq_comm] at hin
        go_wp2
        go_ret
        exact ⟨by unfold idxF; rw [firstAt_found (p := fun i => f i == v) HALL.out HIN.out hlt]; rfl, rfl⟩
    · obtain rfl : j = n := by omega
      go_wp2
      go_ret
      exact ⟨by unfold idxF; rw [firstAt_none (p := fun i => f i == v) HALL.out]; rfl, rfl⟩
theorem Contains_any (A : Option Addr) (n c : Nat) (f : Nat → Int) (v : Int) (w : World) (hn : n ≤ maxLen) (hA : IntsAt w A n f) :
    Calls Tryd.prog 50 #[.slice A n c, .int .i64 v] w fun e w' => e = .returned (.bool (decide (0 ≤ idxF f n v))) ∧ w = w' := by
  have HI := Lib.hid (Index_any A n c f v w hn hA)
  clear hA hn
  go_enter Tryd.func50, Tryd.ntmps50
  go_wp2_with (go_at_call 95; refine HI.out.mono ?_; rintro e w' ⟨rfl, rfl⟩)
  go_ret
  exact ⟨rfl, rfl⟩
def valueO (o : GOp) : Int := if o.kind = 2 then o.a else o.result
theorem rvalue_any (o : GOp) (w : World) : Calls Tryd.prog 47 #[o.val] w fun e w' => e = .returned (.int .i64 (valueO o)) ∧ Below w.heap.size w w' := by
  unfold valueO
  cases h : (o.kind == 2)
  · have h' : ¬ o.kind = 2 := by simpa using h
    rw [if_neg h']
    clear h'
    go_enter Tryd.func47, Tryd.ntmps47
    go_wp2
    go_ret
    exact ⟨rfl, (Below.refl _ _).alloc (Nat.le_refl _) _⟩
  · have h' : o.kind = 2 := by simpa using h
    rw [if_pos h']
    clear h'
    go_enter Tryd.func47, Tryd.ntmps47
    go_wp2
    go_ret
    exact ⟨rfl, (Below.refl _ _).alloc (Nat.le_refl _) _⟩
theorem svalue_any (o : GOp) (w : World) : Calls Tryd.prog 51 #[o.val] w fun e w' => e = .returned (.int .i64 (valueO o)) ∧ Below w.heap.size w w' := by
  unfold valueO
  cases h : (o.kind == 2)
  · have h' : ¬ o.kind = 2 := by simpa using h
    rw [if_neg h']
    clear h'
    go_enter Tryd.func51, Tryd.ntmps51
    go_wp2
    go_ret
    exact ⟨rfl, (Below.refl _ _).alloc (Nat.le_refl _) _⟩
  · have h' : o.kind = 2 := by simpa using h
    rw [if_pos h']
    clear h'
    go_enter Tryd.func51, Tryd.ntmps51
    go_wp2
    go_ret
    exact ⟨rfl, (Below.refl _ _).alloc (Nat.le_refl _) _⟩
end Go.Proofs.YtkncomfbedbikaaDoor
