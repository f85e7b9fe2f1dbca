/- testimonylaw.sameInts: two slices that read alike. -/
import Derived.Test.YtkncomfbedbikaaDoorOwn
import Derived.BigQuiet
import Derived.Deep.Light
namespace Go.Proofs.YtkncomfbedbikaaDoor
open Go.RowKit
set_option maxRecDepth 100000 in
set_option maxHeartbeats 4000000 in
theorem sameInts_eq (A B : Option Addr) (n c d : Nat) (f : Nat → Int) (w : World) (hn : n ≤ 1000000000) (hA : IntsAt w A n f) (hB : IntsAt w B n f) :
    Calls Tryd.prog 23 #[.slice A n c, .slice B n d] w fun e w' => e = .returned (.bool true) ∧ Below w.heap.size w w' := by
  have HA := Lib.hid hA
  have HB := Lib.hid hB
  clear hA hB
  go_enter Tryd.func23, Tryd.ntmps23
  have hne : ((n : Int) != n) = false := by simp
  go_wp2_with fail
  go_loopw [5] (fun x wr => ∃ i nd : Nat, x = .int .i64 i ∧ i ≤ n ∧ wr = w.drewN nd) (fun x _ => n - (intOf x).toNat)
  case atStart => exact ⟨0, 0, rfl, by omega, rfl⟩
  case round =>
    clear hne
    obtain ⟨i, nd, rfl, hi, rfl⟩ := hrel
    by_cases hin : i < n
    · obtain ⟨b1, o1, rfl, h1, c1⟩ := HA.out i hin
      obtain ⟨b2, o2, rfl, h2, c2⟩ := HB.out i hin
      have hff : (f i != f i) = false := by simp
      go_wp2_with fail
      go_quiet (fail)
      go_wp2
      go_roundw
      case rel => exact ⟨i + 1, _, by go_num, by omega, rfl⟩
      case measure => go_light; simp [intOf] <;> omega
    · obtain rfl : i = n := by omega
      go_wp2
      go_ret
      exact ⟨rfl, below_drewN (Below.refl _ _) nd⟩
end Go.Proofs.YtkncomfbedbikaaDoor
