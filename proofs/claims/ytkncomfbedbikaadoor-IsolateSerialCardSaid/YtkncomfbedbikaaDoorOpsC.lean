/- event.CheckOps. -/
import Derived.Test.YtkncomfbedbikaaDoorOpsB
import Derived.StillTailTactics
import Derived.Deep.RegionWith
import Derived.Deep.RegionHeld3
import Derived.Deep.RegionLaw
namespace Go.Proofs.YtkncomfbedbikaaDoor
open Go.RowKit
attribute [local go_sem] eq_nil ne_nil nil_eq_nil nil_ne_nil
def opsErrE (F : Nat → GOp) (n : Nat) : Int := if 40 < n then 4 else firstErr (opErrE F) n
theorem errV_ne (e : Int) (h : e ≠ 0) : errV e = .iface 23 (.int .i64 e) := by simp [errV, h]
set_option maxRecDepth 100000 in
set_option maxHeartbeats 1000000 in
theorem CheckOps_any (A : Option Addr) (n c : Nat) (F : Nat → GOp) (w : World) (hn : n ≤ 60) (hcap : n ≤ c) (hA : OpsAt w A n F) :
    Calls Tryd.prog 94 #[.slice A n c] w fun e w' => e = .returned (errV (opsErrE F n)) ∧ Below w.heap.size w w' := by
  have HA := Lib.hid hA
  clear hA
  by_cases h40 : 40 < n
  · have HS : Hid (opsErrE F n = 4) := Lib.hid (by simp [opsErrE, h40])
    go_enter Tryd.func94, Tryd.ntmps94
    go_wp2
    go_ret
    exact ⟨by rw [HS.out]; rfl, Below.refl _ _⟩
  · have HS : Hid (opsErrE F n = firstErr (opErrE F) n) := Lib.hid (by simp [opsErrE, h40])
    go_enter Tryd.func94, Tryd.ntmps94
    go_wp2_with fail
    go_loopw [12] (fun x wr => ∃ j : Nat, x = .int .i64 j ∧ j ≤ n ∧ (∀ t, t < j → opErrE F t = 0) ∧ Below w.heap.size w wr) (fun x _ => n - (intOf x).toNat)
    case atStart => exact ⟨0, rfl, by omega, fun t ht => absurd ht (by omega), Below.refl _ _⟩
    case round =>
      obtain ⟨j, rfl, hj, hall, hbw⟩ := hrel
      have HALL := Lib.hid hall
      clear hall
      have HB := Lib.hid hbw
      clear hbw
      by_cases hlt : j < n
      · have HCK := Lib.hid (fun W (hb : Below w.heap.size w W) => checkOp_any A j c F W (by omega) ((HA.out.below hb).take (by omega)))
        obtain ⟨b, off, rfl, hb, hc⟩ := (HA.out.below HB.out) j hlt
        obtain ⟨g0, g1, g2, g3, g4, g5, g6, g7⟩ := hc
        obtain ⟨q, hq⟩ : ∃ q, F j = q := ⟨_, rfl⟩
        rw [hq] at g0 g1 g2 g3 g4 g5 g6 g7 HCK
        have HF := Lib.hid hq
        clear hq
        have HW : Hid (Below w.heap.size w (wr.alloc (opCells q))) := Lib.hid (HB.out.alloc HB.out.size _)
        have HQ := boxAt_new (w := wr) rfl q 95
        have hjc : j ≤ c := by omega
        go_wp2_with fail
        generalize wr.alloc (.cells #[.int .i64 q.proc, .int .i64 q.key, .int .i64 q.kind, .int .i64 q.a, .int .i64 q.b, .int .i64 q.result, .int .i64 q.call, .int .i64 q.ret] 95) = W at *
        obtain ⟨k0, k1, k2, k3, k4, k5, k6, k7⟩ := HQ
        go_still_tail 4, (by kernel_rfl)
        change wpList _ _ _ _ _ W.drew
        cases hz : opErrE F j == 0
        · have HZ : Hid (opErrE F j ≠ 0) := Lib.hid (by simpa using hz)
          rw [errV_ne _ HZ.out] at HCK
          go_wp2_with (go_at_call 122; refine (HCK.out _ HW.out.drew).mono ?_; rintro e w' ⟨rfl, hb'⟩)
          go_ret
          exact ⟨by rw [HS.out, firstErr_found HALL.out HZ.out hlt, errV_ne _ HZ.out]; rfl, HW.out.drew.trans (hb'.mono HW.out.size)⟩
        · have HZ : Hid (opErrE F j = 0) := Lib.hid (by simpa using hz)
          rw [HZ.out, show errV 0 = .nilIface from rfl] at HCK
          go_wp2_with (go_at_call 122; refine (HCK.out _ HW.out.drew).mono ?_; rintro e w' ⟨rfl, hb'⟩)
          go_roundw
          case rel => exact ⟨j + 1, by go_num, by omega, upto_succ HALL.out HZ.out, HW.out.drew.trans (hb'.mono HW.out.size)⟩
          case measure => go_light; simp [intOf]; omega
      · obtain rfl : j = n := by omega
        go_wp2
        go_ret
        exact ⟨by rw [HS.out, firstErr_none HALL.out]; rfl, HB.out⟩
end Go.Proofs.YtkncomfbedbikaaDoor
