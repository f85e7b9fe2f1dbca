/- The law CausalFinds: its walk. -/
import Derived.Test.YtkncomfbedbikaaDoorCausP
import Derived.Test.YtkncomfbedbikaaDoorErrWalk
namespace Go.Proofs.YtkncomfbedbikaaDoor
open Go.RowKit
theorem errIs_errV (w : World) (e : Int) : ErrIs w (errV e) e (-1) := by
  unfold errV
  split
  · rename_i h; exact .inl ⟨rfl, h, rfl⟩
  · exact .inr (.inl ⟨rfl, rfl⟩)
set_option maxRecDepth 100000 in
set_option maxHeartbeats 4000000 in
theorem lawCausalFinds_any (A : Option Addr) (n c : Nat) (F : Nat → GOp) (w : World) (hcap : n ≤ c) (hA : OpsAt w A n F) (hlaid : ErrLaid w) :
    Calls Tryd.prog 3 #[.slice A n c] w fun e w' => e = .returned (.bool true) ∧ Below w.heap.size w w' := by
  by_cases hn : n ≤ 60
  · have HA := Lib.hid hA
    have HL := Lib.hid hlaid
    have hd : decide ((60 : Int) < (n : Int)) = false := by simp; omega
    have HW := Lib.hid (rCausalCheck_any A n c F w hn hcap hA)
    rw [← causalErr_eq] at HW
    have HR := Lib.hid (fun W (hb : Below w.heap.size w W) => rFinds_any A n c F W hn (HA.out.below hb))
    have HC := Lib.hid (fun W (hb : Below w.heap.size w W) => cFinds_any A n c F W hn hcap (HA.out.below hb))
    have HBR := Lib.hid (fun W (hb : Below w.heap.size w W) => bare_any (errV (causalErrE F n)) (causalErrE F n) (-1) (causalErrE F n) W (errIs_errV W _) (HL.out.below hb (cell_lt HL.out)))
    clear hA hlaid HA HL
    cases hz : (causalErrE F n == 0)
    · have hz' : causalErrE F n ≠ 0 := by simpa using hz
      simp only [if_neg hz'] at HC
      clear hz'
      generalize causalErrE F n = E at *
      go_enter Tryd.func3, Tryd.ntmps3
      go_wp2_with fail
      refine HW.out.mono ?_
      rintro e w1 ⟨rfl, hb1⟩
      have HC1 := Lib.hid (HC.out w1 hb1)
      have HB1 := Lib.hid hb1
      clear hb1
      go_wp2_with fail
      refine HC1.out.mono ?_
      rintro e w2 ⟨rfl, hb2⟩
      have HB2 := Lib.hid (HB1.out.trans (hb2.mono HB1.out.size))
      have HBR2 := Lib.hid (HBR.out w2 HB2.out)
      clear hb2
      go_wp2_with fail
      refine HBR2.out.mono ?_
      rintro e w3 ⟨rfl, hb3⟩
      have HB3 := Lib.hid (HB2.out.trans (hb3.mono HB2.out.size))
      clear hb3
      go_wp2_with fail
      go_ret
      exact ⟨by simp, HB3.out⟩
    · have hz' : causalErrE F n = 0 := by simpa using hz
      simp only [if_pos hz', finds_eq hz'] at HC
      rw [hz'] at HC HBR HW
      clear hz hz'
      generalize finds F (readsR F n) (warsh (leadB F (readsR F n)) n) n = fd at *
      obtain ⟨x, y, z⟩ := fd
      go_enter Tryd.func3, Tryd.ntmps3
      go_wp2_with fail
      refine HW.out.mono ?_
      rintro e w1 ⟨rfl, hb1⟩
      have HR1 := Lib.hid (HR.out w1 hb1)
      have HB1 := Lib.hid hb1
      clear hb1
      go_wp2_with fail
      refine HR1.out.mono ?_
      rintro e w2 ⟨rfl, hb2⟩
      have HB2 := Lib.hid (HB1.out.trans (hb2.mono HB1.out.size))
      have HC2 := Lib.hid (HC.out w2 HB2.out)
      clear hb2
      go_wp2_with fail
      refine HC2.out.mono ?_
      rintro e w3 ⟨rfl, hb3⟩
      have HB3 := Lib.hid (HB2.out.trans (hb3.mono HB2.out.size))
      have HBR3 := Lib.hid (HBR.out w3 HB3.out)
      clear hb3
      go_wp2_with fail
      refine HBR3.out.mono ?_
      rintro e w4 ⟨rfl, hb4⟩
      have HB4 := Lib.hid (HB3.out.trans (hb4.mono HB3.out.size))
      clear hb4
      go_wp2_with fail
      go_ret
      exact ⟨by simp, HB4.out⟩
  · have hd : decide ((60 : Int) < (n : Int)) = true := by simp; omega
    go_enter Tryd.func3, Tryd.ntmps3
    go_wp2_with fail
    go_ret
    exact ⟨rfl, Below.refl _ _⟩
end Go.Proofs.YtkncomfbedbikaaDoor
