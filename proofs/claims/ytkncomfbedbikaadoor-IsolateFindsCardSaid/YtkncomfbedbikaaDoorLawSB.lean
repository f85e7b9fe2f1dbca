/- The law SessionBroken: its walk. -/
import Derived.Test.YtkncomfbedbikaaDoorSessD
import Derived.Test.YtkncomfbedbikaaDoorSessF
import Derived.Test.YtkncomfbedbikaaDoorErrWalk
import Derived.Laws.StructEq
namespace Go.Proofs.YtkncomfbedbikaaDoor
open Go.RowKit
theorem errIs_errW (w : World) (e : Int) : ErrIs w (errV e) e (-1) := by
  unfold errV
  split
  · rename_i h; exact .inl ⟨rfl, h, rfl⟩
  · exact .inr (.inl ⟨rfl, rfl⟩)
theorem pairs_same {F : Nat → GOp} {n m : Nat} {L : Nat → Nat} {X : Nat → Nat → Int} {Z Z' : Nat → Int} (hc : causalErrE F n = 0) (h : sessErr 0 F n m L X = 0) (hk : ∀ i, i < n → 0 ≤ (F i).key ∧ (F i).key ≤ 7)
    (h1 : AllFirst F L X (upS n 0) Z) (h2 : ∀ g, g < 4 → FirstIn (brkR F L X g) (upS n 0) (Z' (g * 2)) (Z' (g * 2 + 1))) : ∀ g, g < 4 → Z (g * 2) = Z' (g * 2) ∧ Z (g * 2 + 1) = Z' (g * 2 + 1) := fun g hg =>
  (h1 g hg).unique ((h2 g hg).pcongr fun i k hs => brk_eq hc h hk hg (by unfold upS at hs; omega) (by unfold upS at hs; omega))
theorem pair_eqIn (d : Nat) (he : ∀ (x : Int) (w : World), (Op.equalIn d 3 (.int .i64 x) (.int .i64 x)).run Tryd.prog w = .ok true w) (x y : Int) (w : World) : (Op.equalIn (d + 1) 42 (.agg #[.int .i64 x, .int .i64 y]) (.agg #[.int .i64 x, .int .i64 y])).run Tryd.prog w = .ok true w := by
  have hu : Tryd.prog.underlying 42 = some (.array 2 3) := by kernel_rfl
  have hsz : ∀ w, (sizeOf 3).run Tryd.prog w = .ok 1 w := fun w => by kernel_rfl
  have p0 : ∀ w, (part 3 #[.int .i64 x, .int .i64 y] 0).run Tryd.prog w = .ok (.int .i64 x) w := fun w => by kernel_rfl
  have p1 : ∀ w, (part 3 #[.int .i64 x, .int .i64 y] 1).run Tryd.prog w = .ok (.int .i64 y) w := fun w => by kernel_rfl
  simp only [Op.equalIn, Sem.run_bind, run_underlying hu, Result.andThen_ok, hsz]
  simp [Std.Legacy.Range.forIn_eq_forIn_range', Std.Legacy.Range.size, List.range', he, p0, p1, Sem.run_bind]
theorem pair_ne (x y : Int) (w : World) : (binOp .neq 42 (.agg #[.int .i64 x, .int .i64 y]) (.agg #[.int .i64 x, .int .i64 y])).run Tryd.prog w = .ok (.bool false) w := by
  rw [run_neq_struct, show (10000 : Nat) = 9999 + 1 from rfl, pair_eqIn 9999 (fun x w => by rw [show (9999 : Nat) = 9998 + 1 from rfl, run_equalIn_int (P := Tryd.prog) w 9998 3 .i64 .i64 x x (by kernel_rfl)]; simp)]
  rfl
set_option maxRecDepth 100000 in
set_option maxHeartbeats 4000000 in
theorem lawSessionBroken_any (A : Option Addr) (n c : Nat) (F : Nat → GOp) (V : Option Addr) (m cv : Nat) (L : Nat → Nat) (X : Nat → Nat → Int) (w : World) (hcap : n ≤ c) (hm : m ≤ maxLen) (hA : OpsAt w A n F) (hV : RowsAt w V m L X) (hlaid : ErrLaid w) :
    Calls Tryd.prog 4 #[.slice A n c, .slice V m cv] w fun e w' => e = .returned (.bool true) ∧ Below w.heap.size w w' := by
  have HA := Lib.hid hA
  have HV := Lib.hid hV
  have HL := Lib.hid hlaid
  have HMM : Hid (m ≤ 9223372036854775807) := Lib.hid (by unfold maxLen at hm; omega)
  clear hA hV hlaid hm
  go_enter Tryd.func4, Tryd.ntmps4
  go_wp2_with fail
  go_loop [5, 6] (fun s x => ∃ (j : Nat) (t : Int), x = .int .i64 j ∧ j ≤ m ∧ s = .int .i64 t) (fun _ x => m - (intOf x).toNat)
  case atStart => exact ⟨0, 0, rfl, by omega, rfl⟩
  case round =>
    obtain ⟨j, t, rfl, hj, rfl⟩ := hrel
    by_cases hjm : j < m
    · obtain ⟨vb, vo, rfl, hvb, hL, A2, c2, hvc, hI⟩ := HV.out j hjm
      have hj1 : j + 1 ≤ 9223372036854775807 := by have := HMM.out; omega
      clear hI
      unfold maxLen at hL
      go_wp2
      go_round
      case rel => exact ⟨j + 1, _, by go_num, by omega, rfl⟩
      case measure => go_light; simp [intOf] <;> omega
    · obtain rfl : j = m := by omega
      by_cases hn : n ≤ 60
      · have hd : decide ((60 : Int) < (n : Int)) = false := by simp; omega
        by_cases ht : 150 < t
        · have hd2 : decide ((150 : Int) < t) = true := by simpa using ht
          go_wp2
          go_ret
          exact ⟨rfl, Below.refl _ _⟩
        · have hd2 : decide ((150 : Int) < t) = false := by simpa using ht
          have HW := Lib.hid (rSessionCheck_any A n c F V j cv L X w hn hcap HA.out HV.out)
          have HSC := Lib.hid (fun W (hb : Below w.heap.size w W) => sCheck_any A n c F V j cv L X W hn hcap (HA.out.below hb) (HV.out.below hb))
          have HBR := Lib.hid (fun W (hb : Below w.heap.size w W) => bare_any (errV (sessErr (causalErrE F n) F n j L X)) (sessErr (causalErrE F n) F n j L X) (-1) (sessErr (causalErrE F n) F n j L X) W (errIs_errW W _) (HL.out.below hb (cell_lt HL.out)))
          cases hz : (sessErr (causalErrE F n) F n j L X == 0)
          · have hz' : sessErr (causalErrE F n) F n j L X ≠ 0 := by simpa using hz
            have HSB := Lib.hid (fun W (hb : Below w.heap.size w W) => sBroken_err A n c F V j cv L X W hn hcap (HA.out.below hb) (HV.out.below hb) hz')
            clear hz' HA HV HL
            generalize sessErr (causalErrE F n) F n j L X = E at *
            go_wp2_with fail
            refine HW.out.mono ?_
            rintro e w1 ⟨rfl, hb1⟩
            have HB1 := Lib.hid hb1
            have HSB1 := Lib.hid (HSB.out w1 hb1)
            clear hb1
            go_wp2_with fail
            refine HSB1.out.mono ?_
            rintro e w2 ⟨rfl, hb2⟩
            have HB2 := Lib.hid (HB1.out.trans (hb2.mono HB1.out.size))
            have HBR2 := Lib.hid (HBR.out w2 HB2.out)
            clear hb2
            go_wp2_with fail
            refine HBR2.out.mono ?_
            rintro e w3 ⟨rfl, hb3⟩
            have HB3 := Lib.hid (HB2.out.trans (hb3.mono HB2.out.size))
            have HSC3 := Lib.hid (HSC.out w3 HB3.out)
            clear hb3
            go_wp2_with fail
            refine HSC3.out.mono ?_
            rintro e w4 ⟨rfl, hb4⟩
            have HB4 := Lib.hid (HB3.out.trans (hb4.mono HB3.out.size))
            have HBR4 := Lib.hid (HBR.out w4 HB4.out)
            clear hb4
            go_wp2_with fail
            refine HBR4.out.mono ?_
            rintro e w5 ⟨rfl, hb5⟩
            have HB5 := Lib.hid (HB4.out.trans (hb5.mono HB4.out.size))
            clear hb5
            go_wp2_with fail
            go_loop [11] (fun x => x = .int .i64 0) (fun _ => 0)
            case atStart => rfl
            case round =>
              subst hrel
              go_wp2
              go_ret
              exact ⟨rfl, HB5.out⟩
          · have hz' : sessErr (causalErrE F n) F n j L X = 0 := by simpa using hz
            have hc0 := sess_zero hz'
            have hs0 := hz'
            rw [hc0] at hs0
            have HKR := Lib.hid (fun i (hi : i < n) => key_range hc0 hi)
            have HSB := Lib.hid (fun W (hb : Below w.heap.size w W) => sBroken_any A n c F V j cv L X W hn hcap (HA.out.below hb) (HV.out.below hb) hz')
            have HRB := Lib.hid (fun W (hb : Below w.heap.size w W) => rBroken_any A n c F V j cv L X W hn hcap (HA.out.below hb) (HV.out.below hb) (sess_m hs0) HKR.out)
            have HC0 := Lib.hid hc0
            have HS0 := Lib.hid hs0
            rw [hz'] at HW HSC HBR
            rw [show errV 0 = .nilIface from rfl] at HSC HBR
            clear hz hz' hc0 hs0 HA HV HL
            go_wp2_with fail
            refine HW.out.mono ?_
            rintro e w1 ⟨rfl, hb1⟩
            have HB1 := Lib.hid hb1
            have HRB1 := Lib.hid (HRB.out w1 hb1)
            clear hb1
            go_wp2_with fail
            refine HRB1.out.mono ?_
            rintro e w2 ⟨R, cR, Z, rfl, hp, hf, hb2⟩
            have HF2 := Lib.hid hf
            have HP2 := Lib.hid hp
            have HB2 := Lib.hid (HB1.out.trans (hb2.mono HB1.out.size))
            have HSB2 := Lib.hid (HSB.out w2 HB2.out)
            clear hb2 hf hp
            go_wp2_with fail
            refine HSB2.out.mono ?_
            rintro e w3 ⟨R', cR', Z', rfl, hp, hf, hb3⟩
            have HZZ : Hid (∀ g, g < 4 → Z' (g * 2) = Z (g * 2) ∧ Z' (g * 2 + 1) = Z (g * 2 + 1)) := Lib.hid (pairs_same HC0.out HS0.out HKR.out hf HF2.out)
            have HP3 := Lib.hid hp
            have HP2' := Lib.hid (HP2.out.below hb3)
            have HB3 := Lib.hid (HB2.out.trans (hb3.mono HB2.out.size))
            have HBR3 := Lib.hid (HBR.out w3 HB3.out)
            clear hb3 hf hp HF2
            go_wp2_with fail
            refine HBR3.out.mono ?_
            rintro e w4 ⟨rfl, hb4⟩
            have HQ2 := Lib.hid (HP2'.out.below hb4)
            have HQ3 := Lib.hid (HP3.out.below hb4)
            have HB4 := Lib.hid (HB3.out.trans (hb4.mono HB3.out.size))
            have HSC4 := Lib.hid (HSC.out w4 HB4.out)
            clear hb4
            go_wp2_with fail
            refine HSC4.out.mono ?_
            rintro e w5 ⟨rfl, hb5⟩
            have HQ2' := Lib.hid (HQ2.out.below hb5)
            have HQ3' := Lib.hid (HQ3.out.below hb5)
            have HB5 := Lib.hid (HB4.out.trans (hb5.mono HB4.out.size))
            have HBR5 := Lib.hid (HBR.out w5 HB5.out)
            clear hb5
            go_wp2_with fail
            refine HBR5.out.mono ?_
            rintro e w6 ⟨rfl, hb6⟩
            have HB6 := Lib.hid (HB5.out.trans (hb6.mono HB5.out.size))
            obtain ⟨b2, rfl, hl2, hc2⟩ := HQ2'.out.below hb6
            obtain ⟨b3, rfl, hl3, hc3⟩ := HQ3'.out.below hb6
            have HC2 := Lib.hid hc2
            have HC3 := Lib.hid hc3
            have hpn := pair_ne
            clear hb6 hc2 hc3
            go_wp2_with fail
            go_loopw [11] (fun x wr => ∃ i : Nat, x = .int .i64 i ∧ i ≤ 4 ∧ ∃ nd, wr = w6.drewN nd) (fun x _ => 4 - (intOf x).toNat)
            case atStart => exact ⟨0, rfl, by omega, 0, rfl⟩
            case round =>
              obtain ⟨i, rfl, hi, nd, rfl⟩ := hrel
              by_cases hi4 : i < 4
              · have c1 := HC2.out (i * 2) (by omega)
                have c2 := HC2.out (i * 2 + 1) (by omega)
                have c3 := HC3.out (i * 2) (by omega)
                have c4 := HC3.out (i * 2 + 1) (by omega)
                rw [(HZZ.out i hi4).1] at c3
                rw [(HZZ.out i hi4).2] at c4
                go_wp2_with fail
                go_quiet (fail)
                go_wp2
                go_roundw
                case rel => exact ⟨i + 1, by go_num, by omega, _, rfl⟩
                case measure => go_light; simp [intOf] <;> omega
              · obtain rfl : i = 4 := by omega
                go_wp2
                go_ret
                exact ⟨rfl, below_drewN HB6.out nd⟩
      · have hd : decide ((60 : Int) < (n : Int)) = true := by simp; omega
        go_wp2
        go_ret
        exact ⟨rfl, Below.refl _ _⟩
end Go.Proofs.YtkncomfbedbikaaDoor
