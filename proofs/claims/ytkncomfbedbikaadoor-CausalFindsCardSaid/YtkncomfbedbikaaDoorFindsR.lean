/- testimonyref.CausalFinds. -/
import Derived.Test.YtkncomfbedbikaaDoorFinds
namespace Go.Proofs.YtkncomfbedbikaaDoor
open Go.RowKit
set_option maxRecDepth 100000 in
set_option maxHeartbeats 4000000 in
theorem rFinds_any (A : Option Addr) (n c : Nat) (F : Nat → GOp) (w : World) (hn : n ≤ 60) (hA : OpsAt w A n F) :
    Calls Tryd.prog 11 #[.slice A n c] w fun e w' => e = trip (finds F (readsR F n) (warsh (leadB F (readsR F n)) n) n) ∧ Below w.heap.size w w' := by
  have HA := Lib.hid hA
  have HRD := Lib.hid (fun W i (hb : Below w.heap.size w W) (hi : i < n) => rReads_any A n c i F W hn hi (hA.below hb))
  have HAH := Lib.hid (fun W (hb : Below w.heap.size w W) => Ahead7_any A n c F W hn (hA.below hb))
  have HRR := Lib.hid (readsR_range F n)
  clear hA
  obtain ⟨fn, hfn⟩ : ∃ t, finds F (readsR F n) (warsh (leadB F (readsR F n)) n) n = t := ⟨_, rfl⟩
  have HF := Lib.hid hfn
  rw [hfn]
  clear hfn
  generalize readsR F n = R at *
  generalize warsh (leadB F R) n = M at *
  go_enter Tryd.func11, Tryd.ntmps11
  go_wp2_with fail
  go_loopw [16] (fun x wr => ∃ j : Nat, x = .int .i64 j ∧ j ≤ n ∧ Below w.heap.size w wr ∧ ∀ t, t < j → (R t == -2) = false) (fun x _ => n - (intOf x).toNat)
  case atStart => exact ⟨0, rfl, by omega, Below.refl _ _, fun t ht => absurd ht (by omega)⟩
  case round =>
    obtain ⟨wo, rfl⟩ : ∃ wo : World, wo = wr := ⟨_, rfl⟩
    obtain ⟨j, rfl, hj, hbw, hall⟩ := hrel
    have HB := Lib.hid hbw
    have HALL := Lib.hid hall
    clear hbw hall
    by_cases hlt : j < n
    · have HC := Lib.hid (HRD.out wo j HB.out hlt)
      cases hin : R j == -2
      · have HIN := Lib.hid hin
        go_wp2_with fail
        refine HC.out.mono ?_
        rintro e w' ⟨rfl, hb'⟩
        have HB2 := Lib.hid (HB.out.trans (hb'.mono HB.out.size))
        clear hb'
        go_wp2_with fail
        go_roundw
        case rel => exact ⟨j + 1, by go_num, by omega, HB2.out, upto_succ HALL.out HIN.out⟩
        case measure => go_light; simp [intOf]; omega
      · have HIN := Lib.hid hin
        go_wp2_with fail
        refine HC.out.mono ?_
        rintro e w' ⟨rfl, hb'⟩
        have HB2 := Lib.hid (HB.out.trans (hb'.mono HB.out.size))
        clear hb'
        go_wp2_with fail
        go_ret3
        exact ⟨by rw [← HF.out]; unfold finds; rw [firstAt_found (p := fun i => R i == -2) HALL.out HIN.out hlt]; rfl, HB2.out⟩
    · obtain rfl : j = n := by omega
      have HC := Lib.hid (HAH.out wo HB.out)
      go_wp2_with fail
      refine HC.out.mono ?_
      rintro e w7 ⟨B, c7, rfl, hc7, hBs, hb7⟩
      have HM := Lib.hid hBs
      have HB7 := Lib.hid (HB.out.trans (hb7.mono HB.out.size))
      clear hBs hb7 HC HB
      go_wp2_with fail
      have HNO := Lib.hid HALL.out
      clear HALL
      go_loopw [30] (fun x wr => ∃ k : Nat, x = .int .i64 k ∧ k ≤ j ∧ Below w7.heap.size w7 wr ∧ ∀ t, t < k → M t t = false) (fun x _ => j - (intOf x).toNat)
      case atStart => exact ⟨0, rfl, by omega, Below.refl _ _, fun t ht => absurd ht (by omega)⟩
      case round =>
        obtain ⟨wo2, rfl⟩ : ∃ wo2 : World, wo2 = wr := ⟨_, rfl⟩
        obtain ⟨k, rfl, hk, hbw, hall⟩ := hrel
        have HB := Lib.hid hbw
        have HALL := Lib.hid hall
        clear hbw hall
        by_cases hlt : k < j
        · obtain ⟨b, off, rfl, hb, b2, off2, c2, hc1, hc2, hb2, hc3⟩ := (HM.out.below HB.out) k hlt
          have hc4 := hc3 k hlt
          clear hc3
          cases hin : M k k
          · have HIN := Lib.hid hin
            rw [hin] at hc4
            go_wp2_with fail
            go_roundw
            case rel => exact ⟨k + 1, by go_num, by omega, HB.out, upto_succ HALL.out HIN.out⟩
            case measure => go_light; simp [intOf]; omega
          · have HIN := Lib.hid hin
            rw [hin] at hc4
            go_wp2_with fail
            go_ret3
            exact ⟨by rw [← HF.out]; unfold finds; rw [firstAt_none HNO.out]; simp only; rw [firstAt_found (p := fun i => M i i) HALL.out HIN.out hlt]; rfl, HB7.out.trans (HB.out.mono HB7.out.size)⟩
        · obtain rfl : k = j := by omega
          have HF2 : Hid (finds F R M k = match pairs (hitB F R M 3) k with
            | some (i, j) => (3, (i : Int), (j : Int))
            | none => match pairs (hitB F R M 4) k with
              | some (i, j) => (4, (i : Int), (j : Int))
              | none => (0, 0, 0)) := Lib.hid (by unfold finds; rw [firstAt_none HNO.out]; simp only; rw [firstAt_none HALL.out]; rfl)
          have HRR2 : Hid (∀ i, i < k → R i = -1 ∨ ∃ t, t < k ∧ R i = (t : Int)) := Lib.hid fun i hi => by
            rcases HRR.out i with h | h | h
            · exact .inl h
            · have := HNO.out i hi; rw [h] at this; cases this
            · exact .inr h
          clear HNO HALL HRR
          go_wp2_with fail
          go_loopw [8] (fun x wr => ∃ p : Nat, x = .int .i64 p ∧ 3 ≤ p ∧ p ≤ 5 ∧ Below w7.heap.size w7 wr ∧ ∀ q, 3 ≤ q → q < p → pairs (hitB F R M q) k = none) (fun x _ => 5 - (intOf x).toNat)
          case atStart => exact ⟨3, rfl, by omega, by omega, HB.out, fun q h1 h2 => absurd h1 (by omega)⟩
          case round =>
            clear HB
            obtain ⟨wo3, rfl⟩ : ∃ wo3 : World, wo3 = wr := ⟨_, rfl⟩
            obtain ⟨p, rfl, hp3, hp5, hbw, hall⟩ := hrel
            have HB := Lib.hid hbw
            have HP := Lib.hid hall
            clear hbw hall
            by_cases hlt : p < 5
            · have hpd : decide ((p : Int) ≤ 4) = true := by simp; omega
              go_wp2_with fail
              go_loopw [49] (fun x wr => ∃ i : Nat, x = .int .i64 i ∧ i ≤ k ∧ Below w7.heap.size w7 wr ∧ ∀ i', i' < i → ∀ j, j < k → hitB F R M p i' j = false) (fun x _ => k - (intOf x).toNat)
              case atStart => exact ⟨0, rfl, by omega, HB.out, fun i' h => absurd h (by omega)⟩
              case round =>
                clear HB
                obtain ⟨wo4, rfl⟩ : ∃ wo4 : World, wo4 = wr := ⟨_, rfl⟩
                obtain ⟨i, rfl, hi, hbw, hall⟩ := hrel
                have HB := Lib.hid hbw
                have HI := Lib.hid hall
                clear hbw hall
                by_cases hik : i < k
                · have HBW := Lib.hid (HB7.out.trans (HB.out.mono HB7.out.size))
                  obtain ⟨b, off, rfl, hb, hci⟩ := (HA.out.below HBW.out) i hik
                  obtain ⟨q0, q1, q2, q3, q4, q5, q6, q7⟩ := hci
                  have HW0 : Hid (Below w7.heap.size w7 (wo4.alloc (opCells (F i)))) := Lib.hid (HB.out.alloc HB.out.size _)
                  have HQ0 := Lib.hid (boxAt_new (w := wo4) rfl (F i) 95)
                  have HL0 : Hid (wo4.heap.size < (wo4.alloc (opCells (F i))).heap.size) := Lib.hid (by simp)
                  go_wp2_with fail
                  unfold opCells at HW0 HL0
                  generalize wo4.alloc (.cells #[.int .i64 (F i).proc, .int .i64 (F i).key, .int .i64 (F i).kind, .int .i64 (F i).a, .int .i64 (F i).b, .int .i64 (F i).result, .int .i64 (F i).call, .int .i64 (F i).ret] 95) = W4 at *
                  generalize wo4.heap.size = b4 at *
                  clear q0 q1 q2 q3 q4 q5 q6 q7
                  go_loopw [56] (fun x wr => ∃ j : Nat, x = .int .i64 j ∧ j ≤ k ∧ Below W4.heap.size W4 wr ∧ ∀ j', j' < j → hitB F R M p i j' = false) (fun x _ => k - (intOf x).toNat)
                  case atStart => exact ⟨0, rfl, by omega, Below.refl _ _, fun i' h => absurd h (by omega)⟩
                  case round =>
                    obtain ⟨wo5, rfl⟩ : ∃ wo5 : World, wo5 = wr := ⟨_, rfl⟩
                    obtain ⟨j, rfl, hj, hbw, hall⟩ := hrel
                    have HB := Lib.hid hbw
                    have HJ := Lib.hid hall
                    clear hbw hall
                    by_cases hjk : j < k
                    · have HB75 : Hid (Below w7.heap.size w7 wo5) := Lib.hid (HW0.out.trans (HB.out.mono HW0.out.size))
                      have HB05 : Hid (Below w.heap.size w wo5) := Lib.hid (HB7.out.trans (HB75.out.mono HB7.out.size))
                      obtain ⟨b', off', hAe, _, hcj⟩ := (HA.out.below HB05.out) j hjk
                      injection hAe with hAe
                      injection hAe with hAe1 hAe2
                      subst hAe1 hAe2
                      obtain ⟨q0, q1, q2, q3, q4, q5, q6, q7⟩ := hcj
                      have HB5 : Hid (Below W4.heap.size W4 (wo5.alloc (opCells (F j)))) := Lib.hid (HB.out.alloc HB.out.size _)
                      have HQ5 := boxAt_new (w := wo5) rfl (F j) 95
                      go_upto_region 23 with fail
                      unfold opCells at HB5
                      generalize wo5.alloc (.cells #[.int .i64 (F j).proc, .int .i64 (F j).key, .int .i64 (F j).kind, .int .i64 (F j).a, .int .i64 (F j).b, .int .i64 (F j).result, .int .i64 (F j).call, .int .i64 (F j).ret] 95) = W5 at *
                      clear q0 q1 q2 q3 q4 q5 q6 q7 HB75 HB05
                      have HB75 : Hid (Below w7.heap.size w7 W5) := Lib.hid (HW0.out.trans (HB5.out.mono HW0.out.size))
                      have HB05 : Hid (Below w.heap.size w W5) := Lib.hid (HB7.out.trans (HB75.out.mono HB7.out.size))
                      obtain ⟨-, k1, k2, -, -, -, -, -⟩ := HQ5
                      obtain ⟨-, l1, l2, -, -, -, -, -⟩ := HQ0.out.below HB5.out HL0.out
                      obtain ⟨bB, oB, rfl, hbB, b2, off2, c2, hc1, hc2, hb2, hc3⟩ := (HM.out.below HB75.out) j hjk
                      have hc4 := hc3 i hik
                      clear hc3
                      rcases skip_tree F R M p i j with ⟨d1, hh⟩ | ⟨d1, d2, hh⟩ | ⟨d1, d2, d3, hh⟩ | ⟨d1, d2, d3, d4, hh⟩ | ⟨d1, d2, d3, d4, hh⟩
                      · have HH := Lib.hid hh
                        clear hh hc1 hc4
                        go_wp2_with fail
                        go_roundw
                        case rel => exact ⟨j + 1, by go_num, by omega, HB5.out, upto_succ HJ.out HH.out⟩
                        case measure => go_light; simp [intOf]; omega
                      · have HH := Lib.hid hh
                        clear hh hc1 hc4
                        go_wp2_with fail
                        go_roundw
                        case rel => exact ⟨j + 1, by go_num, by omega, HB5.out, upto_succ HJ.out HH.out⟩
                        case measure => go_light; simp [intOf]; omega
                      · have HH := Lib.hid hh
                        clear hh hc1 hc4
                        go_wp2_with fail
                        go_roundw
                        case rel => exact ⟨j + 1, by go_num, by omega, HB5.out, upto_succ HJ.out HH.out⟩
                        case measure => go_light; simp [intOf]; omega
                      · have HH := Lib.hid hh
                        rw [d4] at hc4
                        clear hh
                        go_wp2_with fail
                        go_roundw
                        case rel => exact ⟨j + 1, by go_num, by omega, HB5.out, upto_succ HJ.out HH.out⟩
                        case measure => go_light; simp [intOf]; omega
                      · rw [d4] at hc4
                        have HC := Lib.hid (HRD.out W5 i HB05.out hik)
                        rcases (show p = 3 ∨ p = 4 by omega) with hp | hp
                        · have hpe : ((p : Int) == 3) = true := by simp; omega
                          have hpf : ((p : Int) == 4) = false := by simp; omega
                          have HPE := Lib.hid hp
                          clear hp
                          rcases HRR2.out i hik with hr | ⟨t, ht, hr⟩
                          · rw [hr] at HC
                            rw [hr, if_pos HPE.out] at hh
                            have HH := Lib.hid hh
                            clear hh hr
                            go_wp2_with fail
                            refine HC.out.mono ?_
                            rintro e w' ⟨rfl, hb'⟩
                            have HB6 := Lib.hid (HB05.out.trans (hb'.mono HB05.out.size))
                            clear hb'
                            go_wp2_with fail
                            go_ret3
                            exact ⟨by have h := pairs_found HI.out HJ.out (HH.out.trans rfl) hik hjk; rw [HPE.out] at h; rw [← HF.out, HF2.out, h, HPE.out]; rfl, HB6.out⟩
                          · rw [hr] at HC
                            have hn1 : (((t : Nat) : Int) == -1) = false := by simp
                            rw [hr, if_pos HPE.out, hn1] at hh
                            have HH := Lib.hid hh
                            clear hh hr
                            go_wp2_with fail
                            refine HC.out.mono ?_
                            rintro e w' ⟨rfl, hb'⟩
                            have HB6 := Lib.hid (HB5.out.trans (hb'.mono HB5.out.size))
                            clear hb'
                            go_wp2_with fail
                            go_roundw
                            case rel => exact ⟨j + 1, by go_num, by omega, HB6.out, upto_succ HJ.out HH.out⟩
                            case measure => go_light; simp [intOf]; omega
                        · have hpe : ((p : Int) == 3) = false := by simp; omega
                          have hpf : ((p : Int) == 4) = true := by simp; omega
                          have HPE := Lib.hid hp
                          clear hp
                          rcases HRR2.out i hik with hr | ⟨t, ht, hr⟩
                          · rw [hr] at HC
                            rw [hr, if_neg (by rw [HPE.out]; decide)] at hh
                            have HH : Hid (hitB F R M p i j = false) := Lib.hid (hh.trans rfl)
                            clear hh hr
                            go_wp2_with fail
                            refine HC.out.mono ?_
                            rintro e w' ⟨rfl, hb'⟩
                            have HB6 := Lib.hid (HB5.out.trans (hb'.mono HB5.out.size))
                            clear hb'
                            go_wp2_with fail
                            go_roundw
                            case rel => exact ⟨j + 1, by go_num, by omega, HB6.out, upto_succ HJ.out HH.out⟩
                            case measure => go_light; simp [intOf]; omega
                          · rw [hr] at HC
                            have hn0 : decide ((0 : Int) ≤ (t : Int)) = true := by simp
                            rw [hr, if_neg (by rw [HPE.out]; decide), hn0] at hh
                            by_cases hjt : j = t
                            · subst hjt
                              have HH : Hid (hitB F R M p i j = false) := Lib.hid (by rw [hh]; simp)
                              clear hh hr
                              go_wp2_with fail
                              refine HC.out.mono ?_
                              rintro e w' ⟨rfl, hb'⟩
                              have HB6 := Lib.hid (HB5.out.trans (hb'.mono HB5.out.size))
                              clear hb'
                              go_wp2_with fail
                              go_roundw
                              case rel => exact ⟨j + 1, by go_num, by omega, HB6.out, upto_succ HJ.out HH.out⟩
                              case measure => go_light; simp [intOf]; omega
                            · have hn2 : ((j : Int) != (t : Int)) = true := by simp; omega
                              have HMT := Lib.hid (fun W (h : Below w7.heap.size w7 W) => (HM.out.below h) t ht)
                              cases hmt : M t j
                              · have HH : Hid (hitB F R M p i j = false) := Lib.hid (by rw [hh]; simp [hmt])
                                clear hh hr
                                go_wp2_with fail
                                refine HC.out.mono ?_
                                rintro e w' ⟨rfl, hb'⟩
                                have HB6 := Lib.hid (HB5.out.trans (hb'.mono HB5.out.size))
                                have HB76 := Lib.hid (HB75.out.trans (hb'.mono HB75.out.size))
                                clear hb'
                                clear hc1 hc4
                                obtain ⟨b'', off'', hAe, hbB, b2, off2, c2, hc1, hc2, hb2, hc3⟩ := HMT.out w' HB76.out
                                injection hAe with hAe
                                injection hAe with hAe1 hAe2
                                subst hAe1 hAe2
                                have hc4 := hc3 j hjk
                                rw [hmt] at hc4
                                clear hc3 hmt
                                go_wp2_with fail
                                go_roundw
                                case rel => exact ⟨j + 1, by go_num, by omega, HB6.out, upto_succ HJ.out HH.out⟩
                                case measure => go_light; simp [intOf]; omega
                              · have HH : Hid (hitB F R M p i j = true) := Lib.hid (by rw [hh]; simp [hmt]; omega)
                                clear hh hr
                                go_wp2_with fail
                                refine HC.out.mono ?_
                                rintro e w' ⟨rfl, hb'⟩
                                have HB6 := Lib.hid (HB05.out.trans (hb'.mono HB05.out.size))
                                have HB76 := Lib.hid (HB75.out.trans (hb'.mono HB75.out.size))
                                clear hb'
                                clear hc1 hc4
                                obtain ⟨b'', off'', hAe, hbB, b2, off2, c2, hc1, hc2, hb2, hc3⟩ := HMT.out w' HB76.out
                                injection hAe with hAe
                                injection hAe with hAe1 hAe2
                                subst hAe1 hAe2
                                have hc4 := hc3 j hjk
                                rw [hmt] at hc4
                                clear hc3 hmt
                                go_wp2_with fail
                                go_ret3
                                exact ⟨by have h := pairs_found HI.out HJ.out HH.out hik hjk; rw [HPE.out] at h; rw [← HF.out, HF2.out, HP.out 3 (by omega) (by rw [HPE.out]; omega), h, HPE.out]; rfl, HB6.out⟩
                    · obtain rfl : j = k := by omega
                      go_wp2_with fail
                      go_roundw
                      case rel => exact ⟨i + 1, by go_num, by omega, HW0.out.trans (HB.out.mono HW0.out.size), upto_succ HI.out HJ.out⟩
                      case measure => go_light; simp [intOf]; omega
                · obtain rfl : i = k := by omega
                  go_wp2_with fail
                  go_roundw
                  case rel => exact ⟨p + 1, by go_num, by omega, by omega, HB.out, fun q h1 h2 => by
                    by_cases e : q = p
                    · rw [e]; exact pairs_none HI.out
                    · exact HP.out q h1 (by omega)⟩
                  case measure => go_light; simp [intOf]; omega
            · obtain rfl : p = 5 := by omega
              go_wp2_with fail
              go_ret3
              exact ⟨by rw [← HF.out, HF2.out, HP.out 3 (by omega) (by omega), HP.out 4 (by omega) (by omega)]; rfl, HB7.out.trans (HB.out.mono HB7.out.size)⟩
end Go.Proofs.YtkncomfbedbikaaDoor
