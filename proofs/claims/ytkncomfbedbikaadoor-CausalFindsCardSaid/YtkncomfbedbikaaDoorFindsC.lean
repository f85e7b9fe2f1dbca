/- causal.Finds. -/
import Derived.Test.YtkncomfbedbikaaDoorFindsR
namespace Go.Proofs.YtkncomfbedbikaaDoor
open Go.RowKit
theorem results_tmp4 {fn : Func} {t u v x : Tmp} (h : fn.results = #[.tmp t, .tmp u, .tmp v, .tmp x]) (tmps : Array Value) (P : Program) (w : World) :
    (results fn tmps).run P w = .ok (.tuple #[tmps.getD t undef, tmps.getD u undef, tmps.getD v undef, tmps.getD x undef]) w := by
  simp [results, h]
abbrev quad (t : Int × Int × Int) (v : Value) : Ending := .returned (.tuple #[.int .i64 t.1, .int .i64 t.2.1, .int .i64 t.2.2, v])
theorem hit_tree (F : Nat → GOp) (R : Nat → Int) (M : Nat → Nat → Bool) (p i j : Nat) (hk : ((F i).kind != 1) = false) :
    (((F j).kind == 2) = false ∧ hitB F R M p i j = false) ∨ (((F j).kind == 2) = true ∧ ((F j).key == (F i).key) = false ∧ hitB F R M p i j = false) ∨
    (((F j).kind == 2) = true ∧ ((F j).key == (F i).key) = true ∧ M j i = false ∧ hitB F R M p i j = false) ∨
    (((F j).kind == 2) = true ∧ ((F j).key == (F i).key) = true ∧ M j i = true ∧ hitB F R M p i j = (if p = 3 then R i == -1 else decide (0 ≤ R i) && !((j : Int) == R i) && M (R i).toNat j)) := by
  unfold bne at hk
  unfold hitB
  cases h : ((F i).kind == 1)
  · rw [h] at hk; cases hk
  · cases ((F j).kind == 2) <;> cases ((F j).key == (F i).key) <;> cases (M j i) <;> simp
theorem hit_kind {F : Nat → GOp} {R : Nat → Int} {M : Nat → Nat → Bool} {p i j : Nat} (hk : ((F i).kind != 1) = true) : hitB F R M p i j = false := by
  unfold bne at hk
  unfold hitB
  cases h : ((F i).kind == 1)
  · simp
  · rw [h] at hk; cases hk
theorem hit_from3 {F : Nat → GOp} {R : Nat → Int} {M : Nat → Nat → Bool} {p i j t : Nat} (hp : p = 3) (hr : R i = (t : Int)) : hitB F R M p i j = false := by
  unfold hitB
  have : (((t : Nat) : Int) == -1) = false := by simp
  rw [if_pos hp, hr, this, Bool.and_false]
theorem hit_from4 {F : Nat → GOp} {R : Nat → Int} {M : Nat → Nat → Bool} {p i j : Nat} (hp : p ≠ 3) (hr : R i = -1) : hitB F R M p i j = false := by
  unfold hitB
  rw [if_neg hp, hr]
  simp
set_option maxRecDepth 100000 in
set_option maxHeartbeats 4000000 in
theorem cFinds_any (A : Option Addr) (n c : Nat) (F : Nat → GOp) (w : World) (hn : n ≤ 60) (hcap : n ≤ c) (hA : OpsAt w A n F) :
    Calls Tryd.prog 12 #[.slice A n c] w fun e w' => e = quad (if causalErrE F n = 0 then finds F (readsE F n) (warsh (leadB F (readsE F n)) n) n else (0, 0, 0)) (errV (causalErrE F n)) ∧ Below w.heap.size w w' := by
  have HA := Lib.hid hA
  have HCK := Lib.hid (cCheck_any A n c F w hn hcap hA)
  clear hA
  by_cases hz : causalErrE F n = 0
  · rw [hz] at HCK
    rw [if_pos hz, hz]
    clear hz
    have HRR := Lib.hid (readsE_range F n)
    have HRD := Lib.hid (fun W (hb : Below w.heap.size w W) => cReads_any A n c F W hn (HA.out.below hb))
    obtain ⟨fn, hfn⟩ : ∃ t, finds F (readsE F n) (warsh (leadB F (readsE F n)) n) n = t := ⟨_, rfl⟩
    have HF := Lib.hid hfn
    rw [hfn]
    clear hfn
    generalize readsE F n = R at *
    have HAH := Lib.hid (fun W (hb : Below w.heap.size w W) A2 c2 (hR : IntsAt W A2 n R) => ahead_any A n c F A2 c2 R W hn (HA.out.below hb) hR)
    generalize warsh (leadB F R) n = M at *
    have e0 : errV 0 = .nilIface := rfl
    rw [e0] at HCK ⊢
    clear e0
    go_enter Tryd.func12, Tryd.ntmps12
    go_wp2_with fail
    refine HCK.out.mono ?_
    rintro e w1 ⟨rfl, hb1⟩
    have HB1 := Lib.hid hb1
    have HC1 := Lib.hid (HRD.out w1 hb1)
    clear hb1 HRD HCK
    go_wp2_with fail
    refine HC1.out.mono ?_
    rintro e w2 ⟨A2, c2, rfl, hc2, hR2, hb2⟩
    have HB2 := Lib.hid (HB1.out.trans (hb2.mono HB1.out.size))
    have HR2 := Lib.hid hR2
    have HT := Lib.hid (thin_any A2 n c2 R w2 hn hR2)
    clear hR2 hb2 HC1
    cases hth : firstAt (fun i => R i == -2) n with
    | some t =>
      rw [hth] at HT
      have HTH := Lib.hid hth
      have hgt : decide ((0 : Int) ≤ (t : Int)) = true := by simp
      clear hth
      go_wp2_with fail
      refine HT.out.mono ?_
      rintro e w3 ⟨rfl, rfl⟩
      unfold optN
      go_wp2_with fail
      refine bodyPost_ret (results_tmp4 rfl _ _ _) rfl ?_
      exact ⟨by rw [← HF.out]; unfold finds; rw [HTH.out]; rfl, HB2.out⟩
    | none =>
      rw [hth] at HT
      have HTH := Lib.hid hth
      clear hth
      go_wp2_with fail
      refine HT.out.mono ?_
      rintro e w3 ⟨rfl, rfl⟩
      have HC := Lib.hid (HAH.out w2 HB2.out A2 c2 HR2.out)
      clear HAH HT
      unfold optN
      go_wp2_with fail
      refine HC.out.mono ?_
      rintro e w7 ⟨B, c7, rfl, hc7, hBs, hb7⟩
      have HM := Lib.hid hBs
      have HB7 := Lib.hid (HB2.out.trans (hb7.mono HB2.out.size))
      have HR7 := Lib.hid (HR2.out.below hb7)
      clear hBs hb7 HC HB1 HB2 HR2
      go_wp2_with fail
      go_loopw [35] (fun x wr => ∃ k : Nat, x = .int .i64 k ∧ k ≤ n ∧ Below w7.heap.size w7 wr ∧ ∀ t, t < k → M t t = false) (fun x _ => n - (intOf x).toNat)
      case atStart => exact ⟨0, rfl, by omega, Below.refl _ _, fun t ht => absurd ht (by omega)⟩
      case round =>
        obtain ⟨wo2, rfl⟩ : ∃ wo2 : World, wo2 = wr := ⟨_, rfl⟩
        obtain ⟨k, rfl, hk, hbw, hall⟩ := hrel
        have HB := Lib.hid hbw
        have HALL := Lib.hid hall
        clear hbw hall
        by_cases hlt : k < n
        · obtain ⟨b, off, rfl, hb, b2, off2, c2, hc1, hc2, hb2, hc3⟩ := (HM.out.below HB.out) k hlt
          have hc4 := hc3 k hlt
          clear hc3
          cases hin : M k k
          · have HIN := Lib.hid hin
            rw [hin] at hc4
            go_wp2_with fail
            go_roundw
            case rel => exact ⟨k + 1, by go_num, by omega, HB.out, upto_succ HALL.out HIN.out⟩
            case measure => go_light; simp [intOf]; omega
          · have HIN := Lib.hid hin
            rw [hin] at hc4
            go_wp2_with fail
            refine bodyPost_ret (results_tmp4 rfl _ _ _) rfl ?_
            exact ⟨by rw [← HF.out]; unfold finds; rw [HTH.out]; simp only; rw [firstAt_found (p := fun i => M i i) HALL.out HIN.out hlt]; rfl, HB7.out.trans (HB.out.mono HB7.out.size)⟩
        · obtain rfl : k = n := by omega
          have HF2 : Hid (finds F R M k = match pairs (hitB F R M 3) k with
            | some (i, j) => (3, (i : Int), (j : Int))
            | none => match pairs (hitB F R M 4) k with
              | some (i, j) => (4, (i : Int), (j : Int))
              | none => (0, 0, 0)) := Lib.hid (by unfold finds; rw [HTH.out]; simp only; rw [firstAt_none HALL.out]; rfl)
          have HRR2 : Hid (∀ i, i < k → R i = -1 ∨ ∃ t, t < k ∧ R i = (t : Int)) := Lib.hid fun i hi => by
            rcases HRR.out i with h | h | h
            · exact .inl h
            · have := firstAt_spec.firstAt_isNone HTH.out i hi; rw [h] at this; cases this
            · exact .inr h
          clear HTH HALL HRR
          have HW8 : Hid (Below w7.heap.size w7 (wo2.alloc (.cells #[.int .i64 3, .int .i64 4] 3))) := Lib.hid (HB.out.alloc HB.out.size _)
          have HC80 : Hid ((wo2.alloc (.cells #[.int .i64 3, .int .i64 4] 3)).cell? ⟨wo2.heap.size, 0, none⟩ = some (.int .i64 3)) := Lib.hid (by rw [World.cell?_alloc_new]; rfl)
          have HC81 : Hid ((wo2.alloc (.cells #[.int .i64 3, .int .i64 4] 3)).cell? ⟨wo2.heap.size, 1, none⟩ = some (.int .i64 4)) := Lib.hid (by rw [World.cell?_alloc_new]; rfl)
          have HL8 : Hid (wo2.heap.size < (wo2.alloc (.cells #[.int .i64 3, .int .i64 4] 3)).heap.size) := Lib.hid (by simp)
          go_wp2_with fail
          generalize wo2.alloc (.cells #[.int .i64 3, .int .i64 4] 3) = W8 at *
          generalize wo2.heap.size = b8 at *
          clear HB
          go_loopw [50] (fun x wr => ∃ q : Nat, x = .int .i64 q ∧ q ≤ 2 ∧ Below W8.heap.size W8 wr ∧ ∀ q', q' < q → pairs (hitB F R M (3 + q')) k = none) (fun x _ => 2 - (intOf x).toNat)
          case atStart => exact ⟨0, rfl, by omega, Below.refl _ _, fun q h => absurd h (by omega)⟩
          case round =>
            obtain ⟨wo3, rfl⟩ : ∃ wo3 : World, wo3 = wr := ⟨_, rfl⟩
            obtain ⟨q, rfl, hq, hbw, hall⟩ := hrel
            have HB := Lib.hid hbw
            have HP := Lib.hid hall
            clear hbw hall
            by_cases hlt : q < 2
            · obtain ⟨p, hp⟩ : ∃ p, p = 3 + q := ⟨_, rfl⟩
              have hc8 : wo3.cell? ⟨b8, q, none⟩ = some (.int .i64 (p : Int)) := by
                rw [HB.out.cell (p := ⟨b8, q, none⟩) HL8.out]
                rcases (show q = 0 ∨ q = 1 by omega) with h | h
                · subst h; subst hp; exact HC80.out
                · subst h; subst hp; exact HC81.out
              have HPE := Lib.hid hp
              have HP34 : Hid (p = 3 ∨ p = 4) := Lib.hid (by omega)
              clear hp
              have hqd : decide ((q : Int) < 2) = true := by simp; omega
              go_wp2_with fail
              go_loopw [56] (fun x wr => ∃ i : Nat, x = .int .i64 i ∧ i ≤ k ∧ Below W8.heap.size W8 wr ∧ ∀ i', i' < i → ∀ j, j < k → hitB F R M p i' j = false) (fun x _ => k - (intOf x).toNat)
              case atStart => exact ⟨0, rfl, by omega, HB.out, fun i' h => absurd h (by omega)⟩
              case round =>
                clear HB hc8
                obtain ⟨wo4, rfl⟩ : ∃ wo4 : World, wo4 = wr := ⟨_, rfl⟩
                obtain ⟨i, rfl, hi, hbw, hall⟩ := hrel
                have HB := Lib.hid hbw
                have HI := Lib.hid hall
                clear hbw hall
                by_cases hik : i < k
                · have hikd : decide ((i : Int) < (k : Int)) = true := by simp; omega
                  have HBW := Lib.hid (HB7.out.trans ((HW8.out.trans (HB.out.mono HW8.out.size)).mono HB7.out.size))
                  obtain ⟨b, off, rfl, hb, hci⟩ := (HA.out.below HBW.out) i hik
                  obtain ⟨q0, q1, q2, q3, q4, q5, q6, q7⟩ := hci
                  have HW0 : Hid (Below W8.heap.size W8 (wo4.alloc (opCells (F i)))) := Lib.hid (HB.out.alloc HB.out.size _)
                  have HQ0 := Lib.hid (boxAt_new (w := wo4) rfl (F i) 95)
                  have HL0 : Hid (wo4.heap.size < (wo4.alloc (opCells (F i))).heap.size) := Lib.hid (by simp)
                  go_upto_region 21 with fail
                  unfold opCells at HW0 HL0
                  generalize wo4.alloc (.cells #[.int .i64 (F i).proc, .int .i64 (F i).key, .int .i64 (F i).kind, .int .i64 (F i).a, .int .i64 (F i).b, .int .i64 (F i).result, .int .i64 (F i).call, .int .i64 (F i).ret] 95) = W4 at *
                  generalize wo4.heap.size = b4 at *
                  clear q0 q1 q2 q3 q4 q5 q6 q7 HB HBW
                  have HB74 : Hid (Below w7.heap.size w7 W4) := Lib.hid (HW8.out.trans (HW0.out.mono HW8.out.size))
                  obtain ⟨bR, oR, rfl, _, hcR⟩ := (HR7.out.below HB74.out) i hik
                  obtain ⟨-, -, hck, -, -, -, -, -⟩ := HQ0.out
                  cases hki : ((F i).kind != 1)
                  · have HKI := Lib.hid hki
                    rcases HP34.out with hp | hp <;> rcases HRR2.out i hik with hr | ⟨t, ht, hr⟩
                    · rw [hr] at hcR
                      have hpe : ((p : Int) == 3) = true := by simp; omega
                      have HP3 := Lib.hid hp
                      have HRI := Lib.hid hr
                      clear hp hr
                      go_upto_region 23 with fail
                      go_loopw [76] (fun x wr => ∃ j : Nat, x = .int .i64 j ∧ j ≤ k ∧ Below W4.heap.size W4 wr ∧ ∀ j', j' < j → hitB F R M p i j' = false) (fun x _ => k - (intOf x).toNat)
                      case atStart => exact ⟨0, rfl, by omega, Below.refl _ _, fun i' h => absurd h (by omega)⟩
                      case round =>
                        obtain ⟨wo5, rfl⟩ : ∃ wo5 : World, wo5 = wr := ⟨_, rfl⟩
                        obtain ⟨j, rfl, hj, hbw, hall⟩ := hrel
                        have HB := Lib.hid hbw
                        have HJ := Lib.hid hall
                        clear hbw hall
                        by_cases hjk : j < k
                        · have HB05 : Hid (Below w.heap.size w wo5) := Lib.hid (HB7.out.trans ((HB74.out.trans (HB.out.mono HB74.out.size)).mono HB7.out.size))
                          obtain ⟨b', off', hAe, _, hcj⟩ := (HA.out.below HB05.out) j hjk
                          injection hAe with hAe
                          injection hAe with hAe1 hAe2
                          subst hAe1 hAe2
                          obtain ⟨q0, q1, q2, q3, q4, q5, q6, q7⟩ := hcj
                          have HB5 : Hid (Below W4.heap.size W4 (wo5.alloc (opCells (F j)))) := Lib.hid (HB.out.alloc HB.out.size _)
                          have HQ5 := boxAt_new (w := wo5) rfl (F j) 95
                          clear hck hcR
                          go_upto_region 25 with fail
                          unfold opCells at HB5
                          generalize wo5.alloc (.cells #[.int .i64 (F j).proc, .int .i64 (F j).key, .int .i64 (F j).kind, .int .i64 (F j).a, .int .i64 (F j).b, .int .i64 (F j).result, .int .i64 (F j).call, .int .i64 (F j).ret] 95) = W5 at *
                          clear q0 q1 q2 q3 q4 q5 q6 q7 HB05
                          have HB75 : Hid (Below w7.heap.size w7 W5) := Lib.hid (HB74.out.trans (HB5.out.mono HB74.out.size))
                          have HB05 : Hid (Below w.heap.size w W5) := Lib.hid (HB7.out.trans (HB75.out.mono HB7.out.size))
                          obtain ⟨-, k1, k2, -, -, -, -, -⟩ := HQ5
                          obtain ⟨-, l1, -, -, -, -, -, -⟩ := HQ0.out.below HB5.out HL0.out
                          obtain ⟨bB, oB, rfl, hbB, b2, off2, c2, hc1, hc2, hb2, hc3⟩ := (HM.out.below HB75.out) j hjk
                          have hc4 := hc3 i hik
                          clear hc3
                          rcases hit_tree F R M p i j HKI.out with ⟨d1, hh⟩ | ⟨d1, d2, hh⟩ | ⟨d1, d2, d3, hh⟩ | ⟨d1, d2, d3, hh⟩
                          · have HH := Lib.hid hh
                            clear hh hc1 hc4
                            go_wp2_with fail
                            go_roundw
                            case rel => exact ⟨j + 1, by go_num, by omega, HB5.out, upto_succ HJ.out HH.out⟩
                            case measure => go_light; simp [intOf]; omega
                          · have HH := Lib.hid hh
                            clear hh hc1 hc4
                            go_wp2_with fail
                            go_roundw
                            case rel => exact ⟨j + 1, by go_num, by omega, HB5.out, upto_succ HJ.out HH.out⟩
                            case measure => go_light; simp [intOf]; omega
                          · have HH := Lib.hid hh
                            rw [d3] at hc4
                            clear hh
                            go_wp2_with fail
                            go_roundw
                            case rel => exact ⟨j + 1, by go_num, by omega, HB5.out, upto_succ HJ.out HH.out⟩
                            case measure => go_light; simp [intOf]; omega
                          · rw [d3] at hc4
                            rw [if_pos HP3.out, HRI.out] at hh
                            have HH : Hid (hitB F R M p i j = true) := Lib.hid (hh.trans rfl)
                            clear hh
                            go_wp2_with fail
                            refine bodyPost_ret (results_tmp4 rfl _ _ _) rfl ?_
                            exact ⟨by have h := pairs_found HI.out HJ.out HH.out hik hjk; rw [HP3.out] at h; rw [← HF.out, HF2.out, h, HP3.out]; rfl, HB05.out⟩
                        · obtain rfl : j = k := by omega
                          go_wp2_with fail
                          go_roundw
                          case rel => exact ⟨i + 1, by go_num, by omega, HW0.out.trans (HB.out.mono HW0.out.size), upto_succ (q := fun i' => ∀ j', j' < j → hitB F R M p i' j' = false) HI.out HJ.out⟩
                          case measure => go_light; simp [intOf]; omega
                    · rw [hr] at hcR
                      have hpe : ((p : Int) == 3) = true := by simp; omega
                      have HP3 := Lib.hid hp
                      have HRI := Lib.hid hr
                      have hn1 : (((t : Nat) : Int) == -1) = false := by simp
                      clear hp hr
                      go_wp2_with fail
                      go_roundw
                      case rel => exact ⟨i + 1, by go_num, by omega, HW0.out, upto_succ (q := fun i' => ∀ j, j < k → hitB F R M p i' j = false) HI.out (fun j _ => hit_from3 HP3.out HRI.out)⟩
                      case measure => go_light; simp [intOf]; omega
                    · rw [hr] at hcR
                      have hpe : ((p : Int) == 3) = false := by simp; omega
                      have HP4 := Lib.hid hp
                      have HRI := Lib.hid hr
                      clear hp hr
                      go_wp2_with fail
                      go_roundw
                      case rel => exact ⟨i + 1, by go_num, by omega, HW0.out, upto_succ (q := fun i' => ∀ j, j < k → hitB F R M p i' j = false) HI.out (fun j _ => hit_from4 (by rw [HP4.out]; decide) HRI.out)⟩
                      case measure => go_light; simp [intOf]; omega
                    · rw [hr] at hcR
                      have hpe : ((p : Int) == 3) = false := by simp; omega
                      have hn1 : (((t : Nat) : Int) == -1) = false := by simp
                      have HP4 := Lib.hid hp
                      have HRI := Lib.hid hr
                      clear hp hr
                      go_upto_region 23 with fail
                      go_loopw [76] (fun x wr => ∃ j : Nat, x = .int .i64 j ∧ j ≤ k ∧ Below W4.heap.size W4 wr ∧ ∀ j', j' < j → hitB F R M p i j' = false) (fun x _ => k - (intOf x).toNat)
                      case atStart => exact ⟨0, rfl, by omega, Below.refl _ _, fun i' h => absurd h (by omega)⟩
                      case round =>
                        obtain ⟨wo5, rfl⟩ : ∃ wo5 : World, wo5 = wr := ⟨_, rfl⟩
                        obtain ⟨j, rfl, hj, hbw, hall⟩ := hrel
                        have HB := Lib.hid hbw
                        have HJ := Lib.hid hall
                        clear hbw hall
                        by_cases hjk : j < k
                        · have HB05 : Hid (Below w.heap.size w wo5) := Lib.hid (HB7.out.trans ((HB74.out.trans (HB.out.mono HB74.out.size)).mono HB7.out.size))
                          obtain ⟨b', off', hAe, _, hcj⟩ := (HA.out.below HB05.out) j hjk
                          injection hAe with hAe
                          injection hAe with hAe1 hAe2
                          subst hAe1 hAe2
                          obtain ⟨q0, q1, q2, q3, q4, q5, q6, q7⟩ := hcj
                          have HB5 : Hid (Below W4.heap.size W4 (wo5.alloc (opCells (F j)))) := Lib.hid (HB.out.alloc HB.out.size _)
                          have HQ5 := boxAt_new (w := wo5) rfl (F j) 95
                          clear hck hcR
                          go_upto_region 25 with fail
                          unfold opCells at HB5
                          generalize wo5.alloc (.cells #[.int .i64 (F j).proc, .int .i64 (F j).key, .int .i64 (F j).kind, .int .i64 (F j).a, .int .i64 (F j).b, .int .i64 (F j).result, .int .i64 (F j).call, .int .i64 (F j).ret] 95) = W5 at *
                          clear q0 q1 q2 q3 q4 q5 q6 q7 HB05
                          have HB75 : Hid (Below w7.heap.size w7 W5) := Lib.hid (HB74.out.trans (HB5.out.mono HB74.out.size))
                          have HB05 : Hid (Below w.heap.size w W5) := Lib.hid (HB7.out.trans (HB75.out.mono HB7.out.size))
                          obtain ⟨-, k1, k2, -, -, -, -, -⟩ := HQ5
                          obtain ⟨-, l1, -, -, -, -, -, -⟩ := HQ0.out.below HB5.out HL0.out
                          obtain ⟨bB, oB, rfl, hbB, b2, off2, c2, hc1, hc2, hb2, hc3⟩ := (HM.out.below HB75.out) j hjk
                          have hc4 := hc3 i hik
                          clear hc3
                          rcases hit_tree F R M p i j HKI.out with ⟨d1, hh⟩ | ⟨d1, d2, hh⟩ | ⟨d1, d2, d3, hh⟩ | ⟨d1, d2, d3, hh⟩
                          · have HH := Lib.hid hh
                            clear hh hc1 hc4
                            go_wp2_with fail
                            go_roundw
                            case rel => exact ⟨j + 1, by go_num, by omega, HB5.out, upto_succ HJ.out HH.out⟩
                            case measure => go_light; simp [intOf]; omega
                          · have HH := Lib.hid hh
                            clear hh hc1 hc4
                            go_wp2_with fail
                            go_roundw
                            case rel => exact ⟨j + 1, by go_num, by omega, HB5.out, upto_succ HJ.out HH.out⟩
                            case measure => go_light; simp [intOf]; omega
                          · have HH := Lib.hid hh
                            rw [d3] at hc4
                            clear hh
                            go_wp2_with fail
                            go_roundw
                            case rel => exact ⟨j + 1, by go_num, by omega, HB5.out, upto_succ HJ.out HH.out⟩
                            case measure => go_light; simp [intOf]; omega
                          · rw [d3] at hc4
                            rw [if_neg (by rw [HP4.out]; decide), HRI.out] at hh
                            have hn0 : decide ((0 : Int) ≤ (t : Int)) = true := by simp
                            rw [hn0] at hh
                            obtain ⟨bR', oR', hRe, _, hcR⟩ := (HR7.out.below HB75.out) i hik
                            injection hRe with hRe
                            injection hRe with hRe1 hRe2
                            subst hRe1 hRe2
                            rw [HRI.out] at hcR
                            by_cases hjt : j = t
                            · subst hjt
                              have HH : Hid (hitB F R M p i j = false) := Lib.hid (by rw [hh]; simp)
                              clear hh
                              go_wp2_with fail
                              go_roundw
                              case rel => exact ⟨j + 1, by go_num, by omega, HB5.out, upto_succ HJ.out HH.out⟩
                              case measure => go_light; simp [intOf]; omega
                            · have hn2 : ((j : Int) != (t : Int)) = true := by simp; omega
                              obtain ⟨b'', off'', hAe, _, b3, off3, c3, hc5, hc6, hb3, hc7'⟩ := (HM.out.below HB75.out) t ht
                              injection hAe with hAe
                              injection hAe with hAe1 hAe2
                              subst hAe1 hAe2
                              have hc8 := hc7' j hjk
                              clear hc7'
                              cases hmt : M t j
                              · have HH : Hid (hitB F R M p i j = false) := Lib.hid (by rw [hh]; simp [hmt])
                                rw [hmt] at hc8
                                clear hh hmt
                                go_wp2_with fail
                                go_roundw
                                case rel => exact ⟨j + 1, by go_num, by omega, HB5.out, upto_succ HJ.out HH.out⟩
                                case measure => go_light; simp [intOf]; omega
                              · have HH : Hid (hitB F R M p i j = true) := Lib.hid (by rw [hh]; simp [hmt]; omega)
                                rw [hmt] at hc8
                                clear hh hmt
                                go_wp2_with fail
                                refine bodyPost_ret (results_tmp4 rfl _ _ _) rfl ?_
                                exact ⟨by have h := pairs_found HI.out HJ.out HH.out hik hjk; rw [HP4.out] at h; rw [← HF.out, HF2.out, HP.out 0 (by have := HP4.out; have := HPE.out; omega), h, HP4.out]; rfl, HB05.out⟩
                        · obtain rfl : j = k := by omega
                          go_wp2_with fail
                          go_roundw
                          case rel => exact ⟨i + 1, by go_num, by omega, HW0.out.trans (HB.out.mono HW0.out.size), upto_succ (q := fun i' => ∀ j', j' < j → hitB F R M p i' j' = false) HI.out HJ.out⟩
                          case measure => go_light; simp [intOf]; omega
                  · have HKI := Lib.hid hki
                    go_wp2_with fail
                    go_roundw
                    case rel => exact ⟨i + 1, by go_num, by omega, HW0.out, upto_succ (q := fun i' => ∀ j, j < k → hitB F R M p i' j = false) HI.out (fun j _ => hit_kind HKI.out)⟩
                    case measure => go_light; simp [intOf]; omega
                · obtain rfl : i = k := by omega
                  go_wp2_with fail
                  go_roundw
                  case rel => exact ⟨q + 1, by go_num, by omega, HB.out, fun q' h2 => by
                    by_cases e : q' = q
                    · rw [e, ← HPE.out]; exact pairs_none HI.out
                    · exact HP.out q' (by omega)⟩
                  case measure => go_light; simp [intOf]; omega
            · obtain rfl : q = 2 := by omega
              go_wp2_with fail
              refine bodyPost_ret (results_tmp4 rfl _ _ _) rfl ?_
              exact ⟨by rw [← HF.out, HF2.out, HP.out 0 (by omega), HP.out 1 (by omega)]; rfl, HB7.out.trans ((HW8.out.trans (HB.out.mono HW8.out.size)).mono HB7.out.size)⟩
  · have HZ := Lib.hid hz
    rw [if_neg hz, errV_ne _ hz]
    rw [errV_ne _ hz] at HCK
    clear hz
    go_enter Tryd.func12, Tryd.ntmps12
    go_wp2_with fail
    refine HCK.out.mono ?_
    rintro e w1 ⟨rfl, hb1⟩
    go_wp2_with fail
    refine bodyPost_ret (results_tmp4 rfl _ _ _) rfl ?_
    exact ⟨rfl, hb1⟩
end Go.Proofs.YtkncomfbedbikaaDoor
