/- testimonyref.Reads and the closure of testimonyref.Ahead7. -/
import Derived.Test.YtkncomfbedbikaaDoorCausQ
import Derived.Test.YtkncomfbedbikaaDoorCausC
import Derived.Lib.QuietBelow
namespace Go.Proofs.YtkncomfbedbikaaDoor
open Go.RowKit Go.Sort
def readsR (F : Nat → GOp) (n i : Nat) : Int := if (F i).kind ≠ 1 ∨ (F i).result = 0 then -1 else optN (-2) (firstAt (fun k => writesB (F k) ((F i).key, (F i).result)) n)
theorem read_tree (o q : GOp) :
    ((q.kind == 2) = false ∧ writesB q (o.key, o.result) = false) ∨ ((q.kind == 2) = true ∧ (q.key == o.key) = false ∧ writesB q (o.key, o.result) = false) ∨
    ((q.kind == 2) = true ∧ (q.key == o.key) = true ∧ writesB q (o.key, o.result) = (q.a == o.result)) := by
  unfold writesB
  by_cases h1 : q.kind = 2
  · by_cases h2 : q.key = o.key
    · exact .inr (.inr ⟨by simpa using h1, by simpa using h2, by rw [Bool.eq_iff_iff]; simp [h1, h2]; exact eq_comm⟩)
    · exact .inr (.inl ⟨by simpa using h1, by simpa using h2, by simp [h1]; intro e; exact absurd e.symm h2⟩)
  · exact .inl ⟨by simpa using h1, by simp [h1]⟩
set_option maxRecDepth 100000 in
set_option maxHeartbeats 4000000 in
theorem rReads_any (A : Option Addr) (n c i : Nat) (F : Nat → GOp) (w : World) (hn : n ≤ 60) (hi : i < n) (hA : OpsAt w A n F) :
    Calls Tryd.prog 40 #[.slice A n c, .int .i64 (i : Int)] w fun e w' => e = .returned (.int .i64 (readsR F n i)) ∧ Below w.heap.size w w' := by
  have HA := Lib.hid hA
  obtain ⟨b, off, rfl, hb, hc⟩ := hA i hi
  clear hA
  have HCI : Hid (∀ W, Below w.heap.size w W → CellsAt W b (off + i * 8) (F i)) := Lib.hid fun W h => hc.below h hb
  obtain ⟨f0, f1, f2, f3, f4, f5, f6, f7⟩ := hc
  obtain ⟨o, ho⟩ : ∃ o, F i = o := ⟨_, rfl⟩
  rw [ho] at HCI f0 f1 f2 f3 f4 f5 f6 f7
  have hdef : readsR F n i = if o.kind ≠ 1 ∨ o.result = 0 then -1 else optN (-2) (firstAt (fun k => writesB (F k) (o.key, o.result)) n) := by unfold readsR; rw [ho]
  clear ho
  cases h1 : (o.kind != 1)
  · cases h2 : (o.result == 0)
    · have HS : Hid (readsR F n i = optN (-2) (firstAt (fun k => writesB (F k) (o.key, o.result)) n)) := Lib.hid (by rw [hdef, if_neg]; simp at h1 h2; simp [h1, h2])
      clear hdef
      go_enter Tryd.func40, Tryd.ntmps40
      go_wp2_with fail
      clear f0 f1 f2 f3 f4 f5 f6 f7
      go_loopw [23] (fun x wr => ∃ k : Nat, x = .int .i64 k ∧ k ≤ n ∧ (∀ t, t < k → writesB (F t) (o.key, o.result) = false) ∧ Below w.heap.size w wr) (fun x _ => n - (intOf x).toNat)
      case atStart => exact ⟨0, rfl, by omega, fun t ht => absurd ht (by omega), Below.refl _ _⟩
      case round =>
        obtain ⟨k, rfl, hk, hall, hbw⟩ := hrel
        have HALL := Lib.hid hall
        clear hall
        have HB := Lib.hid hbw
        clear hbw
        by_cases hkn : k < n
        · obtain ⟨b2, off2, hAe, hb2, hc2⟩ := (HA.out.below HB.out) k hkn
          injection hAe with hAe
          injection hAe with hAe1 hAe2
          subst hAe1 hAe2
          obtain ⟨q0, q1, q2, q3, q4, q5, q6, q7⟩ := hc2
          obtain ⟨q, hq⟩ : ∃ q, F k = q := ⟨_, rfl⟩
          rw [hq] at q0 q1 q2 q3 q4 q5 q6 q7
          have HQ := Lib.hid hq
          clear hq
          have HW : Hid (Below w.heap.size w (wr.alloc (opCells q))) := Lib.hid (HB.out.alloc HB.out.size _)
          have HQB := boxAt_new (w := wr) rfl q 95
          have HO := HCI.out _ HW.out
          go_wp2_with fail
          generalize wr.alloc (.cells #[.int .i64 q.proc, .int .i64 q.key, .int .i64 q.kind, .int .i64 q.a, .int .i64 q.b, .int .i64 q.result, .int .i64 q.call, .int .i64 q.ret] 95) = W at *
          obtain ⟨k0, k1, k2, k3, k4, k5, k6, k7⟩ := HQB
          obtain ⟨l0, l1, l2, l3, l4, l5, l6, l7⟩ := HO
          rcases read_tree o q with ⟨d1, hd⟩ | ⟨d1, d2, hd⟩ | ⟨d1, d2, hd⟩
          · have HD := Lib.hid hd
            clear hd
            go_quiet (fail)
            go_wp2
            go_roundw
            case rel => exact ⟨k + 1, by go_num, by omega, upto_succ HALL.out (by rw [HQ.out]; exact HD.out), below_drewN HW.out _⟩
            case measure => go_light; simp [intOf]; omega
          · have HD := Lib.hid hd
            clear hd
            go_quiet (fail)
            go_wp2
            go_roundw
            case rel => exact ⟨k + 1, by go_num, by omega, upto_succ HALL.out (by rw [HQ.out]; exact HD.out), below_drewN HW.out _⟩
            case measure => go_light; simp [intOf]; omega
          · cases d3 : (q.a == o.result)
            · rw [d3] at hd
              have HD := Lib.hid hd
              clear hd
              go_quiet (fail)
              go_wp2
              go_roundw
              case rel => exact ⟨k + 1, by go_num, by omega, upto_succ HALL.out (by rw [HQ.out]; exact HD.out), below_drewN HW.out _⟩
              case measure => go_light; simp [intOf]; omega
            · rw [d3] at hd
              have HD := Lib.hid hd
              clear hd
              go_quiet (fail)
              go_wp2
              go_ret
              exact ⟨by rw [HS.out, firstAt_found HALL.out (by rw [HQ.out]; exact HD.out) hkn]; rfl, below_drewN HW.out _⟩
        · obtain rfl : k = n := by omega
          go_wp2
          go_ret
          exact ⟨by rw [HS.out, firstAt_none HALL.out]; rfl, HB.out⟩
    · have HS : Hid (readsR F n i = -1) := Lib.hid (by rw [hdef, if_pos]; simp at h2; simp [h2])
      clear hdef
      go_enter Tryd.func40, Tryd.ntmps40
      go_wp2
      go_ret
      exact ⟨by rw [HS.out]; rfl, Below.refl _ _⟩
  · have HS : Hid (readsR F n i = -1) := Lib.hid (by rw [hdef, if_pos]; simp at h1; simp [h1])
    clear hdef
    go_enter Tryd.func40, Tryd.ntmps40
    go_wp2
    go_ret
    exact ⟨by rw [HS.out]; rfl, Below.refl _ _⟩
set_option maxRecDepth 100000 in
set_option maxHeartbeats 4000000 in
theorem lead7_any (g : Nat) (A : Option Addr) (n c i k : Nat) (F : Nat → GOp) (w : World) (hn : n ≤ 60) (hi : i < n) (hk : k < n) (hA : OpsAt w A n F) (hg : w.cell? ⟨g, 0, none⟩ = some (.slice A n c)) :
    Calls Tryd.prog 92 #[.int .i64 (i : Int), .int .i64 (k : Int), .pointer (some ⟨g, 0, none⟩)] w fun e w' => e = .returned (.bool (leadB F (readsR F n) i k)) ∧ Below w.heap.size w w' := by
  have HR := Lib.hid (fun W (h : Below w.heap.size w W) => rReads_any A n c k F W hn hk (hA.below h))
  obtain ⟨b, off, hAe, hb, hci⟩ := hA i hi
  subst hAe
  obtain ⟨b2, off2, hAe, hb2, hck⟩ := hA k hk
  injection hAe with hAe
  injection hAe with hAe1 hAe2
  subst hAe1 hAe2
  clear hA
  obtain ⟨f0, _, _, _, _, _, f6, _⟩ := hci
  obtain ⟨l0, _, _, _, _, _, l6, _⟩ := hck
  have ht := lead_tree F (readsR F n) i k
  generalize (F i).proc = pi at *
  generalize (F k).proc = pk at *
  generalize (F i).call = ci at *
  generalize (F k).call = ck at *
  have hl := cell_lt hg
  have g0 := fun d os => cell_regrown hg d os
  have g1 := fun d os => cell_regrown f0 d os
  have g2 := fun d os => cell_regrown l0 d os
  have g3 := fun d os => cell_regrown f6 d os
  have g4 := fun d os => cell_regrown l6 d os
  clear hg f0 l0 f6 l6
  rcases ht with ⟨d1, d2, hd⟩ | ⟨d1, d2, hd⟩ | ⟨d1, hd⟩
  all_goals
    have HD := Lib.hid hd
    clear hd
    go_enter Tryd.func92, Tryd.ntmps92
    go_wp2_with fail
    refine wp_region_quiet_below (by kernel_rfl) (by kernel_rfl) ?_
    repeat (go_big_quiet_step ((go_at_call 40; exact Calls.regrown_of (HR.out _ (below_regrown _ _ _)))))
    refine wpQuiet_nil ?_
    intro w' hw'
    have HW : Hid (Below w.heap.size w w') := Lib.hid (by obtain ⟨p, rfl⟩ := hw'; exact below_regrown _ _ _)
    clear hw'
    go_wp2
    go_ret
    exact ⟨by rw [HD.out]; rfl, HW.out⟩
end Go.Proofs.YtkncomfbedbikaaDoor
