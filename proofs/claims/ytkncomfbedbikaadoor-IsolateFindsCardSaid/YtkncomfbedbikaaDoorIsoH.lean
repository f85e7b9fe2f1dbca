/- graph.Check, graph.Order: all nodes, each ahead of those that it leads to. -/
import Derived.Test.YtkncomfbedbikaaDoorIsoG
import Derived.Deep.LoopGhost
import Derived.WalkMore
namespace Go.Proofs.YtkncomfbedbikaaDoor
open Go.RowKit
attribute [local go_sem] eq_nil ne_nil nil_eq_nil nil_ne_nil
set_option maxRecDepth 100000 in
set_option maxHeartbeats 4000000 in
theorem gCheck_any (A : Option Addr) (n c : Nat) (g : Nat → Nat → Bool) (w : World) (hn : n ≤ 40) (hA : BoolssAt w A n g) :
    Calls Tryd.prog 113 #[.slice A n c] w fun e w' => e = .returned .nilIface ∧ w = w' := by
  have HA := Lib.hid hA
  clear hA
  have hd : decide ((40 : Int) < (n : Int)) = false := by simp; omega
  go_enter Tryd.func113, Tryd.ntmps113
  go_wp2_with fail
  go_loop [11] (fun x => ∃ i : Nat, x = .int .i64 i ∧ i ≤ n) (fun x => n - (intOf x).toNat)
  case atStart => exact ⟨0, rfl, by omega⟩
  case round =>
    obtain ⟨i, rfl, hi⟩ := hrel
    by_cases hin : i < n
    · obtain ⟨b, off, rfl, hb, b2, off2, c2, g0, _, hb2, hg0⟩ := HA.out i hin
      clear hg0
      go_wp2
      go_round
      case rel => exact ⟨i + 1, by go_num, by omega⟩
      case measure => simp [intOf] <;> omega
    · obtain rfl : i = n := by omega
      go_wp2
      go_ret
      exact ⟨rfl, rfl⟩
def GOrdPost (g : Nat → Nat → Bool) (n : Nat) (w : World) (e : Ending) (w' : World) : Prop :=
  (ordL g n n = none ∧ e = .returned (.tuple #[.slice none 0 0, .iface 23 (.int .i64 11)]) ∨ ∃ out A c, ordL g n n = some out ∧ e = .returned (.tuple #[.slice A n c, .nilIface]) ∧ w.heap.size ≤ w.heap.size ∧ w'.ownsRow w.heap.size 3 1 (.slice A n c) n (intVals out)) ∧ Below w.heap.size w w'
set_option maxRecDepth 100000 in
set_option maxHeartbeats 8000000 in
theorem gOrder_any (A : Option Addr) (n c : Nat) (g : Nat → Nat → Bool) (w : World) (hn : n ≤ 40) (hA : BoolssAt w A n g) :
    Calls Tryd.prog 75 #[.slice A n c] w (GOrdPost g n w) := by
  have HA := Lib.hid hA
  have HCK := Lib.hid (gCheck_any A n c g w hn hA)
  clear hA
  have hmk1 := make_bools n (by omega)
  obtain ⟨i0, hi0, hz0, hz1, hz2⟩ := info_parts int_info
  have HX : Hid (Below w.heap.size w (w.alloc (.cells (madeCells #[.bool false] n) 4)) ∧ (w.alloc (.cells (madeCells #[.bool false] n) 4)).rowIs w.heap.size 4 n (fun v => .bool (([] : List Nat).contains v))) := Lib.hid ⟨(Below.refl _ _).alloc (Nat.le_refl _) _, (World.rowIs_made w (.bool false) n 4).congr fun i _ => by simp⟩
  go_enter Tryd.func75, Tryd.ntmps75
  go_wp2_with (go_at_call 113; refine HCK.out.mono ?_; rintro e w' ⟨rfl, rfl⟩)
  go_loopw [6, 20] (fun v x wr => ∃ (t : Nat) (out : List Nat), x = .int .i64 t ∧ t ≤ n ∧ ordL g n t = some out ∧ Below w.heap.size w wr ∧ wr.rowIs w.heap.size 4 n (fun u => .bool (out.contains u)) ∧ wr.ownsRow w.heap.size 3 1 v t (intVals out)) (fun _ x _ => n - (intOf x).toNat)
  case atStart => exact ⟨0, [], rfl, by omega, rfl, HX.out.1, HX.out.2, own_nil _ _ _ _⟩
  case round =>
    obtain ⟨wo, rfl⟩ : ∃ wo : World, wo = wr := ⟨_, rfl⟩
    obtain ⟨t, out, rfl, ht, hord, hbw, hrow, hown⟩ := hrel
    have HO := Lib.hid hord
    have HB := Lib.hid hbw
    have HR := Lib.hid hrow
    have HV := Lib.hid hown
    have hgl := hrow.lt
    clear hord hbw hrow hown
    by_cases htn : t < n
    · go_wp2_with fail
      go_step3
      go_wp2_with fail
      go_step3
      go_wp2_with fail
      go_loopg [7, 24] n (fun gh x y wx => ∃ v : Nat, v + gh = n ∧ y = .int .i64 v ∧ x = .int .i64 (-1) ∧ (∀ u, u < v → ordReady g n out u = false) ∧ wx = wo)
      case atStart => exact ⟨0, by omega, rfl, rfl, fun u hu => absurd hu (by omega), rfl⟩
      case round =>
        obtain ⟨v, hvg, rfl, rfl, hall, rfl⟩ := hrel
        have HALL := Lib.hid hall
        clear hall
        cases gk with
        | zero =>
          obtain rfl : v = n := by omega
          have HNN : Hid (ordL g v v = none) := Lib.hid (by
            have := ordL_none HO.out (firstAt_none HALL.out) (v - (t + 1))
            rwa [show t + 1 + (v - (t + 1)) = v by omega] at this)
          go_wp2
          rw [Exit.noGoto_ret]
          go_ret2
          exact ⟨.inl ⟨HNN.out, rfl⟩, HB.out⟩
        | succ gh =>
          have hvn : v < n := by omega
          have hp := HR.out.cell hvn
          obtain ⟨pv, hpv⟩ : ∃ b, out.contains v = b := ⟨_, rfl⟩
          rw [hpv] at hp
          have HPV := Lib.hid hpv
          clear hpv
          cases pv
          · go_wp2_with fail
            go_loopg [33] n (fun g2 x wy => ∃ u : Nat, u + g2 = n ∧ x = .int .i64 u ∧ (∀ s, s < u → (out.contains s || !g s v) = true) ∧ wy = wr)
            case atStart => exact ⟨0, by omega, rfl, fun u hu => absurd hu (by omega), rfl⟩
            case round =>
              obtain ⟨u, hug, rfl, hall2, rfl⟩ := hrel
              have HALL2 := Lib.hid hall2
              clear hall2
              cases gk with
              | zero =>
                obtain rfl : u = n := by omega
                have hsome : firstAt (ordReady g u out) u = some v := firstAt_found HALL.out (by unfold ordReady; rw [HPV.out, allB_true HALL2.out]; rfl) hvn
                have HNX := Lib.hid (ordL_some HO.out hsome)
                have hpf := HR.out.frozen v
                clear hsome
                go_wp2_with (at_builtin; refine wpList_append_own _ rfl _ _ 34 rfl w.heap.size 3 i0 (.int .i64 0) 1 8 Tryd.underlying34 hi0 hz0 hz1 hz2 rfl (by decide) _ _ _ rfl ((ownsRow_setCell_other HV.out (a := ⟨w.heap.size, v, none⟩) (own_type HV.out HR.out (by decide)).symm _).alloc _) ⟨wr.heap.size, 0, none⟩ 1 1 [.int .i64 (v : Int)] rfl rfl (news1v (by simp [World.setCell]) _ _) (by intro u hu; simp at hu; rw [hu]; rfl) (by unfold maxLen; omega) (by omega) (by simp [World.setCell]; have := HB.out.size; omega) ?_; intro v' w1 hown1 hg1 _; have HV1 := Lib.hid hown1; have HG1 := Lib.hid hg1; clear hown1 hg1)
                rw [Exit.noGoto_normal]
                go_wp2
                go_roundw
                case rel =>
                  refine ⟨t + 1, out ++ [v], by go_num, by omega, HNX.out, (((HB.out.setCell (Nat.le_refl _) _).alloc (by simp [World.setCell]; exact HB.out.size) _).grown HG1.out (by simp [World.setCell]; have := HB.out.size; omega) (own_ge HV.out)), ?_, by rw [← intVals_snoc]; exact HV1.out⟩
                  refine (rowIs_grown ((HR.out.set v (.bool true)).alloc _) HG1.out (own_type HV.out HR.out (by decide))).congr fun u _ => ?_
                  rw [contains_snoc]
                  by_cases e : u = v <;> simp [e]
                case measure => go_light; simp [intOf] <;> omega
              | succ g2 =>
                have hun : u < n := by omega
                have hpk := HR.out.cell hun
                obtain ⟨b, off, rfl, hb, b2, off2, c2, g0, _, hb2, hg0⟩ := (HA.out.below HB.out) u hun
                have g1 := hg0 v hvn
                obtain ⟨pk, hpk'⟩ : ∃ b, out.contains u = b := ⟨_, rfl⟩
                obtain ⟨gk, hgk⟩ : ∃ b, g u v = b := ⟨_, rfl⟩
                rw [hpk'] at hpk
                rw [hgk] at g1
                have HPK := Lib.hid hpk'
                have HGK := Lib.hid hgk
                clear hg0 hpk' hgk
                cases pk
                · cases gk
                  · go_wp2
                    go_roundg g2
                    case rel => exact ⟨u + 1, by omega, by go_num, upto_succ HALL2.out (by rw [HPK.out, HGK.out]; rfl), rfl⟩
                    case measure => omega
                  · have HRD : Hid (ordReady g n out v = false) := Lib.hid (by unfold ordReady; rw [allB_false (p := fun u => out.contains u || !g u v) hun (by rw [HPK.out, HGK.out]; rfl)]; simp)
                    go_wp2
                    go_roundg gh
                    case rel => exact ⟨v + 1, by omega, by go_num, rfl, upto_succ HALL.out HRD.out, rfl⟩
                    case measure => omega
                · go_wp2
                  go_roundg g2
                  case rel => exact ⟨u + 1, by omega, by go_num, upto_succ HALL2.out (by rw [HPK.out]; rfl), rfl⟩
                  case measure => omega
          · have HRD : Hid (ordReady g n out v = false) := Lib.hid (by unfold ordReady; rw [HPV.out]; rfl)
            go_wp2
            go_roundg gh
            case rel => exact ⟨v + 1, by omega, by go_num, rfl, upto_succ HALL.out HRD.out, rfl⟩
            case measure => omega
    · obtain rfl : t = n := by omega
      obtain ⟨R, cR, hveq, hcR, hints⟩ := own_list HV.out
      subst hveq
      clear hints
      go_wp2
      go_ret2
      exact ⟨.inr ⟨out, R, cR, HO.out, rfl, Nat.le_refl _, HV.out⟩, HB.out⟩
end Go.Proofs.YtkncomfbedbikaaDoor
