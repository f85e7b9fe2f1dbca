/- testimonyref.GraphOrder: all nodes, each ahead of those that it leads to. -/
import Derived.Test.YtkncomfbedbikaaDoorIsoE
import Derived.Test.YtkncomfbedbikaaDoorCausB
import Derived.OneCell
namespace Go.Proofs.YtkncomfbedbikaaDoor
open Go.RowKit
/-- v may come next: it is not out yet, and whatever leads to it is. -/
def ordReady (g : Nat → Nat → Bool) (n : Nat) (out : List Nat) (v : Nat) : Bool := !out.contains v && allB (fun u => out.contains u || !g u v) n
/-- The order after t rounds. -/
def ordL (g : Nat → Nat → Bool) (n : Nat) : Nat → Option (List Nat)
  | 0 => some []
  | t + 1 => match ordL g n t with
    | none => none
    | some out => match firstAt (ordReady g n out) n with
      | none => none
      | some v => some (out ++ [v])
theorem ordL_none {g : Nat → Nat → Bool} {n t : Nat} {out : List Nat} (h : ordL g n t = some out) (h2 : firstAt (ordReady g n out) n = none) : ∀ d, ordL g n (t + 1 + d) = none
  | 0 => by simp [ordL, h, h2]
  | d + 1 => by
    have := ordL_none h h2 d
    rw [show t + 1 + (d + 1) = (t + 1 + d) + 1 by omega]
    simp [ordL, this]
theorem ordL_some {g : Nat → Nat → Bool} {n t v : Nat} {out : List Nat} (h : ordL g n t = some out) (h2 : firstAt (ordReady g n out) n = some v) : ordL g n (t + 1) = some (out ++ [v]) := by
  simp [ordL, h, h2]
theorem ordL_len {g : Nat → Nat → Bool} {n : Nat} : ∀ {t : Nat} {out : List Nat}, ordL g n t = some out → out.length = t ∧ ∀ v ∈ out, v < n
  | 0, out, h => by
    simp [ordL] at h
    subst h
    simp
  | t + 1, out, h => by
    unfold ordL at h
    cases h1 : ordL g n t with
    | none => rw [h1] at h; cases h
    | some o =>
      rw [h1] at h
      simp only at h
      cases h2 : firstAt (ordReady g n o) n with
      | none => rw [h2] at h; cases h
      | some v =>
        rw [h2] at h
        cases h
        obtain ⟨h3, h4⟩ := ordL_len h1
        refine ⟨by simp [h3], fun u hu => ?_⟩
        rcases List.mem_append.1 hu with hu | hu
        · exact h4 u hu
        · simp at hu
          rw [hu]
          exact (firstAt_spec h2).1
/-- x is the first of lo, .., n - 1 that p has; -1: there is none. -/
def IsFirst (p : Nat → Bool) (lo n : Nat) (x : Int) : Prop :=
  (x = -1 ∧ ∀ v, lo ≤ v → v < n → p v = false) ∨ ∃ v : Nat, x = v ∧ lo ≤ v ∧ v < n ∧ p v = true ∧ ∀ u, lo ≤ u → u < v → p u = false
theorem IsFirst.step {p : Nat → Bool} {lo n : Nat} {x : Int} (h : IsFirst p (lo + 1) n x) (hp : p lo = false) : IsFirst p lo n x := by
  rcases h with ⟨rfl, h⟩ | ⟨v, rfl, h1, h2, h3, h4⟩
  · refine .inl ⟨rfl, fun v hv hn => ?_⟩
    by_cases e : v = lo
    · rw [e]; exact hp
    · exact h v (by omega) hn
  · refine .inr ⟨v, rfl, by omega, h2, h3, fun u hu hn => ?_⟩
    by_cases e : u = lo
    · rw [e]; exact hp
    · exact h4 u (by omega) hn
theorem IsFirst.hit {p : Nat → Bool} {lo n : Nat} (hl : lo < n) (hp : p lo = true) : IsFirst p lo n lo := .inr ⟨lo, rfl, Nat.le_refl _, hl, hp, fun u h1 h2 => by omega⟩
theorem IsFirst.first {p : Nat → Bool} {n : Nat} {x : Int} (h : IsFirst p 0 n x) : (x = -1 ∧ firstAt p n = none) ∨ ∃ v : Nat, x = v ∧ v < n ∧ firstAt p n = some v := by
  rcases h with ⟨rfl, h⟩ | ⟨v, rfl, h1, h2, h3, h4⟩
  · exact .inl ⟨rfl, firstAt_none fun v hv => h v (Nat.zero_le _) hv⟩
  · exact .inr ⟨v, rfl, h2, firstAt_found (fun u hu => h4 u (Nat.zero_le _) hu) h3 h2⟩
theorem allB_succ (p : Nat → Bool) (k : Nat) : allB p (k + 1) = (allB p k && p k) := by
  unfold allB
  rw [List.range_succ]
  simp
theorem contains_snoc (out : List Nat) (v u : Nat) : (out ++ [v]).contains u = (if u = v then true else out.contains u) := by
  by_cases e : u = v
  · subst e; simp
  · rw [if_neg e]
    simp [e]
/-- A list of numbers as the values of its cells. -/
def intVals (l : List Nat) : List Value := l.map fun (v : Nat) => .int .i64 (v : Int)
theorem intVals_snoc (l : List Nat) (v : Nat) : intVals l ++ [.int .i64 (v : Int)] = intVals (l ++ [v]) := by simp [intVals]
theorem own_list {w : World} {base n : Nat} {v : Value} {l : List Nat} (h : w.ownsRow base 3 1 v n (intVals l)) : ∃ A cap, v = .slice A n cap ∧ n ≤ cap ∧ IntsAt w A n (fun i => (l.getD i 0 : Nat)) := by
  rcases h.2 with ⟨rfl, rfl⟩ | ⟨g, cap, cur, rfl, hb, hg, hnc, hc, hs, hx⟩
  · exact ⟨none, 0, rfl, Nat.le_refl _, fun i hi => absurd hi (by omega)⟩
  · refine ⟨_, cap, rfl, hnc, fun t ht => ⟨g, 0, rfl, (Array.getElem?_eq_some_iff.1 hg).1, ?_⟩⟩
    have hl : l.length = n := by have := h.1; simpa [intVals] using this
    have h1 : (cur.toList.take (n * 1))[t]? = some (.int .i64 ((l.getD t 0 : Nat) : Int)) := by
      rw [hx]
      unfold intVals
      rw [List.getElem?_map, List.getElem?_eq_getElem (by omega)]
      simp [List.getD, List.getElem?_eq_getElem (show t < l.length by omega)]
    rw [List.getElem?_take] at h1
    rw [if_pos (by omega)] at h1
    simp [World.cell?, hg]
    simpa using h1
def GOrderPost (g : Nat → Nat → Bool) (n : Nat) (w : World) (e : Ending) (w' : World) : Prop :=
  (ordL g n n = none ∧ e = .returned (.tuple #[.slice none 0 0, .bool false]) ∨ ∃ out A c, ordL g n n = some out ∧ e = .returned (.tuple #[.slice A n c, .bool true]) ∧ n ≤ c ∧ IntsAt w' A n (fun i => (out.getD i 0 : Nat))) ∧ Below w.heap.size w w'
set_option maxRecDepth 100000 in
set_option maxHeartbeats 8000000 in
theorem GraphOrder_any (A : Option Addr) (n c : Nat) (g : Nat → Nat → Bool) (w : World) (hn : n ≤ 1000) (hA : BoolssAt w A n g) :
    Calls Tryd.prog 72 #[.slice A n c] w (GOrderPost g n w) := by
  have HA := Lib.hid hA
  clear hA
  have hmk1 := make_bools n (by omega)
  obtain ⟨i0, hi0, hz0, hz1, hz2⟩ := info_parts int_info
  have HX : Hid (Below w.heap.size w (w.alloc (.cells (madeCells #[.bool false] n) 4)) ∧ (w.alloc (.cells (madeCells #[.bool false] n) 4)).rowIs w.heap.size 4 n (fun v => .bool (([] : List Nat).contains v))) := Lib.hid ⟨(Below.refl _ _).alloc (Nat.le_refl _) _, (World.rowIs_made w (.bool false) n 4).congr fun i _ => by simp⟩
  go_enter Tryd.func72, Tryd.ntmps72
  go_wp2_with fail
  go_loopw [4, 15] (fun v x wr => ∃ (t : Nat) (out : List Nat), x = .int .i64 t ∧ t ≤ n ∧ ordL g n t = some out ∧ Below w.heap.size w wr ∧ wr.rowIs w.heap.size 4 n (fun u => .bool (out.contains u)) ∧ wr.ownsRow w.heap.size 3 1 v t (intVals out)) (fun _ x _ => n - (intOf x).toNat)
  case atStart => exact ⟨0, [], rfl, by omega, rfl, HX.out.1, HX.out.2, own_nil _ _ _ _⟩
  case round =>
    obtain ⟨wo, rfl⟩ : ∃ wo : World, wo = wr := ⟨_, rfl⟩
    obtain ⟨t, out, rfl, ht, hord, hbw, hrow, hown⟩ := hrel
    have HO := Lib.hid hord
    have HB := Lib.hid hbw
    have HR := Lib.hid hrow
    have HV := Lib.hid hown
    have hgl := hrow.lt
    clear hord hbw hrow hown
    by_cases htn : t < n
    · go_wp2_with fail
      go_loop [6, 7] (fun x y => ∃ (z : Int), y = .int .i64 z ∧ -1 ≤ z ∧ z < n ∧ ∃ at' : Int, x = .int .i64 at' ∧ IsFirst (ordReady g n out) (z + 1).toNat n at') (fun _ y => (intOf y + 1).toNat)
      case atStart => exact ⟨(n : Int) - 1, rfl, by omega, by omega, -1, rfl, .inl ⟨rfl, fun v h1 h2 => by omega⟩⟩
      case round =>
        obtain ⟨z, rfl, hz1', hz2', at', rfl, hfirst⟩ := hrel
        have HF := Lib.hid hfirst
        clear hfirst
        by_cases hz0' : 0 ≤ z
        · obtain ⟨i, rfl⟩ : ∃ i : Nat, z = i := ⟨z.toNat, by omega⟩
          have hin : i < n := by omega
          have hp := HR.out.cell hin
          obtain ⟨pi, hpi⟩ : ∃ b, out.contains i = b := ⟨_, rfl⟩
          rw [hpi] at hp
          have HPI := Lib.hid hpi
          clear hz1' hz2' hz0' hpi
          go_wp2_with fail
          go_loop [8, 31] (fun x y => ∃ k : Nat, y = .int .i64 k ∧ k ≤ n ∧ ∃ mb : Bool, x = .bool mb ∧ mb = (!pi && allB (fun u => out.contains u || !g u i) k)) (fun _ y => n - (intOf y).toNat)
          case atStart => exact ⟨0, rfl, by omega, !pi, rfl, by simp [allB]⟩
          case round =>
            obtain ⟨k, rfl, hk, mb, rfl, hmb⟩ := hrel
            have HMB := Lib.hid hmb
            clear hmb
            by_cases hkn : k < n
            · have hpk := HR.out.cell hkn
              obtain ⟨b, off, rfl, hb, b2, off2, c2, g0, _, hb2, hg0⟩ := (HA.out.below HB.out) k hkn
              have g1 := hg0 i hin
              have HS := Lib.hid (allB_succ (fun u => out.contains u || !g u i) k)
              obtain ⟨pk, hpk'⟩ : ∃ b, out.contains k = b := ⟨_, rfl⟩
              obtain ⟨gk, hgk⟩ : ∃ b, g k i = b := ⟨_, rfl⟩
              rw [hpk'] at hpk
              rw [hgk] at g1
              have HN : Hid ((!pi && allB (fun u => out.contains u || !g u i) (k + 1)) = (mb && (pk || !gk))) := Lib.hid (by rw [HS.out, HMB.out, hpk', hgk, Bool.and_assoc])
              clear hg0 hpk' hgk
              cases mb
              · go_wp2
                go_round
                case rel => exact ⟨k + 1, by go_num, by omega, _, rfl, by rw [HN.out]; rfl⟩
                case measure => simp [intOf] <;> omega
              · cases pk
                · cases gk
                  all_goals
                    go_wp2
                    go_round
                    case rel => exact ⟨k + 1, by go_num, by omega, _, rfl, by rw [HN.out]; rfl⟩
                    case measure => simp [intOf] <;> omega
                · go_wp2
                  go_round
                  case rel => exact ⟨k + 1, by go_num, by omega, _, rfl, by rw [HN.out]; rfl⟩
                  case measure => simp [intOf] <;> omega
            · obtain rfl : k = n := by omega
              have HRD : Hid (ordReady g k out i = mb) := Lib.hid (by rw [HMB.out]; unfold ordReady; rw [HPI.out])
              cases mb
              · go_wp2
                go_round
                case rel => exact ⟨(i : Int) - 1, rfl, by omega, by omega, at', rfl, by
                  rw [show ((i : Int) - 1 + 1).toNat = i by omega]
                  exact IsFirst.step (by rw [show i + 1 = ((i : Int) + 1).toNat by omega]; exact HF.out) HRD.out⟩
                case measure => simp [intOf] <;> omega
              · go_wp2
                go_round
                case rel => exact ⟨(i : Int) - 1, rfl, by omega, by omega, i, rfl, by
                  rw [show ((i : Int) - 1 + 1).toNat = i by omega]
                  exact IsFirst.hit hin HRD.out⟩
                case measure => simp [intOf] <;> omega
        · obtain rfl : z = -1 := by omega
          rcases IsFirst.first HF.out with ⟨rfl, hnone⟩ | ⟨v, rfl, hvn, hsome⟩
          · have HNN : Hid (ordL g n n = none) := Lib.hid (by
              have := ordL_none HO.out hnone (n - (t + 1))
              rwa [show t + 1 + (n - (t + 1)) = n by omega] at this)
            clear hnone
            go_wp2
            go_ret2
            exact ⟨.inl ⟨HNN.out, rfl⟩, HB.out⟩
          · have HNX := Lib.hid (ordL_some HO.out hsome)
            have hpv := HR.out.cell hvn
            have hpf := HR.out.frozen v
            clear hsome
            go_wp2_with (at_builtin; refine wpList_append_own _ rfl _ _ 34 rfl w.heap.size 3 i0 (.int .i64 0) 1 8 Tryd.underlying34 hi0 hz0 hz1 hz2 rfl (by decide) _ _ _ rfl ((ownsRow_setCell_other HV.out (a := ⟨w.heap.size, v, none⟩) (own_type HV.out HR.out (by decide)).symm _).alloc _) ⟨wo.heap.size, 0, none⟩ 1 1 [.int .i64 (v : Int)] rfl rfl (news1v (by simp [World.setCell]) _ _) (by intro u hu; simp at hu; rw [hu]; rfl) (by unfold maxLen; omega) (by omega) (by simp [World.setCell]; have := HB.out.size; omega) ?_; intro v' w1 hown1 hg1 _; have HV1 := Lib.hid hown1; have HG1 := Lib.hid hg1; clear hown1 hg1)
            go_roundw
            case rel =>
              refine ⟨t + 1, out ++ [v], by go_num, by omega, HNX.out, (((HB.out.setCell (Nat.le_refl _) _).alloc (by simp [World.setCell]; exact HB.out.size) _).grown HG1.out (by simp [World.setCell]; have := HB.out.size; omega) (own_ge HV.out)), ?_, by rw [← intVals_snoc]; exact HV1.out⟩
              refine (rowIs_grown ((HR.out.set v (.bool true)).alloc _) HG1.out (own_type HV.out HR.out (by decide))).congr fun u _ => ?_
              rw [contains_snoc]
              by_cases e : u = v <;> simp [e]
            case measure => go_light; simp [intOf] <;> omega
    · obtain rfl : t = n := by omega
      obtain ⟨R, cR, rfl, hcR, hints⟩ := own_list HV.out
      have HI := Lib.hid hints
      clear hints
      go_wp2
      go_ret2
      exact ⟨.inr ⟨out, R, cR, HO.out, rfl, hcR, HI.out⟩, HB.out⟩
end Go.Proofs.YtkncomfbedbikaaDoor
