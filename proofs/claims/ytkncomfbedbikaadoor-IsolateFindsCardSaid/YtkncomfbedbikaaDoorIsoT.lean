/- Plain: there is an order of all nodes exactly where nothing leads back to itself. · testimonyref.Ahead7: what comes ahead of what, gone over by walks. · testimonyref.GraphClosed, testimonyref.round. -/
import Derived.Test.YtkncomfbedbikaaDoorIsoG
import Derived.Test.YtkncomfbedbikaaDoorReach
import Derived.Test.YtkncomfbedbikaaDoorWalks
import Derived.Test.YtkncomfbedbikaaDoorCausE
import Derived.Test.YtkncomfbedbikaaDoorIsoH
namespace Go.Proofs.YtkncomfbedbikaaDoor
theorem sub_len : ∀ {l l' : List Nat}, l.Nodup → (∀ x ∈ l, x ∈ l') → l.length ≤ l'.length
  | [], l', _, _ => Nat.zero_le _
  | a :: l, l', hd, hs => by
    have ha : a ∈ l' := hs a List.mem_cons_self
    have h1 := List.nodup_cons.1 hd
    have ih := sub_len (l := l) (l' := l'.erase a) h1.2 (fun x hx => (List.mem_erase_of_ne (fun (e : x = a) => h1.1 (by rw [← e]; exact hx))).2 (hs x (List.mem_cons_of_mem _ hx)))
    have := List.length_erase_of_mem ha
    have := List.length_pos_of_mem ha
    simp
    omega
theorem ready_iff {g : Nat → Nat → Bool} {n : Nat} {out : List Nat} {v : Nat} : ordReady g n out v = true ↔ v ∉ out ∧ ∀ u, u < n → g u v = true → u ∈ out := by
  unfold ordReady allB
  simp only [Bool.and_eq_true, List.all_eq_true, List.mem_range, Bool.or_eq_true, Bool.not_eq_true', List.contains_iff_mem]
  constructor
  · rintro ⟨h1, h2⟩
    refine ⟨by simpa using h1, fun u hu hg => ?_⟩
    rcases h2 u hu with h | h
    · exact h
    · rw [hg] at h; cases h
  · rintro ⟨h1, h2⟩
    refine ⟨by simpa using h1, fun u hu => ?_⟩
    cases hg : g u v
    · exact .inr rfl
    · exact .inl (h2 u hu hg)
theorem ordL_good {g : Nat → Nat → Bool} {n : Nat} : ∀ {t : Nat} {out : List Nat}, ordL g n t = some out → out.Nodup ∧ (∀ v ∈ out, ¬ Reach g n v v) ∧ ∀ u v, u < n → v ∈ out → Reach g n u v → u ∈ out
  | 0, out, h => by
    simp [ordL] at h
    subst h
    simp
  | t + 1, out, h => by
    unfold ordL at h
    cases h1 : ordL g n t with
    | none => rw [h1] at h; cases h
    | some o =>
      rw [h1] at h
      simp only at h
      cases h2 : firstAt (ordReady g n o) n with
      | none => rw [h2] at h; cases h
      | some v =>
        rw [h2] at h
        cases h
        obtain ⟨i1, i2, i3⟩ := ordL_good h1
        obtain ⟨hv, hr, _⟩ := firstAt_spec h2
        obtain ⟨r1, r2⟩ := ready_iff.1 hr
        have hin : ∀ u, u < n → Reach g n u v → u ∈ o := fun u hu hR => by
          cases hR with
          | one h _ => exact r2 u hu h
          | on h h' _ => exact i3 u _ hu (r2 _ h.lt h') h
        refine ⟨?_, fun x hx hR => ?_, fun u x hu hx hR => ?_⟩
        · rw [List.nodup_append]
          refine ⟨i1, by simp, fun a ha b hb => ?_⟩
          simp at hb
          rw [hb]
          exact fun e => r1 (e ▸ ha)
        · rcases List.mem_append.1 hx with hx | hx
          · exact i2 x hx hR
          · simp at hx
            subst hx
            exact r1 (hin x hv hR)
        · rcases List.mem_append.1 hx with hx | hx
          · exact List.mem_append_left _ (i3 u x hu hx hR)
          · simp at hx
            subst hx
            exact List.mem_append_left _ (hin u hu hR)
theorem ordL_stuck {g : Nat → Nat → Bool} {n : Nat} : ∀ {t : Nat}, ordL g n t = none → ∃ s out, s < t ∧ ordL g n s = some out ∧ firstAt (ordReady g n out) n = none
  | 0, h => by simp [ordL] at h
  | t + 1, h => by
    cases h1 : ordL g n t with
    | none =>
      obtain ⟨s, out, h2, h3⟩ := ordL_stuck h1
      exact ⟨s, out, by omega, h3⟩
    | some o =>
      unfold ordL at h
      rw [h1] at h
      simp only at h
      cases h2 : firstAt (ordReady g n o) n with
      | none => exact ⟨t, o, by omega, h1, h2⟩
      | some v => rw [h2] at h; cases h
theorem firstAt_no {p : Nat → Bool} {n : Nat} (h : firstAt p n = none) : ∀ v, v < n → p v = false := fun v hv => firstAt_spec.firstAt_isNone h v hv
theorem range_nodup (n : Nat) : (List.range n).Nodup := List.nodup_range
/-- There is no order: something leads back to itself; and the other way round. -/
theorem ordL_round {g : Nat → Nat → Bool} {n : Nat} : ordL g n n = none ↔ ∃ i, i < n ∧ Reach g n i i := by
  constructor
  · intro h
    obtain ⟨s, out, hs, ho, hf⟩ := ordL_stuck h
    have hno := firstAt_no hf
    have hpred : ∀ v, v < n → v ∉ out → ∃ u, u < n ∧ u ∉ out ∧ g u v = true := fun v hv hvo => by
      apply Classical.byContradiction
      intro hc
      have := hno v hv
      rw [ready_iff.2 ⟨hvo, fun u hu hg => Classical.byContradiction fun hu' => hc ⟨u, hu, hu', hg⟩⟩] at this
      cases this
    have hx : ∃ v, v < n ∧ v ∉ out := by
      apply Classical.byContradiction
      intro hc
      have := sub_len (l := List.range n) (l' := out) (range_nodup n) (fun x hx => Classical.byContradiction fun hx' => hc ⟨x, List.mem_range.1 hx, hx'⟩)
      rw [List.length_range, (ordL_len ho).1] at this
      omega
    apply Classical.byContradiction
    intro hc
    have hch : ∀ k, ∃ x l, (x :: l).Nodup ∧ l.length = k ∧ ∀ y ∈ x :: l, y < n ∧ y ∉ out ∧ (y = x ∨ Reach g n x y) := fun k => by
      induction k with
      | zero =>
        obtain ⟨v, h1, h2⟩ := hx
        exact ⟨v, [], by simp, rfl, fun y hy => by simp at hy; subst hy; exact ⟨h1, h2, .inl rfl⟩⟩
      | succ k ih =>
        obtain ⟨x, l, h1, h2, h3⟩ := ih
        obtain ⟨u, u1, u2, u3⟩ := hpred x (h3 x List.mem_cons_self).1 (h3 x List.mem_cons_self).2.1
        have hux : Reach g n u x := .one u3 (h3 x List.mem_cons_self).1
        have hall : ∀ y ∈ x :: l, Reach g n u y := fun y hy => by
          rcases (h3 y hy).2.2 with rfl | hR
          · exact hux
          · exact hux.trans hR
        refine ⟨u, x :: l, List.nodup_cons.2 ⟨fun hm => hc ⟨u, u1, hall u hm⟩, h1⟩, by simp [h2], fun y hy => ?_⟩
        rcases List.mem_cons.1 hy with rfl | hy
        · exact ⟨u1, u2, .inl rfl⟩
        · exact ⟨(h3 y hy).1, (h3 y hy).2.1, .inr (hall y hy)⟩
    obtain ⟨x, l, h1, h2, h3⟩ := hch n
    have := sub_len (l' := List.range n) h1 (fun y hy => List.mem_range.2 (h3 y hy).1)
    simp at this
    omega
  · rintro ⟨i, hi, hR⟩
    cases h : ordL g n n with
    | none => rfl
    | some out =>
      exfalso
      obtain ⟨h1, h2, _⟩ := ordL_good h
      by_cases hm : i ∈ out
      · exact h2 i hm hR
      · have := sub_len (l := i :: out) (l' := List.range n) (List.nodup_cons.2 ⟨hm, h1⟩) (fun y hy => by
          rcases List.mem_cons.1 hy with rfl | hy
          · exact List.mem_range.2 hi
          · exact List.mem_range.2 ((ordL_len h).2 y hy))
        simp [(ordL_len h).1] at this
        omega
end Go.Proofs.YtkncomfbedbikaaDoor
namespace Go.Proofs.YtkncomfbedbikaaDoor
open Go.RowKit
theorem BoolssAt.congr {w : World} {A : Option Addr} {n : Nat} {M M' : Nat → Nat → Bool} (h : BoolssAt w A n M) (e : ∀ i k, i < n → k < n → M i k = M' i k) : BoolssAt w A n M' := fun i hi => by
  obtain ⟨b, off, hA, hb, b2, off2, c2, h1, h2, h3, h4⟩ := h i hi
  exact ⟨b, off, hA, hb, b2, off2, c2, h1, h2, h3, fun k hk => by rw [← e i k hi hk]; exact h4 k hk⟩
theorem bool_iff {a b : Bool} (h : a = true ↔ b = true) : a = b := by cases a <;> cases b <;> simp at h ⊢
theorem lead7_enter (args : Array Value) (W : World) : (callFunc 92 args).run Tryd.prog W = .ok (.enter 92 args) W := by kernel_rfl
set_option maxRecDepth 100000 in
set_option maxHeartbeats 4000000 in
theorem Ahead7_any (A : Option Addr) (n c : Nat) (F : Nat → GOp) (w : World) (hn : n ≤ 60) (hA : OpsAt w A n F) :
    Calls Tryd.prog 41 #[.slice A n c] w fun e w' => ∃ B c', e = .returned (.slice B n c') ∧ n ≤ c' ∧ BoolssAt w' B n (warsh (leadB F (readsR F n)) n) ∧ Below w.heap.size w w' := by
  have hcell : (w.alloc (.cells #[.slice A n c] 22)).cell? ⟨w.heap.size, 0, none⟩ = some (.slice A n c) := by simp [World.cell?_alloc_new]
  have hA' := hA.below ((Below.refl w.heap.size w).alloc (Nat.le_refl _) (.cells #[.slice A n c] 22))
  have HW := Lib.hid (walks_any 92 (.pointer (some ⟨w.heap.size, 0, none⟩)) n (leadB F (readsR F n)) (w.alloc (.cells #[.slice A n c] 22)) hn lead7_enter (fun W i k hb hi hk => lead7_any w.heap.size A n c i k F W hn hi hk (hA'.below hb) (by rw [hb.cell (by simp)]; exact hcell)))
  clear hA hA'
  go_enter Tryd.func41, Tryd.ntmps41
  go_wp2_with fail
  refine HW.out.mono ?_
  rintro e w' ⟨B, c', M, rfl, h1, h2, h3, h4⟩
  have HB := Lib.hid (h2.congr fun i k hi hk => bool_iff ((h3 i k hi hk).trans (warsh_iff hk).symm))
  have HL := Lib.hid h4
  clear h2 h3 h4
  go_wp2_with fail
  go_ret
  exact ⟨B, c', rfl, h1, HB.out, (((Below.refl w.heap.size w).alloc (Nat.le_refl _) _)).trans (HL.out.mono (by simp))⟩
end Go.Proofs.YtkncomfbedbikaaDoor
namespace Go.Proofs.YtkncomfbedbikaaDoor
open Go.RowKit
theorem closedL_enter (args : Array Value) (W : World) : (callFunc 120 args).run Tryd.prog W = .ok (.enter 120 args) W := by kernel_rfl
theorem closedL_any (g : Nat) (A : Option Addr) (n c i k : Nat) (M : Nat → Nat → Bool) (w : World) (hi : i < n) (hk : k < n) (hA : BoolssAt w A n M) (hg : w.cell? ⟨g, 0, none⟩ = some (.slice A n c)) :
    Calls Tryd.prog 120 #[.int .i64 (i : Int), .int .i64 (k : Int), .pointer (some ⟨g, 0, none⟩)] w fun e w' => e = .returned (.bool (M i k)) ∧ Below w.heap.size w w' := by
  obtain ⟨b, off, rfl, hb, b2, off2, c2, h1, h2, h3, h4⟩ := hA i hi
  have h5 := h4 k hk
  have hki : (k : Int) < (n : Int) := by omega
  have hii : (i : Int) < (n : Int) := by omega
  clear h4 hA
  go_enter Tryd.func120, Tryd.ntmps120
  go_wp2
  go_ret
  exact ⟨rfl, Below.refl _ _⟩
set_option maxRecDepth 100000 in
set_option maxHeartbeats 4000000 in
theorem GraphClosed_new (A : Option Addr) (n c : Nat) (M : Nat → Nat → Bool) (w : World) (hn : n ≤ 60) (hA : BoolssAt w A n M) :
    Calls Tryd.prog 85 #[.slice A n c] w fun e w' => ∃ B c' C, e = .returned (.slice B n c') ∧ n ≤ c' ∧ BoolssNew w' w.heap.size B n C ∧ (∀ i k, i < n → k < n → (C i k = true ↔ Reach M n i k)) ∧ Below w.heap.size w w' := by
  have hcell : (w.alloc (.cells #[.slice A n c] 97)).cell? ⟨w.heap.size, 0, none⟩ = some (.slice A n c) := by simp [World.cell?_alloc_new]
  have hA' := hA.below ((Below.refl w.heap.size w).alloc (Nat.le_refl _) (.cells #[.slice A n c] 97))
  have HW := Lib.hid (walks_new 120 (.pointer (some ⟨w.heap.size, 0, none⟩)) n M (w.alloc (.cells #[.slice A n c] 97)) hn closedL_enter (fun W i k hb hi hk => closedL_any w.heap.size A n c i k M W hi hk (hA'.below hb) (by rw [hb.cell (by simp)]; exact hcell)))
  clear hA hA'
  go_enter Tryd.func85, Tryd.ntmps85
  go_wp2_with fail
  refine HW.out.mono ?_
  rintro e w' ⟨B, c', C, rfl, h1, h2, h3, h4⟩
  have HB := Lib.hid (h2.mono (lo' := w.heap.size) (by simp))
  have HC := Lib.hid h3
  have HL := Lib.hid h4
  clear h2 h3 h4
  go_wp2_with fail
  go_ret
  exact ⟨B, c', C, rfl, h1, HB.out, HC.out, (((Below.refl w.heap.size w).alloc (Nat.le_refl _) _)).trans (HL.out.mono (by simp))⟩
theorem GraphClosed_any (A : Option Addr) (n c : Nat) (M : Nat → Nat → Bool) (w : World) (hn : n ≤ 60) (hA : BoolssAt w A n M) :
    Calls Tryd.prog 85 #[.slice A n c] w fun e w' => ∃ B c' C, e = .returned (.slice B n c') ∧ n ≤ c' ∧ BoolssAt w' B n C ∧ (∀ i k, i < n → k < n → (C i k = true ↔ Reach M n i k)) ∧ Below w.heap.size w w' :=
  (GraphClosed_new A n c M w hn hA).mono fun _ _ ⟨B, c', C, h1, h2, h3, h4⟩ => ⟨B, c', C, h1, h2, h3.reads, h4⟩
noncomputable def roundB (g : Nat → Nat → Bool) (n : Nat) : Bool := (ordL g n n).isNone
theorem roundB_true {g : Nat → Nat → Bool} {n i : Nat} (hi : i < n) (h : Reach g n i i) : roundB g n = true := by
  unfold roundB
  rw [ordL_round.2 ⟨i, hi, h⟩]
  rfl
theorem roundB_false {g : Nat → Nat → Bool} {n : Nat} (h : ∀ i, i < n → ¬ Reach g n i i) : roundB g n = false := by
  unfold roundB
  cases e : ordL g n n with
  | none =>
    obtain ⟨i, hi, hR⟩ := ordL_round.1 e
    exact absurd hR (h i hi)
  | some o => rfl
set_option maxRecDepth 100000 in
set_option maxHeartbeats 4000000 in
theorem rround_any (A : Option Addr) (n c : Nat) (M : Nat → Nat → Bool) (w : World) (hn : n ≤ 60) (hA : BoolssAt w A n M) :
    Calls Tryd.prog 84 #[.slice A n c] w fun e w' => e = .returned (.bool (roundB M n)) ∧ Below w.heap.size w w' := by
  have HG := Lib.hid (GraphClosed_any A n c M w hn hA)
  clear hA
  go_enter Tryd.func84, Tryd.ntmps84
  go_wp2_with fail
  refine HG.out.mono ?_
  rintro e w1 ⟨B, c', C, rfl, h1, h2, h3, h4⟩
  have HC := Lib.hid h2
  have HR := Lib.hid h3
  have HB := Lib.hid h4
  clear h2 h3 h4
  go_wp2_with fail
  go_loop [9] (fun x => ∃ i : Nat, x = .int .i64 i ∧ i ≤ n ∧ ∀ t, t < i → ¬ Reach M n t t) (fun x => n - (intOf x).toNat)
  case atStart => exact ⟨0, rfl, by omega, fun t ht => absurd ht (by omega)⟩
  case round =>
    obtain ⟨i, rfl, hi, hall⟩ := hrel
    have HALL := Lib.hid hall
    clear hall
    by_cases hin : i < n
    · obtain ⟨b, off, rfl, hb, b2, off2, c2, g1, g2, g3, g4⟩ := HC.out i hin
      have g5 := g4 i hin
      clear g4
      have hii : (i : Int) < (n : Int) := by omega
      cases hci : C i i
      · rw [hci] at g5
        have HNR : Hid (¬ Reach M n i i) := Lib.hid fun h => by
          have := (HR.out i i hin hin).2 h
          rw [hci] at this
          cases this
        clear hci
        go_wp2
        go_round
        case rel => exact ⟨i + 1, by go_num, by omega, upto_succ HALL.out HNR.out⟩
        case measure => go_light; simp [intOf] <;> omega
      · rw [hci] at g5
        have HT := Lib.hid (roundB_true hin ((HR.out i i hin hin).1 hci))
        clear hci
        go_wp2
        go_ret
        exact ⟨by rw [HT.out]; rfl, HB.out⟩
    · obtain rfl : i = n := by omega
      have HT := Lib.hid (roundB_false HALL.out)
      go_wp2
      go_ret
      exact ⟨by rw [HT.out]; rfl, HB.out⟩
attribute [local go_sem] eq_nil ne_nil nil_eq_nil nil_ne_nil
set_option maxRecDepth 100000 in
set_option maxHeartbeats 4000000 in
theorem iround_any (A : Option Addr) (n c : Nat) (M : Nat → Nat → Bool) (w : World) (hn : n ≤ 40) (hA : BoolssAt w A n M) :
    Calls Tryd.prog 88 #[.slice A n c] w fun e w' => e = .returned (.bool (roundB M n)) ∧ Below w.heap.size w w' := by
  have HG := Lib.hid (gOrder_any A n c M w hn hA)
  clear hA
  go_enter Tryd.func88, Tryd.ntmps88
  go_wp2_with fail
  refine HG.out.mono ?_
  rintro e w1 ⟨hcase, hb⟩
  rcases hcase with ⟨h1, rfl⟩ | ⟨out, A', c', h1, rfl, _, _⟩
  · have HT : Hid (roundB M n = true) := Lib.hid (by unfold roundB; rw [h1]; rfl)
    clear h1
    go_wp2
    go_ret
    exact ⟨by rw [HT.out]; rfl, hb⟩
  · have HT : Hid (roundB M n = false) := Lib.hid (by unfold roundB; rw [h1]; rfl)
    clear h1
    go_wp2
    go_ret
    exact ⟨by rw [HT.out]; rfl, hb⟩
end Go.Proofs.YtkncomfbedbikaaDoor
