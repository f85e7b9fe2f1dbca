/- isolate.Edges.read: the edges of a read. -/
import Derived.Test.YtkncomfbedbikaaDoorIsoI
namespace Go.Proofs.YtkncomfbedbikaaDoor
open Go.RowKit
/-- What a call that hands back nothing leaves. -/
def ReadPost (S : GStory) (T : Nat) (o : IOp) (B : Nat) (r : TriR) (M1 M2 M3 : Nat → Nat → Bool) (w : World) (e : Ending) (w' : World) : Prop :=
  e = .returned (.tuple #[]) ∧ Tri w' B S.n r M1 (fun a b => M2 a b || seenH S T o a b) (fun a b => M3 a b || anewH S T o a b) ∧ Below B w w' ∧ ∀ k, r.h3 ≤ k → k < w.heap.size → w'.heap[k]? = w.heap[k]?
theorem behind_at {S : GStory} (key : Nat) (t : Int) : ∃ p : Nat, (0 ≤ t → idxF (S.x key) (S.l key) t = (p : Int) - 1) ∧ (t < 0 → p = 0) ∧ p ≤ S.l key ∧ behindF S key t = if p < S.l key then S.x key p else -1 := by
  by_cases h : 0 ≤ t
  · have := idx_range (S.x key) (S.l key) t
    refine ⟨(idxF (S.x key) (S.l key) t + 1).toNat, fun _ => by omega, fun h' => by omega, by omega, ?_⟩
    unfold behindF
    rw [if_pos h]
    by_cases h2 : idxF (S.x key) (S.l key) t + 1 < (S.l key : Int)
    · rw [if_pos h2, if_pos (by omega)]
    · rw [if_neg h2, if_neg (by omega)]
  · refine ⟨0, fun h' => absurd h' h, fun _ => rfl, Nat.zero_le _, ?_⟩
    unfold behindF
    rw [if_neg h]
theorem hints_keep {w w' : World} {B : Nat} {A : Option Addr} {n : Nat} {f : Nat → Int} (h : IntsAt w A n f) (hb : Below B w w') (hB : ∀ b off, A = some ⟨b, off, none⟩ → 0 < n → b < B) : IntsAt w' A n f := fun i hi => by
  obtain ⟨b, off, rfl, h1, h2⟩ := h i hi
  exact ⟨b, off, rfl, Nat.lt_of_lt_of_le h1 hb.size, (hb.cell (p := ⟨b, off + i, none⟩) (hB b off rfl (by omega))).trans h2⟩
set_option maxRecDepth 100000 in
theorem boxes3 (w : World) (a b c : Array Value) (ta tb tc : TypeId) : (∀ i, (((w.alloc (.cells a ta)).alloc (.cells b tb)).alloc (.cells c tc)).cell? ⟨w.heap.size, i, none⟩ = a[i]?) ∧ (∀ i, (((w.alloc (.cells a ta)).alloc (.cells b tb)).alloc (.cells c tc)).cell? ⟨w.heap.size + 1, i, none⟩ = b[i]?) ∧ (∀ i, (((w.alloc (.cells a ta)).alloc (.cells b tb)).alloc (.cells c tc)).cell? ⟨w.heap.size + 2, i, none⟩ = c[i]?) := by
  refine ⟨fun i => cell_of_row _ _ i a ta (0, 0) ?_, fun i => cell_of_row _ _ i b tb (0, 0) ?_, fun i => cell_of_row _ _ i c tc (0, 0) ?_⟩
  · rw [heap_alloc_old _ _ (show w.heap.size < _ by simp; omega), heap_alloc_old _ _ (show w.heap.size < _ by simp), heap_alloc_new]
  · rw [heap_alloc_old _ _ (show w.heap.size + 1 < _ by simp), show w.heap.size + 1 = (w.alloc (.cells a ta)).heap.size by simp, heap_alloc_new]
  · rw [show w.heap.size + 2 = ((w.alloc (.cells a ta)).alloc (.cells b tb)).heap.size by simp, heap_alloc_new]
theorem behind_pos {S : GStory} (h : StoryOk S) {key p : Nat} (hk : key < 8) (hp : p < S.l key) : 0 ≤ S.x key p := by
  obtain ⟨f, hf, _, _⟩ := h.ent key p hk hp
  omega
set_option maxRecDepth 100000 in
set_option maxHeartbeats 16000000 in
theorem iread_any (A V : Option Addr) (c cv : Nat) (S : GStory) (T : Nat) (o : IOp) (w : World) (B : Nat) (r : TriR) (c1 c2 c3 : Nat) (M1 M2 M3 : Nat → Nat → Bool) (h : StoryAt w A V S) (hok : StoryOk S) (hT : T < S.n) (hact : actB S T o = true) (hwr : o.wr = false)
    (hop : 0 ≤ o.key ∧ o.key ≤ 7 ∧ -1 ≤ o.frm ∧ o.frm < (S.n : Int) ∧ 0 ≤ o.num) (hnm : ∀ f : Nat, o.frm = (f : Int) → o.num < (vers (S.o f) o.key (S.k f) : Int) ∧ vers (S.o f) o.key (S.k f) ≤ 60) (_hc1 : S.n ≤ c1) (_hc2 : S.n ≤ c2) (_hc3 : S.n ≤ c3)
    (ht : Tri w B S.n r M1 M2 M3) (hBw : B ≤ w.heap.size) (hvB : ∀ b off, V = some ⟨b, off, none⟩ → b < B) (hIB' : ∀ q, q < S.m → ∀ A2 c2, (∃ b off, V = some ⟨b, off, none⟩ ∧ w.cell? ⟨b, off + q, none⟩ = some (.slice A2 (S.l q) c2)) → ∀ b off, A2 = some ⟨b, off, none⟩ → 0 < S.l q → b < B) :
    Calls Tryd.prog 119 #[.agg #[.slice (some ⟨r.g1, 0, none⟩) S.n c1, .slice (some ⟨r.g2, 0, none⟩) S.n c2, .slice (some ⟨r.g3, 0, none⟩) S.n c3], .agg #[.slice A S.n c, .slice V S.m cv], .int .i64 (T : Int), o.val] w (ReadPost S T o B r M1 M2 M3 w) := by
  obtain ⟨owr, okey, ofrm, onum⟩ := o
  dsimp only at hwr hop hnm
  subst hwr
  obtain ⟨kk, rfl⟩ : ∃ kk : Nat, okey = (kk : Int) := ⟨okey.toNat, by omega⟩
  have hn8 := hok.n
  have hm8 : S.m ≤ 8 := by have := hok.m; omega
  have hkk : kk < S.m := by have := hok.m; omega
  have HOK := Lib.hid hok
  have HNM := Lib.hid hnm
  have HT := Lib.hid ht
  have HAC := Lib.hid hact
  obtain ⟨p, hp1, hp2, hp3, hp4⟩ := behind_at (S := S) kk ofrm
  have HP4 := Lib.hid hp4
  have HP1 := Lib.hid hp1
  have HP2 := Lib.hid hp2
  have hcs := behind_cases hok (show kk < 8 by omega) ofrm
  have HCS := Lib.hid hcs
  obtain ⟨vb, vo, rfl, hvb, hL, A2, cc2, hvc, hlc, hI⟩ := h.rows kk hkk
  have HI := Lib.hid hI
  have hIB : ∀ b off, A2 = some ⟨b, off, none⟩ → 0 < S.l kk → b < B := hIB' kk hkk A2 cc2 ⟨vb, vo, rfl, hvc⟩
  have hvB' : vb < B := hvB vb vo rfl
  clear hvB hIB'
  have hvB : vb < B := hvB'
  clear hvB'
  have hBe' : B ≤ w.heap.size := hBw
  have HH := Lib.hid h
  have HVC := Lib.hid hvc
  have hl60 : S.l kk ≤ 17592186043904 := hL
  have HW : Hid ((((w.alloc (.cells #[.slice (some ⟨r.g1, 0, none⟩) S.n c1, .slice (some ⟨r.g2, 0, none⟩) S.n c2, .slice (some ⟨r.g3, 0, none⟩) S.n c3] 166)).alloc (.cells #[.slice A S.n c, .slice (some ⟨vb, vo, none⟩) S.m cv] 77)).alloc (.cells #[.bool false, .int .i64 (kk : Int), .int .i64 ofrm, .int .i64 onum] 139)).cell? ⟨w.heap.size + 2, 0, none⟩ = some (.bool false) ∧ (((w.alloc (.cells #[.slice (some ⟨r.g1, 0, none⟩) S.n c1, .slice (some ⟨r.g2, 0, none⟩) S.n c2, .slice (some ⟨r.g3, 0, none⟩) S.n c3] 166)).alloc (.cells #[.slice A S.n c, .slice (some ⟨vb, vo, none⟩) S.m cv] 77)).alloc (.cells #[.bool false, .int .i64 (kk : Int), .int .i64 ofrm, .int .i64 onum] 139)).cell? ⟨w.heap.size + 2, 1, none⟩ = some (.int .i64 (kk : Int)) ∧ (((w.alloc (.cells #[.slice (some ⟨r.g1, 0, none⟩) S.n c1, .slice (some ⟨r.g2, 0, none⟩) S.n c2, .slice (some ⟨r.g3, 0, none⟩) S.n c3] 166)).alloc (.cells #[.slice A S.n c, .slice (some ⟨vb, vo, none⟩) S.m cv] 77)).alloc (.cells #[.bool false, .int .i64 (kk : Int), .int .i64 ofrm, .int .i64 onum] 139)).cell? ⟨w.heap.size + 2, 2, none⟩ = some (.int .i64 ofrm) ∧ (((w.alloc (.cells #[.slice (some ⟨r.g1, 0, none⟩) S.n c1, .slice (some ⟨r.g2, 0, none⟩) S.n c2, .slice (some ⟨r.g3, 0, none⟩) S.n c3] 166)).alloc (.cells #[.slice A S.n c, .slice (some ⟨vb, vo, none⟩) S.m cv] 77)).alloc (.cells #[.bool false, .int .i64 (kk : Int), .int .i64 ofrm, .int .i64 onum] 139)).cell? ⟨w.heap.size + 2, 3, none⟩ = some (.int .i64 onum) ∧ (((w.alloc (.cells #[.slice (some ⟨r.g1, 0, none⟩) S.n c1, .slice (some ⟨r.g2, 0, none⟩) S.n c2, .slice (some ⟨r.g3, 0, none⟩) S.n c3] 166)).alloc (.cells #[.slice A S.n c, .slice (some ⟨vb, vo, none⟩) S.m cv] 77)).alloc (.cells #[.bool false, .int .i64 (kk : Int), .int .i64 ofrm, .int .i64 onum] 139)).cell? ⟨w.heap.size + 1, 0, none⟩ = some (.slice A S.n c) ∧ (((w.alloc (.cells #[.slice (some ⟨r.g1, 0, none⟩) S.n c1, .slice (some ⟨r.g2, 0, none⟩) S.n c2, .slice (some ⟨r.g3, 0, none⟩) S.n c3] 166)).alloc (.cells #[.slice A S.n c, .slice (some ⟨vb, vo, none⟩) S.m cv] 77)).alloc (.cells #[.bool false, .int .i64 (kk : Int), .int .i64 ofrm, .int .i64 onum] 139)).cell? ⟨w.heap.size + 1, 1, none⟩ = some (.slice (some ⟨vb, vo, none⟩) S.m cv) ∧ (((w.alloc (.cells #[.slice (some ⟨r.g1, 0, none⟩) S.n c1, .slice (some ⟨r.g2, 0, none⟩) S.n c2, .slice (some ⟨r.g3, 0, none⟩) S.n c3] 166)).alloc (.cells #[.slice A S.n c, .slice (some ⟨vb, vo, none⟩) S.m cv] 77)).alloc (.cells #[.bool false, .int .i64 (kk : Int), .int .i64 ofrm, .int .i64 onum] 139)).cell? ⟨w.heap.size, 0, none⟩ = some (.slice (some ⟨r.g1, 0, none⟩) S.n c1) ∧ (((w.alloc (.cells #[.slice (some ⟨r.g1, 0, none⟩) S.n c1, .slice (some ⟨r.g2, 0, none⟩) S.n c2, .slice (some ⟨r.g3, 0, none⟩) S.n c3] 166)).alloc (.cells #[.slice A S.n c, .slice (some ⟨vb, vo, none⟩) S.m cv] 77)).alloc (.cells #[.bool false, .int .i64 (kk : Int), .int .i64 ofrm, .int .i64 onum] 139)).cell? ⟨w.heap.size, 1, none⟩ = some (.slice (some ⟨r.g2, 0, none⟩) S.n c2) ∧ (((w.alloc (.cells #[.slice (some ⟨r.g1, 0, none⟩) S.n c1, .slice (some ⟨r.g2, 0, none⟩) S.n c2, .slice (some ⟨r.g3, 0, none⟩) S.n c3] 166)).alloc (.cells #[.slice A S.n c, .slice (some ⟨vb, vo, none⟩) S.m cv] 77)).alloc (.cells #[.bool false, .int .i64 (kk : Int), .int .i64 ofrm, .int .i64 onum] 139)).cell? ⟨w.heap.size, 2, none⟩ = some (.slice (some ⟨r.g3, 0, none⟩) S.n c3) ∧ Below w.heap.size w (((w.alloc (.cells #[.slice (some ⟨r.g1, 0, none⟩) S.n c1, .slice (some ⟨r.g2, 0, none⟩) S.n c2, .slice (some ⟨r.g3, 0, none⟩) S.n c3] 166)).alloc (.cells #[.slice A S.n c, .slice (some ⟨vb, vo, none⟩) S.m cv] 77)).alloc (.cells #[.bool false, .int .i64 (kk : Int), .int .i64 ofrm, .int .i64 onum] 139)) ∧ w.heap.size + 2 < (((w.alloc (.cells #[.slice (some ⟨r.g1, 0, none⟩) S.n c1, .slice (some ⟨r.g2, 0, none⟩) S.n c2, .slice (some ⟨r.g3, 0, none⟩) S.n c3] 166)).alloc (.cells #[.slice A S.n c, .slice (some ⟨vb, vo, none⟩) S.m cv] 77)).alloc (.cells #[.bool false, .int .i64 (kk : Int), .int .i64 ofrm, .int .i64 onum] 139)).heap.size) := Lib.hid ⟨(boxes3 _ _ _ _ _ _ _).2.2 0, (boxes3 _ _ _ _ _ _ _).2.2 1, (boxes3 _ _ _ _ _ _ _).2.2 2, (boxes3 _ _ _ _ _ _ _).2.2 3, (boxes3 _ _ _ _ _ _ _).2.1 0, (boxes3 _ _ _ _ _ _ _).2.1 1, (boxes3 _ _ _ _ _ _ _).1 0, (boxes3 _ _ _ _ _ _ _).1 1, (boxes3 _ _ _ _ _ _ _).1 2, (((Below.refl _ _).alloc (Nat.le_refl _) _).alloc (by simp) _).alloc (by simp; omega) _, by simp⟩
  have HBE : Hid (r.h3 ≤ w.heap.size) := Lib.hid ht.m3.top
  have HWA := Lib.hid HW.out.2.2.2.2.2.2.2.2.2.1
  clear h hok hnm ht hact hp1 hp2 hp4 hcs hI hvc
  go_enter Tryd.func119, Tryd.ntmps119
  go_wp2_with fail
  obtain ⟨be, hbe⟩ : ∃ be, be = w.heap.size := ⟨_, rfl⟩
  rw [← hbe] at HW HBE ⊢
  have hBe : B ≤ be := by omega
  clear hbe hBw
  generalize ((w.alloc (.cells #[.slice (some ⟨r.g1, 0, none⟩) S.n c1, .slice (some ⟨r.g2, 0, none⟩) S.n c2, .slice (some ⟨r.g3, 0, none⟩) S.n c3] 166)).alloc (.cells #[.slice A S.n c, .slice (some ⟨vb, vo, none⟩) S.m cv] 77)).alloc (.cells #[.bool false, .int .i64 (kk : Int), .int .i64 ofrm, .int .i64 onum] 139) = W at *
  have k0 := cell_regrown HW.out.1
  have k1 := cell_regrown HW.out.2.1
  have k2 := cell_regrown HW.out.2.2.1
  have k3 := cell_regrown HW.out.2.2.2.1
  have ks := cell_regrown HW.out.2.2.2.2.1
  have HTW := Lib.hid (HT.out.below HWA.out)
  by_cases hneg : ofrm = -1
  · subst hneg
    refine wp_region_quiet_below (by kernel_rfl) (by kernel_rfl) ?_
    repeat (go_big_quiet_step (fail))
    refine wpQuiet_nil ?_
    rintro wq ⟨pq, hpq⟩
    have HBQ : Hid (Below W.heap.size W wq) := Lib.hid (hpq ▸ below_regrown W pq.d pq.os)
    clear hpq
    clear k0 k1 k2 k3 ks
    have HB3 : Hid (Below w.heap.size w wq) := Lib.hid (HWA.out.trans (HBQ.out.mono HWA.out.size))
    have HT3 := Lib.hid (HTW.out.below HBQ.out)
    have HC3 : Hid (wq.cell? ⟨be + 2, 1, none⟩ = some (.int .i64 (kk : Int)) ∧ wq.cell? ⟨be + 2, 2, none⟩ = some (.int .i64 (-1)) ∧ wq.cell? ⟨be + 1, 1, none⟩ = some (.slice (some ⟨vb, vo, none⟩) S.m cv) ∧ wq.cell? ⟨be, 2, none⟩ = some (.slice (some ⟨r.g3, 0, none⟩) S.n c3) ∧ wq.cell? ⟨be, 1, none⟩ = some (.slice (some ⟨r.g2, 0, none⟩) S.n c2)) := Lib.hid ⟨(HBQ.out.cell (p := ⟨be + 2, 1, none⟩) HW.out.2.2.2.2.2.2.2.2.2.2).trans HW.out.2.1, (HBQ.out.cell (p := ⟨be + 2, 2, none⟩) HW.out.2.2.2.2.2.2.2.2.2.2).trans HW.out.2.2.1, (HBQ.out.cell (p := ⟨be + 1, 1, none⟩) (by have := HW.out.2.2.2.2.2.2.2.2.2.2; show be + 1 < _; omega)).trans HW.out.2.2.2.2.2.1, (HBQ.out.cell (p := ⟨be, 2, none⟩) (by have := HW.out.2.2.2.2.2.2.2.2.2.2; show be < _; omega)).trans HW.out.2.2.2.2.2.2.2.2.1, (HBQ.out.cell (p := ⟨be, 1, none⟩) (by have := HW.out.2.2.2.2.2.2.2.2.2.2; show be < _; omega)).trans HW.out.2.2.2.2.2.2.2.1⟩
    obtain ⟨wz, rfl⟩ : ∃ wz : World, wz = wq := ⟨_, rfl⟩
    have HZ : Hid (Below B w (wz) ∧ Tri (wz) B S.n r M1 (fun a b => M2 a b || seenH S T ⟨false, (kk : Int), (-1), onum⟩ a b) M3 ∧ (wz).cell? ⟨be + 2, 1, none⟩ = some (.int .i64 (kk : Int)) ∧ (wz).cell? ⟨be + 2, 2, none⟩ = some (.int .i64 (-1)) ∧ (wz).cell? ⟨be + 1, 1, none⟩ = some (.slice (some ⟨vb, vo, none⟩) S.m cv) ∧ (wz).cell? ⟨be, 2, none⟩ = some (.slice (some ⟨r.g3, 0, none⟩) S.n c3)) := Lib.hid ⟨HB3.out.mono hBe', HT3.out.congr (fun _ _ => rfl) (fun a b' => by rw [seenH_no (by rfl), Bool.or_false]) (fun _ _ => rfl), HC3.out.1, HC3.out.2.1, HC3.out.2.2.1, HC3.out.2.2.2.1⟩
    have HKP : Hid (∀ k, r.h3 ≤ k → k < w.heap.size → wz.heap[k]? = w.heap[k]?) := Lib.hid (fun k _ hk => HB3.out.block k hk)
    have z1 := HZ.out.2.2.1
    have z2 := HZ.out.2.2.2.1
    have z3 := HZ.out.2.2.2.2.1
    have z4 := HZ.out.2.2.2.2.2
    have zv := (HZ.out.1.cell (p := ⟨vb, vo + kk, none⟩) hvB).trans HVC.out
    by_cases hpl : p < S.l kk
    · obtain ⟨b2, o2, rfl, hb2, q0⟩ := (hints_keep HI.out HZ.out.1 hIB) p hpl
      have hbv : behindF S kk (-1) = S.x kk p := by have := HP4.out; rwa [if_pos hpl] at this
      rcases HCS.out with hb | ⟨b, hb, hbn⟩
      · have hb9 := behind_pos HOK.out (show kk < 8 by omega) hpl
        rw [hbv] at hb
        omega
      · rw [hbv] at hb
        rw [hb] at q0 hbv
        have HBV := Lib.hid hbv
        clear hbv hb
        obtain rfl : p = 0 := HP2.out (by omega)
        rw [Nat.add_zero] at q0
        by_cases hbT : b = T
        · have hq3 : ((b : Int) != (T : Int)) = false := by rw [hbT]; simp
          have hq4 : (b != T) = false := by rw [hbT]; simp
          have HBT := Lib.hid hbT
          clear hbT
          go_wp2
          go_end0
          exact ⟨rfl, HZ.out.2.1.congr (fun _ _ => rfl) (fun _ _ => rfl) (fun a b' => by rw [anewH_self (by dsimp only; rw [Int.toNat_natCast, HBV.out, HBT.out]), Bool.or_false]), HZ.out.1, HKP.out⟩
        · have hq3 : ((b : Int) != (T : Int)) = true := by simp; omega
          have hq4 : (b != T) = true := by simpa using hbT
          have HBT := Lib.hid hbT
          have x1 := HZ.out.2.1.m3.out T hT
          have x2 := HZ.out.2.1.m3.cell hT hbn
          have x3 := (HZ.out.2.1.m3.row T hT).frozen b
          have HGE := Lib.hid (HZ.out.2.1.ge3 hT)
          clear hbT
          go_wp2_with fail
          refine wp_region_still_tail 10 (by kernel_rfl) (by kernel_rfl) ?_
          simp only [List.take_succ_cons, List.take_zero, List.drop_succ_cons, List.drop_zero]
          change wpStill _ _ wz.drew _ _ _
          refine wpStill_of_quiet ?_
          repeat (go_big_quiet_step (fail))
          refine wpQuiet_nil ?_
          change wpList _ _ _ _ _ wz.drew
          go_wp2
          go_end0
          exact ⟨rfl, ((HZ.out.2.1.set3 hT b).congr (fun _ _ => rfl) (fun _ _ => rfl) (fun a b' => by rw [mark (anewH_hit HAC.out (by dsimp only; rw [Int.toNat_natCast]; exact HBV.out) HBT.out a b')])).drew, (HZ.out.1.setCell HGE.out _).drew, fun k h1 hk => (heap_setCell_other _ _ _ _ (by have := (HZ.out.2.1.lt3 hT).2.2; show k ≠ r.G3 T; omega)).trans (HKP.out k h1 hk)⟩
    · have hbv : behindF S kk (-1) = -1 := by have := HP4.out; rwa [if_neg hpl] at this
      have HBV := Lib.hid hbv
      clear hbv
      obtain rfl : p = 0 := HP2.out (by omega)
      have hq5 : decide (0 < S.l kk) = false := by simpa using hpl
      go_wp2
      go_end0
      exact ⟨rfl, HZ.out.2.1.congr (fun _ _ => rfl) (fun _ _ => rfl) (fun a b' => by rw [anewH_none (by dsimp only; rw [Int.toNat_natCast]; exact HBV.out), Bool.or_false]), HZ.out.1, HKP.out⟩

  · obtain ⟨f, rfl⟩ : ∃ f : Nat, ofrm = (f : Int) := ⟨ofrm.toNat, by omega⟩
    have hfn : f < S.n := by omega
    have hf1 : ((f : Int) != -1) = true := by simp
    by_cases hfT : f = T
    · have hq1 : ((f : Int) != (T : Int)) = false := by rw [hfT]; simp
      have hq2 : (f != T) = false := by rw [hfT]; simp
      have HFT := Lib.hid hfT
      clear hfT
      refine wp_region_quiet_below (by kernel_rfl) (by kernel_rfl) ?_
      repeat (go_big_quiet_step (fail))
      refine wpQuiet_nil ?_
      rintro wq ⟨pq, hpq⟩
      have HBQ : Hid (Below W.heap.size W wq) := Lib.hid (hpq ▸ below_regrown W pq.d pq.os)
      clear hpq
      clear k0 k1 k2 k3 ks
      have HB3 : Hid (Below w.heap.size w wq) := Lib.hid (HWA.out.trans (HBQ.out.mono HWA.out.size))
      have HT3 := Lib.hid (HTW.out.below HBQ.out)
      have HC3 : Hid (wq.cell? ⟨be + 2, 1, none⟩ = some (.int .i64 (kk : Int)) ∧ wq.cell? ⟨be + 2, 2, none⟩ = some (.int .i64 (f : Int)) ∧ wq.cell? ⟨be + 1, 1, none⟩ = some (.slice (some ⟨vb, vo, none⟩) S.m cv) ∧ wq.cell? ⟨be, 2, none⟩ = some (.slice (some ⟨r.g3, 0, none⟩) S.n c3) ∧ wq.cell? ⟨be, 1, none⟩ = some (.slice (some ⟨r.g2, 0, none⟩) S.n c2)) := Lib.hid ⟨(HBQ.out.cell (p := ⟨be + 2, 1, none⟩) HW.out.2.2.2.2.2.2.2.2.2.2).trans HW.out.2.1, (HBQ.out.cell (p := ⟨be + 2, 2, none⟩) HW.out.2.2.2.2.2.2.2.2.2.2).trans HW.out.2.2.1, (HBQ.out.cell (p := ⟨be + 1, 1, none⟩) (by have := HW.out.2.2.2.2.2.2.2.2.2.2; show be + 1 < _; omega)).trans HW.out.2.2.2.2.2.1, (HBQ.out.cell (p := ⟨be, 2, none⟩) (by have := HW.out.2.2.2.2.2.2.2.2.2.2; show be < _; omega)).trans HW.out.2.2.2.2.2.2.2.2.1, (HBQ.out.cell (p := ⟨be, 1, none⟩) (by have := HW.out.2.2.2.2.2.2.2.2.2.2; show be < _; omega)).trans HW.out.2.2.2.2.2.2.2.1⟩
      obtain ⟨wz, rfl⟩ : ∃ wz : World, wz = wq := ⟨_, rfl⟩
      have HZ : Hid (Below B w (wz) ∧ Tri (wz) B S.n r M1 (fun a b => M2 a b || seenH S T ⟨false, (kk : Int), (f : Int), onum⟩ a b) M3 ∧ (wz).cell? ⟨be + 2, 1, none⟩ = some (.int .i64 (kk : Int)) ∧ (wz).cell? ⟨be + 2, 2, none⟩ = some (.int .i64 (f : Int)) ∧ (wz).cell? ⟨be + 1, 1, none⟩ = some (.slice (some ⟨vb, vo, none⟩) S.m cv) ∧ (wz).cell? ⟨be, 2, none⟩ = some (.slice (some ⟨r.g3, 0, none⟩) S.n c3)) := Lib.hid ⟨HB3.out.mono hBe', HT3.out.congr (fun _ _ => rfl) (fun a b' => by rw [seenH_no (by rw [HFT.out]; simp), Bool.or_false]) (fun _ _ => rfl), HC3.out.1, HC3.out.2.1, HC3.out.2.2.1, HC3.out.2.2.2.1⟩
      have HKP : Hid (∀ k, r.h3 ≤ k → k < w.heap.size → wz.heap[k]? = w.heap[k]?) := Lib.hid (fun k _ hk => HB3.out.block k hk)
      have z1 := HZ.out.2.2.1
      have z2 := HZ.out.2.2.2.1
      have z3 := HZ.out.2.2.2.2.1
      have z4 := HZ.out.2.2.2.2.2
      have zv := (HZ.out.1.cell (p := ⟨vb, vo + kk, none⟩) hvB).trans HVC.out
      have HIX := Lib.hid (Index_any A2 (S.l kk) cc2 (S.x kk) (f : Int) wz (by unfold maxLen; omega) (hints_keep HI.out HZ.out.1 hIB))
      rw [HP1.out (by omega)] at HIX
      by_cases hpl : p < S.l kk
      · obtain ⟨b2, o2, rfl, hb2, q0⟩ := (hints_keep HI.out HZ.out.1 hIB) p hpl
        have hbv : behindF S kk (f : Int) = S.x kk p := by have := HP4.out; rwa [if_pos hpl] at this
        rcases HCS.out with hb | ⟨b, hb, hbn⟩
        · have hb9 := behind_pos HOK.out (show kk < 8 by omega) hpl
          rw [hbv] at hb
          omega
        · rw [hbv] at hb
          rw [hb] at q0 hbv
          have HBV := Lib.hid hbv
          clear hbv hb
          have hq6 : p < S.l kk := hpl
          by_cases hbT : b = T
          · have hq3 : ((b : Int) != (T : Int)) = false := by rw [hbT]; simp
            have hq4 : (b != T) = false := by rw [hbT]; simp
            have HBT := Lib.hid hbT
            clear hbT
            go_wp2_with (first | (go_at_call 95; refine HIX.out.mono ?_; rintro e w9 ⟨rfl, rfl⟩))
            go_end0
            exact ⟨rfl, HZ.out.2.1.congr (fun _ _ => rfl) (fun _ _ => rfl) (fun a b' => by rw [anewH_self (by dsimp only; rw [Int.toNat_natCast, HBV.out, HBT.out]), Bool.or_false]), HZ.out.1, HKP.out⟩
          · have hq3 : ((b : Int) != (T : Int)) = true := by simp; omega
            have hq4 : (b != T) = true := by simpa using hbT
            have HBT := Lib.hid hbT
            have x1 := HZ.out.2.1.m3.out T hT
            have x2 := HZ.out.2.1.m3.cell hT hbn
            have x3 := (HZ.out.2.1.m3.row T hT).frozen b
            have HGE := Lib.hid (HZ.out.2.1.ge3 hT)
            clear hbT
            go_wp2_with (first | (go_at_call 95; refine HIX.out.mono ?_; rintro e w9 ⟨rfl, rfl⟩))
            refine wp_region_still_tail 10 (by kernel_rfl) (by kernel_rfl) ?_
            simp only [List.take_succ_cons, List.take_zero, List.drop_succ_cons, List.drop_zero]
            change wpStill _ _ wz.drew _ _ _
            refine wpStill_of_quiet ?_
            repeat (go_big_quiet_step (fail))
            refine wpQuiet_nil ?_
            change wpList _ _ _ _ _ wz.drew
            go_wp2
            go_end0
            exact ⟨rfl, ((HZ.out.2.1.set3 hT b).congr (fun _ _ => rfl) (fun _ _ => rfl) (fun a b' => by rw [mark (anewH_hit HAC.out (by dsimp only; rw [Int.toNat_natCast]; exact HBV.out) HBT.out a b')])).drew, (HZ.out.1.setCell HGE.out _).drew, fun k h1 hk => (heap_setCell_other _ _ _ _ (by have := (HZ.out.2.1.lt3 hT).2.2; show k ≠ r.G3 T; omega)).trans (HKP.out k h1 hk)⟩
      · have hbv : behindF S kk (f : Int) = -1 := by have := HP4.out; rwa [if_neg hpl] at this
        have HBV := Lib.hid hbv
        clear hbv
        obtain hpe : S.l kk ≤ p := by omega
        have hq5 : decide (p < S.l kk) = false := by simpa using hpl
        go_wp2_with (first | (go_at_call 95; refine HIX.out.mono ?_; rintro e w9 ⟨rfl, rfl⟩))
        go_end0
        exact ⟨rfl, HZ.out.2.1.congr (fun _ _ => rfl) (fun _ _ => rfl) (fun a b' => by rw [anewH_none (by dsimp only; rw [Int.toNat_natCast]; exact HBV.out), Bool.or_false]), HZ.out.1, HKP.out⟩

    · have hq1 : ((f : Int) != (T : Int)) = true := by simp; omega
      have hq2 : (f != T) = true := by simpa using hfT
      have hq3' : decide (f = T) = false := by simpa using hfT
      cases hv : (onum == (vers (S.o f) (kk : Int) (S.k f) : Int) - 1)
      · skip
        obtain ⟨bf, offf, rfl, hbf, hkf, A2f, c2f, f0, hkcf, f1, hopf⟩ := HH.out.txs f hfn
        have kf0 := cell_regrown ((HWA.out.cell (p := ⟨bf, offf + f * 2, none⟩) hbf).trans f0)
        have kf1 := cell_regrown ((HWA.out.cell (p := ⟨bf, offf + f * 2 + 1, none⟩) hbf).trans f1)
        have cI := fun d os => Calls.regrown_of (d := d) (os := os) (versions_any A2f (S.k f) c2f (S.c f) (kk : Int) (S.o f) (Go.Sort.grow (redrawn W d) os) hkf (hopf.below (HWA.out.trans ((below_regrown W d os).mono HWA.out.size))))
        have hnum := HNM.out f rfl
        clear hopf f0 f1
        generalize hvf : vers (S.o f) (kk : Int) (S.k f) = vf at *
        have HVF := Lib.hid hvf
        clear hvf
        obtain ⟨hnum1, hnum2⟩ := hnum
        refine wp_region_quiet_below (by kernel_rfl) (by kernel_rfl) ?_
        repeat (go_big_quiet_step (with_reducible exact cI _ _))
        refine wpQuiet_nil ?_
        rintro wq ⟨pq, hpq⟩
        have HBQ : Hid (Below W.heap.size W wq) := Lib.hid (hpq ▸ below_regrown W pq.d pq.os)
        clear hpq
        clear k0 k1 k2 k3 ks kf0 kf1 cI
        have HB3 : Hid (Below w.heap.size w wq) := Lib.hid (HWA.out.trans (HBQ.out.mono HWA.out.size))
        have HT3 := Lib.hid (HTW.out.below HBQ.out)
        have HC3 : Hid (wq.cell? ⟨be + 2, 1, none⟩ = some (.int .i64 (kk : Int)) ∧ wq.cell? ⟨be + 2, 2, none⟩ = some (.int .i64 (f : Int)) ∧ wq.cell? ⟨be + 1, 1, none⟩ = some (.slice (some ⟨vb, vo, none⟩) S.m cv) ∧ wq.cell? ⟨be, 2, none⟩ = some (.slice (some ⟨r.g3, 0, none⟩) S.n c3) ∧ wq.cell? ⟨be, 1, none⟩ = some (.slice (some ⟨r.g2, 0, none⟩) S.n c2)) := Lib.hid ⟨(HBQ.out.cell (p := ⟨be + 2, 1, none⟩) HW.out.2.2.2.2.2.2.2.2.2.2).trans HW.out.2.1, (HBQ.out.cell (p := ⟨be + 2, 2, none⟩) HW.out.2.2.2.2.2.2.2.2.2.2).trans HW.out.2.2.1, (HBQ.out.cell (p := ⟨be + 1, 1, none⟩) (by have := HW.out.2.2.2.2.2.2.2.2.2.2; show be + 1 < _; omega)).trans HW.out.2.2.2.2.2.1, (HBQ.out.cell (p := ⟨be, 2, none⟩) (by have := HW.out.2.2.2.2.2.2.2.2.2.2; show be < _; omega)).trans HW.out.2.2.2.2.2.2.2.2.1, (HBQ.out.cell (p := ⟨be, 1, none⟩) (by have := HW.out.2.2.2.2.2.2.2.2.2.2; show be < _; omega)).trans HW.out.2.2.2.2.2.2.2.1⟩
        obtain ⟨wz, rfl⟩ : ∃ wz : World, wz = wq := ⟨_, rfl⟩
        have HZ : Hid (Below B w (wz) ∧ Tri (wz) B S.n r M1 (fun a b => M2 a b || seenH S T ⟨false, (kk : Int), (f : Int), onum⟩ a b) M3 ∧ (wz).cell? ⟨be + 2, 1, none⟩ = some (.int .i64 (kk : Int)) ∧ (wz).cell? ⟨be + 2, 2, none⟩ = some (.int .i64 (f : Int)) ∧ (wz).cell? ⟨be + 1, 1, none⟩ = some (.slice (some ⟨vb, vo, none⟩) S.m cv) ∧ (wz).cell? ⟨be, 2, none⟩ = some (.slice (some ⟨r.g3, 0, none⟩) S.n c3)) := Lib.hid ⟨HB3.out.mono hBe', HT3.out.congr (fun _ _ => rfl) (fun a b' => by rw [seenH_no (by dsimp only; rw [Int.toNat_natCast, HVF.out, show (onum + 1 == (vf : Int)) = false by simp at hv ⊢; omega]; simp), Bool.or_false]) (fun _ _ => rfl), HC3.out.1, HC3.out.2.1, HC3.out.2.2.1, HC3.out.2.2.2.1⟩
        have HKP : Hid (∀ k, r.h3 ≤ k → k < w.heap.size → wz.heap[k]? = w.heap[k]?) := Lib.hid (fun k _ hk => HB3.out.block k hk)
        have z1 := HZ.out.2.2.1
        have z2 := HZ.out.2.2.2.1
        have z3 := HZ.out.2.2.2.2.1
        have z4 := HZ.out.2.2.2.2.2
        have zv := (HZ.out.1.cell (p := ⟨vb, vo + kk, none⟩) hvB).trans HVC.out
        have HIX := Lib.hid (Index_any A2 (S.l kk) cc2 (S.x kk) (f : Int) wz (by unfold maxLen; omega) (hints_keep HI.out HZ.out.1 hIB))
        rw [HP1.out (by omega)] at HIX
        by_cases hpl : p < S.l kk
        · obtain ⟨b2, o2, rfl, hb2, q0⟩ := (hints_keep HI.out HZ.out.1 hIB) p hpl
          have hbv : behindF S kk (f : Int) = S.x kk p := by have := HP4.out; rwa [if_pos hpl] at this
          rcases HCS.out with hb | ⟨b, hb, hbn⟩
          · have hb9 := behind_pos HOK.out (show kk < 8 by omega) hpl
            rw [hbv] at hb
            omega
          · rw [hbv] at hb
            rw [hb] at q0 hbv
            have HBV := Lib.hid hbv
            clear hbv hb
            have hq6 : p < S.l kk := hpl
            by_cases hbT : b = T
            · have hq3 : ((b : Int) != (T : Int)) = false := by rw [hbT]; simp
              have hq4 : (b != T) = false := by rw [hbT]; simp
              have HBT := Lib.hid hbT
              clear hbT
              go_wp2_with (first | (go_at_call 95; refine HIX.out.mono ?_; rintro e w9 ⟨rfl, rfl⟩))
              go_end0
              exact ⟨rfl, HZ.out.2.1.congr (fun _ _ => rfl) (fun _ _ => rfl) (fun a b' => by rw [anewH_self (by dsimp only; rw [Int.toNat_natCast, HBV.out, HBT.out]), Bool.or_false]), HZ.out.1, HKP.out⟩
            · have hq3 : ((b : Int) != (T : Int)) = true := by simp; omega
              have hq4 : (b != T) = true := by simpa using hbT
              have HBT := Lib.hid hbT
              have x1 := HZ.out.2.1.m3.out T hT
              have x2 := HZ.out.2.1.m3.cell hT hbn
              have x3 := (HZ.out.2.1.m3.row T hT).frozen b
              have HGE := Lib.hid (HZ.out.2.1.ge3 hT)
              clear hbT
              go_wp2_with (first | (go_at_call 95; refine HIX.out.mono ?_; rintro e w9 ⟨rfl, rfl⟩))
              refine wp_region_still_tail 10 (by kernel_rfl) (by kernel_rfl) ?_
              simp only [List.take_succ_cons, List.take_zero, List.drop_succ_cons, List.drop_zero]
              change wpStill _ _ wz.drew _ _ _
              refine wpStill_of_quiet ?_
              repeat (go_big_quiet_step (fail))
              refine wpQuiet_nil ?_
              change wpList _ _ _ _ _ wz.drew
              go_wp2
              go_end0
              exact ⟨rfl, ((HZ.out.2.1.set3 hT b).congr (fun _ _ => rfl) (fun _ _ => rfl) (fun a b' => by rw [mark (anewH_hit HAC.out (by dsimp only; rw [Int.toNat_natCast]; exact HBV.out) HBT.out a b')])).drew, (HZ.out.1.setCell HGE.out _).drew, fun k h1 hk => (heap_setCell_other _ _ _ _ (by have := (HZ.out.2.1.lt3 hT).2.2; show k ≠ r.G3 T; omega)).trans (HKP.out k h1 hk)⟩
        · have hbv : behindF S kk (f : Int) = -1 := by have := HP4.out; rwa [if_neg hpl] at this
          have HBV := Lib.hid hbv
          clear hbv
          obtain hpe : S.l kk ≤ p := by omega
          have hq5 : decide (p < S.l kk) = false := by simpa using hpl
          go_wp2_with (first | (go_at_call 95; refine HIX.out.mono ?_; rintro e w9 ⟨rfl, rfl⟩))
          go_end0
          exact ⟨rfl, HZ.out.2.1.congr (fun _ _ => rfl) (fun _ _ => rfl) (fun a b' => by rw [anewH_none (by dsimp only; rw [Int.toNat_natCast]; exact HBV.out), Bool.or_false]), HZ.out.1, HKP.out⟩

      · skip
        obtain ⟨bf, offf, rfl, hbf, hkf, A2f, c2f, f0, hkcf, f1, hopf⟩ := HH.out.txs f hfn
        have kf0 := cell_regrown ((HWA.out.cell (p := ⟨bf, offf + f * 2, none⟩) hbf).trans f0)
        have kf1 := cell_regrown ((HWA.out.cell (p := ⟨bf, offf + f * 2 + 1, none⟩) hbf).trans f1)
        have cI := fun d os => Calls.regrown_of (d := d) (os := os) (versions_any A2f (S.k f) c2f (S.c f) (kk : Int) (S.o f) (Go.Sort.grow (redrawn W d) os) hkf (hopf.below (HWA.out.trans ((below_regrown W d os).mono HWA.out.size))))
        have hnum := HNM.out f rfl
        clear hopf f0 f1
        generalize hvf : vers (S.o f) (kk : Int) (S.k f) = vf at *
        have HVF := Lib.hid hvf
        clear hvf
        obtain ⟨hnum1, hnum2⟩ := hnum
        refine wp_region_quiet_below (by kernel_rfl) (by kernel_rfl) ?_
        repeat (go_big_quiet_step (with_reducible exact cI _ _))
        refine wpQuiet_nil ?_
        rintro wq ⟨pq, hpq⟩
        have HBQ : Hid (Below W.heap.size W wq) := Lib.hid (hpq ▸ below_regrown W pq.d pq.os)
        clear hpq
        clear k0 k1 k2 k3 ks kf0 kf1 cI
        have HB3 : Hid (Below w.heap.size w wq) := Lib.hid (HWA.out.trans (HBQ.out.mono HWA.out.size))
        have HT3 := Lib.hid (HTW.out.below HBQ.out)
        have HC3 : Hid (wq.cell? ⟨be + 2, 1, none⟩ = some (.int .i64 (kk : Int)) ∧ wq.cell? ⟨be + 2, 2, none⟩ = some (.int .i64 (f : Int)) ∧ wq.cell? ⟨be + 1, 1, none⟩ = some (.slice (some ⟨vb, vo, none⟩) S.m cv) ∧ wq.cell? ⟨be, 2, none⟩ = some (.slice (some ⟨r.g3, 0, none⟩) S.n c3) ∧ wq.cell? ⟨be, 1, none⟩ = some (.slice (some ⟨r.g2, 0, none⟩) S.n c2)) := Lib.hid ⟨(HBQ.out.cell (p := ⟨be + 2, 1, none⟩) HW.out.2.2.2.2.2.2.2.2.2.2).trans HW.out.2.1, (HBQ.out.cell (p := ⟨be + 2, 2, none⟩) HW.out.2.2.2.2.2.2.2.2.2.2).trans HW.out.2.2.1, (HBQ.out.cell (p := ⟨be + 1, 1, none⟩) (by have := HW.out.2.2.2.2.2.2.2.2.2.2; show be + 1 < _; omega)).trans HW.out.2.2.2.2.2.1, (HBQ.out.cell (p := ⟨be, 2, none⟩) (by have := HW.out.2.2.2.2.2.2.2.2.2.2; show be < _; omega)).trans HW.out.2.2.2.2.2.2.2.2.1, (HBQ.out.cell (p := ⟨be, 1, none⟩) (by have := HW.out.2.2.2.2.2.2.2.2.2.2; show be < _; omega)).trans HW.out.2.2.2.2.2.2.2.1⟩
        have HGE2 := Lib.hid (HT3.out.ge2 hfn)
        have HLT2 := Lib.hid (HT3.out.lt3 hfn)
        have hne1 : be ≠ r.G2 f := by have := HBE.out; have := HLT2.out; omega
        have hne2 : be + 1 ≠ r.G2 f := by have := HBE.out; have := HLT2.out; omega
        have hne3 : be + 2 ≠ r.G2 f := by have := HBE.out; have := HLT2.out; omega
        have e1 := HT3.out.m2.out f hfn
        have e2 := HT3.out.m2.cell hfn hT
        have e3 := (HT3.out.m2.row f hfn).frozen T
        have e4 := HC3.out.1
        have e5 := HC3.out.2.1
        have e6 := HC3.out.2.2.1
        have e7 := HC3.out.2.2.2.1
        have e8 := HC3.out.2.2.2.2
        have HZ0 : Hid (Below B w (wq.setCell ⟨r.G2 f, T, none⟩ (.bool true)) ∧ Tri (wq.setCell ⟨r.G2 f, T, none⟩ (.bool true)) B S.n r M1 (fun a b => M2 a b || seenH S T ⟨false, (kk : Int), (f : Int), onum⟩ a b) M3 ∧ (wq.setCell ⟨r.G2 f, T, none⟩ (.bool true)).cell? ⟨be + 2, 1, none⟩ = some (.int .i64 (kk : Int)) ∧ (wq.setCell ⟨r.G2 f, T, none⟩ (.bool true)).cell? ⟨be + 2, 2, none⟩ = some (.int .i64 (f : Int)) ∧ (wq.setCell ⟨r.G2 f, T, none⟩ (.bool true)).cell? ⟨be + 1, 1, none⟩ = some (.slice (some ⟨vb, vo, none⟩) S.m cv) ∧ (wq.setCell ⟨r.G2 f, T, none⟩ (.bool true)).cell? ⟨be, 2, none⟩ = some (.slice (some ⟨r.g3, 0, none⟩) S.n c3)) :=
          Lib.hid ⟨(HB3.out.mono hBe').setCell HGE2.out _, (HT3.out.set2 hfn T).congr (fun _ _ => rfl) (fun a b' => by rw [mark (seenH_hit HAC.out rfl hfT (by show onum + 1 = ((vers (S.o f) (kk : Int) (S.k f) : Nat) : Int); rw [HVF.out]; simp at hv; omega) a b')]) (fun _ _ => rfl),
            (World.cell?_of_block (w := wq) (heap_setCell_other _ _ _ _ hne3)).trans HC3.out.1, (World.cell?_of_block (w := wq) (heap_setCell_other _ _ _ _ hne3)).trans HC3.out.2.1, (World.cell?_of_block (w := wq) (heap_setCell_other _ _ _ _ hne2)).trans HC3.out.2.2.1, (World.cell?_of_block (w := wq) (heap_setCell_other _ _ _ _ hne1)).trans HC3.out.2.2.2.1⟩
        have HKP : Hid (∀ k, r.h3 ≤ k → k < w.heap.size → (wq.setCell ⟨r.G2 f, T, none⟩ (.bool true)).heap[k]? = w.heap[k]?) := Lib.hid (fun k h1 hk => (heap_setCell_other _ _ _ _ (by have := HLT2.out; show k ≠ r.G2 f; omega)).trans (HB3.out.block k hk))
        have z1 := HZ0.out.2.2.1
        have z2 := HZ0.out.2.2.2.1
        have z3 := HZ0.out.2.2.2.2.1
        have z4 := HZ0.out.2.2.2.2.2
        have zv := (HZ0.out.1.cell (p := ⟨vb, vo + kk, none⟩) hvB).trans HVC.out
        go_wp2_with fail
        generalize wq.setCell ⟨r.G2 f, T, none⟩ (.bool true) = wz at *
        clear e1 e2 e3 e4 e5 e6 e7 e8 z1 z2 z3 z4 zv
        have HZ := HZ0
        have z1 := HZ.out.2.2.1
        have z2 := HZ.out.2.2.2.1
        have z3 := HZ.out.2.2.2.2.1
        have z4 := HZ.out.2.2.2.2.2
        have zv := (HZ.out.1.cell (p := ⟨vb, vo + kk, none⟩) hvB).trans HVC.out
        have HIX := Lib.hid (Index_any A2 (S.l kk) cc2 (S.x kk) (f : Int) wz (by unfold maxLen; omega) (hints_keep HI.out HZ.out.1 hIB))
        rw [HP1.out (by omega)] at HIX
        by_cases hpl : p < S.l kk
        · obtain ⟨b2, o2, rfl, hb2, q0⟩ := (hints_keep HI.out HZ.out.1 hIB) p hpl
          have hbv : behindF S kk (f : Int) = S.x kk p := by have := HP4.out; rwa [if_pos hpl] at this
          rcases HCS.out with hb | ⟨b, hb, hbn⟩
          · have hb9 := behind_pos HOK.out (show kk < 8 by omega) hpl
            rw [hbv] at hb
            omega
          · rw [hbv] at hb
            rw [hb] at q0 hbv
            have HBV := Lib.hid hbv
            clear hbv hb
            have hq6 : p < S.l kk := hpl
            by_cases hbT : b = T
            · have hq3 : ((b : Int) != (T : Int)) = false := by rw [hbT]; simp
              have hq4 : (b != T) = false := by rw [hbT]; simp
              have HBT := Lib.hid hbT
              clear hbT
              go_wp2_with (first | (go_at_call 95; refine HIX.out.mono ?_; rintro e w9 ⟨rfl, rfl⟩))
              go_end0
              exact ⟨rfl, HZ.out.2.1.congr (fun _ _ => rfl) (fun _ _ => rfl) (fun a b' => by rw [anewH_self (by dsimp only; rw [Int.toNat_natCast, HBV.out, HBT.out]), Bool.or_false]), HZ.out.1, HKP.out⟩
            · have hq3 : ((b : Int) != (T : Int)) = true := by simp; omega
              have hq4 : (b != T) = true := by simpa using hbT
              have HBT := Lib.hid hbT
              have x1 := HZ.out.2.1.m3.out T hT
              have x2 := HZ.out.2.1.m3.cell hT hbn
              have x3 := (HZ.out.2.1.m3.row T hT).frozen b
              have HGE := Lib.hid (HZ.out.2.1.ge3 hT)
              clear hbT
              go_wp2_with (first | (go_at_call 95; refine HIX.out.mono ?_; rintro e w9 ⟨rfl, rfl⟩))
              refine wp_region_still_tail 10 (by kernel_rfl) (by kernel_rfl) ?_
              simp only [List.take_succ_cons, List.take_zero, List.drop_succ_cons, List.drop_zero]
              change wpStill _ _ wz.drew _ _ _
              refine wpStill_of_quiet ?_
              repeat (go_big_quiet_step (fail))
              refine wpQuiet_nil ?_
              change wpList _ _ _ _ _ wz.drew
              go_wp2
              go_end0
              exact ⟨rfl, ((HZ.out.2.1.set3 hT b).congr (fun _ _ => rfl) (fun _ _ => rfl) (fun a b' => by rw [mark (anewH_hit HAC.out (by dsimp only; rw [Int.toNat_natCast]; exact HBV.out) HBT.out a b')])).drew, (HZ.out.1.setCell HGE.out _).drew, fun k h1 hk => (heap_setCell_other _ _ _ _ (by have := (HZ.out.2.1.lt3 hT).2.2; show k ≠ r.G3 T; omega)).trans (HKP.out k h1 hk)⟩
        · have hbv : behindF S kk (f : Int) = -1 := by have := HP4.out; rwa [if_neg hpl] at this
          have HBV := Lib.hid hbv
          clear hbv
          obtain hpe : S.l kk ≤ p := by omega
          have hq5 : decide (p < S.l kk) = false := by simpa using hpl
          go_wp2_with (first | (go_at_call 95; refine HIX.out.mono ?_; rintro e w9 ⟨rfl, rfl⟩))
          go_end0
          exact ⟨rfl, HZ.out.2.1.congr (fun _ _ => rfl) (fun _ _ => rfl) (fun a b' => by rw [anewH_none (by dsimp only; rw [Int.toNat_natCast]; exact HBV.out), Bool.or_false]), HZ.out.1, HKP.out⟩

end Go.Proofs.YtkncomfbedbikaaDoor
