/- isolate.checkOp, checkOrder, Check: which error a story has. -/
import Derived.Test.YtkncomfbedbikaaDoorIsoP
namespace Go.Proofs.YtkncomfbedbikaaDoor
open Go.RowKit
attribute [local go_sem] eq_nil ne_nil nil_eq_nil nil_ne_nil
theorem errV_zero : errV 0 = .nilIface := rfl
set_option maxRecDepth 100000 in
set_option maxHeartbeats 8000000 in
theorem icheckOp_any (A V : Option Addr) (c cv : Nat) (S : GStory) (o : IOp) (w : World) (h : StoryAt w A V S) :
    Calls Tryd.prog 133 #[.agg #[.slice A S.n c, .slice V S.m cv], o.val] w fun e w' => e = .returned (errV (opErrI S o)) ∧ Below w.heap.size w w' := by
  obtain ⟨owr, okey, ofrm, onum⟩ := o
  have HS := Lib.hid h
  have hnn := h.hn
  have ht := op_tree S ⟨owr, okey, ofrm, onum⟩
  dsimp only at ht
  have HB : Hid (∀ ob, Below w.heap.size w ((w.alloc (.cells #[.slice A S.n c, .slice V S.m cv] 77)).alloc ob)) := Lib.hid (fun ob => ((Below.refl _ _).alloc (Nat.le_refl _) _).alloc (by simp) _)
  clear h
  rcases ht with ⟨d1, hd⟩ | ⟨d1, d2, hd⟩ | ⟨d1, d2, d3, hd⟩ | ⟨d1, d2, d3, d4, hd⟩ | ⟨d1, d2, d3, d4, d5, hd⟩ | ⟨d1, d2, d3, d4, d5, d6, d7, hd⟩ | ⟨d1, d2, d3, d4, d5, d6, d7, d8, hd⟩ | ⟨d1, d2, d3, d4, d5, d6, d7, d8, hd⟩ | ⟨d1, d2, d3, d4, d5, d6, d7, d8, hd⟩ | ⟨d1, d2, d3, d4, d5, d6, d7, d8, hd⟩ | ⟨f, d1, d2, d3, d4, d5, d6, d7, hd⟩ | ⟨f, d1, d2, d3, d4, d5, d6, d7, hd⟩
  all_goals
    rw [hd]
    clear hd
  · skip
    rw [errV_ne 2 (by omega)]
    go_enter Tryd.func133, Tryd.ntmps133
    go_wp2
    go_ret
    exact ⟨rfl, HB.out _⟩
  · skip
    rw [errV_ne 2 (by omega)]
    go_enter Tryd.func133, Tryd.ntmps133
    go_wp2
    go_ret
    exact ⟨rfl, HB.out _⟩
  · skip
    rw [errV_ne 2 (by omega)]
    go_enter Tryd.func133, Tryd.ntmps133
    go_wp2
    go_ret
    exact ⟨rfl, HB.out _⟩
  · skip
    rw [errV_ne 2 (by omega)]
    go_enter Tryd.func133, Tryd.ntmps133
    go_wp2
    go_ret
    exact ⟨rfl, HB.out _⟩
  · skip
    rw [errV_ne 2 (by omega)]
    go_enter Tryd.func133, Tryd.ntmps133
    go_wp2
    go_ret
    exact ⟨rfl, HB.out _⟩
  · subst d6
    rw [errV_ne 1 (by omega)]
    go_enter Tryd.func133, Tryd.ntmps133
    go_wp2
    go_ret
    exact ⟨rfl, HB.out _⟩
  · subst d6 d7
    rw [errV_ne 1 (by omega)]
    go_enter Tryd.func133, Tryd.ntmps133
    go_wp2
    go_ret
    exact ⟨rfl, HB.out _⟩
  · subst d6 d7 d8
    rw [errV_zero]
    have HX : Hid (Below w.heap.size w ((w.alloc (.cells #[.slice A S.n c, .slice V S.m cv] 77)).alloc (.cells #[.bool true, .int .i64 okey, .int .i64 0, .int .i64 0] 139)) ∧ ((w.alloc (.cells #[.slice A S.n c, .slice V S.m cv] 77)).alloc (.cells #[.bool true, .int .i64 okey, .int .i64 0, .int .i64 0] 139)).cell? ⟨w.heap.size, 0, none⟩ = some (.slice A S.n c) ∧ ((w.alloc (.cells #[.slice A S.n c, .slice V S.m cv] 77)).alloc (.cells #[.bool true, .int .i64 okey, .int .i64 0, .int .i64 0] 139)).cell? ⟨w.heap.size + 1, 0, none⟩ = some (.bool true) ∧ ((w.alloc (.cells #[.slice A S.n c, .slice V S.m cv] 77)).alloc (.cells #[.bool true, .int .i64 okey, .int .i64 0, .int .i64 0] 139)).cell? ⟨w.heap.size + 1, 1, none⟩ = some (.int .i64 okey) ∧ ((w.alloc (.cells #[.slice A S.n c, .slice V S.m cv] 77)).alloc (.cells #[.bool true, .int .i64 okey, .int .i64 0, .int .i64 0] 139)).cell? ⟨w.heap.size + 1, 2, none⟩ = some (.int .i64 0) ∧ ((w.alloc (.cells #[.slice A S.n c, .slice V S.m cv] 77)).alloc (.cells #[.bool true, .int .i64 okey, .int .i64 0, .int .i64 0] 139)).cell? ⟨w.heap.size + 1, 3, none⟩ = some (.int .i64 0)) :=
      Lib.hid ⟨HB.out _, by simp, by simp, by simp, by simp, by simp⟩
    go_enter Tryd.func133, Tryd.ntmps133
    go_wp2_with fail
    generalize (w.alloc (.cells #[.slice A S.n c, .slice V S.m cv] 77)).alloc (.cells #[.bool true, .int .i64 okey, .int .i64 0, .int .i64 0] 139) = W at *
    have ks := cell_regrown HX.out.2.1
    have k0 := cell_regrown HX.out.2.2.1
    have k1 := cell_regrown HX.out.2.2.2.1
    have k2 := cell_regrown HX.out.2.2.2.2.1
    have k3 := cell_regrown HX.out.2.2.2.2.2
    refine wp_region_quiet_below (by kernel_rfl) (by kernel_rfl) ?_
    repeat (go_big_quiet_step (fail))
    refine wpQuiet_nil ?_
    rintro wq ⟨pq, hpq⟩
    have HBQ : Hid (Below W.heap.size W wq) := Lib.hid (hpq ▸ below_regrown W pq.d pq.os)
    clear hpq
    clear k0 k1 k2 k3 ks
    have HB3 : Hid (Below w.heap.size w wq) := Lib.hid (HX.out.1.trans (HBQ.out.mono HX.out.1.size))
    go_wp2
    go_ret
    exact ⟨rfl, HB3.out⟩
  · subst d6 d7
    rw [errV_ne 1 (by omega)]
    go_enter Tryd.func133, Tryd.ntmps133
    go_wp2
    go_ret
    exact ⟨rfl, HB.out _⟩
  · subst d6 d7 d8
    rw [errV_zero]
    have HX : Hid (Below w.heap.size w ((w.alloc (.cells #[.slice A S.n c, .slice V S.m cv] 77)).alloc (.cells #[.bool false, .int .i64 okey, .int .i64 (-1), .int .i64 0] 139)) ∧ ((w.alloc (.cells #[.slice A S.n c, .slice V S.m cv] 77)).alloc (.cells #[.bool false, .int .i64 okey, .int .i64 (-1), .int .i64 0] 139)).cell? ⟨w.heap.size, 0, none⟩ = some (.slice A S.n c) ∧ ((w.alloc (.cells #[.slice A S.n c, .slice V S.m cv] 77)).alloc (.cells #[.bool false, .int .i64 okey, .int .i64 (-1), .int .i64 0] 139)).cell? ⟨w.heap.size + 1, 0, none⟩ = some (.bool false) ∧ ((w.alloc (.cells #[.slice A S.n c, .slice V S.m cv] 77)).alloc (.cells #[.bool false, .int .i64 okey, .int .i64 (-1), .int .i64 0] 139)).cell? ⟨w.heap.size + 1, 1, none⟩ = some (.int .i64 okey) ∧ ((w.alloc (.cells #[.slice A S.n c, .slice V S.m cv] 77)).alloc (.cells #[.bool false, .int .i64 okey, .int .i64 (-1), .int .i64 0] 139)).cell? ⟨w.heap.size + 1, 2, none⟩ = some (.int .i64 (-1)) ∧ ((w.alloc (.cells #[.slice A S.n c, .slice V S.m cv] 77)).alloc (.cells #[.bool false, .int .i64 okey, .int .i64 (-1), .int .i64 0] 139)).cell? ⟨w.heap.size + 1, 3, none⟩ = some (.int .i64 0)) :=
      Lib.hid ⟨HB.out _, by simp, by simp, by simp, by simp, by simp⟩
    go_enter Tryd.func133, Tryd.ntmps133
    go_wp2_with fail
    generalize (w.alloc (.cells #[.slice A S.n c, .slice V S.m cv] 77)).alloc (.cells #[.bool false, .int .i64 okey, .int .i64 (-1), .int .i64 0] 139) = W at *
    have ks := cell_regrown HX.out.2.1
    have k0 := cell_regrown HX.out.2.2.1
    have k1 := cell_regrown HX.out.2.2.2.1
    have k2 := cell_regrown HX.out.2.2.2.2.1
    have k3 := cell_regrown HX.out.2.2.2.2.2
    refine wp_region_quiet_below (by kernel_rfl) (by kernel_rfl) ?_
    repeat (go_big_quiet_step (fail))
    refine wpQuiet_nil ?_
    rintro wq ⟨pq, hpq⟩
    have HBQ : Hid (Below W.heap.size W wq) := Lib.hid (hpq ▸ below_regrown W pq.d pq.os)
    clear hpq
    clear k0 k1 k2 k3 ks
    have HB3 : Hid (Below w.heap.size w wq) := Lib.hid (HX.out.1.trans (HBQ.out.mono HX.out.1.size))
    go_wp2
    go_ret
    exact ⟨rfl, HB3.out⟩
  · subst d6 d3
    rw [errV_ne 7 (by omega)]
    have HX : Hid (Below w.heap.size w ((w.alloc (.cells #[.slice A S.n c, .slice V S.m cv] 77)).alloc (.cells #[.bool false, .int .i64 okey, .int .i64 (f : Int), .int .i64 onum] 139)) ∧ ((w.alloc (.cells #[.slice A S.n c, .slice V S.m cv] 77)).alloc (.cells #[.bool false, .int .i64 okey, .int .i64 (f : Int), .int .i64 onum] 139)).cell? ⟨w.heap.size, 0, none⟩ = some (.slice A S.n c) ∧ ((w.alloc (.cells #[.slice A S.n c, .slice V S.m cv] 77)).alloc (.cells #[.bool false, .int .i64 okey, .int .i64 (f : Int), .int .i64 onum] 139)).cell? ⟨w.heap.size + 1, 0, none⟩ = some (.bool false) ∧ ((w.alloc (.cells #[.slice A S.n c, .slice V S.m cv] 77)).alloc (.cells #[.bool false, .int .i64 okey, .int .i64 (f : Int), .int .i64 onum] 139)).cell? ⟨w.heap.size + 1, 1, none⟩ = some (.int .i64 okey) ∧ ((w.alloc (.cells #[.slice A S.n c, .slice V S.m cv] 77)).alloc (.cells #[.bool false, .int .i64 okey, .int .i64 (f : Int), .int .i64 onum] 139)).cell? ⟨w.heap.size + 1, 2, none⟩ = some (.int .i64 (f : Int)) ∧ ((w.alloc (.cells #[.slice A S.n c, .slice V S.m cv] 77)).alloc (.cells #[.bool false, .int .i64 okey, .int .i64 (f : Int), .int .i64 onum] 139)).cell? ⟨w.heap.size + 1, 3, none⟩ = some (.int .i64 onum)) :=
      Lib.hid ⟨HB.out _, by simp, by simp, by simp, by simp, by simp⟩
    go_enter Tryd.func133, Tryd.ntmps133
    go_wp2_with fail
    generalize (w.alloc (.cells #[.slice A S.n c, .slice V S.m cv] 77)).alloc (.cells #[.bool false, .int .i64 okey, .int .i64 (f : Int), .int .i64 onum] 139) = W at *
    have ks := cell_regrown HX.out.2.1
    have k0 := cell_regrown HX.out.2.2.1
    have k1 := cell_regrown HX.out.2.2.2.1
    have k2 := cell_regrown HX.out.2.2.2.2.1
    have k3 := cell_regrown HX.out.2.2.2.2.2
    obtain ⟨bf, offf, rfl, hbf, hkf, A2f, c2f, f0, hkcf, f1, hopf⟩ := HS.out.txs f d4
    have kf0 := cell_regrown ((HX.out.1.cell (p := ⟨bf, offf + f * 2, none⟩) hbf).trans f0)
    have kf1 := cell_regrown ((HX.out.1.cell (p := ⟨bf, offf + f * 2 + 1, none⟩) hbf).trans f1)
    have cI := fun d os => Calls.regrown_of (d := d) (os := os) (versions_any A2f (S.k f) c2f (S.c f) okey (S.o f) (Go.Sort.grow (redrawn W d) os) hkf (hopf.below (HX.out.1.trans ((below_regrown W d os).mono HX.out.1.size))))
    clear hopf f0 f1
    generalize vers (S.o f) okey (S.k f) = vf at *
    have hf1 : ((f : Int) != -1) = true := by simp
    refine wp_region_quiet_below (by kernel_rfl) (by kernel_rfl) ?_
    repeat (go_big_quiet_step (with_reducible exact cI _ _))
    refine wpQuiet_nil ?_
    rintro wq ⟨pq, hpq⟩
    have HBQ : Hid (Below W.heap.size W wq) := Lib.hid (hpq ▸ below_regrown W pq.d pq.os)
    clear hpq
    clear k0 k1 k2 k3 ks kf0 kf1 cI
    have HB3 : Hid (Below w.heap.size w wq) := Lib.hid (HX.out.1.trans (HBQ.out.mono HX.out.1.size))
    go_wp2
    go_ret
    exact ⟨rfl, HB3.out⟩
  · subst d6 d3
    rw [errV_zero]
    have HX : Hid (Below w.heap.size w ((w.alloc (.cells #[.slice A S.n c, .slice V S.m cv] 77)).alloc (.cells #[.bool false, .int .i64 okey, .int .i64 (f : Int), .int .i64 onum] 139)) ∧ ((w.alloc (.cells #[.slice A S.n c, .slice V S.m cv] 77)).alloc (.cells #[.bool false, .int .i64 okey, .int .i64 (f : Int), .int .i64 onum] 139)).cell? ⟨w.heap.size, 0, none⟩ = some (.slice A S.n c) ∧ ((w.alloc (.cells #[.slice A S.n c, .slice V S.m cv] 77)).alloc (.cells #[.bool false, .int .i64 okey, .int .i64 (f : Int), .int .i64 onum] 139)).cell? ⟨w.heap.size + 1, 0, none⟩ = some (.bool false) ∧ ((w.alloc (.cells #[.slice A S.n c, .slice V S.m cv] 77)).alloc (.cells #[.bool false, .int .i64 okey, .int .i64 (f : Int), .int .i64 onum] 139)).cell? ⟨w.heap.size + 1, 1, none⟩ = some (.int .i64 okey) ∧ ((w.alloc (.cells #[.slice A S.n c, .slice V S.m cv] 77)).alloc (.cells #[.bool false, .int .i64 okey, .int .i64 (f : Int), .int .i64 onum] 139)).cell? ⟨w.heap.size + 1, 2, none⟩ = some (.int .i64 (f : Int)) ∧ ((w.alloc (.cells #[.slice A S.n c, .slice V S.m cv] 77)).alloc (.cells #[.bool false, .int .i64 okey, .int .i64 (f : Int), .int .i64 onum] 139)).cell? ⟨w.heap.size + 1, 3, none⟩ = some (.int .i64 onum)) :=
      Lib.hid ⟨HB.out _, by simp, by simp, by simp, by simp, by simp⟩
    go_enter Tryd.func133, Tryd.ntmps133
    go_wp2_with fail
    generalize (w.alloc (.cells #[.slice A S.n c, .slice V S.m cv] 77)).alloc (.cells #[.bool false, .int .i64 okey, .int .i64 (f : Int), .int .i64 onum] 139) = W at *
    have ks := cell_regrown HX.out.2.1
    have k0 := cell_regrown HX.out.2.2.1
    have k1 := cell_regrown HX.out.2.2.2.1
    have k2 := cell_regrown HX.out.2.2.2.2.1
    have k3 := cell_regrown HX.out.2.2.2.2.2
    obtain ⟨bf, offf, rfl, hbf, hkf, A2f, c2f, f0, hkcf, f1, hopf⟩ := HS.out.txs f d4
    have kf0 := cell_regrown ((HX.out.1.cell (p := ⟨bf, offf + f * 2, none⟩) hbf).trans f0)
    have kf1 := cell_regrown ((HX.out.1.cell (p := ⟨bf, offf + f * 2 + 1, none⟩) hbf).trans f1)
    have cI := fun d os => Calls.regrown_of (d := d) (os := os) (versions_any A2f (S.k f) c2f (S.c f) okey (S.o f) (Go.Sort.grow (redrawn W d) os) hkf (hopf.below (HX.out.1.trans ((below_regrown W d os).mono HX.out.1.size))))
    clear hopf f0 f1
    generalize vers (S.o f) okey (S.k f) = vf at *
    have hf1 : ((f : Int) != -1) = true := by simp
    refine wp_region_quiet_below (by kernel_rfl) (by kernel_rfl) ?_
    repeat (go_big_quiet_step (with_reducible exact cI _ _))
    refine wpQuiet_nil ?_
    rintro wq ⟨pq, hpq⟩
    have HBQ : Hid (Below W.heap.size W wq) := Lib.hid (hpq ▸ below_regrown W pq.d pq.os)
    clear hpq
    clear k0 k1 k2 k3 ks kf0 kf1 cI
    have HB3 : Hid (Below w.heap.size w wq) := Lib.hid (HX.out.1.trans (HBQ.out.mono HX.out.1.size))
    go_wp2
    go_ret
    exact ⟨rfl, HB3.out⟩
set_option maxRecDepth 100000 in
set_option maxHeartbeats 4000000 in
/-- The function value in checkOrder. -/
theorem iwrites_any (A V : Option Addr) (c _cv gs gk : Nat) (S : GStory) (q x : Nat) (w : World) (h : StoryAt w A V S) (hx : x < S.n) (hs : w.cell? ⟨gs, 0, none⟩ = some (.slice A S.n c)) (hk : w.cell? ⟨gk, 0, none⟩ = some (.int .i64 (q : Int))) :
    Calls Tryd.prog 145 #[.int .i64 (x : Int), .pointer (some ⟨gs, 0, none⟩), .pointer (some ⟨gk, 0, none⟩)] w fun e w' => e = .returned (.bool (writB S q x)) ∧ Below w.heap.size w w' := by
  obtain ⟨bf, offf, rfl, hbf, hkf, A2f, c2f, f0, hkcf, f1, hopf⟩ := h.txs x hx
  have hnn := h.hn
  have ks := cell_regrown hs
  have kk := cell_regrown hk
  have kf0 := cell_regrown f0
  have kf1 := cell_regrown f1
  have cI := fun d os => Calls.regrown_of (d := d) (os := os) (versions_any A2f (S.k x) c2f (S.c x) (q : Int) (S.o x) (Go.Sort.grow (redrawn w d) os) hkf (hopf.below (below_regrown w d os)))
  have HWB : Hid (writB S q x = (S.c x && decide (0 < vers (S.o x) (q : Int) (S.k x)))) := Lib.hid rfl
  clear h hopf hs hk f0 f1
  generalize vers (S.o x) (q : Int) (S.k x) = vf at *
  rw [HWB.out]
  clear HWB
  cases hc : S.c x
  · rw [hc] at kf1
    clear hc
    go_enter Tryd.func145, Tryd.ntmps145
    go_wp2_with fail
    refine wp_region_quiet_below (by kernel_rfl) (by kernel_rfl) ?_
    repeat (go_big_quiet_step (fail))
    refine wpQuiet_nil ?_
    rintro wq ⟨pq, hpq⟩
    have HBQ : Hid (Below w.heap.size w wq) := Lib.hid (hpq ▸ below_regrown w pq.d pq.os)
    clear hpq
    go_wp2
    go_ret
    exact ⟨rfl, HBQ.out⟩
  · rw [hc] at kf1 cI
    clear hc
    cases hv : decide (0 < vf)
    all_goals
      go_enter Tryd.func145, Tryd.ntmps145
      go_wp2_with fail
      refine wp_region_quiet_below (by kernel_rfl) (by kernel_rfl) ?_
      repeat (go_big_quiet_step (with_reducible exact cI _ _))
      refine wpQuiet_nil ?_
      rintro wq ⟨pq, hpq⟩
      have HBQ : Hid (Below w.heap.size w wq) := Lib.hid (hpq ▸ below_regrown w pq.d pq.os)
      clear hpq
      go_wp2
      go_ret
      exact ⟨rfl, HBQ.out⟩
end Go.Proofs.YtkncomfbedbikaaDoor
