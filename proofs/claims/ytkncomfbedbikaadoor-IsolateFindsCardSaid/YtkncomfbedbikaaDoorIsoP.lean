/- A story: transactions of ops, and rows of numbers; how often one writes a key. · Plain: which error a story has. -/
import Derived.Test.YtkncomfbedbikaaDoorSessB
import Derived.Test.YtkncomfbedbikaaDoorMat
import Derived.BigQuiet
namespace Go.Proofs.YtkncomfbedbikaaDoor
open Go.RowKit
/-- An op's parts. -/
structure IOp where
  wr : Bool
  key : Int
  frm : Int
  num : Int
abbrev IOp.val (o : IOp) : Value := .agg #[.bool o.wr, .int .i64 o.key, .int .i64 o.frm, .int .i64 o.num]
abbrev IOp.obj (o : IOp) (t : TypeId) : Obj := .cells #[.bool o.wr, .int .i64 o.key, .int .i64 o.frm, .int .i64 o.num] t
/-- Transactions: n of them, k i ops each, o i j an op, c i whether it commits; m rows of numbers, l i in each, x i j a number. -/
structure GStory where
  n : Nat
  k : Nat → Nat
  o : Nat → Nat → IOp
  c : Nat → Bool
  m : Nat
  l : Nat → Nat
  x : Nat → Nat → Int
def IOpsAt (w : World) (A : Option Addr) (n : Nat) (O : Nat → IOp) : Prop :=
  ∀ i, i < n → ∃ b off, A = some ⟨b, off, none⟩ ∧ b < w.heap.size ∧ w.cell? ⟨b, off + i * 4, none⟩ = some (.bool (O i).wr) ∧ w.cell? ⟨b, off + i * 4 + 1, none⟩ = some (.int .i64 (O i).key) ∧ w.cell? ⟨b, off + i * 4 + 2, none⟩ = some (.int .i64 (O i).frm) ∧ w.cell? ⟨b, off + i * 4 + 3, none⟩ = some (.int .i64 (O i).num)
theorem IOpsAt.below {w w' : World} {A : Option Addr} {n : Nat} {O : Nat → IOp} (h : IOpsAt w A n O) (hb : Below w.heap.size w w') : IOpsAt w' A n O := fun i hi => by
  obtain ⟨b, off, rfl, h1, h2, h3, h4, h5⟩ := h i hi
  exact ⟨b, off, rfl, Nat.lt_of_lt_of_le h1 hb.size, (hb.cell (p := ⟨b, _, none⟩) h1).trans h2, (hb.cell (p := ⟨b, _, none⟩) h1).trans h3, (hb.cell (p := ⟨b, _, none⟩) h1).trans h4, (hb.cell (p := ⟨b, _, none⟩) h1).trans h5⟩
def TxsAt (w : World) (A : Option Addr) (S : GStory) : Prop :=
  ∀ i, i < S.n → ∃ b off, A = some ⟨b, off, none⟩ ∧ b < w.heap.size ∧ S.k i ≤ 4398046510976 ∧ ∃ A2 c2, w.cell? ⟨b, off + i * 2, none⟩ = some (.slice A2 (S.k i) c2) ∧ S.k i ≤ c2 ∧ w.cell? ⟨b, off + i * 2 + 1, none⟩ = some (.bool (S.c i)) ∧ IOpsAt w A2 (S.k i) (S.o i)
theorem TxsAt.below {w w' : World} {A : Option Addr} {S : GStory} (h : TxsAt w A S) (hb : Below w.heap.size w w') : TxsAt w' A S := fun i hi => by
  obtain ⟨b, off, rfl, h1, h2, A2, c2, h3, h4, h5, h6⟩ := h i hi
  exact ⟨b, off, rfl, Nat.lt_of_lt_of_le h1 hb.size, h2, A2, c2, (hb.cell (p := ⟨b, _, none⟩) h1).trans h3, h4, (hb.cell (p := ⟨b, _, none⟩) h1).trans h5, h6.below hb⟩
/-- The slice at A reads as m rows of numbers; their capacities hold them. -/
def RowsC (w : World) (A : Option Addr) (m : Nat) (L : Nat → Nat) (X : Nat → Nat → Int) : Prop :=
  ∀ i, i < m → ∃ b off, A = some ⟨b, off, none⟩ ∧ b < w.heap.size ∧ L i ≤ 17592186043904 ∧ ∃ A2 c2, w.cell? ⟨b, off + i, none⟩ = some (.slice A2 (L i) c2) ∧ L i ≤ c2 ∧ IntsAt w A2 (L i) (X i)
theorem RowsC.below {w w' : World} {A : Option Addr} {m : Nat} {L : Nat → Nat} {X : Nat → Nat → Int} (h : RowsC w A m L X) (hb : Below w.heap.size w w') : RowsC w' A m L X := fun i hi => by
  obtain ⟨b, off, rfl, h1, h2, A2, c2, h3, h4, h5⟩ := h i hi
  exact ⟨b, off, rfl, Nat.lt_of_lt_of_le h1 hb.size, h2, A2, c2, (hb.cell (p := ⟨b, off + i, none⟩) h1).trans h3, h4, h5.below hb⟩
/-- The slices A, V read as a story. -/
structure StoryAt (w : World) (A : Option Addr) (V : Option Addr) (S : GStory) : Prop where
  txs : TxsAt w A S
  rows : RowsC w V S.m S.l S.x
  hn : S.n ≤ 4398046510976
  hm : S.m ≤ 5864062014634
theorem StoryAt.below {w w' : World} {A V : Option Addr} {S : GStory} (h : StoryAt w A V S) (hb : Below w.heap.size w w') : StoryAt w' A V S := ⟨h.txs.below hb, h.rows.below hb, h.hn, h.hm⟩
def IBoxAt (w : World) (b : Nat) (o : IOp) : Prop :=
  w.cell? ⟨b, 0, none⟩ = some (.bool o.wr) ∧ w.cell? ⟨b, 1, none⟩ = some (.int .i64 o.key) ∧ w.cell? ⟨b, 2, none⟩ = some (.int .i64 o.frm) ∧ w.cell? ⟨b, 3, none⟩ = some (.int .i64 o.num)
theorem IBoxAt.below {w w' : World} {b : Nat} {o : IOp} {B : Nat} (h : IBoxAt w b o) (hb : Below B w w') (hB : b < B) : IBoxAt w' b o := by
  obtain ⟨h0, h1, h2, h3⟩ := h
  have e : ∀ k, w'.cell? ⟨b, k, none⟩ = w.cell? ⟨b, k, none⟩ := fun k => hb.cell (p := ⟨b, k, none⟩) hB
  exact ⟨(e _).trans h0, (e _).trans h1, (e _).trans h2, (e _).trans h3⟩
theorem ibox_new {w : World} {g : Nat} (hg : g = w.heap.size) (o : IOp) (t : TypeId) : IBoxAt (w.alloc (o.obj t)) g o := by
  subst hg
  simp [IBoxAt, World.cell?_alloc_new]
theorem IBoxAt.regrown {W : World} {b : Nat} {o : IOp} (h : IBoxAt W b o) :
    (∀ d os, (Go.Sort.grow (redrawn W d) os).cell? ⟨b, 0, none⟩ = some (.bool o.wr)) ∧ (∀ d os, (Go.Sort.grow (redrawn W d) os).cell? ⟨b, 1, none⟩ = some (.int .i64 o.key)) ∧ (∀ d os, (Go.Sort.grow (redrawn W d) os).cell? ⟨b, 2, none⟩ = some (.int .i64 o.frm)) ∧ (∀ d os, (Go.Sort.grow (redrawn W d) os).cell? ⟨b, 3, none⟩ = some (.int .i64 o.num)) := by
  obtain ⟨h0, h1, h2, h3⟩ := h
  exact ⟨cell_regrown h0, cell_regrown h1, cell_regrown h2, cell_regrown h3⟩
/-- How often key is written by the ops below n. -/
def vers (O : Nat → IOp) (key : Int) : Nat → Nat
  | 0 => 0
  | n + 1 => if (O n).wr = true ∧ (O n).key = key then vers O key n + 1 else vers O key n
theorem vers_le (O : Nat → IOp) (key : Int) : ∀ n, vers O key n ≤ n
  | 0 => Nat.le_refl _
  | n + 1 => by
    have := vers_le O key n
    unfold vers
    split <;> omega
theorem vers_tree (O : Nat → IOp) (key : Int) (n : Nat) (o : IOp) (ho : O n = o) :
    (o.wr = false ∧ vers O key (n + 1) = vers O key n) ∨ (o.wr = true ∧ (o.key == key) = false ∧ vers O key (n + 1) = vers O key n) ∨ (o.wr = true ∧ (o.key == key) = true ∧ vers O key (n + 1) = vers O key n + 1) := by
  rw [show vers O key (n + 1) = if (O n).wr = true ∧ (O n).key = key then vers O key n + 1 else vers O key n from rfl, ho]
  cases h : o.wr
  · exact .inl ⟨rfl, by simp⟩
  · by_cases h2 : o.key = key
    · exact .inr (.inr ⟨rfl, by simpa using h2, by simp [h2]⟩)
    · exact .inr (.inl ⟨rfl, by simpa using h2, by simp [h2]⟩)
set_option maxRecDepth 100000 in
set_option maxHeartbeats 4000000 in
theorem wrote_any (A : Option Addr) (k c : Nat) (cm : Bool) (key : Int) (O : Nat → IOp) (w : World) (hk : k ≤ 4398046510976) (hA : IOpsAt w A k O) :
    Calls Tryd.prog 67 #[.agg #[.slice A k c, .bool cm], .int .i64 key] w fun e w' => e = .returned (.int .i64 (vers O key k : Nat)) ∧ Below w.heap.size w w' := by
  have HA := Lib.hid hA
  have HV := Lib.hid (fun n => vers_le O key n)
  have HG : Hid (Below w.heap.size w (w.alloc (.cells #[.slice A k c, .bool cm] 145))) := Lib.hid ((Below.refl _ _).alloc (Nat.le_refl _) _)
  clear hA
  go_enter Tryd.func67, Tryd.ntmps67
  go_wp2_with fail
  go_loopw [5, 11] (fun v x wr => ∃ j : Nat, x = .int .i64 j ∧ j ≤ k ∧ v = .int .i64 (vers O key j : Nat) ∧ Below w.heap.size w wr) (fun _ x _ => k - (intOf x).toNat)
  case atStart => exact ⟨0, rfl, by omega, rfl, HG.out⟩
  case round =>
    obtain ⟨j, rfl, hj, rfl, hbw⟩ := hrel
    have HB := Lib.hid hbw
    clear hbw
    by_cases hlt : j < k
    · obtain ⟨b, off, rfl, hb, g0, g1, g2, g3⟩ := (HA.out.below HB.out) j hlt
      obtain ⟨o, ho⟩ : ∃ o, O j = o := ⟨_, rfl⟩
      rw [ho] at g0 g1 g2 g3
      have ht := vers_tree O key j o ho
      have hle := HV.out j
      have HW : Hid (∀ ob, Below w.heap.size w (wr.alloc ob)) := Lib.hid (fun ob => HB.out.alloc HB.out.size _)
      clear ho
      generalize vers O key j = vj at *
      rcases ht with ⟨d1, hd⟩ | ⟨d1, d2, hd⟩ | ⟨d1, d2, hd⟩
      all_goals
        have HD := Lib.hid hd
        clear hd
        go_wp2
        go_roundw
        case rel => exact ⟨j + 1, by go_num, by omega, by rw [HD.out] <;> rfl, HW.out _⟩
        case measure => go_light; simp [intOf] <;> omega
    · obtain rfl : j = k := by omega
      go_wp2
      go_ret
      exact ⟨rfl, HB.out⟩
set_option maxRecDepth 100000 in
set_option maxHeartbeats 4000000 in
theorem versions_any (A : Option Addr) (k c : Nat) (cm : Bool) (key : Int) (O : Nat → IOp) (w : World) (hk : k ≤ 4398046510976) (hA : IOpsAt w A k O) :
    Calls Tryd.prog 87 #[.agg #[.slice A k c, .bool cm], .int .i64 key] w fun e w' => e = .returned (.int .i64 (vers O key k : Nat)) ∧ Below w.heap.size w w' := by
  have HA := Lib.hid hA
  have HV := Lib.hid (fun n => vers_le O key n)
  have HG : Hid (Below w.heap.size w (w.alloc (.cells #[.slice A k c, .bool cm] 152))) := Lib.hid ((Below.refl _ _).alloc (Nat.le_refl _) _)
  clear hA
  go_enter Tryd.func87, Tryd.ntmps87
  go_wp2_with fail
  go_loopw [5, 11] (fun v x wr => ∃ j : Nat, x = .int .i64 j ∧ j ≤ k ∧ v = .int .i64 (vers O key j : Nat) ∧ Below w.heap.size w wr) (fun _ x _ => k - (intOf x).toNat)
  case atStart => exact ⟨0, rfl, by omega, rfl, HG.out⟩
  case round =>
    obtain ⟨j, rfl, hj, rfl, hbw⟩ := hrel
    have HB := Lib.hid hbw
    clear hbw
    by_cases hlt : j < k
    · obtain ⟨b, off, rfl, hb, g0, g1, g2, g3⟩ := (HA.out.below HB.out) j hlt
      obtain ⟨o, ho⟩ : ∃ o, O j = o := ⟨_, rfl⟩
      rw [ho] at g0 g1 g2 g3
      have ht := vers_tree O key j o ho
      have hle := HV.out j
      have HW : Hid (∀ ob, Below w.heap.size w (wr.alloc ob)) := Lib.hid (fun ob => HB.out.alloc HB.out.size _)
      clear ho
      generalize vers O key j = vj at *
      rcases ht with ⟨d1, hd⟩ | ⟨d1, d2, hd⟩ | ⟨d1, d2, hd⟩
      all_goals
        have HD := Lib.hid hd
        clear hd
        go_wp2
        go_roundw
        case rel => exact ⟨j + 1, by go_num, by omega, by rw [HD.out] <;> rfl, HW.out _⟩
        case measure => go_light; simp [intOf] <;> omega
    · obtain rfl : j = k := by omega
      go_wp2
      go_ret
      exact ⟨rfl, HB.out⟩
end Go.Proofs.YtkncomfbedbikaaDoor
namespace Go.Proofs.YtkncomfbedbikaaDoor
def opErrI (S : GStory) (o : IOp) : Int :=
  if o.key < 0 ∨ 7 < o.key ∨ o.frm < -1 ∨ (S.n : Int) ≤ o.frm ∨ o.num < 0 then 2
  else if (o.wr = true ∧ (o.frm ≠ 0 ∨ o.num ≠ 0)) ∨ (o.frm = -1 ∧ o.num ≠ 0) then 1
  else if o.wr = false ∧ o.frm ≠ -1 ∧ (vers (S.o o.frm.toNat) o.key (S.k o.frm.toNat) : Int) ≤ o.num then 7 else 0
def txErr (S : GStory) (i : Nat) : Int := if 60 < S.k i then 4 else firstErr (fun j => opErrI S (S.o i j)) (S.k i)
def writB (S : GStory) (key x : Nat) : Bool := S.c x && decide (0 < vers (S.o x) (key : Int) (S.k x))
def entErr (S : GStory) (key t : Nat) : Int :=
  if S.x key t < 0 ∨ (S.n : Int) ≤ S.x key t then 2 else if writB S key (S.x key t).toNat = false then 8 else if anyB (fun t' => S.x key t' == S.x key t) t = true then 9 else 0
def cntW (S : GStory) (key : Nat) : Nat → Nat
  | 0 => 0
  | n + 1 => if writB S key n = true then cntW S key n + 1 else cntW S key n
def ordErr (S : GStory) (key : Nat) : Int := if firstErr (entErr S key) (S.l key) ≠ 0 then firstErr (entErr S key) (S.l key) else if cntW S key S.n ≠ S.l key then 3 else 0
def storyErr (S : GStory) : Int := if 8 < S.n then 4 else if S.m ≠ 8 then 3 else if firstErr (txErr S) S.n ≠ 0 then firstErr (txErr S) S.n else firstErr (ordErr S) 8
theorem cntW_le (S : GStory) (key : Nat) : ∀ n, cntW S key n ≤ n
  | 0 => Nat.le_refl _
  | n + 1 => by
    have := cntW_le S key n
    unfold cntW
    split <;> omega
theorem cntW_succ (S : GStory) (key n : Nat) : cntW S key (n + 1) = if writB S key n = true then cntW S key n + 1 else cntW S key n := rfl
theorem op_tree (S : GStory) (o : IOp) :
    (o.key < 0 ∧ opErrI S o = 2) ∨ (0 ≤ o.key ∧ 7 < o.key ∧ opErrI S o = 2) ∨ (0 ≤ o.key ∧ o.key ≤ 7 ∧ o.frm < -1 ∧ opErrI S o = 2) ∨ (0 ≤ o.key ∧ o.key ≤ 7 ∧ -1 ≤ o.frm ∧ (S.n : Int) ≤ o.frm ∧ opErrI S o = 2) ∨
    (0 ≤ o.key ∧ o.key ≤ 7 ∧ -1 ≤ o.frm ∧ o.frm < (S.n : Int) ∧ o.num < 0 ∧ opErrI S o = 2) ∨
    (0 ≤ o.key ∧ o.key ≤ 7 ∧ -1 ≤ o.frm ∧ o.frm < (S.n : Int) ∧ 0 ≤ o.num ∧ o.wr = true ∧ (o.frm != 0) = true ∧ opErrI S o = 1) ∨
    (0 ≤ o.key ∧ o.key ≤ 7 ∧ -1 ≤ o.frm ∧ o.frm < (S.n : Int) ∧ 0 ≤ o.num ∧ o.wr = true ∧ o.frm = 0 ∧ (o.num != 0) = true ∧ opErrI S o = 1) ∨
    (0 ≤ o.key ∧ o.key ≤ 7 ∧ -1 ≤ o.frm ∧ o.frm < (S.n : Int) ∧ 0 ≤ o.num ∧ o.wr = true ∧ o.frm = 0 ∧ o.num = 0 ∧ opErrI S o = 0) ∨
    (0 ≤ o.key ∧ o.key ≤ 7 ∧ -1 ≤ o.frm ∧ o.frm < (S.n : Int) ∧ 0 ≤ o.num ∧ o.wr = false ∧ o.frm = -1 ∧ (o.num != 0) = true ∧ opErrI S o = 1) ∨
    (0 ≤ o.key ∧ o.key ≤ 7 ∧ -1 ≤ o.frm ∧ o.frm < (S.n : Int) ∧ 0 ≤ o.num ∧ o.wr = false ∧ o.frm = -1 ∧ o.num = 0 ∧ opErrI S o = 0) ∨
    (∃ f : Nat, 0 ≤ o.key ∧ o.key ≤ 7 ∧ o.frm = (f : Int) ∧ f < S.n ∧ 0 ≤ o.num ∧ o.wr = false ∧ decide ((vers (S.o f) o.key (S.k f) : Int) ≤ o.num) = true ∧ opErrI S o = 7) ∨
    (∃ f : Nat, 0 ≤ o.key ∧ o.key ≤ 7 ∧ o.frm = (f : Int) ∧ f < S.n ∧ 0 ≤ o.num ∧ o.wr = false ∧ decide ((vers (S.o f) o.key (S.k f) : Int) ≤ o.num) = false ∧ opErrI S o = 0) := by
  by_cases a1 : o.key < 0
  · exact .inl ⟨a1, by unfold opErrI; rw [if_pos (.inl a1)]⟩
  by_cases a2 : 7 < o.key
  · exact .inr (.inl ⟨by omega, a2, by unfold opErrI; rw [if_pos (by omega)]⟩)
  by_cases a3 : o.frm < -1
  · exact .inr (.inr (.inl ⟨by omega, by omega, a3, by unfold opErrI; rw [if_pos (by omega)]⟩))
  by_cases a4 : (S.n : Int) ≤ o.frm
  · exact .inr (.inr (.inr (.inl ⟨by omega, by omega, by omega, a4, by unfold opErrI; rw [if_pos (by omega)]⟩)))
  by_cases a5 : o.num < 0
  · exact .inr (.inr (.inr (.inr (.inl ⟨by omega, by omega, by omega, by omega, a5, by unfold opErrI; rw [if_pos (by omega)]⟩))))
  have h0 : opErrI S o = if (o.wr = true ∧ (o.frm ≠ 0 ∨ o.num ≠ 0)) ∨ (o.frm = -1 ∧ o.num ≠ 0) then 1
      else if o.wr = false ∧ o.frm ≠ -1 ∧ (vers (S.o o.frm.toNat) o.key (S.k o.frm.toNat) : Int) ≤ o.num then 7 else 0 := by unfold opErrI; rw [if_neg (by omega)]
  cases hw : o.wr
  · rw [hw] at h0
    by_cases b1 : o.frm = -1
    · by_cases b2 : o.num = 0
      · exact .inr (.inr (.inr (.inr (.inr (.inr (.inr (.inr (.inr (.inl ⟨by omega, by omega, by omega, by omega, by omega, rfl, b1, b2, by rw [h0]; simp [b1, b2]⟩)))))))))
      · exact .inr (.inr (.inr (.inr (.inr (.inr (.inr (.inr (.inl ⟨by omega, by omega, by omega, by omega, by omega, rfl, b1, by simpa using b2, by rw [h0]; simp [b1, b2]⟩))))))))
    · obtain ⟨f, hf⟩ : ∃ f : Nat, o.frm = (f : Int) := ⟨o.frm.toNat, by omega⟩
      have hft : o.frm.toNat = f := by omega
      rw [hft] at h0
      by_cases b3 : (vers (S.o f) o.key (S.k f) : Int) ≤ o.num
      · exact .inr (.inr (.inr (.inr (.inr (.inr (.inr (.inr (.inr (.inr (.inl ⟨f, by omega, by omega, hf, by omega, by omega, rfl, by simpa using b3, by rw [h0]; simp [b1, b3]⟩))))))))))
      · exact .inr (.inr (.inr (.inr (.inr (.inr (.inr (.inr (.inr (.inr (.inr ⟨f, by omega, by omega, hf, by omega, by omega, rfl, by simpa using b3, by rw [h0]; simp [b1, b3]⟩))))))))))
  · rw [hw] at h0
    by_cases b1 : o.frm = 0
    · by_cases b2 : o.num = 0
      · exact .inr (.inr (.inr (.inr (.inr (.inr (.inr (.inl ⟨by omega, by omega, by omega, by omega, by omega, rfl, b1, b2, by rw [h0]; simp [b1, b2]⟩)))))))
      · exact .inr (.inr (.inr (.inr (.inr (.inr (.inl ⟨by omega, by omega, by omega, by omega, by omega, rfl, b1, by simpa using b2, by rw [h0]; simp [b1, b2]⟩))))))
    · exact .inr (.inr (.inr (.inr (.inr (.inl ⟨by omega, by omega, by omega, by omega, by omega, rfl, by simpa using b1, by rw [h0]; simp [b1]⟩)))))
theorem firstErr_ret {f : Nat → Int} {n j : Nat} {e : Int} (h : ∀ t, t < j → f t = 0) (hj : j < n) (he : f j = e) (h0 : e ≠ 0) : firstErr f n = e := by
  rw [firstErr_found h (by rw [he]; exact h0) hj, he]
theorem idx_any (f : Nat → Int) (n : Nat) (v : Int) : decide (0 ≤ idxF f n v) = anyB (fun t => f t == v) n := by
  unfold idxF
  cases h : firstAt (fun t => f t == v) n with
  | none =>
    rw [anyB_false fun t ht => firstAt_spec.firstAt_isNone h t ht]
    rfl
  | some t =>
    obtain ⟨h1, h2, _⟩ := firstAt_spec h
    rw [anyB_true h1 h2]
    simp [optN]
end Go.Proofs.YtkncomfbedbikaaDoor
