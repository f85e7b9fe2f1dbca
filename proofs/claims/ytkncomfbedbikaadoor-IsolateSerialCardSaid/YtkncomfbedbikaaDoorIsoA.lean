/- A story: transactions of ops, and rows of numbers; how often one writes a key. -/
import Derived.Test.YtkncomfbedbikaaDoorSessB
import Derived.Test.YtkncomfbedbikaaDoorMat
import Derived.BigQuiet
namespace Go.Proofs.YtkncomfbedbikaaDoor
open Go.RowKit
/-- An op's parts. -/
structure IOp where
  wr : Bool
  key : Int
  frm : Int
  num : Int
abbrev IOp.val (o : IOp) : Value := .agg #[.bool o.wr, .int .i64 o.key, .int .i64 o.frm, .int .i64 o.num]
abbrev IOp.obj (o : IOp) (t : TypeId) : Obj := .cells #[.bool o.wr, .int .i64 o.key, .int .i64 o.frm, .int .i64 o.num] t
/-- Transactions: n of them, k i ops each, o i j an op, c i whether it commits; m rows of numbers, l i in each, x i j a number. -/
structure GStory where
  n : Nat
  k : Nat → Nat
  o : Nat → Nat → IOp
  c : Nat → Bool
  m : Nat
  l : Nat → Nat
  x : Nat → Nat → Int
def IOpsAt (w : World) (A : Option Addr) (n : Nat) (O : Nat → IOp) : Prop :=
  ∀ i, i < n → ∃ b off, A = some ⟨b, off, none⟩ ∧ b < w.heap.size ∧ w.cell? ⟨b, off + i * 4, none⟩ = some (.bool (O i).wr) ∧ w.cell? ⟨b, off + i * 4 + 1, none⟩ = some (.int .i64 (O i).key) ∧ w.cell? ⟨b, off + i * 4 + 2, none⟩ = some (.int .i64 (O i).frm) ∧ w.cell? ⟨b, off + i * 4 + 3, none⟩ = some (.int .i64 (O i).num)
theorem IOpsAt.below {w w' : World} {A : Option Addr} {n : Nat} {O : Nat → IOp} (h : IOpsAt w A n O) (hb : Below w.heap.size w w') : IOpsAt w' A n O := fun i hi => by
  obtain ⟨b, off, rfl, h1, h2, h3, h4, h5⟩ := h i hi
  exact ⟨b, off, rfl, Nat.lt_of_lt_of_le h1 hb.size, (hb.cell (p := ⟨b, _, none⟩) h1).trans h2, (hb.cell (p := ⟨b, _, none⟩) h1).trans h3, (hb.cell (p := ⟨b, _, none⟩) h1).trans h4, (hb.cell (p := ⟨b, _, none⟩) h1).trans h5⟩
def TxsAt (w : World) (A : Option Addr) (S : GStory) : Prop :=
  ∀ i, i < S.n → ∃ b off, A = some ⟨b, off, none⟩ ∧ b < w.heap.size ∧ S.k i ≤ 4398046510976 ∧ ∃ A2 c2, w.cell? ⟨b, off + i * 2, none⟩ = some (.slice A2 (S.k i) c2) ∧ S.k i ≤ c2 ∧ w.cell? ⟨b, off + i * 2 + 1, none⟩ = some (.bool (S.c i)) ∧ IOpsAt w A2 (S.k i) (S.o i)
theorem TxsAt.below {w w' : World} {A : Option Addr} {S : GStory} (h : TxsAt w A S) (hb : Below w.heap.size w w') : TxsAt w' A S := fun i hi => by
  obtain ⟨b, off, rfl, h1, h2, A2, c2, h3, h4, h5, h6⟩ := h i hi
  exact ⟨b, off, rfl, Nat.lt_of_lt_of_le h1 hb.size, h2, A2, c2, (hb.cell (p := ⟨b, _, none⟩) h1).trans h3, h4, (hb.cell (p := ⟨b, _, none⟩) h1).trans h5, h6.below hb⟩
/-- The slice at A reads as m rows of numbers; their capacities hold them. -/
def RowsC (w : World) (A : Option Addr) (m : Nat) (L : Nat → Nat) (X : Nat → Nat → Int) : Prop :=
  ∀ i, i < m → ∃ b off, A = some ⟨b, off, none⟩ ∧ b < w.heap.size ∧ L i ≤ 17592186043904 ∧ ∃ A2 c2, w.cell? ⟨b, off + i, none⟩ = some (.slice A2 (L i) c2) ∧ L i ≤ c2 ∧ IntsAt w A2 (L i) (X i)
theorem RowsC.below {w w' : World} {A : Option Addr} {m : Nat} {L : Nat → Nat} {X : Nat → Nat → Int} (h : RowsC w A m L X) (hb : Below w.heap.size w w') : RowsC w' A m L X := fun i hi => by
  obtain ⟨b, off, rfl, h1, h2, A2, c2, h3, h4, h5⟩ := h i hi
  exact ⟨b, off, rfl, Nat.lt_of_lt_of_le h1 hb.size, h2, A2, c2, (hb.cell (p := ⟨b, off + i, none⟩) h1).trans h3, h4, h5.below hb⟩
/-- The slices A, V read as a story. -/
structure StoryAt (w : World) (A : Option Addr) (V : Option Addr) (S : GStory) : Prop where
  txs : TxsAt w A S
  rows : RowsC w V S.m S.l S.x
  hn : S.n ≤ 4398046510976
  hm : S.m ≤ 5864062014634
theorem StoryAt.below {w w' : World} {A V : Option Addr} {S : GStory} (h : StoryAt w A V S) (hb : Below w.heap.size w w') : StoryAt w' A V S := ⟨h.txs.below hb, h.rows.below hb, h.hn, h.hm⟩
def IBoxAt (w : World) (b : Nat) (o : IOp) : Prop :=
  w.cell? ⟨b, 0, none⟩ = some (.bool o.wr) ∧ w.cell? ⟨b, 1, none⟩ = some (.int .i64 o.key) ∧ w.cell? ⟨b, 2, none⟩ = some (.int .i64 o.frm) ∧ w.cell? ⟨b, 3, none⟩ = some (.int .i64 o.num)
theorem IBoxAt.below {w w' : World} {b : Nat} {o : IOp} {B : Nat} (h : IBoxAt w b o) (hb : Below B w w') (hB : b < B) : IBoxAt w' b o := by
  obtain ⟨h0, h1, h2, h3⟩ := h
  have e : ∀ k, w'.cell? ⟨b, k, none⟩ = w.cell? ⟨b, k, none⟩ := fun k => hb.cell (p := ⟨b, k, none⟩) hB
  exact ⟨(e _).trans h0, (e _).trans h1, (e _).trans h2, (e _).trans h3⟩
theorem ibox_new {w : World} {g : Nat} (hg : g = w.heap.size) (o : IOp) (t : TypeId) : IBoxAt (w.alloc (o.obj t)) g o := by
  subst hg
  simp [IBoxAt, World.cell?_alloc_new]
theorem IBoxAt.regrown {W : World} {b : Nat} {o : IOp} (h : IBoxAt W b o) :
    (∀ d os, (Go.Sort.grow (redrawn W d) os).cell? ⟨b, 0, none⟩ = some (.bool o.wr)) ∧ (∀ d os, (Go.Sort.grow (redrawn W d) os).cell? ⟨b, 1, none⟩ = some (.int .i64 o.key)) ∧ (∀ d os, (Go.Sort.grow (redrawn W d) os).cell? ⟨b, 2, none⟩ = some (.int .i64 o.frm)) ∧ (∀ d os, (Go.Sort.grow (redrawn W d) os).cell? ⟨b, 3, none⟩ = some (.int .i64 o.num)) := by
  obtain ⟨h0, h1, h2, h3⟩ := h
  exact ⟨cell_regrown h0, cell_regrown h1, cell_regrown h2, cell_regrown h3⟩
/-- How often key is written by the ops below n. -/
def vers (O : Nat → IOp) (key : Int) : Nat → Nat
  | 0 => 0
  | n + 1 => if (O n).wr = true ∧ (O n).key = key then vers O key n + 1 else vers O key n
theorem vers_le (O : Nat → IOp) (key : Int) : ∀ n, vers O key n ≤ n
  | 0 => Nat.le_refl _
  | n + 1 => by
    have := vers_le O key n
    unfold vers
    split <;> omega
theorem vers_tree (O : Nat → IOp) (key : Int) (n : Nat) (o : IOp) (ho : O n = o) :
    (o.wr = false ∧ vers O key (n + 1) = vers O key n) ∨ (o.wr = true ∧ (o.key == key) = false ∧ vers O key (n + 1) = vers O key n) ∨ (o.wr = true ∧ (o.key == key) = true ∧ vers O key (n + 1) = vers O key n + 1) := by
  rw [show vers O key (n + 1) = if (O n).wr = true ∧ (O n).key = key then vers O key n + 1 else vers O key n from rfl, ho]
  cases h : o.wr
  · exact .inl ⟨rfl, by simp⟩
  · by_cases h2 : o.key = key
    · exact .inr (.inr ⟨rfl, by simpa using h2, by simp [h2]⟩)
    · exact .inr (.inl ⟨rfl, by simpa using h2, by simp [h2]⟩)
set_option maxRecDepth 100000 in
set_option maxHeartbeats 4000000 in
theorem wrote_any (A : Option Addr) (k c : Nat) (cm : Bool) (key : Int) (O : Nat → IOp) (w : World) (hk : k ≤ 4398046510976) (hA : IOpsAt w A k O) :
    Calls Tryd.prog 67 #[.agg #[.slice A k c, .bool cm], .int .i64 key] w fun e w' => e = .returned (.int .i64 (vers O key k : Nat)) ∧ Below w.heap.size w w' := by
  have HA := Lib.hid hA
  have HV := Lib.hid (fun n => vers_le O key n)
  have HG : Hid (Below w.heap.size w (w.alloc (.cells #[.slice A k c, .bool cm] 145))) := Lib.hid ((Below.refl _ _).alloc (Nat.le_refl _) _)
  clear hA
  go_enter Tryd.func67, Tryd.ntmps67
  go_wp2_with fail
  go_loopw [5, 11] (fun v x wr => ∃ j : Nat, x = .int .i64 j ∧ j ≤ k ∧ v = .int .i64 (vers O key j : Nat) ∧ Below w.heap.size w wr) (fun _ x _ => k - (intOf x).toNat)
  case atStart => exact ⟨0, rfl, by omega, rfl, HG.out⟩
  case round =>
    obtain ⟨j, rfl, hj, rfl, hbw⟩ := hrel
    have HB := Lib.hid hbw
    clear hbw
    by_cases hlt : j < k
    · obtain ⟨b, off, rfl, hb, g0, g1, g2, g3⟩ := (HA.out.below HB.out) j hlt
      obtain ⟨o, ho⟩ : ∃ o, O j = o := ⟨_, rfl⟩
      rw [ho] at g0 g1 g2 g3
      have ht := vers_tree O key j o ho
      have hle := HV.out j
      have HW : Hid (∀ ob, Below w.heap.size w (wr.alloc ob)) := Lib.hid (fun ob => HB.out.alloc HB.out.size _)
      clear ho
      generalize vers O key j = vj at *
      rcases ht with ⟨d1, hd⟩ | ⟨d1, d2, hd⟩ | ⟨d1, d2, hd⟩
      all_goals
        have HD := Lib.hid hd
        clear hd
        go_wp2
        go_roundw
        case rel => exact ⟨j + 1, by go_num, by omega, by rw [HD.out] <;> rfl, HW.out _⟩
        case measure => go_light; simp [intOf] <;> omega
    · obtain rfl : j = k := by omega
      go_wp2
      go_ret
      exact ⟨rfl, HB.out⟩
set_option maxRecDepth 100000 in
set_option maxHeartbeats 4000000 in
theorem versions_any (A : Option Addr) (k c : Nat) (cm : Bool) (key : Int) (O : Nat → IOp) (w : World) (hk : k ≤ 4398046510976) (hA : IOpsAt w A k O) :
    Calls Tryd.prog 87 #[.agg #[.slice A k c, .bool cm], .int .i64 key] w fun e w' => e = .returned (.int .i64 (vers O key k : Nat)) ∧ Below w.heap.size w w' := by
  have HA := Lib.hid hA
  have HV := Lib.hid (fun n => vers_le O key n)
  have HG : Hid (Below w.heap.size w (w.alloc (.cells #[.slice A k c, .bool cm] 152))) := Lib.hid ((Below.refl _ _).alloc (Nat.le_refl _) _)
  clear hA
  go_enter Tryd.func87, Tryd.ntmps87
  go_wp2_with fail
  go_loopw [5, 11] (fun v x wr => ∃ j : Nat, x = .int .i64 j ∧ j ≤ k ∧ v = .int .i64 (vers O key j : Nat) ∧ Below w.heap.size w wr) (fun _ x _ => k - (intOf x).toNat)
  case atStart => exact ⟨0, rfl, by omega, rfl, HG.out⟩
  case round =>
    obtain ⟨j, rfl, hj, rfl, hbw⟩ := hrel
    have HB := Lib.hid hbw
    clear hbw
    by_cases hlt : j < k
    · obtain ⟨b, off, rfl, hb, g0, g1, g2, g3⟩ := (HA.out.below HB.out) j hlt
      obtain ⟨o, ho⟩ : ∃ o, O j = o := ⟨_, rfl⟩
      rw [ho] at g0 g1 g2 g3
      have ht := vers_tree O key j o ho
      have hle := HV.out j
      have HW : Hid (∀ ob, Below w.heap.size w (wr.alloc ob)) := Lib.hid (fun ob => HB.out.alloc HB.out.size _)
      clear ho
      generalize vers O key j = vj at *
      rcases ht with ⟨d1, hd⟩ | ⟨d1, d2, hd⟩ | ⟨d1, d2, hd⟩
      all_goals
        have HD := Lib.hid hd
        clear hd
        go_wp2
        go_roundw
        case rel => exact ⟨j + 1, by go_num, by omega, by rw [HD.out] <;> rfl, HW.out _⟩
        case measure => go_light; simp [intOf] <;> omega
    · obtain rfl : j = k := by omega
      go_wp2
      go_ret
      exact ⟨rfl, HB.out⟩
end Go.Proofs.YtkncomfbedbikaaDoor
