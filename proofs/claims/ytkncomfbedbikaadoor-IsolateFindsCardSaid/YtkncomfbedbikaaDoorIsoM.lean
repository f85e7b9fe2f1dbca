/- slices.IndexFunc, slices.DeleteFunc at a list of transactions: those that don't commit are left out. -/
import Derived.Test.YtkncomfbedbikaaDoorIsoG
import Derived.Test.YtkncomfbedbikaaDoorIsoQ
import Derived.Lib.LazyBuf
import Derived.Lib.SliceRun
namespace Go.Proofs.YtkncomfbedbikaaDoor
open Go.RowKit
set_option maxRecDepth 100000 in
set_option maxHeartbeats 4000000 in
/-- The function value in isolate.Serial. -/
theorem serialL_any (A : Option Addr) (c gs : Nat) (S : GStory) (x : Nat) (w : World) (h : TxsAt w A S) (hx : x < S.n) (hs : w.cell? ⟨gs, 0, none⟩ = some (.slice A S.n c)) :
    Calls Tryd.prog 83 #[.int .i64 (x : Int), .pointer (some ⟨gs, 0, none⟩)] w fun e w' => e = .returned (.bool (!S.c x)) ∧ w = w' := by
  obtain ⟨bf, offf, rfl, hbf, hkf, A2f, c2f, f0, hkcf, f1, hopf⟩ := h x hx
  clear h hopf
  go_enter Tryd.func83, Tryd.ntmps83
  go_wp2
  go_ret
  exact ⟨rfl, rfl⟩
/-- The first one that does not commit. -/
def firstOut (S : GStory) (l : List Nat) (n : Nat) : Option Nat := firstAt (fun i => !S.c (l.getD i 0)) n
set_option maxRecDepth 100000 in
set_option maxHeartbeats 4000000 in
theorem IndexFunc_any (A R : Option Addr) (c cR gs n : Nat) (S : GStory) (l : List Nat) (w : World) (h : TxsAt w A S) (hs : w.cell? ⟨gs, 0, none⟩ = some (.slice A S.n c)) (hn : n ≤ 1000) (hl : ∀ i, i < n → l.getD i 0 < S.n) (hR : IntsAt w R n (fun i => (l.getD i 0 : Nat))) :
    Calls Tryd.prog 115 #[.slice R n cR, .func (.func 83) #[] #[.pointer (some ⟨gs, 0, none⟩)]] w fun e w' => e = .returned (.int .i64 (optN (-1) (firstOut S l n))) ∧ w = w' := by
  have HR := Lib.hid hR
  have HL := Lib.hid hl
  have HC := Lib.hid (fun x hx => serialL_any A c gs S x w h hx hs)
  clear hR hl h hs
  go_enter Tryd.func115, Tryd.ntmps115
  go_wp2_with fail
  go_loop [8] (fun x => ∃ i : Nat, x = .int .i64 i ∧ i ≤ n ∧ ∀ t, t < i → (!S.c (l.getD t 0)) = false) (fun x => n - (intOf x).toNat)
  case atStart => exact ⟨0, rfl, by omega, fun t ht => absurd ht (by omega)⟩
  case round =>
    obtain ⟨i, rfl, hi, hall⟩ := hrel
    have HALL := Lib.hid hall
    clear hall
    by_cases hin : i < n
    · obtain ⟨b, off, rfl, hb, p0⟩ := HR.out i hin
      dsimp only at p0
      have HX := Lib.hid (HC.out (l.getD i 0) (HL.out i hin))
      obtain ⟨v, hv⟩ : ∃ v, l.getD i 0 = v := ⟨_, rfl⟩
      rw [hv] at p0 HX
      have HV := Lib.hid hv
      clear hv
      cases hc : S.c v
      · have HD : Hid ((!S.c (l.getD i 0)) = true) := Lib.hid (by rw [HV.out, hc]; rfl)
        rw [hc] at HX
        clear hc
        go_wp2_with fail
        refine HX.out.mono ?_
        rintro e w2 ⟨rfl, rfl⟩
        go_wp2
        go_ret
        exact ⟨by unfold firstOut; rw [firstAt_found (p := fun i => !S.c (l.getD i 0)) HALL.out HD.out hin]; rfl, rfl⟩
      · have HD : Hid ((!S.c (l.getD i 0)) = false) := Lib.hid (by rw [HV.out, hc]; rfl)
        rw [hc] at HX
        clear hc
        go_wp2_with fail
        refine HX.out.mono ?_
        rintro e w2 ⟨rfl, rfl⟩
        go_wp2
        go_round
        case rel => exact ⟨i + 1, by go_num, by omega, upto_succ HALL.out HD.out⟩
        case measure => simp [intOf] <;> omega
    · obtain rfl : i = n := by omega
      go_wp2
      go_ret
      exact ⟨by unfold firstOut; rw [firstAt_none (p := fun i => !S.c (l.getD i 0)) HALL.out]; rfl, rfl⟩
def keepL (S : GStory) (l : List Nat) : List Nat := l.filter S.c
theorem keep_take (S : GStory) (l : List Nat) (j : Nat) (hj : j < l.length) : keepL S (l.take (j + 1)) = keepL S (l.take j) ++ (if S.c (l.getD j 0) = true then [l.getD j 0] else []) := by
  unfold keepL
  rw [List.take_succ_eq_append_getElem hj, List.filter_append]
  congr 1
  have : l.getD j 0 = l[j] := by simp [List.getD, hj]
  rw [this]
  cases h : S.c l[j] <;> simp [h]
theorem keep_len (S : GStory) (l : List Nat) : (keepL S l).length ≤ l.length := List.length_filter_le _ _
theorem keep_all {S : GStory} {l : List Nat} {j : Nat} (hj : j ≤ l.length) (h : ∀ t, t < j → (!S.c (l.getD t 0)) = false) : keepL S (l.take j) = l.take j := by
  unfold keepL
  rw [List.filter_eq_self]
  intro a ha
  obtain ⟨t, ht, rfl⟩ := List.mem_take_iff_getElem.1 ha
  have := h t (by omega)
  simpa [List.getD, show t < l.length by omega] using this
theorem getD_snoc (l : List Nat) (v t : Nat) : (l ++ [v]).getD t 0 = if t = l.length then v else l.getD t 0 := by
  by_cases h : t < l.length
  · rw [if_neg (by omega)]
    simp [List.getD, List.getElem?_append_left h]
  · by_cases e : t = l.length
    · subst e; simp [List.getD]
    · rw [if_neg e]
      simp [List.getD, List.getElem?_eq_none (show (l ++ [v]).length ≤ t by simp; omega), List.getElem?_eq_none (show l.length ≤ t by omega)]
def DelPost (S : GStory) (l : List Nat) (B : Nat) (w : World) (e : Ending) (w' : World) : Prop :=
  ∃ R cR, e = .returned (.slice R (keepL S l).length cR) ∧ IntsAt w' R (keepL S l).length (fun i => ((keepL S l).getD i 0 : Nat)) ∧ Below B w w'
theorem ints_of_row {w : World} {g cap n : Nat} {f : Nat → Value} {l : Nat → Nat} (h : w.rowIs g 3 cap f) (hn : n ≤ cap) (hf : ∀ t, t < n → f t = .int .i64 (l t : Int)) : IntsAt w (some ⟨g, 0, none⟩) n (fun i => (l i : Nat)) := fun i hi =>
  ⟨g, 0, rfl, h.lt, by rw [Nat.zero_add, h.cell (by omega), hf i hi]⟩
set_option maxRecDepth 100000 in
set_option maxHeartbeats 8000000 in
theorem DeleteFunc_any (A : Option Addr) (c gs n g cap B : Nat) (S : GStory) (l : List Nat) (f : Nat → Value) (w : World) (h : ∀ W, Below B w W → TxsAt W A S) (hs : w.cell? ⟨gs, 0, none⟩ = some (.slice A S.n c)) (hgs : gs < B) (hn : n ≤ 1000) (hln : l.length = n) (hl : ∀ i, i < n → l.getD i 0 < S.n)
    (hrow : w.rowIs g 3 cap f) (hcap : n ≤ cap) (hB : B ≤ g) (hf : ∀ t, t < n → f t = .int .i64 (l.getD t 0 : Nat)) :
    Calls Tryd.prog 77 #[.slice (some ⟨g, 0, none⟩) n cap, .func (.func 83) #[] #[.pointer (some ⟨gs, 0, none⟩)]] w (DelPost S l B w) := by
  have HS := Lib.hid h
  have HL := Lib.hid hl
  have HF := Lib.hid hf
  have HR := Lib.hid hrow
  have HLN := Lib.hid hln
  have HIX := Lib.hid (IndexFunc_any A (some ⟨g, 0, none⟩) c cap gs n S l w (h w (Below.refl _ _)) hs hn hl (ints_of_row hrow hcap hf))
  have HC := Lib.hid (fun W (hb : Below B w W) x (hx : x < S.n) => serialL_any A c gs S x W (h W hb) hx ((hb.cell (p := ⟨gs, 0, none⟩) hgs).trans hs))
  clear h hl hf hrow hln hs
  cases hfo : firstOut S l n with
  | none =>
    rw [hfo, show optN (-1) none = -1 from rfl] at HIX
    have HK : Hid (keepL S l = l) := Lib.hid (by
      have := keep_all (S := S) (l := l) (j := n) (by rw [HLN.out]; exact Nat.le_refl _) (fun t ht => by
        cases hc : (!S.c (l.getD t 0))
        · rfl
        · exact absurd hfo (by
            intro hn'
            have := firstAt_spec.firstAt_isNone hn' t ht
            rw [hc] at this; cases this))
      rwa [List.take_of_length_le (by rw [HLN.out]; exact Nat.le_refl _)] at this)
    clear hfo
    go_enter Tryd.func77, Tryd.ntmps77
    go_wp2_with fail
    refine HIX.out.mono ?_
    rintro e w2 ⟨rfl, rfl⟩
    go_wp2
    go_ret
    exact ⟨some ⟨g, 0, none⟩, cap, by rw [HK.out, HLN.out]; rfl, by rw [HK.out, HLN.out]; exact ints_of_row HR.out hcap HF.out, Below.refl _ _⟩
  | some p =>
    obtain ⟨hpn, hpc, hpa⟩ := firstAt_spec hfo
    rw [hfo, show optN (-1) (some p) = (p : Int) from rfl] at HIX
    have HK0 : Hid ((keepL S (l.take (p + 1))) = l.take p) := Lib.hid (by
      rw [keep_take S l p (by rw [HLN.out]; exact hpn), keep_all (by rw [HLN.out]; omega) hpa, if_neg (by simpa using hpc)]
      simp)
    have hp1 : ((p : Int) == -1) = false := by simp
    have hp2 : ((p : Int) + 1).toNat = p + 1 := by omega
    clear hfo hpc hpa
    go_enter Tryd.func77, Tryd.ntmps77
    go_wp2_with fail
    refine HIX.out.mono ?_
    rintro e w2 ⟨rfl, rfl⟩
    go_wp2_with fail
    go_loopw [5, 6] (fun x y wr => ∃ (i j : Nat) (f' : Nat → Value), x = .int .i64 i ∧ y = .int .i64 j ∧ j ≤ n ∧ i < j ∧ (keepL S (l.take j)).length = i ∧ wr.rowIs g 3 cap f' ∧ (∀ t, t < i → f' t = .int .i64 ((keepL S (l.take j)).getD t 0 : Nat)) ∧ (∀ t, j ≤ t → t < n → f' t = .int .i64 (l.getD t 0 : Nat)) ∧ Below B w wr) (fun _ y _ => n - (intOf y).toNat)
    case atStart => exact ⟨p, p + 1, f, rfl, by go_num, by omega, by omega, by rw [HK0.out]; simp; have := HLN.out; omega, HR.out, fun t ht => by
      rw [HF.out t (by omega), HK0.out]
      simp [List.getD, ht], fun t _ ht => HF.out t ht, Below.refl _ _⟩
    case round =>
      obtain ⟨i, j, f', rfl, rfl, hj, hij, hlen, hrow, hf1, hf2, hbw⟩ := hrel
      have HRW := Lib.hid hrow
      have HF1 := Lib.hid hf1
      have HF2 := Lib.hid hf2
      have HB := Lib.hid hbw
      have HLE := Lib.hid hlen
      clear hrow hf1 hf2 hbw hlen
      by_cases hjn : j < n
      · have p0 := HRW.out.cell (i := j) (by omega)
        rw [HF2.out j (Nat.le_refl _) hjn] at p0
        have HX := Lib.hid (HC.out wr HB.out (l.getD j 0) (HL.out j hjn))
        have HKT := Lib.hid (keep_take S l j (by rw [HLN.out]; exact hjn))
        obtain ⟨v, hv⟩ : ∃ v, l.getD j 0 = v := ⟨_, rfl⟩
        rw [hv] at p0 HX HKT
        clear hv
        cases hc : S.c v
        · rw [hc] at HX HKT
          have HK1 : Hid (keepL S (l.take (j + 1)) = keepL S (l.take j)) := Lib.hid (by rw [HKT.out]; simp)
          clear hc
          go_wp2_with fail
          refine HX.out.mono ?_
          rintro e w2 ⟨rfl, rfl⟩
          go_wp2
          go_roundw
          case rel => exact ⟨i, j + 1, f', rfl, by go_num, by omega, by omega, by rw [HK1.out]; exact HLE.out, HRW.out, fun t ht => by rw [HK1.out]; exact HF1.out t ht, fun t h1 h2 => HF2.out t (by omega) h2, HB.out⟩
          case measure => go_light; simp [intOf] <;> omega
        · rw [hc] at HX HKT
          have HK1 : Hid (keepL S (l.take (j + 1)) = keepL S (l.take j) ++ [v]) := Lib.hid (by rw [HKT.out]; simp)
          have q0 := HRW.out.cell (i := i) (by omega)
          have q1 := HRW.out.frozen i
          have hin : i < n := by omega
          clear hc
          go_wp2_with fail
          refine HX.out.mono ?_
          rintro e w2 ⟨rfl, rfl⟩
          go_wp2
          go_roundw
          case rel =>
            refine ⟨i + 1, j + 1, _, by go_num, by go_num, by omega, by omega, by rw [HK1.out]; simp [HLE.out], HRW.out.set i _, fun t ht => ?_, fun t h1 h2 => ?_, HB.out.setCell hB _⟩
            · rw [HK1.out, getD_snoc, HLE.out]
              by_cases e : t = i
              · rw [if_pos e, if_pos e]
              · rw [if_neg e, if_neg e]
                exact HF1.out t (by omega)
            · rw [if_neg (by omega)]
              exact HF2.out t (by omega) h2
          case measure => go_light; simp [intOf] <;> omega
      · obtain rfl : j = n := by omega
        have hin : i < j := hij
        have HKF : Hid (keepL S l = keepL S (l.take j)) := Lib.hid (by rw [List.take_of_length_le (by rw [HLN.out]; exact Nat.le_refl _)])
        have hcl : ∀ ty, (Builtin.clear_ #[34] ty #[.slice (some ⟨g, i, none⟩) (j - i) (cap - i)]).run Tryd.prog wr = .ok (.tuple #[]) (wr.setCells g i (List.replicate (j - i) (.int .i64 0))) :=
          fun ty => Lib.run_clear_slice wr 34 3 ty (.int .i64 0) Tryd.underlying34 zero_int rfl rfl g i (j - i) (cap - i) (by omega) (fun t ht => by rw [HRW.out.cell (by omega)]; rfl) (fun t ht => HRW.out.frozen _)
        have HW : Hid (IntsAt (wr.setCells g i (List.replicate (j - i) (.int .i64 0))) (some ⟨g, 0, none⟩) i (fun t => ((keepL S (l.take j)).getD t 0 : Nat)) ∧ Below B w (wr.setCells g i (List.replicate (j - i) (.int .i64 0)))) := Lib.hid ⟨fun t ht => ⟨g, 0, rfl, (rowIs_setCells _ _ _ _ HRW.out).lt, by
          rw [Nat.zero_add, World.cell?_setCells_out _ _ _ _ _ (fun _ _ => .inl ht), HRW.out.cell (by omega), HF1.out t ht]⟩, below_setCells hB _ _ _ HB.out⟩
        have hic : i ≤ cap := by omega
        have hcne : ¬ cap = i := by omega
        clear hij
        go_wp2_with (simp only [hcl])
        go_ret
        exact ⟨some ⟨g, 0, none⟩, cap, by rw [HKF.out, HLE.out]; rfl, by rw [HKF.out, HLE.out]; exact HW.out.1, HW.out.2⟩
end Go.Proofs.YtkncomfbedbikaaDoor
