/-
  NARROWER THAN 'FOR EVERY INPUT', by the rows' own cells (each row's printed sentence says how): CausalFinds: laid · SessionBroken: laid · SerialSees: laid · MvccPlays: laid · SerialClashes: laid · IsolateSerial: laid · IsolateFinds: laid.
  DERIVED. THE GIVEN ROWS OF THIS SEAT. 7 by the template 'for every input the law returns true; each argument reads behind the call as it read before'; 0 by the template 'total and deterministic' (their statements: YtkncomfbedbikaaDoorTotals.lean).
  GIVEN WITH THE SEED: the statements are not yours to turn. If you find one false, say at which input.
  Laid BY PROGRAM, IN A SANDBOX (cutbox-rows.mjs): the forced cells as the released guide's own fill.sh prints them over the translation 40754997c89a584d… (all of the seat's roots in one cut). By AI agents, Wed Nov 11 2026. No macro, syntax, notation, axiom, sorry.
-/
import Derived.Test.YtkncomfbedbikaaDoorChecked
import GoSem.Claim
import GoSem.ClaimJoined
import GoSem.ClaimMapViews
import Derived.JoinedTies
import Derived.KernelRfl
namespace Go.Proofs.YtkncomfbedbikaaDoor
/- THE CELL 'sum', in the pinned program and in every row, IS THE sha256 OF THE DUMP (.gsa) THAT YtkncomfbedbikaaDoorProg.lean LOADS. Nothing in Lean hashes anything: it is a label: what it is worth is what the hold of that sum in a sandbox is worth. -/
noncomputable def Tryd.pinned : Pinned := { name := "ytkncomfbedbikaadoor", sum := "40754997c89a584de5e16c90d3ebca9f587349b65c41365e985468b4a9ccc264", checked := Tryd.checked }
namespace Rows
def none {H : Type} : Left H := { results := [], args := [] }

/- WHAT THE LISTED PACKAGE-LEVEL VARIABLES READ AS WHEN THE CALL BEGINS. Each datum BY PROGRAM (the guide's laid-datum.mjs) off the statement by which the dump's own 'gosem.cut.vars' lays the variable. In a bare row this is a premise. The card (YtkncomfbedbikaaDoorCards.lean) ties it to the program's text. -/
def laid_errors_errorType {H : Type} : DataW H := .iface "internal/reflectlite.rtype" (.agg [.ptr (.lit (.string [101, 114, 114, 111, 114]))])
def laid_testimony_testimonyref_Fine {H : Type} : DataW H := .agg [.lit (.int .i64 0), .lit (.int .i64 (-1))]

/-- 'testimonylaw.CausalFinds': WHATEVER THE INPUT: true; the input reads as it did. -/
def causalFindsSpec : ChangeSpec := { name := "causalFinds", fn := fun _ => fun
  | [d] => { results := [.lit (.bool true)], args := [d] }
  | _ => none }
def causalFindsRow : OpenClaim := { program := "ytkncomfbedbikaadoor", sum := "40754997c89a584de5e16c90d3ebca9f587349b65c41365e985468b4a9ccc264", func := "testimony/testimonylaw.CausalFinds", spec := "causalFinds", inPlace := ["internal/reflectlite.ValueOf", "(internal/reflectlite.Value).Type", "(internal/reflectlite.Value).IsNil", "internal/reflectlite.TypeOf", "(internal/reflectlite.Value).Elem", "(internal/reflectlite.Value).Set"], unfollowed := true, recurses := true, named := ["errors.errorType"], plainKeys := false, apart := false, laid := [("errors.errorType", laid_errors_errorType)] }
def CausalFindsSaid : Prop := causalFindsRow.holds Tryd.pinned (OpenSpec.ofChange causalFindsSpec)

/-- ITS FALSE NEIGHBOUR: 'it returns false'. Refute it at one input. -/
def causalFindsWrong : ChangeSpec := { name := "causalFinds", fn := fun _ => fun
  | [d] => { results := [.lit (.bool false)], args := [d] }
  | _ => none }
def CausalFindsWrongFalsely : Prop := causalFindsRow.holds Tryd.pinned (OpenSpec.ofChange causalFindsWrong)

/-- 'testimonylaw.SessionBroken': WHATEVER THE INPUT: true; the input reads as it did. -/
def sessionBrokenSpec : ChangeSpec := { name := "sessionBroken", fn := fun _ => fun
  | [d1, d2] => { results := [.lit (.bool true)], args := [d1, d2] }
  | _ => none }
def sessionBrokenRow : OpenClaim := { program := "ytkncomfbedbikaadoor", sum := "40754997c89a584de5e16c90d3ebca9f587349b65c41365e985468b4a9ccc264", func := "testimony/testimonylaw.SessionBroken", spec := "sessionBroken", inPlace := ["internal/reflectlite.ValueOf", "(internal/reflectlite.Value).Type", "(internal/reflectlite.Value).IsNil", "internal/reflectlite.TypeOf", "(internal/reflectlite.Value).Elem", "(internal/reflectlite.Value).Set"], unfollowed := true, recurses := true, named := ["errors.errorType"], plainKeys := false, apart := false, laid := [("errors.errorType", laid_errors_errorType)] }
def SessionBrokenSaid : Prop := sessionBrokenRow.holds Tryd.pinned (OpenSpec.ofChange sessionBrokenSpec)

/-- ITS FALSE NEIGHBOUR: 'it returns false'. Refute it at one input. -/
def sessionBrokenWrong : ChangeSpec := { name := "sessionBroken", fn := fun _ => fun
  | [d1, d2] => { results := [.lit (.bool false)], args := [d1, d2] }
  | _ => none }
def SessionBrokenWrongFalsely : Prop := sessionBrokenRow.holds Tryd.pinned (OpenSpec.ofChange sessionBrokenWrong)

/-- 'testimonylaw.SerialSees': WHATEVER THE INPUT: true; the input reads as it did. -/
def serialSeesSpec : ChangeSpec := { name := "serialSees", fn := fun _ => fun
  | [d] => { results := [.lit (.bool true)], args := [d] }
  | _ => none }
def serialSeesRow : OpenClaim := { program := "ytkncomfbedbikaadoor", sum := "40754997c89a584de5e16c90d3ebca9f587349b65c41365e985468b4a9ccc264", func := "testimony/testimonylaw.SerialSees", spec := "serialSees", inPlace := ["internal/reflectlite.ValueOf", "(internal/reflectlite.Value).Type", "(internal/reflectlite.Value).IsNil", "internal/reflectlite.TypeOf", "(internal/reflectlite.Value).Elem", "(internal/reflectlite.Value).Set"], unfollowed := true, recurses := true, named := ["testimony/testimonyref.Fine", "errors.errorType"], plainKeys := false, apart := false, laid := [("errors.errorType", laid_errors_errorType), ("testimony/testimonyref.Fine", laid_testimony_testimonyref_Fine)] }
def SerialSeesSaid : Prop := serialSeesRow.holds Tryd.pinned (OpenSpec.ofChange serialSeesSpec)

/-- ITS FALSE NEIGHBOUR: 'it returns false'. Refute it at one input. -/
def serialSeesWrong : ChangeSpec := { name := "serialSees", fn := fun _ => fun
  | [d] => { results := [.lit (.bool false)], args := [d] }
  | _ => none }
def SerialSeesWrongFalsely : Prop := serialSeesRow.holds Tryd.pinned (OpenSpec.ofChange serialSeesWrong)

/-- 'testimonylaw.MvccPlays': WHATEVER THE INPUT: true; the input reads as it did. -/
def mvccPlaysSpec : ChangeSpec := { name := "mvccPlays", fn := fun _ => fun
  | [d1, d2, d3] => { results := [.lit (.bool true)], args := [d1, d2, d3] }
  | _ => none }
def mvccPlaysRow : OpenClaim := { program := "ytkncomfbedbikaadoor", sum := "40754997c89a584de5e16c90d3ebca9f587349b65c41365e985468b4a9ccc264", func := "testimony/testimonylaw.MvccPlays", spec := "mvccPlays", inPlace := ["internal/reflectlite.ValueOf", "(internal/reflectlite.Value).Type", "(internal/reflectlite.Value).IsNil", "internal/reflectlite.TypeOf", "(internal/reflectlite.Value).Elem", "(internal/reflectlite.Value).Set"], unfollowed := true, recurses := true, named := ["errors.errorType"], plainKeys := false, apart := false, laid := [("errors.errorType", laid_errors_errorType)] }
def MvccPlaysSaid : Prop := mvccPlaysRow.holds Tryd.pinned (OpenSpec.ofChange mvccPlaysSpec)

/-- ITS FALSE NEIGHBOUR: 'it returns false'. Refute it at one input. -/
def mvccPlaysWrong : ChangeSpec := { name := "mvccPlays", fn := fun _ => fun
  | [d1, d2, d3] => { results := [.lit (.bool false)], args := [d1, d2, d3] }
  | _ => none }
def MvccPlaysWrongFalsely : Prop := mvccPlaysRow.holds Tryd.pinned (OpenSpec.ofChange mvccPlaysWrong)

/-- 'testimonylaw.SerialClashes': WHATEVER THE INPUT: true; the input reads as it did. -/
def serialClashesSpec : ChangeSpec := { name := "serialClashes", fn := fun _ => fun
  | [d] => { results := [.lit (.bool true)], args := [d] }
  | _ => none }
def serialClashesRow : OpenClaim := { program := "ytkncomfbedbikaadoor", sum := "40754997c89a584de5e16c90d3ebca9f587349b65c41365e985468b4a9ccc264", func := "testimony/testimonylaw.SerialClashes", spec := "serialClashes", inPlace := ["internal/reflectlite.ValueOf", "(internal/reflectlite.Value).Type", "(internal/reflectlite.Value).IsNil", "internal/reflectlite.TypeOf", "(internal/reflectlite.Value).Elem", "(internal/reflectlite.Value).Set"], unfollowed := true, recurses := true, named := ["testimony/testimonyref.Fine", "errors.errorType"], plainKeys := false, apart := false, laid := [("errors.errorType", laid_errors_errorType), ("testimony/testimonyref.Fine", laid_testimony_testimonyref_Fine)] }
def SerialClashesSaid : Prop := serialClashesRow.holds Tryd.pinned (OpenSpec.ofChange serialClashesSpec)

/-- ITS FALSE NEIGHBOUR: 'it returns false'. Refute it at one input. -/
def serialClashesWrong : ChangeSpec := { name := "serialClashes", fn := fun _ => fun
  | [d] => { results := [.lit (.bool false)], args := [d] }
  | _ => none }
def SerialClashesWrongFalsely : Prop := serialClashesRow.holds Tryd.pinned (OpenSpec.ofChange serialClashesWrong)

/-- 'testimonylaw.IsolateSerial': WHATEVER THE INPUT: true; the input reads as it did. -/
def isolateSerialSpec : ChangeSpec := { name := "isolateSerial", fn := fun _ => fun
  | [d] => { results := [.lit (.bool true)], args := [d] }
  | _ => none }
def isolateSerialRow : OpenClaim := { program := "ytkncomfbedbikaadoor", sum := "40754997c89a584de5e16c90d3ebca9f587349b65c41365e985468b4a9ccc264", func := "testimony/testimonylaw.IsolateSerial", spec := "isolateSerial", inPlace := ["internal/reflectlite.ValueOf", "(internal/reflectlite.Value).Type", "(internal/reflectlite.Value).IsNil", "internal/reflectlite.TypeOf", "(internal/reflectlite.Value).Elem", "(internal/reflectlite.Value).Set"], unfollowed := true, recurses := true, named := ["errors.errorType"], plainKeys := false, apart := false, laid := [("errors.errorType", laid_errors_errorType)] }
def IsolateSerialSaid : Prop := isolateSerialRow.holds Tryd.pinned (OpenSpec.ofChange isolateSerialSpec)

/-- ITS FALSE NEIGHBOUR: 'it returns false'. Refute it at one input. -/
def isolateSerialWrong : ChangeSpec := { name := "isolateSerial", fn := fun _ => fun
  | [d] => { results := [.lit (.bool false)], args := [d] }
  | _ => none }
def IsolateSerialWrongFalsely : Prop := isolateSerialRow.holds Tryd.pinned (OpenSpec.ofChange isolateSerialWrong)

/-- 'testimonylaw.IsolateFinds': WHATEVER THE INPUT: true; the input reads as it did. -/
def isolateFindsSpec : ChangeSpec := { name := "isolateFinds", fn := fun _ => fun
  | [d] => { results := [.lit (.bool true)], args := [d] }
  | _ => none }
def isolateFindsRow : OpenClaim := { program := "ytkncomfbedbikaadoor", sum := "40754997c89a584de5e16c90d3ebca9f587349b65c41365e985468b4a9ccc264", func := "testimony/testimonylaw.IsolateFinds", spec := "isolateFinds", inPlace := ["internal/reflectlite.ValueOf", "(internal/reflectlite.Value).Type", "(internal/reflectlite.Value).IsNil", "internal/reflectlite.TypeOf", "(internal/reflectlite.Value).Elem", "(internal/reflectlite.Value).Set"], unfollowed := true, recurses := true, named := ["errors.errorType"], plainKeys := false, apart := false, laid := [("errors.errorType", laid_errors_errorType)] }
def IsolateFindsSaid : Prop := isolateFindsRow.holds Tryd.pinned (OpenSpec.ofChange isolateFindsSpec)

/-- ITS FALSE NEIGHBOUR: 'it returns false'. Refute it at one input. -/
def isolateFindsWrong : ChangeSpec := { name := "isolateFinds", fn := fun _ => fun
  | [d] => { results := [.lit (.bool false)], args := [d] }
  | _ => none }
def IsolateFindsWrongFalsely : Prop := isolateFindsRow.holds Tryd.pinned (OpenSpec.ofChange isolateFindsWrong)

/- THE SECOND FORM. 'bulk': how many values and letters a reading holds, each counted each time it is reached (what is shared counts as often as it is met; a slice's spare places count too). A statement '..UptoSaid' is the law's where the arguments, and the package variables that the reading takes, are together of bulk at most 1048576: NARROWER than '..Said'. Prove '..Said' where nothing that the law and all that it calls make is longer than what came in: it says more and counts as full. Else prove '..UptoSaid'. A law counts once. -/
mutual
def uptoBulk {H : Type} : DataW H → Nat
  | .lit (.string bytes) => bytes.length + 1
  | .lit _ => 1
  | .nil => 1
  | .ptr d => uptoBulk d + 1
  | .slice elems spare => uptoBulkAll elems + uptoBulkAll spare + 1
  | .agg parts => uptoBulkAll parts + 1
  | .iface _ d => uptoBulk d + 1
  | .map entries => uptoBulkEntries entries + 1
  | .held _ => 1
def uptoBulkAll {H : Type} : List (DataW H) → Nat
  | [] => 0
  | d :: r => uptoBulk d + uptoBulkAll r
def uptoBulkEntries {H : Type} : List (Lit × DataW H) → Nat
  | [] => 0
  | x :: r => uptoBulkEntry x + uptoBulkEntries r
def uptoBulkEntry {H : Type} : Lit × DataW H → Nat
  | (.string bytes, d) => bytes.length + uptoBulk d + 1
  | (_, d) => uptoBulk d + 1
 end
def uptoSmall : (H : Type) → List (DataW H) → Bool := fun _ ds => decide (uptoBulkAll ds ≤ 1048576)
def OpenSpec.upto (s : _root_.Go.ChangeSpec) : _root_.Go.OpenSpec := { _root_.Go.OpenSpec.ofChange s with cond := some uptoSmall }

/-- 'testimonylaw.CausalFinds', WHERE WHAT IT READS IS OF BULK AT MOST 1048576: true; the input reads as it did. -/
def causalFindsUptoRow : OpenClaim := { program := "ytkncomfbedbikaadoor", sum := "40754997c89a584de5e16c90d3ebca9f587349b65c41365e985468b4a9ccc264", func := "testimony/testimonylaw.CausalFinds", spec := "causalFinds", inPlace := ["internal/reflectlite.ValueOf", "(internal/reflectlite.Value).Type", "(internal/reflectlite.Value).IsNil", "internal/reflectlite.TypeOf", "(internal/reflectlite.Value).Elem", "(internal/reflectlite.Value).Set"], unfollowed := true, recurses := true, named := ["errors.errorType"], plainKeys := false, apart := false, laid := [("errors.errorType", laid_errors_errorType)], narrowed := true }
def CausalFindsUptoSaid : Prop := causalFindsUptoRow.holds Tryd.pinned (OpenSpec.upto causalFindsSpec)

/-- 'testimonylaw.SessionBroken', WHERE WHAT IT READS IS OF BULK AT MOST 1048576: true; the input reads as it did. -/
def sessionBrokenUptoRow : OpenClaim := { program := "ytkncomfbedbikaadoor", sum := "40754997c89a584de5e16c90d3ebca9f587349b65c41365e985468b4a9ccc264", func := "testimony/testimonylaw.SessionBroken", spec := "sessionBroken", inPlace := ["internal/reflectlite.ValueOf", "(internal/reflectlite.Value).Type", "(internal/reflectlite.Value).IsNil", "internal/reflectlite.TypeOf", "(internal/reflectlite.Value).Elem", "(internal/reflectlite.Value).Set"], unfollowed := true, recurses := true, named := ["errors.errorType"], plainKeys := false, apart := false, laid := [("errors.errorType", laid_errors_errorType)], narrowed := true }
def SessionBrokenUptoSaid : Prop := sessionBrokenUptoRow.holds Tryd.pinned (OpenSpec.upto sessionBrokenSpec)

/-- 'testimonylaw.SerialSees', WHERE WHAT IT READS IS OF BULK AT MOST 1048576: true; the input reads as it did. -/
def serialSeesUptoRow : OpenClaim := { program := "ytkncomfbedbikaadoor", sum := "40754997c89a584de5e16c90d3ebca9f587349b65c41365e985468b4a9ccc264", func := "testimony/testimonylaw.SerialSees", spec := "serialSees", inPlace := ["internal/reflectlite.ValueOf", "(internal/reflectlite.Value).Type", "(internal/reflectlite.Value).IsNil", "internal/reflectlite.TypeOf", "(internal/reflectlite.Value).Elem", "(internal/reflectlite.Value).Set"], unfollowed := true, recurses := true, named := ["testimony/testimonyref.Fine", "errors.errorType"], plainKeys := false, apart := false, laid := [("errors.errorType", laid_errors_errorType), ("testimony/testimonyref.Fine", laid_testimony_testimonyref_Fine)], narrowed := true }
def SerialSeesUptoSaid : Prop := serialSeesUptoRow.holds Tryd.pinned (OpenSpec.upto serialSeesSpec)

/-- 'testimonylaw.MvccPlays', WHERE WHAT IT READS IS OF BULK AT MOST 1048576: true; the input reads as it did. -/
def mvccPlaysUptoRow : OpenClaim := { program := "ytkncomfbedbikaadoor", sum := "40754997c89a584de5e16c90d3ebca9f587349b65c41365e985468b4a9ccc264", func := "testimony/testimonylaw.MvccPlays", spec := "mvccPlays", inPlace := ["internal/reflectlite.ValueOf", "(internal/reflectlite.Value).Type", "(internal/reflectlite.Value).IsNil", "internal/reflectlite.TypeOf", "(internal/reflectlite.Value).Elem", "(internal/reflectlite.Value).Set"], unfollowed := true, recurses := true, named := ["errors.errorType"], plainKeys := false, apart := false, laid := [("errors.errorType", laid_errors_errorType)], narrowed := true }
def MvccPlaysUptoSaid : Prop := mvccPlaysUptoRow.holds Tryd.pinned (OpenSpec.upto mvccPlaysSpec)

/-- 'testimonylaw.SerialClashes', WHERE WHAT IT READS IS OF BULK AT MOST 1048576: true; the input reads as it did. -/
def serialClashesUptoRow : OpenClaim := { program := "ytkncomfbedbikaadoor", sum := "40754997c89a584de5e16c90d3ebca9f587349b65c41365e985468b4a9ccc264", func := "testimony/testimonylaw.SerialClashes", spec := "serialClashes", inPlace := ["internal/reflectlite.ValueOf", "(internal/reflectlite.Value).Type", "(internal/reflectlite.Value).IsNil", "internal/reflectlite.TypeOf", "(internal/reflectlite.Value).Elem", "(internal/reflectlite.Value).Set"], unfollowed := true, recurses := true, named := ["testimony/testimonyref.Fine", "errors.errorType"], plainKeys := false, apart := false, laid := [("errors.errorType", laid_errors_errorType), ("testimony/testimonyref.Fine", laid_testimony_testimonyref_Fine)], narrowed := true }
def SerialClashesUptoSaid : Prop := serialClashesUptoRow.holds Tryd.pinned (OpenSpec.upto serialClashesSpec)

/-- 'testimonylaw.IsolateSerial', WHERE WHAT IT READS IS OF BULK AT MOST 1048576: true; the input reads as it did. -/
def isolateSerialUptoRow : OpenClaim := { program := "ytkncomfbedbikaadoor", sum := "40754997c89a584de5e16c90d3ebca9f587349b65c41365e985468b4a9ccc264", func := "testimony/testimonylaw.IsolateSerial", spec := "isolateSerial", inPlace := ["internal/reflectlite.ValueOf", "(internal/reflectlite.Value).Type", "(internal/reflectlite.Value).IsNil", "internal/reflectlite.TypeOf", "(internal/reflectlite.Value).Elem", "(internal/reflectlite.Value).Set"], unfollowed := true, recurses := true, named := ["errors.errorType"], plainKeys := false, apart := false, laid := [("errors.errorType", laid_errors_errorType)], narrowed := true }
def IsolateSerialUptoSaid : Prop := isolateSerialUptoRow.holds Tryd.pinned (OpenSpec.upto isolateSerialSpec)

/-- 'testimonylaw.IsolateFinds', WHERE WHAT IT READS IS OF BULK AT MOST 1048576: true; the input reads as it did. -/
def isolateFindsUptoRow : OpenClaim := { program := "ytkncomfbedbikaadoor", sum := "40754997c89a584de5e16c90d3ebca9f587349b65c41365e985468b4a9ccc264", func := "testimony/testimonylaw.IsolateFinds", spec := "isolateFinds", inPlace := ["internal/reflectlite.ValueOf", "(internal/reflectlite.Value).Type", "(internal/reflectlite.Value).IsNil", "internal/reflectlite.TypeOf", "(internal/reflectlite.Value).Elem", "(internal/reflectlite.Value).Set"], unfollowed := true, recurses := true, named := ["errors.errorType"], plainKeys := false, apart := false, laid := [("errors.errorType", laid_errors_errorType)], narrowed := true }
def IsolateFindsUptoSaid : Prop := isolateFindsUptoRow.holds Tryd.pinned (OpenSpec.upto isolateFindsSpec)

end Rows
end Go.Proofs.YtkncomfbedbikaaDoor
