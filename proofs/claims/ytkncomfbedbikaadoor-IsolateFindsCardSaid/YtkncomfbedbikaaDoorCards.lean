/-
  DERIVED. GIVEN WITH THE SEED: THE CARDS: each row of YtkncomfbedbikaaDoorRows.lean that lists a variable, with what it lists TIED to the program's text (the seventh form; the later family's looks); each row that meets fmt, with fmt's text TOLD by the authors' own Lean function (tested against real Go, not proved from fmt's source: count such statements apart). THE CARD IS WHAT COUNTS. Prove the row's statement (the work); the ties are given (YtkncomfbedbikaaDoorTie.lean); close each card by the builder's one call (the guide's Derived/Test/ToyasCard.lean, 'card_holds'). Laid BY PROGRAM, IN A SANDBOX (cutbox-door.mjs). By AI agents, Wed Nov 11 2026. No macro, syntax, notation, axiom, sorry.
-/
import Derived.Test.YtkncomfbedbikaaDoorRows
import GoSem.ClaimSeven
namespace Go.Proofs.YtkncomfbedbikaaDoor
namespace Rows

/-- THE TIED CARD OF 'testimonylaw.CausalFinds'. -/
def causalFindsCard : Claim7 := { stood := { row := causalFindsRow, standIns := [], harness := (true, "11cc2a7125536858ff660bc7dc912c1b0a37b02853d3ef0da112ddc369274430"), looks := true }, kinds := [], alts := [], laidByText := true, laidKinds := [.handle], laidTests := true, laidLooks := .later }
def CausalFindsCardSaid : Prop := Claim7.holds Tryd.pinned (.plain (OpenSpec.ofChange causalFindsSpec)) causalFindsCard

/-- THE TIED CARD OF 'testimonylaw.SessionBroken'. -/
def sessionBrokenCard : Claim7 := { stood := { row := sessionBrokenRow, standIns := [], harness := (true, "11cc2a7125536858ff660bc7dc912c1b0a37b02853d3ef0da112ddc369274430"), looks := true }, kinds := [], alts := [], laidByText := true, laidKinds := [.handle], laidTests := true, laidLooks := .later }
def SessionBrokenCardSaid : Prop := Claim7.holds Tryd.pinned (.plain (OpenSpec.ofChange sessionBrokenSpec)) sessionBrokenCard

/-- THE TIED CARD OF 'testimonylaw.SerialSees'. -/
def serialSeesCard : Claim7 := { stood := { row := serialSeesRow, standIns := [], harness := (true, "11cc2a7125536858ff660bc7dc912c1b0a37b02853d3ef0da112ddc369274430"), looks := true }, kinds := [], alts := [], laidByText := true, laidKinds := [.handle, .data], laidTests := true, laidLooks := .later }
def SerialSeesCardSaid : Prop := Claim7.holds Tryd.pinned (.plain (OpenSpec.ofChange serialSeesSpec)) serialSeesCard

/-- THE TIED CARD OF 'testimonylaw.MvccPlays'. -/
def mvccPlaysCard : Claim7 := { stood := { row := mvccPlaysRow, standIns := [], harness := (true, "11cc2a7125536858ff660bc7dc912c1b0a37b02853d3ef0da112ddc369274430"), looks := true }, kinds := [], alts := [], laidByText := true, laidKinds := [.handle], laidTests := true, laidLooks := .later }
def MvccPlaysCardSaid : Prop := Claim7.holds Tryd.pinned (.plain (OpenSpec.ofChange mvccPlaysSpec)) mvccPlaysCard

/-- THE TIED CARD OF 'testimonylaw.SerialClashes'. -/
def serialClashesCard : Claim7 := { stood := { row := serialClashesRow, standIns := [], harness := (true, "11cc2a7125536858ff660bc7dc912c1b0a37b02853d3ef0da112ddc369274430"), looks := true }, kinds := [], alts := [], laidByText := true, laidKinds := [.handle, .data], laidTests := true, laidLooks := .later }
def SerialClashesCardSaid : Prop := Claim7.holds Tryd.pinned (.plain (OpenSpec.ofChange serialClashesSpec)) serialClashesCard

/-- THE TIED CARD OF 'testimonylaw.IsolateSerial'. -/
def isolateSerialCard : Claim7 := { stood := { row := isolateSerialRow, standIns := [], harness := (true, "11cc2a7125536858ff660bc7dc912c1b0a37b02853d3ef0da112ddc369274430"), looks := true }, kinds := [], alts := [], laidByText := true, laidKinds := [.handle], laidTests := true, laidLooks := .later }
def IsolateSerialCardSaid : Prop := Claim7.holds Tryd.pinned (.plain (OpenSpec.ofChange isolateSerialSpec)) isolateSerialCard

/-- THE TIED CARD OF 'testimonylaw.IsolateFinds'. -/
def isolateFindsCard : Claim7 := { stood := { row := isolateFindsRow, standIns := [], harness := (true, "11cc2a7125536858ff660bc7dc912c1b0a37b02853d3ef0da112ddc369274430"), looks := true }, kinds := [], alts := [], laidByText := true, laidKinds := [.handle], laidTests := true, laidLooks := .later }
def IsolateFindsCardSaid : Prop := Claim7.holds Tryd.pinned (.plain (OpenSpec.ofChange isolateFindsSpec)) isolateFindsCard

/-- THE SECOND FORM's CARD OF 'testimonylaw.CausalFinds'. -/
def causalFindsUptoCard : Claim7 := { stood := { row := causalFindsUptoRow, standIns := [], harness := (true, "11cc2a7125536858ff660bc7dc912c1b0a37b02853d3ef0da112ddc369274430"), looks := true }, kinds := [], alts := [], laidByText := true, laidKinds := [.handle], laidTests := true, laidLooks := .later }
def CausalFindsUptoCardSaid : Prop := Claim7.holds Tryd.pinned (.plain (OpenSpec.upto causalFindsSpec)) causalFindsUptoCard

/-- THE SECOND FORM's CARD OF 'testimonylaw.SessionBroken'. -/
def sessionBrokenUptoCard : Claim7 := { stood := { row := sessionBrokenUptoRow, standIns := [], harness := (true, "11cc2a7125536858ff660bc7dc912c1b0a37b02853d3ef0da112ddc369274430"), looks := true }, kinds := [], alts := [], laidByText := true, laidKinds := [.handle], laidTests := true, laidLooks := .later }
def SessionBrokenUptoCardSaid : Prop := Claim7.holds Tryd.pinned (.plain (OpenSpec.upto sessionBrokenSpec)) sessionBrokenUptoCard

/-- THE SECOND FORM's CARD OF 'testimonylaw.SerialSees'. -/
def serialSeesUptoCard : Claim7 := { stood := { row := serialSeesUptoRow, standIns := [], harness := (true, "11cc2a7125536858ff660bc7dc912c1b0a37b02853d3ef0da112ddc369274430"), looks := true }, kinds := [], alts := [], laidByText := true, laidKinds := [.handle, .data], laidTests := true, laidLooks := .later }
def SerialSeesUptoCardSaid : Prop := Claim7.holds Tryd.pinned (.plain (OpenSpec.upto serialSeesSpec)) serialSeesUptoCard

/-- THE SECOND FORM's CARD OF 'testimonylaw.MvccPlays'. -/
def mvccPlaysUptoCard : Claim7 := { stood := { row := mvccPlaysUptoRow, standIns := [], harness := (true, "11cc2a7125536858ff660bc7dc912c1b0a37b02853d3ef0da112ddc369274430"), looks := true }, kinds := [], alts := [], laidByText := true, laidKinds := [.handle], laidTests := true, laidLooks := .later }
def MvccPlaysUptoCardSaid : Prop := Claim7.holds Tryd.pinned (.plain (OpenSpec.upto mvccPlaysSpec)) mvccPlaysUptoCard

/-- THE SECOND FORM's CARD OF 'testimonylaw.SerialClashes'. -/
def serialClashesUptoCard : Claim7 := { stood := { row := serialClashesUptoRow, standIns := [], harness := (true, "11cc2a7125536858ff660bc7dc912c1b0a37b02853d3ef0da112ddc369274430"), looks := true }, kinds := [], alts := [], laidByText := true, laidKinds := [.handle, .data], laidTests := true, laidLooks := .later }
def SerialClashesUptoCardSaid : Prop := Claim7.holds Tryd.pinned (.plain (OpenSpec.upto serialClashesSpec)) serialClashesUptoCard

/-- THE SECOND FORM's CARD OF 'testimonylaw.IsolateSerial'. -/
def isolateSerialUptoCard : Claim7 := { stood := { row := isolateSerialUptoRow, standIns := [], harness := (true, "11cc2a7125536858ff660bc7dc912c1b0a37b02853d3ef0da112ddc369274430"), looks := true }, kinds := [], alts := [], laidByText := true, laidKinds := [.handle], laidTests := true, laidLooks := .later }
def IsolateSerialUptoCardSaid : Prop := Claim7.holds Tryd.pinned (.plain (OpenSpec.upto isolateSerialSpec)) isolateSerialUptoCard

/-- THE SECOND FORM's CARD OF 'testimonylaw.IsolateFinds'. -/
def isolateFindsUptoCard : Claim7 := { stood := { row := isolateFindsUptoRow, standIns := [], harness := (true, "11cc2a7125536858ff660bc7dc912c1b0a37b02853d3ef0da112ddc369274430"), looks := true }, kinds := [], alts := [], laidByText := true, laidKinds := [.handle], laidTests := true, laidLooks := .later }
def IsolateFindsUptoCardSaid : Prop := Claim7.holds Tryd.pinned (.plain (OpenSpec.upto isolateFindsSpec)) isolateFindsUptoCard
end Rows
end Go.Proofs.YtkncomfbedbikaaDoor
