/-
  DERIVED. GIVEN WITH THE SEED: THE CARDS: each row of YtaemikglijnihaaGreatDoorRows.lean that lists a variable, with what it lists TIED to the program's text (the seventh form; the later family's looks); each row that meets fmt, with fmt's text TOLD by the authors' own Lean function (tested against real Go, not proved from fmt's source: count such statements apart). THE CARD IS WHAT COUNTS. Prove the row's statement (the work); the ties are given (YtaemikglijnihaaGreatDoorTie.lean); close each card by the builder's one call (the guide's Derived/Test/ToyasCard.lean, 'card_holds'). Laid BY PROGRAM, IN A SANDBOX (cutbox-door.mjs). By AI agents, Wed Nov 11 2026. No macro, syntax, notation, axiom, sorry.
-/
import Derived.Test.YtaemikglijnihaaGreatDoorRows
import GoSem.ClaimSeven
namespace Go.Proofs.YtaemikglijnihaaGreatDoor
namespace Rows

/-- THE TIED CARD OF 'fallowlaw28.HartKnown'. -/
def hartKnownCard : Claim7 := { stood := { row := hartKnownRow, standIns := [], harness := (true, "81b80d95ba8eeb5c77312f185ca786df9a8270ce955ea834c95d230acdfc5365"), looks := true }, kinds := [], alts := [], laidByText := true, laidKinds := [.data, .data, .data, .data, .sentinel, .sentinel, .data, .pinned], laidTests := true, laidLooks := .later }
def HartKnownCardSaid : Prop := Claim7.holds Tryz.pinned (.plain (OpenSpec.ofChange hartKnownSpec)) hartKnownCard

/-- THE TIED CARD OF 'fallowlaw28.HartPlays'. -/
def hartPlaysCard : Claim7 := { stood := { row := hartPlaysRow, standIns := [], harness := (true, "81b80d95ba8eeb5c77312f185ca786df9a8270ce955ea834c95d230acdfc5365"), looks := true }, kinds := [], alts := [], laidByText := true, laidKinds := [.data, .data, .data, .data, .sentinel, .sentinel, .data, .pinned], laidTests := true, laidLooks := .later }
def HartPlaysCardSaid : Prop := Claim7.holds Tryz.pinned (.plain (OpenSpec.ofChange hartPlaysSpec)) hartPlaysCard

/-- THE SECOND FORM's CARD OF 'fallowlaw28.HartKnown'. -/
def hartKnownUptoCard : Claim7 := { stood := { row := hartKnownUptoRow, standIns := [], harness := (true, "81b80d95ba8eeb5c77312f185ca786df9a8270ce955ea834c95d230acdfc5365"), looks := true }, kinds := [], alts := [], laidByText := true, laidKinds := [.data, .data, .data, .data, .sentinel, .sentinel, .data, .pinned], laidTests := true, laidLooks := .later }
def HartKnownUptoCardSaid : Prop := Claim7.holds Tryz.pinned (.plain (OpenSpec.upto hartKnownSpec)) hartKnownUptoCard

/-- THE SECOND FORM's CARD OF 'fallowlaw28.HartPlays'. -/
def hartPlaysUptoCard : Claim7 := { stood := { row := hartPlaysUptoRow, standIns := [], harness := (true, "81b80d95ba8eeb5c77312f185ca786df9a8270ce955ea834c95d230acdfc5365"), looks := true }, kinds := [], alts := [], laidByText := true, laidKinds := [.data, .data, .data, .data, .sentinel, .sentinel, .data, .pinned], laidTests := true, laidLooks := .later }
def HartPlaysUptoCardSaid : Prop := Claim7.holds Tryz.pinned (.plain (OpenSpec.upto hartPlaysSpec)) hartPlaysUptoCard
end Rows
end Go.Proofs.YtaemikglijnihaaGreatDoor
