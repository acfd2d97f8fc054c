/-
  DERIVED. GIVEN WITH THE SEED: THE CARDS: each row of YtfmmgggdgpfaaaaGreatDoorRows.lean that lists a variable, with what it lists TIED to the program's text (the seventh form; the later family's looks); each row that meets fmt, with fmt's text TOLD by the authors' own Lean function (tested against real Go, not proved from fmt's source: count such statements apart). THE CARD IS WHAT COUNTS. Prove the row's statement (the work); the ties are given (YtfmmgggdgpfaaaaGreatDoorTie.lean); close each card by the builder's one call (the guide's Derived/Test/ToyasCard.lean, 'card_holds'). Laid BY PROGRAM, IN A SANDBOX (cutbox-door.mjs). By AI agents, Wed Nov 11 2026. No macro, syntax, notation, axiom, sorry.
-/
import Derived.Test.YtfmmgggdgpfaaaaGreatDoorRows
import GoSem.ClaimSeven
namespace Go.Proofs.YtfmmgggdgpfaaaaGreatDoor
namespace Rows

/-- THE TIED CARD OF 'ringworklaw17.HostNothing'. -/
def hostNothingCard : Claim7 := { stood := { row := hostNothingRow, standIns := [], harness := (true, "d1684296e71a6ffc0e34a71d40684a6884b627ce181a0cd8cb229814f9e2ed27"), looks := true }, kinds := [], alts := [], laidByText := true, laidKinds := [.data, .data, .data, .sentinel, .sentinel, .listed, .data], laidTests := true, laidLooks := .later }
def HostNothingCardSaid : Prop := Claim7.holds Tryz.pinned (.plain (OpenSpec.ofChange hostNothingSpec)) hostNothingCard

/-- THE SECOND FORM's CARD OF 'ringworklaw17.HostNothing'. -/
def hostNothingUptoCard : Claim7 := { stood := { row := hostNothingUptoRow, standIns := [], harness := (true, "d1684296e71a6ffc0e34a71d40684a6884b627ce181a0cd8cb229814f9e2ed27"), looks := true }, kinds := [], alts := [], laidByText := true, laidKinds := [.data, .data, .data, .sentinel, .sentinel, .listed, .data], laidTests := true, laidLooks := .later }
def HostNothingUptoCardSaid : Prop := Claim7.holds Tryz.pinned (.plain (OpenSpec.upto hostNothingSpec)) hostNothingUptoCard
end Rows
end Go.Proofs.YtfmmgggdgpfaaaaGreatDoor
