/-
  DERIVED. GIVEN WITH THE SEED: THE CARDS: each row of YtidpincekbgjmaaGreatDoorRows.lean that lists a variable, with what it lists TIED to the program's text (the seventh form; the later family's looks); each row that meets fmt, with fmt's text TOLD by the authors' own Lean function (tested against real Go, not proved from fmt's source: count such statements apart). THE CARD IS WHAT COUNTS. Prove the row's statement (the work); the ties are given (YtidpincekbgjmaaGreatDoorTie.lean); close each card by the builder's one call (the guide's Derived/Test/ToyasCard.lean, 'card_holds'). Laid BY PROGRAM, IN A SANDBOX (cutbox-door.mjs). By AI agents, Wed Nov 11 2026. No macro, syntax, notation, axiom, sorry.
-/
import Derived.Test.YtidpincekbgjmaaGreatDoorRows
import GoSem.ClaimSeven
namespace Go.Proofs.YtidpincekbgjmaaGreatDoor
namespace Rows

/-- THE TIED CARD OF 'ravelinlaw29.HartKnown'. -/
def hartKnownCard : Claim7 := { stood := { row := hartKnownRow, standIns := [], harness := (true, "6631a78e7dafb45afdf991f1bb94366fc4f25967dd8abb43dfb425a972d422aa"), looks := true }, kinds := [], alts := [], laidByText := true, laidKinds := [.data, .data, .data, .data, .data, .data, .data, .data, .data, .data, .data, .data, .data, .data, .data, .data, .data], laidTests := true, laidLooks := .later }
def HartKnownCardSaid : Prop := Claim7.holds Tryz.pinned (.plain (OpenSpec.ofChange hartKnownSpec)) hartKnownCard

/-- THE SECOND FORM's CARD OF 'ravelinlaw29.HartKnown'. -/
def hartKnownUptoCard : Claim7 := { stood := { row := hartKnownUptoRow, standIns := [], harness := (true, "6631a78e7dafb45afdf991f1bb94366fc4f25967dd8abb43dfb425a972d422aa"), looks := true }, kinds := [], alts := [], laidByText := true, laidKinds := [.data, .data, .data, .data, .data, .data, .data, .data, .data, .data, .data, .data, .data, .data, .data, .data, .data], laidTests := true, laidLooks := .later }
def HartKnownUptoCardSaid : Prop := Claim7.holds Tryz.pinned (.plain (OpenSpec.upto hartKnownSpec)) hartKnownUptoCard
end Rows
end Go.Proofs.YtidpincekbgjmaaGreatDoor
