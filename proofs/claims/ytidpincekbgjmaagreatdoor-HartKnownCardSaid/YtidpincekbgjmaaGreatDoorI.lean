/-
  HartKnown: the starting state of the witness: the package variables hold there what the text lays. No condition.
-/
import Derived.Test.YtidpincekbgjmaaGreatDoorH
import Derived.Test.YtidpincekbgjmaaGreatDoorRows
import Derived.Test.YtidpincekbgjmaaGreatDoorTie
import Derived.Test.YtidpincekbgjmaaGreatDoorCards
import Derived.ProofKit
import Derived.LaidMore
import Derived.OpenShut
import Derived.Stop.Joined
import Derived.SevenTiedAt
set_option linter.unusedVariables false
set_option linter.unusedSimpArgs false
open Go Go.Abs Go.Sh
namespace Go.Proofs.YtidpincekbgjmaaGreatDoor
open Go.ChangeShapes Go.WideShapes Go.ChangeAt Go.WideMaps Go.WideElems Go.RowKit

theorem door_met (os : Os) (args : Array Value) : laidMetH Tryz.prog Rows.hartKnownRow.laid ((World.doorLaid Tryz.prog 400 os).forCall (fun _ _ => 0) ⟨#[], args, []⟩).memory :=
  laidMetH_of_parts3 (fuel := 8) (laidMet_of_run' 8 (by kernel_rfl) (by kernel_rfl)) (by kernel_rfl) (by kernel_rfl)

end Go.Proofs.YtidpincekbgjmaaGreatDoor
