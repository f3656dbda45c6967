/-
  The call starts no goroutine. No condition.
-/
import Derived.Test.YtidpincekbgjmaaGreatDoorRows
import Derived.Test.YtidpincekbgjmaaGreatDoorCards
import Derived.ProofKit
import Derived.LaidMore
open Go
namespace Go.Proofs.YtidpincekbgjmaaGreatDoor

theorem goes0 : false = Rows.hartKnownRow.goesBy Tryz.pinned.checked.prog := by kernel_rfl

end Go.Proofs.YtidpincekbgjmaaGreatDoor
