/-
  The closed facts of the row, all of them. No condition.
-/
import Derived.Test.YtidpincekbgjmaaGreatDoorM0
import Derived.Test.YtidpincekbgjmaaGreatDoorM1
import Derived.Test.YtidpincekbgjmaaGreatDoorM2
import Derived.Test.YtidpincekbgjmaaGreatDoorM3
import Derived.Test.YtidpincekbgjmaaGreatDoorM4
import Derived.Test.YtidpincekbgjmaaGreatDoorM5
import Derived.Test.YtidpincekbgjmaaGreatDoorM6
import Derived.Test.YtidpincekbgjmaaGreatDoorM7
import Derived.Test.YtidpincekbgjmaaGreatDoorRows
import Derived.Test.YtidpincekbgjmaaGreatDoorCards
import Derived.ProofKit
import Derived.LaidMore
open Go
namespace Go.Proofs.YtidpincekbgjmaaGreatDoor

theorem both {a b : Bool} (ha : a = true) (hb : b = true) : (a && b) = true := by rw [ha, hb]; rfl

set_option maxRecDepth 1000000 in
theorem facts : joinedFacts Tryz.prog 3 Tryz.f3 Rows.hartKnownSpec Rows.hartKnownRow = true :=
  (both (both (both (both (both (both (both (both (both (both (both (both (both (both (both (both (both (both (both (both (both (both (both (both (both (both (both (both (both (both (both fact0 fact1) fact2) fact3) fact4) fact5) fact6) fact7) fact8) fact9) fact10) fact11) fact12) fact13) fact14) fact15) fact16) fact17) fact18) fact19) fact20) fact21) fact22) fact23) fact24) fact25) fact26) fact27) fact28) fact29) fact30) fact31)

end Go.Proofs.YtidpincekbgjmaaGreatDoor
