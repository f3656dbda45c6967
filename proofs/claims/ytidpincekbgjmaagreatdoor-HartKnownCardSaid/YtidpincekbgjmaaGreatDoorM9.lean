/-
  What the translation looks at; the main package's mark. No condition.
-/
import Derived.Test.YtidpincekbgjmaaGreatDoorRows
import Derived.Test.YtidpincekbgjmaaGreatDoorCards
import Derived.ProofKit
import Derived.LaidMore
open Go
namespace Go.Proofs.YtidpincekbgjmaaGreatDoor

theorem looks0 : true = Tryz.pinned.checked.prog.looks [] := by kernel_rfl
theorem mains0 (h : Bool × String) (e : Rows.hartKnownCard.stood.harness = h) : Tryz.pinned.checked.prog.mainIs = some (h.1, h.2.toList) := by
  subst e
  kernel_rfl

end Go.Proofs.YtidpincekbgjmaaGreatDoor
