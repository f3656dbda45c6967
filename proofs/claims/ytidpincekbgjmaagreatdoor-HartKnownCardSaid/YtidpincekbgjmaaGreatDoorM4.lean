/-
  Closed facts of the row, by the kernel. No condition.
-/
import Derived.Test.YtidpincekbgjmaaGreatDoorRows
import Derived.ProofKit
import Derived.LaidMore
open Go
namespace Go.Proofs.YtidpincekbgjmaaGreatDoor

theorem fact11 : (let P := Tryz.prog; let f := 3; let fn := Tryz.f3; let s := Rows.hartKnownSpec; let c := Rows.hartKnownRow; (c.recurses == P.recurses f)) = true := by kernel_rfl

end Go.Proofs.YtidpincekbgjmaaGreatDoor
