/-
  HartKnown: the tied card: the call returns true, whatever the state, where the package variables hold what the program's text lays. Conditions: the card's own.
-/
import Derived.Test.YtidpincekbgjmaaGreatDoorK
import Derived.Test.YtidpincekbgjmaaGreatDoorM8
import Derived.Test.YtidpincekbgjmaaGreatDoorM9
import Derived.Test.YtidpincekbgjmaaGreatDoorRows
import Derived.Test.YtidpincekbgjmaaGreatDoorTie
import Derived.Test.YtidpincekbgjmaaGreatDoorCards
import Derived.ProofKit
import Derived.LaidMore
import Derived.OpenShut
import Derived.Stop.Joined
import Derived.SevenTiedAt
set_option linter.unusedVariables false
set_option linter.unusedSimpArgs false
open Go Go.Abs Go.Sh
namespace Go.Proofs.YtidpincekbgjmaaGreatDoor
open Go.ChangeShapes Go.WideShapes Go.ChangeAt Go.WideMaps Go.WideElems Go.RowKit

theorem card_holds : Rows.HartKnownCardSaid :=
  Claim7.holds_tied_plain_at .later [] (List.replicate 17 .data) true Rows.hartKnownCard.stood.harness true
    holds (fun _ h => by cases h) (by kernel_rfl) (fun _ h => by cases h) hartKnown_row_tie rfl ⟨rfl, rfl⟩ (mains0 _ rfl) rfl
    (fun f fn hf hfn => by
      obtain rfl : f = 3 := Option.some.inj ((show Tryz.prog.funcNamed Rows.hartKnownRow.func = some 3 by kernel_rfl).symm.trans hf) |>.symm
      obtain rfl : fn = Tryz.f3 := (Option.some.inj (Tryz.func3.symm.trans hfn)).symm
      exact ⟨looks0, fun j t ht => by
        rw [Tryz.params3] at ht
        simp at ht⟩)
    goes0
#print axioms card_holds

end Go.Proofs.YtidpincekbgjmaaGreatDoor
