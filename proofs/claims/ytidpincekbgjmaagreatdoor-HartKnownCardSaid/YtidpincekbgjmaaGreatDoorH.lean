/-
  HartKnown: whatever the state in which the package variables hold what the program's text lays, the call returns true and leaves all that was there as it was; and the card over it.
  Conditions: the row's own (laid variables); none beside.
-/
import Derived.Test.YtidpincekbgjmaaGreatDoorG
import Derived.Test.YtidpincekbgjmaaGreatDoorRows
import Derived.Test.YtidpincekbgjmaaGreatDoorTie
import Derived.Test.YtidpincekbgjmaaGreatDoorCards
import Derived.ProofKit
import Derived.LaidMore
import Derived.OpenShut
import Derived.Stop.Joined
import Derived.SevenTiedAt
set_option linter.unusedVariables false
set_option linter.unusedSimpArgs false
open Go Go.Abs Go.Sh
namespace Go.Proofs.YtidpincekbgjmaaGreatDoor
open Go.ChangeShapes Go.WideShapes Go.ChangeAt Go.WideMaps Go.WideElems Go.RowKit

theorem own : ownKnob Tryz.prog.godebug = none := by kernel_rfl

theorem progOK : ProgOK Tryz.prog cfg := by
  refine progOK_mk (by kernel_rfl) fun p hp fn s hf hs => ?_
  simp only [extL, List.mem_cons, List.not_mem_nil, or_false] at hp
  rcases hp with rfl | rfl | rfl | rfl | rfl | rfl | rfl
  · simp only at hf hs
    rw [Tryz.func105] at hf
    cases hf
    cases hs
    exact ⟨by kernel_rfl, by kernel_rfl⟩
  · simp only at hf hs
    rw [Tryz.func164] at hf
    cases hf
    cases hs
    exact ⟨by kernel_rfl, by kernel_rfl⟩
  · simp only at hf hs
    rw [Tryz.func256] at hf
    cases hf
    cases hs
    exact ⟨by kernel_rfl, by kernel_rfl⟩
  · simp only at hf hs
    rw [Tryz.func408] at hf
    cases hf
    cases hs
    exact ⟨by kernel_rfl, by kernel_rfl⟩
  · simp only at hf hs
    rw [Tryz.func416] at hf
    cases hf
    cases hs
    exact ⟨by kernel_rfl, by kernel_rfl⟩
  · simp only at hf hs
    rw [Tryz.func417] at hf
    cases hf
    cases hs
    exact ⟨by kernel_rfl, by kernel_rfl⟩
  · simp only at hf hs
    rw [Tryz.func429] at hf
    cases hf
    cases hs
    exact ⟨by kernel_rfl, by kernel_rfl⟩

theorem runsN : callN Tryz.prog cfg 60 3 [] (st0 (laidTab.map Prod.snd)) (fun v _ => some v) (fun _ _ => none) = some (.bool true) := by
  have h := runs
  rw [callS_callN tbl_good] at h
  exact h

theorem laid_tab : Rows.hartKnownRow.laid = laidTab.map toLaid := by kernel_rfl

theorem walked {W : World} (h : laidMetH Tryz.prog Rows.hartKnownRow.laid W) : Calls Tryz.prog 3 #[] W (fun e w' => e = .returned (.bool true) ∧ Below W.heap.size W w') := by
  rw [MakeChecks.laidMetH_plain _ _ _ (by kernel_rfl), laid_tab] at h
  exact calls_of_laid progOK Tryz.func3 (c := cd Tryz.prog 3) (by kernel_rfl) laidTab (by kernel_rfl) (by decide) (by decide) runsN h

end Go.Proofs.YtidpincekbgjmaaGreatDoor
