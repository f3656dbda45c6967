/-
  Closed facts of the row, by the kernel. No condition.
-/
import Derived.Test.YtidpincekbgjmaaGreatDoorRows
import Derived.ProofKit
import Derived.LaidMore
open Go
namespace Go.Proofs.YtidpincekbgjmaaGreatDoor

theorem fact0 : (let P := Tryz.prog; let f := 3; let fn := Tryz.f3; let s := Rows.hartKnownSpec; let c := Rows.hartKnownRow; c.wf (OpenSpec.ofChange s)) = true := by kernel_rfl
theorem fact3 : (let P := Tryz.prog; let f := 3; let fn := Tryz.f3; let s := Rows.hartKnownSpec; let c := Rows.hartKnownRow; fn.params.all (P.readableRec ·)) = true := by kernel_rfl
theorem fact4 : (let P := Tryz.prog; let f := 3; let fn := Tryz.f3; let s := Rows.hartKnownSpec; let c := Rows.hartKnownRow; namedTie P c.named s.vars) = true := by kernel_rfl
theorem fact5 : (let P := Tryz.prog; let f := 3; let fn := Tryz.f3; let s := Rows.hartKnownSpec; let c := Rows.hartKnownRow; (c.stops == [])) = true := by kernel_rfl
theorem fact6 : (let P := Tryz.prog; let f := 3; let fn := Tryz.f3; let s := Rows.hartKnownSpec; let c := Rows.hartKnownRow; (P.stops == [])) = true := by kernel_rfl
theorem fact7 : (let P := Tryz.prog; let f := 3; let fn := Tryz.f3; let s := Rows.hartKnownSpec; let c := Rows.hartKnownRow; (c.knobs == [])) = true := by kernel_rfl
theorem fact8 : (let P := Tryz.prog; let f := 3; let fn := Tryz.f3; let s := Rows.hartKnownSpec; let c := Rows.hartKnownRow; (P.stopKnobs == [])) = true := by kernel_rfl
theorem fact13 : (let P := Tryz.prog; let f := 3; let fn := Tryz.f3; let s := Rows.hartKnownSpec; let c := Rows.hartKnownRow; (c.maps == (fn.params.toList ++ s.plain.varTypes P).any (P.mapsRec ·))) = true := by kernel_rfl
theorem fact14 : (let P := Tryz.prog; let f := 3; let fn := Tryz.f3; let s := Rows.hartKnownSpec; let c := Rows.hartKnownRow; (c.ifaces == (fn.params.toList ++ s.plain.varTypes P).any (P.ifacesRec ·))) = true := by kernel_rfl
theorem fact15 : (let P := Tryz.prog; let f := 3; let fn := Tryz.f3; let s := Rows.hartKnownSpec; let c := Rows.hartKnownRow; (c.mapsOut == P.mapsAmong fn.resultTypes.toList)) = true := by kernel_rfl
theorem fact16 : (let P := Tryz.prog; let f := 3; let fn := Tryz.f3; let s := Rows.hartKnownSpec; let c := Rows.hartKnownRow; (c.loops == (fn.params.toList ++ s.plain.varTypes P).any (P.loopsFrom ·))) = true := by kernel_rfl
theorem fact17 : (let P := Tryz.prog; let f := 3; let fn := Tryz.f3; let s := Rows.hartKnownSpec; let c := Rows.hartKnownRow; (c.wideKeys == (fn.params.toList ++ s.plain.varTypes P ++ fn.resultTypes.toList).any (P.wideKeysFrom ·))) = true := by kernel_rfl
theorem fact18 : (let P := Tryz.prog; let f := 3; let fn := Tryz.f3; let s := Rows.hartKnownSpec; let c := Rows.hartKnownRow; s.vars.all (P.varReadable ·)) = true := by kernel_rfl
theorem fact19 : (let P := Tryz.prog; let f := 3; let fn := Tryz.f3; let s := Rows.hartKnownSpec; let c := Rows.hartKnownRow; fn.resultTypes.all (fun t => P.readableRec t && decide (t < P.types.size))) = true := by kernel_rfl
theorem fact20 : (let P := Tryz.prog; let f := 3; let fn := Tryz.f3; let s := Rows.hartKnownSpec; let c := Rows.hartKnownRow; (c.ifacesOut == fn.resultTypes.toList.any (P.ifacesRec ·))) = true := by kernel_rfl
theorem fact21 : (let P := Tryz.prog; let f := 3; let fn := Tryz.f3; let s := Rows.hartKnownSpec; let c := Rows.hartKnownRow; (c.loopsOut == fn.resultTypes.toList.any (P.loopsFrom ·))) = true := by kernel_rfl
theorem fact23 : (let P := Tryz.prog; let f := 3; let fn := Tryz.f3; let s := Rows.hartKnownSpec; let c := Rows.hartKnownRow; c.shortTexts.isNone) = true := by kernel_rfl
theorem fact26 : (let P := Tryz.prog; let f := 3; let fn := Tryz.f3; let s := Rows.hartKnownSpec; let c := Rows.hartKnownRow; (c.lifted == P.liftsFinal)) = true := by kernel_rfl
theorem fact27 : (let P := Tryz.prog; let f := 3; let fn := Tryz.f3; let s := Rows.hartKnownSpec; let c := Rows.hartKnownRow; (P.make == some c.make)) = true := by kernel_rfl
theorem fact28 : (let P := Tryz.prog; let f := 3; let fn := Tryz.f3; let s := Rows.hartKnownSpec; let c := Rows.hartKnownRow; (c.kinds == (if c.domain.isEmpty then [] else fn.params.toList.map fun t => match P.underlying t with | some (.int k) => some k | _ => none))) = true := by kernel_rfl
theorem fact29 : (let P := Tryz.prog; let f := 3; let fn := Tryz.f3; let s := Rows.hartKnownSpec; let c := Rows.hartKnownRow; (c.pinned == c.pinnedBy)) = true := by kernel_rfl
theorem fact30 : (let P := Tryz.prog; let f := 3; let fn := Tryz.f3; let s := Rows.hartKnownSpec; let c := Rows.hartKnownRow; (c.veiled == (fn.params.toList ++ s.plain.varTypes P ++ fn.resultTypes.toList).any (P.veiledRec ·))) = true := by kernel_rfl
theorem fact31 : (let P := Tryz.prog; let f := 3; let fn := Tryz.f3; let s := Rows.hartKnownSpec; let c := Rows.hartKnownRow; c.veiledFits P fn.params.toList (fn.params.toList ++ s.plain.varTypes P ++ fn.resultTypes.toList)) = true := by kernel_rfl

end Go.Proofs.YtidpincekbgjmaaGreatDoor
