/-
  The run of HartKnown on the abstract machine, by the kernel: it answers true, where the package variables hold what the program's text lays. No condition.
-/
import Derived.Test.YtidpincekbgjmaaGreatDoorF
import Derived.Test.YtidpincekbgjmaaGreatDoorChecked
open Go Go.Abs Go.Sh Go.Proofs
namespace Go.Proofs.YtidpincekbgjmaaGreatDoor

def escL : List (Nat × Nat) := [(3, 2), (6, 16), (8, 4), (11, 562949953421312), (18, 131168), (19, 496), (23, 128), (48, 32768), (56, 1048576), (75, 2), (82, 67158016), (95, 262144), (96, 4), (97, 4), (98, 4), (99, 4), (100, 64), (106, 114), (125, 268460032), (127, 64), (132, 33579008), (133, 2147876864), (136, 134610944), (139, 960), (177, 164096), (178, 24), (245, 56), (246, 56), (252, 2), (254, 56), (276, 128), (285, 12), (287, 12), (300, 2), (404, 5248)]
def extL : List (Nat × Nat) := [(105, 1), (164, 2), (256, 0), (408, 3), (416, 5), (417, 6), (429, 3)]
def cfg : Cfg := { esc := fun f => match Go.Abs.look escL f with | some m => m | none => 0, pure := fun _ => false, ext := Go.Abs.look extL }
def laidTab : List (String × Nat × List Int) := [("ravelin/intr.rank", 0, [11, 3, 7, 9, 1, 5]), ("ravelin/rvc.nAddi4", 11, [5, 4, 9, 8, 7, 6, 2, 3, -1, -1, -1]), ("ravelin/rvc.nLw", 5, [5, 4, 3, -1, -1, -1, 2, 6, -1, -1, -1]), ("ravelin/rvc.nLd", 6, [5, 4, 3, -1, -1, -1, 7, 6, -1, -1, -1]), ("ravelin/rvc.nSix", 12, [5, -1, -1, -1, -1, -1, 4, 3, 2, 1, 0]), ("ravelin/rvc.nAddi16", 13, [9, -1, -1, -1, -1, -1, 4, 6, 8, 7, 5]), ("ravelin/rvc.nLui", 14, [17, -1, -1, -1, -1, -1, 16, 15, 14, 13, 12]), ("ravelin/rvc.nJump", 15, [11, 4, 9, 8, 10, 6, 7, 3, 2, 1, 5]), ("ravelin/rvc.nBranch", 16, [8, 4, 3, -1, -1, -1, 7, 6, 2, 1, 5]), ("ravelin/rvc.nLwsp", 7, [5, -1, -1, -1, -1, -1, 4, 3, 2, 7, 6]), ("ravelin/rvc.nLdsp", 8, [5, -1, -1, -1, -1, -1, 4, 3, 8, 7, 6]), ("ravelin/rvc.nSwsp", 9, [5, 4, 3, 2, 7, 6, -1, -1, -1, -1, -1]), ("ravelin/rvc.nSdsp", 10, [5, 4, 3, 8, 7, 6, -1, -1, -1, -1, -1]), ("ravelin/word.sizes", 3, [1, 2, 4, 8, 1, 2, 4, 16]), ("ravelin/access.ofPages", 2, [12, 13, 15]), ("ravelin/access.ofPlaces", 1, [1, 5, 7]), ("ravelin/access.ofAlign", 4, [0, 4, 6])]

set_option maxRecDepth 1000000 in
theorem runs : callS PG cfg tbl 60 3 [] (st0 (laidTab.map Prod.snd)) (fun v _ => some v) (fun _ _ => none) = some (.bool true) := by kernel_rfl

end Go.Proofs.YtidpincekbgjmaaGreatDoor
