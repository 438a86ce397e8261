/-
  The orders of these functions' regions do not matter.
-/
import Derived.Test.YtiigpcapieeljaaGreatDoorTnTab
set_option linter.unusedSimpArgs false
set_option linter.unusedVariables false
namespace Go.Proofs.YtiigpcapieeljaaGreatDoor
open Go.Rv
def okl0 : List Nat := [3, 9, 46, 50, 76, 80, 84, 88, 132, 136, 140, 144, 148, 152, 175, 189, 193, 197, 201, 205, 209, 230, 234, 238, 242, 246, 274, 280, 284, 288, 292, 296, 307, 311, 316, 320, 325, 329, 334]
theorem oks0 : okl0.all (fnOk Tryz.prog (told0.bare Tryz.prog)) = true := by kernel_rfl
end Go.Proofs.YtiigpcapieeljaaGreatDoor
