/-
  The orders of these functions' regions do not matter.
-/
import Derived.Test.YtiigpcapieeljaaGreatDoorTnTab
set_option linter.unusedSimpArgs false
set_option linter.unusedVariables false
namespace Go.Proofs.YtiigpcapieeljaaGreatDoor
open Go.Rv
def okl2 : List Nat := [7, 24, 48, 52, 78, 82, 86, 90, 134, 138, 142, 146, 150, 154, 187, 191, 195, 199, 203, 207, 211, 232, 236, 240, 244, 248, 278, 282, 286, 290, 294, 305, 309, 313, 318, 323, 327, 332, 336]
theorem oks2 : okl2.all (fnOk Tryz.prog (told0.bare Tryz.prog)) = true := by kernel_rfl
end Go.Proofs.YtiigpcapieeljaaGreatDoor
