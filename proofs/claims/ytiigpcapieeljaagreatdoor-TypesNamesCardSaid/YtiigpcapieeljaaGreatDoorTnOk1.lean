/-
  The orders of these functions' regions do not matter.
-/
import Derived.Test.YtiigpcapieeljaaGreatDoorTnTab
set_option linter.unusedSimpArgs false
set_option linter.unusedVariables false
namespace Go.Proofs.YtiigpcapieeljaaGreatDoor
open Go.Rv
def okl1 : List Nat := [6, 23, 47, 51, 77, 81, 85, 89, 133, 137, 141, 145, 149, 153, 178, 190, 194, 198, 202, 206, 210, 231, 235, 239, 243, 247, 277, 281, 285, 289, 293, 297, 308, 312, 317, 322, 326, 331, 335]
theorem oks1 : okl1.all (fnOk Tryz.prog (told0.bare Tryz.prog)) = true := by kernel_rfl
end Go.Proofs.YtiigpcapieeljaaGreatDoor
