/-
  The orders of these functions' regions do not matter.
-/
import Derived.Test.YtiigpcapieeljaaGreatDoorTnTab
set_option linter.unusedSimpArgs false
set_option linter.unusedVariables false
namespace Go.Proofs.YtiigpcapieeljaaGreatDoor
open Go.Rv
def okl3 : List Nat := [8, 45, 49, 53, 79, 83, 87, 108, 135, 139, 143, 147, 151, 156, 188, 192, 196, 200, 204, 208, 229, 233, 237, 241, 245, 249, 279, 283, 287, 291, 295, 306, 310, 314, 319, 324, 328, 333, 337]
theorem oks3 : okl3.all (fnOk Tryz.prog (told0.bare Tryz.prog)) = true := by kernel_rfl
end Go.Proofs.YtiigpcapieeljaaGreatDoor
