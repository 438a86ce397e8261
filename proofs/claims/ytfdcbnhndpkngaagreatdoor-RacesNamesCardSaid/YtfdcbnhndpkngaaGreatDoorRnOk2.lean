/-
  The orders of these functions' regions do not matter.
-/
import Derived.Test.YtfdcbnhndpkngaaGreatDoorRnTab
set_option linter.unusedSimpArgs false
set_option linter.unusedVariables false
namespace Go.Proofs.YtfdcbnhndpkngaaGreatDoor
open Go.Rv
def okl2 : List Nat := [18, 26, 41, 47, 51, 55, 59, 70, 75, 79, 83, 87, 91, 95, 99, 103, 107, 111, 115, 119, 124, 128, 132, 136, 141, 145, 149, 153, 157, 161, 165, 169, 173, 177, 181, 186, 190, 195, 207, 211, 215, 222, 227, 231, 235, 239, 243, 248, 252, 257, 264, 268, 272, 276, 280, 284, 288, 304, 308, 312, 316, 320, 324, 332, 336, 340, 344, 349, 354, 358, 363, 367]
theorem oks2 : okl2.all (fnOk Tryz.prog (told0.bare Tryz.prog)) = true := by kernel_rfl
end Go.Proofs.YtfdcbnhndpkngaaGreatDoor
