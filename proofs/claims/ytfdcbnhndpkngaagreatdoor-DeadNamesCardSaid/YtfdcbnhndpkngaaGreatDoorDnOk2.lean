/-
  The orders of these functions' regions do not matter.
-/
import Derived.Test.YtfdcbnhndpkngaaGreatDoorDnTab
set_option linter.unusedSimpArgs false
set_option linter.unusedVariables false
namespace Go.Proofs.YtfdcbnhndpkngaaGreatDoor
open Go.Rv
def okl2 : List Nat := [15, 26, 37, 41, 48, 53, 57, 62, 66, 70, 74, 84, 92, 96, 100, 104, 108, 112, 116, 120, 124, 128, 132, 141, 147, 151, 155, 159, 163, 167, 171, 175, 179, 184, 188, 192, 197, 201, 205, 209, 213, 217, 226, 230, 234, 238, 242, 246, 251, 255, 260, 264, 269, 273, 277, 281, 285, 299, 304, 308, 312, 316, 320, 324, 332, 336, 340, 344, 349, 354, 358, 363, 367]
theorem oks2 : okl2.all (fnOk Tryz.prog (told0.bare Tryz.prog)) = true := by kernel_rfl
end Go.Proofs.YtfdcbnhndpkngaaGreatDoor
