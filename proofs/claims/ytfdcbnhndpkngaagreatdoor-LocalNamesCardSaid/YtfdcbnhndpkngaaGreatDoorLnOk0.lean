/-
  The orders of these functions' regions do not matter.
-/
import Derived.Test.YtfdcbnhndpkngaaGreatDoorLnTab
set_option linter.unusedSimpArgs false
set_option linter.unusedVariables false
namespace Go.Proofs.YtfdcbnhndpkngaaGreatDoor
open Go.Rv
def okl0 : List Nat := [3, 10, 25, 29, 33, 51, 55, 59, 71, 94, 98, 102, 106, 110, 114, 118, 132, 147, 151, 155, 159, 163, 167, 171, 175, 179, 184, 188, 192, 206, 210, 215, 228, 232, 236, 240, 244, 249, 253, 262, 268, 272, 276, 280, 284, 288, 304, 308, 312, 316, 320, 324, 332, 336, 340, 344, 349, 354, 358, 363, 367]
theorem oks0 : okl0.all (fnOk Tryz.prog (told0.bare Tryz.prog)) = true := by kernel_rfl
end Go.Proofs.YtfdcbnhndpkngaaGreatDoor
