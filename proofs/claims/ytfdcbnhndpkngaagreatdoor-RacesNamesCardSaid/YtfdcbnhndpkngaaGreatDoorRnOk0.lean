/-
  The orders of these functions' regions do not matter.
-/
import Derived.Test.YtfdcbnhndpkngaaGreatDoorRnTab
set_option linter.unusedSimpArgs false
set_option linter.unusedVariables false
namespace Go.Proofs.YtfdcbnhndpkngaaGreatDoor
open Go.Rv
def okl0 : List Nat := [5, 20, 29, 45, 49, 53, 57, 61, 73, 77, 81, 85, 89, 93, 97, 101, 105, 109, 113, 117, 122, 126, 130, 134, 138, 143, 147, 151, 155, 159, 163, 167, 171, 175, 179, 184, 188, 192, 205, 209, 213, 217, 225, 229, 233, 237, 241, 245, 250, 254, 262, 266, 270, 274, 278, 282, 286, 300, 306, 310, 314, 318, 322, 326, 334, 338, 342, 347, 352, 356, 361, 365]
theorem oks0 : okl0.all (fnOk Tryz.prog (told0.bare Tryz.prog)) = true := by kernel_rfl
end Go.Proofs.YtfdcbnhndpkngaaGreatDoor
