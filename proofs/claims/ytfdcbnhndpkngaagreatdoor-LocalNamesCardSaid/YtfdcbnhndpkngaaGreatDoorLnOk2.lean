/-
  The orders of these functions' regions do not matter.
-/
import Derived.Test.YtfdcbnhndpkngaaGreatDoorLnTab
set_option linter.unusedSimpArgs false
set_option linter.unusedVariables false
namespace Go.Proofs.YtfdcbnhndpkngaaGreatDoor
open Go.Rv
def okl2 : List Nat := [8, 12, 27, 31, 35, 53, 57, 61, 92, 96, 100, 104, 108, 112, 116, 122, 145, 149, 153, 157, 161, 165, 169, 173, 177, 181, 186, 190, 204, 208, 212, 226, 230, 234, 238, 242, 246, 251, 255, 266, 270, 274, 278, 282, 286, 300, 306, 310, 314, 318, 322, 326, 334, 338, 342, 347, 352, 356, 361, 365]
theorem oks2 : okl2.all (fnOk Tryz.prog (told0.bare Tryz.prog)) = true := by kernel_rfl
end Go.Proofs.YtfdcbnhndpkngaaGreatDoor
