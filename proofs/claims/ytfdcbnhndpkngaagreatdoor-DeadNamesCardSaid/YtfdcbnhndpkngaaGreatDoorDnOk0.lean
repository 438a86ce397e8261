/-
  The orders of these functions' regions do not matter.
-/
import Derived.Test.YtfdcbnhndpkngaaGreatDoorDnTab
set_option linter.unusedSimpArgs false
set_option linter.unusedVariables false
namespace Go.Proofs.YtfdcbnhndpkngaaGreatDoor
open Go.Rv
def okl0 : List Nat := [4, 19, 29, 39, 43, 51, 55, 59, 64, 68, 72, 82, 90, 94, 98, 102, 106, 110, 114, 118, 122, 126, 130, 138, 145, 149, 153, 157, 161, 165, 169, 173, 177, 181, 186, 190, 195, 199, 203, 207, 211, 215, 223, 228, 232, 236, 240, 244, 249, 253, 258, 262, 267, 271, 275, 279, 283, 287, 302, 306, 310, 314, 318, 322, 326, 334, 338, 342, 347, 352, 356, 361, 365]
theorem oks0 : okl0.all (fnOk Tryz.prog (told0.bare Tryz.prog)) = true := by kernel_rfl
end Go.Proofs.YtfdcbnhndpkngaaGreatDoor
