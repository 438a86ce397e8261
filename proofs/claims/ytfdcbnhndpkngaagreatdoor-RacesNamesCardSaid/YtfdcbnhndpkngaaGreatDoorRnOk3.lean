/-
  The orders of these functions' regions do not matter.
-/
import Derived.Test.YtfdcbnhndpkngaaGreatDoorRnTab
set_option linter.unusedSimpArgs false
set_option linter.unusedVariables false
namespace Go.Proofs.YtfdcbnhndpkngaaGreatDoor
open Go.Rv
def okl3 : List Nat := [19, 27, 44, 48, 52, 56, 60, 71, 76, 80, 84, 88, 92, 96, 100, 104, 108, 112, 116, 120, 125, 129, 133, 137, 142, 146, 150, 154, 158, 162, 166, 170, 174, 178, 182, 187, 191, 204, 208, 212, 216, 223, 228, 232, 236, 240, 244, 249, 253, 261, 265, 269, 273, 277, 281, 285, 299, 305, 309, 313, 317, 321, 325, 333, 337, 341, 346, 350, 355, 359, 364]
theorem oks3 : okl3.all (fnOk Tryz.prog (told0.bare Tryz.prog)) = true := by kernel_rfl
end Go.Proofs.YtfdcbnhndpkngaaGreatDoor
