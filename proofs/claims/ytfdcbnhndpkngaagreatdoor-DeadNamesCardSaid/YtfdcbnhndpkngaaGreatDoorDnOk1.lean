/-
  The orders of these functions' regions do not matter.
-/
import Derived.Test.YtfdcbnhndpkngaaGreatDoorDnTab
set_option linter.unusedSimpArgs false
set_option linter.unusedVariables false
namespace Go.Proofs.YtfdcbnhndpkngaaGreatDoor
open Go.Rv
def okl1 : List Nat := [14, 25, 36, 40, 45, 52, 56, 60, 65, 69, 73, 83, 91, 95, 99, 103, 107, 111, 115, 119, 123, 127, 131, 140, 146, 150, 154, 158, 162, 166, 170, 174, 178, 182, 187, 191, 196, 200, 204, 208, 212, 216, 225, 229, 233, 237, 241, 245, 250, 254, 259, 263, 268, 272, 276, 280, 284, 288, 303, 307, 311, 315, 319, 323, 327, 335, 339, 343, 348, 353, 357, 362, 366]
theorem oks1 : okl1.all (fnOk Tryz.prog (told0.bare Tryz.prog)) = true := by kernel_rfl
end Go.Proofs.YtfdcbnhndpkngaaGreatDoor
