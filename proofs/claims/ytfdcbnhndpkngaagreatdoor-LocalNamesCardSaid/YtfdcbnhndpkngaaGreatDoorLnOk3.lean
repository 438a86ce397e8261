/-
  The orders of these functions' regions do not matter.
-/
import Derived.Test.YtfdcbnhndpkngaaGreatDoorLnTab
set_option linter.unusedSimpArgs false
set_option linter.unusedVariables false
namespace Go.Proofs.YtfdcbnhndpkngaaGreatDoor
open Go.Rv
def okl3 : List Nat := [9, 13, 28, 32, 50, 54, 58, 70, 93, 97, 101, 105, 109, 113, 117, 123, 146, 150, 154, 158, 162, 166, 170, 174, 178, 182, 187, 191, 205, 209, 214, 227, 231, 235, 239, 243, 248, 252, 261, 267, 271, 275, 279, 283, 287, 303, 307, 311, 315, 319, 323, 327, 335, 339, 343, 348, 353, 357, 362, 366]
theorem oks3 : okl3.all (fnOk Tryz.prog (told0.bare Tryz.prog)) = true := by kernel_rfl
end Go.Proofs.YtfdcbnhndpkngaaGreatDoor
