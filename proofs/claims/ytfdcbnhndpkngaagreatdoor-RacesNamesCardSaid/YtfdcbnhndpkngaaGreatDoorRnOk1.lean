/-
  The orders of these functions' regions do not matter.
-/
import Derived.Test.YtfdcbnhndpkngaaGreatDoorRnTab
set_option linter.unusedSimpArgs false
set_option linter.unusedVariables false
namespace Go.Proofs.YtfdcbnhndpkngaaGreatDoor
open Go.Rv
def okl1 : List Nat := [17, 25, 31, 46, 50, 54, 58, 66, 74, 78, 82, 86, 90, 94, 98, 102, 106, 110, 114, 118, 123, 127, 131, 135, 140, 144, 148, 152, 156, 160, 164, 168, 172, 176, 180, 185, 189, 193, 206, 210, 214, 218, 226, 230, 234, 238, 242, 246, 251, 255, 263, 267, 271, 275, 279, 283, 287, 303, 307, 311, 315, 319, 323, 327, 335, 339, 343, 348, 353, 357, 362, 366]
theorem oks1 : okl1.all (fnOk Tryz.prog (told0.bare Tryz.prog)) = true := by kernel_rfl
end Go.Proofs.YtfdcbnhndpkngaaGreatDoor
