/-
  The orders of these functions' regions do not matter.
-/
import Derived.Test.YtfdcbnhndpkngaaGreatDoorDnTab
set_option linter.unusedSimpArgs false
set_option linter.unusedVariables false
namespace Go.Proofs.YtfdcbnhndpkngaaGreatDoor
open Go.Rv
def okl3 : List Nat := [16, 27, 38, 42, 50, 54, 58, 63, 67, 71, 81, 85, 93, 97, 101, 105, 109, 113, 117, 121, 125, 129, 133, 142, 148, 152, 156, 160, 164, 168, 172, 176, 180, 185, 189, 193, 198, 202, 206, 210, 214, 222, 227, 231, 235, 239, 243, 248, 252, 257, 261, 266, 270, 274, 278, 282, 286, 300, 305, 309, 313, 317, 321, 325, 333, 337, 341, 346, 350, 355, 359, 364]
theorem oks3 : okl3.all (fnOk Tryz.prog (told0.bare Tryz.prog)) = true := by kernel_rfl
end Go.Proofs.YtfdcbnhndpkngaaGreatDoor
