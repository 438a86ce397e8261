/-
  The orders of these functions' regions do not matter.
-/
import Derived.Test.YtfdcbnhndpkngaaGreatDoorLnTab
set_option linter.unusedSimpArgs false
set_option linter.unusedVariables false
namespace Go.Proofs.YtfdcbnhndpkngaaGreatDoor
open Go.Rv
def okl1 : List Nat := [7, 11, 26, 30, 34, 52, 56, 60, 74, 95, 99, 103, 107, 111, 115, 119, 133, 148, 152, 156, 160, 164, 168, 172, 176, 180, 185, 189, 193, 207, 211, 225, 229, 233, 237, 241, 245, 250, 254, 263, 269, 273, 277, 281, 285, 299, 305, 309, 313, 317, 321, 325, 333, 337, 341, 346, 350, 355, 359, 364]
theorem oks1 : okl1.all (fnOk Tryz.prog (told0.bare Tryz.prog)) = true := by kernel_rfl
end Go.Proofs.YtfdcbnhndpkngaaGreatDoor
