/-
  The orders of these functions' regions do not matter.
-/
import Derived.Test.YtpnafmeehjfnaaaGreatDoorPtK
set_option linter.unusedSectionVars false
set_option linter.unusedSimpArgs false
set_option linter.unusedVariables false
set_option linter.defProp false
namespace Go.Proofs.YtpnafmeehjfnaaaGreatDoor
open Go.Rv
def okl1 : List Nat := [4, 9, 11, 13, 15, 17, 19, 24, 26, 28, 30, 32, 34, 36, 38, 41, 43, 45, 47, 49, 51, 54, 57, 59, 61, 64, 66, 68, 70, 72, 74, 79, 82, 84, 86, 88, 90, 92, 94, 96, 98, 100, 103, 105, 107, 109, 111, 114, 116, 118, 120, 131, 133, 135, 137, 139, 141, 143, 149, 151, 154, 156, 158, 161]
theorem oks1 : okl1.all (fnOk Tryz.prog (told0.bare Tryz.prog)) = true := by kernel_rfl
end Go.Proofs.YtpnafmeehjfnaaaGreatDoor
