/-
  The orders of these functions' regions do not matter.
-/
import Derived.Test.YtpnafmeehjfnaaaGreatDoorPtK
set_option linter.unusedSectionVars false
set_option linter.unusedSimpArgs false
set_option linter.unusedVariables false
set_option linter.defProp false
namespace Go.Proofs.YtpnafmeehjfnaaaGreatDoor
open Go.Rv
def okl0 : List Nat := [3, 8, 10, 12, 14, 16, 18, 23, 25, 27, 29, 31, 33, 35, 37, 39, 42, 44, 46, 48, 50, 53, 55, 58, 60, 62, 65, 67, 69, 71, 73, 78, 81, 83, 85, 87, 89, 91, 93, 95, 97, 99, 102, 104, 106, 108, 110, 112, 115, 117, 119, 121, 132, 134, 136, 138, 140, 142, 148, 150, 152, 155, 157, 159]
theorem oks0 : okl0.all (fnOk Tryz.prog (told0.bare Tryz.prog)) = true := by kernel_rfl
end Go.Proofs.YtpnafmeehjfnaaaGreatDoor
