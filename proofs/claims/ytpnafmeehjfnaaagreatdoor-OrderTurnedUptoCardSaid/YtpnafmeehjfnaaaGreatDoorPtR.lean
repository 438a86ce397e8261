/-
  The call of f19 without arguments answers true: reckoned by the quick twin.
-/
import Derived.Test.YtpnafmeehjfnaaaGreatDoorPtK
set_option linter.unusedSectionVars false
set_option linter.unusedSimpArgs false
set_option linter.unusedVariables false
set_option linter.defProp false
namespace Go.Proofs.YtpnafmeehjfnaaaGreatDoor
open Go.Rv
theorem wake19_run : runB cfg0 steps.q (fnsL Tryz.prog okl) (fun _ => none) 200 (.clo 19 []) [] .nil 0 kTrue = .ok true := by kernel_rfl
end Go.Proofs.YtpnafmeehjfnaaaGreatDoor
