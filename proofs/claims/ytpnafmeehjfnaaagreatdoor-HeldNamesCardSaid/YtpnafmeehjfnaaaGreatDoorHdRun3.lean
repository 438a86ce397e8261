/-
  The call of f3 without arguments answers true: reckoned by the quick twin.
-/
import Derived.Test.YtpnafmeehjfnaaaGreatDoorHdTab
set_option linter.unusedSimpArgs false
set_option linter.unusedVariables false
namespace Go.Proofs.YtpnafmeehjfnaaaGreatDoor
open Go.Rv
/-- The steps, with f14, which was run by itself. -/
noncomputable def heldNamesSteps : Taken := fun f => match f with
  | 14 => some (constF (.bool true), constP (.bool true))
  | f => steps f
noncomputable def heldNamesTold : RvTold := { told0 with prim := heldNamesSteps.p }
theorem heldNames_run : runB (heldNamesTold.cfg Tryz.prog) heldNamesSteps.q (fnsL Tryz.prog okl) 200 (.clo 3 []) [] .nil 0 kTrue = .ok true := by kernel_rfl
end Go.Proofs.YtpnafmeehjfnaaaGreatDoor
