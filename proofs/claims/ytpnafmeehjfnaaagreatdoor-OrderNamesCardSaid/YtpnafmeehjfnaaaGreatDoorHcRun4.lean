/-
  The call of f4 without arguments answers true: reckoned by the quick twin.
-/
import Derived.Test.YtpnafmeehjfnaaaGreatDoorHcTab
set_option linter.unusedSimpArgs false
set_option linter.unusedVariables false
namespace Go.Proofs.YtpnafmeehjfnaaaGreatDoor
open Go.Rv
/-- The steps, with f19, which was run by itself. -/
noncomputable def orderNamesSteps : Taken := fun f => match f with
  | 19 => some (constF (.bool true), constP (.bool true))
  | f => steps f
noncomputable def orderNamesTold : RvTold := { told0 with prim := orderNamesSteps.p }
theorem orderNames_run : Go.Rv.runT (orderNamesTold.cfg Tryz.prog) orderNamesSteps.q (fnsL Tryz.prog okl) 200 (.clo 4 []) [] .nil 0 kTrue = .ok true := by kernel_rfl
end Go.Proofs.YtpnafmeehjfnaaaGreatDoor
