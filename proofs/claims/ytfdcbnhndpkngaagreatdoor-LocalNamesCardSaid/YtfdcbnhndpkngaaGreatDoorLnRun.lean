/-
  The call answers true: reckoned by the quick twin.
-/
import Derived.Test.YtfdcbnhndpkngaaGreatDoorLnTab
set_option linter.unusedSimpArgs false
set_option linter.unusedVariables false
namespace Go.Proofs.YtfdcbnhndpkngaaGreatDoor
open Go.Rv
theorem localNames_run : runB (toldD.cfg Tryz.prog) (laySQ stepsD wholesD) (layFn Tryz.prog okl wholesD) (layQ wholesD) 100000 (.clo 3 []) [] .nil 0 kTrue = .ok true := by kernel_rfl
end Go.Proofs.YtfdcbnhndpkngaaGreatDoor
