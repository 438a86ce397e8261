/-
  The call of works answers true: reckoned by the quick twin.
-/
import Derived.Test.YtfdcbnhndpkngaaGreatDoorLnTab
set_option linter.unusedSimpArgs false
set_option linter.unusedVariables false
namespace Go.Proofs.YtfdcbnhndpkngaaGreatDoor
open Go.Rv
theorem works_run : runB (toldC.cfg Tryz.prog) (laySQ stepsB wholesC) (layFn Tryz.prog okl wholesC) (layQ wholesC) 100000 (.clo 7 []) [] .nil 0 kTrue = .ok true := by kernel_rfl
end Go.Proofs.YtfdcbnhndpkngaaGreatDoor
