/-
  The call answers true: reckoned by the quick twin.
-/
import Derived.Test.YtfdcbnhndpkngaaGreatDoorDnTab
set_option linter.unusedSimpArgs false
set_option linter.unusedVariables false
namespace Go.Proofs.YtfdcbnhndpkngaaGreatDoor
open Go.Rv
theorem deadNames_run : runB (toldE.cfg Tryz.prog) (laySQ stepsE wholesD) (layFn Tryz.prog okl wholesD) (layQ wholesD) 100000 (.clo 4 []) [] .nil 0 kTrue = .ok true := by kernel_rfl
end Go.Proofs.YtfdcbnhndpkngaaGreatDoor
