/-
  What parse.Parse answers at a text: reckoned by the quick twin.
-/
import Derived.Test.YtfdcbnhndpkngaaGreatDoorRnTab
set_option linter.unusedSimpArgs false
set_option linter.unusedVariables false
namespace Go.Proofs.YtfdcbnhndpkngaaGreatDoor
open Go.Rv
theorem parse14_run : runB (toldC.cfg Tryz.prog) (laySQ stepsB wholesC) (layFn Tryz.prog okl wholesC) (layQ wholesC) 100000 (.clo 25 []) [.str text14] .nil 0 (kFr tree14) = .ok true := by kernel_rfl
theorem parse15_run : runB (toldC.cfg Tryz.prog) (laySQ stepsB wholesC) (layFn Tryz.prog okl wholesC) (layQ wholesC) 100000 (.clo 25 []) [.str text15] .nil 0 (kFr tree15) = .ok true := by kernel_rfl
theorem parse16_run : runB (toldC.cfg Tryz.prog) (laySQ stepsB wholesC) (layFn Tryz.prog okl wholesC) (layQ wholesC) 100000 (.clo 25 []) [.str text16] .nil 0 (kFr tree16) = .ok true := by kernel_rfl
theorem parse17_run : runB (toldC.cfg Tryz.prog) (laySQ stepsB wholesC) (layFn Tryz.prog okl wholesC) (layQ wholesC) 100000 (.clo 25 []) [.str text17] .nil 0 (kFr tree17) = .ok true := by kernel_rfl
theorem parse18_run : runB (toldC.cfg Tryz.prog) (laySQ stepsB wholesC) (layFn Tryz.prog okl wholesC) (layQ wholesC) 100000 (.clo 25 []) [.str text18] .nil 0 (kFr tree18) = .ok true := by kernel_rfl
end Go.Proofs.YtfdcbnhndpkngaaGreatDoor
