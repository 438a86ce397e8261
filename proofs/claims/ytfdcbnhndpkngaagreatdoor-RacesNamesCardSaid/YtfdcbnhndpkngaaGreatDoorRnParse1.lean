/-
  What parse.Parse answers at a text: reckoned by the quick twin.
-/
import Derived.Test.YtfdcbnhndpkngaaGreatDoorRnTab
set_option linter.unusedSimpArgs false
set_option linter.unusedVariables false
namespace Go.Proofs.YtfdcbnhndpkngaaGreatDoor
open Go.Rv
theorem parse7_run : runB (toldC.cfg Tryz.prog) (laySQ stepsB wholesC) (layFn Tryz.prog okl wholesC) (layQ wholesC) 100000 (.clo 25 []) [.str text7] .nil 0 (kFr tree7) = .ok true := by kernel_rfl
theorem parse8_run : runB (toldC.cfg Tryz.prog) (laySQ stepsB wholesC) (layFn Tryz.prog okl wholesC) (layQ wholesC) 100000 (.clo 25 []) [.str text8] .nil 0 (kFr tree8) = .ok true := by kernel_rfl
theorem parse9_run : runB (toldC.cfg Tryz.prog) (laySQ stepsB wholesC) (layFn Tryz.prog okl wholesC) (layQ wholesC) 100000 (.clo 25 []) [.str text9] .nil 0 (kFr tree9) = .ok true := by kernel_rfl
theorem parse10_run : runB (toldC.cfg Tryz.prog) (laySQ stepsB wholesC) (layFn Tryz.prog okl wholesC) (layQ wholesC) 100000 (.clo 25 []) [.str text10] .nil 0 (kFr tree10) = .ok true := by kernel_rfl
theorem parse11_run : runB (toldC.cfg Tryz.prog) (laySQ stepsB wholesC) (layFn Tryz.prog okl wholesC) (layQ wholesC) 100000 (.clo 25 []) [.str text11] .nil 0 (kFr tree11) = .ok true := by kernel_rfl
theorem parse12_run : runB (toldC.cfg Tryz.prog) (laySQ stepsB wholesC) (layFn Tryz.prog okl wholesC) (layQ wholesC) 100000 (.clo 25 []) [.str text12] .nil 0 (kFr tree12) = .ok true := by kernel_rfl
theorem parse13_run : runB (toldC.cfg Tryz.prog) (laySQ stepsB wholesC) (layFn Tryz.prog okl wholesC) (layQ wholesC) 100000 (.clo 25 []) [.str text13] .nil 0 (kFr tree13) = .ok true := by kernel_rfl
end Go.Proofs.YtfdcbnhndpkngaaGreatDoor
