/-
  What parse.Parse answers at a text: reckoned by the quick twin.
-/
import Derived.Test.YtfdcbnhndpkngaaGreatDoorRnTab
set_option linter.unusedSimpArgs false
set_option linter.unusedVariables false
namespace Go.Proofs.YtfdcbnhndpkngaaGreatDoor
open Go.Rv
theorem parse0_run : runB (toldC.cfg Tryz.prog) (laySQ stepsB wholesC) (layFn Tryz.prog okl wholesC) (layQ wholesC) 100000 (.clo 25 []) [.str text0] .nil 0 (kFr tree0) = .ok true := by kernel_rfl
theorem parse1_run : runB (toldC.cfg Tryz.prog) (laySQ stepsB wholesC) (layFn Tryz.prog okl wholesC) (layQ wholesC) 100000 (.clo 25 []) [.str text1] .nil 0 (kFr tree1) = .ok true := by kernel_rfl
theorem parse2_run : runB (toldC.cfg Tryz.prog) (laySQ stepsB wholesC) (layFn Tryz.prog okl wholesC) (layQ wholesC) 100000 (.clo 25 []) [.str text2] .nil 0 (kFr tree2) = .ok true := by kernel_rfl
theorem parse3_run : runB (toldC.cfg Tryz.prog) (laySQ stepsB wholesC) (layFn Tryz.prog okl wholesC) (layQ wholesC) 100000 (.clo 25 []) [.str text3] .nil 0 (kFr tree3) = .ok true := by kernel_rfl
theorem parse4_run : runB (toldC.cfg Tryz.prog) (laySQ stepsB wholesC) (layFn Tryz.prog okl wholesC) (layQ wholesC) 100000 (.clo 25 []) [.str text4] .nil 0 (kFr tree4) = .ok true := by kernel_rfl
theorem parse5_run : runB (toldC.cfg Tryz.prog) (laySQ stepsB wholesC) (layFn Tryz.prog okl wholesC) (layQ wholesC) 100000 (.clo 25 []) [.str text5] .nil 0 (kFr tree5) = .ok true := by kernel_rfl
theorem parse6_run : runB (toldC.cfg Tryz.prog) (laySQ stepsB wholesC) (layFn Tryz.prog okl wholesC) (layQ wholesC) 100000 (.clo 25 []) [.str text6] .nil 0 (kFr tree6) = .ok true := by kernel_rfl
end Go.Proofs.YtfdcbnhndpkngaaGreatDoor
