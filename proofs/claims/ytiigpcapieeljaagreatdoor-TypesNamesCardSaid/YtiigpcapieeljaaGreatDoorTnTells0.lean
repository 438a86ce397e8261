/-
  What tells answers at a text: reckoned by the quick twin.
-/
import Derived.Test.YtiigpcapieeljaaGreatDoorTnTab
set_option linter.unusedSimpArgs false
set_option linter.unusedVariables false
namespace Go.Proofs.YtiigpcapieeljaaGreatDoor
open Go.Rv
theorem tells0_run : runB (toldD.cfg Tryz.prog) (laySQ stepsD wholesD) (layFn Tryz.prog okl wholesD) (layQ wholesD) 100000 (.clo 7 []) (tellRows.getD 0 default).1 .nil 0 (kEq (.bool true)) = .ok true := by kernel_rfl
theorem tells1_run : runB (toldD.cfg Tryz.prog) (laySQ stepsD wholesD) (layFn Tryz.prog okl wholesD) (layQ wholesD) 100000 (.clo 7 []) (tellRows.getD 1 default).1 .nil 0 (kEq (.bool true)) = .ok true := by kernel_rfl
theorem tells2_run : runB (toldD.cfg Tryz.prog) (laySQ stepsD wholesD) (layFn Tryz.prog okl wholesD) (layQ wholesD) 100000 (.clo 7 []) (tellRows.getD 2 default).1 .nil 0 (kEq (.bool true)) = .ok true := by kernel_rfl
theorem tells3_run : runB (toldD.cfg Tryz.prog) (laySQ stepsD wholesD) (layFn Tryz.prog okl wholesD) (layQ wholesD) 100000 (.clo 7 []) (tellRows.getD 3 default).1 .nil 0 (kEq (.bool true)) = .ok true := by kernel_rfl
theorem tells4_run : runB (toldD.cfg Tryz.prog) (laySQ stepsD wholesD) (layFn Tryz.prog okl wholesD) (layQ wholesD) 100000 (.clo 7 []) (tellRows.getD 4 default).1 .nil 0 (kEq (.bool true)) = .ok true := by kernel_rfl
theorem tells5_run : runB (toldD.cfg Tryz.prog) (laySQ stepsD wholesD) (layFn Tryz.prog okl wholesD) (layQ wholesD) 100000 (.clo 7 []) (tellRows.getD 5 default).1 .nil 0 (kEq (.bool true)) = .ok true := by kernel_rfl
theorem tells6_run : runB (toldD.cfg Tryz.prog) (laySQ stepsD wholesD) (layFn Tryz.prog okl wholesD) (layQ wholesD) 100000 (.clo 7 []) (tellRows.getD 6 default).1 .nil 0 (kEq (.bool true)) = .ok true := by kernel_rfl
theorem tells7_run : runB (toldD.cfg Tryz.prog) (laySQ stepsD wholesD) (layFn Tryz.prog okl wholesD) (layQ wholesD) 100000 (.clo 7 []) (tellRows.getD 7 default).1 .nil 0 (kEq (.bool true)) = .ok true := by kernel_rfl
end Go.Proofs.YtiigpcapieeljaaGreatDoor
