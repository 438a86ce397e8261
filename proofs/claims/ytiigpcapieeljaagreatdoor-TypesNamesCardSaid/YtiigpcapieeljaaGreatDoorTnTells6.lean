/-
  What tells answers at a text: reckoned by the quick twin.
-/
import Derived.Test.YtiigpcapieeljaaGreatDoorTnTab
set_option linter.unusedSimpArgs false
set_option linter.unusedVariables false
namespace Go.Proofs.YtiigpcapieeljaaGreatDoor
open Go.Rv
theorem tells48_run : runB (toldD.cfg Tryz.prog) (laySQ stepsD wholesD) (layFn Tryz.prog okl wholesD) (layQ wholesD) 100000 (.clo 7 []) (tellRows.getD 48 default).1 .nil 0 (kEq (.bool true)) = .ok true := by kernel_rfl
theorem tells49_run : runB (toldD.cfg Tryz.prog) (laySQ stepsD wholesD) (layFn Tryz.prog okl wholesD) (layQ wholesD) 100000 (.clo 7 []) (tellRows.getD 49 default).1 .nil 0 (kEq (.bool true)) = .ok true := by kernel_rfl
theorem tells50_run : runB (toldD.cfg Tryz.prog) (laySQ stepsD wholesD) (layFn Tryz.prog okl wholesD) (layQ wholesD) 100000 (.clo 7 []) (tellRows.getD 50 default).1 .nil 0 (kEq (.bool true)) = .ok true := by kernel_rfl
theorem tells51_run : runB (toldD.cfg Tryz.prog) (laySQ stepsD wholesD) (layFn Tryz.prog okl wholesD) (layQ wholesD) 100000 (.clo 7 []) (tellRows.getD 51 default).1 .nil 0 (kEq (.bool true)) = .ok true := by kernel_rfl
theorem tells52_run : runB (toldD.cfg Tryz.prog) (laySQ stepsD wholesD) (layFn Tryz.prog okl wholesD) (layQ wholesD) 100000 (.clo 7 []) (tellRows.getD 52 default).1 .nil 0 (kEq (.bool true)) = .ok true := by kernel_rfl
theorem tells53_run : runB (toldD.cfg Tryz.prog) (laySQ stepsD wholesD) (layFn Tryz.prog okl wholesD) (layQ wholesD) 100000 (.clo 7 []) (tellRows.getD 53 default).1 .nil 0 (kEq (.bool true)) = .ok true := by kernel_rfl
theorem tells54_run : runB (toldD.cfg Tryz.prog) (laySQ stepsD wholesD) (layFn Tryz.prog okl wholesD) (layQ wholesD) 100000 (.clo 7 []) (tellRows.getD 54 default).1 .nil 0 (kEq (.bool true)) = .ok true := by kernel_rfl
theorem tells55_run : runB (toldD.cfg Tryz.prog) (laySQ stepsD wholesD) (layFn Tryz.prog okl wholesD) (layQ wholesD) 100000 (.clo 7 []) (tellRows.getD 55 default).1 .nil 0 (kEq (.bool true)) = .ok true := by kernel_rfl
end Go.Proofs.YtiigpcapieeljaaGreatDoor
