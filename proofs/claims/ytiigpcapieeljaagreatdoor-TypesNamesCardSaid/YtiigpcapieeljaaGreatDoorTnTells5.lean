/-
  What tells answers at a text: reckoned by the quick twin.
-/
import Derived.Test.YtiigpcapieeljaaGreatDoorTnTab
set_option linter.unusedSimpArgs false
set_option linter.unusedVariables false
namespace Go.Proofs.YtiigpcapieeljaaGreatDoor
open Go.Rv
theorem tells40_run : runB (toldD.cfg Tryz.prog) (laySQ stepsD wholesD) (layFn Tryz.prog okl wholesD) (layQ wholesD) 100000 (.clo 7 []) (tellRows.getD 40 default).1 .nil 0 (kEq (.bool true)) = .ok true := by kernel_rfl
theorem tells41_run : runB (toldD.cfg Tryz.prog) (laySQ stepsD wholesD) (layFn Tryz.prog okl wholesD) (layQ wholesD) 100000 (.clo 7 []) (tellRows.getD 41 default).1 .nil 0 (kEq (.bool true)) = .ok true := by kernel_rfl
theorem tells42_run : runB (toldD.cfg Tryz.prog) (laySQ stepsD wholesD) (layFn Tryz.prog okl wholesD) (layQ wholesD) 100000 (.clo 7 []) (tellRows.getD 42 default).1 .nil 0 (kEq (.bool true)) = .ok true := by kernel_rfl
theorem tells43_run : runB (toldD.cfg Tryz.prog) (laySQ stepsD wholesD) (layFn Tryz.prog okl wholesD) (layQ wholesD) 100000 (.clo 7 []) (tellRows.getD 43 default).1 .nil 0 (kEq (.bool true)) = .ok true := by kernel_rfl
theorem tells44_run : runB (toldD.cfg Tryz.prog) (laySQ stepsD wholesD) (layFn Tryz.prog okl wholesD) (layQ wholesD) 100000 (.clo 7 []) (tellRows.getD 44 default).1 .nil 0 (kEq (.bool true)) = .ok true := by kernel_rfl
theorem tells45_run : runB (toldD.cfg Tryz.prog) (laySQ stepsD wholesD) (layFn Tryz.prog okl wholesD) (layQ wholesD) 100000 (.clo 7 []) (tellRows.getD 45 default).1 .nil 0 (kEq (.bool true)) = .ok true := by kernel_rfl
theorem tells46_run : runB (toldD.cfg Tryz.prog) (laySQ stepsD wholesD) (layFn Tryz.prog okl wholesD) (layQ wholesD) 100000 (.clo 7 []) (tellRows.getD 46 default).1 .nil 0 (kEq (.bool true)) = .ok true := by kernel_rfl
theorem tells47_run : runB (toldD.cfg Tryz.prog) (laySQ stepsD wholesD) (layFn Tryz.prog okl wholesD) (layQ wholesD) 100000 (.clo 7 []) (tellRows.getD 47 default).1 .nil 0 (kEq (.bool true)) = .ok true := by kernel_rfl
end Go.Proofs.YtiigpcapieeljaaGreatDoor
