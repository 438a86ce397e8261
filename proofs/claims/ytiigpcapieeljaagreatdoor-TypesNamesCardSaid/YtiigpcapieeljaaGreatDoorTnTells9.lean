/-
  What tells answers at a text: reckoned by the quick twin.
-/
import Derived.Test.YtiigpcapieeljaaGreatDoorTnTab
set_option linter.unusedSimpArgs false
set_option linter.unusedVariables false
namespace Go.Proofs.YtiigpcapieeljaaGreatDoor
open Go.Rv
theorem tells72_run : runB (toldD.cfg Tryz.prog) (laySQ stepsD wholesD) (layFn Tryz.prog okl wholesD) (layQ wholesD) 100000 (.clo 7 []) (tellRows.getD 72 default).1 .nil 0 (kEq (.bool true)) = .ok true := by kernel_rfl
theorem tells73_run : runB (toldD.cfg Tryz.prog) (laySQ stepsD wholesD) (layFn Tryz.prog okl wholesD) (layQ wholesD) 100000 (.clo 7 []) (tellRows.getD 73 default).1 .nil 0 (kEq (.bool true)) = .ok true := by kernel_rfl
theorem tells74_run : runB (toldD.cfg Tryz.prog) (laySQ stepsD wholesD) (layFn Tryz.prog okl wholesD) (layQ wholesD) 100000 (.clo 7 []) (tellRows.getD 74 default).1 .nil 0 (kEq (.bool true)) = .ok true := by kernel_rfl
theorem tells75_run : runB (toldD.cfg Tryz.prog) (laySQ stepsD wholesD) (layFn Tryz.prog okl wholesD) (layQ wholesD) 100000 (.clo 7 []) (tellRows.getD 75 default).1 .nil 0 (kEq (.bool true)) = .ok true := by kernel_rfl
theorem tells76_run : runB (toldD.cfg Tryz.prog) (laySQ stepsD wholesD) (layFn Tryz.prog okl wholesD) (layQ wholesD) 100000 (.clo 7 []) (tellRows.getD 76 default).1 .nil 0 (kEq (.bool true)) = .ok true := by kernel_rfl
theorem tells77_run : runB (toldD.cfg Tryz.prog) (laySQ stepsD wholesD) (layFn Tryz.prog okl wholesD) (layQ wholesD) 100000 (.clo 7 []) (tellRows.getD 77 default).1 .nil 0 (kEq (.bool true)) = .ok true := by kernel_rfl
theorem tells78_run : runB (toldD.cfg Tryz.prog) (laySQ stepsD wholesD) (layFn Tryz.prog okl wholesD) (layQ wholesD) 100000 (.clo 7 []) (tellRows.getD 78 default).1 .nil 0 (kEq (.bool true)) = .ok true := by kernel_rfl
theorem tells79_run : runB (toldD.cfg Tryz.prog) (laySQ stepsD wholesD) (layFn Tryz.prog okl wholesD) (layQ wholesD) 100000 (.clo 7 []) (tellRows.getD 79 default).1 .nil 0 (kEq (.bool true)) = .ok true := by kernel_rfl
end Go.Proofs.YtiigpcapieeljaaGreatDoor
