/-
  What tells answers at a text: reckoned by the quick twin.
-/
import Derived.Test.YtiigpcapieeljaaGreatDoorTnTab
set_option linter.unusedSimpArgs false
set_option linter.unusedVariables false
namespace Go.Proofs.YtiigpcapieeljaaGreatDoor
open Go.Rv
theorem tells88_run : runB (toldD.cfg Tryz.prog) (laySQ stepsD wholesD) (layFn Tryz.prog okl wholesD) (layQ wholesD) 100000 (.clo 7 []) (tellRows.getD 88 default).1 .nil 0 (kEq (.bool true)) = .ok true := by kernel_rfl
theorem tells89_run : runB (toldD.cfg Tryz.prog) (laySQ stepsD wholesD) (layFn Tryz.prog okl wholesD) (layQ wholesD) 100000 (.clo 7 []) (tellRows.getD 89 default).1 .nil 0 (kEq (.bool true)) = .ok true := by kernel_rfl
theorem tells90_run : runB (toldD.cfg Tryz.prog) (laySQ stepsD wholesD) (layFn Tryz.prog okl wholesD) (layQ wholesD) 100000 (.clo 7 []) (tellRows.getD 90 default).1 .nil 0 (kEq (.bool true)) = .ok true := by kernel_rfl
end Go.Proofs.YtiigpcapieeljaaGreatDoor
