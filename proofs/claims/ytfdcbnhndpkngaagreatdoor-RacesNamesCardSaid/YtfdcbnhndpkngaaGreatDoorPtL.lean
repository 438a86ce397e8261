/-
  What tree.Name answers at the names that the runs meet: reckoned by the quick twin.
-/
import Derived.Test.YtfdcbnhndpkngaaGreatDoorRnTab
set_option linter.unusedSectionVars false
set_option linter.unusedSimpArgs false
set_option linter.unusedVariables false
set_option linter.defProp false
set_option linter.unusedSimpArgs false
set_option linter.unusedVariables false
namespace Go.Proofs.YtfdcbnhndpkngaaGreatDoor
open Go.Rv
theorem name0_run : runB (told0.cfg Tryz.prog) stepsA.q (fnsL Tryz.prog okl) (fun _ => none) 100000 (.clo 167 []) [.str [109]] .nil 0 (kEq (.bool true)) = .ok true := by kernel_rfl
theorem name1_run : runB (told0.cfg Tryz.prog) stepsA.q (fnsL Tryz.prog okl) (fun _ => none) 100000 (.clo 167 []) [.str [107]] .nil 0 (kEq (.bool true)) = .ok true := by kernel_rfl
theorem name2_run : runB (told0.cfg Tryz.prog) stepsA.q (fnsL Tryz.prog okl) (fun _ => none) 100000 (.clo 167 []) [.str [108]] .nil 0 (kEq (.bool true)) = .ok true := by kernel_rfl
theorem name3_run : runB (told0.cfg Tryz.prog) stepsA.q (fnsL Tryz.prog okl) (fun _ => none) 100000 (.clo 167 []) [.str [120]] .nil 0 (kEq (.bool true)) = .ok true := by kernel_rfl
theorem name4_run : runB (told0.cfg Tryz.prog) stepsA.q (fnsL Tryz.prog okl) (fun _ => none) 100000 (.clo 167 []) [.str [121]] .nil 0 (kEq (.bool true)) = .ok true := by kernel_rfl
theorem name5_run : runB (told0.cfg Tryz.prog) stepsA.q (fnsL Tryz.prog okl) (fun _ => none) 100000 (.clo 167 []) [.str [116]] .nil 0 (kEq (.bool true)) = .ok true := by kernel_rfl
theorem name6_run : runB (told0.cfg Tryz.prog) stepsA.q (fnsL Tryz.prog okl) (fun _ => none) 100000 (.clo 167 []) [.str [117]] .nil 0 (kEq (.bool true)) = .ok true := by kernel_rfl
theorem name7_run : runB (told0.cfg Tryz.prog) stepsA.q (fnsL Tryz.prog okl) (fun _ => none) 100000 (.clo 167 []) [.str [118]] .nil 0 (kEq (.bool true)) = .ok true := by kernel_rfl
theorem name8_run : runB (told0.cfg Tryz.prog) stepsA.q (fnsL Tryz.prog okl) (fun _ => none) 100000 (.clo 167 []) [.str [102]] .nil 0 (kEq (.bool true)) = .ok true := by kernel_rfl
theorem name9_run : runB (told0.cfg Tryz.prog) stepsA.q (fnsL Tryz.prog okl) (fun _ => none) 100000 (.clo 167 []) [.str [103]] .nil 0 (kEq (.bool true)) = .ok true := by kernel_rfl
theorem name10_run : runB (told0.cfg Tryz.prog) stepsA.q (fnsL Tryz.prog okl) (fun _ => none) 100000 (.clo 167 []) [.str []] .nil 0 (kEq (.bool false)) = .ok true := by kernel_rfl
end Go.Proofs.YtfdcbnhndpkngaaGreatDoor

/-
  The call answers true: reckoned by the quick twin.
-/
set_option linter.unusedSimpArgs false
set_option linter.unusedVariables false
namespace Go.Proofs.YtfdcbnhndpkngaaGreatDoor
open Go.Rv
theorem racesNames_run : runB (toldE.cfg Tryz.prog) (laySQ stepsE wholesD) (layFn Tryz.prog okl wholesD) (layQ wholesD) 100000 (.clo 5 []) [] .nil 0 kTrue = .ok true := by kernel_rfl
end Go.Proofs.YtfdcbnhndpkngaaGreatDoor
