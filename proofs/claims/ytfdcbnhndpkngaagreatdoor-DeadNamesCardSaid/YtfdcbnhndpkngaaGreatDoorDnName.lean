/-
  What tree.Name answers at the names that the runs meet: reckoned by the quick twin.
-/
import Derived.Test.YtfdcbnhndpkngaaGreatDoorDnTab
set_option linter.unusedSimpArgs false
set_option linter.unusedVariables false
namespace Go.Proofs.YtfdcbnhndpkngaaGreatDoor
open Go.Rv
theorem name0_run : runB (told0.cfg Tryz.prog) stepsA.q (fnsL Tryz.prog okl) (fun _ => none) 100000 (.clo 167 []) [.str [97]] .nil 0 (kEq (.bool true)) = .ok true := by kernel_rfl
theorem name1_run : runB (told0.cfg Tryz.prog) stepsA.q (fnsL Tryz.prog okl) (fun _ => none) 100000 (.clo 167 []) [.str [98]] .nil 0 (kEq (.bool true)) = .ok true := by kernel_rfl
theorem name2_run : runB (told0.cfg Tryz.prog) stepsA.q (fnsL Tryz.prog okl) (fun _ => none) 100000 (.clo 167 []) [.str [99]] .nil 0 (kEq (.bool true)) = .ok true := by kernel_rfl
theorem name3_run : runB (told0.cfg Tryz.prog) stepsA.q (fnsL Tryz.prog okl) (fun _ => none) 100000 (.clo 167 []) [.str [108]] .nil 0 (kEq (.bool true)) = .ok true := by kernel_rfl
theorem name4_run : runB (told0.cfg Tryz.prog) stepsA.q (fnsL Tryz.prog okl) (fun _ => none) 100000 (.clo 167 []) [.str [109]] .nil 0 (kEq (.bool true)) = .ok true := by kernel_rfl
theorem name5_run : runB (told0.cfg Tryz.prog) stepsA.q (fnsL Tryz.prog okl) (fun _ => none) 100000 (.clo 167 []) [.str [116]] .nil 0 (kEq (.bool true)) = .ok true := by kernel_rfl
theorem name6_run : runB (told0.cfg Tryz.prog) stepsA.q (fnsL Tryz.prog okl) (fun _ => none) 100000 (.clo 167 []) [.str [117]] .nil 0 (kEq (.bool true)) = .ok true := by kernel_rfl
theorem name7_run : runB (told0.cfg Tryz.prog) stepsA.q (fnsL Tryz.prog okl) (fun _ => none) 100000 (.clo 167 []) [.str [118]] .nil 0 (kEq (.bool true)) = .ok true := by kernel_rfl
theorem name8_run : runB (told0.cfg Tryz.prog) stepsA.q (fnsL Tryz.prog okl) (fun _ => none) 100000 (.clo 167 []) [.str [102]] .nil 0 (kEq (.bool true)) = .ok true := by kernel_rfl
theorem name9_run : runB (told0.cfg Tryz.prog) stepsA.q (fnsL Tryz.prog okl) (fun _ => none) 100000 (.clo 167 []) [.str []] .nil 0 (kEq (.bool false)) = .ok true := by kernel_rfl
end Go.Proofs.YtfdcbnhndpkngaaGreatDoor
