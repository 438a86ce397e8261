/-
  What tree.Name answers at the names that the runs meet: reckoned by the quick twin.
-/
import Derived.Test.YtiigpcapieeljaaGreatDoorTnTab
set_option linter.unusedSectionVars false
set_option linter.unusedSimpArgs false
set_option linter.unusedVariables false
set_option linter.defProp false
set_option linter.unusedSimpArgs false
set_option linter.unusedVariables false
namespace Go.Proofs.YtiigpcapieeljaaGreatDoor
open Go.Rv
theorem name0_run : runB (told0.cfg Tryz.prog) stepsA.q (fnsL Tryz.prog okl) (fun _ => none) 100000 (.clo 150 []) [.str [97]] .nil 0 (kEq (.bool true)) = .ok true := by kernel_rfl
theorem name1_run : runB (told0.cfg Tryz.prog) stepsA.q (fnsL Tryz.prog okl) (fun _ => none) 100000 (.clo 150 []) [.str [98]] .nil 0 (kEq (.bool true)) = .ok true := by kernel_rfl
theorem name2_run : runB (told0.cfg Tryz.prog) stepsA.q (fnsL Tryz.prog okl) (fun _ => none) 100000 (.clo 150 []) [.str [99]] .nil 0 (kEq (.bool true)) = .ok true := by kernel_rfl
theorem name3_run : runB (told0.cfg Tryz.prog) stepsA.q (fnsL Tryz.prog okl) (fun _ => none) 100000 (.clo 150 []) [.str [102]] .nil 0 (kEq (.bool true)) = .ok true := by kernel_rfl
theorem name4_run : runB (told0.cfg Tryz.prog) stepsA.q (fnsL Tryz.prog okl) (fun _ => none) 100000 (.clo 150 []) [.str [103]] .nil 0 (kEq (.bool true)) = .ok true := by kernel_rfl
theorem name5_run : runB (told0.cfg Tryz.prog) stepsA.q (fnsL Tryz.prog okl) (fun _ => none) 100000 (.clo 150 []) [.str [108]] .nil 0 (kEq (.bool true)) = .ok true := by kernel_rfl
theorem name6_run : runB (told0.cfg Tryz.prog) stepsA.q (fnsL Tryz.prog okl) (fun _ => none) 100000 (.clo 150 []) [.str [109]] .nil 0 (kEq (.bool true)) = .ok true := by kernel_rfl
theorem name7_run : runB (told0.cfg Tryz.prog) stepsA.q (fnsL Tryz.prog okl) (fun _ => none) 100000 (.clo 150 []) [.str [113]] .nil 0 (kEq (.bool true)) = .ok true := by kernel_rfl
theorem name8_run : runB (told0.cfg Tryz.prog) stepsA.q (fnsL Tryz.prog okl) (fun _ => none) 100000 (.clo 150 []) [.str [114]] .nil 0 (kEq (.bool true)) = .ok true := by kernel_rfl
theorem name9_run : runB (told0.cfg Tryz.prog) stepsA.q (fnsL Tryz.prog okl) (fun _ => none) 100000 (.clo 150 []) [.str [116]] .nil 0 (kEq (.bool true)) = .ok true := by kernel_rfl
theorem name10_run : runB (told0.cfg Tryz.prog) stepsA.q (fnsL Tryz.prog okl) (fun _ => none) 100000 (.clo 150 []) [.str [117]] .nil 0 (kEq (.bool true)) = .ok true := by kernel_rfl
theorem name11_run : runB (told0.cfg Tryz.prog) stepsA.q (fnsL Tryz.prog okl) (fun _ => none) 100000 (.clo 150 []) [.str [120]] .nil 0 (kEq (.bool true)) = .ok true := by kernel_rfl
theorem name12_run : runB (told0.cfg Tryz.prog) stepsA.q (fnsL Tryz.prog okl) (fun _ => none) 100000 (.clo 150 []) [.str [121]] .nil 0 (kEq (.bool true)) = .ok true := by kernel_rfl
theorem name13_run : runB (told0.cfg Tryz.prog) stepsA.q (fnsL Tryz.prog okl) (fun _ => none) 100000 (.clo 150 []) [.str [122]] .nil 0 (kEq (.bool true)) = .ok true := by kernel_rfl
theorem name14_run : runB (told0.cfg Tryz.prog) stepsA.q (fnsL Tryz.prog okl) (fun _ => none) 100000 (.clo 150 []) [.str []] .nil 0 (kEq (.bool false)) = .ok true := by kernel_rfl
theorem name15_run : runB (told0.cfg Tryz.prog) stepsA.q (fnsL Tryz.prog okl) (fun _ => none) 100000 (.clo 150 []) [.str [116, 97]] .nil 0 (kEq (.bool true)) = .ok true := by kernel_rfl
theorem name16_run : runB (told0.cfg Tryz.prog) stepsA.q (fnsL Tryz.prog okl) (fun _ => none) 100000 (.clo 150 []) [.str [116, 98]] .nil 0 (kEq (.bool true)) = .ok true := by kernel_rfl
theorem name17_run : runB (told0.cfg Tryz.prog) stepsA.q (fnsL Tryz.prog okl) (fun _ => none) 100000 (.clo 150 []) [.str [116, 99]] .nil 0 (kEq (.bool true)) = .ok true := by kernel_rfl
theorem name18_run : runB (told0.cfg Tryz.prog) stepsA.q (fnsL Tryz.prog okl) (fun _ => none) 100000 (.clo 150 []) [.str [116, 100]] .nil 0 (kEq (.bool true)) = .ok true := by kernel_rfl
theorem name19_run : runB (told0.cfg Tryz.prog) stepsA.q (fnsL Tryz.prog okl) (fun _ => none) 100000 (.clo 150 []) [.str [116, 101]] .nil 0 (kEq (.bool true)) = .ok true := by kernel_rfl
theorem name20_run : runB (told0.cfg Tryz.prog) stepsA.q (fnsL Tryz.prog okl) (fun _ => none) 100000 (.clo 150 []) [.str [116, 102]] .nil 0 (kEq (.bool true)) = .ok true := by kernel_rfl
theorem name21_run : runB (told0.cfg Tryz.prog) stepsA.q (fnsL Tryz.prog okl) (fun _ => none) 100000 (.clo 150 []) [.str [116, 103]] .nil 0 (kEq (.bool true)) = .ok true := by kernel_rfl
theorem name22_run : runB (told0.cfg Tryz.prog) stepsA.q (fnsL Tryz.prog okl) (fun _ => none) 100000 (.clo 150 []) [.str [116, 104]] .nil 0 (kEq (.bool true)) = .ok true := by kernel_rfl
theorem name23_run : runB (told0.cfg Tryz.prog) stepsA.q (fnsL Tryz.prog okl) (fun _ => none) 100000 (.clo 150 []) [.str [116, 105]] .nil 0 (kEq (.bool true)) = .ok true := by kernel_rfl
theorem name24_run : runB (told0.cfg Tryz.prog) stepsA.q (fnsL Tryz.prog okl) (fun _ => none) 100000 (.clo 150 []) [.str [116, 106]] .nil 0 (kEq (.bool true)) = .ok true := by kernel_rfl
theorem name25_run : runB (told0.cfg Tryz.prog) stepsA.q (fnsL Tryz.prog okl) (fun _ => none) 100000 (.clo 150 []) [.str [116, 107]] .nil 0 (kEq (.bool true)) = .ok true := by kernel_rfl
theorem name26_run : runB (told0.cfg Tryz.prog) stepsA.q (fnsL Tryz.prog okl) (fun _ => none) 100000 (.clo 150 []) [.str [116, 108]] .nil 0 (kEq (.bool true)) = .ok true := by kernel_rfl
theorem name27_run : runB (told0.cfg Tryz.prog) stepsA.q (fnsL Tryz.prog okl) (fun _ => none) 100000 (.clo 150 []) [.str [116, 109]] .nil 0 (kEq (.bool true)) = .ok true := by kernel_rfl
theorem name28_run : runB (told0.cfg Tryz.prog) stepsA.q (fnsL Tryz.prog okl) (fun _ => none) 100000 (.clo 150 []) [.str [116, 110]] .nil 0 (kEq (.bool true)) = .ok true := by kernel_rfl
theorem name29_run : runB (told0.cfg Tryz.prog) stepsA.q (fnsL Tryz.prog okl) (fun _ => none) 100000 (.clo 150 []) [.str [116, 111]] .nil 0 (kEq (.bool true)) = .ok true := by kernel_rfl
theorem name30_run : runB (told0.cfg Tryz.prog) stepsA.q (fnsL Tryz.prog okl) (fun _ => none) 100000 (.clo 150 []) [.str [116, 112]] .nil 0 (kEq (.bool true)) = .ok true := by kernel_rfl
theorem name31_run : runB (told0.cfg Tryz.prog) stepsA.q (fnsL Tryz.prog okl) (fun _ => none) 100000 (.clo 150 []) [.str [116, 113]] .nil 0 (kEq (.bool true)) = .ok true := by kernel_rfl
end Go.Proofs.YtiigpcapieeljaaGreatDoor

/-
  The call answers true: reckoned by the quick twin.
-/
set_option linter.unusedSimpArgs false
set_option linter.unusedVariables false
namespace Go.Proofs.YtiigpcapieeljaaGreatDoor
open Go.Rv
theorem typesNames_run : runB (toldE.cfg Tryz.prog) (laySQ stepsE wholesD) (layFn Tryz.prog okl wholesD) (layQ wholesD) 100000 (.clo 3 []) [] .nil 0 kTrue = .ok true := by kernel_rfl
end Go.Proofs.YtiigpcapieeljaaGreatDoor
