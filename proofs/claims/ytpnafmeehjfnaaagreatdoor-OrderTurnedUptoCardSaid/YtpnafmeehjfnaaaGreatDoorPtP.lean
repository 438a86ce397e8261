/-
  The orders of all functions that the runs come to do not matter.
-/
import Derived.Test.YtpnafmeehjfnaaaGreatDoorPtN
import Derived.Test.YtpnafmeehjfnaaaGreatDoorPtO
set_option linter.unusedSectionVars false
set_option linter.unusedSimpArgs false
set_option linter.unusedVariables false
set_option linter.defProp false
namespace Go.Proofs.YtpnafmeehjfnaaaGreatDoor
open Go.Rv
theorem oks : okl.all (fnOk Tryz.prog (told0.bare Tryz.prog)) = true := by
  rw [List.all_eq_true]
  intro f hf
  have h : okl.all (fun f => hasN okl0 f || hasN okl1 f) = true := by decide +kernel
  have h := List.all_eq_true.1 h f hf
  simp only [Bool.or_eq_true] at h
  rcases h with h | h
  · obtain ⟨x, hx, hb⟩ := List.any_eq_true.1 h
    obtain rfl := Nat.eq_of_beq_eq_true hb
    exact List.all_eq_true.1 oks0 _ hx
  · obtain ⟨x, hx, hb⟩ := List.any_eq_true.1 h
    obtain rfl := Nat.eq_of_beq_eq_true hb
    exact List.all_eq_true.1 oks1 _ hx
end Go.Proofs.YtpnafmeehjfnaaaGreatDoor
