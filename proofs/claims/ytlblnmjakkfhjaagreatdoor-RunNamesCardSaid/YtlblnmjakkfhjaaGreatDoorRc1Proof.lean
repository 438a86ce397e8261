/-
  'bobbin/bobbinlaw10.RunNames' answers true: the tied card. Condition: the listed package-level variables read as laid.
-/
import Derived.Test.YtlblnmjakkfhjaaGreatDoorTie
import Derived.Test.YtlblnmjakkfhjaaGreatDoorCards
import Derived.Test.YtlblnmjakkfhjaaGreatDoorRc1Tab
import Derived.Test.YtlblnmjakkfhjaaGreatDoorRc1Run
import Derived.ProofKit
import Derived.LaidMore
import Derived.Lay
import Derived.SevenTiedAt
import Derived.Stop.Joined
set_option linter.unusedSimpArgs false
set_option linter.unusedVariables false
namespace Go.Proofs.YtlblnmjakkfhjaaGreatDoor
open Go.Proofs Go.ChangeShapes Go.WideShapes Go.ChangeAt Go.RowKit Go.Rv

set_option maxRecDepth 100000 in
theorem runNames_lifted (os : Os) (started : os.Started) (H : Type) (enc : TypeId × Value → H) :
    ReturnsInHanded {} Tryz.checked os 4 .any (fun w args => (Rows.runNamesSpec.pre enc Tryz.prog Tryz.f4 [] false w args ∧ laidMetH Tryz.prog namesLaid w) ∧ sizedMet enc Tryz.prog Tryz.f4 (OpenSpec.ofChange Rows.runNamesSpec) false w args)
      (Rows.runNamesSpec.post enc Tryz.prog Tryz.f4 false true false false) := by
  refine returnsInHanded_of_change_and (C := Tryz.checked) (X := fun w _ => laidMetH Tryz.prog namesLaid w) (fun _ _ _ hh h => h.of_heap hh) namesOwn started (by kernel_rfl) Tryz.func4
    (ChangeSpec.witness_shaped (enc := enc) (C := Tryz.checked) (os := os) (X := fun w _ => laidMetH Tryz.prog namesLaid w) false (World.laidAll Tryz.prog os namesLaid) #[] 8 (World.laidAll_os _ _ _)
      (World.shaped_of_ZipB (by kernel_rfl) (by kernel_rfl)) (by kernel_rfl) (by kernel_rfl) (by kernel_rfl)
      (by rw [MakeChecks.laidMetH_plain _ _ _ (by kernel_rfl)]; exact laidMet_laidAll _ (by kernel_rfl) (by kernel_rfl))) ?_
  intro W base args ds gs before hval0 hW hc _ hL _
  have hW' := hW
  obtain ⟨p, q, hA0, hV, rfl, _, _⟩ := hW
  have hA : DataW.TrodAll enc Tryz.prog W 0 (fun _ => true) true [] args.toList ds p := hA0
  obtain ⟨hargs, rfl, rfl⟩ := names_no_args hA
  obtain rfl : args = #[] := by cases args with | mk l => cases hargs; rfl
  obtain ⟨rfl, rfl⟩ := trodVars_none hV
  obtain ⟨h', hrun⟩ := runNames_runs
  have run := entry_glob (T := namesTold) (P := Tryz.prog) names_prim (by kernel_rfl) hrun names_close (names_glob hL) (vs := []) ⟨rfl, fun i c hi => by simp at hi⟩
  refine run.mono fun e W' ⟨hB, u, s', he, hv⟩ => ?_
  cases hv
  subst he
  exact ⟨_, rfl, post_of_kept (pa := []) (pv := []) hW' (fun _ _ _ => trodAll_mk1 (shut_bool Tryz.underlying4 _)) (fun _ _ => rfl) (fun _ _ => rfl) rfl (same_of_below hB) (ok_one (by kernel_rfl) rfl (okWide_bool_mk Tryz.underlying4 _))⟩

theorem runNames_holds0 : Rows.RunNamesSaid :=
  OpenClaim.holds_of_wide 4 Tryz.f4 rfl rfl rfl rfl rfl rfl rfl ⟨rfl, rfl, rfl, rfl, rfl⟩ rfl rfl rfl rfl rfl (by kernel_rfl) Tryz.func4 (by kernel_rfl)
    (of_decide_eq_true (by kernel_rfl)) (by unfold Func.isWrapper; first | (rw [if_pos (by decide +kernel)]; kernel_rfl) | (rw [if_neg (by decide +kernel)]; exact ⟨rfl, rfl⟩))
    (fun os started H enc _ => runNames_lifted os started H enc)

theorem runNames_holds : Rows.RunNamesCardSaid :=
  Claim7.holds_tied_plain_at .later [] [.data, .widerDeep, .data, .pinned] true (true, "d19e02b70b4db5c176e213f0828e0e0101b6e5a195a94299623506c09c6fc590") true
    runNames_holds0 (fun _ h => by cases h) (by kernel_rfl) (fun _ h => by cases h) runNames_row_tie rfl ⟨rfl, rfl⟩ (by kernel_rfl) rfl
    (fun f fn hf hfn => by
      obtain rfl : f = 4 := Option.some.inj ((show Tryz.prog.funcNamed Tryz.f4.name = some 4 by kernel_rfl).symm.trans hf) |>.symm
      obtain rfl : fn = Tryz.f4 := (Option.some.inj (Tryz.func4.symm.trans hfn)).symm
      exact ⟨by kernel_rfl, fun j t ht => by
        have h0 : Tryz.f4.params = #[] := by kernel_rfl
        rw [h0] at ht
        simp at ht⟩)
    (by kernel_rfl)
end Go.Proofs.YtlblnmjakkfhjaaGreatDoor

