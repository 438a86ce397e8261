/-
  'HeldNames' answers true: the tied card. Condition: the listed package-level variables read as laid.
-/
import Derived.Test.YtpnafmeehjfnaaaGreatDoorTie
import Derived.Test.YtpnafmeehjfnaaaGreatDoorCards
import Derived.Test.YtpnafmeehjfnaaaGreatDoorHdOk
import Derived.Test.YtpnafmeehjfnaaaGreatDoorHdRun3
import Derived.Test.YtpnafmeehjfnaaaGreatDoorHdWake14
import Derived.ProofKit
import Derived.LaidMore
import Derived.Lay
import Derived.SevenTiedAt
import Derived.Stop.Joined
set_option linter.unusedSimpArgs false
set_option linter.unusedVariables false
namespace Go.Proofs.YtpnafmeehjfnaaaGreatDoor
open Go.Proofs Go.ChangeShapes Go.WideShapes Go.ChangeAt Go.RowKit Go.Rv
theorem wake14_runs : ∃ h', Go.Rv.call (told0.cfg Tryz.prog) 14 [] [] = some (.ret (.bool true), h') :=
  runs_box plainly0 (steps_twin (T := told0) (T0 := told0) (S := steps) steps_twins rfl oks rfl rfl rfl rfl) wake14_run
theorem heldNames_twins : ∀ f q p, heldNamesSteps f = some (q, p) → TwinP q p := fun f q p h => by
  unfold heldNamesSteps at h
  split at h
  · injection h with h; injection h with h1 h2; subst h1 h2; exact const_twin _
  · exact steps_twins _ _ _ h
theorem heldNames_prims : PrimOk Tryz.prog (heldNamesTold.cfg Tryz.prog) := prims_of (S := heldNamesSteps) rfl (fun _ => rfl) fun f q p h => by
  unfold heldNamesSteps at h
  split at h
  · injection h with h; injection h with h1 h2; subst h1 h2
    obtain ⟨h0, hrun⟩ := wake14_runs
    exact ⟨⟨_, _, Tryz.func14, rfl, by kernel_rfl⟩, fun args h res h' hc s w vs R G H => const_ok (T := told0) (C2 := heldNamesTold.cfg Tryz.prog) prims0 mixed0 glb_close glb_ne rfl hrun rfl hc R G H⟩
  · exact steps_ok _ _ _ h
theorem heldNames_plainly : Plainly (heldNamesTold.cfg Tryz.prog) := ⟨fun _ => rfl, fun _ => rfl, fun _ _ => rfl⟩
theorem heldNames_runs : ∃ h', Go.Rv.call (heldNamesTold.cfg Tryz.prog) 3 [] [] = some (.ret (.bool true), h') :=
  runs_box heldNames_plainly (steps_twin (T := heldNamesTold) (T0 := told0) (S := heldNamesSteps) heldNames_twins rfl oks rfl rfl rfl rfl) heldNames_run

set_option maxRecDepth 100000 in
theorem heldNames_lifted (os : Os) (started : os.Started) (H : Type) (enc : TypeId × Value → H) :
    ReturnsInHanded {} Tryz.checked os 3 .any (fun w args => (Rows.heldNamesSpec.pre enc Tryz.prog Tryz.f3 [] false w args ∧ laidMetH Tryz.prog lawLaid w) ∧ sizedMet enc Tryz.prog Tryz.f3 (OpenSpec.ofChange Rows.heldNamesSpec) false w args)
      (Rows.heldNamesSpec.post enc Tryz.prog Tryz.f3 false true false false) := by
  refine returnsInHanded_of_change_and (C := Tryz.checked) (X := fun w _ => laidMetH Tryz.prog lawLaid w) (fun _ _ _ hh h => h.of_heap hh) ownKnob0 started (by kernel_rfl) Tryz.func3
    (ChangeSpec.witness_shaped (enc := enc) (C := Tryz.checked) (os := os) (X := fun w _ => laidMetH Tryz.prog lawLaid w) false (World.laidAll Tryz.prog os lawLaid) #[] 8 (World.laidAll_os _ _ _)
      (World.shaped_of_ZipB (by kernel_rfl) (by kernel_rfl)) (by kernel_rfl) (by kernel_rfl) (by kernel_rfl)
      (by rw [MakeChecks.laidMetH_plain _ _ _ (by kernel_rfl)]; exact laidMet_laidAll _ (by kernel_rfl) (by kernel_rfl))) ?_
  intro W base args ds gs before hval0 hW hc _ hL _
  have hW' := hW
  obtain ⟨p, q, hA0, hV, rfl, _, _⟩ := hW
  have hA : DataW.TrodAll enc Tryz.prog W 0 (fun _ => true) true [] args.toList ds p := hA0
  obtain ⟨hargs, rfl, rfl⟩ := law_no_args hA
  obtain rfl : args = #[] := by cases args with | mk l => cases hargs; rfl
  obtain ⟨rfl, rfl⟩ := trodVars_none hV
  obtain ⟨h', hrun⟩ := heldNames_runs
  have run := entry_glob (T := heldNamesTold) (P := Tryz.prog) heldNames_prims mixed0 hrun glb_close (glb_laid hL) (vs := []) ⟨rfl, fun i c hi => by simp at hi⟩
  refine run.mono fun e W' ⟨hB, u, s', he, hv⟩ => ?_
  cases hv
  subst he
  exact ⟨_, rfl, post_of_kept (pa := []) (pv := []) hW' (fun _ _ _ => trodAll_mk1 (shut_bool Tryz.underlying4 _)) (fun _ _ => rfl) (fun _ _ => rfl) rfl (same_of_below hB) (ok_one (by kernel_rfl) rfl (okWide_bool_mk Tryz.underlying4 _))⟩

theorem heldNames_holds0 : Rows.HeldNamesSaid :=
  OpenClaim.holds_of_wide 3 Tryz.f3 rfl rfl rfl rfl rfl rfl rfl ⟨rfl, rfl, rfl, rfl, rfl⟩ rfl rfl rfl rfl rfl (by kernel_rfl) Tryz.func3 (by kernel_rfl)
    (of_decide_eq_true (by kernel_rfl)) (by unfold Func.isWrapper; first | (rw [if_pos (by decide +kernel)]; kernel_rfl) | (rw [if_neg (by decide +kernel)]; exact ⟨rfl, rfl⟩))
    (fun os started H enc _ => heldNames_lifted os started H enc)

theorem heldNames_holds : Rows.HeldNamesCardSaid :=
  Claim7.holds_tied_plain_at .later [] [.data, .widerDeep, .data, .pinned] true (true, "e85f112cbd1f4ebc7727156908f1ffc8f5b4f7fad03b3358955cc05ce357305f") true
    heldNames_holds0 (fun _ h => by cases h) (by kernel_rfl) (fun _ h => by cases h) heldNames_row_tie rfl ⟨rfl, rfl⟩ (by kernel_rfl) rfl
    (fun f fn hf hfn => by
      obtain rfl : f = 3 := Option.some.inj ((show Tryz.prog.funcNamed Tryz.f3.name = some 3 by kernel_rfl).symm.trans hf) |>.symm
      obtain rfl : fn = Tryz.f3 := (Option.some.inj (Tryz.func3.symm.trans hfn)).symm
      exact ⟨by kernel_rfl, fun j t ht => by
        have h0 : Tryz.f3.params = #[] := by kernel_rfl
        rw [h0] at ht
        simp at ht⟩)
    (by kernel_rfl)
end Go.Proofs.YtpnafmeehjfnaaaGreatDoor
