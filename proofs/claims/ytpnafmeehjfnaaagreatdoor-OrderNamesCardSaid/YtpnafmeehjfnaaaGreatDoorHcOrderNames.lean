/-
  'OrderNames' answers true: the tied card. Condition: the listed package-level variables read as laid.
-/
import Derived.Test.YtpnafmeehjfnaaaGreatDoorTie
import Derived.Test.YtpnafmeehjfnaaaGreatDoorCards
import Derived.Test.YtpnafmeehjfnaaaGreatDoorHcOk
import Derived.Test.YtpnafmeehjfnaaaGreatDoorHcRun4
import Derived.Test.YtpnafmeehjfnaaaGreatDoorHcWake19
import Derived.ProofKit
import Derived.LaidMore
import Derived.Lay
import Derived.SevenTiedAt
import Derived.Stop.Joined
set_option linter.unusedSimpArgs false
set_option linter.unusedVariables false
namespace Go.Proofs.YtpnafmeehjfnaaaGreatDoor
open Go.Proofs Go.ChangeShapes Go.WideShapes Go.ChangeAt Go.RowKit Go.Rv
theorem wake19_runs : ∃ h', Go.Rv.call (told0.cfg Tryz.prog) 19 [] [] = some (.ret (.bool true), h') :=
  runs_fast plainly0 (steps_twin (T := told0) (T0 := told0) (S := steps) steps_twins rfl oks rfl rfl rfl rfl) wake19_run
theorem orderNames_twins : ∀ f q p, orderNamesSteps f = some (q, p) → TwinP q p := fun f q p h => by
  unfold orderNamesSteps at h
  split at h
  · injection h with h; injection h with h1 h2; subst h1 h2; exact const_twin _
  · exact steps_twins _ _ _ h
theorem orderNames_prims : PrimOk Tryz.prog (orderNamesTold.cfg Tryz.prog) := prims_of (S := orderNamesSteps) rfl (fun _ => rfl) fun f q p h => by
  unfold orderNamesSteps at h
  split at h
  · injection h with h; injection h with h1 h2; subst h1 h2
    obtain ⟨h0, hrun⟩ := wake19_runs
    exact ⟨⟨_, _, Tryz.func19, rfl, by kernel_rfl⟩, fun args h res h' hc s w vs R G H => const_ok (T := told0) (C2 := orderNamesTold.cfg Tryz.prog) prims0 mixed0 glb_close glb_ne rfl hrun rfl hc R G H⟩
  · exact steps_ok _ _ _ h
theorem orderNames_plainly : Plainly (orderNamesTold.cfg Tryz.prog) := ⟨fun _ => rfl, fun _ => rfl, fun _ _ => rfl⟩
theorem orderNames_runs : ∃ h', Go.Rv.call (orderNamesTold.cfg Tryz.prog) 4 [] [] = some (.ret (.bool true), h') :=
  runs_fast orderNames_plainly (steps_twin (T := orderNamesTold) (T0 := told0) (S := orderNamesSteps) orderNames_twins rfl oks rfl rfl rfl rfl) orderNames_run

set_option maxRecDepth 100000 in
theorem orderNames_lifted (os : Os) (started : os.Started) (H : Type) (enc : TypeId × Value → H) :
    ReturnsInHanded {} Tryz.checked os 4 .any (fun w args => (Rows.orderNamesSpec.pre enc Tryz.prog Tryz.f4 [] false w args ∧ laidMetH Tryz.prog lawLaid w) ∧ sizedMet enc Tryz.prog Tryz.f4 (OpenSpec.ofChange Rows.orderNamesSpec) false w args)
      (Rows.orderNamesSpec.post enc Tryz.prog Tryz.f4 false true false false) := by
  refine returnsInHanded_of_change_and (C := Tryz.checked) (X := fun w _ => laidMetH Tryz.prog lawLaid w) (fun _ _ _ hh h => h.of_heap hh) ownKnob0 started (by kernel_rfl) Tryz.func4
    (ChangeSpec.witness_shaped (enc := enc) (C := Tryz.checked) (os := os) (X := fun w _ => laidMetH Tryz.prog lawLaid w) false (World.laidAll Tryz.prog os lawLaid) #[] 8 (World.laidAll_os _ _ _)
      (World.shaped_of_ZipB (by kernel_rfl) (by kernel_rfl)) (by kernel_rfl) (by kernel_rfl) (by kernel_rfl)
      (by rw [MakeChecks.laidMetH_plain _ _ _ (by kernel_rfl)]; exact laidMet_laidAll _ (by kernel_rfl) (by kernel_rfl))) ?_
  intro W base args ds gs before hval0 hW hc _ hL _
  have hW' := hW
  obtain ⟨p, q, hA0, hV, rfl, _, _⟩ := hW
  have hA : DataW.TrodAll enc Tryz.prog W 0 (fun _ => true) true [] args.toList ds p := hA0
  obtain ⟨hargs, rfl, rfl⟩ := law_no_args hA
  obtain rfl : args = #[] := by cases args with | mk l => cases hargs; rfl
  obtain ⟨rfl, rfl⟩ := trodVars_none hV
  obtain ⟨h', hrun⟩ := orderNames_runs
  have run := entry_glob (T := orderNamesTold) (P := Tryz.prog) orderNames_prims mixed0 hrun glb_close (glb_laid hL) (vs := []) ⟨rfl, fun i c hi => by simp at hi⟩
  refine run.mono fun e W' ⟨hB, u, s', he, hv⟩ => ?_
  cases hv
  subst he
  exact ⟨_, rfl, post_of_kept (pa := []) (pv := []) hW' (fun _ _ _ => trodAll_mk1 (shut_bool Tryz.underlying4 _)) (fun _ _ => rfl) (fun _ _ => rfl) rfl (same_of_below hB) (ok_one (by kernel_rfl) rfl (okWide_bool_mk Tryz.underlying4 _))⟩

theorem orderNames_holds0 : Rows.OrderNamesSaid :=
  OpenClaim.holds_of_wide 4 Tryz.f4 rfl rfl rfl rfl rfl rfl rfl ⟨rfl, rfl, rfl, rfl, rfl⟩ rfl rfl rfl rfl rfl (by kernel_rfl) Tryz.func4 (by kernel_rfl)
    (of_decide_eq_true (by kernel_rfl)) (by unfold Func.isWrapper; first | (rw [if_pos (by decide +kernel)]; kernel_rfl) | (rw [if_neg (by decide +kernel)]; exact ⟨rfl, rfl⟩))
    (fun os started H enc _ => orderNames_lifted os started H enc)

theorem orderNames_holds : Rows.OrderNamesCardSaid :=
  Claim7.holds_tied_plain_at .later [] [.data, .widerDeep, .data, .pinned] true (true, "e85f112cbd1f4ebc7727156908f1ffc8f5b4f7fad03b3358955cc05ce357305f") true
    orderNames_holds0 (fun _ h => by cases h) (by kernel_rfl) (fun _ h => by cases h) orderNames_row_tie rfl ⟨rfl, rfl⟩ (by kernel_rfl) rfl
    (fun f fn hf hfn => by
      obtain rfl : f = 4 := Option.some.inj ((show Tryz.prog.funcNamed Tryz.f4.name = some 4 by kernel_rfl).symm.trans hf) |>.symm
      obtain rfl : fn = Tryz.f4 := (Option.some.inj (Tryz.func4.symm.trans hfn)).symm
      exact ⟨by kernel_rfl, fun j t ht => by
        have h0 : Tryz.f4.params = #[] := by kernel_rfl
        rw [h0] at ht
        simp at ht⟩)
    (by kernel_rfl)
end Go.Proofs.YtpnafmeehjfnaaaGreatDoor
