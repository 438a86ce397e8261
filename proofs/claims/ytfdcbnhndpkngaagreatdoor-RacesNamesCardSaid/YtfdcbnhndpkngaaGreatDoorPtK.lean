/-
  The orders of all functions that the runs come to do not matter.
-/
import Derived.Test.YtfdcbnhndpkngaaGreatDoorRnOk0
import Derived.Test.YtfdcbnhndpkngaaGreatDoorRnOk1
import Derived.Test.YtfdcbnhndpkngaaGreatDoorRnOk2
import Derived.Test.YtfdcbnhndpkngaaGreatDoorRnOk3
import Derived.Test.YtfdcbnhndpkngaaGreatDoorPtL
import Derived.Test.YtfdcbnhndpkngaaGreatDoorRnParse0
import Derived.Test.YtfdcbnhndpkngaaGreatDoorRnParse1
import Derived.Test.YtfdcbnhndpkngaaGreatDoorRnParse2
import Derived.Test.YtfdcbnhndpkngaaGreatDoorRnTells0
import Derived.Test.YtfdcbnhndpkngaaGreatDoorRnTells1
import Derived.Test.YtfdcbnhndpkngaaGreatDoorRnTells2
import Derived.Test.YtfdcbnhndpkngaaGreatDoorRnTells3
import Derived.Test.YtfdcbnhndpkngaaGreatDoorRnTells4
import Derived.Test.YtfdcbnhndpkngaaGreatDoorRnTells5
import Derived.Test.YtfdcbnhndpkngaaGreatDoorRnTells6
set_option linter.unusedSectionVars false
set_option linter.unusedSimpArgs false
set_option linter.unusedVariables false
set_option linter.defProp false
set_option linter.unusedSimpArgs false
set_option linter.unusedVariables false
namespace Go.Proofs.YtfdcbnhndpkngaaGreatDoor
open Go.Rv
theorem oks : okl.all (fnOk Tryz.prog (told0.bare Tryz.prog)) = true := by
  rw [List.all_eq_true]
  intro f hf
  have h : okl.all (fun f => hasN okl0 f || hasN okl1 f || hasN okl2 f || hasN okl3 f) = true := by decide +kernel
  have h := List.all_eq_true.1 h f hf
  simp only [Bool.or_eq_true] at h
  rcases h with ((h | h) | h) | h
  · obtain ⟨x, hx, hb⟩ := List.any_eq_true.1 h
    obtain rfl := Nat.eq_of_beq_eq_true hb
    exact List.all_eq_true.1 oks0 _ hx
  · obtain ⟨x, hx, hb⟩ := List.any_eq_true.1 h
    obtain rfl := Nat.eq_of_beq_eq_true hb
    exact List.all_eq_true.1 oks1 _ hx
  · obtain ⟨x, hx, hb⟩ := List.any_eq_true.1 h
    obtain rfl := Nat.eq_of_beq_eq_true hb
    exact List.all_eq_true.1 oks2 _ hx
  · obtain ⟨x, hx, hb⟩ := List.any_eq_true.1 h
    obtain rfl := Nat.eq_of_beq_eq_true hb
    exact List.all_eq_true.1 oks3 _ hx
end Go.Proofs.YtfdcbnhndpkngaaGreatDoor

/-
  The layers of the run of 'RacesNames': what each takes at one step is what the code does.
-/
set_option linter.unusedSimpArgs false
set_option linter.unusedVariables false
namespace Go.Proofs.YtfdcbnhndpkngaaGreatDoor
open Go.Rv
theorem twinA : TwinOk (told0.cfg Tryz.prog) stepsA.q (fnsL Tryz.prog okl) (fun _ => none) := steps_twin (T := told0) (T0 := told0) (S := stepsA) stepsA_twins rfl oks rfl rfl rfl rfl
theorem name_rows : ∀ r ∈ nameRows, AV.plains r.1 = true ∧ r.2.plain = true ∧ ∃ h0, Go.Rv.call (told0.cfg Tryz.prog) 167 r.1 [] = some (.ret r.2, h0) := fun r hr => by
  unfold nameRows at hr
  simp only [List.mem_cons, List.not_mem_nil, or_false] at hr
  rcases hr with rfl | rfl | rfl | rfl | rfl | rfl | rfl | rfl | rfl | rfl | rfl
  · exact ⟨rfl, rfl, runs_boxA plainly0 twinA name0_run⟩
  · exact ⟨rfl, rfl, runs_boxA plainly0 twinA name1_run⟩
  · exact ⟨rfl, rfl, runs_boxA plainly0 twinA name2_run⟩
  · exact ⟨rfl, rfl, runs_boxA plainly0 twinA name3_run⟩
  · exact ⟨rfl, rfl, runs_boxA plainly0 twinA name4_run⟩
  · exact ⟨rfl, rfl, runs_boxA plainly0 twinA name5_run⟩
  · exact ⟨rfl, rfl, runs_boxA plainly0 twinA name6_run⟩
  · exact ⟨rfl, rfl, runs_boxA plainly0 twinA name7_run⟩
  · exact ⟨rfl, rfl, runs_boxA plainly0 twinA name8_run⟩
  · exact ⟨rfl, rfl, runs_boxA plainly0 twinA name9_run⟩
  · exact ⟨rfl, rfl, runs_boxA plainly0 twinA name10_run⟩
theorem stepsB_twins : ∀ f q p, stepsB f = some (q, p) → TwinP q p := fun f q p h => by
  unfold stepsB at h
  split at h
  · injection h with h; injection h with h1 h2; subst h1 h2; exact tab_twin _
  · exact stepsA_twins _ _ _ h
theorem stepsB_ok {C : Cfg} (hG : C.glob = glb) : ∀ f q p, stepsB f = some (q, p) → Known Tryz.prog f ∧ ∀ args h res h', p args h = some (res, h') → ∀ s w vs, Rel s h w → Glob C s h w → VRs s h w args vs → CallOk Tryz.prog f vs s h w res h' := fun f q p h => by
  unfold stepsB at h
  split at h
  · injection h with h; injection h with h1 h2; subst h1 h2
    exact ⟨⟨_, _, Tryz.func167, rfl, by kernel_rfl⟩, fun args h res h' hc s w vs R G H => tab_ok (T := told0) (C2 := C) prims0 mixed0 glb_close glb_ne name_rows hG hc R G H⟩
  · exact stepsA_ok _ _ _ h
theorem primsB : PrimOk Tryz.prog (toldB.cfg Tryz.prog) := prims_of (S := stepsB) rfl (fun _ => rfl) (stepsB_ok rfl)
theorem whole_ok {C : Cfg} (hG : C.glob = glb) {f d : Nat} (hk : Known Tryz.prog f) : Known Tryz.prog f ∧ ∀ args h res h', (dfrW Tryz.prog toldB stepsB okl f d).1 args h = some (res, h') → ∀ s w vs, Rel s h w → Glob C s h w → VRs s h w args vs → CallOk Tryz.prog f vs s h w res h' :=
  ⟨hk, fun args h res h' hc s w vs R G H => callD_ok (T := toldB) (C := C) glb_ne glb_close primsB mixed0 (fun g v hv => by rw [hG]; exact hv) hc R G H⟩
theorem whole_twin {f d : Nat} : WholeT (dfrW Tryz.prog toldB stepsB okl f d) := dfrW_twin (T0 := told0) plainlyB stepsB_twins rfl oks rfl rfl rfl rfl
theorem knownParse : Known Tryz.prog 25 := ⟨_, _, Tryz.func25, rfl, by kernel_rfl⟩
theorem knownCheck : Known Tryz.prog 50 := ⟨_, _, Tryz.func50, rfl, by kernel_rfl⟩
theorem wholesC_twins : ∀ f x, wholesC f = some x → WholeT x := fun f x h => by
  unfold wholesC at h
  split at h <;> first | (cases h; done) | skip
  · injection h with h; subst h; exact whole_twin
  · injection h with h; subst h; exact whole_twin
theorem wholesC_ok {C : Cfg} (hG : C.glob = glb) : ∀ f x, wholesC f = some x → Known Tryz.prog f ∧ ∀ args h res h', x.1 args h = some (res, h') → ∀ s w vs, Rel s h w → Glob C s h w → VRs s h w args vs → CallOk Tryz.prog f vs s h w res h' := fun f x h => by
  unfold wholesC at h
  split at h <;> first | (cases h; done) | skip
  · injection h with h; subst h; exact whole_ok hG knownParse
  · injection h with h; subst h; exact whole_ok hG knownCheck
theorem twinC : TwinOk (toldC.cfg Tryz.prog) (laySQ stepsB wholesC) (layFn Tryz.prog okl wholesC) (layQ wholesC) := lay_twin (T := toldC) (T0 := told0) stepsB_twins wholesC_twins rfl oks rfl rfl rfl rfl
theorem primsC : PrimOk Tryz.prog (toldC.cfg Tryz.prog) := lay_prims (S := stepsB) (W := wholesC) rfl (fun _ => rfl) (stepsB_ok rfl) (wholesC_ok rfl)
theorem parse_rows : ∀ r ∈ parseRows, AV.plains r.1 = true ∧ r.2.still = true ∧ ∃ v0 h0, Go.Rv.call (toldC.cfg Tryz.prog) 25 r.1 [] = some (.ret v0, h0) ∧ freezeV h0 0 40 v0 = some r.2 := fun r hr => by
  unfold parseRows at hr
  simp only [List.mem_cons, List.not_mem_nil, or_false] at hr
  rcases hr with rfl | rfl | rfl | rfl | rfl | rfl | rfl | rfl | rfl | rfl | rfl | rfl | rfl | rfl | rfl | rfl | rfl | rfl | rfl
  · exact ⟨rfl, (show tree0.still = true by kernel_rfl), runs_boxF plainlyC twinC parse0_run⟩
  · exact ⟨rfl, (show tree1.still = true by kernel_rfl), runs_boxF plainlyC twinC parse1_run⟩
  · exact ⟨rfl, (show tree2.still = true by kernel_rfl), runs_boxF plainlyC twinC parse2_run⟩
  · exact ⟨rfl, (show tree3.still = true by kernel_rfl), runs_boxF plainlyC twinC parse3_run⟩
  · exact ⟨rfl, (show tree4.still = true by kernel_rfl), runs_boxF plainlyC twinC parse4_run⟩
  · exact ⟨rfl, (show tree5.still = true by kernel_rfl), runs_boxF plainlyC twinC parse5_run⟩
  · exact ⟨rfl, (show tree6.still = true by kernel_rfl), runs_boxF plainlyC twinC parse6_run⟩
  · exact ⟨rfl, (show tree7.still = true by kernel_rfl), runs_boxF plainlyC twinC parse7_run⟩
  · exact ⟨rfl, (show tree8.still = true by kernel_rfl), runs_boxF plainlyC twinC parse8_run⟩
  · exact ⟨rfl, (show tree9.still = true by kernel_rfl), runs_boxF plainlyC twinC parse9_run⟩
  · exact ⟨rfl, (show tree10.still = true by kernel_rfl), runs_boxF plainlyC twinC parse10_run⟩
  · exact ⟨rfl, (show tree11.still = true by kernel_rfl), runs_boxF plainlyC twinC parse11_run⟩
  · exact ⟨rfl, (show tree12.still = true by kernel_rfl), runs_boxF plainlyC twinC parse12_run⟩
  · exact ⟨rfl, (show tree13.still = true by kernel_rfl), runs_boxF plainlyC twinC parse13_run⟩
  · exact ⟨rfl, (show tree14.still = true by kernel_rfl), runs_boxF plainlyC twinC parse14_run⟩
  · exact ⟨rfl, (show tree15.still = true by kernel_rfl), runs_boxF plainlyC twinC parse15_run⟩
  · exact ⟨rfl, (show tree16.still = true by kernel_rfl), runs_boxF plainlyC twinC parse16_run⟩
  · exact ⟨rfl, (show tree17.still = true by kernel_rfl), runs_boxF plainlyC twinC parse17_run⟩
  · exact ⟨rfl, (show tree18.still = true by kernel_rfl), runs_boxF plainlyC twinC parse18_run⟩
theorem stepsD_twins : ∀ f q p, stepsD f = some (q, p) → TwinP q p := fun f q p h => by
  unfold stepsD at h
  split at h
  · injection h with h; injection h with h1 h2; subst h1 h2; exact tab_twin _
  · exact stepsB_twins _ _ _ h
theorem stepsD_ok {C : Cfg} (hG : C.glob = glb) : ∀ f q p, stepsD f = some (q, p) → Known Tryz.prog f ∧ ∀ args h res h', p args h = some (res, h') → ∀ s w vs, Rel s h w → Glob C s h w → VRs s h w args vs → CallOk Tryz.prog f vs s h w res h' := fun f q p h => by
  unfold stepsD at h
  split at h
  · injection h with h; injection h with h1 h2; subst h1 h2
    exact ⟨knownParse, fun args h res h' hc s w vs R G H => tabS_ok (T := toldC) (C2 := C) primsC mixed0 glb_close glb_ne glb_still parse_rows hG hc R G H⟩
  · exact stepsB_ok hG _ _ _ h
theorem wholesD_twins : ∀ f x, wholesD f = some x → WholeT x := fun f x h => by
  unfold wholesD at h
  split at h <;> first | (cases h; done) | skip
  · injection h with h; subst h; exact whole_twin
theorem wholesD_ok {C : Cfg} (hG : C.glob = glb) : ∀ f x, wholesD f = some x → Known Tryz.prog f ∧ ∀ args h res h', x.1 args h = some (res, h') → ∀ s w vs, Rel s h w → Glob C s h w → VRs s h w args vs → CallOk Tryz.prog f vs s h w res h' := fun f x h => by
  unfold wholesD at h
  split at h <;> first | (cases h; done) | skip
  · injection h with h; subst h; exact whole_ok hG knownCheck
theorem twinD : TwinOk (toldD.cfg Tryz.prog) (laySQ stepsD wholesD) (layFn Tryz.prog okl wholesD) (layQ wholesD) := lay_twin (T := toldD) (T0 := told0) stepsD_twins wholesD_twins rfl oks rfl rfl rfl rfl
theorem primsD : PrimOk Tryz.prog (toldD.cfg Tryz.prog) := lay_prims (S := stepsD) (W := wholesD) rfl (fun _ => rfl) (stepsD_ok rfl) (wholesD_ok rfl)
theorem tell_rows : ∀ r ∈ tellRows, r.2.plain = true ∧ ∃ h0, Go.Rv.call (toldD.cfg Tryz.prog) 20 r.1 [] = some (.ret r.2, h0) := fun r hr => by
  unfold tellRows at hr
  simp only [List.mem_cons, List.not_mem_nil, or_false] at hr
  rcases hr with rfl | rfl | rfl | rfl | rfl | rfl | rfl | rfl | rfl | rfl | rfl | rfl | rfl | rfl | rfl | rfl | rfl | rfl | rfl
  · exact ⟨rfl, runs_boxA plainlyD twinD tells0_run⟩
  · exact ⟨rfl, runs_boxA plainlyD twinD tells1_run⟩
  · exact ⟨rfl, runs_boxA plainlyD twinD tells2_run⟩
  · exact ⟨rfl, runs_boxA plainlyD twinD tells3_run⟩
  · exact ⟨rfl, runs_boxA plainlyD twinD tells4_run⟩
  · exact ⟨rfl, runs_boxA plainlyD twinD tells5_run⟩
  · exact ⟨rfl, runs_boxA plainlyD twinD tells6_run⟩
  · exact ⟨rfl, runs_boxA plainlyD twinD tells7_run⟩
  · exact ⟨rfl, runs_boxA plainlyD twinD tells8_run⟩
  · exact ⟨rfl, runs_boxA plainlyD twinD tells9_run⟩
  · exact ⟨rfl, runs_boxA plainlyD twinD tells10_run⟩
  · exact ⟨rfl, runs_boxA plainlyD twinD tells11_run⟩
  · exact ⟨rfl, runs_boxA plainlyD twinD tells12_run⟩
  · exact ⟨rfl, runs_boxA plainlyD twinD tells13_run⟩
  · exact ⟨rfl, runs_boxA plainlyD twinD tells14_run⟩
  · exact ⟨rfl, runs_boxA plainlyD twinD tells15_run⟩
  · exact ⟨rfl, runs_boxA plainlyD twinD tells16_run⟩
  · exact ⟨rfl, runs_boxA plainlyD twinD tells17_run⟩
  · exact ⟨rfl, runs_boxA plainlyD twinD tells18_run⟩
theorem stepsE_twins : ∀ f q p, stepsE f = some (q, p) → TwinP q p := fun f q p h => by
  unfold stepsE at h
  split at h
  · injection h with h; injection h with h1 h2; subst h1 h2; exact tabR_twin _
  · exact stepsB_twins _ _ _ h
theorem stepsE_ok {C : Cfg} (hG : C.glob = glb) : ∀ f q p, stepsE f = some (q, p) → Known Tryz.prog f ∧ ∀ args h res h', p args h = some (res, h') → ∀ s w vs, Rel s h w → Glob C s h w → VRs s h w args vs → CallOk Tryz.prog f vs s h w res h' := fun f q p h => by
  unfold stepsE at h
  split at h
  · injection h with h; injection h with h1 h2; subst h1 h2
    exact ⟨⟨_, _, Tryz.func20, rfl, by kernel_rfl⟩, fun args h res h' hc s w vs R G H => tabR_ok (T := toldD) (C2 := C) primsD mixed0 glb_close glb_ne tell_rows hG hc R G H⟩
  · exact stepsB_ok hG _ _ _ h
theorem twinE : TwinOk (toldE.cfg Tryz.prog) (laySQ stepsE wholesD) (layFn Tryz.prog okl wholesD) (layQ wholesD) := lay_twin (T := toldE) (T0 := told0) stepsE_twins wholesD_twins rfl oks rfl rfl rfl rfl
theorem primsE : PrimOk Tryz.prog (toldE.cfg Tryz.prog) := lay_prims (S := stepsE) (W := wholesD) rfl (fun _ => rfl) (stepsE_ok rfl) (wholesD_ok rfl)
theorem racesNames_runs : ∃ h', Go.Rv.call (toldE.cfg Tryz.prog) 5 [] [] = some (.ret (.bool true), h') := runs_box plainlyE twinE racesNames_run
end Go.Proofs.YtfdcbnhndpkngaaGreatDoor
