/-
  The layers of the run of 'LocalNames': what each takes at one step is what the code does.
-/
import Derived.Test.YtfdcbnhndpkngaaGreatDoorLnOk
import Derived.Test.YtfdcbnhndpkngaaGreatDoorLnName
import Derived.Test.YtfdcbnhndpkngaaGreatDoorLnParse0
import Derived.Test.YtfdcbnhndpkngaaGreatDoorLnWorks
import Derived.Test.YtfdcbnhndpkngaaGreatDoorLnRun
set_option linter.unusedSimpArgs false
set_option linter.unusedVariables false
namespace Go.Proofs.YtfdcbnhndpkngaaGreatDoor
open Go.Rv
theorem twinA : TwinOk (told0.cfg Tryz.prog) stepsA.q (fnsL Tryz.prog okl) (fun _ => none) := steps_twin (T := told0) (T0 := told0) (S := stepsA) stepsA_twins rfl oks rfl rfl rfl rfl
theorem name_rows : ∀ r ∈ nameRows, AV.plains r.1 = true ∧ r.2.plain = true ∧ ∃ h0, Go.Rv.call (told0.cfg Tryz.prog) 167 r.1 [] = some (.ret r.2, h0) := fun r hr => by
  unfold nameRows at hr
  simp only [List.mem_cons, List.not_mem_nil, or_false] at hr
  rcases hr with rfl | rfl | rfl | rfl | rfl | rfl | rfl | rfl | rfl | rfl | rfl
  · exact ⟨rfl, rfl, runs_boxA plainly0 twinA name0_run⟩
  · exact ⟨rfl, rfl, runs_boxA plainly0 twinA name1_run⟩
  · exact ⟨rfl, rfl, runs_boxA plainly0 twinA name2_run⟩
  · exact ⟨rfl, rfl, runs_boxA plainly0 twinA name3_run⟩
  · exact ⟨rfl, rfl, runs_boxA plainly0 twinA name4_run⟩
  · exact ⟨rfl, rfl, runs_boxA plainly0 twinA name5_run⟩
  · exact ⟨rfl, rfl, runs_boxA plainly0 twinA name6_run⟩
  · exact ⟨rfl, rfl, runs_boxA plainly0 twinA name7_run⟩
  · exact ⟨rfl, rfl, runs_boxA plainly0 twinA name8_run⟩
  · exact ⟨rfl, rfl, runs_boxA plainly0 twinA name9_run⟩
  · exact ⟨rfl, rfl, runs_boxA plainly0 twinA name10_run⟩
theorem stepsB_twins : ∀ f q p, stepsB f = some (q, p) → TwinP q p := fun f q p h => by
  unfold stepsB at h
  split at h
  · injection h with h; injection h with h1 h2; subst h1 h2; exact tab_twin _
  · exact stepsA_twins _ _ _ h
theorem stepsB_ok {C : Cfg} (hG : C.glob = glb) : ∀ f q p, stepsB f = some (q, p) → Known Tryz.prog f ∧ ∀ args h res h', p args h = some (res, h') → ∀ s w vs, Rel s h w → Glob C s h w → VRs s h w args vs → CallOk Tryz.prog f vs s h w res h' := fun f q p h => by
  unfold stepsB at h
  split at h
  · injection h with h; injection h with h1 h2; subst h1 h2
    exact ⟨⟨_, _, Tryz.func167, rfl, by kernel_rfl⟩, fun args h res h' hc s w vs R G H => tab_ok (T := told0) (C2 := C) prims0 mixed0 glb_close glb_ne name_rows hG hc R G H⟩
  · exact stepsA_ok _ _ _ h
theorem primsB : PrimOk Tryz.prog (toldB.cfg Tryz.prog) := prims_of (S := stepsB) rfl (fun _ => rfl) (stepsB_ok rfl)
theorem whole_ok {C : Cfg} (hG : C.glob = glb) {f d : Nat} (hk : Known Tryz.prog f) : Known Tryz.prog f ∧ ∀ args h res h', (dfrW Tryz.prog toldB stepsB okl f d).1 args h = some (res, h') → ∀ s w vs, Rel s h w → Glob C s h w → VRs s h w args vs → CallOk Tryz.prog f vs s h w res h' :=
  ⟨hk, fun args h res h' hc s w vs R G H => callD_ok (T := toldB) (C := C) glb_ne glb_close primsB mixed0 (fun g v hv => by rw [hG]; exact hv) hc R G H⟩
theorem whole_twin {f d : Nat} : WholeT (dfrW Tryz.prog toldB stepsB okl f d) := dfrW_twin (T0 := told0) plainlyB stepsB_twins rfl oks rfl rfl rfl rfl
theorem knownParse : Known Tryz.prog 25 := ⟨_, _, Tryz.func25, rfl, by kernel_rfl⟩
theorem knownCheck : Known Tryz.prog 50 := ⟨_, _, Tryz.func50, rfl, by kernel_rfl⟩
theorem wholesC_twins : ∀ f x, wholesC f = some x → WholeT x := fun f x h => by
  unfold wholesC at h
  split at h <;> first | (cases h; done) | skip
  · injection h with h; subst h; exact whole_twin
  · injection h with h; subst h; exact whole_twin
theorem wholesC_ok {C : Cfg} (hG : C.glob = glb) : ∀ f x, wholesC f = some x → Known Tryz.prog f ∧ ∀ args h res h', x.1 args h = some (res, h') → ∀ s w vs, Rel s h w → Glob C s h w → VRs s h w args vs → CallOk Tryz.prog f vs s h w res h' := fun f x h => by
  unfold wholesC at h
  split at h <;> first | (cases h; done) | skip
  · injection h with h; subst h; exact whole_ok hG knownParse
  · injection h with h; subst h; exact whole_ok hG knownCheck
theorem twinC : TwinOk (toldC.cfg Tryz.prog) (laySQ stepsB wholesC) (layFn Tryz.prog okl wholesC) (layQ wholesC) := lay_twin (T := toldC) (T0 := told0) stepsB_twins wholesC_twins rfl oks rfl rfl rfl rfl
theorem primsC : PrimOk Tryz.prog (toldC.cfg Tryz.prog) := lay_prims (S := stepsB) (W := wholesC) rfl (fun _ => rfl) (stepsB_ok rfl) (wholesC_ok rfl)
theorem works_runs : ∃ h', Go.Rv.call (toldC.cfg Tryz.prog) 7 [] [] = some (.ret (.bool true), h') := runs_box plainlyC twinC works_run
theorem parse_rows : ∀ r ∈ parseRows, AV.plains r.1 = true ∧ r.2.still = true ∧ ∃ v0 h0, Go.Rv.call (toldC.cfg Tryz.prog) 25 r.1 [] = some (.ret v0, h0) ∧ freezeV h0 0 40 v0 = some r.2 := fun r hr => by
  unfold parseRows at hr
  simp only [List.mem_cons, List.not_mem_nil, or_false] at hr
  subst hr
  · exact ⟨rfl, (show tree0.still = true by kernel_rfl), runs_boxF plainlyC twinC parse0_run⟩
theorem stepsD_twins : ∀ f q p, stepsD f = some (q, p) → TwinP q p := fun f q p h => by
  unfold stepsD at h
  split at h
  · injection h with h; injection h with h1 h2; subst h1 h2; exact tab_twin _
  · injection h with h; injection h with h1 h2; subst h1 h2; exact const_twin _
  · exact stepsB_twins _ _ _ h
theorem stepsD_ok {C : Cfg} (hG : C.glob = glb) : ∀ f q p, stepsD f = some (q, p) → Known Tryz.prog f ∧ ∀ args h res h', p args h = some (res, h') → ∀ s w vs, Rel s h w → Glob C s h w → VRs s h w args vs → CallOk Tryz.prog f vs s h w res h' := fun f q p h => by
  unfold stepsD at h
  split at h
  · injection h with h; injection h with h1 h2; subst h1 h2
    exact ⟨knownParse, fun args h res h' hc s w vs R G H => tabS_ok (T := toldC) (C2 := C) primsC mixed0 glb_close glb_ne glb_still parse_rows hG hc R G H⟩
  · injection h with h; injection h with h1 h2; subst h1 h2
    obtain ⟨h0, hrun⟩ := works_runs
    exact ⟨⟨_, _, Tryz.func7, rfl, by kernel_rfl⟩, fun args h res h' hc s w vs R G H => const_ok (T := toldC) (C2 := C) primsC mixed0 glb_close glb_ne rfl hrun hG hc R G H⟩
  · exact stepsB_ok hG _ _ _ h
theorem wholesD_twins : ∀ f x, wholesD f = some x → WholeT x := fun f x h => by
  unfold wholesD at h
  split at h <;> first | (cases h; done) | skip
  · injection h with h; subst h; exact whole_twin
theorem wholesD_ok {C : Cfg} (hG : C.glob = glb) : ∀ f x, wholesD f = some x → Known Tryz.prog f ∧ ∀ args h res h', x.1 args h = some (res, h') → ∀ s w vs, Rel s h w → Glob C s h w → VRs s h w args vs → CallOk Tryz.prog f vs s h w res h' := fun f x h => by
  unfold wholesD at h
  split at h <;> first | (cases h; done) | skip
  · injection h with h; subst h; exact whole_ok hG knownCheck
theorem twinD : TwinOk (toldD.cfg Tryz.prog) (laySQ stepsD wholesD) (layFn Tryz.prog okl wholesD) (layQ wholesD) := lay_twin (T := toldD) (T0 := told0) stepsD_twins wholesD_twins rfl oks rfl rfl rfl rfl
theorem primsD : PrimOk Tryz.prog (toldD.cfg Tryz.prog) := lay_prims (S := stepsD) (W := wholesD) rfl (fun _ => rfl) (stepsD_ok rfl) (wholesD_ok rfl)
theorem localNames_runs : ∃ h', Go.Rv.call (toldD.cfg Tryz.prog) 3 [] [] = some (.ret (.bool true), h') := runs_box plainlyD twinD localNames_run
end Go.Proofs.YtfdcbnhndpkngaaGreatDoor
