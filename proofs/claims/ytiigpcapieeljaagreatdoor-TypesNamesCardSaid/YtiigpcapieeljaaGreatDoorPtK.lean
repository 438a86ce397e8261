/-
  The orders of all functions that the runs come to do not matter.
-/
import Derived.Test.YtiigpcapieeljaaGreatDoorTnOk0
import Derived.Test.YtiigpcapieeljaaGreatDoorTnOk1
import Derived.Test.YtiigpcapieeljaaGreatDoorTnOk2
import Derived.Test.YtiigpcapieeljaaGreatDoorTnOk3
import Derived.Test.YtiigpcapieeljaaGreatDoorPtL
import Derived.Test.YtiigpcapieeljaaGreatDoorTnTells0
import Derived.Test.YtiigpcapieeljaaGreatDoorTnTells1
import Derived.Test.YtiigpcapieeljaaGreatDoorTnTells2
import Derived.Test.YtiigpcapieeljaaGreatDoorTnTells3
import Derived.Test.YtiigpcapieeljaaGreatDoorTnTells4
import Derived.Test.YtiigpcapieeljaaGreatDoorTnTells5
import Derived.Test.YtiigpcapieeljaaGreatDoorTnTells6
import Derived.Test.YtiigpcapieeljaaGreatDoorTnTells7
import Derived.Test.YtiigpcapieeljaaGreatDoorTnTells8
import Derived.Test.YtiigpcapieeljaaGreatDoorTnTells9
import Derived.Test.YtiigpcapieeljaaGreatDoorTnTells10
import Derived.Test.YtiigpcapieeljaaGreatDoorTnTells11
set_option linter.unusedSectionVars false
set_option linter.unusedSimpArgs false
set_option linter.unusedVariables false
set_option linter.defProp false
set_option linter.unusedSimpArgs false
set_option linter.unusedVariables false
namespace Go.Proofs.YtiigpcapieeljaaGreatDoor
open Go.Rv
theorem oks : okl.all (fnOk Tryz.prog (told0.bare Tryz.prog)) = true := by
  rw [List.all_eq_true]
  intro f hf
  have h : okl.all (fun f => hasN okl0 f || hasN okl1 f || hasN okl2 f || hasN okl3 f) = true := by decide +kernel
  have h := List.all_eq_true.1 h f hf
  simp only [Bool.or_eq_true] at h
  rcases h with ((h | h) | h) | h
  · obtain ⟨x, hx, hb⟩ := List.any_eq_true.1 h
    obtain rfl := Nat.eq_of_beq_eq_true hb
    exact List.all_eq_true.1 oks0 _ hx
  · obtain ⟨x, hx, hb⟩ := List.any_eq_true.1 h
    obtain rfl := Nat.eq_of_beq_eq_true hb
    exact List.all_eq_true.1 oks1 _ hx
  · obtain ⟨x, hx, hb⟩ := List.any_eq_true.1 h
    obtain rfl := Nat.eq_of_beq_eq_true hb
    exact List.all_eq_true.1 oks2 _ hx
  · obtain ⟨x, hx, hb⟩ := List.any_eq_true.1 h
    obtain rfl := Nat.eq_of_beq_eq_true hb
    exact List.all_eq_true.1 oks3 _ hx
end Go.Proofs.YtiigpcapieeljaaGreatDoor

/-
  The layers of the run of 'TypesNames': what each takes at one step is what the code does.
-/
set_option linter.unusedSimpArgs false
set_option linter.unusedVariables false
namespace Go.Proofs.YtiigpcapieeljaaGreatDoor
open Go.Rv
theorem twinA : TwinOk (told0.cfg Tryz.prog) stepsA.q (fnsL Tryz.prog okl) (fun _ => none) := steps_twin (T := told0) (T0 := told0) (S := stepsA) stepsA_twins rfl oks rfl rfl rfl rfl
theorem name_rows : ∀ r ∈ nameRows, AV.plains r.1 = true ∧ r.2.plain = true ∧ ∃ h0, Go.Rv.call (told0.cfg Tryz.prog) 150 r.1 [] = some (.ret r.2, h0) := fun r hr => by
  unfold nameRows at hr
  simp only [List.mem_cons, List.not_mem_nil, or_false] at hr
  rcases hr with rfl | rfl | rfl | rfl | rfl | rfl | rfl | rfl | rfl | rfl | rfl | rfl | rfl | rfl | rfl | rfl | rfl | rfl | rfl | rfl | rfl | rfl | rfl | rfl | rfl | rfl | rfl | rfl | rfl | rfl | rfl | rfl
  · exact ⟨rfl, rfl, runs_boxA plainly0 twinA name0_run⟩
  · exact ⟨rfl, rfl, runs_boxA plainly0 twinA name1_run⟩
  · exact ⟨rfl, rfl, runs_boxA plainly0 twinA name2_run⟩
  · exact ⟨rfl, rfl, runs_boxA plainly0 twinA name3_run⟩
  · exact ⟨rfl, rfl, runs_boxA plainly0 twinA name4_run⟩
  · exact ⟨rfl, rfl, runs_boxA plainly0 twinA name5_run⟩
  · exact ⟨rfl, rfl, runs_boxA plainly0 twinA name6_run⟩
  · exact ⟨rfl, rfl, runs_boxA plainly0 twinA name7_run⟩
  · exact ⟨rfl, rfl, runs_boxA plainly0 twinA name8_run⟩
  · exact ⟨rfl, rfl, runs_boxA plainly0 twinA name9_run⟩
  · exact ⟨rfl, rfl, runs_boxA plainly0 twinA name10_run⟩
  · exact ⟨rfl, rfl, runs_boxA plainly0 twinA name11_run⟩
  · exact ⟨rfl, rfl, runs_boxA plainly0 twinA name12_run⟩
  · exact ⟨rfl, rfl, runs_boxA plainly0 twinA name13_run⟩
  · exact ⟨rfl, rfl, runs_boxA plainly0 twinA name14_run⟩
  · exact ⟨rfl, rfl, runs_boxA plainly0 twinA name15_run⟩
  · exact ⟨rfl, rfl, runs_boxA plainly0 twinA name16_run⟩
  · exact ⟨rfl, rfl, runs_boxA plainly0 twinA name17_run⟩
  · exact ⟨rfl, rfl, runs_boxA plainly0 twinA name18_run⟩
  · exact ⟨rfl, rfl, runs_boxA plainly0 twinA name19_run⟩
  · exact ⟨rfl, rfl, runs_boxA plainly0 twinA name20_run⟩
  · exact ⟨rfl, rfl, runs_boxA plainly0 twinA name21_run⟩
  · exact ⟨rfl, rfl, runs_boxA plainly0 twinA name22_run⟩
  · exact ⟨rfl, rfl, runs_boxA plainly0 twinA name23_run⟩
  · exact ⟨rfl, rfl, runs_boxA plainly0 twinA name24_run⟩
  · exact ⟨rfl, rfl, runs_boxA plainly0 twinA name25_run⟩
  · exact ⟨rfl, rfl, runs_boxA plainly0 twinA name26_run⟩
  · exact ⟨rfl, rfl, runs_boxA plainly0 twinA name27_run⟩
  · exact ⟨rfl, rfl, runs_boxA plainly0 twinA name28_run⟩
  · exact ⟨rfl, rfl, runs_boxA plainly0 twinA name29_run⟩
  · exact ⟨rfl, rfl, runs_boxA plainly0 twinA name30_run⟩
  · exact ⟨rfl, rfl, runs_boxA plainly0 twinA name31_run⟩
theorem stepsB_twins : ∀ f q p, stepsB f = some (q, p) → TwinP q p := fun f q p h => by
  unfold stepsB at h
  split at h
  · injection h with h; injection h with h1 h2; subst h1 h2; exact tab_twin _
  · exact stepsA_twins _ _ _ h
theorem stepsB_ok {C : Cfg} (hG : C.glob = glb) : ∀ f q p, stepsB f = some (q, p) → Known Tryz.prog f ∧ ∀ args h res h', p args h = some (res, h') → ∀ s w vs, Rel s h w → Glob C s h w → VRs s h w args vs → CallOk Tryz.prog f vs s h w res h' := fun f q p h => by
  unfold stepsB at h
  split at h
  · injection h with h; injection h with h1 h2; subst h1 h2
    exact ⟨⟨_, _, Tryz.func150, rfl, by kernel_rfl⟩, fun args h res h' hc s w vs R G H => tab_ok (T := told0) (C2 := C) prims0 mixed0 glb_close glb_ne name_rows hG hc R G H⟩
  · exact stepsA_ok _ _ _ h
theorem primsB : PrimOk Tryz.prog (toldB.cfg Tryz.prog) := prims_of (S := stepsB) rfl (fun _ => rfl) (stepsB_ok rfl)
theorem whole_ok {C : Cfg} (hG : C.glob = glb) {f d : Nat} (hk : Known Tryz.prog f) : Known Tryz.prog f ∧ ∀ args h res h', (dfrW Tryz.prog toldB stepsB okl f d).1 args h = some (res, h') → ∀ s w vs, Rel s h w → Glob C s h w → VRs s h w args vs → CallOk Tryz.prog f vs s h w res h' :=
  ⟨hk, fun args h res h' hc s w vs R G H => callD_ok (T := toldB) (C := C) glb_ne glb_close primsB mixed0 (fun g v hv => by rw [hG]; exact hv) hc R G H⟩
theorem whole_twin {f d : Nat} : WholeT (dfrW Tryz.prog toldB stepsB okl f d) := dfrW_twin (T0 := told0) plainlyB stepsB_twins rfl oks rfl rfl rfl rfl
theorem knownParse : Known Tryz.prog 23 := ⟨_, _, Tryz.func23, rfl, by kernel_rfl⟩
theorem knownCheck : Known Tryz.prog 24 := ⟨_, _, Tryz.func24, rfl, by kernel_rfl⟩
theorem wholesC_twins : ∀ f x, wholesC f = some x → WholeT x := fun f x h => by
  unfold wholesC at h
  split at h <;> first | (cases h; done) | skip
  · injection h with h; subst h; exact whole_twin
  · injection h with h; subst h; exact whole_twin
theorem wholesC_ok {C : Cfg} (hG : C.glob = glb) : ∀ f x, wholesC f = some x → Known Tryz.prog f ∧ ∀ args h res h', x.1 args h = some (res, h') → ∀ s w vs, Rel s h w → Glob C s h w → VRs s h w args vs → CallOk Tryz.prog f vs s h w res h' := fun f x h => by
  unfold wholesC at h
  split at h <;> first | (cases h; done) | skip
  · injection h with h; subst h; exact whole_ok hG knownParse
  · injection h with h; subst h; exact whole_ok hG knownCheck
theorem twinC : TwinOk (toldC.cfg Tryz.prog) (laySQ stepsB wholesC) (layFn Tryz.prog okl wholesC) (layQ wholesC) := lay_twin (T := toldC) (T0 := told0) stepsB_twins wholesC_twins rfl oks rfl rfl rfl rfl
theorem primsC : PrimOk Tryz.prog (toldC.cfg Tryz.prog) := lay_prims (S := stepsB) (W := wholesC) rfl (fun _ => rfl) (stepsB_ok rfl) (wholesC_ok rfl)
theorem stepsD_twins : ∀ f q p, stepsD f = some (q, p) → TwinP q p := stepsB_twins
theorem stepsD_ok {C : Cfg} (hG : C.glob = glb) : ∀ f q p, stepsD f = some (q, p) → Known Tryz.prog f ∧ ∀ args h res h', p args h = some (res, h') → ∀ s w vs, Rel s h w → Glob C s h w → VRs s h w args vs → CallOk Tryz.prog f vs s h w res h' := stepsB_ok hG
theorem wholesD_twins : ∀ f x, wholesD f = some x → WholeT x := wholesC_twins
theorem wholesD_ok {C : Cfg} (hG : C.glob = glb) : ∀ f x, wholesD f = some x → Known Tryz.prog f ∧ ∀ args h res h', x.1 args h = some (res, h') → ∀ s w vs, Rel s h w → Glob C s h w → VRs s h w args vs → CallOk Tryz.prog f vs s h w res h' := wholesC_ok hG
theorem twinD : TwinOk (toldD.cfg Tryz.prog) (laySQ stepsD wholesD) (layFn Tryz.prog okl wholesD) (layQ wholesD) := lay_twin (T := toldD) (T0 := told0) stepsD_twins wholesD_twins rfl oks rfl rfl rfl rfl
theorem primsD : PrimOk Tryz.prog (toldD.cfg Tryz.prog) := lay_prims (S := stepsD) (W := wholesD) rfl (fun _ => rfl) (stepsD_ok rfl) (wholesD_ok rfl)
theorem tell_rows : ∀ r ∈ tellRows, r.2.plain = true ∧ ∃ h0, Go.Rv.call (toldD.cfg Tryz.prog) 7 r.1 [] = some (.ret r.2, h0) := fun r hr => by
  unfold tellRows at hr
  simp only [List.mem_cons, List.not_mem_nil, or_false] at hr
  rcases hr with rfl | rfl | rfl | rfl | rfl | rfl | rfl | rfl | rfl | rfl | rfl | rfl | rfl | rfl | rfl | rfl | rfl | rfl | rfl | rfl | rfl | rfl | rfl | rfl | rfl | rfl | rfl | rfl | rfl | rfl | rfl | rfl | rfl | rfl | rfl | rfl | rfl | rfl | rfl | rfl | rfl | rfl | rfl | rfl | rfl | rfl | rfl | rfl | rfl | rfl | rfl | rfl | rfl | rfl | rfl | rfl | rfl | rfl | rfl | rfl | rfl | rfl | rfl | rfl | rfl | rfl | rfl | rfl | rfl | rfl | rfl | rfl | rfl | rfl | rfl | rfl | rfl | rfl | rfl | rfl | rfl | rfl | rfl | rfl | rfl | rfl | rfl | rfl | rfl | rfl | rfl
  · exact ⟨rfl, runs_boxA plainlyD twinD tells0_run⟩
  · exact ⟨rfl, runs_boxA plainlyD twinD tells1_run⟩
  · exact ⟨rfl, runs_boxA plainlyD twinD tells2_run⟩
  · exact ⟨rfl, runs_boxA plainlyD twinD tells3_run⟩
  · exact ⟨rfl, runs_boxA plainlyD twinD tells4_run⟩
  · exact ⟨rfl, runs_boxA plainlyD twinD tells5_run⟩
  · exact ⟨rfl, runs_boxA plainlyD twinD tells6_run⟩
  · exact ⟨rfl, runs_boxA plainlyD twinD tells7_run⟩
  · exact ⟨rfl, runs_boxA plainlyD twinD tells8_run⟩
  · exact ⟨rfl, runs_boxA plainlyD twinD tells9_run⟩
  · exact ⟨rfl, runs_boxA plainlyD twinD tells10_run⟩
  · exact ⟨rfl, runs_boxA plainlyD twinD tells11_run⟩
  · exact ⟨rfl, runs_boxA plainlyD twinD tells12_run⟩
  · exact ⟨rfl, runs_boxA plainlyD twinD tells13_run⟩
  · exact ⟨rfl, runs_boxA plainlyD twinD tells14_run⟩
  · exact ⟨rfl, runs_boxA plainlyD twinD tells15_run⟩
  · exact ⟨rfl, runs_boxA plainlyD twinD tells16_run⟩
  · exact ⟨rfl, runs_boxA plainlyD twinD tells17_run⟩
  · exact ⟨rfl, runs_boxA plainlyD twinD tells18_run⟩
  · exact ⟨rfl, runs_boxA plainlyD twinD tells19_run⟩
  · exact ⟨rfl, runs_boxA plainlyD twinD tells20_run⟩
  · exact ⟨rfl, runs_boxA plainlyD twinD tells21_run⟩
  · exact ⟨rfl, runs_boxA plainlyD twinD tells22_run⟩
  · exact ⟨rfl, runs_boxA plainlyD twinD tells23_run⟩
  · exact ⟨rfl, runs_boxA plainlyD twinD tells24_run⟩
  · exact ⟨rfl, runs_boxA plainlyD twinD tells25_run⟩
  · exact ⟨rfl, runs_boxA plainlyD twinD tells26_run⟩
  · exact ⟨rfl, runs_boxA plainlyD twinD tells27_run⟩
  · exact ⟨rfl, runs_boxA plainlyD twinD tells28_run⟩
  · exact ⟨rfl, runs_boxA plainlyD twinD tells29_run⟩
  · exact ⟨rfl, runs_boxA plainlyD twinD tells30_run⟩
  · exact ⟨rfl, runs_boxA plainlyD twinD tells31_run⟩
  · exact ⟨rfl, runs_boxA plainlyD twinD tells32_run⟩
  · exact ⟨rfl, runs_boxA plainlyD twinD tells33_run⟩
  · exact ⟨rfl, runs_boxA plainlyD twinD tells34_run⟩
  · exact ⟨rfl, runs_boxA plainlyD twinD tells35_run⟩
  · exact ⟨rfl, runs_boxA plainlyD twinD tells36_run⟩
  · exact ⟨rfl, runs_boxA plainlyD twinD tells37_run⟩
  · exact ⟨rfl, runs_boxA plainlyD twinD tells38_run⟩
  · exact ⟨rfl, runs_boxA plainlyD twinD tells39_run⟩
  · exact ⟨rfl, runs_boxA plainlyD twinD tells40_run⟩
  · exact ⟨rfl, runs_boxA plainlyD twinD tells41_run⟩
  · exact ⟨rfl, runs_boxA plainlyD twinD tells42_run⟩
  · exact ⟨rfl, runs_boxA plainlyD twinD tells43_run⟩
  · exact ⟨rfl, runs_boxA plainlyD twinD tells44_run⟩
  · exact ⟨rfl, runs_boxA plainlyD twinD tells45_run⟩
  · exact ⟨rfl, runs_boxA plainlyD twinD tells46_run⟩
  · exact ⟨rfl, runs_boxA plainlyD twinD tells47_run⟩
  · exact ⟨rfl, runs_boxA plainlyD twinD tells48_run⟩
  · exact ⟨rfl, runs_boxA plainlyD twinD tells49_run⟩
  · exact ⟨rfl, runs_boxA plainlyD twinD tells50_run⟩
  · exact ⟨rfl, runs_boxA plainlyD twinD tells51_run⟩
  · exact ⟨rfl, runs_boxA plainlyD twinD tells52_run⟩
  · exact ⟨rfl, runs_boxA plainlyD twinD tells53_run⟩
  · exact ⟨rfl, runs_boxA plainlyD twinD tells54_run⟩
  · exact ⟨rfl, runs_boxA plainlyD twinD tells55_run⟩
  · exact ⟨rfl, runs_boxA plainlyD twinD tells56_run⟩
  · exact ⟨rfl, runs_boxA plainlyD twinD tells57_run⟩
  · exact ⟨rfl, runs_boxA plainlyD twinD tells58_run⟩
  · exact ⟨rfl, runs_boxA plainlyD twinD tells59_run⟩
  · exact ⟨rfl, runs_boxA plainlyD twinD tells60_run⟩
  · exact ⟨rfl, runs_boxA plainlyD twinD tells61_run⟩
  · exact ⟨rfl, runs_boxA plainlyD twinD tells62_run⟩
  · exact ⟨rfl, runs_boxA plainlyD twinD tells63_run⟩
  · exact ⟨rfl, runs_boxA plainlyD twinD tells64_run⟩
  · exact ⟨rfl, runs_boxA plainlyD twinD tells65_run⟩
  · exact ⟨rfl, runs_boxA plainlyD twinD tells66_run⟩
  · exact ⟨rfl, runs_boxA plainlyD twinD tells67_run⟩
  · exact ⟨rfl, runs_boxA plainlyD twinD tells68_run⟩
  · exact ⟨rfl, runs_boxA plainlyD twinD tells69_run⟩
  · exact ⟨rfl, runs_boxA plainlyD twinD tells70_run⟩
  · exact ⟨rfl, runs_boxA plainlyD twinD tells71_run⟩
  · exact ⟨rfl, runs_boxA plainlyD twinD tells72_run⟩
  · exact ⟨rfl, runs_boxA plainlyD twinD tells73_run⟩
  · exact ⟨rfl, runs_boxA plainlyD twinD tells74_run⟩
  · exact ⟨rfl, runs_boxA plainlyD twinD tells75_run⟩
  · exact ⟨rfl, runs_boxA plainlyD twinD tells76_run⟩
  · exact ⟨rfl, runs_boxA plainlyD twinD tells77_run⟩
  · exact ⟨rfl, runs_boxA plainlyD twinD tells78_run⟩
  · exact ⟨rfl, runs_boxA plainlyD twinD tells79_run⟩
  · exact ⟨rfl, runs_boxA plainlyD twinD tells80_run⟩
  · exact ⟨rfl, runs_boxA plainlyD twinD tells81_run⟩
  · exact ⟨rfl, runs_boxA plainlyD twinD tells82_run⟩
  · exact ⟨rfl, runs_boxA plainlyD twinD tells83_run⟩
  · exact ⟨rfl, runs_boxA plainlyD twinD tells84_run⟩
  · exact ⟨rfl, runs_boxA plainlyD twinD tells85_run⟩
  · exact ⟨rfl, runs_boxA plainlyD twinD tells86_run⟩
  · exact ⟨rfl, runs_boxA plainlyD twinD tells87_run⟩
  · exact ⟨rfl, runs_boxA plainlyD twinD tells88_run⟩
  · exact ⟨rfl, runs_boxA plainlyD twinD tells89_run⟩
  · exact ⟨rfl, runs_boxA plainlyD twinD tells90_run⟩
theorem stepsE_twins : ∀ f q p, stepsE f = some (q, p) → TwinP q p := fun f q p h => by
  unfold stepsE at h
  split at h
  · injection h with h; injection h with h1 h2; subst h1 h2; exact tabR_twin _
  · exact stepsB_twins _ _ _ h
theorem stepsE_ok {C : Cfg} (hG : C.glob = glb) : ∀ f q p, stepsE f = some (q, p) → Known Tryz.prog f ∧ ∀ args h res h', p args h = some (res, h') → ∀ s w vs, Rel s h w → Glob C s h w → VRs s h w args vs → CallOk Tryz.prog f vs s h w res h' := fun f q p h => by
  unfold stepsE at h
  split at h
  · injection h with h; injection h with h1 h2; subst h1 h2
    exact ⟨⟨_, _, Tryz.func7, rfl, by kernel_rfl⟩, fun args h res h' hc s w vs R G H => tabR_ok (T := toldD) (C2 := C) primsD mixed0 glb_close glb_ne tell_rows hG hc R G H⟩
  · exact stepsB_ok hG _ _ _ h
theorem twinE : TwinOk (toldE.cfg Tryz.prog) (laySQ stepsE wholesD) (layFn Tryz.prog okl wholesD) (layQ wholesD) := lay_twin (T := toldE) (T0 := told0) stepsE_twins wholesD_twins rfl oks rfl rfl rfl rfl
theorem primsE : PrimOk Tryz.prog (toldE.cfg Tryz.prog) := lay_prims (S := stepsE) (W := wholesD) rfl (fun _ => rfl) (stepsE_ok rfl) (wholesD_ok rfl)
theorem typesNames_runs : ∃ h', Go.Rv.call (toldE.cfg Tryz.prog) 3 [] [] = some (.ret (.bool true), h') := runs_box plainlyE twinE typesNames_run
end Go.Proofs.YtiigpcapieeljaaGreatDoor
