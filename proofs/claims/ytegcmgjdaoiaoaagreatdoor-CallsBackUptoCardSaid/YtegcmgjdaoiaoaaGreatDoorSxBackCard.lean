/-
  'bobbin/bobbinlaw17.CallsBack' answers true: the tied card of its second form. Conditions: what it reads is of bulk at most 1048576; the listed package-level variables read as laid.
-/
import Derived.Test.YtegcmgjdaoiaoaaGreatDoorPtF
set_option linter.unusedSectionVars false
set_option linter.unusedSimpArgs false
set_option linter.unusedVariables false
set_option linter.defProp false
set_option linter.unusedSimpArgs false
set_option linter.unusedVariables false
set_option maxRecDepth 100000
namespace Go.Proofs.YtegcmgjdaoiaoaaGreatDoor
open Go.Rv Go.Proofs Go.Proofs.Sx Go.ChangeShapes Go.WideShapes Go.ChangeAt Go.RowKit

theorem callsBack_contract (H : Type) (enc : TypeId × Value → H) (W : World) (base : Nat) (args : Array Value) (ds gs : List (DataW H)) (before : List MemPlace)
    (hval : ∀ (j : Nat) t v, Tryz.f3.params[j]? = some t → args[j]? = some v → Value.okWide Tryz.prog W .any base t v)
    (hW : DataW.Whole enc Tryz.prog Tryz.f3.params.toList Rows.callsBackSpec.vars false W args.toList ds gs before) (hk : Rows.uptoSmall H (ds ++ gs) = true) (hL : laidMetH Tryz.prog lawLaid W) :
    Calls Tryz.prog 3 args W fun e W' => ∃ v, e = .returned v ∧ Rows.callsBackSpec.post enc Tryz.prog Tryz.f3 false true false false W args v W' := by
  have hW' := hW
  have hlt := hW.lt
  obtain ⟨p, q, hA0, hV, rfl, hfz, hnd⟩ := hW
  have hA : DataW.TrodAll enc Tryz.prog W 0 (fun _ => true) true Tryz.f3.params.toList args.toList ds p := hA0
  rw [Tryz.params3] at hA hval
  obtain ⟨v0, vs0, d0, ds0, p0, q0, hargs, rfl, rfl, h0, r0⟩ := trodAll_cons hA
  obtain ⟨rfl, rfl, rfl⟩ := trodAll_nil r0
  obtain rfl : args = #[v0] := by cases args; simp_all
  obtain ⟨rfl, rfl⟩ := trodVars_none hV
  have hb : bk H d0 ≤ 1048576 := by
    have := of_decide_eq_true hk
    simp only [List.append_nil, Rows.uptoBulkAll] at this
    show Rows.uptoBulk d0 ≤ _
    omega
  obtain ⟨a, ha, hr⟩ := open_arg Tryz.underlying26 (oProg H enc) (hval 0 26 v0 rfl rfl) h0 (fun x hx => hlt x (by simp [hx])) hb
  have hrun := callsBack_eq works_eq a ha
  have run := entry_glob (T := told) (P := Tryz.prog) sx_prim (by kernel_rfl) hrun sx_close (sx_glob hL) (vs := [v0]) ⟨rfl, fun i c hi => by
    cases i with
    | zero => simp at hi; subst hi; exact ⟨v0, rfl, hr⟩
    | succ i => simp at hi⟩
  simp only [List.append_nil] at hW' hlt
  refine run.mono fun e W' ⟨hB, u, s', he, hv⟩ => ?_
  cases hv
  subst he
  exact ⟨_, rfl, post_of_kept (ds := [d0]) (gs := []) (pa := p0 ++ []) (pv := []) (by simpa using hW') (fun _ _ _ => trodAll_mk1 (shut_bool Tryz.underlying4 _)) (fun sp hsp => by
    rw [Tryz.params3]
    exact trodAll_cons_mk (stays h0 hB hlt (fun x hx => hsp x (by simpa using hx))) trodAll_mk0) (fun _ _ => rfl) (by simp) (same_of_below hB) (ok_one (by kernel_rfl) rfl (okWide_bool_mk Tryz.underlying4 _))⟩

theorem callsBack_reads (os : Os) {H : Type} (enc : TypeId × Value → H) : ∃ places, DataW.whole enc Tryz.prog ((lawWorld os).forCall (fun _ _ => 0) ⟨#[], #[noProg], []⟩).memory Tryz.f3.params.toList Rows.callsBackSpec.vars false #[noProg].toList 8 = some ([.agg [.nil, .nil, .nil]], [], places) :=
  ⟨[], by kernel_rfl⟩

theorem callsBack_lifted (os : Os) (started : os.Started) (H : Type) (enc : TypeId × Value → H) (F : Stop.Interp) :
    ReturnsInHanded {} Tryz.checked os 3 .any ((Rows.OpenSpec.upto Rows.callsBackSpec).preRow enc Tryz.prog Tryz.f3 Rows.callsBackUptoRow.domain false Rows.callsBackUptoRow.laid) (((Rows.OpenSpec.upto Rows.callsBackSpec).at F).post enc Tryz.prog Tryz.f3 false true false false) := by
  obtain ⟨places, hx⟩ := callsBack_reads os enc
  refine returnsInHanded_of_row (C := Tryz.checked) (s := Rows.OpenSpec.upto Rows.callsBackSpec) lawOwn started (by kernel_rfl) Tryz.func3
    (witness_row_at (enc := enc) (C := Tryz.checked) false (lawWorld os) #[noProg] (World.laidAll_os _ _ _) (by kernel_rfl) (by kernel_rfl) (by kernel_rfl)
      (OpenSpec.preRow_of_cond 8 hx (by kernel_rfl) (fun k hk => by cases hk; kernel_rfl) (by kernel_rfl) (law_met os _))) ?_
  intro W base args ds gs before hval hW _ hcond _ hL _ _
  exact callsBack_contract H enc W base args ds gs before hval hW (hcond _ rfl) hL

theorem callsBack_said : Rows.CallsBackUptoSaid :=
  OpenClaim.holds_of_cond 3 Tryz.f3 rfl rfl rfl rfl rfl rfl rfl ⟨rfl, rfl, rfl, rfl, rfl⟩ rfl rfl rfl rfl rfl (by kernel_rfl) Tryz.func3 (by kernel_rfl)
    (of_decide_eq_true (by kernel_rfl)) (by unfold Func.isWrapper; first | (rw [if_pos (by decide +kernel)]; kernel_rfl) | (rw [if_neg (by decide +kernel)]; exact ⟨rfl, rfl⟩))
    (fun os started H enc _ F => by rw [OpenClaim.pre_eq_preRow]; exact callsBack_lifted os started H enc F)

theorem callsBack_plain (f : FuncId) (fn : Func) (hf : Tryz.pinned.checked.prog.funcNamed Tryz.f3.name = some f) (hfn : Tryz.pinned.checked.prog.funcs[f]? = some fn) :
    false = Tryz.pinned.checked.prog.looks [] ∧ ∀ (j : Nat) t, fn.params[j]? = some t → Tryz.pinned.checked.prog.wantsStandIn t = false := by
  obtain rfl : f = 3 := Option.some.inj ((show Tryz.prog.funcNamed Tryz.f3.name = some 3 by kernel_rfl).symm.trans hf) |>.symm
  obtain rfl : fn = Tryz.f3 := (Option.some.inj (Tryz.func3.symm.trans hfn)).symm
  refine ⟨by kernel_rfl, fun j t ht => ?_⟩
  rw [Tryz.params3] at ht
  obtain rfl : t = 26 := by simpa using Array.mem_of_getElem? ht
  exact (show Tryz.prog.wantsStandIn 26 = false by kernel_rfl)

theorem callsBack_holds : Rows.CallsBackUptoCardSaid :=
  Claim7.holds_tied_plain_at .later [] _ _ _ _ callsBack_said (fun _ h => by cases h) (by kernel_rfl) (fun _ h => by cases h) callsBackUpto_row_tie rfl ⟨rfl, rfl⟩ (by kernel_rfl) rfl callsBack_plain (by kernel_rfl)
end Go.Proofs.YtegcmgjdaoiaoaaGreatDoor
