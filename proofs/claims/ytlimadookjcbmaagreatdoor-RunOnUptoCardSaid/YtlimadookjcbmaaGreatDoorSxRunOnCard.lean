/-
  'bobbin/bobbinlaw10.RunOn' answers true: the tied card of its second form.
-/
import Derived.Test.YtlimadookjcbmaaGreatDoorPtR
set_option linter.unusedSectionVars false
set_option linter.unusedSimpArgs false
set_option linter.unusedVariables false
set_option linter.defProp false
set_option maxRecDepth 100000
namespace Go.Proofs.YtlimadookjcbmaaGreatDoor
open Go.Rv Go.Proofs Go.Proofs.Sx Go.ChangeShapes Go.WideShapes Go.ChangeAt Go.RowKit
theorem runOn_contract (H : Type) (enc : TypeId × Value → H) (W : World) (base : Nat) (args : Array Value) (ds gs : List (DataW H)) (before : List MemPlace)
    (hval : ∀ (j : Nat) t v, Tryz.f3.params[j]? = some t → args[j]? = some v → Value.okWide Tryz.prog W .any base t v)
    (hW : DataW.Whole enc Tryz.prog Tryz.f3.params.toList Rows.runOnSpec.vars false W args.toList ds gs before) (hk : Rows.uptoSmall H (ds ++ gs) = true) (hL : laidMetH Tryz.prog lawLaid W) :
    Calls Tryz.prog 3 args W fun e W' => ∃ v, e = .returned v ∧ Rows.runOnSpec.post enc Tryz.prog Tryz.f3 false true false false W args v W' := by
  have hW' := hW
  have hlt := hW.lt
  obtain ⟨p, q, hA0, hV, rfl, hfz, hnd⟩ := hW
  have hA : DataW.TrodAll enc Tryz.prog W 0 (fun _ => true) true Tryz.f3.params.toList args.toList ds p := hA0
  rw [Tryz.params3] at hA hval
  obtain ⟨v0, v1, v2, d0, d1, d2, p0, p1, p2, rfl, rfl, rfl, h0, h1, h2⟩ := trodAll_three hA
  obtain ⟨x, rfl, rfl, rfl, wx⟩ := open_int Tryz.underlying3 (hval 1 3 v1 rfl rfl) h1
  obtain ⟨y, rfl, rfl, rfl, wy⟩ := open_int Tryz.underlying3 (hval 2 3 v2 rfl rfl) h2
  obtain ⟨rfl, rfl⟩ := trodVars_none hV
  have hb : bk H d0 ≤ 1048576 := by
    have := of_decide_eq_true hk
    simp only [List.append_nil, Rows.uptoBulkAll] at this
    show Rows.uptoBulk d0 ≤ _
    omega
  obtain ⟨a, ha, hr⟩ := open_arg Tryz.underlying26 (oProg H enc) (hval 0 26 v0 rfl rfl) h0 (fun x hx => hlt x (by simp [hx])) hb
  have hrun := runOn_eq a ha.1 ha.2 x y []
  have run := entry_glob (T := told) (P := Tryz.prog) sx_prim (by kernel_rfl) hrun sx_close (sx_glob hL) (vs := [v0, .int .i64 x, .int .i64 y]) ⟨rfl, fun i c hi => by
    match i, hi with
    | 0, hi => simp at hi; subst hi; exact ⟨v0, rfl, hr⟩
    | 1, hi => simp at hi; subst hi; exact ⟨_, rfl, .int _ _⟩
    | 2, hi => simp at hi; subst hi; exact ⟨_, rfl, .int _ _⟩
    | i + 3, hi => simp at hi⟩
  simp only [List.append_nil] at hW' hlt
  refine run.mono fun e W' ⟨hB, u, s', he, hv⟩ => ?_
  cases hv
  subst he
  exact ⟨_, rfl, post_of_kept (ds := [d0, .lit (.int .i64 x), .lit (.int .i64 y)]) (gs := []) (pa := p0 ++ ([] ++ [])) (pv := []) (by simpa using hW') (fun _ _ _ => trodAll_mk1 (shut_bool Tryz.underlying4 _)) (fun sp hsp => by
    rw [Tryz.params3]
    exact trodAll_mk3 (stays h0 hB hlt (fun x hx => hsp x (by simpa using hx))) (shut_int Tryz.underlying3 wx) (shut_int Tryz.underlying3 wy)) (fun _ _ => rfl) (by simp) (same_of_below hB) (ok_one (by kernel_rfl) rfl (okWide_bool_mk Tryz.underlying4 _))⟩
theorem runOn_reads (os : Os) {H : Type} (enc : TypeId × Value → H) : ∃ places, DataW.whole enc Tryz.prog ((lawWorld os).forCall (fun _ _ => 0) ⟨#[], #[noProg, .int .i64 0, .int .i64 0], []⟩).memory Tryz.f3.params.toList Rows.runOnSpec.vars false #[noProg, .int .i64 0, .int .i64 0].toList 8 = some ([.agg [.nil, .nil, .nil], .lit (.int .i64 0), .lit (.int .i64 0)], [], places) :=
  ⟨[], by kernel_rfl⟩
theorem runOn_lifted (os : Os) (started : os.Started) (H : Type) (enc : TypeId × Value → H) (F : Stop.Interp) :
    ReturnsInHanded {} Tryz.checked os 3 .any ((Rows.OpenSpec.upto Rows.runOnSpec).preRow enc Tryz.prog Tryz.f3 Rows.runOnUptoRow.domain false Rows.runOnUptoRow.laid) (((Rows.OpenSpec.upto Rows.runOnSpec).at F).post enc Tryz.prog Tryz.f3 false true false false) := by
  obtain ⟨places, hx⟩ := runOn_reads os enc
  refine returnsInHanded_of_row (C := Tryz.checked) (s := Rows.OpenSpec.upto Rows.runOnSpec) lawOwn started (by kernel_rfl) Tryz.func3
    (witness_row_at (enc := enc) (C := Tryz.checked) false (lawWorld os) #[noProg, .int .i64 0, .int .i64 0] (World.laidAll_os _ _ _) (by kernel_rfl) (by kernel_rfl) (by kernel_rfl)
      (OpenSpec.preRow_of_cond 8 hx (by kernel_rfl) (fun k hk => by cases hk; kernel_rfl) (by kernel_rfl) (law_met os _))) ?_
  intro W base args ds gs before hval hW _ hcond _ hL _ _
  exact runOn_contract H enc W base args ds gs before hval hW (hcond _ rfl) hL
theorem runOn_said : Rows.RunOnUptoSaid :=
  OpenClaim.holds_of_cond 3 Tryz.f3 rfl rfl rfl rfl rfl rfl rfl ⟨rfl, rfl, rfl, rfl, rfl⟩ rfl rfl rfl rfl rfl (by kernel_rfl) Tryz.func3 (by kernel_rfl)
    (of_decide_eq_true (by kernel_rfl)) (by unfold Func.isWrapper; first | (rw [if_pos (by decide +kernel)]; kernel_rfl) | (rw [if_neg (by decide +kernel)]; exact ⟨rfl, rfl⟩))
    (fun os started H enc _ F => by rw [OpenClaim.pre_eq_preRow]; exact runOn_lifted os started H enc F)
theorem runOn_plain (f : FuncId) (fn : Func) (hf : Tryz.pinned.checked.prog.funcNamed Tryz.f3.name = some f) (hfn : Tryz.pinned.checked.prog.funcs[f]? = some fn) :
    false = Tryz.pinned.checked.prog.looks [] ∧ ∀ (j : Nat) t, fn.params[j]? = some t → Tryz.pinned.checked.prog.wantsStandIn t = false := by
  obtain rfl : f = 3 := Option.some.inj ((show Tryz.prog.funcNamed Tryz.f3.name = some 3 by kernel_rfl).symm.trans hf) |>.symm
  obtain rfl : fn = Tryz.f3 := (Option.some.inj (Tryz.func3.symm.trans hfn)).symm
  refine ⟨by kernel_rfl, fun j t ht => ?_⟩
  rw [Tryz.params3] at ht
  have : t = 26 ∨ t = 3 := by
    have := Array.mem_of_getElem? ht
    simp at this
    omega
  rcases this with rfl | rfl
  · exact (show Tryz.prog.wantsStandIn 26 = false by kernel_rfl)
  · exact (show Tryz.prog.wantsStandIn 3 = false by kernel_rfl)
theorem runOn_holds : Rows.RunOnUptoCardSaid :=
  Claim7.holds_tied_plain_at .later [] _ _ _ _ runOn_said (fun _ h => by cases h) (by kernel_rfl) (fun _ h => by cases h) runOnUpto_row_tie rfl ⟨rfl, rfl⟩ (by kernel_rfl) rfl runOn_plain (by kernel_rfl)
end Go.Proofs.YtlimadookjcbmaaGreatDoor
