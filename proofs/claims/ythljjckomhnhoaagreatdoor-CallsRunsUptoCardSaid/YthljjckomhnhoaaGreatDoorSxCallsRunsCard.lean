/-
  'bobbin/bobbinlaw17.CallsRuns' answers true: the tied card of its second form. Conditions: what it reads is of bulk at most 1048576; the listed package-level variables read as laid.
-/
import Derived.Test.YthljjckomhnhoaaGreatDoorPtQ
import Derived.Test.YthljjckomhnhoaaGreatDoorPtW
set_option linter.unusedSectionVars false
set_option linter.unusedSimpArgs false
set_option linter.unusedVariables false
set_option linter.defProp false
set_option maxRecDepth 100000
namespace Go.Proofs.YthljjckomhnhoaaGreatDoor
open Go.Rv Go.Proofs Go.Proofs.Sx Go.ChangeShapes Go.WideShapes Go.ChangeAt Go.RowKit
theorem open_arg1 {H : Type} {enc : TypeId × Value -> H} {P : Program} {μ : DataW H -> Nat} {B : Nat} {t e : TypeId} (ht : P.underlying t = some (.slice e)) {α : Type} {pic : α -> List AV} {ok : α -> Prop} (O : Opens enc P μ B t pic ok) {w : World} {r : Reach} {b0 : Nat} {v : Value} {d : DataW H} {ps : List MemPlace}
  (hv : Value.okWide P w r b0 t v) (h : DataW.Trod enc P w 0 (fun _ => true) true t v d ps) (hp : ∀ p ∈ ps, p.block < w.heap.size) (hb : μ d <= B) : ∃ a, ok a /\ ∀ c, pic a = [c] -> VR (old w) [] w c v := by
 obtain ⟨a0, len, cap, rfl⟩ := okWide_slice ht hv
 obtain ⟨n, hn⟩ := h
 obtain ⟨a, h1, h2⟩ := O w n _ _ hn hp hb
 refine ⟨a, h1, fun c hc => ?_⟩
 rw [hc] at h2
 obtain ⟨u, hu, hr⟩ := h2.2 0 c rfl
 simp [Value.cells] at hu
 subst hu
 exact hr
theorem staysI {H : Type} {enc : TypeId × Value -> H} {W W' : World} {v : Value} {d : DataW H} {ps : List MemPlace} {sp : Nat -> Bool} (h : DataW.Trod enc Tryz.prog W 0 (fun _ => true) true 27 v d ps) (hb : Below W.heap.size W W') (hlt : ∀ x ∈ ps, x.block < W.heap.size) (hsp : ∀ x ∈ ps, sp x.block = true) :
  DataW.Trod enc Tryz.prog W' 0 sp true 27 v d ps := WideElems.Trod_stays (by kernel_rfl) (by kernel_rfl) (by show 27 < Tryz.prog.types.size; decide +kernel) h (fun x hx => hb.same (hlt x hx)) hsp
theorem callsRuns_contract (H : Type) (enc : TypeId × Value -> H) (W : World) (base : Nat) (args : Array Value) (ds gs : List (DataW H)) (before : List MemPlace)
  (hval : ∀ (j : Nat) t v, Tryz.f3.params[j]? = some t -> args[j]? = some v -> Value.okWide Tryz.prog W .any base t v)
  (hW : DataW.Whole enc Tryz.prog Tryz.f3.params.toList Rows.callsRunsSpec.vars false W args.toList ds gs before) (hk : Rows.uptoSmall H (ds ++ gs) = true) (hL : laidMetH Tryz.prog lawLaid W) :
  Calls Tryz.prog 3 args W fun e W' => ∃ v, e = .returned v /\ Rows.callsRunsSpec.post enc Tryz.prog Tryz.f3 false true false false W args v W' := by
 have hW' := hW
 have hlt := hW.lt
 obtain ⟨p, q, hA0, hV, rfl, hfz, hnd⟩ := hW
 have hA : DataW.TrodAll enc Tryz.prog W 0 (fun _ => true) true Tryz.f3.params.toList args.toList ds p := hA0
 rw [Tryz.params3] at hA hval
 obtain ⟨v0, v1, d0, d1, p0, p1, rfl, rfl, rfl, h0, h1⟩ := trodAll_two hA
 obtain ⟨rfl, rfl⟩ := trodVars_none hV
 have hb : bk H d0 <= 1048576 /\ bk H d1 <= 1048576 := by
  have := of_decide_eq_true hk
  simp only [List.append_nil, Rows.uptoBulkAll] at this
  show Rows.uptoBulk d0 <= _ /\ Rows.uptoBulk d1 <= _
  omega
 obtain ⟨a, ha, hr⟩ := open_arg Tryz.underlying26 (oProg H enc) (hval 0 26 v0 rfl rfl) h0 (fun x hx => hlt x (by simp [hx])) hb.1
 obtain ⟨g, hg, hr1⟩ := open_arg1 Tryz.underlying27 (oInts H enc) (hval 1 27 v1 rfl rfl) h1 (fun x hx => hlt x (by simp [hx])) hb.2
 have hr1 : VR (old W) [] W (.lst (intL (GS.list g)) 1 (GS.room g)) v1 := hr1 _ (GS.pic_eq _ _ _)
 have hrun := callsRuns_eq a ha.1 ha.2 (GS.list g) 1 (GS.room g)
 have run := entry_glob (T := told) (P := Tryz.prog) sx_prim (by kernel_rfl) hrun sx_close (sx_glob hL) (vs := [v0, v1]) ⟨rfl, fun i c hi => by
  match i, hi with
  | 0, hi => simp at hi; subst hi; exact ⟨v0, rfl, hr⟩
  | 1, hi => simp at hi; subst hi; exact ⟨v1, rfl, hr1⟩
  | i + 2, hi => simp at hi⟩
 simp only [List.append_nil] at hW' hlt
 refine run.mono fun e W' ⟨hB, u, s', he, hv⟩ => ?_
 cases hv
 subst he
 exact ⟨_, rfl, post_of_kept (ds := [d0, d1]) (gs := []) (pa := p0 ++ p1) (pv := []) (by simpa using hW') (fun _ _ _ => trodAll_mk1 (shut_bool Tryz.underlying4 _)) (fun sp hsp => by
  rw [Tryz.params3]
  exact trodAll_mk2 (stays h0 hB (fun x hx => hlt x (by simp [hx])) (fun x hx => hsp x (by simp [hx]))) (staysI h1 hB (fun x hx => hlt x (by simp [hx])) (fun x hx => hsp x (by simp [hx])))) (fun _ _ => rfl) (by simp) (same_of_below hB) (ok_one (by kernel_rfl) rfl (okWide_bool_mk Tryz.underlying4 _))⟩
theorem callsRuns_reads (os : Os) {H : Type} (enc : TypeId × Value -> H) : ∃ places, DataW.whole enc Tryz.prog ((lawWorld os).forCall (fun _ _ => 0) ⟨#[], #[noProg, .slice none 0 0], []⟩).memory Tryz.f3.params.toList Rows.callsRunsSpec.vars false #[noProg, .slice none 0 0].toList 8 = some ([.agg [.nil, .nil, .nil], .nil], [], places) :=
 ⟨[], by kernel_rfl⟩
theorem callsRuns_lifted (os : Os) (started : os.Started) (H : Type) (enc : TypeId × Value -> H) (F : Stop.Interp) :
  ReturnsInHanded {} Tryz.checked os 3 .any ((Rows.OpenSpec.upto Rows.callsRunsSpec).preRow enc Tryz.prog Tryz.f3 Rows.callsRunsUptoRow.domain false Rows.callsRunsUptoRow.laid) (((Rows.OpenSpec.upto Rows.callsRunsSpec).at F).post enc Tryz.prog Tryz.f3 false true false false) := by
 obtain ⟨places, hx⟩ := callsRuns_reads os enc
 refine returnsInHanded_of_row (C := Tryz.checked) (s := Rows.OpenSpec.upto Rows.callsRunsSpec) lawOwn started (by kernel_rfl) Tryz.func3
  (witness_row_at (enc := enc) (C := Tryz.checked) false (lawWorld os) #[noProg, .slice none 0 0] (World.laidAll_os _ _ _) (by kernel_rfl) (by kernel_rfl) (by kernel_rfl)
   (OpenSpec.preRow_of_cond 8 hx (by kernel_rfl) (fun k hk => by cases hk; kernel_rfl) (by kernel_rfl) (law_met os _))) ?_
 intro W base args ds gs before hval hW _ hcond _ hL _ _
 exact callsRuns_contract H enc W base args ds gs before hval hW (hcond _ rfl) hL
theorem callsRuns_said : Rows.CallsRunsUptoSaid :=
 OpenClaim.holds_of_cond 3 Tryz.f3 rfl rfl rfl rfl rfl rfl rfl ⟨rfl, rfl, rfl, rfl, rfl⟩ rfl rfl rfl rfl rfl (by kernel_rfl) Tryz.func3 (by kernel_rfl)
  (of_decide_eq_true (by kernel_rfl)) (by unfold Func.isWrapper; first | (rw [if_pos (by decide +kernel)]; kernel_rfl) | (rw [if_neg (by decide +kernel)]; exact ⟨rfl, rfl⟩))
  (fun os started H enc _ F => by rw [OpenClaim.pre_eq_preRow]; exact callsRuns_lifted os started H enc F)
theorem callsRuns_plain (f : FuncId) (fn : Func) (hf : Tryz.pinned.checked.prog.funcNamed Tryz.f3.name = some f) (hfn : Tryz.pinned.checked.prog.funcs[f]? = some fn) :
  false = Tryz.pinned.checked.prog.looks [] /\ ∀ (j : Nat) t, fn.params[j]? = some t -> Tryz.pinned.checked.prog.wantsStandIn t = false := by
 obtain rfl : f = 3 := Option.some.inj ((show Tryz.prog.funcNamed Tryz.f3.name = some 3 by kernel_rfl).symm.trans hf) |>.symm
 obtain rfl : fn = Tryz.f3 := (Option.some.inj (Tryz.func3.symm.trans hfn)).symm
 refine ⟨by kernel_rfl, fun j t ht => ?_⟩
 rw [Tryz.params3] at ht
 have : t = 26 ∨ t = 27 := by
  have := Array.mem_of_getElem? ht
  simp at this
  omega
 rcases this with rfl | rfl
 ·exact (show Tryz.prog.wantsStandIn 26 = false by kernel_rfl)
 ·exact (show Tryz.prog.wantsStandIn 27 = false by kernel_rfl)
theorem callsRuns_holds : Rows.CallsRunsUptoCardSaid :=
 Claim7.holds_tied_plain_at .later [] _ _ _ _ callsRuns_said (fun _ h => by cases h) (by kernel_rfl) (fun _ h => by cases h) callsRunsUpto_row_tie rfl ⟨rfl, rfl⟩ (by kernel_rfl) rfl callsRuns_plain (by kernel_rfl)
end Go.Proofs.YthljjckomhnhoaaGreatDoor
