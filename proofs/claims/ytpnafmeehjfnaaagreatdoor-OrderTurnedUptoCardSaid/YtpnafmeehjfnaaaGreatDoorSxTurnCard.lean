/-
  'bobbin/bobbinlaw22.OrderTurned' answers true: the tied card of its second form. Conditions: what it reads is of bulk at most 1048576; the listed package-level variables read as laid.
-/
import Derived.Test.YtpnafmeehjfnaaaGreatDoorPtS
import Derived.Test.YtpnafmeehjfnaaaGreatDoorPtH
import Derived.Test.YtpnafmeehjfnaaaGreatDoorRows
import Derived.Test.YtpnafmeehjfnaaaGreatDoorTie
import Derived.Test.YtpnafmeehjfnaaaGreatDoorCards
import Derived.ProofKit
import Derived.LaidMore
import Derived.Lay
import Derived.SevenTiedAt
import Derived.Stop.Joined
import Derived.Deep.DeepHandedRow
set_option linter.unusedSectionVars false
set_option linter.unusedSimpArgs false
set_option linter.unusedVariables false
set_option linter.defProp false
set_option maxRecDepth 100000
namespace Go.Proofs.Sx
open Go.Rv Go.Proofs Go.ChangeShapes Go.WideShapes Go.ChangeAt Go.RowKit
noncomputable section
abbrev PP : Program := Tryz.prog
variable {H : Type} {enc : TypeId × Value → H}
abbrev bk (H : Type) : DataW H → Nat := YtpnafmeehjfnaaaGreatDoor.Rows.uptoBulk
theorem bulkOk {H : Type} : Bulk (bk H) (YtpnafmeehjfnaaaGreatDoor.Rows.uptoBulkAll) where
  str l := by simp [YtpnafmeehjfnaaaGreatDoor.Rows.uptoBulk]
  slice e s := by simp only [YtpnafmeehjfnaaaGreatDoor.Rows.uptoBulk]; omega
  agg e := by simp only [YtpnafmeehjfnaaaGreatDoor.Rows.uptoBulk]; omega
  cons d r := by simp only [YtpnafmeehjfnaaaGreatDoor.Rows.uptoBulkAll]
  pos d := by
    cases d with
    | lit l => cases l <;> simp [YtpnafmeehjfnaaaGreatDoor.Rows.uptoBulk]
    | nil => simp [YtpnafmeehjfnaaaGreatDoor.Rows.uptoBulk]
    | ptr d => simp [YtpnafmeehjfnaaaGreatDoor.Rows.uptoBulk]
    | slice elems spare => simp [YtpnafmeehjfnaaaGreatDoor.Rows.uptoBulk]
    | agg parts => simp [YtpnafmeehjfnaaaGreatDoor.Rows.uptoBulk]
    | iface t d => simp [YtpnafmeehjfnaaaGreatDoor.Rows.uptoBulk]
    | map entries => simp [YtpnafmeehjfnaaaGreatDoor.Rows.uptoBulk]
    | held h => simp [YtpnafmeehjfnaaaGreatDoor.Rows.uptoBulk]
abbrev OP (t : TypeId) {α : Type} (pic : α → List AV) (ok : α → Prop) : Prop := ∀ (H : Type) (enc : TypeId × Value → H), Opens enc PP (bk H) 1048576 t pic ok
abbrev wf64 (n : Int) : Prop := (Lit.int .i64 n).wf = true
theorem oInt : OP 3 (fun n : Int => [.int .i64 n]) wf64 := fun H enc => opens_int Tryz.underlying3
def GS.list {α : Type} : GS α → List α
  | .nil => []
  | .mk l _ => l
def GS.room {α : Type} : GS α → Room
  | .nil => .nil
  | .mk _ c => .exact c
theorem GS.pic_eq {α : Type} (el : α → AV) (z : Nat) (g : GS α) : GS.pic el z g = [.lst ((GS.list g).map el) z (GS.room g)] := by cases g <;> rfl
theorem GS.ok_all {α : Type} {B : Nat} {ok : α → Prop} {g : GS α} (h : GS.ok B ok g) : (GS.list g).length ≤ B ∧ ∀ a ∈ GS.list g, ok a := by
  cases g with
  | nil => exact ⟨by simp [GS.list], fun a ha => by simp [GS.list] at ha⟩
  | mk l c => exact h
abbrev EdgeD := Int × Int × Int × Int × Unit
def edgePic (p : EdgeD) : List AV := [.int .i64 p.1] ++ ([.int .i64 p.2.1] ++ ([.int .i64 p.2.2.1] ++ ([.int .i64 p.2.2.2.1] ++ [])))
def edgeOk (p : EdgeD) : Prop := wf64 p.1 ∧ wf64 p.2.1 ∧ wf64 p.2.2.1 ∧ wf64 p.2.2.2.1 ∧ True
theorem oEdge : OP 49 edgePic edgeOk := fun H enc => by
  have F := opens_struct (enc := enc) bulkOk Tryz.underlying49 (opensF_cons (oInt H enc) (opensF_cons (oInt H enc) (opensF_cons (oInt H enc) (opensF_cons (oInt H enc) opensF_nil)))) (by kernel_rfl)
  exact F
theorem oEdges : OP 42 (GS.pic (fun p => .agg (edgePic p)) 4) (GS.ok 1048576 edgeOk) :=
  fun H enc => opens_slice bulkOk Tryz.underlying42 (oEdge H enc) (by kernel_rfl) (by omega) _ (fun _ => rfl) (fun _ => rfl)
def edgeOf (p : EdgeD) : SEdge := ⟨p.1, p.2.1, p.2.2.1, p.2.2.2.1⟩
theorem open_arg1 {P : Program} {μ : DataW H → Nat} {B : Nat} {t e : TypeId} (ht : P.underlying t = some (.slice e)) {α : Type} {pic : α → List AV} {ok : α → Prop} (O : Opens enc P μ B t pic ok) {w : World} {r : Reach} {b0 : Nat} {v : Value} {d : DataW H} {ps : List MemPlace}
    (hv : Value.okWide P w r b0 t v) (h : DataW.Trod enc P w 0 (fun _ => true) true t v d ps) (hp : ∀ p ∈ ps, p.block < w.heap.size) (hb : μ d ≤ B) : ∃ a, ok a ∧ ∀ c, pic a = [c] → VR (old w) [] w c v := by
  obtain ⟨a0, len, cap, rfl⟩ := okWide_slice ht hv
  obtain ⟨n, hn⟩ := h
  obtain ⟨a, h1, h2⟩ := O w n _ _ hn hp hb
  refine ⟨a, h1, fun c hc => ?_⟩
  rw [hc] at h2
  obtain ⟨u, hu, hr⟩ := h2.2 0 c rfl
  simp [Value.cells] at hu
  subst hu
  exact hr
theorem stays {W W' : World} {v : Value} {d : DataW H} {ps : List MemPlace} {sp : Nat → Bool} (h : DataW.Trod enc Tryz.prog W 0 (fun _ => true) true 42 v d ps) (hb : Below W.heap.size W W') (hlt : ∀ x ∈ ps, x.block < W.heap.size) (hsp : ∀ x ∈ ps, sp x.block = true) :
    DataW.Trod enc Tryz.prog W' 0 sp true 42 v d ps := WideElems.Trod_stays (by kernel_rfl) (by kernel_rfl) (by show 42 < Tryz.prog.types.size; decide +kernel) h (fun x hx => hb.same (hlt x hx)) hsp
def lawLaid : List (String × DataW Unit) := Go.Proofs.YtpnafmeehjfnaaaGreatDoor.Rows.orderTurnedUptoRow.laid
def lawWorld (os : Os) : World := World.laidAll Tryz.prog os lawLaid
theorem law_met (os : Os) (args : Array Value) : laidMet Tryz.prog lawLaid ((lawWorld os).forCall (fun _ _ => 0) ⟨#[], args, []⟩).memory := laidMet_laidAll args (by kernel_rfl) (by kernel_rfl)
end
end Go.Proofs.Sx
namespace Go.Proofs.YtpnafmeehjfnaaaGreatDoor
open Go.Rv Go.Proofs Go.Proofs.Sx Go.ChangeShapes Go.WideShapes Go.ChangeAt Go.RowKit
theorem orderTurned_contract (H : Type) (enc : TypeId × Value → H) (W : World) (base : Nat) (args : Array Value) (ds gs : List (DataW H)) (before : List MemPlace)
    (hval : ∀ (j : Nat) t v, Tryz.f6.params[j]? = some t → args[j]? = some v → Value.okWide Tryz.prog W .any base t v)
    (hW : DataW.Whole enc Tryz.prog Tryz.f6.params.toList Rows.orderTurnedSpec.vars false W args.toList ds gs before) (hk : Rows.uptoSmall H (ds ++ gs) = true) (hL : laidMetH Tryz.prog Sx.lawLaid W) :
    Calls Tryz.prog 6 args W fun e W' => ∃ v, e = .returned v ∧ Rows.orderTurnedSpec.post enc Tryz.prog Tryz.f6 false true false false W args v W' := by
  have hW' := hW
  have hlt := hW.lt
  obtain ⟨p, q, hA0, hV, rfl, hfz, hnd⟩ := hW
  have hA : DataW.TrodAll enc Tryz.prog W 0 (fun _ => true) true Tryz.f6.params.toList args.toList ds p := hA0
  rw [Tryz.params6] at hA hval
  obtain ⟨v0, v1, d0, d1, p0, p1, rfl, rfl, rfl, h0, h1⟩ := trodAll_two hA
  obtain ⟨x1, rfl, rfl, rfl, w1⟩ := open_int Tryz.underlying3 (hval 1 3 v1 rfl rfl) h1
  obtain ⟨rfl, rfl⟩ := trodVars_none hV
  have hb : bk H d0 ≤ 1048576 := by
    have := of_decide_eq_true hk
    simp only [List.append_nil, Rows.uptoBulkAll] at this
    show Rows.uptoBulk d0 ≤ _
    omega
  obtain ⟨ga, hga, hr⟩ := open_arg1 Tryz.underlying42 (oEdges H enc) (hval 0 42 v0 rfl rfl) h0 (fun x hx => hlt x (by simp [hx])) hb
  have hr := hr _ (GS.pic_eq _ _ _)
  obtain ⟨hg1, hg2⟩ := GS.ok_all hga
  have hrows : (GS.list ga).map (fun q => AV.agg (edgePic q)) = edgesL ((GS.list ga).map edgeOf) := by simp only [edgesL, List.map_map, Function.comp_def]; rfl
  rw [hrows] at hr
  have hrun := orderTurned_eq ((GS.list ga).map edgeOf) 4 (GS.room ga) x1 (by rw [List.length_map]; omega)
  have run := entry_glob (T := told2) (P := Tryz.prog) sx_prim2 (by kernel_rfl) hrun glb_close (glb_laid hL) (vs := [v0, .int .i64 x1]) ⟨rfl, fun i c hi => by
    match i, hi with
    | 0, hi => simp at hi; subst hi; exact ⟨v0, rfl, hr⟩
    | 1, hi => simp at hi; subst hi; exact ⟨_, rfl, .int _ _⟩
    | i + 2, hi => simp at hi⟩
  simp only [List.append_nil] at hW' hlt
  refine run.mono fun e W' ⟨hB, u, s', he, hv⟩ => ?_
  cases hv
  subst he
  exact ⟨_, rfl, post_of_kept (ds := [d0, .lit (.int .i64 x1)]) (gs := []) (pa := p0 ++ []) (pv := []) (by simpa using hW') (fun _ _ _ => trodAll_mk1 (shut_bool Tryz.underlying4 _)) (fun sp hsp => by
    rw [Tryz.params6]
    exact trodAll_mk2 (stays h0 hB (fun x hx => hlt x (by simp [hx])) (fun x hx => hsp x (by simp [hx]))) (shut_int Tryz.underlying3 w1)) (fun _ _ => rfl) (by simp) (same_of_below hB) (ok_one (by kernel_rfl) rfl (okWide_bool_mk Tryz.underlying4 _))⟩
theorem orderTurned_reads (os : Os) {H : Type} (enc : TypeId × Value → H) : ∃ places, DataW.whole enc Tryz.prog ((lawWorld os).forCall (fun _ _ => 0) ⟨#[], #[.slice none 0 0, .int .i64 0], []⟩).memory Tryz.f6.params.toList Rows.orderTurnedSpec.vars false #[.slice none 0 0, .int .i64 0].toList 8 = some ([.nil, .lit (.int .i64 0)], [], places) :=
  ⟨[], by kernel_rfl⟩
theorem orderTurned_lifted (os : Os) (started : os.Started) (H : Type) (enc : TypeId × Value → H) (F : Stop.Interp) :
    ReturnsInHanded {} Tryz.checked os 6 .any ((Rows.OpenSpec.upto Rows.orderTurnedSpec).preRow enc Tryz.prog Tryz.f6 Rows.orderTurnedUptoRow.domain false Rows.orderTurnedUptoRow.laid) (((Rows.OpenSpec.upto Rows.orderTurnedSpec).at F).post enc Tryz.prog Tryz.f6 false true false false) := by
  obtain ⟨places, hx⟩ := orderTurned_reads os enc
  refine returnsInHanded_of_row (C := Tryz.checked) (s := Rows.OpenSpec.upto Rows.orderTurnedSpec) ownKnob0 started (by kernel_rfl) Tryz.func6
    (witness_row_at (enc := enc) (C := Tryz.checked) false (lawWorld os) #[.slice none 0 0, .int .i64 0] (World.laidAll_os _ _ _) (by kernel_rfl) (by kernel_rfl) (by kernel_rfl)
      (OpenSpec.preRow_of_cond 8 hx (by kernel_rfl) (fun k hk => by cases hk; kernel_rfl) (by kernel_rfl) (law_met os _))) ?_
  intro W base args ds gs before hval hW _ hcond _ hL _ _
  exact orderTurned_contract H enc W base args ds gs before hval hW (hcond _ rfl) hL
theorem orderTurned_said : Rows.OrderTurnedUptoSaid :=
  OpenClaim.holds_of_cond 6 Tryz.f6 rfl rfl rfl rfl rfl rfl rfl ⟨rfl, rfl, rfl, rfl, rfl⟩ rfl rfl rfl rfl rfl (by kernel_rfl) Tryz.func6 (by kernel_rfl)
    (of_decide_eq_true (by kernel_rfl)) (by unfold Func.isWrapper; first | (rw [if_pos (by decide +kernel)]; kernel_rfl) | (rw [if_neg (by decide +kernel)]; exact ⟨rfl, rfl⟩))
    (fun os started H enc _ F => by rw [OpenClaim.pre_eq_preRow]; exact orderTurned_lifted os started H enc F)
theorem orderTurned_plain (f : FuncId) (fn : Func) (hf : Tryz.pinned.checked.prog.funcNamed Tryz.f6.name = some f) (hfn : Tryz.pinned.checked.prog.funcs[f]? = some fn) :
    true = Tryz.pinned.checked.prog.looks [] ∧ ∀ (j : Nat) t, fn.params[j]? = some t → Tryz.pinned.checked.prog.wantsStandIn t = false := by
  obtain rfl : f = 6 := Option.some.inj ((show Tryz.prog.funcNamed Tryz.f6.name = some 6 by kernel_rfl).symm.trans hf) |>.symm
  obtain rfl : fn = Tryz.f6 := (Option.some.inj (Tryz.func6.symm.trans hfn)).symm
  refine ⟨by kernel_rfl, fun j t ht => ?_⟩
  rw [Tryz.params6] at ht
  have : t = 42 ∨ t = 3 := by
    have := Array.mem_of_getElem? ht
    simp at this
    omega
  rcases this with rfl | rfl
  · exact (show Tryz.prog.wantsStandIn 42 = false by kernel_rfl)
  · exact (show Tryz.prog.wantsStandIn 3 = false by kernel_rfl)
theorem orderTurned_holds : Rows.OrderTurnedUptoCardSaid :=
  Claim7.holds_tied_plain_at .later [] _ _ _ _ orderTurned_said (fun _ h => by cases h) (by kernel_rfl) (fun _ h => by cases h) orderTurnedUpto_row_tie rfl ⟨rfl, rfl⟩ (by kernel_rfl) rfl orderTurned_plain (by kernel_rfl)
end Go.Proofs.YtpnafmeehjfnaaaGreatDoor
