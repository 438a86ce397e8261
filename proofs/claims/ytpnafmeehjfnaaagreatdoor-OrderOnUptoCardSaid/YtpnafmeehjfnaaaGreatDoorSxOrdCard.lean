/-
  'bobbin/bobbinlaw22.OrderOn' answers true: the tied card of its second form. Conditions: what it reads is of bulk at most 1048576; the listed package-level variables read as laid.
-/
import Derived.Test.YtpnafmeehjfnaaaGreatDoorPtC
import Derived.Test.YtpnafmeehjfnaaaGreatDoorRvRead
import Derived.Test.YtpnafmeehjfnaaaGreatDoorRvGlob
import Derived.Test.YtpnafmeehjfnaaaGreatDoorRows
import Derived.Test.YtpnafmeehjfnaaaGreatDoorTie
import Derived.Test.YtpnafmeehjfnaaaGreatDoorCards
import Derived.ProofKit
import Derived.LaidMore
import Derived.Lay
import Derived.SevenTiedAt
import Derived.Stop.Joined
import Derived.Deep.DeepHandedRow
set_option linter.unusedSectionVars false
set_option linter.defProp false
set_option linter.unusedSimpArgs false
set_option linter.unusedVariables false
set_option maxRecDepth 100000
namespace Go.Proofs.Sx
open Go.Rv Go.Proofs Go.ChangeShapes Go.WideShapes Go.ChangeAt Go.RowKit
noncomputable section
abbrev PP : Program := Tryz.prog
variable {H : Type} {enc : TypeId × Value → H}
/-- The rows' own measure. -/
abbrev bk (H : Type) : DataW H → Nat := YtpnafmeehjfnaaaGreatDoor.Rows.uptoBulk
theorem bulkOk {H : Type} : Bulk (bk H) (YtpnafmeehjfnaaaGreatDoor.Rows.uptoBulkAll) where
  str l := by simp [YtpnafmeehjfnaaaGreatDoor.Rows.uptoBulk]
  slice e s := by simp only [YtpnafmeehjfnaaaGreatDoor.Rows.uptoBulk]; omega
  agg e := by simp only [YtpnafmeehjfnaaaGreatDoor.Rows.uptoBulk]; omega
  cons d r := by simp only [YtpnafmeehjfnaaaGreatDoor.Rows.uptoBulkAll]
  pos d := by
    cases d with
    | lit l => cases l <;> simp [YtpnafmeehjfnaaaGreatDoor.Rows.uptoBulk]
    | nil => simp [YtpnafmeehjfnaaaGreatDoor.Rows.uptoBulk]
    | ptr d => simp [YtpnafmeehjfnaaaGreatDoor.Rows.uptoBulk]
    | slice elems spare => simp [YtpnafmeehjfnaaaGreatDoor.Rows.uptoBulk]
    | agg parts => simp [YtpnafmeehjfnaaaGreatDoor.Rows.uptoBulk]
    | iface t d => simp [YtpnafmeehjfnaaaGreatDoor.Rows.uptoBulk]
    | map entries => simp [YtpnafmeehjfnaaaGreatDoor.Rows.uptoBulk]
    | held h => simp [YtpnafmeehjfnaaaGreatDoor.Rows.uptoBulk]

abbrev OP (t : TypeId) {α : Type} (pic : α → List AV) (ok : α → Prop) : Prop := ∀ (H : Type) (enc : TypeId × Value → H), Opens enc PP (bk H) 1048576 t pic ok
abbrev wf64 (n : Int) : Prop := (Lit.int .i64 n).wf = true
theorem oInt : OP 3 (fun n : Int => [.int .i64 n]) wf64 := fun H enc => opens_int Tryz.underlying3
theorem oInts : OP 34 (GS.pic (fun n : Int => .int .i64 n) 1) (GS.ok 1048576 wf64) :=
  fun H enc => opens_slice bulkOk Tryz.underlying34 (oInt H enc) (by kernel_rfl) (by omega) _ (fun _ => rfl) (fun _ => rfl)
def GS.list {α : Type} : GS α → List α
  | .nil => []
  | .mk l _ => l
def GS.room {α : Type} : GS α → Room
  | .nil => .nil
  | .mk _ c => .exact c
theorem GS.pic_eq {α : Type} (el : α → AV) (z : Nat) (g : GS α) : GS.pic el z g = [.lst ((GS.list g).map el) z (GS.room g)] := by cases g <;> rfl
theorem GS.ok_all {α : Type} {B : Nat} {ok : α → Prop} {g : GS α} (h : GS.ok B ok g) : (GS.list g).length ≤ B ∧ ∀ a ∈ GS.list g, ok a := by
  cases g with
  | nil => exact ⟨by simp [GS.list], fun a ha => by simp [GS.list] at ha⟩
  | mk l c => exact h
def rowOf (q : GS Int) : SRow := ⟨GS.list q, 1, GS.room q⟩
theorem oIntss : OP 45 (GS.pic (fun q : GS Int => (rowOf q).val) 1) (GS.ok 1048576 (GS.ok 1048576 wf64)) :=
  fun H enc => opens_slice bulkOk Tryz.underlying45 (oInts H enc) (by kernel_rfl) (by omega) _ (fun q => by rw [GS.pic_eq]; rfl) (fun q => by rw [GS.pic_eq]; rfl)
/-- A slice that is an argument. -/
theorem open_arg1 {P : Program} {μ : DataW H → Nat} {B : Nat} {t e : TypeId} (ht : P.underlying t = some (.slice e)) {α : Type} {pic : α → List AV} {ok : α → Prop} (O : Opens enc P μ B t pic ok) {w : World} {r : Reach} {b0 : Nat} {v : Value} {d : DataW H} {ps : List MemPlace}
    (hv : Value.okWide P w r b0 t v) (h : DataW.Trod enc P w 0 (fun _ => true) true t v d ps) (hp : ∀ p ∈ ps, p.block < w.heap.size) (hb : μ d ≤ B) : ∃ a, ok a ∧ ∀ c, pic a = [c] → VR (old w) [] w c v := by
  obtain ⟨a0, len, cap, rfl⟩ := okWide_slice ht hv
  obtain ⟨n, hn⟩ := h
  obtain ⟨a, h1, h2⟩ := O w n _ _ hn hp hb
  refine ⟨a, h1, fun c hc => ?_⟩
  rw [hc] at h2
  obtain ⟨u, hu, hr⟩ := h2.2 0 c rfl
  simp [Value.cells] at hu
  subst hu
  exact hr
/-- A graph that was read reads the same behind the call. -/
theorem stays {W W' : World} {v : Value} {d : DataW H} {ps : List MemPlace} {sp : Nat → Bool} (h : DataW.Trod enc Tryz.prog W 0 (fun _ => true) true 45 v d ps) (hb : Below W.heap.size W W') (hlt : ∀ x ∈ ps, x.block < W.heap.size) (hsp : ∀ x ∈ ps, sp x.block = true) :
    DataW.Trod enc Tryz.prog W' 0 sp true 45 v d ps := WideElems.Trod_stays (by kernel_rfl) (by kernel_rfl) (by show 45 < Tryz.prog.types.size; decide +kernel) h (fun x hx => hb.same (hlt x hx)) hsp
def lawLaid : List (String × DataW Unit) := Go.Proofs.YtpnafmeehjfnaaaGreatDoor.Rows.orderOnUptoRow.laid
def lawWorld (os : Os) : World := World.laidAll Tryz.prog os lawLaid
theorem law_met (os : Os) (args : Array Value) : laidMet Tryz.prog lawLaid ((lawWorld os).forCall (fun _ _ => 0) ⟨#[], args, []⟩).memory := laidMet_laidAll args (by kernel_rfl) (by kernel_rfl)
end
end Go.Proofs.Sx

namespace Go.Proofs.YtpnafmeehjfnaaaGreatDoor
open Go.Rv Go.Proofs Go.Proofs.Sx Go.ChangeShapes Go.WideShapes Go.ChangeAt Go.RowKit
theorem orderOn_contract (H : Type) (enc : TypeId × Value → H) (W : World) (base : Nat) (args : Array Value) (ds gs : List (DataW H)) (before : List MemPlace)
    (hval : ∀ (j : Nat) t v, Tryz.f5.params[j]? = some t → args[j]? = some v → Value.okWide Tryz.prog W .any base t v)
    (hW : DataW.Whole enc Tryz.prog Tryz.f5.params.toList Rows.orderOnSpec.vars false W args.toList ds gs before) (hk : Rows.uptoSmall H (ds ++ gs) = true) (hL : laidMetH Tryz.prog Sx.lawLaid W) :
    Calls Tryz.prog 5 args W fun e W' => ∃ v, e = .returned v ∧ Rows.orderOnSpec.post enc Tryz.prog Tryz.f5 false true false false W args v W' := by
  have hW' := hW
  have hlt := hW.lt
  obtain ⟨p, q, hA0, hV, rfl, hfz, hnd⟩ := hW
  have hA : DataW.TrodAll enc Tryz.prog W 0 (fun _ => true) true Tryz.f5.params.toList args.toList ds p := hA0
  rw [Tryz.params5] at hA hval
  obtain ⟨v0, vs0, d0, ds0, p0, q0, e0, rfl, rfl, h0, hA⟩ := trodAll_cons hA
  obtain ⟨v1, vs1, d1, ds1, p1, q1, rfl, rfl, rfl, h1, hA⟩ := trodAll_cons hA
  obtain ⟨v2, vs2, d2, ds2, p2, q2, rfl, rfl, rfl, h2, hA⟩ := trodAll_cons hA
  obtain ⟨v3, vs3, d3, ds3, p3, q3, rfl, rfl, rfl, h3, hA⟩ := trodAll_cons hA
  obtain ⟨v4, vs4, d4, ds4, p4, q4, rfl, rfl, rfl, h4, hA⟩ := trodAll_cons hA
  obtain ⟨v5, vs5, d5, ds5, p5, q5, rfl, rfl, rfl, h5, hA⟩ := trodAll_cons hA
  obtain ⟨rfl, rfl, rfl⟩ := trodAll_nil hA
  obtain rfl : args = #[v0, v1, v2, v3, v4, v5] := by cases args with | mk l => simp only at e0; rw [e0]
  obtain ⟨x1, rfl, rfl, rfl, w1⟩ := open_int Tryz.underlying3 (hval 1 3 v1 rfl rfl) h1
  obtain ⟨x2, rfl, rfl, rfl, w2⟩ := open_int Tryz.underlying3 (hval 2 3 v2 rfl rfl) h2
  obtain ⟨x3, rfl, rfl, rfl, w3⟩ := open_int Tryz.underlying3 (hval 3 3 v3 rfl rfl) h3
  obtain ⟨x4, rfl, rfl, rfl, w4⟩ := open_int Tryz.underlying3 (hval 4 3 v4 rfl rfl) h4
  obtain ⟨x5, rfl, rfl, rfl, w5⟩ := open_int Tryz.underlying3 (hval 5 3 v5 rfl rfl) h5
  obtain ⟨rfl, rfl⟩ := trodVars_none hV
  have hb : bk H d0 ≤ 1048576 := by
    have := of_decide_eq_true hk
    simp only [List.append_nil, Rows.uptoBulkAll] at this
    show Rows.uptoBulk d0 ≤ _
    omega
  obtain ⟨ga, hga, hr⟩ := open_arg1 Tryz.underlying45 (oIntss H enc) (hval 0 45 v0 rfl rfl) h0 (fun x hx => hlt x (by simp [hx])) hb
  have hr := hr _ (GS.pic_eq _ _ _)
  obtain ⟨hg1, hg2⟩ := GS.ok_all hga
  have hrows : (GS.list ga).map (fun q => (rowOf q).val) = rowsL ((GS.list ga).map rowOf) := by simp only [rowsL, List.map_map, Function.comp_def]
  rw [hrows] at hr
  have hrun := orderOn_eq ((GS.list ga).map rowOf) 1 (GS.room ga) x1 x2 x3 x4 x5 (by rw [List.length_map]; omega) (fun row hm => by
    obtain ⟨q, hq, rfl⟩ := List.mem_map.1 hm
    have := (GS.ok_all (hg2 q hq)).1
    show (GS.list q).length < _
    omega)
  have run := entry_glob (T := told2) (P := Tryz.prog) sx_prim2 (by kernel_rfl) hrun glb_close (glb_laid hL) (vs := [v0, .int .i64 x1, .int .i64 x2, .int .i64 x3, .int .i64 x4, .int .i64 x5]) ⟨rfl, fun i c hi => by
    match i, hi with
    | 0, hi => simp at hi; subst hi; exact ⟨v0, rfl, hr⟩
    | 1, hi => simp at hi; subst hi; exact ⟨_, rfl, .int _ _⟩
    | 2, hi => simp at hi; subst hi; exact ⟨_, rfl, .int _ _⟩
    | 3, hi => simp at hi; subst hi; exact ⟨_, rfl, .int _ _⟩
    | 4, hi => simp at hi; subst hi; exact ⟨_, rfl, .int _ _⟩
    | 5, hi => simp at hi; subst hi; exact ⟨_, rfl, .int _ _⟩
    | i + 6, hi => simp at hi⟩
  simp only [List.append_nil] at hW' hlt
  refine run.mono fun e W' ⟨hB, u, s', he, hv⟩ => ?_
  cases hv
  subst he
  exact ⟨_, rfl, post_of_kept (ds := [d0, .lit (.int .i64 x1), .lit (.int .i64 x2), .lit (.int .i64 x3), .lit (.int .i64 x4), .lit (.int .i64 x5)]) (gs := []) (pa := p0 ++ ([] ++ ([] ++ ([] ++ ([] ++ []))))) (pv := []) (by simpa using hW') (fun _ _ _ => trodAll_mk1 (shut_bool Tryz.underlying4 _)) (fun sp hsp => by
    rw [Tryz.params5]
    exact ⟨p0, _, stays h0 hB (fun x hx => hlt x (by simp [hx])) (fun x hx => hsp x (by simp [hx])), ⟨[], _, shut_int Tryz.underlying3 w1, trodAll_mk4 (shut_int Tryz.underlying3 w2) (shut_int Tryz.underlying3 w3) (shut_int Tryz.underlying3 w4) (shut_int Tryz.underlying3 w5), rfl⟩, rfl⟩) (fun _ _ => rfl) (by simp) (same_of_below hB) (ok_one (by kernel_rfl) rfl (okWide_bool_mk Tryz.underlying4 _))⟩

theorem orderOn_reads (os : Os) {H : Type} (enc : TypeId × Value → H) : ∃ places, DataW.whole enc Tryz.prog ((lawWorld os).forCall (fun _ _ => 0) ⟨#[], #[.slice none 0 0, .int .i64 0, .int .i64 0, .int .i64 0, .int .i64 0, .int .i64 0], []⟩).memory Tryz.f5.params.toList Rows.orderOnSpec.vars false #[.slice none 0 0, .int .i64 0, .int .i64 0, .int .i64 0, .int .i64 0, .int .i64 0].toList 8 = some ([.nil, .lit (.int .i64 0), .lit (.int .i64 0), .lit (.int .i64 0), .lit (.int .i64 0), .lit (.int .i64 0)], [], places) :=
  ⟨[], by kernel_rfl⟩

theorem orderOn_lifted (os : Os) (started : os.Started) (H : Type) (enc : TypeId × Value → H) (F : Stop.Interp) :
    ReturnsInHanded {} Tryz.checked os 5 .any ((Rows.OpenSpec.upto Rows.orderOnSpec).preRow enc Tryz.prog Tryz.f5 Rows.orderOnUptoRow.domain false Rows.orderOnUptoRow.laid) (((Rows.OpenSpec.upto Rows.orderOnSpec).at F).post enc Tryz.prog Tryz.f5 false true false false) := by
  obtain ⟨places, hx⟩ := orderOn_reads os enc
  refine returnsInHanded_of_row (C := Tryz.checked) (s := Rows.OpenSpec.upto Rows.orderOnSpec) ownKnob0 started (by kernel_rfl) Tryz.func5
    (witness_row_at (enc := enc) (C := Tryz.checked) false (lawWorld os) #[.slice none 0 0, .int .i64 0, .int .i64 0, .int .i64 0, .int .i64 0, .int .i64 0] (World.laidAll_os _ _ _) (by kernel_rfl) (by kernel_rfl) (by kernel_rfl)
      (OpenSpec.preRow_of_cond 8 hx (by kernel_rfl) (fun k hk => by cases hk; kernel_rfl) (by kernel_rfl) (law_met os _))) ?_
  intro W base args ds gs before hval hW _ hcond _ hL _ _
  exact orderOn_contract H enc W base args ds gs before hval hW (hcond _ rfl) hL

theorem orderOn_said : Rows.OrderOnUptoSaid :=
  OpenClaim.holds_of_cond 5 Tryz.f5 rfl rfl rfl rfl rfl rfl rfl ⟨rfl, rfl, rfl, rfl, rfl⟩ rfl rfl rfl rfl rfl (by kernel_rfl) Tryz.func5 (by kernel_rfl)
    (of_decide_eq_true (by kernel_rfl)) (by unfold Func.isWrapper; first | (rw [if_pos (by decide +kernel)]; kernel_rfl) | (rw [if_neg (by decide +kernel)]; exact ⟨rfl, rfl⟩))
    (fun os started H enc _ F => by rw [OpenClaim.pre_eq_preRow]; exact orderOn_lifted os started H enc F)

theorem orderOn_plain (f : FuncId) (fn : Func) (hf : Tryz.pinned.checked.prog.funcNamed Tryz.f5.name = some f) (hfn : Tryz.pinned.checked.prog.funcs[f]? = some fn) :
    true = Tryz.pinned.checked.prog.looks [] ∧ ∀ (j : Nat) t, fn.params[j]? = some t → Tryz.pinned.checked.prog.wantsStandIn t = false := by
  obtain rfl : f = 5 := Option.some.inj ((show Tryz.prog.funcNamed Tryz.f5.name = some 5 by kernel_rfl).symm.trans hf) |>.symm
  obtain rfl : fn = Tryz.f5 := (Option.some.inj (Tryz.func5.symm.trans hfn)).symm
  refine ⟨by kernel_rfl, fun j t ht => ?_⟩
  rw [Tryz.params5] at ht
  have : t = 45 ∨ t = 3 := by
    have := Array.mem_of_getElem? ht
    simp at this
    omega
  rcases this with rfl | rfl
  · exact (show Tryz.prog.wantsStandIn 45 = false by kernel_rfl)
  · exact (show Tryz.prog.wantsStandIn 3 = false by kernel_rfl)

theorem orderOn_holds : Rows.OrderOnUptoCardSaid :=
  Claim7.holds_tied_plain_at .later [] _ _ _ _ orderOn_said (fun _ h => by cases h) (by kernel_rfl) (fun _ h => by cases h) orderOnUpto_row_tie rfl ⟨rfl, rfl⟩ (by kernel_rfl) rfl orderOn_plain (by kernel_rfl)
end Go.Proofs.YtpnafmeehjfnaaaGreatDoor
