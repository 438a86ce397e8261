/-
  package run: the three ways of going on.
-/
import Derived.Test.YtlimadookjcbmaaGreatDoorPtP
import Derived.Test.YtlimadookjcbmaaGreatDoorPtH
import Derived.Test.YtlimadookjcbmaaGreatDoorRows
import Derived.Shelf.SortM.Plain
import Derived.Shelf.SortM.SortNone
import Derived.Ground.SlgmProg
import Derived.Test.YtlimadookjcbmaaGreatDoorChecked
import Derived.Test.YtlimadookjcbmaaGreatDoorPtI
set_option linter.unusedSectionVars false
set_option linter.unusedSimpArgs false
set_option linter.unusedVariables false
set_option linter.defProp false
set_option maxHeartbeats 8000000
set_option maxRecDepth 100000
namespace Go.Proofs.Sx
open Go.Rv Go.Proofs
attribute [local congr] bind_left got_left
noncomputable section
theorem pu16 : cfg.pure 16 = false := rfl
instance t16 {d : Option Nat} : TightD cfg 16 d := ⟨fun _ _ => rfl⟩
def B16 (p : List Bool) := cA p Tryz.f16.body
def R16 (p : List Bool) (i : Nat) := Code.region i (cA p Tryz.f16.body) false
theorem F16 : (∀ p i, XR cfg 16 (R16 p i) (B16 p) (cA p Tryz.f16.body).toList i false) ∧ RE cfg 16 [0, 4, 5] ∧ cfg.pure 16 = false := ⟨fun _ _ => xr rfl rfl, rE fun _ => rfl, rfl⟩
def k16 : Code := (.seq (R16 [ff] 0) (.seq (R16 [tt, ff] 1) .ret))
theorem call16 (x0 x1 : AV) (h : Heap) : call cfg 16 [x0, x1] h = (exec cfg 16 k16 [(0, x0), (1, x1)] h).bind (callEnd cfg 16 h [.tmp 4, .tmp 5]) := call_at2 (fnat Tryz.func16 (b := k16) (by kernel_rfl) (by kernel_rfl)) rfl rfl
theorem pu19 : cfg.pure 19 = false := rfl
instance t19 {d : Option Nat} : TightD cfg 19 d := ⟨fun _ _ => rfl⟩
def B19 (p : List Bool) := cA p Tryz.f19.body
def R19 (p : List Bool) (i : Nat) := Code.region i (cA p Tryz.f19.body) false
theorem F19 : (∀ p i, XR cfg 19 (R19 p i) (B19 p) (cA p Tryz.f19.body).toList i false) ∧ RE cfg 19 [0, 1, 2, 5, 6] ∧ cfg.pure 19 = false := ⟨fun _ _ => xr rfl rfl, rE fun _ => rfl, rfl⟩
def k19 : Code := (.seq (R19 [ff] 0) (.seq (R19 [tt, ff] 1) .ret))
theorem call19 (x0 x1 x2 : AV) (h : Heap) : call cfg 19 [x0, x1, x2] h = (exec cfg 19 k19 [(0, x0), (1, x1), (2, x2)] h).bind (callEnd cfg 19 h [.tmp 5, .tmp 6]) := call_at2 (fnat Tryz.func19 (b := k19) (by kernel_rfl) (by kernel_rfl)) rfl rfl
theorem pu22 : cfg.pure 22 = false := rfl
instance t22_5 : TightD cfg 22 (some 5) := tgS rfl
instance t22_6 : TightD cfg 22 (some 6) := tgS rfl
instance t22_7 : TightD cfg 22 (some 7) := tgS rfl
instance t22_8 : TightD cfg 22 (some 8) := tgS rfl
instance t22_9 : TightD cfg 22 (some 9) := tgS rfl
instance t22_10 : TightD cfg 22 (some 10) := tgS rfl
instance t22_11 : TightD cfg 22 (some 11) := tgS rfl
instance t22_12 : TightD cfg 22 (some 12) := tgS rfl
instance t22_13 : TightD cfg 22 (some 13) := tgS rfl
instance t22_14 : TightD cfg 22 (some 14) := tgS rfl
instance t22_15 : TightD cfg 22 (some 15) := tgS rfl
instance t22_n : TightD cfg 22 none := tgN
def B22 (p : List Bool) := cA p Tryz.f22.body
def R22 (p : List Bool) (i : Nat) := Code.region i (cA p Tryz.f22.body) false
def D22 (p : List Bool) (i : Nat) := Code.region i (cA p Tryz.f22.body) true
theorem F22 : (∀ p i, XR cfg 22 (R22 p i) (B22 p) (cA p Tryz.f22.body).toList i false) ∧ XR cfg 22 (D22 [tt, ff] 1) (B22 [tt, ff]) ((cA [tt, ff] Tryz.f22.body).toList) 1 true ∧ RE cfg 22 [0, 1, 2, 5, 6] ∧ cfg.pure 22 = false := ⟨fun _ _ => xr rfl rfl, xd (by kernel_rfl) rfl rfl, rE fun _ => rfl, rfl⟩
theorem lb22_1_16_0 (e : Env) (h : Heap) : looseB cfg 22 (B22 [tt, ff]) e h 0 = (((known (e.get 2)).bind fun x => loadA cfg h 31 x).map fun v => AV.eqb v (e.get 7)).getD false := lb_load rfl rfl
def k22 : Code := (.seq (R22 [ff] 0) (.seq (D22 [tt, ff] 1) .ret))
theorem call22 (x0 x1 x2 : AV) (h : Heap) : call cfg 22 [x0, x1, x2] h = (exec cfg 22 k22 [(0, x0), (1, x1), (2, x2)] h).bind (callEnd cfg 22 h [.tmp 5, .tmp 6]) := call_at2 (fnat Tryz.func22 (b := k22) (by kernel_rfl) (by kernel_rfl)) rfl rfl
section
variable {C : Cfg} {f : Nat} {os : Array Oper} {e : Env} {h : Heap} {i x y t d : Nat} {ty : TypeId} {ps : String} {af : Array Edge}
theorem lb_indexAddr (ho : os[i]? = some ⟨some d, .indexAddr t (.tmp x) (.tmp y), ty, ps, af, none⟩) : looseB C f os e h i = (((known (e.get x)).bind fun x => (known (e.get y)).bind fun y => indexAddrA C h t x y).map fun v => AV.eqb v (e.get d)).getD false := by
  simp only [looseB, ho, wantA, opA, evalA_tmp, Option.bind_eq_bind]
  cases known (e.get x) with
  | none => rfl
  | some x =>
    simp only [Option.bind_some]
    cases known (e.get y) with
    | none => rfl
    | some y =>
      simp only [Option.bind_some]
      cases indexAddrA C h t x y <;> rfl
end
theorem lbx22_2 (e : Env) (h : Heap) : looseB cfg 22 (B22 [tt, ff]) e h 2 = (((known (e.get 7)).bind fun x => (known (e.get 8)).bind fun y => indexAddrA cfg h 31 x y).map fun v => AV.eqb v (e.get 9)).getD false := lb_indexAddr rfl
theorem lbx22_3 (e : Env) (h : Heap) : looseB cfg 22 (B22 [tt, ff]) e h 3 = (((known (e.get 9)).bind fun x => loadA cfg h 3 x).map fun v => AV.eqb v (e.get 10)).getD false := lb_load rfl rfl
theorem lax22_16 (e : Env) (h : Heap) : looseAll cfg 22 (B22 [tt, ff]) (some 16) e h = (((((known (e.get 2)).bind fun x => loadA cfg h 31 x).map fun v => AV.eqb v (e.get 7)).getD false) && (((((known (e.get 7)).bind fun x => (known (e.get 8)).bind fun y => indexAddrA cfg h 31 x y).map fun v => AV.eqb v (e.get 9)).getD false) && ((((known (e.get 9)).bind fun x => loadA cfg h 3 x).map fun v => AV.eqb v (e.get 10)).getD false))) := by
  have : cfg.loose 22 16 = [0, 2, 3] := rfl
  simp only [looseAll, this, List.all_cons, List.all_nil, Bool.and_true, lb22_1_16_0, lbx22_2, lbx22_3]
def goTurns (p : SProg) (σ : SSt) (_ : Nat) : Int × Int × SSt := match nextN p σ with
  | none => (0, 69, σ)
  | some t => ((t : Int), 0, stepS p σ t)
def goPick (p : SProg) (l : List Int) (σ : SSt) (i : Nat) : Int × Int × SSt :=
  if ableL p σ = [] then (0, 69, σ) else ((pickN p σ (l.getD i 0) : Int), 0, stepS p σ (pickN p σ (l.getD i 0)))
def goLike (p : SProg) (l : List Int) (σ : SSt) (i : Nat) : Int × Int × SSt :=
  (l.getD i 0, stepErr p σ (l.getD i 0), if stepErr p σ (l.getD i 0) = 0 then stepS p σ (l.getD i 0).toNat else σ)
theorem goes_turns {p : SProg} (P : ProgOk p) (N : Nat) : Goes p (.clo 16 []) (goTurns p) N where
  kn := rfl
  call := fun {H ρ s σ K i} A W hK hL hi => by
    have hn := next_eq A P W hK hL.1
    unfold goTurns
    cases h : nextN p σ with
    | none =>
      rw [h] at hn
      refine ⟨H, ρ, ?_, A, Frm.refl _ _, W.up (by omega), hL⟩
      simp only at hn
      rw [callv_clo, List.append_nil, call16]
      simp only [F16, k16, Tryz.f16, sxAll, cA, Env.keep, qt_eq, resultsA, packA, mapO, ↓Option.bind_some, Nat.reduceBEq, ↓reduceIte, hn, pu17]
      exact leave_impure pu16
    | some t =>
      rw [h] at hn
      obtain ⟨H', ρ', hc, A', F'⟩ := hn
      refine ⟨H', ρ', ?_, A', F', step_ok P W t, hL.step W t⟩
      rw [callv_clo, List.append_nil, call16]
      simp only [F16, k16, Tryz.f16, sxAll, cA, Env.keep, qt_eq, resultsA, packA, mapO, ↓Option.bind_some, Nat.reduceBEq, ↓reduceIte, hc, pu17]
      exact leave_impure pu16
theorem goes_pick {p : SProg} (P : ProgOk p) (l : List Int) (z : Nat) (r : Room) : Goes p (.clo 19 [.ref [.lst (intL l) z r]]) (goPick p l) l.length where
  kn := rfl
  call := fun {H ρ s σ K i} A W hK hL hi => by
    have hx : (intL l)[i]? = some (.int .i64 (l.getD i 0)) := by
      rw [List.getD_eq_getElem?_getD, List.getElem?_eq_getElem hi]; simp [intL, hi]
    unfold goPick
    by_cases h : ableL p σ = []
    · have hn := pick_no A P W hK (l.getD i 0) h
      refine ⟨H, ρ, ?_, by rw [if_pos h]; exact A, by exact Frm.refl _ _, by rw [if_pos h]; exact W.up (by omega), by rw [if_pos h]; exact hL⟩
      rw [if_pos h, callv_clo, List.cons_append, List.cons_append, List.nil_append, call19]
      simp only [F19, k19, Tryz.f19, sxAll, cA, Env.keep, qt_eq, resultsA, packA, indexAddrA, loadA, Rv.part, cellsAt, TD.isAgg, mapO, ↓Option.bind_some, Nat.reduceBEq, Nat.reduceAdd, ↓reduceIte, hx, hn, pu20, ty31, ty3]
      exact leave_impure pu19
    · obtain ⟨H', ρ', hc, A', F'⟩ := pick_yes A P W hK (l.getD i 0) h
      rw [if_neg h]
      refine ⟨H', ρ', ?_, A', F', step_ok P W _, hL.step W _⟩
      rw [callv_clo, List.cons_append, List.cons_append, List.nil_append, call19]
      simp only [F19, k19, Tryz.f19, sxAll, cA, Env.keep, qt_eq, resultsA, packA, indexAddrA, loadA, Rv.part, cellsAt, TD.isAgg, mapO, ↓Option.bind_some, Nat.reduceBEq, Nat.reduceAdd, ↓reduceIte, hx, hc, pu20, ty31, ty3]
      exact leave_impure pu19
theorem stepErr_nat {p : SProg} {σ : SSt} {t : Int} (h : stepErr p σ t = 0) : t = (t.toNat : Int) ∧ canB p σ t.toNat = true := by
  unfold stepErr at h
  split at h
  · cases h
  · split at h
    · rename_i h1 h2
      exact ⟨by omega, h2⟩
    · cases h
theorem goes_like {p : SProg} (P : ProgOk p) (l : List Int) (z : Nat) (r : Room) : Goes p (.clo 22 [.ref [.lst (intL l) z r]]) (goLike p l) l.length where
  kn := rfl
  call := fun {H ρ s σ K i} A W hK hL hi => by
    have hx : (intL l)[i]? = some (.int .i64 (l.getD i 0)) := by
      rw [List.getD_eq_getElem?_getD, List.getElem?_eq_getElem hi]; simp [intL, hi]
    unfold goLike
    generalize l.getD i 0 = t at *
    by_cases h : stepErr p σ t = 0
    · obtain ⟨e, hb⟩ := stepErr_nat h
      obtain ⟨H', ρ', hc, A', F'⟩ := step_yes A P W hK hb
      rw [← e] at hc
      rw [if_pos h]
      refine ⟨H', ρ', ?_, A', F', step_ok P W _, hL.step W _⟩
      rw [h, callv_clo, List.cons_append, List.cons_append, List.nil_append, call22]
      simp only [F22, k22, Tryz.f22, sxAll, cA, Env.keep, qt_eq, resultsA, packA, indexAddrA, loadA, Rv.part, cellsAt, TD.isAgg, mapO, ↓Option.bind_some, Nat.reduceBEq, Nat.reduceAdd, ↓reduceIte, hx, hc, pu23, sx_callf_l, lax22_16, eqb_self, ty31, ty3]
      exact leave_impure pu22
    · have hc := step_no A P W hK h
      rw [if_neg h]
      refine ⟨H, ρ, ?_, A, Frm.refl _ _, W.up (by omega), hL⟩
      rw [callv_clo, List.cons_append, List.cons_append, List.nil_append, call22]
      simp only [F22, k22, Tryz.f22, sxAll, cA, Env.keep, qt_eq, resultsA, packA, indexAddrA, loadA, Rv.part, cellsAt, TD.isAgg, mapO, ↓Option.bind_some, Nat.reduceBEq, Nat.reduceAdd, ↓reduceIte, hx, hc, pu23, sx_callf_l, lax22_16, eqb_self, ty31, ty3]
      exact leave_impure pu22
end
end Go.Proofs.Sx
namespace Go.Proofs.Sx
open Go.Rv Go.Proofs
attribute [local congr] bind_left got_left
noncomputable section
theorem fz_agg (h : Heap) (n d : Nat) (cs : List AV) : freezeV h n (d + 1) (.agg cs) = (mapO (freezeV h n d) cs).map AV.agg := rfl
theorem fz_tup (h : Heap) (n d : Nat) (cs : List AV) : freezeV h n (d + 1) (.tup cs) = (mapO (freezeV h n d) cs).map AV.tup := rfl
theorem fz_int (h : Heap) (n d : Nat) (k : IntKind) (x : Int) : freezeV h n (d + 1) (.int k x) = some (.int k x) := rfl
theorem ResA.still {x : SSt × List Int} {v : AV} (R : ResA x v) (h : Heap) (n d : Nat) : freezeV h n (d + 4) v = some v := by
  obtain ⟨z, r, a, z', r', rfl, hI⟩ := R
  rw [fz_agg]
  simp only [mapO, fz_int, freeze_lint, hI.rows.still, Option.bind_eq_bind, Option.bind_some, Option.map_some]
def resN : AV := .agg [.int .u8 0, .lst [] 0 .nil, .lst [] 0 .nil, .int .i64 0, .lst [] 0 .nil]
theorem start_good {p : SProg} (hm : mayP p = true) : SOk (ownP p) 1 (startS (ownP p)) ∧ Good (startS (ownP p)) := by
  have P := (prog_ok hm).own
  have W := (startS_ok hm).1
  have e : startS (ownP p) = endS (ownP p) (start0 (ownP p) (thr p.funs 0)) := by
    unfold startS
    rw [show thr (ownP p).funs 0 = thr p.funs 0 from thr_own p.funs 0]
  rw [e]
  have hE : SOk (ownP p) 1 (endS (ownP p) (start0 (ownP p) (thr p.funs 0))) := by
    obtain ⟨_, _, e3, _, e5⟩ := endS_cases (ownP p) (start0 (ownP p) (thr p.funs 0))
    exact ⟨by rw [e3]; exact W.fr, by rw [e3]; exact W.call, by rw [e3]; exact W.deep, by rw [e5]; exact W.outs, by rw [e3]; exact W.few⟩
  refine ⟨hE, ?_, ?_, ?_⟩
  · unfold LastOk; rw [endS_last]; simp [start0]
  · rw [endS_cells]
    have := P.count
    simp [start0, cells0]; omega
  · rw [endS_cells]
    intro n hn
    simp only [start0, cells0, List.map_map, List.mem_map, Function.comp, List.length_replicate] at hn
    obtain ⟨m, hm, rfl⟩ := hn
    have := P.size m hm
    omega
theorem pu21 : cfg.pure 21 = true := rfl
instance t21 {d : Option Nat} : TightD cfg 21 d := ⟨fun _ _ => rfl⟩
def B21 (p : List Bool) := cA p Tryz.f21.body
def R21 (p : List Bool) (i : Nat) := Code.region i (cA p Tryz.f21.body) false
theorem F21 : (∀ p i, XR cfg 21 (R21 p i) (B21 p) (cA p Tryz.f21.body).toList i false) ∧ cfg.imm 21 2 = true ∧ cfg.imm 21 3 = true ∧ RE cfg 21 [0, 1, 2, 3, 4, 5, 6, 7, 14] ∧ cfg.pure 21 = true := ⟨fun _ _ => xr rfl rfl, by kernel_rfl, by kernel_rfl, rE fun _ => rfl, rfl⟩
def k21 : Code := (.seq (R21 [ff] 0) (.seq (R21 [tt, ff] 1) (.seq (.seq (R21 [tt, tt, ff, ff] 2) (.cond (.tmp 14) (.seq (R21 [tt, tt, ff, tt, ff, ff] 3) .ret) .skip)) (.seq (R21 [tt, tt, tt, ff] 4) .ret))))
theorem call21 (x0 x1 : AV) (h : Heap) : call cfg 21 [x0, x1] h = (exec cfg 21 k21 [(0, x0), (1, x1)] h).bind (callEnd cfg 21 h [.cell 4 33, .tmp 5]) := call_at2 (fnat Tryz.func21 (b := k21) (by kernel_rfl) (by kernel_rfl)) rfl rfl
section
variable {p : SProg} (hw : p.wf) (hn : p.nils) (hs : p.small)
def runR (p : SProg) (go : SSt → Nat → Int × Int × SSt) (b : Bool) (N : Nat) : SSt × List Int := runGo go b N 0 (startS (ownP p)) []
include hw
theorem start_no (hm : mayP p = false) (c : AV) (N : Int) (b : Bool) (hk : known c = some c) (h : Heap) : call cfg 21 [.agg [c, .int .i64 N, .bool b], .agg p.cells] h = some (.ret (.tup [resN, .int .i64 4]), h) := by
  have hnw := new_no p hw hm (h ++ [.cells [.int .u8 0, .lst [] 0 .nil, .lst [] 0 .nil, .int .i64 0, .lst [] 0 .nil] 0])
  rw [call21]
  simp only [SProg.cells] at hnw ⊢
  simp only [F21, k21, Tryz.f21, sxAll, cA, arithA, Env.keep, qt_eq, resultsA, packA, storeA, loadA, Rv.part, cellsAt, TD.isAgg, buildA, fillA, setCells, mapO, ↓Option.bind_some, Nat.reduceBEq, Nat.reduceAdd, Nat.reduceLeDiff, Int.reduceBEq, bne, ↓reduceIte, hnw, known_nilPtr, pu15, ty33, ty26, ty57]
  exact leave_pure rfl (by simp) rfl
include hn hs
theorem start_yes (hm : mayP p = true) {c : AV} {go : SSt → Nat → Int × Int × SSt} {N : Nat} (G : Goes (ownP p) c go N) (hN : N ≤ 1000000) (b : Bool) (h : Heap) :
    ∃ v, call cfg 21 [.agg [c, .int .i64 N, .bool b], .agg p.cells] h = some (.ret (.tup [v, .int .i64 0]), h) ∧ ResA (runR p go b N) v := by
  unfold runR
  obtain ⟨H1, ρ, s, hnew, A, hle, hk⟩ := new_yes p hw hn hs hm (h ++ [.cells [.int .u8 0, .lst [] 0 .nil, .lst [] 0 .nil, .int .i64 0, .lst [] 0 .nil] 0])
  obtain ⟨W, L⟩ := start_good hm
  obtain ⟨H2, v, hrun, hR, hle2, hk2⟩ := wayRun_eq G hN b A W (by omega) L
  refine ⟨v, ?_, hR⟩
  have hkc := G.kn
  have hst := hR.still
  simp only [List.length_append, List.length_singleton] at hle
  have hob : H2.obj h.length 0 = some [.int .u8 0, .lst [] 0 .nil, .lst [] 0 .nil, .int .i64 0, .lst [] 0 .nil] := by
    have hz : (h ++ [AObj.cells [.int .u8 0, .lst [] 0 .nil, .lst [] 0 .nil, .int .i64 0, .lst [] 0 .nil] 0]).obj h.length 0 = some [.int .u8 0, .lst [] 0 .nil, .lst [] 0 .nil, .int .i64 0, .lst [] 0 .nil] := by rw [obj_app0, obj_zero]
    have k1 := hk h.length (by simp)
    exact obj_of (obj_of hz k1.1) (hk2 h.length (by omega) k1.2)
  have hlo := live_of hob
  obtain ⟨z, rm, a, z', rm', rfl, hI⟩ := hR
  have hI' := hI
  obtain ⟨es, za, ra, rfl, _⟩ := hI'
  generalize runGo go b N 0 (startS (ownP p)) [] = x at *
  obtain ⟨σ', row⟩ := x
  have hsto : ∀ vs : List AV, vs = [.int .u8 σ'.ending, .lst (intL σ'.out) z rm, .lst es za ra, .int .i64 row.length, .lst (intL row) z' rm'] → storeA cfg H2 33 (.ptr h.length 0 0) (.agg vs) = some (H2.set h.length (.cells vs 0)) := fun vs hv => by
    subst hv
    simp [storeA, ty33, hob, AV.cells, AV.leaf, setCells]
  have hsto' := hsto _ rfl
  have hob' := obj_sets (cs' := [.int .u8 σ'.ending, .lst (intL σ'.out) z rm, .lst es za ra, .int .i64 row.length, .lst (intL row) z' rm']) hob 0
  have hlo' := live_of hob'
  rw [call21]
  simp only [SProg.cells] at hnew ⊢
  simp only [F21, k21, Tryz.f21, sxAll, cA, arithA, Env.keep, qt_eq, resultsA, packA, Rv.part, TD.isAgg, mapO, ↓Option.bind_some, Nat.reduceBEq, Nat.reduceAdd, Nat.reduceLeDiff, bne, ↓reduceIte, load_ptr, load_ref, hnew, hrun, hsto', hob', pu15, pu18, ty33, ty26, ty57]
  refine leave_pure pu21 ?_ ?_
  · rw [List.take_set_of_le (Nat.le_refl _)]
    apply List.ext_getElem?
    intro j
    by_cases hj : j < h.length
    · have k1 := hk j (by simp; omega)
      rw [List.getElem?_take_of_lt hj, hk2 j (by omega) k1.2, k1.1, List.getElem?_append_left hj]
    · rw [List.getElem?_eq_none (by simp; omega), List.getElem?_eq_none (by omega)]
  · rw [fz_tup]
    simp only [mapO, fz_int, hst, Option.bind_eq_bind, Option.bind_some, Option.map_some]
end
end
end Go.Proofs.Sx
namespace Go.Proofs.Sx
open Go.Rv Go.Proofs
attribute [local congr] bind_left got_left
noncomputable section
theorem store_res (h : Heap) (vs : List AV) (a0 a1 a2 a3 a4 : AV) (hl : vs.length = 5) (hlf : vs.all AV.leaf = true) : storeA cfg (h ++ [.cells [a0, a1, a2, a3, a4] 0]) 33 (.ptr h.length 0 0) (.agg vs) = some (h ++ [.cells vs 0]) := by
  match vs, hl with
  | [b0, b1, b2, b3, b4], _ =>
    simp [AV.leaf] at hlf
    simp [storeA, ty33, obj_app0, obj_zero, AV.cells, AV.leaf, setCells, hlf]
theorem clo_cells (g : Nat) (cs : List AV) : AV.cells (.clo g cs) = [.clo g cs] := rfl
theorem pu11 : cfg.pure 11 = true := rfl
instance t11 {d : Option Nat} : TightD cfg 11 d := ⟨fun _ _ => rfl⟩
def B11 (p : List Bool) := cA p Tryz.f11.body
def R11 (p : List Bool) (i : Nat) := Code.region i (cA p Tryz.f11.body) false
theorem F11 : (∀ p i, XR cfg 11 (R11 p i) (B11 p) (cA p Tryz.f11.body).toList i false) ∧ cfg.imm 11 2 = true ∧ cfg.imm 11 3 = true ∧ RE cfg 11 [0, 1, 2, 3, 4, 5] ∧ cfg.pure 11 = true := ⟨fun _ _ => xr rfl rfl, by kernel_rfl, by kernel_rfl, rE fun _ => rfl, rfl⟩
def k11 : Code := (.seq (R11 [ff] 0) (.seq (R11 [tt, ff] 1) .ret))
theorem call11 (x0 x1 : AV) (h : Heap) : call cfg 11 [x0, x1] h = (exec cfg 11 k11 [(0, x0), (1, x1)] h).bind (callEnd cfg 11 h [.cell 4 33, .tmp 5]) := call_at2 (fnat Tryz.func11 (b := k11) (by kernel_rfl) (by kernel_rfl)) rfl rfl
section
variable {p : SProg} (hw : p.wf) (l : List Int) (z : Nat) (r : Room)
include hw
theorem runPlay_no (hm : mayP p = false) (h : Heap) : call cfg 11 [.agg p.cells, .lst (intL l) z r] h = some (.ret (.tup [resN, .int .i64 4]), h) := by
  have hs := start_no hw hm (.clo 19 [.ref [.lst (intL l) z r]]) l.length false rfl (h ++ [.cells [.int .u8 0, .lst [] 0 .nil, .lst [] 0 .nil, .int .i64 0, .lst [] 0 .nil] 0])
  rw [call11]
  simp only [SProg.cells, resN] at hs ⊢
  have hsto := fun a0 a1 a2 a3 a4 => store_res h [.int .u8 0, .lst [] 0 .nil, .lst [] 0 .nil, .int .i64 0, .lst [] 0 .nil] a0 a1 a2 a3 a4 rfl rfl
  simp only [F11, k11, Tryz.f11, sxAll, cA, Env.keep, qt_eq, resultsA, packA, Rv.part, TD.isAgg, buildA, fillA, setCells, mapO, ↓Option.bind_some, Nat.reduceBEq, Nat.reduceAdd, Nat.reduceLeDiff, ↓reduceIte, load_ptr, load_ref, hs, hsto, lenA_lst, intL_len, pu21, clo_cells, ty33, ty26, ty57, ty3, ty31, ty55]
  refine leave_pure pu11 ?_ rfl
  simp
variable (hn : p.nils) (hs : p.small)
include hn hs
theorem runPlay_yes (hm : mayP p = true) (hl : l.length ≤ 1000000) (h : Heap) :
    ∃ v, call cfg 11 [.agg p.cells, .lst (intL l) z r] h = some (.ret (.tup [v, .int .i64 0]), h) ∧ ResA (runR p (goPick (ownP p) l) false l.length) v := by
  obtain ⟨v, hst, hR⟩ := start_yes hw hn hs hm (goes_pick (prog_ok hm).own l z r) hl false (h ++ [.cells [.int .u8 0, .lst [] 0 .nil, .lst [] 0 .nil, .int .i64 0, .lst [] 0 .nil] 0])
  refine ⟨v, ?_, hR⟩
  have hfz := hR.still
  generalize runR p (goPick (ownP p) l) false l.length = x at *
  obtain ⟨z1, rm, a, z', rm', rfl, hI⟩ := hR
  have hI' := hI
  obtain ⟨es, za, ra, rfl, _⟩ := hI'
  obtain ⟨σ', row⟩ := x
  have hsto := fun a0 a1 a2 a3 a4 => store_res h [.int .u8 σ'.ending, .lst (intL σ'.out) z1 rm, .lst es za ra, .int .i64 row.length, .lst (intL row) z' rm'] a0 a1 a2 a3 a4 rfl rfl
  rw [call11]
  simp only [SProg.cells] at hst ⊢
  simp only [F11, k11, Tryz.f11, sxAll, cA, Env.keep, qt_eq, resultsA, packA, Rv.part, TD.isAgg, buildA, fillA, setCells, mapO, ↓Option.bind_some, Nat.reduceBEq, Nat.reduceAdd, Nat.reduceLeDiff, ↓reduceIte, load_ptr, load_ref, hst, hsto, lenA_lst, intL_len, pu21, clo_cells, ty33, ty26, ty57, ty3, ty31, ty55]
  refine leave_pure pu11 ?_ ?_
  · simp
  rw [fz_tup]
  simp only [mapO, fz_int, hfz, Option.bind_eq_bind, Option.bind_some, Option.map_some]
end
theorem pu12 : cfg.pure 12 = true := rfl
instance t12 {d : Option Nat} : TightD cfg 12 d := ⟨fun _ _ => rfl⟩
def B12 (p : List Bool) := cA p Tryz.f12.body
def R12 (p : List Bool) (i : Nat) := Code.region i (cA p Tryz.f12.body) false
theorem F12 : (∀ p i, XR cfg 12 (R12 p i) (B12 p) (cA p Tryz.f12.body).toList i false) ∧ cfg.imm 12 2 = true ∧ cfg.imm 12 3 = true ∧ RE cfg 12 [0, 1, 2, 3, 4, 5] ∧ cfg.pure 12 = true := ⟨fun _ _ => xr rfl rfl, by kernel_rfl, by kernel_rfl, rE fun _ => rfl, rfl⟩
def k12 : Code := (.seq (R12 [ff] 0) (.seq (R12 [tt, ff] 1) .ret))
theorem call12 (x0 x1 : AV) (h : Heap) : call cfg 12 [x0, x1] h = (exec cfg 12 k12 [(0, x0), (1, x1)] h).bind (callEnd cfg 12 h [.cell 4 33, .tmp 5]) := call_at2 (fnat Tryz.func12 (b := k12) (by kernel_rfl) (by kernel_rfl)) rfl rfl
section
variable {p : SProg} (hw : p.wf) (l : List Int) (z : Nat) (r : Room)
include hw
variable (hn : p.nils) (hs : p.small)
include hn hs
theorem runLike_yes (hm : mayP p = true) (hl : l.length ≤ 1000000) (h : Heap) :
    ∃ v, call cfg 12 [.agg p.cells, .lst (intL l) z r] h = some (.ret (.tup [v, .int .i64 0]), h) ∧ ResA (runR p (goLike (ownP p) l) true l.length) v := by
  obtain ⟨v, hst, hR⟩ := start_yes hw hn hs hm (goes_like (prog_ok hm).own l z r) hl true (h ++ [.cells [.int .u8 0, .lst [] 0 .nil, .lst [] 0 .nil, .int .i64 0, .lst [] 0 .nil] 0])
  refine ⟨v, ?_, hR⟩
  have hfz := hR.still
  generalize runR p (goLike (ownP p) l) true l.length = x at *
  obtain ⟨z1, rm, a, z', rm', rfl, hI⟩ := hR
  have hI' := hI
  obtain ⟨es, za, ra, rfl, _⟩ := hI'
  obtain ⟨σ', row⟩ := x
  have hsto := fun a0 a1 a2 a3 a4 => store_res h [.int .u8 σ'.ending, .lst (intL σ'.out) z1 rm, .lst es za ra, .int .i64 row.length, .lst (intL row) z' rm'] a0 a1 a2 a3 a4 rfl rfl
  rw [call12]
  simp only [SProg.cells] at hst ⊢
  simp only [F12, k12, Tryz.f12, sxAll, cA, Env.keep, qt_eq, resultsA, packA, Rv.part, TD.isAgg, buildA, fillA, setCells, mapO, ↓Option.bind_some, Nat.reduceBEq, Nat.reduceAdd, Nat.reduceLeDiff, ↓reduceIte, load_ptr, load_ref, hst, hsto, lenA_lst, intL_len, pu21, clo_cells, ty33, ty26, ty57, ty3, ty31, ty4, ty55]
  refine leave_pure pu12 ?_ ?_
  · simp
  rw [fz_tup]
  simp only [mapO, fz_int, hfz, Option.bind_eq_bind, Option.bind_some, Option.map_some]
end
end
end Go.Proofs.Sx
namespace Go.Proofs.Sx
open Go.Rv Go.Proofs
attribute [local congr] bind_left got_left
noncomputable section
theorem pu9 : cfg.pure 9 = true := rfl
instance t9 {d : Option Nat} : TightD cfg 9 d := ⟨fun _ _ => rfl⟩
def B9 (p : List Bool) := cA p Tryz.f9.body
def R9 (p : List Bool) (i : Nat) := Code.region i (cA p Tryz.f9.body) false
theorem F9 : (∀ p i, XR cfg 9 (R9 p i) (B9 p) (cA p Tryz.f9.body).toList i false) ∧ cfg.imm 9 2 = true ∧ GO cfg 9 (B9 [tt, tt, ff, ff, tt, tt, ff]) 2 21 ∧ RE cfg 9 [0, 1, 2, 4, 5, 6, 7, 13, 18] ∧ cfg.pure 9 = true := ⟨fun _ _ => xr rfl rfl, by kernel_rfl, gO (by kernel_rfl), rE fun _ => rfl, rfl⟩
def k9 : Code := (.seq (R9 [ff] 0) (.seq (R9 [tt, ff] 1) (.seq (.block 0 (.seq (R9 [tt, tt, ff, ff, ff] 2) (.cond (.tmp 13) (.seq (R9 [tt, tt, ff, ff, tt, ff, ff] 3) .ret) (.seq (R9 [tt, tt, ff, ff, tt, tt, ff] 4) (.cond (.tmp 18) (.seq (R9 [tt, tt, ff, ff, tt, tt, tt, ff, ff] 5) .ret) .skip))))) (.seq (R9 [tt, tt, tt, ff] 6) .ret))))
theorem call9 (x0 x1 : AV) (h : Heap) : call cfg 9 [x0, x1] h = (exec cfg 9 k9 [(0, x0), (1, x1)] h).bind (callEnd cfg 9 h [.cell 4 33, .tmp 5]) := call_at2 (fnat Tryz.func9 (b := k9) (by kernel_rfl) (by kernel_rfl)) rfl rfl
section
variable {p : SProg} (hw : p.wf)
include hw
variable (hn : p.nils) (hs : p.small)
include hn hs
theorem runTurns_yes (hm : mayP p = true) (N : Nat) (hN : N ≤ 100000) (h : Heap) :
    ∃ v, call cfg 9 [.agg p.cells, .int .i64 N] h = some (.ret (.tup [v, .int .i64 0]), h) ∧ ResA (runR p (goTurns (ownP p)) false N) v := by
  unfold runR
  obtain ⟨H1, ρ, s, hnew, A, hle, hk⟩ := new_yes p hw hn hs hm (h ++ [.cells [.int .u8 0, .lst [] 0 .nil, .lst [] 0 .nil, .int .i64 0, .lst [] 0 .nil] 0])
  obtain ⟨W, L⟩ := start_good hm
  obtain ⟨H2, v, hrun, hR, hle2, hk2⟩ := wayRun_eq (goes_turns (prog_ok hm).own N) (by omega) false A W (by omega) L
  refine ⟨v, ?_, hR⟩
  have hst := hR.still
  simp only [List.length_append, List.length_singleton] at hle
  have hob : H2.obj h.length 0 = some [.int .u8 0, .lst [] 0 .nil, .lst [] 0 .nil, .int .i64 0, .lst [] 0 .nil] := by
    have hz : (h ++ [AObj.cells [.int .u8 0, .lst [] 0 .nil, .lst [] 0 .nil, .int .i64 0, .lst [] 0 .nil] 0]).obj h.length 0 = some [.int .u8 0, .lst [] 0 .nil, .lst [] 0 .nil, .int .i64 0, .lst [] 0 .nil] := by rw [obj_app0, obj_zero]
    have k1 := hk h.length (by simp)
    exact obj_of (obj_of hz k1.1) (hk2 h.length (by omega) k1.2)
  have hlo := live_of hob
  generalize runGo (goTurns (ownP p)) false N 0 (startS (ownP p)) [] = x at *
  obtain ⟨z, rm, a, z', rm', rfl, hI⟩ := hR
  have hI' := hI
  obtain ⟨es, za, ra, rfl, _⟩ := hI'
  obtain ⟨σ', row⟩ := x
  have hsto : ∀ vs : List AV, vs = [.int .u8 σ'.ending, .lst (intL σ'.out) z rm, .lst es za ra, .int .i64 row.length, .lst (intL row) z' rm'] → storeA cfg H2 33 (.ptr h.length 0 0) (.agg vs) = some (H2.set h.length (.cells vs 0)) := fun vs hv => by
    subst hv
    simp [storeA, ty33, hob, AV.cells, AV.leaf, setCells]
  have hsto' := hsto _ rfl
  have hob' := obj_sets (cs' := [.int .u8 σ'.ending, .lst (intL σ'.out) z rm, .lst es za ra, .int .i64 row.length, .lst (intL row) z' rm']) hob 0
  have hlo' := live_of hob'
  have h1 : ((N : Int) < 0) = False := eq_false (by omega)
  have h2 : ((N : Int) > 100000) = False := eq_false (by omega)
  rw [call9]
  simp only [SProg.cells] at hnew ⊢
  simp only [F9, k9, Tryz.f9, sxAll, cA, arithA, Env.keep, qt_eq, resultsA, packA, Rv.part, TD.isAgg, buildA, fillA, setCells, mapO, ↓Option.bind_some, Nat.reduceBEq, Nat.reduceAdd, Nat.reduceLeDiff, bne, ↓reduceIte, load_ptr, load_ref, hnew, hrun, hsto', hob', h1, h2, clo_cells, pu15, pu18, ty33, ty26, ty57, ty3, ty55]
  refine leave_pure pu9 ?_ ?_
  · rw [List.take_set_of_le (Nat.le_refl _)]
    apply List.ext_getElem?
    intro j
    by_cases hj : j < h.length
    · have k1 := hk j (by simp; omega)
      rw [List.getElem?_take_of_lt hj, hk2 j (by omega) k1.2, k1.1, List.getElem?_append_left hj]
    · rw [List.getElem?_eq_none (by simp; omega), List.getElem?_eq_none (by omega)]
  · rw [fz_tup]
    simp only [mapO, fz_int, hst, Option.bind_eq_bind, Option.bind_some, Option.map_some]
end
end
end Go.Proofs.Sx
namespace Go.Proofs.Sx
open Go.Rv Go.Proofs
attribute [local congr] bind_left got_left
noncomputable section
theorem pu10 : cfg.pure 10 = true := rfl
instance t10 {d : Option Nat} : TightD cfg 10 d := ⟨fun _ _ => rfl⟩
def B10 (p : List Bool) := cA p Tryz.f10.body
def R10 (p : List Bool) (i : Nat) := Code.region i (cA p Tryz.f10.body) false
def D10 (p : List Bool) (i : Nat) := Code.region i (cA p Tryz.f10.body) true
theorem F10 : (∀ p i, XR cfg 10 (R10 p i) (B10 p) (cA p Tryz.f10.body).toList i false) ∧ cfg.imm 10 2 = true ∧ cfg.imm 10 3 = true ∧ GO cfg 10 (B10 [tt, ff, ff]) 5 14 ∧ GO cfg 10 (B10 [tt, ff, ff]) 12 21 ∧ GO cfg 10 (B10 [tt, ff, ff]) 21 30 ∧ GO cfg 10 (B10 [tt, ff, ff]) 30 39 ∧ XR cfg 10 (D10 [tt, tt, ff, tt, ff, ff, tt, ff, ff, ff] 6) (B10 [tt, tt, ff, tt, ff, ff, tt, ff, ff, ff]) ((cA [tt, tt, ff, tt, ff, ff, tt, ff, ff, ff] Tryz.f10.body).toList) 6 true ∧ XR cfg 10 (D10 [tt, tt, tt, ff, tt, ff, ff, tt, ff, ff, ff] 11) (B10 [tt, tt, tt, ff, tt, ff, ff, tt, ff, ff, ff]) ((cA [tt, tt, tt, ff, tt, ff, ff, tt, ff, ff, ff] Tryz.f10.body).toList) 11 true ∧ XR cfg 10 (D10 [tt, tt, tt, tt, ff, tt, ff, ff, tt, ff, ff, tt, ff, ff, tt, ff, ff, ff] 19) (B10 [tt, tt, tt, tt, ff, tt, ff, ff, tt, ff, ff, tt, ff, ff, tt, ff, ff, ff]) ((cA [tt, tt, tt, tt, ff, tt, ff, ff, tt, ff, ff, tt, ff, ff, tt, ff, ff, ff] Tryz.f10.body).toList) 19 true ∧ GO cfg 10 (B10 [tt, tt, tt, tt, ff, tt, ff, ff, tt, ff, ff, tt, ff, ff, tt, ff, ff, ff]) 13 114 ∧ RE cfg 10 [0, 1, 2, 3, 4, 5, 6, 7, 8, 47, 52, 65, 70, 83, 88, 98, 132] ∧ cfg.pure 10 = true := ⟨fun _ _ => xr rfl rfl, by kernel_rfl, by kernel_rfl, gO (by kernel_rfl), gO (by kernel_rfl), gO (by kernel_rfl), gO (by kernel_rfl), xd (by kernel_rfl) rfl rfl, xd (by kernel_rfl) rfl rfl, xd (by kernel_rfl) rfl rfl, gO (by kernel_rfl), rE fun _ => rfl, rfl⟩
def l10_3 : Code := (.seq (.seq (R10 [tt, tt, tt, tt, ff, tt, ff, ff, tt, ff, ff, tt, ff, ff, ff, ff] 17) (.cond (.tmp 98) .skip (.exit 6))) (.seq (.block 7 (.seq (D10 [tt, tt, tt, tt, ff, tt, ff, ff, tt, ff, ff, tt, ff, ff, tt, ff, ff, ff] 19) (.cond (.tmp 132) (.seq (R10 [tt, tt, tt, tt, ff, tt, ff, ff, tt, ff, ff, tt, ff, ff, tt, ff, ff, tt, ff, ff] 20) .ret) .skip))) (R10 [tt, tt, tt, tt, ff, tt, ff, ff, tt, ff, ff, tt, ff, ff, tt, tt] 18)))
def l10_2 : Code := (.seq (.seq (R10 [tt, tt, tt, tt, ff, tt, ff, ff, ff, ff] 14) (.cond (.tmp 88) .skip (.exit 4))) (.seq (.block 5 (.seq (R10 [tt, tt, tt, tt, ff, tt, ff, ff, tt, ff, ff, ff] 16) (.block 6 (.loop l10_3)))) (R10 [tt, tt, tt, tt, ff, tt, ff, ff, tt, tt] 15)))
def l10_1 : Code := (.seq (.seq (R10 [tt, tt, tt, ff, tt, ff, ff, ff, ff] 9) (.cond (.tmp 70) .skip (.exit 2))) (.seq (.block 3 (.seq (D10 [tt, tt, tt, ff, tt, ff, ff, tt, ff, ff, ff] 11) (.cond (.tmp 83) (.seq (R10 [tt, tt, tt, ff, tt, ff, ff, tt, ff, ff, tt, ff, ff] 12) .ret) .skip))) (R10 [tt, tt, tt, ff, tt, ff, ff, tt, tt] 10)))
def l10_0 : Code := (.seq (.seq (R10 [tt, tt, ff, tt, ff, ff, ff, ff] 4) (.cond (.tmp 52) .skip (.exit 0))) (.seq (.block 1 (.seq (D10 [tt, tt, ff, tt, ff, ff, tt, ff, ff, ff] 6) (.cond (.tmp 65) (.seq (R10 [tt, tt, ff, tt, ff, ff, tt, ff, ff, tt, ff, ff] 7) .ret) .skip))) (R10 [tt, tt, ff, tt, ff, ff, tt, tt] 5)))
def k10 : Code := (.seq (R10 [ff] 0) (.seq (.seq (R10 [tt, ff, ff] 1) (.cond (.tmp 47) (.seq (R10 [tt, ff, tt, ff, ff] 2) .ret) .skip)) (.seq (.seq (R10 [tt, tt, ff, ff] 3) (.block 0 (.loop l10_0))) (.seq (.seq (R10 [tt, tt, tt, ff, ff] 8) (.block 2 (.loop l10_1))) (.seq (.seq (R10 [tt, tt, tt, tt, ff, ff] 13) (.block 4 (.loop l10_2))) (.seq (R10 [tt, tt, tt, tt, tt, ff] 21) .ret))))))
theorem call10 (x0 x1 : AV) (h : Heap) : call cfg 10 [x0, x1] h = (exec cfg 10 k10 [(0, x0), (1, x1)] h).bind (callEnd cfg 10 h [.tmp 4]) := call_at2 (fnat Tryz.func10 (b := k10) (by kernel_rfl) (by kernel_rfl)) rfl rfl
section
variable (h : Heap) (e n : Int) (out row : List Int) (es fs : List AV) (z1 z2 z3 w1 w2 w3 : Nat) (r1 r2 r3 q1 q2 q3 : Room)
theorem same_out (hl : out.length < 1000000) : ∀ (ys : List Int) (i : Nat), out.drop i = ys → i ≤ out.length → ∀ t0 t1 t4 t6 t7 t8 t47 t52 t65 t70 t83 t88 t98 t132,
    Got (exec cfg 10 (.loop l10_0) [(0, t0), (1, t1), (2, .ref [.int .u8 e, .lst (intL out) z1 r1, .lst es z2 r2, .int .i64 n, .lst (intL row) z3 r3]), (3, .ref [.int .u8 e, .lst (intL out) w1 q1, .lst fs w2 q2, .int .i64 n, .lst (intL row) w3 q3]), (4, t4), (5, .int .i64 i), (6, t6), (7, t7), (8, t8), (47, t47), (52, t52), (65, t65), (70, t70), (83, t83), (88, t88), (98, t98), (132, t132)] h) (fun q => ∃ t5 t52 t65, q = (.exit 0, [(0, t0), (1, t1), (2, .ref [.int .u8 e, .lst (intL out) z1 r1, .lst es z2 r2, .int .i64 n, .lst (intL row) z3 r3]), (3, .ref [.int .u8 e, .lst (intL out) w1 q1, .lst fs w2 q2, .int .i64 n, .lst (intL row) w3 q3]), (4, t4), (5, t5), (6, t6), (7, t7), (8, t8), (47, t47), (52, t52), (65, t65), (70, t70), (83, t83), (88, t88), (98, t98), (132, t132)], h)) := by
  intro ys
  induction ys with
  | nil =>
    intro i hd hi t0 t1 t4 t6 t7 t8 t47 t52 t65 t70 t83 t88 t98 t132
    rw [got_loop]
    simp only [l10_0, F10, Tryz.f10, sxAll, cA, arithA, Env.keep, qt_eq, fieldAddrA, loadA, Rv.part, cellsAt, TD.isAgg, lenA, ↓Option.bind_some, Nat.reduceBEq, ↓reduceIte, intL_len, at_end hd, ty33, ty29]
    exact ⟨_, _, _, rfl⟩
  | cons y s ih =>
    intro i hd hi t0 t1 t4 t6 t7 t8 t47 t52 t65 t70 t83 t88 t98 t132
    obtain ⟨hlt, hget, hd'⟩ := at_drop hd
    have hlt' : i < out.length := by simpa using hlt
    have hw := wrap_succ (i := i) (by omega)
    have hx : (intL out)[i]? = some (.int .i64 y) := by simp [intL, hget]
    have := ih (i + 1) hd' (by omega)
    rw [got_loop]
    simp only [l10_0] at this ⊢
    simp only [F10, Tryz.f10, sxAll, cA, arithA, Env.keep, qt_eq, indexAddrA, fieldAddrA, loadA, Rv.part, cellsAt, TD.isAgg, lenA, ↓Option.bind_some, Nat.reduceBEq, Nat.reduceAdd, bne, ↓reduceIte, intL_len, hlt, hx, hw, ty33, ty29, ty2] at this ⊢
    exact this _ _ _ _ _ _ _ _ _ _ _ _ _ _
theorem same_row (hl : row.length < 1000000) : ∀ (ys : List Int) (i : Nat), row.drop i = ys → i ≤ row.length → ∀ t0 t1 t4 t5 t7 t8 t47 t52 t65 t70 t83 t88 t98 t132,
    Got (exec cfg 10 (.loop l10_1) [(0, t0), (1, t1), (2, .ref [.int .u8 e, .lst (intL out) z1 r1, .lst es z2 r2, .int .i64 n, .lst (intL row) z3 r3]), (3, .ref [.int .u8 e, .lst (intL out) w1 q1, .lst fs w2 q2, .int .i64 n, .lst (intL row) w3 q3]), (4, t4), (5, t5), (6, .int .i64 i), (7, t7), (8, t8), (47, t47), (52, t52), (65, t65), (70, t70), (83, t83), (88, t88), (98, t98), (132, t132)] h) (fun q => ∃ t6 t70 t83, q = (.exit 2, [(0, t0), (1, t1), (2, .ref [.int .u8 e, .lst (intL out) z1 r1, .lst es z2 r2, .int .i64 n, .lst (intL row) z3 r3]), (3, .ref [.int .u8 e, .lst (intL out) w1 q1, .lst fs w2 q2, .int .i64 n, .lst (intL row) w3 q3]), (4, t4), (5, t5), (6, t6), (7, t7), (8, t8), (47, t47), (52, t52), (65, t65), (70, t70), (83, t83), (88, t88), (98, t98), (132, t132)], h)) := by
  intro ys
  induction ys with
  | nil =>
    intro i hd hi t0 t1 t4 t5 t7 t8 t47 t52 t65 t70 t83 t88 t98 t132
    rw [got_loop]
    simp only [l10_1, F10, Tryz.f10, sxAll, cA, arithA, Env.keep, qt_eq, fieldAddrA, loadA, Rv.part, cellsAt, TD.isAgg, lenA, ↓Option.bind_some, Nat.reduceBEq, ↓reduceIte, intL_len, at_end hd, ty33, ty31]
    exact ⟨_, _, _, rfl⟩
  | cons y s ih =>
    intro i hd hi t0 t1 t4 t5 t7 t8 t47 t52 t65 t70 t83 t88 t98 t132
    obtain ⟨hlt, hget, hd'⟩ := at_drop hd
    have hlt' : i < row.length := by simpa using hlt
    have hw := wrap_succ (i := i) (by omega)
    have hx : (intL row)[i]? = some (.int .i64 y) := by simp [intL, hget]
    have := ih (i + 1) hd' (by omega)
    rw [got_loop]
    simp only [l10_1] at this ⊢
    simp only [F10, Tryz.f10, sxAll, cA, arithA, Env.keep, qt_eq, indexAddrA, fieldAddrA, loadA, Rv.part, cellsAt, TD.isAgg, lenA, ↓Option.bind_some, Nat.reduceBEq, Nat.reduceAdd, bne, ↓reduceIte, intL_len, hlt, hx, hw, ty33, ty31, ty3] at this ⊢
    exact this _ _ _ _ _ _ _ _ _ _ _ _ _ _
variable {ls : List (List Int)} (hA : ∀ (k : Nat) xs, ls[k]? = some xs → ∃ z r, es[k]? = some (.lst (intL xs) z r)) (hB : ∀ (k : Nat) xs, ls[k]? = some xs → ∃ z r, fs[k]? = some (.lst (intL xs) z r))
include hA hB
theorem same_cell (k : Nat) (xs : List Int) (hk : ls[k]? = some xs) (hl : xs.length < 1000000) : ∀ (ys : List Int) (i : Nat), xs.drop i = ys → i ≤ xs.length → ∀ t0 t1 t4 t5 t6 t47 t52 t65 t70 t83 t88 t98 t132,
    Got (exec cfg 10 (.loop l10_3) [(0, t0), (1, t1), (2, .ref [.int .u8 e, .lst (intL out) z1 r1, .lst es z2 r2, .int .i64 n, .lst (intL row) z3 r3]), (3, .ref [.int .u8 e, .lst (intL out) w1 q1, .lst fs w2 q2, .int .i64 n, .lst (intL row) w3 q3]), (4, t4), (5, t5), (6, t6), (7, .int .i64 k), (8, .int .i64 i), (47, t47), (52, t52), (65, t65), (70, t70), (83, t83), (88, t88), (98, t98), (132, t132)] h) (fun q => ∃ t8 t98 t132, q = (.exit 6, [(0, t0), (1, t1), (2, .ref [.int .u8 e, .lst (intL out) z1 r1, .lst es z2 r2, .int .i64 n, .lst (intL row) z3 r3]), (3, .ref [.int .u8 e, .lst (intL out) w1 q1, .lst fs w2 q2, .int .i64 n, .lst (intL row) w3 q3]), (4, t4), (5, t5), (6, t6), (7, .int .i64 k), (8, t8), (47, t47), (52, t52), (65, t65), (70, t70), (83, t83), (88, t88), (98, t98), (132, t132)], h)) := by
  obtain ⟨za, ra, ha⟩ := hA k xs hk
  obtain ⟨zb, rb, hb⟩ := hB k xs hk
  intro ys
  induction ys with
  | nil =>
    intro i hd hi t0 t1 t4 t5 t6 t47 t52 t65 t70 t83 t88 t98 t132
    rw [got_loop]
    simp only [l10_3, F10, Tryz.f10, sxAll, cA, arithA, Env.keep, qt_eq, indexAddrA, fieldAddrA, loadA, Rv.part, cellsAt, TD.isAgg, lenA, ↓Option.bind_some, Nat.reduceBEq, Nat.reduceAdd, ↓reduceIte, intL_len, ha, at_end hd, ty33, ty29, ty30]
    exact ⟨_, _, _, rfl⟩
  | cons y s ih =>
    intro i hd hi t0 t1 t4 t5 t6 t47 t52 t65 t70 t83 t88 t98 t132
    obtain ⟨hlt, hget, hd'⟩ := at_drop hd
    have hlt' : i < xs.length := by simpa using hlt
    have hw := wrap_succ (i := i) (by omega)
    have hx : (intL xs)[i]? = some (.int .i64 y) := by simp [intL, hget]
    have hne : ((xs.length : Int) == xs.length) = true := by simp
    have := ih (i + 1) hd' (by omega)
    rw [got_loop]
    simp only [l10_3] at this ⊢
    simp only [F10, Tryz.f10, sxAll, cA, arithA, Env.keep, qt_eq, indexAddrA, fieldAddrA, loadA, Rv.part, cellsAt, TD.isAgg, lenA, ↓Option.bind_some, Nat.reduceBEq, Nat.reduceAdd, bne, ↓reduceIte, intL_len, ha, hb, hlt, hx, hw, ty33, ty29, ty30, ty2] at this ⊢
    exact this _ _ _ _ _ _ _ _ _ _ _ _ _
variable (hle : es.length = ls.length) (hlf : fs.length = ls.length)
include hle hlf
theorem same_cells (hl : ls.length < 1000000) (hxl : ∀ xs ∈ ls, xs.length < 1000000) : ∀ (ys : List (List Int)) (i : Nat), ls.drop i = ys → i ≤ ls.length → ∀ t0 t1 t4 t5 t6 t8 t47 t52 t65 t70 t83 t88 t98 t132,
    Got (exec cfg 10 (.loop l10_2) [(0, t0), (1, t1), (2, .ref [.int .u8 e, .lst (intL out) z1 r1, .lst es z2 r2, .int .i64 n, .lst (intL row) z3 r3]), (3, .ref [.int .u8 e, .lst (intL out) w1 q1, .lst fs w2 q2, .int .i64 n, .lst (intL row) w3 q3]), (4, t4), (5, t5), (6, t6), (7, .int .i64 i), (8, t8), (47, t47), (52, t52), (65, t65), (70, t70), (83, t83), (88, t88), (98, t98), (132, t132)] h) (fun q => ∃ t7 t8 t88 t98 t132, q = (.exit 4, [(0, t0), (1, t1), (2, .ref [.int .u8 e, .lst (intL out) z1 r1, .lst es z2 r2, .int .i64 n, .lst (intL row) z3 r3]), (3, .ref [.int .u8 e, .lst (intL out) w1 q1, .lst fs w2 q2, .int .i64 n, .lst (intL row) w3 q3]), (4, t4), (5, t5), (6, t6), (7, t7), (8, t8), (47, t47), (52, t52), (65, t65), (70, t70), (83, t83), (88, t88), (98, t98), (132, t132)], h)) := by
  intro ys
  induction ys with
  | nil =>
    intro i hd hi t0 t1 t4 t5 t6 t8 t47 t52 t65 t70 t83 t88 t98 t132
    have hlt := at_end hd
    rw [← hle] at hlt
    rw [got_loop]
    simp only [l10_2, F10, Tryz.f10, sxAll, cA, arithA, Env.keep, qt_eq, fieldAddrA, loadA, Rv.part, cellsAt, TD.isAgg, lenA, ↓Option.bind_some, Nat.reduceBEq, ↓reduceIte, hlt, ty33, ty30]
    exact ⟨_, _, _, _, _, rfl⟩
  | cons y s ih =>
    intro i hd hi t0 t1 t4 t5 t6 t8 t47 t52 t65 t70 t83 t88 t98 t132
    have hlt' : i < ls.length := by
      have := congrArg List.length hd
      simp at this; omega
    have hget : ls[i]? = some y := by
      have := congrArg (·[0]?) hd
      simpa using this
    have hd' : ls.drop (i + 1) = s := by
      rw [← List.drop_drop, hd]; rfl
    have hlt : (i < es.length) = True := by rw [hle]; simp [hlt']
    have hw := wrap_succ (i := i) (by omega)
    obtain ⟨⟨o, e', h'⟩, hx, t8', t98', t132', hq⟩ := same_cell h e n out row es fs z1 z2 z3 w1 w2 w3 r1 r2 r3 q1 q2 q3 hA hB i y hget (hxl y (List.mem_of_getElem? hget)) y 0 (by simp) (by omega) t0 t1 t4 t5 t6 t47 t52 t65 t70 t83 (.bool true) t98 t132
    simp only [Prod.mk.injEq] at hq
    obtain ⟨rfl, rfl, rfl⟩ := hq
    have := ih (i + 1) hd' (by omega)
    simp only [Int.natCast_zero] at hx
    rw [got_loop]
    simp only [l10_2] at this ⊢
    simp only [F10, Tryz.f10, sxAll, cA, arithA, Env.keep, qt_eq, fieldAddrA, loadA, Rv.part, cellsAt, TD.isAgg, lenA, ↓Option.bind_some, Nat.reduceBEq, ↓reduceIte, hlt, hx, hw, ty33, ty30] at this ⊢
    exact this _ _ _ _ _ _ _ _ _ _ _ _ _ _
end
end
end Go.Proofs.Sx
namespace Go.Proofs.Sx
open Go.Rv Go.Proofs
attribute [local congr] bind_left got_left
noncomputable section
theorem same_eq {x : SSt × List Int} {v w : AV} (hv : ResA x v) (hw : ResA x w) (ho : x.1.out.length < 1000000) (hr : x.2.length < 1000000) (hc : x.1.cells.length < 1000000) (hcl : ∀ l ∈ x.1.cells, l.length < 1000000) (h : Heap) : call cfg 10 [v, w] h = some (.ret (.bool true), h) := by
  obtain ⟨z1, r1, a, z3, r3, rfl, es, z2, r2, rfl, hle, hA, _⟩ := hv
  obtain ⟨w1, q1, b, w3, q3, rfl, fs, w2, q2, rfl, hlf, hB, _⟩ := hw
  obtain ⟨σ, row⟩ := x
  simp only at *
  obtain ⟨⟨o, e', h'⟩, hx, t5, t52, t65, hq⟩ := same_out h σ.ending row.length σ.out row es fs z1 z2 z3 w1 w2 w3 r1 r2 r3 q1 q2 q3 ho σ.out 0 (by simp) (by omega) (.agg [.int .u8 σ.ending, .lst (intL σ.out) z1 r1, .lst es z2 r2, .int .i64 row.length, .lst (intL row) z3 r3]) (.agg [.int .u8 σ.ending, .lst (intL σ.out) w1 q1, .lst fs w2 q2, .int .i64 row.length, .lst (intL row) w3 q3]) (.bool false) .junk .junk .junk (.bool false) .junk .junk .junk .junk .junk .junk .junk
  simp only [Prod.mk.injEq] at hq
  obtain ⟨rfl, rfl, rfl⟩ := hq
  obtain ⟨⟨o, e', h'⟩, hy, t6, t70, t83, hq⟩ := same_row h' σ.ending row.length σ.out row es fs z1 z2 z3 w1 w2 w3 r1 r2 r3 q1 q2 q3 hr row 0 (by simp) (by omega) (.agg [.int .u8 σ.ending, .lst (intL σ.out) z1 r1, .lst es z2 r2, .int .i64 row.length, .lst (intL row) z3 r3]) (.agg [.int .u8 σ.ending, .lst (intL σ.out) w1 q1, .lst fs w2 q2, .int .i64 row.length, .lst (intL row) w3 q3]) (.bool false) t5 .junk .junk (.bool false) t52 t65 .junk .junk .junk .junk .junk
  simp only [Prod.mk.injEq] at hq
  obtain ⟨rfl, rfl, rfl⟩ := hq
  obtain ⟨⟨o, e', h'⟩, hz, t7, t8, t88, t98, t132, hq⟩ := same_cells h' σ.ending row.length σ.out row es fs z1 z2 z3 w1 w2 w3 r1 r2 r3 q1 q2 q3 hA hB hle hlf hc hcl σ.cells 0 (by simp) (by omega) (.agg [.int .u8 σ.ending, .lst (intL σ.out) z1 r1, .lst es z2 r2, .int .i64 row.length, .lst (intL row) z3 r3]) (.agg [.int .u8 σ.ending, .lst (intL σ.out) w1 q1, .lst fs w2 q2, .int .i64 row.length, .lst (intL row) w3 q3]) (.bool false) t5 t6 .junk (.bool false) t52 t65 t70 t83 .junk .junk .junk
  simp only [Prod.mk.injEq] at hq
  obtain ⟨rfl, rfl, rfl⟩ := hq
  simp only [Int.natCast_zero] at hx hy hz
  have hlc : ((es.length : Int) == fs.length) = true := by rw [hle, hlf]; simp
  have e1 : (σ.ending == σ.ending) = true := by simp
  have e2 : ((row.length : Int) == row.length) = true := by simp
  have e3 : ((σ.out.length : Int) == σ.out.length) = true := by simp
  rw [call10]
  simp only [F10, k10, Tryz.f10, sxAll, cA, arithA, Env.keep, qt_eq, resultsA, packA, fieldAddrA, loadA, Rv.part, cellsAt, TD.isAgg, lenA, ↓Option.bind_some, Nat.reduceBEq, Nat.reduceAdd, bne, ↓reduceIte, intL_len, hx, hy, hz, hlc, ty33, ty29, ty31, ty30, ty3, ty5]
  exact leave_kept pu10 rfl
end
end Go.Proofs.Sx
namespace Go.Proofs.Sx
open Go.Rv Go.Proofs
attribute [local congr] bind_left got_left
noncomputable section
theorem pu7 : cfg.pure 7 = true := rfl
instance t7 {d : Option Nat} : TightD cfg 7 d := ⟨fun _ _ => rfl⟩
def B7 (p : List Bool) := cA p Tryz.f7.body
def R7 (p : List Bool) (i : Nat) := Code.region i (cA p Tryz.f7.body) false
theorem F7 : (∀ p i, XR cfg 7 (R7 p i) (B7 p) (cA p Tryz.f7.body).toList i false) ∧ cfg.imm 7 1 = true ∧ GO cfg 7 (B7 [tt, ff, ff]) 4 10 ∧ GO cfg 7 (B7 [tt, ff, ff]) 10 16 ∧ GO cfg 7 (B7 [tt, tt, tt, ff, tt, ff, ff, tt, ff, ff, ff, ff]) 8 37 ∧ RE cfg 7 [0, 1, 2, 3, 4, 5, 21, 26, 45, 63, 77] ∧ cfg.pure 7 = true := ⟨fun _ _ => xr rfl rfl, by kernel_rfl, gO (by kernel_rfl), gO (by kernel_rfl), gO (by kernel_rfl), rE fun _ => rfl, rfl⟩
def l7_1 : Code := (.seq (.seq (R7 [tt, tt, tt, ff, tt, ff, ff, tt, ff, ff, tt, tt, tt, ff, ff, ff, ff] 11) (.cond (.tmp 63) .skip (.exit 2))) (.seq (.block 3 (.seq (R7 [tt, tt, tt, ff, tt, ff, ff, tt, ff, ff, tt, tt, tt, ff, ff, tt, ff, ff, ff] 13) (.cond (.tmp 77) (.seq (R7 [tt, tt, tt, ff, tt, ff, ff, tt, ff, ff, tt, tt, tt, ff, ff, tt, ff, ff, tt, ff, ff] 14) .ret) .skip))) (R7 [tt, tt, tt, ff, tt, ff, ff, tt, ff, ff, tt, tt, tt, ff, ff, tt, tt] 12)))
def l7_0 : Code := (.seq (.seq (R7 [tt, tt, tt, ff, tt, ff, ff, ff, ff] 5) (.cond (.tmp 26) .skip (.exit 0))) (.seq (.block 1 (.seq (.seq (R7 [tt, tt, tt, ff, tt, ff, ff, tt, ff, ff, ff, ff] 7) (.cond (.tmp 45) (.seq (R7 [tt, tt, tt, ff, tt, ff, ff, tt, ff, ff, ff, tt, ff, ff] 8) .ret) .skip)) (.seq (R7 [tt, tt, tt, ff, tt, ff, ff, tt, ff, ff, tt, ff] 9) (.seq (R7 [tt, tt, tt, ff, tt, ff, ff, tt, ff, ff, tt, tt, ff] 10) (.block 2 (.loop l7_1)))))) (R7 [tt, tt, tt, ff, tt, ff, ff, tt, tt] 6)))
def k7 : Code := (.seq (R7 [ff] 0) (.seq (.seq (R7 [tt, ff, ff] 1) (.cond (.tmp 21) (.seq (R7 [tt, ff, tt, ff, ff] 2) .ret) .skip)) (.seq (R7 [tt, tt, ff] 3) (.seq (.seq (R7 [tt, tt, tt, ff, ff] 4) (.block 0 (.loop l7_0))) (.seq (R7 [tt, tt, tt, tt, ff] 15) .ret)))))
theorem call7 (x0 : AV) (h : Heap) : call cfg 7 [x0] h = (exec cfg 7 k7 [(0, x0)] h).bind (callEnd cfg 7 h [.tmp 2]) := call_at2 (fnat Tryz.func7 (b := k7) (by kernel_rfl) (by kernel_rfl)) rfl rfl
section
variable (p : SProg) (h : Heap)
theorem fun_addr {k : Nat} {F : SFun} (hF : p.funs[k]? = some F) : indexAddrA cfg h 24 (.lst (funsL p.funs) p.fz p.froom) (.int .i64 k) = some (.ref F.cells) := by
  have hx := funsL_get hF
  have hh : ¬ (k : Int) < 0 := by omega
  simp [indexAddrA, ty24, ty47, hh, hx, AV.cells, SFun.cells]
theorem long_inner (k : Nat) (F : SFun) (hF : p.funs[k]? = some F) (hFl : F.code.length < 100000000) : ∀ (ys : List SIns) (i : Nat), F.code.drop i = ys → i ≤ F.code.length → ∀ t0 t2 t3 t21 t26 t45 t63 t77,
    Got (exec cfg 7 (.loop l7_1) [(0, t0), (1, .ref p.cells), (2, t2), (3, t3), (4, .int .i64 k), (5, .int .i64 i), (21, t21), (26, t26), (45, t45), (63, t63), (77, t77)] h) (fun q => (q.1 = .ret ∧ q.2.1.get 2 = .bool true ∧ q.2.2 = h) ∨ ∃ t5 t63 t77, q = (.exit 2, [(0, t0), (1, .ref p.cells), (2, t2), (3, t3), (4, .int .i64 k), (5, t5), (21, t21), (26, t26), (45, t45), (63, t63), (77, t77)], h)) := by
  have hix := fun_addr p h hF
  have hlen : (codeL F.code).length = F.code.length := by simp [codeL]
  intro ys
  induction ys with
  | nil =>
    intro i hd hi t0 t2 t3 t21 t26 t45 t63 t77
    have hlt := at_end hd
    rw [got_loop]
    simp only [l7_1, F7, Tryz.f7, sxAll, cA, arithA, Env.keep, qt_eq, fieldAddrA, Rv.part, TD.isAgg, ↓Option.bind_some, Nat.reduceBEq, ↓reduceIte, load_ref, lenA_lst, SProg.cells, SFun.cells, hix, hlen, hlt, ty26, ty24, ty47, ty45]
    exact .inr ⟨_, _, _, rfl⟩
  | cons y s ih =>
    intro i hd hi t0 t2 t3 t21 t26 t45 t63 t77
    obtain ⟨hlt, hget, hd'⟩ := at_drop hd
    have hlt' : i < F.code.length := by simpa using hlt
    have hw' := wrap_succ (i := i) (by omega)
    have hx := codeL_get hget
    have hiy : indexAddrA cfg h 45 (.lst (codeL F.code) F.cz F.room) (.int .i64 i) = some (.ref y.cells) := by
      have hh : ¬ (i : Int) < 0 := by omega
      simp [indexAddrA, ty45, ty49, hh, hx, AV.cells, SIns.cells]
    have := ih (i + 1) hd' (by omega)
    rw [got_loop]
    simp only [l7_1, SProg.cells] at this ⊢
    by_cases h1 : (y.args.length : Int) > 100
    · simp only [F7, Tryz.f7, sxAll, cA, arithA, Env.keep, qt_eq, fieldAddrA, Rv.part, TD.isAgg, ↓Option.bind_some, Nat.reduceBEq, ↓reduceIte, load_ref, lenA_lst, intL_len, SFun.cells, SIns.cells, hix, hiy, hlen, hlt, h1, ty26, ty24, ty47, ty45, ty49, ty31]
      exact .inl ⟨trivial, by simp [], trivial⟩
    · simp only [F7, Tryz.f7, sxAll, cA, arithA, Env.keep, qt_eq, fieldAddrA, Rv.part, TD.isAgg, ↓Option.bind_some, Nat.reduceBEq, ↓reduceIte, load_ref, lenA_lst, intL_len, SFun.cells, SIns.cells, hix, hiy, hlen, hlt, h1, hw', ty26, ty24, ty47, ty45, ty49, ty31] at this ⊢
      exact this _ _ _ _ _ _ _ _
variable (hw : p.wf)
include hw
theorem long_outer : ∀ (ys : List SFun) (k : Nat), p.funs.drop k = ys → k ≤ p.funs.length → ∀ (s0 : Int), ∀ t0 t2 t5 t21 t26 t45 t63 t77,
    Got (exec cfg 7 (.loop l7_0) [(0, t0), (1, .ref p.cells), (2, t2), (3, .int .i64 s0), (4, .int .i64 k), (5, t5), (21, t21), (26, t26), (45, t45), (63, t63), (77, t77)] h) (fun q => (q.1 = .ret ∧ q.2.1.get 2 = .bool true ∧ q.2.2 = h) ∨ ∃ s1, ∃ t4 t5 t26 t45 t63 t77, q = (.exit 0, [(0, t0), (1, .ref p.cells), (2, t2), (3, .int .i64 s1), (4, t4), (5, t5), (21, t21), (26, t26), (45, t45), (63, t63), (77, t77)], h)) := by
  have hlen : (funsL p.funs).length = p.funs.length := by simp [funsL]
  intro ys
  induction ys with
  | nil =>
    intro k hd hi s0 t0 t2 t5 t21 t26 t45 t63 t77
    have hlt := at_end hd
    rw [got_loop]
    simp only [l7_0, F7, Tryz.f7, sxAll, cA, arithA, Env.keep, qt_eq, fieldAddrA, Rv.part, TD.isAgg, ↓Option.bind_some, Nat.reduceBEq, ↓reduceIte, load_ref, lenA_lst, SProg.cells, hlen, hlt, ty26, ty24]
    exact .inr ⟨_, _, _, _, _, _, _, rfl⟩
  | cons F s ih =>
    intro k hd hi s0 t0 t2 t5 t21 t26 t45 t63 t77
    obtain ⟨hlt, hget, hd'⟩ := at_drop hd
    have hlt' : k < p.funs.length := by simpa using hlt
    have hw' := wrap_succ (i := k) (by have := hw.2.2.1; omega)
    have hix := fun_addr p h hget
    have hlc : (codeL F.code).length = F.code.length := by simp [codeL]
    have hFw := hw.2.2.2.2.2 F (List.mem_of_getElem? hget)
    obtain ⟨q, hx, hq⟩ := long_inner p h k F hget (by have := hFw; unfold SFun.wf at this; omega) F.code 0 (by simp) (by omega) t0 t2 (.int .i64 (IntKind.i64.wrap (s0 + F.code.length))) t21 (.bool true) (.bool false) t63 t77
    have := ih (k + 1) hd' (by omega)
    simp only [Int.natCast_zero] at hx
    rw [got_loop]
    simp only [l7_0, SProg.cells, SFun.cells] at this hx hix ⊢
    by_cases h1 : (F.code.length : Int) > 400
    · simp only [F7, Tryz.f7, sxAll, cA, arithA, Env.keep, qt_eq, fieldAddrA, Rv.part, TD.isAgg, ↓Option.bind_some, Nat.reduceBEq, ↓reduceIte, load_ref, lenA_lst, hix, hlc, hlen, hlt, h1, ty26, ty24, ty47, ty45]
      exact .inl ⟨trivial, by simp [], trivial⟩
    by_cases h2 : F.regs > 300
    · simp only [F7, Tryz.f7, sxAll, cA, arithA, Env.keep, qt_eq, fieldAddrA, Rv.part, TD.isAgg, ↓Option.bind_some, Nat.reduceBEq, ↓reduceIte, load_ref, lenA_lst, hix, hlc, hlen, hlt, h1, h2, ty26, ty24, ty47, ty45, ty3]
      exact .inl ⟨trivial, by simp [], trivial⟩
    rcases hq with ⟨g1, g2, g3⟩ | ⟨t5', t63', t77', hq⟩
    · obtain ⟨q1, q2, q3⟩ := q
      simp only at g1 g2 g3
      subst g1 g3
      simp only [F7, Tryz.f7, sxAll, cA, arithA, Env.keep, qt_eq, fieldAddrA, Rv.part, TD.isAgg, ↓Option.bind_some, Nat.reduceBEq, ↓reduceIte, load_ref, lenA_lst, hix, hlc, hlen, hlt, h1, h2, hx, ty26, ty24, ty47, ty45, ty3]
      exact .inl ⟨trivial, g2, trivial⟩
    · subst hq
      simp only [SProg.cells] at hx
      simp only [F7, Tryz.f7, sxAll, cA, arithA, Env.keep, qt_eq, fieldAddrA, Rv.part, TD.isAgg, ↓Option.bind_some, Nat.reduceBEq, ↓reduceIte, load_ref, lenA_lst, hix, hlc, hlen, hlt, h1, h2, hx, hw', ty26, ty24, ty47, ty45, ty3] at this ⊢
      exact this _ _ _ _ _ _ _ _ _
theorem long_eq : ∃ b, call cfg 7 [.agg p.cells] h = some (.ret (.bool b), h) := by
  have l1 : (funsL p.funs).length = p.funs.length := by simp [funsL]
  have l2 : (memsL p.mems).length = p.mems.length := by simp [memsL]
  have l3 : (strL p.locks).length = p.locks.length := by simp [strL]
  obtain ⟨q, hx, hq⟩ := long_outer p h hw p.funs 0 (by simp) (by omega) 0 (.agg p.cells) (.bool false) .junk (.bool false) .junk .junk .junk .junk
  simp only [Int.natCast_zero, SProg.cells] at hx hq
  rw [call7]
  simp only [SProg.cells]
  by_cases h1 : (p.funs.length : Int) > 20
  · exact ⟨true, by
      simp only [F7, k7, Tryz.f7, sxAll, cA, arithA, Env.keep, qt_eq, resultsA, packA, fieldAddrA, Rv.part, TD.isAgg, ↓Option.bind_some, Nat.reduceBEq, Nat.reduceAdd, ↓reduceIte, load_ref, lenA_lst, l1, h1, ty26, ty24]
      exact leave_kept rfl rfl⟩
  by_cases h2 : (p.mems.length : Int) > 60
  · exact ⟨true, by
      simp only [F7, k7, Tryz.f7, sxAll, cA, arithA, Env.keep, qt_eq, resultsA, packA, fieldAddrA, Rv.part, TD.isAgg, ↓Option.bind_some, Nat.reduceBEq, Nat.reduceAdd, ↓reduceIte, load_ref, lenA_lst, l1, l2, h1, h2, ty22, ty26, ty24]
      exact leave_kept rfl rfl⟩
  by_cases h3 : (p.locks.length : Int) > 60
  · exact ⟨true, by
      simp only [F7, k7, Tryz.f7, sxAll, cA, arithA, Env.keep, qt_eq, resultsA, packA, fieldAddrA, Rv.part, TD.isAgg, ↓Option.bind_some, Nat.reduceBEq, Nat.reduceAdd, ↓reduceIte, load_ref, lenA_lst, l1, l2, l3, h1, h2, h3, ty22, ty23, ty26, ty24]
      exact leave_kept rfl rfl⟩
  rcases hq with ⟨g1, g2, g3⟩ | ⟨s1, t4', t5', t26', t45', t63', t77', hq⟩
  · obtain ⟨q1, q2, q3⟩ := q
    simp only at g1 g2 g3
    subst g1 g3
    exact ⟨true, by
      simp only [F7, k7, Tryz.f7, sxAll, cA, arithA, Env.keep, qt_eq, resultsA, packA, fieldAddrA, Rv.part, TD.isAgg, ↓Option.bind_some, Nat.reduceBEq, Nat.reduceAdd, ↓reduceIte, load_ref, lenA_lst, l1, l2, l3, h1, h2, h3, hx, g2, ty22, ty23, ty26, ty24]
      exact leave_kept rfl rfl⟩
  · subst hq
    exact ⟨decide (s1 > 600), by
      simp only [F7, k7, Tryz.f7, sxAll, cA, arithA, Env.keep, qt_eq, resultsA, packA, fieldAddrA, Rv.part, TD.isAgg, ↓Option.bind_some, Nat.reduceBEq, Nat.reduceAdd, ↓reduceIte, load_ref, lenA_lst, l1, l2, l3, h1, h2, h3, hx, ty22, ty23, ty26, ty24]
      exact leave_kept rfl rfl⟩
end
end
end Go.Proofs.Sx
namespace Go.Proofs.Sx
open Go.Rv Go.Proofs
attribute [local congr] bind_left got_left
noncomputable section
def insP (op r a n : Int) : SIns := ⟨op, r, a, 0, n, [], 0, .nil⟩
def printsF (s : List UInt8) (n : Int) : SFun := ⟨s, true, 0, 2, [insP 1 0 0 n, insP 9 0 0 0, insP 1 1 0 0, insP 13 0 1 0], 6, .open⟩
def twoP : SProg := ⟨[], 0, .nil, [], 0, .nil, [printsF [116] 1, printsF [117] 2], 5, .open⟩
theorem pu25 : cfg.pure 25 = true := rfl
instance t25 {d : Option Nat} : TightD cfg 25 d := ⟨fun _ _ => rfl⟩
def B25 (p : List Bool) := cA p Tryz.f25.body
def R25 (p : List Bool) (i : Nat) := Code.region i (cA p Tryz.f25.body) false
theorem F25 : (∀ p i, XR cfg 25 (R25 p i) (B25 p) (cA p Tryz.f25.body).toList i false) ∧ cfg.imm 25 11 = false ∧ RE cfg 25 [0, 1, 4] ∧ cfg.pure 25 = true := ⟨fun _ _ => xr rfl rfl, by kernel_rfl, rE fun _ => rfl, rfl⟩
def k25 : Code := (.seq (R25 [ff] 0) (.seq (R25 [tt, ff] 1) .ret))
theorem call25 (x0 x1 : AV) (h : Heap) : call cfg 25 [x0, x1] h = (exec cfg 25 k25 [(0, x0), (1, x1)] h).bind (callEnd cfg 25 h [.cell 4 47]) := call_at2 (fnat Tryz.func25 (b := k25) (by kernel_rfl) (by kernel_rfl)) rfl rfl
theorem pu14 : cfg.pure 14 = true := rfl
instance t14 {d : Option Nat} : TightD cfg 14 d := ⟨fun _ _ => rfl⟩
def B14 (p : List Bool) := cA p Tryz.f14.body
def R14 (p : List Bool) (i : Nat) := Code.region i (cA p Tryz.f14.body) false
theorem F14 : (∀ p i, XR cfg 14 (R14 p i) (B14 p) (cA p Tryz.f14.body).toList i false) ∧ cfg.imm 14 3 = false ∧ RE cfg 14 [0] ∧ cfg.pure 14 = true := ⟨fun _ _ => xr rfl rfl, by kernel_rfl, rE fun _ => rfl, rfl⟩
def k14 : Code := (.seq (R14 [ff] 0) (.seq (R14 [tt, ff] 1) .ret))
theorem call14 (h : Heap) : call cfg 14 [] h = (exec cfg 14 k14 [] h).bind (callEnd cfg 14 h [.cell 0 26]) := call_at2 (fnat Tryz.func14 (b := k14) (by kernel_rfl) (by kernel_rfl)) rfl rfl
theorem prints_eq (s : List UInt8) (n : Int) (h : Heap) : call cfg 25 [.str s, .int .i64 n] h = some (.ret (.agg (printsF s n).cells), h) := by
  rw [call25]
  simp only [F25, k25, Tryz.f25, sxAll, cA, Env.keep, resultsA, packA, storeA, loadA, Rv.part, cellsAt, TD.isAgg, buildA, fillA, setCells, copies, ↓Option.bind_some, Nat.reduceBEq, Nat.reduceAdd, Nat.reduceMul, Nat.reduceLeDiff, Nat.reduceGT, bne, ↓reduceIte, ty47, ty49, ty45, ty9, ty4, ty3, ty2, ty5, cells_msl, leaf_msl]
  refine leave_pure pu25 ?_ ?_
  · simp
  · have ho : (h ++ [AObj.cells [.str s, .bool true, .int .i64 0, .int .i64 2, .msl (h.length + 1) 0 4 6 0 (some 4)] 0, .cells (flatC (codeL (printsF s n).code)) 0]).obj (h.length + 1) 0 = some (flatC (codeL (printsF s n).code)) := by rw [obj_app]; rfl
    simp only [printsF, insP, codeL, SIns.cells, SFun.cells, flatC, List.map_cons, List.map_nil, List.flatten_cons, List.flatten_nil, AV.cells, List.cons_append, List.nil_append, List.append_nil, intL] at ho ⊢
    rw [fz_agg]
    have hz : ∀ H1 : Heap, H1.obj (h.length + 1) 0 = some (flatC (codeL (printsF s n).code)) → freezeV H1 h.length 39 (.msl (h.length + 1) 0 4 6 0 (some 4)) = some (.lst (codeL (printsF s n).code) 6 .open) := fun H1 ho => by
      unfold freezeV
      simp only
      rw [if_neg (by omega), ho]
      simp only [Option.bind_eq_bind, Option.bind_some]
      rfl
    have hz' := hz _ ho
    simp only [mapO, hz', fz_int, Option.bind_eq_bind, Option.bind_some]
    rfl
theorem two_eq (h : Heap) : call cfg 14 [] h = some (.ret (.agg twoP.cells), h) := by
  have p1 := fun H => prints_eq [116] 1 H
  have p2 := fun H => prints_eq [117] 2 H
  rw [call14]
  simp only [SFun.cells] at p1 p2
  simp only [F14, k14, Tryz.f14, sxAll, cA, Env.keep, qt_eq, resultsA, packA, storeA, loadA, Rv.part, cellsAt, TD.isAgg, buildA, fillA, setCells, copies, mapO, ↓Option.bind_some, Nat.reduceBEq, Nat.reduceAdd, Nat.reduceMul, Nat.reduceLeDiff, Nat.reduceGT, bne, ↓reduceIte, p1, p2, pu25, ty26, ty24, ty47, cells_msl, leaf_msl]
  refine leave_pure pu14 ?_ ?_
  · simp
  · have ho : (h ++ [AObj.cells [.lst [] 0 .nil, .lst [] 0 .nil, .msl (h.length + 1) 0 2 5 0 (some 2)] 0, .cells (flatC (funsL twoP.funs)) 0]).obj (h.length + 1) 0 = some (flatC (funsL twoP.funs)) := by rw [obj_app]; rfl
    have hz : ∀ H1 : Heap, H1.obj (h.length + 1) 0 = some (flatC (funsL twoP.funs)) → freezeV H1 h.length 39 (.msl (h.length + 1) 0 2 5 0 (some 2)) = some (.lst (funsL twoP.funs) 5 .open) := fun H1 ho => by
      unfold freezeV
      simp only
      rw [if_neg (by omega), ho]
      simp only [Option.bind_eq_bind, Option.bind_some]
      rfl
    have hz' := hz _ ho
    rw [fz_agg]
    have hz2 : ∀ H1 : Heap, freezeV H1 h.length 39 (.msl (h.length + 1) 0 2 5 0 (some 2)) = some (.lst (funsL twoP.funs) 5 .open) → mapO (freezeV H1 h.length 39) [.lst [] 0 .nil, .lst [] 0 .nil, .msl (h.length + 1) 0 2 5 0 (some 2)] = some twoP.cells := fun H1 hz' => by
      simp only [mapO, hz', Option.bind_eq_bind, Option.bind_some]
      rfl
    exact congrArg (Option.map AV.agg) (hz2 _ hz')
end
end Go.Proofs.Sx
namespace Go.Proofs.Sx
open Go.Rv Go.Proofs
attribute [local congr] bind_left got_left
noncomputable section
theorem two_may : mayP twoP = true := by kernel_rfl
theorem two_end : (runR twoP (goTurns (ownP twoP)) false 9).1.ending = 1 := by kernel_rfl
theorem two_out : (runR twoP (goTurns (ownP twoP)) false 9).1.out = [1, 2] := by kernel_rfl
theorem two_row : (runR twoP (goTurns (ownP twoP)) false 9).2 = [0, 1, 0, 1, 0, 1, 0, 1] := by kernel_rfl
theorem two_wf : twoP.wf := by
  refine ⟨by decide, by decide, by decide, by simp [twoP], by simp [twoP], ?_⟩
  intro f hf
  simp only [twoP, List.mem_cons, List.not_mem_nil, or_false] at hf
  rcases hf with rfl | rfl <;> simp [SFun.wf, SIns.wf, printsF, insP]
theorem two_nils : twoP.nils where
  mems _ := rfl
  locks _ := rfl
  funs h := by cases h
  code F hF h := by
    simp only [twoP, List.mem_cons, List.not_mem_nil, or_false] at hF
    rcases hF with rfl | rfl <;> cases h
  args F hF i hi h := by
    simp only [twoP, List.mem_cons, List.not_mem_nil, or_false] at hF
    rcases hF with rfl | rfl <;>
    · simp only [printsF, insP, List.mem_cons, List.not_mem_nil, or_false] at hi
      rcases hi with rfl | rfl | rfl | rfl <;> rfl
theorem two_small : twoP.small where
  mems := by decide
  locks := by decide
  funs := by decide
  code F hF := by
    simp only [twoP, List.mem_cons, List.not_mem_nil, or_false] at hF
    rcases hF with rfl | rfl <;> decide
  args F hF i hi := by
    simp only [twoP, List.mem_cons, List.not_mem_nil, or_false] at hF
    rcases hF with rfl | rfl <;>
    · simp only [printsF, insP, List.mem_cons, List.not_mem_nil, or_false] at hi
      rcases hi with rfl | rfl | rfl | rfl <;> decide
theorem pu8 : cfg.pure 8 = true := rfl
instance t8 {d : Option Nat} : TightD cfg 8 d := ⟨fun _ _ => rfl⟩
def B8 (p : List Bool) := cA p Tryz.f8.body
def R8 (p : List Bool) (i : Nat) := Code.region i (cA p Tryz.f8.body) false
theorem F8 : (∀ p i, XR cfg 8 (R8 p i) (B8 p) (cA p Tryz.f8.body).toList i false) ∧ GO cfg 8 (B8 [tt, tt, ff]) 2 10 ∧ GO cfg 8 (B8 [tt, tt, ff]) 7 15 ∧ GO cfg 8 (B8 [tt, tt, ff]) 12 20 ∧ GO cfg 8 (B8 [tt, tt, ff]) 18 26 ∧ GO cfg 8 (B8 [tt, tt, ff]) 25 33 ∧ GO cfg 8 (B8 [tt, tt, ff]) 32 40 ∧ GO cfg 8 (B8 [tt, tt, ff]) 38 46 ∧ RE cfg 8 [0, 1, 2] ∧ cfg.pure 8 = true := ⟨fun _ _ => xr rfl rfl, gO (by kernel_rfl), gO (by kernel_rfl), gO (by kernel_rfl), gO (by kernel_rfl), gO (by kernel_rfl), gO (by kernel_rfl), gO (by kernel_rfl), rE fun _ => rfl, rfl⟩
def k8 : Code := (.seq (R8 [ff] 0) (.seq (R8 [tt, ff] 1) (.seq (R8 [tt, tt, ff] 2) .ret)))
theorem call8 (h : Heap) : call cfg 8 [] h = (exec cfg 8 k8 [] h).bind (callEnd cfg 8 h [.tmp 0]) := call_at2 (fnat Tryz.func8 (b := k8) (by kernel_rfl) (by kernel_rfl)) rfl rfl
theorem awake_eq (h : Heap) : call cfg 8 [] h = some (.ret (.bool true), h) := by
  obtain ⟨v, hv, hR⟩ := runTurns_yes two_wf two_nils two_small two_may 9 (by omega) h
  have h2 := two_eq h
  obtain ⟨z, r, a, z', r', rfl, es, z2, r2, rfl, _⟩ := hR
  rw [two_end, two_out, two_row] at hv
  replace hv : call cfg 9 [.agg twoP.cells, .int .i64 9] h = some (.ret (.tup [.agg [.int .u8 1, .lst [.int .i64 1, .int .i64 2] z r, .lst es z2 r2, .int .i64 8, .lst [.int .i64 0, .int .i64 1, .int .i64 0, .int .i64 1, .int .i64 0, .int .i64 1, .int .i64 0, .int .i64 1] z' r'], .int .i64 0]), h) := hv
  have n0 : Int.toNat 0 = 0 := rfl
  have n1 : Int.toNat 1 = 1 := rfl
  have e2 : (((2 : Nat) : Int) == 2) = true := rfl
  have e8 : (((8 : Nat) : Int) == 8) = true := rfl
  have e2' : ((([AV.int .i64 1, AV.int .i64 2].length : Nat) : Int) == 2) = true := rfl
  rw [call8]
  simp only [SProg.cells] at hv h2
  simp only [F8, k8, Tryz.f8, sxAll, cA, arithA, Env.keep, qt_eq, resultsA, packA, storeA, indexAddrA, fieldAddrA, loadA, Rv.part, cellsAt, TD.isAgg, setCells, lenA, mapO, ↓Option.bind_some, Nat.reduceBEq, Nat.reduceAdd, Nat.reduceLeDiff, Int.reduceLT, ↓reduceIte, h2, hv, e2, e8, n0, n1, pu14, pu9, ty33, ty29, ty31, ty3, ty2, ty5]
  refine leave_pure pu8 ?_ ?_
  · simp
  · rfl
end
end Go.Proofs.Sx
namespace Go.Proofs.Sx
open Go.Rv Go.Proofs
noncomputable section
theorem canB_end {p : SProg} {σ : SSt} (h : σ.ending ≠ 0) (t : Nat) : canB p σ t = false := by
  unfold canB
  cases σ.top t with
  | none => rfl
  | some f =>
    simp only
    cases insAt p f with
    | none => rfl
    | some i => simp [h]
end
end Go.Proofs.Sx
namespace Go.Proofs.Sx
open Go.Rv Go.Proofs
attribute [local congr] bind_left got_left
noncomputable section
instance t3 {d : Option Nat} : TightD cfg 3 d := ⟨fun _ _ => rfl⟩
def B3 (p : List Bool) := cA p Tryz.f3.body
def R3 (p : List Bool) (i : Nat) := Code.region i (cA p Tryz.f3.body) false
theorem F3 : (∀ p i, XR cfg 3 (R3 p i) (B3 p) (cA p Tryz.f3.body).toList i false) ∧ cfg.imm 3 3 = true ∧ GO cfg 3 (B3 [tt, ff, ff]) 2 13 ∧ GO cfg 3 (B3 [tt, ff, ff]) 6 17 ∧ GO cfg 3 (B3 [tt, ff, ff]) 10 21 ∧ GO cfg 3 (B3 [tt, ff, ff]) 14 25 ∧ GO cfg 3 (B3 [tt, ff, ff]) 18 29 ∧ GO cfg 3 (B3 [tt, tt, tt, tt, ff, ff]) 3 51 ∧ GO cfg 3 (B3 [tt, tt, tt, tt, tt, ff, tt, ff, ff]) 4 65 ∧ RE cfg 3 [0, 1, 2, 3, 6, 7, 8, 9, 10, 32, 54, 60] ∧ cfg.pure 3 = true := ⟨fun _ _ => xr rfl rfl, by kernel_rfl, gO (by kernel_rfl), gO (by kernel_rfl), gO (by kernel_rfl), gO (by kernel_rfl), gO (by kernel_rfl), gO (by kernel_rfl), gO (by kernel_rfl), rE fun _ => rfl, rfl⟩
def k3 : Code := (.seq (R3 [ff] 0) (.seq (.seq (R3 [tt, ff, ff] 1) (.cond (.tmp 32) (.seq (R3 [tt, ff, tt, ff, ff] 2) .ret) .skip)) (.seq (R3 [tt, tt, ff] 3) (.seq (R3 [tt, tt, tt, ff] 4) (.seq (.seq (R3 [tt, tt, tt, tt, ff, ff] 5) (.cond (.tmp 54) (.seq (R3 [tt, tt, tt, tt, ff, tt, ff, ff] 6) .ret) .skip)) (.seq (.seq (R3 [tt, tt, tt, tt, tt, ff, ff] 7) (.cond (.tmp 60) (.seq (R3 [tt, tt, tt, tt, tt, ff, tt, ff, ff] 8) .ret) .skip)) (.seq (R3 [tt, tt, tt, tt, tt, tt, ff] 9) .ret)))))))
theorem small_of_may {p : SProg} (hw : p.wf) (hm : mayP p = true) : p.small := by
  have P := prog_ok hm
  have hc := P.count
  exact ⟨by omega, by omega, by omega, fun F hF => by have := (P.funs F hF).len; omega, fun F hF i hi => by
    have := (hw.2.2.2.2.2 F hF).2.2 i hi
    have := this.2.2
    omega⟩
section
variable (p : SProg) (hw : p.wf) (hn : p.nils)
include hw hn
end
end
end Go.Proofs.Sx
namespace Go.Proofs.Sx
open Go.Rv Go.Proofs
noncomputable section
abbrev PP : Program := Tryz.prog
variable {H : Type} {enc : TypeId × Value → H}
abbrev bk (H : Type) : DataW H → Nat := YtlimadookjcbmaaGreatDoor.Rows.uptoBulk
theorem bulkOk {H : Type} : Bulk (bk H) (YtlimadookjcbmaaGreatDoor.Rows.uptoBulkAll) where
  str l := by simp [YtlimadookjcbmaaGreatDoor.Rows.uptoBulk]
  slice e s := by simp only [YtlimadookjcbmaaGreatDoor.Rows.uptoBulk]; omega
  agg e := by simp only [YtlimadookjcbmaaGreatDoor.Rows.uptoBulk]; omega
  cons d r := by simp only [YtlimadookjcbmaaGreatDoor.Rows.uptoBulkAll]
  pos d := by
    cases d with
    | lit l => cases l <;> simp [YtlimadookjcbmaaGreatDoor.Rows.uptoBulk]
    | nil => simp [YtlimadookjcbmaaGreatDoor.Rows.uptoBulk]
    | ptr d => simp [YtlimadookjcbmaaGreatDoor.Rows.uptoBulk]
    | slice elems spare => simp [YtlimadookjcbmaaGreatDoor.Rows.uptoBulk]
    | agg parts => simp [YtlimadookjcbmaaGreatDoor.Rows.uptoBulk]
    | iface t d => simp [YtlimadookjcbmaaGreatDoor.Rows.uptoBulk]
    | map entries => simp [YtlimadookjcbmaaGreatDoor.Rows.uptoBulk]
    | held h => simp [YtlimadookjcbmaaGreatDoor.Rows.uptoBulk]
abbrev OP (t : TypeId) {α : Type} (pic : α → List AV) (ok : α → Prop) : Prop := ∀ (H : Type) (enc : TypeId × Value → H), Opens enc PP (bk H) 1048576 t pic ok
abbrev wf64 (n : Int) : Prop := (Lit.int .i64 n).wf = true
theorem oInt : OP 3 (fun n : Int => [.int .i64 n]) wf64 := fun H enc => opens_int Tryz.underlying3
theorem oInts : OP 31 (GS.pic (fun n : Int => .int .i64 n) 1) (GS.ok 1048576 wf64) :=
  fun H enc => opens_slice bulkOk Tryz.underlying31 (oInt H enc) (by kernel_rfl) (by omega) _ (fun _ => rfl) (fun _ => rfl)
theorem oStr : OP 9 (fun l : List UInt8 => [.str l]) (fun l => l.length ≤ 1048576) := fun H enc => opens_string bulkOk Tryz.underlying9
theorem oStrs : OP 23 (GS.pic (fun l : List UInt8 => .str l) 1) (GS.ok 1048576 fun l => l.length ≤ 1048576) :=
  fun H enc => opens_slice bulkOk Tryz.underlying23 (oStr H enc) (by kernel_rfl) (by omega) _ (fun _ => rfl) (fun _ => rfl)
theorem oI64 : OP 2 (fun n : Int => [.int .i64 n]) wf64 := fun H enc => opens_int Tryz.underlying2
theorem oU8 : OP 5 (fun n : Int => [.int .u8 n]) (fun n => (Lit.int .u8 n).wf = true) := fun H enc => opens_int Tryz.underlying5
theorem oBool : OP 4 (fun b : Bool => [.bool b]) (fun _ => True) := fun H enc => opens_bool Tryz.underlying4
abbrev MemD := List UInt8 × Int × Int × Unit
def memPic (p : MemD) : List AV := [.str p.1] ++ ([.int .i64 p.2.1] ++ ([.int .i64 p.2.2.1] ++ []))
def memOk (p : MemD) : Prop := p.1.length ≤ 1048576 ∧ wf64 p.2.1 ∧ wf64 p.2.2.1 ∧ True
theorem oMem : OP 101 memPic memOk := fun H enc => by
  have F := opens_struct (enc := enc) bulkOk Tryz.underlying101 (opensF_cons (oStr H enc) (opensF_cons (oInt H enc) (opensF_cons (oI64 H enc) opensF_nil))) (by kernel_rfl)
  exact F
theorem oMems : OP 22 (GS.pic (fun p => .agg (memPic p)) 3) (GS.ok 1048576 memOk) :=
  fun H enc => opens_slice bulkOk Tryz.underlying22 (oMem H enc) (by kernel_rfl) (by omega) _ (fun _ => rfl) (fun _ => rfl)
abbrev InsD := Int × Int × Int × Int × Int × GS Int × Unit
def insPic (p : InsD) : List AV := [.int .u8 p.1] ++ ([.int .i64 p.2.1] ++ ([.int .i64 p.2.2.1] ++ ([.int .i64 p.2.2.2.1] ++ ([.int .i64 p.2.2.2.2.1] ++ (GS.pic (fun n : Int => .int .i64 n) 1 p.2.2.2.2.2.1 ++ [])))))
def insOk (p : InsD) : Prop := (Lit.int .u8 p.1).wf = true ∧ wf64 p.2.1 ∧ wf64 p.2.2.1 ∧ wf64 p.2.2.2.1 ∧ wf64 p.2.2.2.2.1 ∧ GS.ok 1048576 wf64 p.2.2.2.2.2.1 ∧ True
theorem oIns : OP 49 insPic insOk := fun H enc => by
  have F := opens_struct (enc := enc) bulkOk Tryz.underlying49 (opensF_cons (oU8 H enc) (opensF_cons (oInt H enc) (opensF_cons (oInt H enc) (opensF_cons (oInt H enc) (opensF_cons (oI64 H enc) (opensF_cons (oInts H enc) opensF_nil)))))) (by kernel_rfl)
  exact F
theorem insPic_len (p : InsD) : (insPic p).length = 6 := by unfold insPic; cases p.2.2.2.2.2.1 <;> rfl
theorem oCode : OP 45 (GS.pic (fun p => .agg (insPic p)) 6) (GS.ok 1048576 insOk) :=
  fun H enc => opens_slice bulkOk Tryz.underlying45 (oIns H enc) (by kernel_rfl) (by omega) _ (fun _ => rfl) insPic_len
abbrev FunD := List UInt8 × Bool × Int × Int × GS InsD × Unit
def funPic (p : FunD) : List AV := [.str p.1] ++ ([.bool p.2.1] ++ ([.int .i64 p.2.2.1] ++ ([.int .i64 p.2.2.2.1] ++ (GS.pic (fun q => .agg (insPic q)) 6 p.2.2.2.2.1 ++ []))))
def funOk (p : FunD) : Prop := p.1.length ≤ 1048576 ∧ True ∧ wf64 p.2.2.1 ∧ wf64 p.2.2.2.1 ∧ GS.ok 1048576 insOk p.2.2.2.2.1 ∧ True
theorem oFun : OP 47 funPic funOk := fun H enc => by
  have F := opens_struct (enc := enc) bulkOk Tryz.underlying47 (opensF_cons (oStr H enc) (opensF_cons (oBool H enc) (opensF_cons (oInt H enc) (opensF_cons (oInt H enc) (opensF_cons (oCode H enc) opensF_nil))))) (by kernel_rfl)
  exact F
theorem funPic_len (p : FunD) : (funPic p).length = 5 := by unfold funPic; cases p.2.2.2.2.1 <;> rfl
theorem oFuns : OP 24 (GS.pic (fun p => .agg (funPic p)) 5) (GS.ok 1048576 funOk) :=
  fun H enc => opens_slice bulkOk Tryz.underlying24 (oFun H enc) (by kernel_rfl) (by omega) _ (fun _ => rfl) funPic_len
abbrev ProgD := GS MemD × GS (List UInt8) × GS FunD × Unit
def progPic (p : ProgD) : List AV := GS.pic (fun q => .agg (memPic q)) 3 p.1 ++ (GS.pic (fun l : List UInt8 => .str l) 1 p.2.1 ++ (GS.pic (fun q => .agg (funPic q)) 5 p.2.2.1 ++ []))
def progOk (p : ProgD) : Prop := GS.ok 1048576 memOk p.1 ∧ GS.ok 1048576 (fun l => l.length ≤ 1048576) p.2.1 ∧ GS.ok 1048576 funOk p.2.2.1 ∧ True
theorem oProgD : OP 26 progPic progOk := fun H enc => by
  have F := opens_struct (enc := enc) bulkOk Tryz.underlying26 (opensF_cons (oMems H enc) (opensF_cons (oStrs H enc) (opensF_cons (oFuns H enc) opensF_nil))) (by kernel_rfl)
  exact F
def GS.list {α : Type} : GS α → List α
  | .nil => []
  | .mk l _ => l
def GS.room {α : Type} : GS α → Room
  | .nil => .nil
  | .mk _ c => .exact c
theorem GS.pic_eq {α : Type} (el : α → AV) (z : Nat) (g : GS α) : GS.pic el z g = [.lst ((GS.list g).map el) z (GS.room g)] := by cases g <;> rfl
theorem GS.ok_all {α : Type} {B : Nat} {ok : α → Prop} {g : GS α} (h : GS.ok B ok g) : (GS.list g).length ≤ B ∧ ∀ a ∈ GS.list g, ok a := by
  cases g with
  | nil => exact ⟨by simp [GS.list], fun a ha => by simp [GS.list] at ha⟩
  | mk l c => exact h
def memOf (p : MemD) : SMem := ⟨p.1, p.2.1, p.2.2.1⟩
def insOf (p : InsD) : SIns := ⟨p.1, p.2.1, p.2.2.1, p.2.2.2.1, p.2.2.2.2.1, GS.list p.2.2.2.2.2.1, 1, GS.room p.2.2.2.2.2.1⟩
def funOf (p : FunD) : SFun := ⟨p.1, p.2.1, p.2.2.1, p.2.2.2.1, (GS.list p.2.2.2.2.1).map insOf, 6, GS.room p.2.2.2.2.1⟩
def progOf (p : ProgD) : SProg := ⟨(GS.list p.1).map memOf, 3, GS.room p.1, GS.list p.2.1, 1, GS.room p.2.1, (GS.list p.2.2.1).map funOf, 5, GS.room p.2.2.1⟩
theorem insPic_eq (p : InsD) : insPic p = (insOf p).cells := by
  unfold insPic
  rw [GS.pic_eq]
  rfl
theorem funPic_eq (p : FunD) : funPic p = (funOf p).cells := by
  unfold funPic
  rw [GS.pic_eq]
  simp only [SFun.cells, funOf, codeL, List.map_map, Function.comp_def, insPic_eq]
  rfl
theorem progPic_eq (p : ProgD) : progPic p = (progOf p).cells := by
  unfold progPic
  rw [GS.pic_eq, GS.pic_eq, GS.pic_eq]
  simp only [SProg.cells, progOf, memsL, strL, funsL, List.map_map, Function.comp_def, funPic_eq]
  rfl
theorem insOf_wf {p : InsD} (h : insOk p) : (insOf p).wf := by
  obtain ⟨h1, _, _, _, _, h6, _⟩ := h
  have h1' := h1
  have e1 : IntKind.u8.min = 0 := rfl
  have e2 : IntKind.u8.max = 255 := rfl
  simp only [Lit.wf, decide_eq_true_eq, Bool.and_eq_true, e1, e2] at h1'
  refine ⟨?_, ?_, ?_⟩
  · show 0 ≤ p.1; omega
  · show p.1 < 256; omega
  · have := (GS.ok_all h6).1
    show (GS.list p.2.2.2.2.2.1).length < 100000000
    omega
theorem funOf_wf {p : FunD} (h : funOk p) : (funOf p).wf := by
  obtain ⟨h1, _, _, _, h5, _⟩ := h
  obtain ⟨h6, h7⟩ := GS.ok_all h5
  refine ⟨?_, ?_, ?_⟩
  · simp only [funOf, List.length_map]; omega
  · show p.1.length < _; omega
  · intro i hi
    obtain ⟨q, hq, rfl⟩ := List.mem_map.1 hi
    exact insOf_wf (h7 q hq)
theorem progOf_wf {p : ProgD} (h : progOk p) : (progOf p).wf := by
  obtain ⟨h1, h2, h3, _⟩ := h
  obtain ⟨a1, a2⟩ := GS.ok_all h1
  obtain ⟨b1, b2⟩ := GS.ok_all h2
  obtain ⟨c1, c2⟩ := GS.ok_all h3
  refine ⟨?_, ?_, ?_, ?_, ?_, ?_⟩
  · simp only [progOf, List.length_map]; omega
  · show (GS.list p.2.1).length < _; omega
  · simp only [progOf, List.length_map]; omega
  · intro m hm
    obtain ⟨q, hq, rfl⟩ := List.mem_map.1 hm
    have := (a2 q hq).1
    show q.1.length < _; omega
  · intro l hl
    have := b2 l hl
    omega
  · intro f hf
    obtain ⟨q, hq, rfl⟩ := List.mem_map.1 hf
    exact funOf_wf (c2 q hq)
theorem GS.nil_list {α : Type} {g : GS α} (h : GS.room g = .nil) : GS.list g = [] := by
  cases g with
  | nil => rfl
  | mk l c => cases h
theorem progOf_nils (p : ProgD) : (progOf p).nils where
  mems h := by
    show (GS.list p.1).map memOf = []
    rw [GS.nil_list h]; rfl
  locks h := GS.nil_list h
  funs h := by
    show (GS.list p.2.2.1).map funOf = []
    rw [GS.nil_list h]; rfl
  code F hF h := by
    obtain ⟨q, _, rfl⟩ := List.mem_map.1 hF
    show (GS.list q.2.2.2.2.1).map insOf = []
    rw [GS.nil_list h]; rfl
  args F hF i hi h := by
    obtain ⟨q, _, rfl⟩ := List.mem_map.1 hF
    obtain ⟨r, _, rfl⟩ := List.mem_map.1 hi
    exact GS.nil_list h
theorem oProg : OP 26 SProg.cells (fun p => p.wf ∧ p.nils) := fun H enc w n cs x h1 h2 h3 => by
  obtain ⟨a, ha, hv⟩ := oProgD H enc w n cs x h1 h2 h3
  exact ⟨progOf a, ⟨progOf_wf ha, progOf_nils a⟩, by rw [← progPic_eq]; exact hv⟩
end
end Go.Proofs.Sx
namespace Go.Proofs
open Go.Shelf
def Tryz.sortT_ren : Go.Shelf.Ren := ⟨fun | 6 => 75 | 8 => 97 | 9 => 96 | 19 => 122 | 20 => 123 | 21 => 113 | 22 => 114 | 23 => 115 | 24 => 116 | 25 => 117 | 26 => 118 | 27 => 119 | 28 => 120 | 29 => 121 | 36 => 147 | 31 => 148 | 32 => 149 | 37 => 150 | 38 => 151 | 39 => 152 | 41 => 158 | n => n, fun | 27 => 23 | 29 => 9 | 3 => 3 | 32 => 39 | 26 => 23 | 0 => 0 | 44 => 162 | 46 => 83 | 4 => 4 | 36 => 174 | 35 => 173 | 41 => 116 | 5 => 5 | 9 => 9 | 53 => 195 | 57 => 199 | 63 => 205 | 64 => 206 | n => n, fun | n => n⟩
theorem Tryz.sortT : Go.Proofs.SlLaysM.n6 Tryz.prog Tryz.sortT_ren := {
  mixed := by kernel_rfl
  f6 := ⟨Tryz.f75.name, by decide, Tryz.func75.trans (congrArg some (by kernel_rfl))⟩
  f8 := Tryz.func97.trans (congrArg some (by kernel_rfl))
  f9 := ⟨Tryz.f96.name, by decide, Tryz.func96.trans (congrArg some (by kernel_rfl))⟩
  f19 := Tryz.func122.trans (congrArg some (by kernel_rfl))
  f20 := Tryz.func123.trans (congrArg some (by kernel_rfl))
  f21 := ⟨Tryz.f113.name, by decide, Tryz.func113.trans (congrArg some (by kernel_rfl))⟩
  f22 := ⟨Tryz.f114.name, by decide, Tryz.func114.trans (congrArg some (by kernel_rfl))⟩
  f23 := ⟨Tryz.f115.name, by decide, Tryz.func115.trans (congrArg some (by kernel_rfl))⟩
  f24 := ⟨Tryz.f116.name, by decide, Tryz.func116.trans (congrArg some (by kernel_rfl))⟩
  f25 := ⟨Tryz.f117.name, by decide, Tryz.func117.trans (congrArg some (by kernel_rfl))⟩
  f26 := ⟨Tryz.f118.name, by decide, Tryz.func118.trans (congrArg some (by kernel_rfl))⟩
  f27 := ⟨Tryz.f119.name, by decide, Tryz.func119.trans (congrArg some (by kernel_rfl))⟩
  f28 := ⟨Tryz.f120.name, by decide, Tryz.func120.trans (congrArg some (by kernel_rfl))⟩
  f29 := ⟨Tryz.f121.name, by decide, Tryz.func121.trans (congrArg some (by kernel_rfl))⟩
  f31 := Tryz.func148.trans (congrArg some (by kernel_rfl))
  f32 := Tryz.func149.trans (congrArg some (by kernel_rfl))
  f36 := ⟨Tryz.f147.name, by decide, Tryz.func147.trans (congrArg some (by kernel_rfl))⟩
  f37 := ⟨Tryz.f150.name, by decide, Tryz.func150.trans (congrArg some (by kernel_rfl))⟩
  f38 := ⟨Tryz.f151.name, by decide, Tryz.func151.trans (congrArg some (by kernel_rfl))⟩
  f39 := ⟨Tryz.f152.name, by decide, Tryz.func152.trans (congrArg some (by kernel_rfl))⟩
  f41 := ⟨Tryz.f158.name, by decide, Tryz.func158.trans (congrArg some (by kernel_rfl))⟩
  t0 := Tryz.underlying0
  a0 := Tryz.isAgg0
  z0 := Tryz.sizeOf0
  v0 := Tryz.zeroValue0
  t3 := Tryz.underlying3
  a3 := Tryz.isAgg3
  z3 := Tryz.sizeOf3
  v3 := Tryz.zeroValue3
  t4 := Tryz.underlying4
  a4 := Tryz.isAgg4
  z4 := Tryz.sizeOf4
  v4 := Tryz.zeroValue4
  t5 := Tryz.underlying5
  a5 := Tryz.isAgg5
  z5 := Tryz.sizeOf5
  v5 := Tryz.zeroValue5
  t9 := Tryz.underlying9
  a9 := Tryz.isAgg9
  z9 := Tryz.sizeOf9
  v9 := Tryz.zeroValue9
  t26 := Tryz.underlying23
  a26 := Tryz.isAgg23
  z26 := Tryz.sizeOf23
  v26 := Tryz.zeroValue23
  t27 := Tryz.underlying23
  a27 := Tryz.isAgg23
  z27 := Tryz.sizeOf23
  v27 := Tryz.zeroValue23
  t29 := Tryz.underlying9
  a29 := Tryz.isAgg9
  z29 := Tryz.sizeOf9
  v29 := Tryz.zeroValue9
  t32 := Tryz.underlying39
  a32 := Tryz.isAgg39
  z32 := Tryz.sizeOf39
  v32 := Tryz.zeroValue39
  t35 := Tryz.underlying173
  a35 := Tryz.isAgg173
  z35 := Tryz.sizeOf173
  v35 := Tryz.zeroValue173
  t36 := Tryz.underlying174
  a36 := Tryz.isAgg174
  z36 := Tryz.sizeOf174
  v36 := Tryz.zeroValue174
  t41 := Tryz.underlying116
  a41 := Tryz.isAgg116
  z41 := Tryz.sizeOf116
  v41 := Tryz.zeroValue116
  t44 := Tryz.underlying162
  a44 := Tryz.isAgg162
  z44 := Tryz.sizeOf162
  v44 := Tryz.zeroValue162
  t46 := Tryz.underlying83
  a46 := Tryz.isAgg83
  z46 := Tryz.sizeOf83
  v46 := Tryz.zeroValue83
  t53 := Tryz.underlying195
  a53 := Tryz.isAgg195
  z53 := Tryz.sizeOf195
  v53 := Tryz.zeroValue195
  t57 := Tryz.underlying199
  a57 := Tryz.isAgg199
  z57 := Tryz.sizeOf199
  v57 := Tryz.zeroValue199
  t63 := Tryz.underlying205
  a63 := Tryz.isAgg205
  z63 := Tryz.sizeOf205
  v63 := Tryz.zeroValue205
  t64 := Tryz.underlying206
  a64 := Tryz.isAgg206
  z64 := Tryz.sizeOf206
  v64 := Tryz.zeroValue206 }
end Go.Proofs
namespace Go.Rv
open Go.Sort Go.RowKit Go.Proofs
def StrSortSays (P : Program) (f : Nat) : Prop :=
  (∀ (blk off cap : Nat) (ss : List (List UInt8)) (w : World), Holds encStr w blk off ss.toArray → blk < w.heap.size → ss.length < 4611686018427387904 →
    Calls P f #[.slice (some ⟨blk, off, none⟩) ss.length cap] w fun e w' => e = .returned (.tuple #[]) ∧ ∃ n os, w' = grow (putRow encStr (Sort.ahead w n) blk off (ss.mergeSort fun x y => decide (x ≤ y)).toArray) os) ∧
  ∀ (p : Option Addr) (cap : Nat) (w : World), Calls P f #[.slice p 0 cap] w fun e w' => e = .returned (.tuple #[]) ∧ w' = w
section
variable {P : Program} {s : Sim} {h : Heap} {w : World}
theorem sortStr_ok {f : Nat} (hS : StrSortSays P f) {args : List AV} {res : CRes} {h' : Heap} (hp : sortStr args h = some (res, h')) {vs : List Value} (R : Rel s h w) (H : VRs s h w args vs) : CallOk P f vs s h w res h' := by
  unfold sortStr at hp
  split at hp <;> first | cases hp | skip
  · rename_i z r
    obtain ⟨v0, hvs0⟩ := List.length_eq_one_iff.1 (show vs.length = 1 by rw [← H.1]; rfl)
    subst hvs0
    obtain ⟨v1, hv1, hvr⟩ := H.2 0 _ rfl
    have hv1 : v0 = v1 := by simpa using hv1
    subst hv1
    have key : ∀ p cap, v0 = .slice p 0 cap → CallOk P f [v0] s h w (.ret (.tup [])) h := by
      rintro p cap rfl
      refine Calls.mono (hS.2 p cap w) fun e w' he => ?_
      obtain ⟨rfl, rfl⟩ := he
      exact ⟨s, Ext.refl _ _ _, R, .tup [] #[] rfl fun i c hi => by simp at hi⟩
    cases hvr with
    | lstNil => exact key _ _ rfl
    | lstEmpty => exact key _ _ rfl
    | lst => exact key _ _ rfl
  · rename_i o len g cap
    obtain ⟨cs, hcs, hp⟩ := Option.bind_eq_some_iff.1 hp
    split at hp <;> first | cases hp | skip
    rename_i hlen
    obtain ⟨hlen, hmax⟩ := hlen
    obtain ⟨ss, hss, hp⟩ := Option.map_eq_some_iff.1 hp
    simp only [Prod.mk.injEq] at hp
    obtain ⟨rfl, rfl⟩ := hp
    have hcsm := strsOf_eq hss
    subst hcsm
    simp only [List.length_map] at hlen
    have hsl : (sortedS ss).length = ss.length := (sortedS_perm ss).length_eq
    obtain ⟨v0, hvs0⟩ := List.length_eq_one_iff.1 (show vs.length = 1 by rw [← H.1]; rfl)
    subst hvs0
    obtain ⟨v1, hv1, hvr⟩ := H.2 0 _ rfl
    have hv1 : v0 = v1 := by simpa using hv1
    subst hv1
    have hgo := genOf_obj hcs
    cases hvr with
    | mslOld _ _ _ _ _ _ g' a n c k1 k2 => have := hgo.1; rw [this] at k1; injection k1; omega
    | msl _ _ _ _ _ _ b c el n off' hoff hg hb hle hcap hnone hsh hn =>
      by_cases h0 : ss.length = 0
      · have hs0 : ss = [] := List.length_eq_zero_iff.1 h0
        subst hs0
        simp only [List.length_nil] at hlen
        subst hlen
        have hset : h.set o (.cells ((sortedS []).map AV.str) g) = h := by
          have hx := hgo.2.1
          simp only [List.map_nil] at hx
          apply List.ext_getElem?
          intro i
          by_cases hi : o = i
          · subst hi
            rw [List.getElem?_set_self (List.getElem?_eq_some_iff.1 hx).1, hx]
            simp [sortedS]
          · rw [List.getElem?_set_ne hi]
        rw [hset]
        refine Calls.mono (hS.2 _ _ w) fun e w' he => ?_
        obtain ⟨rfl, rfl⟩ := he
        exact ⟨s, Ext.refl _ _ _, R, .tup [] #[] rfl fun i c hi => by simp at hi⟩
      · have hoff0 : off' = 0 := by rcases hoff with h1 | h1 <;> omega
        subst hoff0
        obtain ⟨x, hx, hr⟩ := R.obj o b hb
        have hobj := hgo.2.1
        rw [hobj] at hx
        injection hx with hx; subst hx
        obtain ⟨bc, el', hheap, hsz, hcell⟩ := hr
        simp only [List.length_map] at hsz
        have hbl : b < w.heap.size := R.lt hb
        have hcs' : ∀ j, j < ss.length → bc[j]? = some (encStr ss[j]!) := by
          intro j hj
          obtain ⟨v, hv, hvr⟩ := hcell j (.str ss[j]) (by simp [hj])
          cases hvr
          rw [hv, getElem!_pos ss j hj]
        have hH : Holds encStr w b 0 ss.toArray := by
          intro j hj
          simp only [List.size_toArray] at hj
          constructor
          · unfold World.cell?
            simp only [hheap, Option.isSome_none, Bool.false_eq_true, if_false, Nat.zero_add]
            rw [hcs' j hj]; simp
          · unfold World.frozen?
            simp only [hheap]
            simp
        have hlt62 : ss.length < 4611686018427387904 := by omega
        have hcall := hS.1 b 0 c ss w hH hbl hlt62
        rw [hlen] at hcall
        refine Calls.mono hcall fun e w' he => ?_
        obtain ⟨rfl, nn, os, rfl⟩ := he
        have hput : (grow (putRow encStr (Sort.ahead w nn) b 0 (ss.mergeSort fun x y => decide (x ≤ y)).toArray) os).heap[b]? = some (.cells (putCells encStr 0 (sortedS ss).toArray bc) el' (0, 0)) := by
          rw [heap_grow_old _ _ (by simpa [putRow, mapBlock, Sort.ahead] using hbl)]
          simp only [putRow, mapBlock, Sort.ahead, ← sortedS_eq, Array.getElem?_modify, if_true, hheap, Option.map_some, onCells]
        have hfar : ∀ k, k < w.heap.size → k ≠ b → (grow (putRow encStr (Sort.ahead w nn) b 0 (ss.mergeSort fun x y => decide (x ≤ y)).toArray) os).heap[k]? = w.heap[k]? := by
          intro k hk hne
          rw [heap_grow_old _ _ (by simpa [putRow, mapBlock, Sort.ahead] using hk)]
          simp only [putRow, mapBlock, Sort.ahead, Array.getElem?_modify, if_neg (Ne.symm hne)]
        have W : Wrote w (grow (putRow encStr (Sort.ahead w nn) b 0 (ss.mergeSort fun x y => decide (x ≤ y)).toArray) os) b :=
          { size := by simp [putRow, mapBlock, Sort.ahead]
            far := hfar
            shape := fun k x hx => by
              by_cases e : k = b
              · subst e
                unfold World.shape? at *
                rw [hput]
                rw [hheap] at hx
                simpa [putCells] using hx
              · rw [shape_of (hfar k (shape_lt hx) e)]; exact hx
            os := rfl
            tape := rfl
            output := rfl }
        have hs : s.add o b = s := by
          unfold Sim.add
          cases s with
          | mk μ I G =>
            congr 1
            funext k
            by_cases e : k = o
            · subst e; simp [show μ k = some b from hb]
            · simp [e]
        have key := write_cells R (b' := b) (g' := g) (cs' := (sortedS ss).map AV.str) hb hobj (Nat.le_refl _) (fun _ => by simp [hsl]) (.inl rfl) W hput (by simp [putCells, hsl]; omega) (fun i x hi => by
          rw [List.getElem?_map] at hi
          obtain ⟨t, ht, rfl⟩ := Option.map_eq_some_iff.1 hi
          have hil : i < (sortedS ss).length := (List.getElem?_eq_some_iff.1 ht).1
          have hib : i < bc.size := by omega
          refine ⟨encStr t, ?_, .str t⟩
          simp only [putCells, Array.getElem?_mapIdx]
          rw [Array.getElem?_eq_getElem hib]
          have hg : (sortedS ss)[i] = t := by
            have := (List.getElem?_eq_some_iff.1 ht).2; exact this
          simp [hil, hg])
        rw [hs] at key
        exact ⟨s, key.1, key.2, .tup [] #[] rfl fun i c hi => by simp at hi⟩
end
end Go.Rv
namespace Go.Proofs.Sx
open Go.Rv Go.Proofs
theorem strSays : StrSortSays Tryz.prog 75 :=
  ⟨fun blk off cap ss w hH hb hs => AnyM.slices_Sort_string Tryz.sortT blk off cap ss w hH hb hs, fun p cap w => AnyM.slices_Sort_string_none Tryz.sortT p cap w⟩
theorem sx_prim : PrimOk Tryz.prog cfg := fun f p hp => by
  have hp : prm f = some p := hp
  unfold prm at hp
  split at hp
  · injection hp with hp; subst hp
    refine ⟨⟨_, _, Tryz.func75, rfl, by kernel_rfl⟩, fun hpure => ?_, fun args h res h' hc s w vs R G H => sortStr_ok strSays hc R H⟩
    exact absurd hpure (by decide)
  · cases hp
end Go.Proofs.Sx
