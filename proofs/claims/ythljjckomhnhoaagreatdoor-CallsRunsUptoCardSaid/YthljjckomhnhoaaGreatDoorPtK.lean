/-
  package code: 'reads'.
-/
import Derived.Test.YthljjckomhnhoaaGreatDoorPtJ
import Derived.Test.YthljjckomhnhoaaGreatDoorPtH
set_option linter.unusedSectionVars false
set_option linter.unusedSimpArgs false
set_option linter.unusedVariables false
set_option linter.defProp false
set_option maxHeartbeats 4000000
set_option maxRecDepth 100000
namespace Go.Proofs.Sx
open Go.Rv Go.Proofs
attribute [local congr] bind_left got_left
noncomputable section
theorem obj_keep {h h' : Heap} {o g : Nat} {cs : List AV} (H : h.obj o g = some cs) (K : h'[o]? = h[o]?) : h'.obj o g = some cs := by
 unfold Heap.obj at *
 rw [K]; exact H
def optL (b : Bool) (l : List Int) : List Int := if b then l else []
def wantA' (q : Row) (i : SIns) : Bool := q.2.1 && !(q.2.2.2.1 && (i.a == -1))
def readsOf (q : Row) (i : SIns) : List Int := optL (wantA' q i) [i.a] ++ (optL q.2.2.1 [i.b] ++ optL (q.2.2.2.2 == 6) i.args)
theorem step_built {h : Heap} {v : AV} {xs : List Int} (c : Bool) (ys : List Int) (B : Built h v (intL xs) 1) (hl : xs.length + ys.length <= mostLen) {o3 g3 n : Nat} {cs : List AV} (h3 : h.obj o3 g3 = some cs) (hne : ∀ o, objOf v = some o -> n <= o /\ o3 ≠ o) (hn : n <= h.length) :
  ∃ v' h', (c = true -> appendA h 1 v (intL ys) = some (v', h')) /\ (c = false -> v' = v /\ h' = h) /\ Built h' v' (intL (xs ++ optL c ys)) 1 /\ h'.obj o3 g3 = some cs /\ (∀ o, objOf v' = some o -> n <= o /\ o3 ≠ o) /\ n <= h'.length /\ h'.take n = h.take n /\ (objOf v ≠ none -> objOf v' ≠ none) := by
 cases c with
 | false => exact ⟨v, h, by simp, fun _ => ⟨rfl, rfl⟩, by simpa [optL] using B, h3, hne, hn, rfl, id⟩
 | true =>
  obtain ⟨v', h', h1, h2, h4, h5, h6⟩ := append_built B (plain_ints xs).size (fun y hy => (plain_ints ys).leafs y hy) (by omega) (by simpa [intL] using hl)
  have ho3 := obj_some h3
  refine ⟨v', h', fun _ => h1, by simp, ?_, obj_keep h3 (h5 o3 ho3 fun hc => (hne o3 hc).2 rfl), ?_, Nat.le_trans hn h4, ?_⟩
  ·rw [show intL (xs ++ optL true ys) = intL xs ++ intL ys by simp [intL, optL]]; exact h2
  ·intro o ho
   rcases h6 with h6 | h6
   ·exact hne o (h6 ▸ ho)
   ·rw [h6] at ho
    simp only [qAf] at ho
    subst ho
    exact ⟨hn, by omega⟩
  ·refine ⟨qBk fun i => ?_, fun hv => by rcases h6 with h6 | h6 <;> rw [h6] <;> simp [hv]⟩
   by_cases hi : i < n
   ·rw [qBa hi, qBa hi]
    exact h5 i (by omega) fun hc => by have := (hne i hc).1; omega
   ·rw [qAt (by simp; omega), qAt (by simp; omega)]
theorem pu131 : cfg.pure 131 = true := rfl
instance t131 {d : Option Nat} : TightD cfg 131 d := ⟨fun _ _ => rfl⟩
def B131 (p : List Bool) := cA p Tryz.f131.body
def R131 (p : List Bool) (i : Nat) := Code.region i (cA p Tryz.f131.body) false
theorem F131 : (∀ p i, XR cfg 131 (R131 p i) (B131 p) (cA p Tryz.f131.body).toList i false) /\ cfg.imm 131 1 = true /\ RE cfg 131 [0, 1, 2] /\ cfg.pure 131 = true := ⟨fun _ _ => xr rfl rfl, by kernel_rfl, rE fun _ => rfl, rfl⟩
def k131 : Code := (.seq (R131 [ff] 0) (.seq (R131 [tt, ff] 1) .ret))
theorem call131 (x0 : AV) (h : Heap) : call cfg 131 [x0] h = (exec cfg 131 k131 [(0, x0)] h).bind (callEnd cfg 131 h [.tmp 2]) := call_at2 (fnat Tryz.func131 (b := k131) (by kernel_rfl) (by kernel_rfl)) rfl rfl
theorem pu94 : cfg.pure 94 = true := rfl
instance t94 {d : Option Nat} : TightD cfg 94 d := ⟨fun _ _ => rfl⟩
def B94 (p : List Bool) := cA p Tryz.f94.body
def R94 (p : List Bool) (i : Nat) := Code.region i (cA p Tryz.f94.body) false
theorem F94 : (∀ p i, XR cfg 94 (R94 p i) (B94 p) (cA p Tryz.f94.body).toList i false) /\ cfg.imm 94 1 = true /\ cfg.imm 94 11 = false /\ GO cfg 94 (B94 [tt, tt, tt, ff, ff]) 2 14 /\ GO cfg 94 (B94 [tt, tt, tt, ff, ff]) 5 17 /\ cfg.imm 94 27 = true /\ cfg.imm 94 34 = true /\ RE cfg 94 [0, 1, 2, 3, 5, 23, 30, 38] /\ cfg.pure 94 = true := ⟨fun _ _ => xr rfl rfl, by kernel_rfl, by kernel_rfl, gO (by kernel_rfl), gO (by kernel_rfl), by kernel_rfl, by kernel_rfl, rE fun _ => rfl, rfl⟩
def k94 : Code := (.seq (R94 [ff] 0) (.seq (R94 [tt, ff] 1) (.seq (R94 [tt, tt, ff] 2) (.seq (.seq (R94 [tt, tt, tt, ff, ff] 3) (.cond (.tmp 23) (R94 [tt, tt, tt, ff, tt, ff] 4) .skip)) (.seq (.seq (R94 [tt, tt, tt, tt, ff, ff] 5) (.cond (.tmp 30) (R94 [tt, tt, tt, tt, ff, tt, ff] 6) .skip)) (.seq (.seq (R94 [tt, tt, tt, tt, tt, ff, ff] 7) (.cond (.tmp 38) (R94 [tt, tt, tt, tt, tt, ff, tt, ff] 8) .skip)) (.seq (R94 [tt, tt, tt, tt, tt, tt, ff] 9) .ret)))))))
theorem call94 (x0 : AV) (h : Heap) : call cfg 94 [x0] h = (exec cfg 94 k94 [(0, x0)] h).bind (callEnd cfg 94 h [.tmp 2]) := call_at2 (fnat Tryz.func94 (b := k94) (by kernel_rfl) (by kernel_rfl)) rfl rfl
section
variable (q : Row) (i : SIns) (H H' : Heap) (v v' : AV) (o3 : Nat) (t0 t2 t4 t23 t30 t38 : AV)
theorem reads_st1 (h3 : H.obj o3 0 = some (rowCells q)) (hk : known v = some v) (hk' : known v' = some v') (h1 : wantA' q i = true -> appendA H 1 v (intL [i.a]) = some (v', H')) (h2 : wantA' q i = false -> v' = v /\ H' = H) :
  exec cfg 94 (.seq (R94 [tt, tt, tt, ff, ff] 3) (.cond (.tmp 23) (R94 [tt, tt, tt, ff, tt, ff] 4) .skip)) [(0, t0), (1, .ref i.cells), (2, t2), (3, .ptr o3 0 0), (5, v), (23, t23), (30, t30), (38, t38)] H
   = some (.nrm, [(0, t0), (1, .ref i.cells), (2, t2), (3, .ptr o3 0 0), (5, v'), (23, (.bool (wantA' q i))), (30, t30), (38, t38)], H') := by
 have hl : H.live o3 0 = true := by simp [Heap.live, h3]
 obtain ⟨q1, q2, q3, q4, n⟩ := q
 simp only [rowCells] at h3
 cases q2 with
 | false =>
  obtain ⟨rfl, rfl⟩ := h2 rfl
  simp only [SIns.cells, F94, Tryz.f94, sxAll, cA, Env.keep, qt_eq, fieldAddrA, loadA, Rv.part, cellsAt, TD.isAgg, ↓qAe, Nat.reduceBEq, Nat.reduceAdd, ↓reduceIte, ty136, ty4, h3, hl, wantA']
 | true =>
  cases q4 with
  | false =>
   have ha := h1 rfl
   simp only [intL, qAm, List.map_nil] at ha
   simp only [SIns.cells, F94, Tryz.f94, sxAll, cA, Env.keep, qt_eq, unA, fieldAddrA, loadA, Rv.part, cellsAt, TD.isAgg, fillA, setCells, copies, ↓qAe, Nat.reduceBEq, Nat.reduceAdd, Nat.reduceMul, Nat.reduceLeDiff, Nat.reduceGT, bne, ↓reduceIte, ty41, ty136, ty3, ty4, ty27, elems, group, h3, hl, wantA', hk, hk', ha]
  | true =>
   cases hx : i.a == -1 with
   | true =>
    obtain ⟨rfl, rfl⟩ := h2 (by simp [wantA', hx])
    simp only [SIns.cells, F94, Tryz.f94, sxAll, cA, arithA, Env.keep, qt_eq, unA, fieldAddrA, loadA, Rv.part, cellsAt, TD.isAgg, ↓qAe, Nat.reduceBEq, Nat.reduceAdd, ↓reduceIte, ty41, ty136, ty3, ty4, h3, hl, wantA', hx]
   | false =>
    have ha := h1 (by simp [wantA', hx])
    simp only [intL, qAm, List.map_nil] at ha
    simp only [SIns.cells, F94, Tryz.f94, sxAll, cA, arithA, Env.keep, qt_eq, unA, fieldAddrA, loadA, Rv.part, cellsAt, TD.isAgg, fillA, setCells, copies, ↓qAe, Nat.reduceBEq, Nat.reduceAdd, Nat.reduceMul, Nat.reduceLeDiff, Nat.reduceGT, bne, ↓reduceIte, ty41, ty136, ty3, ty4, ty27, elems, group, h3, hl, wantA', hk, hk', ha, hx]
theorem reads_st2 (h3 : H.obj o3 0 = some (rowCells q)) (hk : known v = some v) (hk' : known v' = some v') (h1 : q.2.2.1 = true -> appendA H 1 v (intL [i.b]) = some (v', H')) (h2 : q.2.2.1 = false -> v' = v /\ H' = H) :
  exec cfg 94 (.seq (R94 [tt, tt, tt, tt, ff, ff] 5) (.cond (.tmp 30) (R94 [tt, tt, tt, tt, ff, tt, ff] 6) .skip)) [(0, t0), (1, .ref i.cells), (2, t2), (3, .ptr o3 0 0), (5, v), (23, t23), (30, t30), (38, t38)] H
   = some (.nrm, [(0, t0), (1, .ref i.cells), (2, t2), (3, .ptr o3 0 0), (5, v'), (23, t23), (30, (.bool q.2.2.1)), (38, t38)], H') := by
 have hl : H.live o3 0 = true := by simp [Heap.live, h3]
 obtain ⟨q1, q2, q3, q4, n⟩ := q
 simp only [rowCells] at h3
 cases q3 with
 | false =>
  obtain ⟨rfl, rfl⟩ := h2 rfl
  simp only [SIns.cells, F94, Tryz.f94, sxAll, cA, Env.keep, qt_eq, fieldAddrA, loadA, Rv.part, cellsAt, TD.isAgg, ↓qAe, Nat.reduceBEq, Nat.reduceAdd, ↓reduceIte, ty136, ty4, h3, hl]
 | true =>
  have ha := h1 rfl
  simp only [intL, qAm, List.map_nil] at ha
  simp only [SIns.cells, F94, Tryz.f94, sxAll, cA, Env.keep, qt_eq, fieldAddrA, loadA, Rv.part, cellsAt, TD.isAgg, fillA, setCells, copies, ↓qAe, Nat.reduceBEq, Nat.reduceAdd, Nat.reduceMul, Nat.reduceLeDiff, Nat.reduceGT, bne, ↓reduceIte, ty41, ty136, ty3, ty4, ty27, elems, group, h3, hl, hk, hk', ha]
theorem reads_st3 (h3 : H.obj o3 0 = some (rowCells q)) (hk : known v = some v) (hk' : known v' = some v') (h1 : (q.2.2.2.2 == 6) = true -> appendA H 1 v (intL i.args) = some (v', H')) (h2 : (q.2.2.2.2 == 6) = false -> v' = v /\ H' = H) :
  exec cfg 94 (.seq (R94 [tt, tt, tt, tt, tt, ff, ff] 7) (.cond (.tmp 38) (R94 [tt, tt, tt, tt, tt, ff, tt, ff] 8) .skip)) [(0, t0), (1, .ref i.cells), (2, t2), (3, .ptr o3 0 0), (5, v), (23, t23), (30, t30), (38, t38)] H
   = some (.nrm, [(0, t0), (1, .ref i.cells), (2, t2), (3, .ptr o3 0 0), (5, v'), (23, t23), (30, t30), (38, (.bool (q.2.2.2.2 == 6)))], H') := by
 have hl : H.live o3 0 = true := by simp [Heap.live, h3]
 obtain ⟨q1, q2, q3, q4, n⟩ := q
 simp only [rowCells] at h3
 cases hn : n == 6 with
 | false =>
  obtain ⟨rfl, rfl⟩ := h2 hn
  simp only [SIns.cells, F94, Tryz.f94, sxAll, cA, arithA, Env.keep, qt_eq, fieldAddrA, loadA, Rv.part, cellsAt, TD.isAgg, ↓qAe, Nat.reduceBEq, Nat.reduceAdd, ↓reduceIte, ty136, ty3, h3, hl, hn]
 | true =>
  have ha := h1 hn
  simp only [SIns.cells, F94, Tryz.f94, sxAll, cA, arithA, Env.keep, qt_eq, fieldAddrA, loadA, Rv.part, cellsAt, TD.isAgg, ↓qAe, Nat.reduceBEq, Nat.reduceAdd, ↓reduceIte, ty41, ty136, ty3, ty27, elems, h3, hl, hk, hk', ha, hn]
end
theorem valuesI_eq (v : AV) (h : Heap) (hk : known v = some v) (hc : v.cells = [v]) {v' : AV} (hf : freezeV h h.length 38 v = some v') : call cfg 131 [v] h = some (.ret (.clo 148 [.ref [v']]), h) := by
 rw [call131]
 simp only [F131, k131, Tryz.f131, sxAll, cA, Env.keep, resultsA, packA, mapO, ↓qAe, Nat.reduceBEq, Nat.reduceAdd, ↓reduceIte, ty27, hk, hc]
 refine leave_kept rfl ?_
 rw [freeze_clo, mapO_cons, freeze_ref, mapO_cons, hf]
 rfl
theorem reads_eq (i : SIns) (h : Heap) (h0 : 0 <= i.op) (h1 : i.op < 256) (hn : i.args.length < 1000000000) :
  call cfg 94 [.agg i.cells] h = some (.ret (.clo 148 [.ref [.lst (intL (readsOf (rowOf i.op) i)) 1 .open]]), h) := by
 rw [call94]
 have hof := fun h => ofI_eq i h h0 h1
 generalize rowOf i.op = q at hof ⊢
 generalize legal i.op = l at hof
 obtain ⟨H0, hH0⟩ : ∃ H0, H0 = h ++ [AObj.cells (rowCells q) 0] ++ [.cells [] 0] := ⟨_, rfl⟩
 have hl0 : H0.length = h.length + 2 := by rw [hH0]; simp
 have h3 : H0.obj h.length 0 = some (rowCells q) := by rw [hH0]; simp [Heap.obj]
 have B0 : Built H0 (.msl (h.length + 1) 0 0 1 0 (some 0)) (intL []) 1 := .inr ⟨h.length + 1, 0, some 0, rfl, by rw [hH0]; simp [Heap.obj, flatC, intL], .inr rfl⟩
 obtain ⟨v1, H1, a1, b1, B1, h31, f1, n1, t1, m1⟩ := step_built (wantA' q i) [i.a] B0 (by simp [mostLen]) h3 (n := h.length) (fun o ho => by simp only [objOf, qAf] at ho; omega) (by omega)
 obtain ⟨v2, H2, a2, b2, B2, h32, f2, n2, t2, m2⟩ := step_built q.2.2.1 [i.b] B1 (by simp only [qBb, List.length_nil, qAv, optL, mostLen]; split <;> simp) h31 f1 n1
 obtain ⟨v3, H3, a3, b3, B3, h33, f3, n3, t3, m3⟩ := step_built (q.2.2.2.2 == 6) i.args B2 (by simp only [qBb, List.length_nil, optL, mostLen]; split <;> split <;> simp <;> omega) h32 f2 n2
 have e1 := fun t0 t2 t23 t30 t38 => reads_st1 q i H0 H1 _ v1 h.length t0 t2 t23 t30 t38 h3 (known_built B0) (known_built B1) a1 b1
 have e2 := fun t0 t2 t23 t30 t38 => reads_st2 q i H1 H2 v1 v2 h.length t0 t2 t23 t30 t38 h31 (known_built B1) (known_built B2) a2 b2
 have e3 := fun t0 t2 t23 t30 t38 => reads_st3 q i H2 H3 v2 v3 h.length t0 t2 t23 t30 t38 h32 (known_built B2) (known_built B3) a3 b3
 have hlist : intL (([] ++ optL (wantA' q i) [i.a]) ++ optL q.2.2.1 [i.b] ++ optL (q.2.2.2.2 == 6) i.args) = intL (readsOf q i) := by simp [readsOf]
 rw [hlist] at B3
 have htk : H3.take h.length = h := by rw [t3, t2, t1, hH0]; simp
 have hr0 : exec cfg 94 (R94 [ff] 0) [(0, .agg i.cells)] h = some (.nrm, [(0, .agg i.cells), (1, .ref i.cells), (2, .nilFunc), (3, .junk), (5, .junk), (23, .junk), (30, .junk), (38, .junk)], h) := by
  simp only [SIns.cells, F94, Tryz.f94, sxAll, cA, Env.keep, ↓qAe, Nat.reduceBEq, Nat.reduceAdd, ↓reduceIte, ty41]
 have hr1 : exec cfg 94 (R94 [tt, ff] 1) [(0, .agg i.cells), (1, .ref i.cells), (2, .nilFunc), (3, .junk), (5, .junk), (23, .junk), (30, .junk), (38, .junk)] h = some (.nrm, [(0, .agg i.cells), (1, .ref i.cells), (2, .nilFunc), (3, .ptr h.length 0 0), (5, .junk), (23, .junk), (30, .junk), (38, .junk)], h ++ [.cells (rowCells q) 0]) := by
  simp only [SIns.cells] at hof
  simp only [SIns.cells, rowCells] at hof ⊢
  simp only [F94, Tryz.f94, sxAll, cA, Env.keep, qt_eq, storeA, loadA, Rv.part, cellsAt, TD.isAgg, setCells, mapO, ↓qAe, Nat.reduceBEq, Nat.reduceAdd, Nat.reduceLeDiff, ↓reduceIte, ty41, ty136, pu90, hof]
 have hr2 : exec cfg 94 (R94 [tt, tt, ff] 2) [(0, .agg i.cells), (1, .ref i.cells), (2, .nilFunc), (3, .ptr h.length 0 0), (5, .junk), (23, .junk), (30, .junk), (38, .junk)] (h ++ [.cells (rowCells q) 0]) = some (.nrm, [(0, .agg i.cells), (1, .ref i.cells), (2, .nilFunc), (3, .ptr h.length 0 0), (5, .msl (h.length + 1) 0 0 1 0 (some 0)), (23, .junk), (30, .junk), (38, .junk)], H0) := by
  simp only [hH0, F94, Tryz.f94, sxAll, cA, Env.keep, fillA, copies, ↓qAe, Nat.reduceBEq, Nat.reduceAdd, Nat.reduceGT, bne, ↓reduceIte, ty27, ty3, Nat.zero_mul]
 have hfr := freeze_built (n := h.length) (d := 36) B3 (plain_ints _) (fun o ho => (f3 o ho).1)
 rw [k94, exec_seq_nrm hr0, exec_seq_nrm hr1, exec_seq_nrm hr2, exec_seq_nrm (e1 _ _ _ _ _), exec_seq_nrm (e2 _ _ _ _ _), exec_seq_nrm (e3 _ _ _ _ _)]
 have hm : objOf v3 ≠ none := m3 (m2 (m1 (by simp [objOf])))
 have hfr' : freezeV H3 h.length 38 v3 = some (.lst (intL (readsOf q i)) 1 .open) := by
  rcases hfr with ⟨rfl, _⟩ | hfr
  ·exact absurd rfl hm
  ·exact hfr
 have hval := valuesI_eq v3 H3 (known_built B3) (built_cells B3) (freeze_stay (d := 36) B3 (qAr _))
 simp only [F94, Tryz.f94, sxAll, cA, Env.keep, qt_eq, resultsA, packA, mapO, ↓qAe, Nat.reduceBEq, ↓reduceIte, known_built B3, pu131, hval]
 refine leave_pure rfl htk ?_
 rw [freeze_clo, mapO_cons, freeze_ref, mapO_cons, hfr']
 rfl
end
end Go.Proofs.Sx
namespace Go.Proofs.Sx
open Go.Rv Go.Proofs
attribute [local congr] bind_left got_left
noncomputable section
instance t148 {d : Option Nat} : TightD cfg 148 d := ⟨fun _ _ => rfl⟩
def B148 (p : List Bool) := cA p Tryz.f148.body
def R148 (p : List Bool) (i : Nat) := Code.region i (cA p Tryz.f148.body) false
theorem F148 : (∀ p i, XR cfg 148 (R148 p i) (B148 p) (cA p Tryz.f148.body).toList i false) /\ RE cfg 148 [0, 1, 4, 5, 6, 7, 8, 14] /\ cfg.pure 148 = false := ⟨fun _ _ => xr rfl rfl, rE fun _ => rfl, rfl⟩
def l148_0 : Code := (.seq (R148 [tt, ff, ff, ff] 1) (.seq (.cond (.tmp 8) .skip (.exit 0)) (.seq (.block 1 (.seq (R148 [tt, ff, ff, tt, tt, ff, ff, ff] 2) (.seq (R148 [tt, ff, ff, tt, tt, ff, ff, tt, ff] 3) (.cond (.tmp 14) .ret .skip)))) (R148 [tt, ff, ff, tt, tt, tt] 4))))
def k148 : Code := (.seq (R148 [ff] 0) (.block 0 (.loop l148_0)))
theorem call148 (x0 x1 : AV) (h : Heap) : call cfg 148 [x0, x1] h = (exec cfg 148 k148 [(0, x0), (1, x1)] h).bind (callEnd cfg 148 h []) := call_at2 (fnat Tryz.func148 (b := k148) (by kernel_rfl) (by kernel_rfl)) rfl rfl
theorem pu65 : cfg.pure 65 = true := rfl
instance t65 {d : Option Nat} : TightD cfg 65 d := ⟨fun _ _ => rfl⟩
def B65 (p : List Bool) := cA p Tryz.f65.body
def R65 (p : List Bool) (i : Nat) := Code.region i (cA p Tryz.f65.body) false
theorem F65 : (∀ p i, XR cfg 65 (R65 p i) (B65 p) (cA p Tryz.f65.body).toList i false) /\ cfg.imm 65 3 = true /\ cfg.imm 65 4 = true /\ cfg.imm 65 5 = true /\ GO cfg 65 (B65 [tt, tt, ff, ff]) 2 19 /\ GO cfg 65 (B65 [tt, tt, ff, ff]) 10 27 /\ GO cfg 65 (B65 [tt, tt, tt, ff, tt, ff, tt, ff, ff]) 2 40 /\ GO cfg 65 (B65 [tt, tt, tt, tt, tt, ff]) 2 53 /\ GO cfg 65 (B65 [tt, tt, tt, tt, tt, ff]) 5 56 /\ RE cfg 65 [0, 1, 2, 3, 4, 5, 6, 7, 8, 9, 10, 11, 34, 36, 37, 45] /\ cfg.pure 65 = true := ⟨fun _ _ => xr rfl rfl, by kernel_rfl, by kernel_rfl, by kernel_rfl, gO (by kernel_rfl), gO (by kernel_rfl), gO (by kernel_rfl), gO (by kernel_rfl), gO (by kernel_rfl), rE fun _ => rfl, rfl⟩
def l65_0 : Code := (.block 1 (.seq (R65 [tt, tt, tt, ff, tt, ff, tt, ff, ff] 6) (.cond (.tmp 45) (.seq (R65 [tt, tt, tt, ff, tt, ff, tt, ff, tt, ff, ff] 7) .ret) .skip)))
def k65 : Code := (.seq (R65 [ff] 0) (.seq (R65 [tt, ff] 1) (.seq (.seq (R65 [tt, tt, ff, ff] 2) (.cond (.tmp 34) (.seq (R65 [tt, tt, ff, tt, ff, ff] 3) .ret) .skip)) (.seq (.seq (R65 [tt, tt, tt, ff, ff] 4) (.block 0 (.rangeFunc (.tmp 36) #[37] (R65 [tt, tt, tt, ff, tt, ff, ff] 5) l65_0))) (.seq (R65 [tt, tt, tt, tt, ff] 8) (.seq (R65 [tt, tt, tt, tt, tt, ff] 9) .ret))))))
theorem call65 (x0 x1 x2 : AV) (h : Heap) : call cfg 65 [x0, x1, x2] h = (exec cfg 65 k65 [(0, x0), (1, x1), (2, x2)] h).bind (callEnd cfg 65 h [.cell 6 4]) := call_at2 (fnat Tryz.func65 (b := k65) (by kernel_rfl) (by kernel_rfl)) rfl rfl
theorem valuesIx_run (o : Nat) (xs : List Int) (z : Nat) (r : Room) (hn : xs.length < 1000000000) (I : List Int -> Heap -> Prop) (Q : Heap -> Prop)
  (hstep : ∀ y ys h, I (y :: ys) h -> ∃ b h', callv cfg (.yld o) [.int .i64 y] h = some (.ret (.bool b), h') /\ (b = true -> I ys h') /\ (b = false -> Q h')) (hend : ∀ h, I [] h -> Q h) (h : Heap) (hI : I xs h) :
  ∃ h', call cfg 148 [.yld o, .ref [.lst (intL xs) z r]] h = some (.ret (.tup []), h') /\ Q h' := by
 have L : ∀ (ys : List Int) (i : Nat), xs.drop i = ys -> i <= xs.length -> ∀ h, I ys h -> ∀ a d t e,
   Got (exec cfg 148 (.loop l148_0) [(0, .yld o), (1, a), (4, d), (5, .lst (intL xs) z r), (6, .int .i64 xs.length), (7, .int .i64 i), (8, t), (14, e)] h) (fun q => (q.1 = .exit 0 ∨ q.1 = .ret) /\ Q q.2.2) := by
  intro ys
  induction ys with
  | nil =>
   intro i hd hi h hI a d t e
   rw [got_loop]
   simp only [l148_0, F148, Tryz.f148, sxAll, cA, arithA, Env.keep, ↓qAe, Nat.reduceBEq, ↓reduceIte, at_end hd]
   exact ⟨.inl trivial, hend _ hI⟩
  | cons y s ih =>
   intro i hd hi h hI a d t e
   obtain ⟨hlt, _, hd'⟩ := at_drop hd
   obtain ⟨_, hx, _⟩ := at_drop (intL_drop hd)
   have hw := wrap_succ (i := i) (by omega)
   obtain ⟨b, h', hc, h1, h2⟩ := hstep y s h hI
   rw [got_loop]
   cases b with
   | true =>
    have := ih (i + 1) hd' (by simp at hlt; omega) h' (h1 rfl)
    simp only [l148_0] at this ⊢
    simp only [F148, Tryz.f148, sxAll, cA, arithA, Env.keep, qt_eq, indexAddrA, unA, loadA, Rv.part, cellsAt, TD.isAgg, mapO, ↓qAe, Nat.reduceBEq, Nat.reduceAdd, ↓reduceIte, hlt, ty27, ty3, hx, hw, known_yld, hc] at this ⊢
    exact this _ _ _ _
   | false =>
    simp only [l148_0, F148, Tryz.f148, sxAll, cA, arithA, Env.keep, qt_eq, indexAddrA, unA, loadA, Rv.part, cellsAt, TD.isAgg, mapO, ↓qAe, Nat.reduceBEq, Nat.reduceAdd, ↓reduceIte, hlt, ty27, ty3, hx, known_yld, hc]
    exact ⟨.inr trivial, h2 rfl⟩
 obtain ⟨⟨out, e', h'⟩, hx, ho, hq⟩ := L xs 0 (by simp) (by omega) h hI (.ref [.lst (intL xs) z r]) .junk .junk .junk
 simp only [qBo] at hx ho hq
 refine ⟨h', ?_, hq⟩
 rw [call148]
 rcases ho with rfl | rfl
 ·simp only [F148, k148, Tryz.f148, sxAll, cA, Env.keep, qt_eq, resultsA, packA, loadA, Rv.part, cellsAt, TD.isAgg, lenA, ↓qAe, Nat.reduceBEq, Nat.reduceAdd, ↓reduceIte, ty27, intL_len, hx]
  exact leave_impure rfl
 ·simp only [F148, k148, Tryz.f148, sxAll, cA, Env.keep, qt_eq, resultsA, packA, loadA, Rv.part, cellsAt, TD.isAgg, lenA, ↓qAe, Nat.reduceBEq, Nat.reduceAdd, ↓reduceIte, ty27, intL_len, hx]
  exact leave_impure rfl
def inB (n r : Int) : Bool := decide (0 <= r) && decide (r < n)
theorem mayIns_range (f : SFun) (xs : List Int) (hn : xs.length < 1000000000) (H : Heap) (o6 : Nat) (b6 : Bool) (h6 : H.obj o6 0 = some [.bool b6]) (t0 t1 t2 t3 t5 t7 t8 t9 t10 t11 t34 t37 t45 : AV) :
  ∃ o H', exec cfg 65 (.rangeFunc (.tmp 36) #[37] (R65 [tt, tt, tt, ff, tt, ff, ff] 5) l65_0) [(0, t0), (1, t1), (2, t2), (3, t3), (4, .ref f.cells), (5, t5), (6, .ptr o6 0 0), (7, t7), (8, t8), (9, t9), (10, t10), (11, t11), (34, t34), (36, .clo 148 [.ref [.lst (intL xs) 1 .open]]), (37, t37), (45, t45)] H
   = some (o, [(0, t0), (1, t1), (2, t2), (3, t3), (4, .ref f.cells), (5, t5), (6, .ptr o6 0 0), (7, t7), (8, t8), (9, t9), (10, t10), (11, t11), (34, t34), (36, .clo 148 [.ref [.lst (intL xs) 1 .open]]), (37, t37), (45, t45)], H') /\
   ((o = .nrm /\ xs.all (inB f.regs) = true /\ ∃ X, H' = H ++ X) ∨ (o = .ret /\ xs.all (inB f.regs) = false /\ ∃ X, H' = H.set o6 (.cells [.bool false] 0) ++ X)) := by
 have ho6 := obj_some h6
 generalize hE : ([(0, t0), (1, t1), (2, t2), (3, t3), (4, .ref f.cells), (5, t5), (6, .ptr o6 0 0), (7, t7), (8, t8), (9, t9), (10, t10), (11, t11), (34, t34), (36, .clo 148 [.ref [.lst (intL xs) 1 .open]]), (37, t37), (45, t45)] : Env) = E
 obtain ⟨R, hR⟩ : ∃ R : ALoop, R = { st := .ready, pend := none, f := 65, env := E, ps := (#[37] : Array Tmp).toList, assign := (R65 [tt, tt, tt, ff, tt, ff, ff] 5), body := l65_0 } := ⟨_, rfl⟩
 have run := valuesIx_run H.length xs 1 .open hn (fun ys h => h = H ++ [.loop R] /\ xs.all (inB f.regs) = ys.all (inB f.regs))
  (fun h => (xs.all (inB f.regs) = true /\ h = H ++ [.loop R]) ∨ (xs.all (inB f.regs) = false /\ h = H.set o6 (.cells [.bool false] 0) ++ [.loop { R with st := .done, pend := some .ret }]))
  (fun y ys h hI => by
   obtain ⟨rfl, hall⟩ := hI
   have e1 : exec cfg 65 (R65 [tt, tt, tt, ff, tt, ff, ff] 5) (Env.puts E [37] [.int .i64 y]) (H ++ [.loop R]) = some (.nrm, [(0, t0), (1, t1), (2, t2), (3, t3), (4, .ref f.cells), (5, t5), (6, .ptr o6 0 0), (7, t7), (8, t8), (9, .int .i64 y), (10, t10), (11, t11), (34, t34), (36, .clo 148 [.ref [.lst (intL xs) 1 .open]]), (37, .int .i64 y), (45, t45)], H ++ [.loop R]) := by
    rw [← hE]
    simp only [F65, Tryz.f65, sxAll, cA, Env.keep, ↓qAe, Nat.reduceBEq, ↓reduceIte, Env.puts]
   have hlive : ∀ X, Heap.obj (H ++ X) o6 0 = some [.bool b6] := fun X => by rw [obj_left _ _ ho6, h6]
   have hset : ∀ (X : Heap) x, (H ++ X).set o6 x = H.set o6 x ++ X := fun X x => set_left X x ho6
   by_cases hy : inB f.regs y = true
   ·have e2 : Got (exec cfg 65 l65_0 [(0, t0), (1, t1), (2, t2), (3, t3), (4, .ref f.cells), (5, t5), (6, .ptr o6 0 0), (7, t7), (8, t8), (9, .int .i64 y), (10, t10), (11, t11), (34, t34), (36, .clo 148 [.ref [.lst (intL xs) 1 .open]]), (37, .int .i64 y), (45, t45)] (H ++ [.loop { R with st := .busy }])) (fun q => q.1 = .nrm /\ q.2.2 = H ++ [.loop { R with st := .busy }]) := by
     simp only [inB, qAa, decide_eq_true_eq] at hy
     have c1 : (y < 0) = False := by simp; omega
     have c2 : (y >= f.regs) = False := by simp; omega
     simp only [l65_0, SFun.cells, F65, Tryz.f65, sxAll, cA, arithA, Env.keep, qt_eq, fieldAddrA, loadA, Rv.part, cellsAt, TD.isAgg, ↓qAe, Nat.reduceBEq, ↓reduceIte, ty39, ty3, c1, c2]
     exact ⟨trivial, trivial⟩
    obtain ⟨⟨o2, e2, h2⟩, he2, ho2, hh2⟩ := e2
    simp only at ho2 hh2
    subst ho2 hh2
    refine ⟨true, H ++ [.loop R], ?_, fun _ => ⟨rfl, by rw [hall]; simp [hy]⟩, by simp⟩
    have := callv_yld_of (C := cfg) (o := H.length) (vs := [.int .i64 y]) (h := H ++ [.loop R]) (h1 := H ++ [.loop R]) (h2 := H ++ [.loop { R with st := .busy }]) (r := R) (r1 := R) (r2 := { R with st := .busy }) (out := .nrm) (j := none) (loopAt_app0 _ _ _) (by rw [hR]) (by rw [hR]; rfl)
     (by rw [hR] at e1 ⊢; exact e1) (loopAt_app0 _ _ _) (by rw [hR]) (by rw [set_app0, List.set_cons_zero]; rw [hR] at he2 ⊢; exact he2) (loopAt_app0 _ _ _) rfl
    rw [this, set_app0, List.set_cons_zero]
    rw [hR]; rfl
   ·have hy' : inB f.regs y = false := by simpa using hy
    have e2 : Got (exec cfg 65 l65_0 [(0, t0), (1, t1), (2, t2), (3, t3), (4, .ref f.cells), (5, t5), (6, .ptr o6 0 0), (7, t7), (8, t8), (9, .int .i64 y), (10, t10), (11, t11), (34, t34), (36, .clo 148 [.ref [.lst (intL xs) 1 .open]]), (37, .int .i64 y), (45, t45)] (H ++ [.loop { R with st := .busy }])) (fun q => q.1 = .ret /\ q.2.2 = H.set o6 (.cells [.bool false] 0) ++ [.loop { R with st := .busy }]) := by
     by_cases c1 : y < 0
     ·simp only [l65_0, SFun.cells, F65, Tryz.f65, sxAll, cA, arithA, Env.keep, storeA, setCells, ↓qAe, Nat.reduceBEq, Nat.reduceAdd, Nat.reduceLeDiff, ↓reduceIte, ty4, c1, hlive, hset]
      exact ⟨trivial, trivial⟩
     ·have c2 : (y >= f.regs) = True := by
       simp [inB] at hy'
       simp; omega
      simp only [l65_0, SFun.cells, F65, Tryz.f65, sxAll, cA, arithA, Env.keep, qt_eq, storeA, fieldAddrA, loadA, Rv.part, cellsAt, TD.isAgg, setCells, ↓qAe, Nat.reduceBEq, Nat.reduceAdd, Nat.reduceLeDiff, ↓reduceIte, ty39, ty3, ty4, c1, c2, hlive, hset]
      exact ⟨trivial, trivial⟩
    obtain ⟨⟨o2, e2, h2⟩, he2, ho2, hh2⟩ := e2
    simp only at ho2 hh2
    subst ho2 hh2
    have hlen : (H.set o6 (.cells [.bool false] 0)).length = H.length := by simp
    refine ⟨false, H.set o6 (.cells [.bool false] 0) ++ [.loop { R with st := .done, pend := some .ret }], ?_, by simp, fun _ => .inr ⟨by rw [hall]; simp [hy'], rfl⟩⟩
    have := callv_yld_of (C := cfg) (o := H.length) (vs := [.int .i64 y]) (h := H ++ [.loop R]) (h1 := H ++ [.loop R]) (h2 := H.set o6 (.cells [.bool false] 0) ++ [.loop { R with st := .busy }]) (r := R) (r1 := R) (r2 := { R with st := .busy }) (out := .ret) (j := some .ret) (loopAt_app0 _ _ _) (by rw [hR]) (by rw [hR]; rfl)
     (by rw [hR] at e1 ⊢; exact e1) (loopAt_app0 _ _ _) (by rw [hR]) (by rw [set_app0, List.set_cons_zero]; rw [hR] at he2 ⊢; exact he2) (by rw [← hlen]; exact loopAt_app0 _ _ _) rfl
    rw [this, ← hlen, set_app0, List.set_cons_zero]
    rw [hR]; rfl)
  (fun h hI => .inl ⟨by simp [hI.2], hI.1⟩) (H ++ [.loop R]) ⟨rfl, rfl⟩
 obtain ⟨h', hc, hq⟩ := run
 have hg : evalA cfg E (.tmp 36) = some (.clo 148 [.ref [.lst (intL xs) 1 .open]]) := by
  rw [← hE]
  simp only [sxAll, Nat.reduceBEq, ↓reduceIte]
 rw [hR] at hc hq
 rcases hq with ⟨hall, rfl⟩ | ⟨hall, rfl⟩
 ·refine ⟨.nrm, _, exec_range_of hg hc (loopAt_app0 _ _ _) rfl (.inl ⟨rfl, rfl⟩), .inl ⟨rfl, hall, ?_⟩⟩
  rw [set_app0]; exact ⟨_, rfl⟩
 ·have hlen : (H.set o6 (.cells [.bool false] 0)).length = H.length := by simp
  refine ⟨.ret, _, exec_range_of hg hc (by rw [← hlen]; exact loopAt_app0 _ _ _) rfl (.inr ⟨rfl, rfl⟩), .inr ⟨rfl, hall, ?_⟩⟩
  rw [← hlen, set_app0]; exact ⟨_, rfl⟩
end
end Go.Proofs.Sx
namespace Go.Proofs.Sx
open Go.Rv Go.Proofs
attribute [local congr] bind_left got_left
noncomputable section
def noIns : SIns := ⟨0, 0, 0, 0, 0, [], 0, .nil⟩
def mayInsB (p : SProg) (f : SFun) (i : SIns) : Bool :=
 (legal i.op && sameB (bareOf (rowOf i.op) i) noIns && numberB p f (rowOf i.op) i) && ((readsOf (rowOf i.op) i).all (inB f.regs) && (!(writesOf i).2 || inB f.regs (writesOf i).1))
theorem noIns_cells : noIns.cells = [.int .u8 0, .int .i64 0, .int .i64 0, .int .i64 0, .int .i64 0, .lst [] 0 .nil] := rfl
section
variable (p : SProg) (f : SFun) (i b : SIns) (q : Row) (l s nb : Bool) (h : Heap)
 (hof : ∀ h, call cfg 90 [.agg i.cells] h = some (.ret (.tup [.agg (rowCells q), .bool l]), h))
include hof
theorem mayIns_r0 : exec cfg 65 (R65 [ff] 0) [(0, .agg p.cells), (1, .agg f.cells), (2, .agg i.cells)] h = some (.nrm, [(0, .agg p.cells), (1, .agg f.cells), (2, .agg i.cells), (3, .ref p.cells), (4, .ref f.cells), (5, .ref i.cells), (6, .ptr h.length 0 0), (7, .junk), (8, .junk), (9, .junk), (10, .junk), (11, .junk), (34, .junk), (36, .junk), (37, .junk), (45, .junk)], h ++ [.cells [.bool false] 0]) := by
 simp only [SProg.cells, SFun.cells, SIns.cells, F65, Tryz.f65, sxAll, cA, Env.keep, ↓qAe, Nat.reduceBEq, Nat.reduceAdd, ↓reduceIte, ty26, ty39, ty41, ty4]
theorem mayIns_r1 : exec cfg 65 (R65 [tt, ff] 1) [(0, .agg p.cells), (1, .agg f.cells), (2, .agg i.cells), (3, .ref p.cells), (4, .ref f.cells), (5, .ref i.cells), (6, .ptr h.length 0 0), (7, .junk), (8, .junk), (9, .junk), (10, .junk), (11, .junk), (34, .junk), (36, .junk), (37, .junk), (45, .junk)] (h ++ [.cells [.bool false] 0]) = some (.nrm, [(0, .agg p.cells), (1, .agg f.cells), (2, .agg i.cells), (3, .ref p.cells), (4, .ref f.cells), (5, .ref i.cells), (6, .ptr h.length 0 0), (7, .ptr (h.length + 1) 0 0), (8, .bool l), (9, .junk), (10, .junk), (11, .junk), (34, .junk), (36, .junk), (37, .junk), (45, .junk)], h ++ [.cells [.bool false] 0, .cells (rowCells q) 0]) := by
 simp only [SIns.cells, rowCells] at hof
 simp only [SProg.cells, SFun.cells, SIns.cells, rowCells, F65, Tryz.f65, sxAll, cA, Env.keep, qt_eq, storeA, loadA, Rv.part, cellsAt, TD.isAgg, setCells, mapO, ↓qAe, Nat.reduceBEq, Nat.reduceAdd, Nat.reduceLeDiff, ↓reduceIte, ty41, ty136, pu90, hof]
theorem mayIns_r2 (hb : ∀ h, call cfg 92 [.agg (rowCells q), .agg i.cells] h = some (.ret (.agg b.cells), h)) (hs : ∀ h, call cfg 91 [.agg b.cells, .agg noIns.cells] h = some (.ret (.bool s), h))
  (hn : ∀ h, call cfg 93 [.agg p.cells, .agg f.cells, .agg (rowCells q), .agg i.cells] h = some (.ret (.bool nb), h)) :
  exec cfg 65 (R65 [tt, tt, ff, ff] 2) [(0, .agg p.cells), (1, .agg f.cells), (2, .agg i.cells), (3, .ref p.cells), (4, .ref f.cells), (5, .ref i.cells), (6, .ptr h.length 0 0), (7, .ptr (h.length + 1) 0 0), (8, .bool l), (9, .junk), (10, .junk), (11, .junk), (34, .junk), (36, .junk), (37, .junk), (45, .junk)] (h ++ [.cells [.bool false] 0, .cells (rowCells q) 0]) = some (.nrm, [(0, .agg p.cells), (1, .agg f.cells), (2, .agg i.cells), (3, .ref p.cells), (4, .ref f.cells), (5, .ref i.cells), (6, .ptr h.length 0 0), (7, .ptr (h.length + 1) 0 0), (8, .bool l), (9, .junk), (10, .junk), (11, .junk), (34, .bool (!(l && s && nb))), (36, .junk), (37, .junk), (45, .junk)], h ++ [.cells [.bool false] 0, .cells (rowCells q) 0]) := by
 simp only [noIns_cells] at hs
 simp only [SProg.cells, SFun.cells, SIns.cells, rowCells] at hb hs hn
 cases l with
 | false => simp only [SProg.cells, SFun.cells, SIns.cells, rowCells, F65, Tryz.f65, sxAll, cA, Env.keep, unA, ↓qAe, Nat.reduceBEq, ↓reduceIte]
 | true =>
  cases s with
  | false => simp only [SProg.cells, SFun.cells, SIns.cells, rowCells, F65, Tryz.f65, sxAll, cA, Env.keep, qt_eq, unA, loadA, Rv.part, cellsAt, TD.isAgg, buildA, fillA, mapO, ↓qAe, Nat.reduceBEq, Nat.reduceAdd, Nat.reduceLeDiff, ↓reduceIte, ty41, ty136, pu92, pu91, hb, hs]
  | true => simp only [SProg.cells, SFun.cells, SIns.cells, rowCells, F65, Tryz.f65, sxAll, cA, Env.keep, qt_eq, unA, loadA, Rv.part, cellsAt, TD.isAgg, buildA, fillA, mapO, ↓qAe, Nat.reduceBEq, Nat.reduceAdd, Nat.reduceLeDiff, ↓reduceIte, ty26, ty39, ty41, ty136, pu92, pu91, pu93, hb, hs, hn]
theorem mayIns_r4 (xs : List Int) (hr : ∀ h, call cfg 94 [.agg i.cells] h = some (.ret (.clo 148 [.ref [.lst (intL xs) 1 .open]]), h)) :
  exec cfg 65 (R65 [tt, tt, tt, ff, ff] 4) [(0, .agg p.cells), (1, .agg f.cells), (2, .agg i.cells), (3, .ref p.cells), (4, .ref f.cells), (5, .ref i.cells), (6, .ptr h.length 0 0), (7, .ptr (h.length + 1) 0 0), (8, .bool l), (9, .junk), (10, .junk), (11, .junk), (34, .bool (!(l && s && nb))), (36, .junk), (37, .junk), (45, .junk)] (h ++ [.cells [.bool false] 0, .cells (rowCells q) 0]) = some (.nrm, [(0, .agg p.cells), (1, .agg f.cells), (2, .agg i.cells), (3, .ref p.cells), (4, .ref f.cells), (5, .ref i.cells), (6, .ptr h.length 0 0), (7, .ptr (h.length + 1) 0 0), (8, .bool l), (9, .junk), (10, .junk), (11, .junk), (34, .bool (!(l && s && nb))), (36, .clo 148 [.ref [.lst (intL xs) 1 .open]]), (37, .junk), (45, .junk)], h ++ [.cells [.bool false] 0, .cells (rowCells q) 0]) := by
 simp only [SIns.cells] at hr
 simp only [SProg.cells, SFun.cells, SIns.cells, rowCells, F65, Tryz.f65, sxAll, cA, Env.keep, qt_eq, loadA, Rv.part, cellsAt, TD.isAgg, mapO, ↓qAe, Nat.reduceBEq, Nat.reduceAdd, Nat.reduceLeDiff, ↓reduceIte, ty41, pu94, hr]
end
theorem mayIns_eq (p : SProg) (f : SFun) (i : SIns) (h : Heap) (h0 : 0 <= i.op) (h1 : i.op < 256) (hn : i.args.length < 100000000) :
  call cfg 65 [.agg p.cells, .agg f.cells, .agg i.cells] h = some (.ret (.bool (mayInsB p f i)), h) := by
 rw [call65]
 have hof := fun h => ofI_eq i h h0 h1
 have hb := fun h => bare_eq (rowOf i.op) i h
 have hs := fun h => sameIns_eq (bareOf (rowOf i.op) i) noIns h (by
  show (if _ then [] else i.args).length < _
  split
  ·simp
  ·omega)
 have hnum := fun h => number_eq p f (rowOf i.op) i h
 have hr := fun h => reads_eq i h h0 h1 (by omega)
 have hw := fun h => writes_eq i h h0 h1
 have hlen : (readsOf (rowOf i.op) i).length < 1000000000 := by
  simp only [readsOf, qBb, optL]
  split <;> split <;> split <;> simp only [qAv, List.length_nil] <;> omega
 unfold mayInsB
 generalize rowOf i.op = q at *
 generalize legal i.op = l at *
 generalize bareOf q i = b at *
 generalize sameB b noIns = s at *
 generalize numberB p f q i = nb at *
 generalize readsOf q i = xs at *
 generalize writesOf i = w at *
 obtain ⟨w1, w2⟩ := w
 rw [k65, exec_seq_nrm (mayIns_r0 p f i q l h hof), exec_seq_nrm (mayIns_r1 p f i q l h hof)]
 have r2 := mayIns_r2 p f i b q l s nb h hof hb hs hnum
 have r4 := mayIns_r4 p f i q l s nb h hof xs hr
 simp only [SIns.cells] at hw
 cases hg : l && s && nb with
 | false =>
  rw [hg] at r2
  rw [exec_seq (a := .seq (R65 [tt, tt, ff, ff] 2) _), exec_seq_nrm r2]
  simp only [SProg.cells, SFun.cells, SIns.cells, rowCells, F65, Tryz.f65, sxAll, cA, Env.keep, qt_eq, resultsA, packA, storeA, unA, loadA, Rv.part, cellsAt, TD.isAgg, setCells, mapO, ↓qAe, Nat.reduceBEq, Nat.reduceAdd, Nat.reduceLeDiff, ↓reduceIte, ty41, ty4, pu94, pu95]
  exact leave_pure rfl (by simp) rfl
 | true =>
  rw [hg] at r2 r4
  have s2 : exec cfg 65 (.seq (R65 [tt, tt, ff, ff] 2) (.cond (.tmp 34) (.seq (R65 [tt, tt, ff, tt, ff, ff] 3) .ret) .skip)) [(0, .agg p.cells), (1, .agg f.cells), (2, .agg i.cells), (3, .ref p.cells), (4, .ref f.cells), (5, .ref i.cells), (6, .ptr h.length 0 0), (7, .ptr (h.length + 1) 0 0), (8, .bool l), (9, .junk), (10, .junk), (11, .junk), (34, .junk), (36, .junk), (37, .junk), (45, .junk)] (h ++ [.cells [.bool false] 0, .cells (rowCells q) 0]) = some (.nrm, [(0, .agg p.cells), (1, .agg f.cells), (2, .agg i.cells), (3, .ref p.cells), (4, .ref f.cells), (5, .ref i.cells), (6, .ptr h.length 0 0), (7, .ptr (h.length + 1) 0 0), (8, .bool l), (9, .junk), (10, .junk), (11, .junk), (34, .bool (!true)), (36, .junk), (37, .junk), (45, .junk)], h ++ [.cells [.bool false] 0, .cells (rowCells q) 0]) := by
   rw [exec_seq_nrm r2]
   simp only [sxAll, ↓qAe, Nat.reduceBEq, ↓reduceIte]
  rw [exec_seq_nrm s2]
  obtain ⟨o, H', hx, ho⟩ := mayIns_range f xs hlen (h ++ [.cells [.bool false] 0, .cells (rowCells q) 0]) h.length false (by simp [Heap.obj]) (.agg p.cells) (.agg f.cells) (.agg i.cells) (.ref p.cells) (.ref i.cells) (.ptr (h.length + 1) 0 0) (.bool l) .junk .junk .junk (.bool (!true)) .junk .junk
  rcases ho with ⟨rfl, hall, X, rfl⟩ | ⟨rfl, hall, X, rfl⟩
  ·have s4 : exec cfg 65 (.seq (R65 [tt, tt, tt, ff, ff] 4) (.block 0 (.rangeFunc (.tmp 36) #[37] (R65 [tt, tt, tt, ff, tt, ff, ff] 5) l65_0))) [(0, .agg p.cells), (1, .agg f.cells), (2, .agg i.cells), (3, .ref p.cells), (4, .ref f.cells), (5, .ref i.cells), (6, .ptr h.length 0 0), (7, .ptr (h.length + 1) 0 0), (8, .bool l), (9, .junk), (10, .junk), (11, .junk), (34, .bool (!true)), (36, .junk), (37, .junk), (45, .junk)] (h ++ [.cells [.bool false] 0, .cells (rowCells q) 0]) = some (.nrm, [(0, .agg p.cells), (1, .agg f.cells), (2, .agg i.cells), (3, .ref p.cells), (4, .ref f.cells), (5, .ref i.cells), (6, .ptr h.length 0 0), (7, .ptr (h.length + 1) 0 0), (8, .bool l), (9, .junk), (10, .junk), (11, .junk), (34, .bool (!true)), (36, .clo 148 [.ref [.lst (intL xs) 1 .open]]), (37, .junk), (45, .junk)], h ++ [.cells [.bool false] 0, .cells (rowCells q) 0] ++ X) := by
    rw [exec_seq_nrm r4, exec_block, hx]
    rfl
   rw [exec_seq_nrm s4, hall]
   cases w2 with
   | false =>
    simp only [SProg.cells, SFun.cells, SIns.cells, rowCells, F65, Tryz.f65, sxAll, cA, Env.keep, qt_eq, resultsA, packA, storeA, unA, loadA, Rv.part, cellsAt, TD.isAgg, setCells, mapO, ↓qAe, Nat.reduceBEq, Nat.reduceAdd, Nat.reduceLeDiff, ↓reduceIte, ty41, ty4, pu95, hw]
    exact leave_pure rfl (by simp) rfl
   | true =>
    by_cases hge : 0 <= w1
    ·have c1 : (w1 >= 0) = True := by simp [hge]
     simp only [SProg.cells, SFun.cells, SIns.cells, rowCells, F65, Tryz.f65, sxAll, cA, arithA, Env.keep, qt_eq, resultsA, packA, storeA, unA, fieldAddrA, loadA, Rv.part, cellsAt, TD.isAgg, setCells, mapO, ↓qAe, Nat.reduceBEq, Nat.reduceAdd, Nat.reduceLeDiff, ↓reduceIte, ty39, ty41, ty3, ty4, pu95, hw, c1, inB]
     exact leave_pure rfl (by simp) rfl
    ·have c1 : (w1 >= 0) = False := by simp; omega
     simp only [SProg.cells, SFun.cells, SIns.cells, rowCells, F65, Tryz.f65, sxAll, cA, arithA, Env.keep, qt_eq, resultsA, packA, storeA, unA, loadA, Rv.part, cellsAt, TD.isAgg, setCells, mapO, ↓qAe, Nat.reduceBEq, Nat.reduceAdd, Nat.reduceLeDiff, ↓reduceIte, ty41, ty4, pu95, hw, c1, inB]
     exact leave_pure rfl (by simp) rfl
  ·rw [exec_seq, exec_seq_nrm r4, exec_block, hx, hall]
   simp only [SProg.cells, SFun.cells, SIns.cells, rowCells, sxAll, resultsA, packA, loadA, Rv.part, cellsAt, TD.isAgg, ↓qAe, Nat.reduceBEq, ↓reduceIte, ty4]
   exact leave_pure rfl (by simp) rfl
end
end Go.Proofs.Sx
namespace Go.Proofs.Sx
open Go.Rv Go.Proofs
attribute [local congr] bind_left got_left
noncomputable section
def SIns.wf (i : SIns) : Prop := 0 <= i.op /\ i.op < 256 /\ i.args.length < 100000000
def SFun.wf (f : SFun) : Prop := f.code.length < 100000000 /\ f.name.length < 100000000 /\ ∀ i ∈ f.code, i.wf
def SProg.wf (p : SProg) : Prop := p.mems.length < 100000000 /\ p.locks.length < 100000000 /\ p.funs.length < 100000000 /\ (∀ m ∈ p.mems, m.name.length < 100000000) /\ (∀ l ∈ p.locks, l.length < 100000000) /\ ∀ f ∈ p.funs, f.wf
instance t64 {d : Option Nat} : TightD cfg 64 d := ⟨fun _ _ => rfl⟩
def B64 (p : List Bool) := cA p Tryz.f64.body
def R64 (p : List Bool) (i : Nat) := Code.region i (cA p Tryz.f64.body) false
theorem F64 : (∀ p i, XR cfg 64 (R64 p i) (B64 p) (cA p Tryz.f64.body).toList i false) /\ cfg.imm 64 3 = true /\ RE cfg 64 [0, 1, 2, 3, 4] /\ cfg.pure 64 = true := ⟨fun _ _ => xr rfl rfl, by kernel_rfl, rE fun _ => rfl, rfl⟩
def k64 : Code := (.seq (R64 [ff] 0) (.seq (R64 [tt, ff] 1) .ret))
theorem call64 (x0 x1 x2 : AV) (h : Heap) : call cfg 64 [x0, x1, x2] h = (exec cfg 64 k64 [(0, x0), (1, x1), (2, x2)] h).bind (callEnd cfg 64 h [.tmp 4]) := call_at2 (fnat Tryz.func64 (b := k64) (by kernel_rfl) (by kernel_rfl)) rfl rfl
theorem pu37 : cfg.pure 37 = true := rfl
instance t37 {d : Option Nat} : TightD cfg 37 d := ⟨fun _ _ => rfl⟩
def B37 (p : List Bool) := cA p Tryz.f37.body
def R37 (p : List Bool) (i : Nat) := Code.region i (cA p Tryz.f37.body) false
theorem F37 : (∀ p i, XR cfg 37 (R37 p i) (B37 p) (cA p Tryz.f37.body).toList i false) /\ cfg.imm 37 2 = true /\ cfg.imm 37 3 = true /\ GO cfg 37 (B37 [tt, tt, ff, ff]) 3 13 /\ GO cfg 37 (B37 [tt, tt, ff, ff]) 8 18 /\ GO cfg 37 (B37 [tt, tt, ff, ff]) 11 21 /\ GO cfg 37 (B37 [tt, tt, ff, ff]) 17 27 /\ GO cfg 37 (B37 [tt, tt, ff, ff]) 24 34 /\ GO cfg 37 (B37 [tt, tt, ff, ff]) 29 39 /\ GO cfg 37 (B37 [tt, tt, ff, ff]) 33 43 /\ GO cfg 37 (B37 [tt, tt, tt, ff, tt, ff]) 2 56 /\ RE cfg 37 [0, 1, 2, 3, 4, 5, 6, 46, 59] /\ cfg.pure 37 = true := ⟨fun _ _ => xr rfl rfl, by kernel_rfl, by kernel_rfl, gO (by kernel_rfl), gO (by kernel_rfl), gO (by kernel_rfl), gO (by kernel_rfl), gO (by kernel_rfl), gO (by kernel_rfl), gO (by kernel_rfl), gO (by kernel_rfl), rE fun _ => rfl, rfl⟩
def k37 : Code := (.seq (R37 [ff] 0) (.seq (R37 [tt, ff] 1) (.seq (.seq (R37 [tt, tt, ff, ff] 2) (.cond (.tmp 46) (.seq (R37 [tt, tt, ff, tt, ff, ff] 3) .ret) .skip)) (.seq (.seq (R37 [tt, tt, tt, ff, ff] 4) (.seq (R37 [tt, tt, tt, ff, tt, ff] 5) (.cond (.tmp 59) (.seq (R37 [tt, tt, tt, ff, tt, tt, ff, ff] 6) .ret) .skip))) (.seq (R37 [tt, tt, tt, tt, ff] 7) .ret)))))
theorem call37 (x0 x1 : AV) (h : Heap) : call cfg 37 [x0, x1] h = (exec cfg 37 k37 [(0, x0), (1, x1)] h).bind (callEnd cfg 37 h [.tmp 4]) := call_at2 (fnat Tryz.func37 (b := k37) (by kernel_rfl) (by kernel_rfl)) rfl rfl
theorem mayFunx_eq (p : SProg) (f : SFun) (i : SIns) (h : Heap) (hi : i.wf) : call cfg 64 [.agg i.cells, .ref p.cells, .ref f.cells] h = some (.ret (.bool (!mayInsB p f i)), h) := by
 rw [call64]
 have hm := fun h => mayIns_eq p f i h hi.1 hi.2.1 hi.2.2
 simp only [SProg.cells, SFun.cells, SIns.cells] at hm
 simp only [SProg.cells, SFun.cells, SIns.cells, F64, k64, Tryz.f64, sxAll, cA, Env.keep, qt_eq, resultsA, packA, unA, loadA, Rv.part, cellsAt, TD.isAgg, mapO, ↓qAe, Nat.reduceBEq, Nat.reduceAdd, Nat.reduceLeDiff, ↓reduceIte, ty26, ty39, ty41, pu65, hm]
 exact leave_kept rfl rfl
def lastOp (f : SFun) : Int := (f.code.getLast?.map SIns.op).getD 0
def mayFunB (p : SProg) (f : SFun) : Bool := !decide (f.params < 0) && (!decide (f.params > 8) && (!(f.thread && decide (f.params > 0)) && (!decide (f.regs < f.params) && (!decide (f.regs > 4096) && (!decide ((f.code.length : Int) < 1) && (!decide ((f.code.length : Int) > 16384) && ((lastOp f == 11 || lastOp f == 13) && f.code.all (mayInsB p f))))))))
theorem mayFun_eq (p : SProg) (f : SFun) (h : Heap) (hf : f.wf) : call cfg 37 [.agg p.cells, .agg f.cells] h = some (.ret (.bool (mayFunB p f)), h) := by
 rw [call37]
 have hcl : f.code.length < 100000000 := hf.1
 by_cases c1 : f.params < 0
 ·have hB : mayFunB p f = false := by simp [mayFunB, c1]
  rw [hB]
  simp only [SProg.cells, SFun.cells, F37, k37, Tryz.f37, sxAll, cA, arithA, Env.keep, qt_eq, resultsA, packA, fieldAddrA, loadA, Rv.part, cellsAt, TD.isAgg, lenA, ↓qAe, Nat.reduceBEq, Nat.reduceAdd, ↓reduceIte, ty26, ty39, ty3, ty37, codeL_len, c1]
  exact leave_kept rfl rfl
 by_cases c2 : f.params > 8
 ·have hB : mayFunB p f = false := by simp [mayFunB, c1, c2]
  rw [hB]
  simp only [SProg.cells, SFun.cells, F37, k37, Tryz.f37, sxAll, cA, arithA, Env.keep, qt_eq, resultsA, packA, fieldAddrA, loadA, Rv.part, cellsAt, TD.isAgg, lenA, ↓qAe, Nat.reduceBEq, Nat.reduceAdd, ↓reduceIte, ty26, ty39, ty3, ty37, codeL_len, c1, c2]
  exact leave_kept rfl rfl
 have ct : (f.thread && decide (f.params > 0)) = true ∨ (f.thread = false ∨ (f.thread = true /\ ¬ f.params > 0)) := by
  cases f.thread
  ·exact .inr (.inl rfl)
  ·by_cases c3 : f.params > 0
   ·left; simp [c3]
   ·exact .inr (.inr ⟨rfl, c3⟩)
 rcases ct with ct | ct
 ·have ht : f.thread = true := by simp at ct; exact ct.1
  have c3 : f.params > 0 := by simp at ct; exact ct.2
  have hB : mayFunB p f = false := by simp [mayFunB, c1, c2, ht, c3]
  rw [hB]
  simp only [SProg.cells, SFun.cells, F37, k37, Tryz.f37, sxAll, cA, arithA, Env.keep, qt_eq, resultsA, packA, fieldAddrA, loadA, Rv.part, cellsAt, TD.isAgg, lenA, ↓qAe, Nat.reduceBEq, Nat.reduceAdd, ↓reduceIte, ty26, ty39, ty3, ty4, ty37, codeL_len, c1, c2, ht, c3]
  exact leave_kept rfl rfl
 have h3 : (f.thread && decide (f.params > 0)) = false := by
  rcases ct with ct | ⟨_, ct⟩
  ·rw [ct]; rfl
  ·simp only [ct, decide_false, Bool.and_false]
 rcases ct with ht | ⟨ht, c3⟩
 ·by_cases c4 : f.regs < f.params
  ·have hB : mayFunB p f = false := by simp [mayFunB, c1, c2, ht, c4]
   rw [hB]
   simp only [SProg.cells, SFun.cells, F37, k37, Tryz.f37, sxAll, cA, arithA, Env.keep, qt_eq, resultsA, packA, fieldAddrA, loadA, Rv.part, cellsAt, TD.isAgg, lenA, ↓qAe, Nat.reduceBEq, Nat.reduceAdd, ↓reduceIte, ty26, ty39, ty3, ty4, ty37, codeL_len, c1, c2, ht, c4]
   exact leave_kept rfl rfl
  by_cases c5 : f.regs > 4096
  ·have hB : mayFunB p f = false := by simp [mayFunB, c1, c2, ht, c4, c5]
   rw [hB]
   simp only [SProg.cells, SFun.cells, F37, k37, Tryz.f37, sxAll, cA, arithA, Env.keep, qt_eq, resultsA, packA, fieldAddrA, loadA, Rv.part, cellsAt, TD.isAgg, lenA, ↓qAe, Nat.reduceBEq, Nat.reduceAdd, ↓reduceIte, ty26, ty39, ty3, ty4, ty37, codeL_len, c1, c2, ht, c4, c5]
   exact leave_kept rfl rfl
  by_cases c6 : (f.code.length : Int) < 1
  ·have hB : mayFunB p f = false := by simp [mayFunB, c1, c2, ht, c4, c5, c6]
   rw [hB]
   simp only [SProg.cells, SFun.cells, F37, k37, Tryz.f37, sxAll, cA, arithA, Env.keep, qt_eq, resultsA, packA, fieldAddrA, loadA, Rv.part, cellsAt, TD.isAgg, lenA, ↓qAe, Nat.reduceBEq, Nat.reduceAdd, ↓reduceIte, ty26, ty39, ty3, ty4, ty37, codeL_len, c1, c2, ht, c4, c5, c6]
   exact leave_kept rfl rfl
  by_cases c7 : (f.code.length : Int) > 16384
  ·have hB : mayFunB p f = false := by simp [mayFunB, c1, c2, ht, c4, c5, c6, c7]
   rw [hB]
   simp only [SProg.cells, SFun.cells, F37, k37, Tryz.f37, sxAll, cA, arithA, Env.keep, qt_eq, resultsA, packA, fieldAddrA, loadA, Rv.part, cellsAt, TD.isAgg, lenA, ↓qAe, Nat.reduceBEq, Nat.reduceAdd, ↓reduceIte, ty26, ty39, ty3, ty4, ty37, codeL_len, c1, c2, ht, c4, c5, c6, c7]
   exact leave_kept rfl rfl
  obtain ⟨x, hx⟩ : ∃ x, f.code[f.code.length - 1]? = some x := ⟨_, qAs (by omega)⟩
  have hlast : lastOp f = x.op := by
   unfold lastOp
   rw [List.getLast?_eq_getElem?, hx]; rfl
  have hget := codeL_get hx
  have hw : IntKind.i64.wrap ((f.code.length : Int) - 1) = ((f.code.length - 1 : Nat) : Int) := by rw [wrap_id (by omega) (by omega)]; omega
  have hcf : ∀ h, call cfg 63 [.lst (codeL f.code) f.cz f.room, .clo 64 [.ref p.cells, .ref f.cells]] h = some (.ret (.bool (f.code.any fun i => !mayInsB p f i)), h) := fun h => containsFIns_eq f.code SIns.cells _ 64 [.ref p.cells, .ref f.cells] f.cz f.room h (by omega) (fun _ _ => rfl) (fun i hi => mayFunx_eq p f i h (hf.2.2 i hi))
  simp only [SProg.cells, SFun.cells, ht] at hcf
  have hB : mayFunB p f = ((x.op == 11 || x.op == 13) && !(f.code.any fun i => !mayInsB p f i)) := by
   rw [← hlast]
   simp [mayFunB, c1, c2, ht, c4, c5, c6, c7, List.not_any_eq_all_not]
  rw [hB]
  by_cases e11 : x.op = 11
  ·have b11 : (x.op == 11) = true := by simp [e11]
   simp only [SProg.cells, SFun.cells, F37, k37, Tryz.f37, sxAll, cA, arithA, Env.keep, qt_eq, resultsA, packA, indexAddrA, unA, fieldAddrA, loadA, Rv.part, cellsAt, TD.isAgg, lenA, mapO, ↓qAe, Nat.reduceBEq, Nat.reduceAdd, bne, ↓reduceIte, ty26, ty39, ty41, ty5, ty3, ty4, ty37, codeL_len, c1, c2, ht, c4, c5, c6, c7, hw, hget, SIns.cells, b11, pu63, hcf]
   exact leave_kept rfl rfl
  ·have b11 : (x.op == 11) = false := by simp [e11]
   by_cases e13 : x.op = 13
   ·have b13 : (x.op == 13) = true := by simp [e13]
    simp only [SProg.cells, SFun.cells, F37, k37, Tryz.f37, sxAll, cA, arithA, Env.keep, qt_eq, resultsA, packA, indexAddrA, unA, fieldAddrA, loadA, Rv.part, cellsAt, TD.isAgg, lenA, mapO, ↓qAe, Nat.reduceBEq, Nat.reduceAdd, bne, ↓reduceIte, ty26, ty39, ty41, ty5, ty3, ty4, ty37, codeL_len, c1, c2, ht, c4, c5, c6, c7, hw, hget, SIns.cells, b11, b13, pu63, hcf]
    exact leave_kept rfl rfl
   ·have b13 : (x.op == 13) = false := by simp [e13]
    simp only [SProg.cells, SFun.cells, F37, k37, Tryz.f37, sxAll, cA, arithA, Env.keep, qt_eq, resultsA, packA, indexAddrA, fieldAddrA, loadA, Rv.part, cellsAt, TD.isAgg, lenA, ↓qAe, Nat.reduceBEq, Nat.reduceAdd, bne, ↓reduceIte, ty26, ty39, ty41, ty5, ty3, ty4, ty37, codeL_len, c1, c2, ht, c4, c5, c6, c7, hw, hget, SIns.cells, b11, b13]
    exact leave_kept rfl rfl
 ·by_cases c4 : f.regs < f.params
  ·have hB : mayFunB p f = false := by simp [mayFunB, c1, c2, ht, c3, c4]
   rw [hB]
   simp only [SProg.cells, SFun.cells, F37, k37, Tryz.f37, sxAll, cA, arithA, Env.keep, qt_eq, resultsA, packA, fieldAddrA, loadA, Rv.part, cellsAt, TD.isAgg, lenA, ↓qAe, Nat.reduceBEq, Nat.reduceAdd, ↓reduceIte, ty26, ty39, ty3, ty4, ty37, codeL_len, c1, c2, ht, c3, c4]
   exact leave_kept rfl rfl
  by_cases c5 : f.regs > 4096
  ·have hB : mayFunB p f = false := by simp [mayFunB, c1, c2, ht, c3, c4, c5]
   rw [hB]
   simp only [SProg.cells, SFun.cells, F37, k37, Tryz.f37, sxAll, cA, arithA, Env.keep, qt_eq, resultsA, packA, fieldAddrA, loadA, Rv.part, cellsAt, TD.isAgg, lenA, ↓qAe, Nat.reduceBEq, Nat.reduceAdd, ↓reduceIte, ty26, ty39, ty3, ty4, ty37, codeL_len, c1, c2, ht, c3, c4, c5]
   exact leave_kept rfl rfl
  by_cases c6 : (f.code.length : Int) < 1
  ·have hB : mayFunB p f = false := by simp [mayFunB, c1, c2, ht, c3, c4, c5, c6]
   rw [hB]
   simp only [SProg.cells, SFun.cells, F37, k37, Tryz.f37, sxAll, cA, arithA, Env.keep, qt_eq, resultsA, packA, fieldAddrA, loadA, Rv.part, cellsAt, TD.isAgg, lenA, ↓qAe, Nat.reduceBEq, Nat.reduceAdd, ↓reduceIte, ty26, ty39, ty3, ty4, ty37, codeL_len, c1, c2, ht, c3, c4, c5, c6]
   exact leave_kept rfl rfl
  by_cases c7 : (f.code.length : Int) > 16384
  ·have hB : mayFunB p f = false := by simp [mayFunB, c1, c2, ht, c3, c4, c5, c6, c7]
   rw [hB]
   simp only [SProg.cells, SFun.cells, F37, k37, Tryz.f37, sxAll, cA, arithA, Env.keep, qt_eq, resultsA, packA, fieldAddrA, loadA, Rv.part, cellsAt, TD.isAgg, lenA, ↓qAe, Nat.reduceBEq, Nat.reduceAdd, ↓reduceIte, ty26, ty39, ty3, ty4, ty37, codeL_len, c1, c2, ht, c3, c4, c5, c6, c7]
   exact leave_kept rfl rfl
  obtain ⟨x, hx⟩ : ∃ x, f.code[f.code.length - 1]? = some x := ⟨_, qAs (by omega)⟩
  have hlast : lastOp f = x.op := by
   unfold lastOp
   rw [List.getLast?_eq_getElem?, hx]; rfl
  have hget := codeL_get hx
  have hw : IntKind.i64.wrap ((f.code.length : Int) - 1) = ((f.code.length - 1 : Nat) : Int) := by rw [wrap_id (by omega) (by omega)]; omega
  have hcf : ∀ h, call cfg 63 [.lst (codeL f.code) f.cz f.room, .clo 64 [.ref p.cells, .ref f.cells]] h = some (.ret (.bool (f.code.any fun i => !mayInsB p f i)), h) := fun h => containsFIns_eq f.code SIns.cells _ 64 [.ref p.cells, .ref f.cells] f.cz f.room h (by omega) (fun _ _ => rfl) (fun i hi => mayFunx_eq p f i h (hf.2.2 i hi))
  simp only [SProg.cells, SFun.cells, ht] at hcf
  have hB : mayFunB p f = ((x.op == 11 || x.op == 13) && !(f.code.any fun i => !mayInsB p f i)) := by
   rw [← hlast]
   simp [mayFunB, c1, c2, ht, c3, c4, c5, c6, c7, List.not_any_eq_all_not]
  rw [hB]
  by_cases e11 : x.op = 11
  ·have b11 : (x.op == 11) = true := by simp [e11]
   simp only [SProg.cells, SFun.cells, F37, k37, Tryz.f37, sxAll, cA, arithA, Env.keep, qt_eq, resultsA, packA, indexAddrA, unA, fieldAddrA, loadA, Rv.part, cellsAt, TD.isAgg, lenA, mapO, ↓qAe, Nat.reduceBEq, Nat.reduceAdd, bne, ↓reduceIte, ty26, ty39, ty41, ty5, ty3, ty4, ty37, codeL_len, c1, c2, ht, c3, c4, c5, c6, c7, hw, hget, SIns.cells, b11, pu63, hcf]
   exact leave_kept rfl rfl
  ·have b11 : (x.op == 11) = false := by simp [e11]
   by_cases e13 : x.op = 13
   ·have b13 : (x.op == 13) = true := by simp [e13]
    simp only [SProg.cells, SFun.cells, F37, k37, Tryz.f37, sxAll, cA, arithA, Env.keep, qt_eq, resultsA, packA, indexAddrA, unA, fieldAddrA, loadA, Rv.part, cellsAt, TD.isAgg, lenA, mapO, ↓qAe, Nat.reduceBEq, Nat.reduceAdd, bne, ↓reduceIte, ty26, ty39, ty41, ty5, ty3, ty4, ty37, codeL_len, c1, c2, ht, c3, c4, c5, c6, c7, hw, hget, SIns.cells, b11, b13, pu63, hcf]
    exact leave_kept rfl rfl
   ·have b13 : (x.op == 13) = false := by simp [e13]
    simp only [SProg.cells, SFun.cells, F37, k37, Tryz.f37, sxAll, cA, arithA, Env.keep, qt_eq, resultsA, packA, indexAddrA, fieldAddrA, loadA, Rv.part, cellsAt, TD.isAgg, lenA, ↓qAe, Nat.reduceBEq, Nat.reduceAdd, bne, ↓reduceIte, ty26, ty39, ty41, ty5, ty3, ty4, ty37, codeL_len, c1, c2, ht, c3, c4, c5, c6, c7, hw, hget, SIns.cells, b11, b13]
    exact leave_kept rfl rfl
end
end Go.Proofs.Sx
namespace Go.Proofs.Sx
open Go.Rv Go.Proofs
attribute [local congr] bind_left got_left
noncomputable section
def idxS (x : List UInt8) : List (List UInt8) -> Nat -> Int
 | [], _ => -1
 | y :: r, i => if x = y then i else idxS x r (i + 1)
theorem idxS_has (x : List UInt8) : ∀ (l : List (List UInt8)) (i : Nat), (idxS x l i >= 0) = (x ∈ l)
 | [], i => by simp [idxS]
 | y :: r, i => by
  unfold idxS
  split
  ·rename_i h; subst h; simp
  ·rename_i h
   rw [idxS_has x r (i + 1)]
   simp [h]
theorem strL_drop {xs ys : List (List UInt8)} {i : Nat} (h : xs.drop i = ys) : (strL xs).drop i = strL ys := by rw [strL, ← List.map_drop, h]; rfl
theorem pu122 : cfg.pure 122 = true := rfl
instance t122 {d : Option Nat} : TightD cfg 122 d := ⟨fun _ _ => rfl⟩
def B122 (p : List Bool) := cA p Tryz.f122.body
def R122 (p : List Bool) (i : Nat) := Code.region i (cA p Tryz.f122.body) false
theorem F122 : (∀ p i, XR cfg 122 (R122 p i) (B122 p) (cA p Tryz.f122.body).toList i false) /\ RE cfg 122 [0, 1, 4, 5, 7, 8, 9, 16] /\ cfg.pure 122 = true := ⟨fun _ _ => xr rfl rfl, rE fun _ => rfl, rfl⟩
def l122_0 : Code := (.seq (R122 [tt, ff, tt, ff, ff, ff] 2) (.seq (.cond (.tmp 9) .skip (.exit 0)) (.seq (.block 1 (.seq (R122 [tt, ff, tt, ff, ff, tt, tt, ff, ff, ff] 3) (.seq (R122 [tt, ff, tt, ff, ff, tt, tt, ff, ff, tt, ff] 4) (.cond (.tmp 16) (.seq (R122 [tt, ff, tt, ff, ff, tt, tt, ff, ff, tt, tt, ff, ff] 5) .ret) .skip)))) (R122 [tt, ff, tt, ff, ff, tt, tt, tt] 6))))
def k122 : Code := (.seq (R122 [ff] 0) (.seq (.seq (R122 [tt, ff, ff] 1) (.block 0 (.loop l122_0))) (.seq (R122 [tt, tt, ff] 7) .ret)))
theorem call122 (x0 x1 : AV) (h : Heap) : call cfg 122 [x0, x1] h = (exec cfg 122 k122 [(0, x0), (1, x1)] h).bind (callEnd cfg 122 h [.tmp 4]) := call_at2 (fnat Tryz.func122 (b := k122) (by kernel_rfl) (by kernel_rfl)) rfl rfl
theorem pu87 : cfg.pure 87 = true := rfl
instance t87 {d : Option Nat} : TightD cfg 87 d := ⟨fun _ _ => rfl⟩
def B87 (p : List Bool) := cA p Tryz.f87.body
def R87 (p : List Bool) (i : Nat) := Code.region i (cA p Tryz.f87.body) false
theorem F87 : (∀ p i, XR cfg 87 (R87 p i) (B87 p) (cA p Tryz.f87.body).toList i false) /\ RE cfg 87 [0, 1, 4] /\ cfg.pure 87 = true := ⟨fun _ _ => xr rfl rfl, rE fun _ => rfl, rfl⟩
def k87 : Code := (.seq (R87 [ff] 0) (.seq (R87 [tt, ff] 1) .ret))
theorem call87 (x0 x1 : AV) (h : Heap) : call cfg 87 [x0, x1] h = (exec cfg 87 k87 [(0, x0), (1, x1)] h).bind (callEnd cfg 87 h [.tmp 4]) := call_at2 (fnat Tryz.func87 (b := k87) (by kernel_rfl) (by kernel_rfl)) rfl rfl
theorem indexS_loop (xs : List (List UInt8)) (x : List UInt8) (z : Nat) (r : Room) (h : Heap) (hn : xs.length < 1000000000) : ∀ (ys : List (List UInt8)) (i : Nat), xs.drop i = ys -> i <= xs.length -> ∀ c d t e,
  Got (exec cfg 122 (.loop l122_0) [(0, .lst (strL xs) z r), (1, .str x), (4, c), (5, d), (7, .int .i64 xs.length), (8, .int .i64 i), (9, t), (16, e)] h) (fun q => q.2.2 = h /\
   ((q.1 = .exit 0 /\ idxS x ys i = -1) ∨ (q.1 = .ret /\ q.2.1.get 4 = .int .i64 (idxS x ys i)))) := by
 intro ys
 induction ys with
 | nil =>
  intro i hd hi c d t e
  rw [got_loop]
  simp only [l122_0, F122, Tryz.f122, sxAll, cA, arithA, Env.keep, ↓qAe, Nat.reduceBEq, ↓reduceIte, at_end hd]
  exact ⟨trivial, .inl ⟨trivial, rfl⟩⟩
 | cons y r ih =>
  intro i hd hi c d t e
  obtain ⟨hlt, _, hd'⟩ := at_drop hd
  obtain ⟨_, hx, _⟩ := at_drop (strL_drop hd)
  have hw := wrap_succ (i := i) (by omega)
  rw [got_loop]
  by_cases he : x = y
  ·subst he
   simp only [l122_0, F122, Tryz.f122, sxAll, cA, arithA, Env.keep, qt_eq, indexAddrA, loadA, Rv.part, cellsAt, TD.isAgg, ↓qAe, Nat.reduceBEq, Nat.reduceAdd, ↓reduceIte, hlt, ty23, ty9, hx, binA_str_eql]
   exact ⟨trivial, .inr ⟨trivial, by simp [idxS]⟩⟩
  ·have hne : (x == y) = false := by simp [he]
   have := ih (i + 1) hd' (by simp at hlt; omega)
   simp only [l122_0] at this ⊢
   simp only [F122, Tryz.f122, sxAll, cA, arithA, Env.keep, qt_eq, indexAddrA, loadA, Rv.part, cellsAt, TD.isAgg, ↓qAe, Nat.reduceBEq, Nat.reduceAdd, ↓reduceIte, hlt, ty23, ty9, hx, hne, hw, idxS, if_neg he, binA_str_eql] at this ⊢
   exact this _ _ _ _
theorem indexS_eq (xs : List (List UInt8)) (x : List UInt8) (z : Nat) (r : Room) (h : Heap) (hn : xs.length < 1000000000) : call cfg 122 [.lst (strL xs) z r, .str x] h = some (.ret (.int .i64 (idxS x xs 0)), h) := by
 obtain ⟨⟨o, e', h'⟩, hx, hh, hq⟩ := indexS_loop xs x z r h hn xs 0 (by simp) (by omega) (.int .i64 0) .junk .junk .junk
 simp only [qBo] at hx hh hq
 subst hh
 rw [call122]
 rcases hq with ⟨rfl, h1⟩ | ⟨rfl, h1⟩
 ·simp only [F122, k122, Tryz.f122, sxAll, cA, Env.keep, resultsA, packA, lenA, ↓qAe, Nat.reduceBEq, ↓reduceIte, ty23, strL_len, hx, h1]
  exact leave_kept rfl rfl
 ·simp only [F122, k122, Tryz.f122, sxAll, cA, Env.keep, resultsA, packA, lenA, ↓qAe, Nat.reduceBEq, ↓reduceIte, ty23, strL_len, hx, h1]
  exact leave_kept rfl rfl
theorem containsS_eq (xs : List (List UInt8)) (x : List UInt8) (z : Nat) (r : Room) (h : Heap) (hn : xs.length < 1000000000) : call cfg 87 [.lst (strL xs) z r, .str x] h = some (.ret (.bool (decide (x ∈ xs))), h) := by
 rw [call87]
 simp only [F87, k87, Tryz.f87, sxAll, cA, arithA, Env.keep, qt_eq, resultsA, packA, mapO, ↓qAe, Nat.reduceBEq, ↓reduceIte, indexS_eq xs x z r h hn, pu122, idxS_has]
 exact leave_kept rfl rfl
theorem pu125 : cfg.pure 125 = false := rfl
instance t125 {d : Option Nat} : TightD cfg 125 d := ⟨fun _ _ => rfl⟩
def B125 (p : List Bool) := cA p Tryz.f125.body
def R125 (p : List Bool) (i : Nat) := Code.region i (cA p Tryz.f125.body) false
theorem F125 : (∀ p i, XR cfg 125 (R125 p i) (B125 p) (cA p Tryz.f125.body).toList i false) /\ RE cfg 125 [0, 2, 3, 4, 5, 9, 16] /\ cfg.pure 125 = false := ⟨fun _ _ => xr rfl rfl, rE fun _ => rfl, rfl⟩
def l125_0 : Code := (.seq (.seq (R125 [tt, ff, tt, ff, ff, ff, ff] 2) (.cond (.tmp 9) .skip (.exit 0))) (.seq (.block 1 (.seq (R125 [tt, ff, tt, ff, ff, tt, ff, ff, ff] 4) (.seq (.seq (R125 [tt, ff, tt, ff, ff, tt, ff, ff, tt, ff, ff] 5) (.cond (.tmp 16) (.seq (R125 [tt, ff, tt, ff, ff, tt, ff, ff, tt, ff, tt, ff, ff] 6) .ret) .skip)) (R125 [tt, ff, tt, ff, ff, tt, ff, ff, tt, tt] 7)))) (R125 [tt, ff, tt, ff, ff, tt, tt] 3)))
def k125 : Code := (.seq (R125 [ff] 0) (.seq (.seq (R125 [tt, ff, ff] 1) (.block 0 (.loop l125_0))) (.seq (R125 [tt, tt, ff] 8) .ret)))
theorem call125 (x0 : AV) (h : Heap) : call cfg 125 [x0] h = (exec cfg 125 k125 [(0, x0)] h).bind (callEnd cfg 125 h [.cell 2 174, .tmp 3]) := call_at2 (fnat Tryz.func125 (b := k125) (by kernel_rfl) (by kernel_rfl)) rfl rfl
theorem pu144 : cfg.pure 144 = true := rfl
instance t144 {d : Option Nat} : TightD cfg 144 d := ⟨fun _ _ => rfl⟩
def B144 (p : List Bool) := cA p Tryz.f144.body
def R144 (p : List Bool) (i : Nat) := Code.region i (cA p Tryz.f144.body) false
theorem F144 : (∀ p i, XR cfg 144 (R144 p i) (B144 p) (cA p Tryz.f144.body).toList i false) /\ RE cfg 144 [0, 1, 4] /\ cfg.pure 144 = true := ⟨fun _ _ => xr rfl rfl, rE fun _ => rfl, rfl⟩
def k144 : Code := (.seq (R144 [ff] 0) (.seq (R144 [tt, ff] 1) .ret))
theorem call144 (x0 x1 : AV) (h : Heap) : call cfg 144 [x0, x1] h = (exec cfg 144 k144 [(0, x0), (1, x1)] h).bind (callEnd cfg 144 h [.tmp 4]) := call_at2 (fnat Tryz.func144 (b := k144) (by kernel_rfl) (by kernel_rfl)) rfl rfl
theorem pu127 : cfg.pure 127 = true := rfl
instance t127 {d : Option Nat} : TightD cfg 127 d := ⟨fun _ _ => rfl⟩
def B127 (p : List Bool) := cA p Tryz.f127.body
def R127 (p : List Bool) (i : Nat) := Code.region i (cA p Tryz.f127.body) false
theorem F127 : (∀ p i, XR cfg 127 (R127 p i) (B127 p) (cA p Tryz.f127.body).toList i false) /\ RE cfg 127 [0, 1, 4, 7, 15] /\ cfg.pure 127 = true := ⟨fun _ _ => xr rfl rfl, rE fun _ => rfl, rfl⟩
def l127_0 : Code := (.seq (.seq (R127 [tt, ff, ff, ff, ff, ff] 1) (.cond (.tmp 7) .skip (.exit 0))) (.block 1 (.seq (.seq (R127 [tt, ff, ff, ff, tt, ff, ff, ff] 2) (.cond (.tmp 15) (.exit 0) .skip)) (R127 [tt, ff, ff, ff, tt, ff, tt] 3))))
def k127 : Code := (.seq (R127 [ff] 0) (.seq (.block 0 (.loop l127_0)) (.seq (R127 [tt, tt, ff] 4) .ret)))
theorem call127 (x0 x1 : AV) (h : Heap) : call cfg 127 [x0, x1] h = (exec cfg 127 k127 [(0, x0), (1, x1)] h).bind (callEnd cfg 127 h [.tmp 4]) := call_at2 (fnat Tryz.func127 (b := k127) (by kernel_rfl) (by kernel_rfl)) rfl rfl
theorem pu126 : cfg.pure 126 = true := rfl
instance t126 {d : Option Nat} : TightD cfg 126 d := ⟨fun _ _ => rfl⟩
def B126 (p : List Bool) := cA p Tryz.f126.body
def R126 (p : List Bool) (i : Nat) := Code.region i (cA p Tryz.f126.body) false
theorem F126 : (∀ p i, XR cfg 126 (R126 p i) (B126 p) (cA p Tryz.f126.body).toList i false) /\ RE cfg 126 [0, 1, 4, 7, 12] /\ cfg.pure 126 = true := ⟨fun _ _ => xr rfl rfl, rE fun _ => rfl, rfl⟩
def l126_0 : Code := (.seq (.seq (R126 [tt, ff, ff, ff, ff, ff] 1) (.cond (.tmp 7) .skip (.exit 0))) (.block 1 (.seq (.seq (R126 [tt, ff, ff, ff, tt, ff, ff, ff] 2) (.cond (.tmp 12) (.exit 0) .skip)) (R126 [tt, ff, ff, ff, tt, ff, tt] 3))))
def k126 : Code := (.seq (R126 [ff] 0) (.seq (.block 0 (.loop l126_0)) (.seq (R126 [tt, tt, ff] 4) .ret)))
theorem call126 (x0 x1 : AV) (h : Heap) : call cfg 126 [x0, x1] h = (exec cfg 126 k126 [(0, x0), (1, x1)] h).bind (callEnd cfg 126 h [.tmp 4]) := call_at2 (fnat Tryz.func126 (b := k126) (by kernel_rfl) (by kernel_rfl)) rfl rfl
def setOf (T : Nat -> Bool) : List UInt8 -> Nat -> Bool
 | [] => T
 | c :: r => setOf (fun k => T k || k == c.toNat) r
theorem makeASCII_loop (cs : List UInt8) (hn : cs.length < 1000000000) (h : Heap) (hc : ∀ c ∈ cs, c.toNat < 128) : ∀ (ys : List UInt8) (i : Nat), cs.drop i = ys -> i <= cs.length -> ∀ (T : Nat -> Bool) a b c d,
  Got (exec cfg 125 (.loop l125_0) [(0, .str cs), (2, .ptr h.length 0 0), (3, a), (4, .int .i64 i), (5, b), (9, c), (16, d)] (h ++ [.cells (tabC T) 0]))
   (fun q => q.1 = .exit 0 /\ q.2.2 = h ++ [.cells (tabC (setOf T ys)) 0] /\ q.2.1.get 2 = .ptr h.length 0 0) := by
 intro ys
 induction ys with
 | nil =>
  intro i hd hi T a b c d
  rw [got_loop]
  simp only [l125_0, F125, Tryz.f125, sxAll, cA, arithA, Env.keep, lenA, ↓qAe, Nat.reduceBEq, ↓reduceIte, ty9, at_end hd]
  exact ⟨trivial, rfl, trivial⟩
 | cons y r ih =>
  intro i hd hi T a b c d
  obtain ⟨hlt, hget, hd'⟩ := at_drop hd
  have hy := hc y (qBj hget)
  have hw := wrap_succ (i := i) (by omega)
  have hge : ((y.toNat : Int) >= 128) = False := by simp; omega
  have hlt2 : (y.toNat < 256) = True := by simp; omega
  have := ih (i + 1) hd' (by simp at hlt; omega) (fun k => T k || k == y.toNat)
  rw [got_loop]
  have hle : (y.toNat + 1 <= 256) = True := by simp; omega
  simp only [l125_0] at this ⊢
  simp only [F125, Tryz.f125, sxAll, cA, arithA, Env.keep, storeA, indexAddrA, indexA, Rv.part, TD.isAgg, setCells, copies, lenA, ↓qAe, Nat.reduceBEq, ↓reduceIte, hlt, ty174, ty4, ty9, hget, hw, hge, hlt2, hle, qBg, Nat.mul_one, tabC_len, tabC_set T (show y.toNat < 256 by omega), setOf] at this ⊢
  exact this _ _ _ _
theorem tyA : cfg.ty 174 = some ⟨.array 256 4, 256, 256, tabC (fun _ => false)⟩ := by rw [ty174, tabC_zero]
theorem makeASCII_eq (cs : List UInt8) (hn : cs.length < 1000000000) (h : Heap) (hc : ∀ c ∈ cs, c.toNat < 128) : call cfg 125 [.str cs] h = some (.ret (.tup [.agg (tabC (setOf (fun _ => false) cs)), .bool true]), h ++ [.cells (tabC (setOf (fun _ => false) cs)) 0]) := by
 obtain ⟨⟨o, e', h'⟩, hx, ho, hh, h2⟩ := makeASCII_loop cs hn h hc cs 0 (by simp) (by omega) (fun _ => false) (.bool false) .junk .junk .junk
 simp only [qBo] at hx ho hh h2
 subst ho
 subst hh
 rw [call125]
 simp only [F125, k125, Tryz.f125, sxAll, cA, Env.keep, qt_eq, resultsA, packA, storeA, loadA, Rv.part, cellsAt, TD.isAgg, ↓qAe, Nat.reduceBEq, Nat.reduceAdd, Nat.reduceLeDiff, ↓reduceIte, tyA, tabC_len, tabC_take, tabC_leaf, hx, h2, tabC_over]
 exact leave_impure rfl
theorem asciiHas_eq (T : Nat -> Bool) (o : Nat) (c : UInt8) (h : Heap) (ho : h.obj o 0 = some (tabC T)) : call cfg 144 [.ptr o 0 0, .int .u8 c.toNat] h = some (.ret (.bool (T c.toNat)), h) := by
 have hc : c.toNat < 256 := c.toNat_lt
 have hl := live_of ho
 have hlt : (c.toNat < 256) = True := by simp [hc]
 rw [call144]
 simp only [F144, k144, Tryz.f144, sxAll, cA, Env.keep, qt_eq, resultsA, packA, indexAddrA, loadA, Rv.part, cellsAt, TD.isAgg, copies, ↓qAe, Nat.reduceBEq, ↓reduceIte, ty174, ty4, hl, hlt, ho, qBg, Nat.mul_one, tabC_head T hc]
 exact leave_kept rfl rfl
def dropR (T : Nat -> Bool) (s : List UInt8) : List UInt8 := (s.reverse.dropWhile fun c => T c.toNat).reverse
theorem dropR_snoc (T : Nat -> Bool) (r : List UInt8) (c : UInt8) : dropR T (r ++ [c]) = if T c.toNat then dropR T r else r ++ [c] := by
 simp only [dropR, List.reverse_append, List.reverse_cons, List.reverse_nil, qBq, qBr, List.dropWhile_cons]
 split <;> simp
theorem trimRA_loop (T : Nat -> Bool) (o : Nat) (H : Heap) (ho : H.obj o 0 = some (tabC T)) : ∀ (k : Nat) (s : List UInt8), s.length = k -> k < 1000000000 -> ∀ a b c,
  Got (exec cfg 127 (.loop l127_0) [(0, .str s), (1, .ptr o 0 0), (4, a), (7, b), (15, c)] H) (fun q => q.1 = .exit 0 /\ q.2.2 = H /\ q.2.1.get 0 = .str (dropR T s)) := by
 intro k
 induction k with
 | zero =>
  intro s hs hk a b c
  have : s = [] := List.length_eq_zero_iff.1 hs
  subst this
  rw [got_loop]
  simp only [l127_0, F127, Tryz.f127, sxAll, cA, arithA, Env.keep, lenA, ↓qAe, Nat.reduceBEq, ↓reduceIte, ty9, qBo, Int.reduceGT]
  (refine ⟨trivial, trivial, ?_⟩; first | rfl | trivial)
 | succ k ih =>
  intro s hs hk a b c
  obtain ⟨r, ch, hrc⟩ : ∃ r ch, s = r ++ [ch] := ⟨s.dropLast, s.getLast (by intro hc; rw [hc] at hs; cases hs), (List.dropLast_concat_getLast _).symm⟩
  have hr : r.length = k := by rw [hrc] at hs; simpa using hs
  have hgt : ((s.length : Int) > 0) = True := by simp; omega
  have hw : IntKind.i64.wrap ((s.length : Int) - 1) = (k : Int) := by rw [wrap_id (by omega) (by omega)]; omega
  have hget : s[k]? = some ch := by rw [hrc, ← hr]; simp
  have hc := asciiHas_eq T o ch H ho
  have hb1 : (decide (0 <= (k : Int)) && decide ((k : Int) <= (s.length : Int))) = true := by simp; omega
  have htk : s.take k = r := by rw [hrc, ← hr]; simp
  have hdr : dropR T s = if T ch.toNat then dropR T r else s := by rw [hrc, dropR_snoc]
  rw [got_loop, hdr]
  cases ht : T ch.toNat with
  | true =>
   rw [ht] at hc
   have := ih r hr (by omega)
   simp only [l127_0] at this ⊢
   simp only [F127, Tryz.f127, sxAll, cA, arithA, Env.keep, qt_eq, indexA, unA, Rv.part, TD.isAgg, lenA, optA, boundA, mapO, ↓qAe, Nat.reduceBEq, bne, ↓reduceIte, ty9, hgt, hw, hget, hc, pu144, sliceA, hb1, htk] at this ⊢
   exact this _ _ _
  | false =>
   rw [ht] at hc
   simp only [l127_0, F127, Tryz.f127, sxAll, cA, arithA, Env.keep, qt_eq, indexA, unA, Rv.part, TD.isAgg, lenA, mapO, ↓qAe, Nat.reduceBEq, ↓reduceIte, ty9, hgt, hw, hget, hc, pu144]
   (refine ⟨trivial, trivial, ?_⟩; first | rfl | trivial)
theorem trimRA_eq (T : Nat -> Bool) (o : Nat) (H : Heap) (ho : H.obj o 0 = some (tabC T)) (s : List UInt8) (hs : s.length < 1000000000) : call cfg 127 [.str s, .ptr o 0 0] H = some (.ret (.str (dropR T s)), H) := by
 obtain ⟨⟨out, e', h'⟩, hx, ho, hh, h2⟩ := trimRA_loop T o H ho s.length s rfl hs (.str []) .junk .junk
 simp only at hx ho hh h2
 subst ho
 subst hh
 rw [call127]
 simp only [F127, k127, Tryz.f127, sxAll, cA, Env.keep, resultsA, packA, ↓qAe, Nat.reduceBEq, ↓reduceIte, hx, h2]
 exact leave_kept rfl rfl
theorem trimLA_loop (T : Nat -> Bool) (o : Nat) (H : Heap) (ho : H.obj o 0 = some (tabC T)) : ∀ (s : List UInt8), s.length < 1000000000 -> ∀ a b c,
  Got (exec cfg 126 (.loop l126_0) [(0, .str s), (1, .ptr o 0 0), (4, a), (7, b), (12, c)] H) (fun q => q.1 = .exit 0 /\ q.2.2 = H /\ q.2.1.get 0 = .str (s.dropWhile fun c => T c.toNat)) := by
 intro s
 induction s with
 | nil =>
  intro hk a b c
  rw [got_loop]
  simp only [l126_0, F126, Tryz.f126, sxAll, cA, arithA, Env.keep, lenA, ↓qAe, Nat.reduceBEq, ↓reduceIte, ty9, qBo, Int.reduceGT]
  (refine ⟨trivial, trivial, ?_⟩; first | rfl | trivial)
 | cons ch r ih =>
  intro hk a b c
  have hgt : (((ch :: r).length : Int) > 0) = True := by simp <;> omega
  have hgt' : (((r.length + 1 : Nat) : Int) > 0) = True := by simp <;> omega
  have hc := asciiHas_eq T o ch H ho
  have h1 : ((1 : Int) <= ((r.length + 1 : Nat) : Int)) = True := by simp <;> omega
  rw [got_loop, List.dropWhile_cons]
  cases ht : T ch.toNat with
  | true =>
   rw [ht] at hc
   have := ih (by simp at hk; omega)
   simp only [l126_0] at this ⊢
   simp only [F126, Tryz.f126, sxAll, cA, arithA, Env.keep, qt_eq, indexA, unA, Rv.part, TD.isAgg, lenA, optA, boundA, mapO, ↓qAe, Nat.reduceBEq, Int.reduceLT, Int.reduceLE, bne, ↓reduceIte, ty9, hgt', hc, pu144, sliceA, Int.reduceToNat, h1, List.take_length] at this ⊢
   exact this _ _ _
  | false =>
   rw [ht] at hc
   simp only [l126_0, F126, Tryz.f126, sxAll, cA, arithA, Env.keep, qt_eq, indexA, unA, Rv.part, TD.isAgg, lenA, mapO, ↓qAe, Nat.reduceBEq, Int.reduceLT, ↓reduceIte, ty9, hgt', hc, pu144, Int.reduceToNat]
   (refine ⟨trivial, trivial, ?_⟩; first | rfl | trivial)
theorem trimLA_eq (T : Nat -> Bool) (o : Nat) (H : Heap) (ho : H.obj o 0 = some (tabC T)) (s : List UInt8) (hs : s.length < 1000000000) : call cfg 126 [.str s, .ptr o 0 0] H = some (.ret (.str (s.dropWhile fun c => T c.toNat)), H) := by
 obtain ⟨⟨out, e', h'⟩, hx, ho, hh, h2⟩ := trimLA_loop T o H ho s hs (.str []) .junk .junk
 simp only at hx ho hh h2
 subst ho
 subst hh
 rw [call126]
 simp only [F126, k126, Tryz.f126, sxAll, cA, Env.keep, resultsA, packA, ↓qAe, Nat.reduceBEq, ↓reduceIte, hx, h2]
 exact leave_kept rfl rfl
theorem pu88 : cfg.pure 88 = true := rfl
instance t88 {d : Option Nat} : TightD cfg 88 d := ⟨fun _ _ => rfl⟩
def B88 (p : List Bool) := cA p Tryz.f88.body
def R88 (p : List Bool) (i : Nat) := Code.region i (cA p Tryz.f88.body) false
def D88 (p : List Bool) (i : Nat) := Code.region i (cA p Tryz.f88.body) true
theorem F88 : (∀ p i, XR cfg 88 (R88 p i) (B88 p) (cA p Tryz.f88.body).toList i false) /\ GO cfg 88 (B88 [tt, ff, ff]) 2 9 /\ GO cfg 88 (B88 [tt, tt, ff, ff]) 3 17 /\ XR cfg 88 (D88 [tt, tt, ff, tt, ff, ff] 4) (B88 [tt, tt, ff, tt, ff, ff]) (pickL (cA [tt, tt, ff, tt, ff, ff] Tryz.f88.body).toList [0, 1, 2, 4, 5, 3, 6, 7]) 4 true /\ RE cfg 88 [0, 1, 4, 5, 6, 12, 21, 34] /\ cfg.pure 88 = true := ⟨fun _ _ => xr rfl rfl, gO (by kernel_rfl), gO (by kernel_rfl), xd (by kernel_rfl) rfl rfl, rE fun _ => rfl, rfl⟩
def k88 : Code := (.seq (R88 [ff] 0) (.seq (.seq (R88 [tt, ff, ff] 1) (.cond (.tmp 12) (.seq (R88 [tt, ff, tt, ff, ff] 2) .ret) .skip)) (.seq (.seq (R88 [tt, tt, ff, ff] 3) (.cond (.tmp 21) (.seq (D88 [tt, tt, ff, tt, ff, ff] 4) .ret) .skip)) (.seq (.seq (R88 [tt, tt, tt, ff, ff] 5) (.seq (R88 [tt, tt, tt, ff, tt, ff] 6) (.cond (.tmp 34) (.seq (R88 [tt, tt, tt, ff, tt, tt, ff, ff] 7) .ret) .skip))) (.seq (R88 [tt, tt, tt, tt, ff] 8) .ret)))))
theorem call88 (x0 x1 : AV) (h : Heap) : call cfg 88 [x0, x1] h = (exec cfg 88 k88 [(0, x0), (1, x1)] h).bind (callEnd cfg 88 h [.tmp 4]) := call_at2 (fnat Tryz.func88 (b := k88) (by kernel_rfl) (by kernel_rfl)) rfl rfl
theorem trim_eq (s cs : List UInt8) (h : Heap) (hs : s.length < 1000000000) (hn : cs.length < 1000000000) (hc : ∀ c ∈ cs, c.toNat < 128) (h2 : 2 <= cs.length) :
  call cfg 88 [.str s, .str cs] h = some (.ret (.str (if s = [] then [] else (dropR (setOf (fun _ => false) cs) s).dropWhile fun c => setOf (fun _ => false) cs c.toNat)), h) := by
 rw [call88]
 have hm := fun h => makeASCII_eq cs hn h hc
 generalize setOf (fun _ => false) cs = T at hm
 by_cases h0 : s = []
 ·subst h0
  simp only [F88, k88, Tryz.f88, sxAll, cA, Env.keep, resultsA, packA, ↓qAe, Nat.reduceBEq, ↓reduceIte, binA_str_eql]
  exact leave_kept rfl rfl
 ·have b0 : (s == []) = false := by simp [h0]
  have b1 : (cs == []) = false := by cases cs <;> simp at h2 ⊢
  have b2 : ((cs.length : Int) == 1) = false := by simp; omega
  rw [if_neg h0]
  have hr := fun H o (ho : Heap.obj H o 0 = some (tabC T)) => trimRA_eq T o H ho s hs
  have hl := fun H o (ho : Heap.obj H o 0 = some (tabC T)) => trimLA_eq T o H ho (dropR T s) (by
   have : (dropR T s).length <= s.length := by
    simp only [dropR, List.length_reverse]
    exact Nat.le_trans (List.dropWhile_sublist _).length_le (by simp)
   omega)
  have hob : Heap.obj (h ++ [.cells (tabC T) 0, .cells (tabC T) 0]) (h.length + 1) 0 = some (tabC T) := by simp [Heap.obj]
  have hr' := hr _ _ hob
  have hl' := hl _ _ hob
  simp only [F88, k88, Tryz.f88, sxAll, cA, arithA, Env.keep, qt_eq, resultsA, packA, storeA, lenA, mapO, ↓qAe, Nat.reduceBEq, Nat.reduceAdd, Nat.reduceLeDiff, ↓reduceIte, binA_str_eql, b0, b1, b2, ty9, tyA, tabC_len, tabC_leaf, tabC_over, pu125, hm, pu127, pu126, hr', hl']
  exact leave_pure rfl (by simp) rfl
def letters : List UInt8 := [97, 98, 99, 100, 101, 102, 103, 104, 105, 106, 107, 108, 109, 110, 111, 112, 113, 114, 115, 116, 117, 118, 119, 120, 121, 122, 65, 66, 67, 68, 69, 70, 71, 72, 73, 74, 75, 76, 77, 78, 79, 80, 81, 82, 83, 84, 85, 86, 87, 88, 89, 90, 95, 48, 49, 50, 51, 52, 53, 54, 55, 56, 57]
def isLetter (c : UInt8) : Bool := setOf (fun _ => false) letters c.toNat
def words : List (List UInt8) := wordsOf.map fun s => s.toUTF8.data.toList
theorem wordCells_eq : wordCells = strL words := rfl
def isName (s : List UInt8) : Bool := !(s == []) && (!decide ((s.length : Int) > 32) && (!decide (s ∈ words) && (!(match s with | [] => false | c :: _ => decide ((c.toNat : Int) >= 48) && decide ((c.toNat : Int) <= 57)) && s.all isLetter)))
theorem dropWhile_nil {α : Type} {p : α -> Bool} : ∀ {l : List α}, l.dropWhile p = [] -> ∀ x ∈ l, p x = true
 | [], _, x, hx => by simp at hx
 | a :: r, h, x, hx => by
  rw [List.dropWhile_cons] at h
  cases ha : p a with
  | true =>
   rw [ha] at h
   rcases qAj.1 hx with rfl | hx
   ·exact ha
   ·exact dropWhile_nil h x hx
  | false => rw [ha] at h; cases h
theorem dropR_all (T : Nat -> Bool) : ∀ s : List UInt8, ((dropR T s).dropWhile fun c => T c.toNat) = [] ↔ s.all (fun c => T c.toNat) = true := by
 intro s
 have key : ∀ r : List UInt8, ((r.dropWhile fun c => T c.toNat).reverse.dropWhile fun c => T c.toNat) = [] ↔ r.all (fun c => T c.toNat) = true := by
  intro r
  induction r with
  | nil => simp
  | cons c r ih =>
   rw [List.dropWhile_cons]
   cases hc : T c.toNat with
   | true => simpa [hc] using ih
   | false =>
    simp only [qAb, if_false, List.reverse_cons, List.all_cons, hc, Bool.false_and, iff_false]
    intro h
    have := dropWhile_nil h c (by simp)
    rw [hc] at this; cases this
 rw [dropR, key, List.all_reverse]
theorem glob_words : cfg.glob 0 = some (.ref wordCells) := rfl
theorem pu60 : cfg.pure 60 = true := rfl
instance t60 {d : Option Nat} : TightD cfg 60 d := ⟨fun _ _ => rfl⟩
def B60 (p : List Bool) := cA p Tryz.f60.body
def R60 (p : List Bool) (i : Nat) := Code.region i (cA p Tryz.f60.body) false
theorem F60 : (∀ p i, XR cfg 60 (R60 p i) (B60 p) (cA p Tryz.f60.body).toList i false) /\ GO cfg 60 (B60 [tt, ff, ff]) 2 5 /\ GO cfg 60 (B60 [tt, ff, ff]) 7 10 /\ GO cfg 60 (B60 [tt, ff, ff]) 12 15 /\ GO cfg 60 (B60 [tt, ff, ff]) 16 19 /\ RE cfg 60 [0, 2, 24] /\ cfg.pure 60 = true := ⟨fun _ _ => xr rfl rfl, gO (by kernel_rfl), gO (by kernel_rfl), gO (by kernel_rfl), gO (by kernel_rfl), rE fun _ => rfl, rfl⟩
def k60 : Code := (.seq (R60 [ff] 0) (.seq (.seq (R60 [tt, ff, ff] 1) (.cond (.tmp 24) (.seq (R60 [tt, ff, tt, ff, ff] 2) .ret) .skip)) (.seq (R60 [tt, tt, ff] 3) .ret)))
theorem call60 (x0 : AV) (h : Heap) : call cfg 60 [x0] h = (exec cfg 60 k60 [(0, x0)] h).bind (callEnd cfg 60 h [.tmp 2]) := call_at2 (fnat Tryz.func60 (b := k60) (by kernel_rfl) (by kernel_rfl)) rfl rfl
theorem name_eq (s : List UInt8) (h : Heap) (hs : s.length < 1000000000) : call cfg 60 [.str s] h = some (.ret (.bool (isName s)), h) := by
 rw [call60]
 have hsl : sliceA cfg h 132 (.ref wordCells) none none none = some (.lst (strL words) 1 (.exact 15)) := by
  have hg : group 15 wordCells 1 = strL words := by rw [wordCells_eq]; exact group_plain (plain_strs words)
  have hl : wordCells.length = 15 := rfl
  simp [sliceA, ty132, ty9, boundA, hl, hg]
 have hcn := containsS_eq words s 1 (.exact 15) h (by decide)
 have ht := trim_eq s letters h hs (by decide) (by decide) (by decide)
 have hset : ∀ c, setOf (fun _ => false) letters c = setOf (fun _ => false) letters c := fun _ => rfl
 cases s with
 | nil =>
  simp only [F60, k60, Tryz.f60, sxAll, cA, Env.keep, resultsA, packA, ↓qAe, Nat.reduceBEq, ↓reduceIte, binA_str_eql]
  exact leave_kept rfl rfl
 | cons c r =>
  have e0 : ((c :: r) == []) = false := rfl
  have hB : isName (c :: r) = (!decide (((c :: r).length : Int) > 32) && (!decide ((c :: r) ∈ words) && (!(decide ((c.toNat : Int) >= 48) && decide ((c.toNat : Int) <= 57)) && (c :: r).all isLetter))) := by simp [isName]
  rw [hB]
  by_cases h1 : ((c :: r).length : Int) > 32
  ·have c1 : (((r.length + 1 : Nat) : Int) > 32) = True := by simp at h1 ⊢; omega
   simp only [F60, k60, Tryz.f60, sxAll, cA, arithA, Env.keep, resultsA, packA, lenA, ↓qAe, Nat.reduceBEq, ↓reduceIte, binA_str_eql, ty9, c1, e0]
   exact leave_kept rfl rfl
  have c1 : (((r.length + 1 : Nat) : Int) > 32) = False := by simp at h1 ⊢; omega
  by_cases h2 : (c :: r) ∈ words
  ·simp only [h2, decide_true] at hcn
   simp only [F60, k60, Tryz.f60, sxAll, cA, arithA, Env.keep, qt_eq, resultsA, packA, lenA, optA, mapO, ↓qAe, Nat.reduceBEq, ↓reduceIte, binA_str_eql, ty9, evalA_glob, glob_words, hsl, pu87, c1, e0, hcn, h2]
   exact leave_kept rfl rfl
  simp only [h2, decide_false] at hcn
  have hfin : (dropR (setOf (fun _ => false) letters) (c :: r)).dropWhile (fun c => setOf (fun _ => false) letters c.toNat) = [] ↔ (c :: r).all isLetter = true := dropR_all _ _
  have hbool : ((dropR (setOf (fun _ => false) letters) (c :: r)).dropWhile (fun c => setOf (fun _ => false) letters c.toNat) == []) = (c :: r).all isLetter := by
   rw [Bool.eq_iff_iff, ← hfin]; simp
  rw [if_neg (by simp)] at ht
  generalize hg : (dropR (setOf (fun _ => false) letters) (c :: r)).dropWhile (fun c => setOf (fun _ => false) letters c.toNat) = res at ht hbool
  generalize (c :: r).all isLetter = al at hbool ⊢
  simp only [letters] at ht
  by_cases h3 : (c.toNat : Int) >= 48
  ·by_cases h4 : (c.toNat : Int) <= 57
   ·simp only [F60, k60, Tryz.f60, sxAll, cA, arithA, Env.keep, qt_eq, resultsA, packA, indexA, Rv.part, TD.isAgg, lenA, optA, mapO, ↓qAe, Nat.reduceBEq, Int.reduceLT, ↓reduceIte, binA_str_eql, ty9, evalA_glob, glob_words, hsl, pu87, c1, e0, hcn, h2, h3, h4, Int.reduceToNat]
    exact leave_kept rfl rfl
   ·simp only [F60, k60, Tryz.f60, sxAll, cA, arithA, Env.keep, qt_eq, resultsA, packA, indexA, Rv.part, TD.isAgg, lenA, optA, mapO, ↓qAe, Nat.reduceBEq, Int.reduceLT, ↓reduceIte, binA_str_eql, ty9, evalA_glob, glob_words, hsl, pu87, pu88, c1, e0, hcn, h2, h3, h4, Int.reduceToNat, ht, hbool]
    exact leave_kept rfl rfl
  ·simp only [F60, k60, Tryz.f60, sxAll, cA, arithA, Env.keep, qt_eq, resultsA, packA, indexA, Rv.part, TD.isAgg, lenA, optA, mapO, ↓qAe, Nat.reduceBEq, Int.reduceLT, ↓reduceIte, binA_str_eql, ty9, evalA_glob, glob_words, hsl, pu87, pu88, c1, e0, hcn, h2, h3, Int.reduceToNat, ht, hbool]
   exact leave_kept rfl rfl
end
end Go.Proofs.Sx
namespace Go.Proofs.Sx
open Go.Rv Go.Proofs
attribute [local congr] bind_left got_left
noncomputable section
def thr : List SFun -> Nat -> List Int
 | [], _ => []
 | f :: r, i => (if f.thread then [(i : Int)] else []) ++ thr r (i + 1)
theorem pu26 : cfg.pure 26 = true := rfl
instance t26 {d : Option Nat} : TightD cfg 26 d := ⟨fun _ _ => rfl⟩
def B26 (p : List Bool) := cA p Tryz.f26.body
def R26 (p : List Bool) (i : Nat) := Code.region i (cA p Tryz.f26.body) false
theorem F26 : (∀ p i, XR cfg 26 (R26 p i) (B26 p) (cA p Tryz.f26.body).toList i false) /\ cfg.imm 26 1 = true /\ cfg.imm 26 18 = true /\ RE cfg 26 [0, 1, 2, 3, 4, 5, 7, 8, 9, 10, 15] /\ cfg.pure 26 = true := ⟨fun _ _ => xr rfl rfl, by kernel_rfl, by kernel_rfl, rE fun _ => rfl, rfl⟩
def l26_0 : Code := (.seq (R26 [tt, tt, ff, tt, ff, ff, ff] 3) (.seq (.cond (.tmp 10) .skip (.exit 0)) (.seq (.block 1 (.seq (R26 [tt, tt, ff, tt, ff, ff, tt, tt, ff, ff, ff] 4) (.seq (R26 [tt, tt, ff, tt, ff, ff, tt, tt, ff, ff, tt, ff] 5) (.cond (.tmp 15) (R26 [tt, tt, ff, tt, ff, ff, tt, tt, ff, ff, tt, tt, ff] 6) .skip)))) (R26 [tt, tt, ff, tt, ff, ff, tt, tt, tt] 7))))
def k26 : Code := (.seq (R26 [ff] 0) (.seq (R26 [tt, ff] 1) (.seq (.seq (R26 [tt, tt, ff, ff] 2) (.block 0 (.loop l26_0))) (.seq (R26 [tt, tt, tt, ff] 8) .ret))))
theorem call26 (x0 : AV) (h : Heap) : call cfg 26 [x0] h = (exec cfg 26 k26 [(0, x0)] h).bind (callEnd cfg 26 h [.tmp 2]) := call_at2 (fnat Tryz.func26 (b := k26) (by kernel_rfl) (by kernel_rfl)) rfl rfl
theorem intL_append (a b : List Int) : intL (a ++ b) = intL a ++ intL b := by simp [intL]
theorem threads_loop (l : List SFun) (hn : l.length < 100000000) (n : Nat) (h0 : Heap) (z : Nat) (r : Room) : ∀ (ys : List SFun) (i : Nat), l.drop i = ys -> i <= l.length -> ∀ (acc : List Int) v H, Own n h0 H v (intL acc) -> acc.length <= i -> ∀ a b c d e f g,
  Got (exec cfg 26 (.loop l26_0) [(0, a), (1, b), (2, c), (3, v), (4, d), (5, e), (7, .lst (funsL l) z r), (8, .int .i64 l.length), (9, .int .i64 i), (10, f), (15, g)] H)
   (fun q => q.1 = .exit 0 /\ Own n h0 q.2.2 (q.2.1.get 3) (intL (acc ++ thr ys i))) := by
 intro ys
 induction ys with
 | nil =>
  intro i hd hi acc v H O hacc a b c d e f g
  rw [got_loop]
  simp only [l26_0, F26, Tryz.f26, sxAll, cA, arithA, Env.keep, ↓qAe, Nat.reduceBEq, ↓reduceIte, at_end hd]
  exact ⟨trivial, by simpa [thr] using O⟩
 | cons y s ih =>
  intro i hd hi acc v H O hacc a b c d e f g
  obtain ⟨hlt, hget, hd'⟩ := at_drop hd
  have hx := funsL_get hget
  have hlt' : i < l.length := by simpa using hlt
  have hw := wrap_succ (i := i) (by omega)
  have hk := O.kn
  rw [got_loop]
  cases ht : y.thread with
  | true =>
   obtain ⟨v', H', ha, O'⟩ := (O.app [.cells y.cells 0]).push (plain_ints acc) (ys := [.int .i64 i]) (plain_ints [(i : Int)]) (by simp [mostLen, intL]; omega)
   have := ih (i + 1) hd' (by omega) (acc ++ [(i : Int)]) v' H' (by rw [intL_append]; exact O') (by simp; omega)
   simp only [SFun.cells, ht] at ha
   simp only [l26_0] at this ⊢
   simp only [thr, ht, SFun.cells, F26, Tryz.f26, sxAll, cA, arithA, Env.keep, qt_eq, storeA, indexAddrA, fieldAddrA, loadA, Rv.part, cellsAt, TD.isAgg, fillA, setCells, copies, ↓qAe, Nat.reduceBEq, Nat.reduceAdd, Nat.reduceMul, Nat.reduceLeDiff, Nat.reduceGT, bne, ↓reduceIte, hlt, ty24, ty39, ty27, ty3, ty4, hx, hw, hk, O'.kn, ha, elems, group] at this ⊢
   exact this _ _ _ _ _ _ _
  | false =>
   have := ih (i + 1) hd' (by omega) acc v (H ++ [.cells y.cells 0]) (O.app _) (by omega)
   simp only [l26_0] at this ⊢
   simp only [thr, ht, qAb, SFun.cells, F26, Tryz.f26, sxAll, cA, arithA, Env.keep, qt_eq, storeA, indexAddrA, fieldAddrA, loadA, Rv.part, cellsAt, TD.isAgg, setCells, ↓qAe, Nat.reduceBEq, Nat.reduceAdd, Nat.reduceLeDiff, ↓reduceIte, hlt, ty24, ty39, ty4, hx, hw] at this ⊢
   exact this _ _ _ _ _ _ _
theorem cthreads_eq (p : SProg) (h : Heap) (hp : p.wf) : ∃ z r, call cfg 26 [.agg p.cells] h = some (.ret (.lst (intL (thr p.funs 0)) z r), h) := by
 obtain ⟨⟨o, e', H'⟩, hx, ho, O⟩ := threads_loop p.funs hp.2.2.1 h.length h p.fz p.froom p.funs 0 (by simp) (by omega) [] (.lst [] 0 .nil) h (Own.nil h) (by simp) (.agg p.cells) (.ref p.cells) (.lst [] 0 .nil) .junk .junk .junk .junk
 simp only [qBo, qBq] at hx ho O
 subst ho
 have key : call cfg 26 [.agg p.cells] h = leaveA cfg 26 h (e'.get 3) H' := by
  rw [call26]
  simp only [SProg.cells] at hx
  simp only [SProg.cells, F26, k26, Tryz.f26, sxAll, cA, Env.keep, qt_eq, resultsA, packA, fieldAddrA, loadA, Rv.part, cellsAt, TD.isAgg, lenA, ↓qAe, Nat.reduceBEq, Nat.reduceAdd, ↓reduceIte, ty26, ty24, funsL_len, hx, O.kn]
 rw [key]
 rcases O.leave (plain_ints _) (C := cfg) (f := 26) rfl with ⟨h1, h2⟩ | h2
 ·rw [h2]
  have : intL (thr p.funs 0) = [] := h1
  rw [this]
  exact ⟨_, _, rfl⟩
 ·exact ⟨_, _, h2⟩
theorem pu47 : cfg.pure 47 = false := rfl
instance t47 {d : Option Nat} : TightD cfg 47 d := ⟨fun _ _ => rfl⟩
def B47 (p : List Bool) := cA p Tryz.f47.body
def R47 (p : List Bool) (i : Nat) := Code.region i (cA p Tryz.f47.body) false
theorem F47 : (∀ p i, XR cfg 47 (R47 p i) (B47 p) (cA p Tryz.f47.body).toList i false) /\ cfg.imm 47 5 = false /\ RE cfg 47 [0, 2, 4] /\ cfg.pure 47 = false := ⟨fun _ _ => xr rfl rfl, by kernel_rfl, rE fun _ => rfl, rfl⟩
def k47 : Code := (.seq (R47 [ff] 0) (.seq (.seq (R47 [tt, ff, ff] 1) (.cond (.tmp 4) (.seq (R47 [tt, ff, tt, ff, ff] 2) .ret) .skip)) (.seq (R47 [tt, tt, ff] 3) .ret)))
theorem call47 (x0 : AV) (h : Heap) : call cfg 47 [x0] h = (exec cfg 47 k47 [(0, x0)] h).bind (callEnd cfg 47 h [.tmp 2]) := call_at2 (fnat Tryz.func47 (b := k47) (by kernel_rfl) (by kernel_rfl)) rfl rfl
theorem cloneS_eq (H : Heap) (v : AV) (xs : List (List UInt8)) (B : Built H v (strL xs) 1) (hl : xs.length <= mostLen) : ∃ v' H', call cfg 47 [v] H = some (.ret v', H') /\ Own H.length H H' v' (strL xs) := by
 rcases B with ⟨rfl, hnil⟩ | ⟨o, g, cap, rfl, hob, hcap⟩
 ·refine ⟨.lst [] 0 .nil, H, ?_, by rw [hnil]; exact Own.nil H⟩
  rw [call47]
  simp only [F47, k47, Tryz.f47, sxAll, cA, Env.keep, resultsA, packA, ↓qAe, Nat.reduceBEq, ↓reduceIte, ty23, binA, eqC, eqA]
  exact leave_impure rfl
 ·have hlive := live_of hob
  have O0 : Own H.length H (H ++ [.cells [] 0]) (.msl H.length 0 0 1 0 (some 0)) [] :=
   ⟨.inr ⟨H.length, 0, some 0, rfl, by simp [Heap.obj, flatC], .inr rfl⟩, fun o ho => by simp only [objOf, qAf] at ho; omega, by simp, by simp⟩
  obtain ⟨v', H', ha, O'⟩ := O0.push (fun _ h => by simp at h) (plain_strs xs) (by simpa using hl)
  refine ⟨v', H', ?_, by simpa [strL] using O'⟩
  have he : elems (H ++ [.cells [] 0]) (.msl o 0 (strL xs).length 1 g cap) = some (strL xs) := elems_built (Built.app (.inr ⟨o, g, cap, rfl, hob, hcap⟩) _) (plain_strs xs)
  rw [call47]
  have ha' : appendA (H ++ [.cells [] 0]) 1 (.msl H.length 0 0 1 0 (some 0)) (strL xs) = some (v', H') := ha
  simp only [F47, k47, Tryz.f47, sxAll, cA, Env.keep, resultsA, packA, fillA, copies, ↓qAe, Nat.reduceBEq, Nat.reduceAdd, Nat.reduceGT, bne, ↓reduceIte, ty23, ty9, binA, eqC, eqA, hlive, Nat.zero_mul, he, ha', O'.kn]
  exact leave_impure rfl
end
end Go.Proofs.Sx
