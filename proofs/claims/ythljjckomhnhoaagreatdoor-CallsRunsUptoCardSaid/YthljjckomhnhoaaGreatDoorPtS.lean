/-
  package calls: what 'Of' answers.
-/
import Derived.Test.YthljjckomhnhoaaGreatDoorPtR
import Derived.Test.YthljjckomhnhoaaGreatDoorPtL
set_option linter.unusedSectionVars false
set_option linter.unusedSimpArgs false
set_option linter.unusedVariables false
set_option linter.defProp false
set_option maxHeartbeats 8000000
set_option maxHeartbeats 16000000
set_option maxRecDepth 100000
namespace Go.Proofs.Sx
open Go.Rv Go.Proofs
attribute [local congr] bind_left got_left
noncomputable section
def csP (p : SProg) : List (List Int) := p.funs.map calleesOf
def selfR (p : SProg) : Prop := ∃ k : Nat, k < p.funs.length /\ (k : Int) ∈ reachOf (csP p) p.funs.length (k : Int)
abbrev nils : List AV := [.lst [] 0 .nil, .lst [] 0 .nil, .lst [] 0 .nil, .lst [] 0 .nil, .lst [] 0 .nil]
def OfAns (p : SProg) (v : AV) : Prop :=
 (mayP p = false /\ v = .tup [.agg nils, .int .i64 4]) ∨ (mayP p = true /\ selfR p /\ v = .tup [.agg nils, .int .i64 67]) ∨
 (mayP p = true /\ ¬ selfR p /\ ∃ a0 a1 a2 a3 z r, v = .tup [.agg [a0, a1, a2, a3, .lst (intL (rowGo (csP p) p.funs.length p.funs.length [])) z r], .int .i64 0] /\
  IsLL a0 (csP p) /\ IsLL a1 (turnedL (csP p)) /\ IsLL a2 (reachLs (csP p) p.funs.length) /\ IsLL a3 (rootsGo p p.funs 0 (turnedL (reachLs (csP p) p.funs.length))) /\ (z = 1 ∨ rowGo (csP p) p.funs.length p.funs.length [] = []))
def Fits (p : SProg) : Prop := p.funs.length <= 300 /\ ∀ f ∈ p.funs, f.code.length <= 1000000 /\ ∀ i ∈ f.code, i.op = 10 -> 0 <= i.n /\ i.n < p.funs.length
theorem isort_mem {l : List Int} {x : Int} : x ∈ isort l ↔ x ∈ l := (isort_perm l).mem_iff
theorem calleesOf_rng {p : SProg} (hF : Fits p) {f : SFun} (hf : f ∈ p.funs) {j : Int} (hj : j ∈ calleesOf f) : 0 <= j /\ j < (p.funs.length : Int) := by
 have := isort_mem.1 hj
 exact calleeKeys_wf (P := fun j => 0 <= j /\ j < (p.funs.length : Int)) f.code [] (fun i hi ho => (hF.2 f hf).2 i hi ho) (fun k hk => by simp at hk) j this
theorem calleeKeys_nodup : ∀ (l : List SIns) (ks : List Int), ks.Nodup -> (calleeKeys l ks).Nodup
 | [], ks, h => h
 | i :: r, ks, h => by
  have e : calleeKeys (i :: r) ks = calleeKeys r (if i.op == 10 then addKey ks i.n else ks) := rfl
  rw [e]
  refine calleeKeys_nodup r _ ?_
  split
  ·unfold addKey
   split
   ·exact h
   ·rename_i hn
    rw [List.nodup_append]
    refine ⟨h, by simp, fun a ha b hb => ?_⟩
    rw [qAn.1 hb]; intro e; exact hn (e ▸ ha)
  ·exact h
theorem calleesOf_nodup (f : SFun) : (calleesOf f).Nodup := (isort_perm _).nodup_iff.2 (calleeKeys_nodup f.code [] (by simp))
theorem calleesOf_len {p : SProg} (hF : Fits p) {f : SFun} (hf : f ∈ p.funs) : (calleesOf f).length <= p.funs.length :=
 nodup_len (calleesOf_nodup f) fun x hx => calleesOf_rng hF hf hx
theorem csP_rng {p : SProg} (hF : Fits p) (k j : Int) (hj : j ∈ csOf (csP p) k) : 0 <= j /\ j < (p.funs.length : Int) := by
 rw [csOf, csP, qBp, qBc] at hj
 cases hg : p.funs[k.toNat]? with
 | none => rw [hg] at hj; simp at hj
 | some f => rw [hg] at hj; exact calleesOf_rng hF (qBj hg) hj
theorem csP_len {p : SProg} (hF : Fits p) : ∀ l ∈ csP p, l.length <= 1000 := fun l hl => by
 obtain ⟨f, hf, rfl⟩ := qBl.1 hl
 have := calleesOf_len hF hf
 have := hF.1
 omega
theorem reachLs_rng {CS : List (List Int)} {N : Nat} : ∀ l ∈ reachLs CS N, (∀ j ∈ l, 0 <= j /\ j < (N : Int)) /\ l.length <= N := fun l hl => by
 obtain ⟨k, _, rfl⟩ := qBl.1 hl
 have h : ∀ j ∈ reachOf CS N (k : Int), 0 <= j /\ j < (N : Int) := fun j hj => by
  obtain ⟨y, hy, rfl⟩ := qBl.1 (List.mem_filter.1 hj).1
  have := List.mem_range.1 hy
  constructor
  ·exact Int.natCast_nonneg y
  ·show ((y : Nat) : Int) < N
   omega
 exact ⟨h, nodup_len (reachOf_nodup CS N k) h⟩
theorem rootsGo_len (p : SProg) : ∀ (fs : List SFun) (i : Nat) (ls : List (List Int)), (rootsGo p fs i ls).length = ls.length
 | [], i, ls => rfl
 | f :: r, i, ls => by rw [rootsGo, rootsGo_len p r]; simp
theorem freeze_calls (H : Heap) (n : Nat) {v0 v1 v2 v3 v4 a0 a1 a2 a3 a4 : AV} (h0 : freezeV H n 38 v0 = some a0) (h1 : freezeV H n 38 v1 = some a1) (h2 : freezeV H n 38 v2 = some a2) (h3 : freezeV H n 38 v3 = some a3) (h4 : freezeV H n 38 v4 = some a4) :
  freezeV H n 40 (.tup [.agg [v0, v1, v2, v3, v4], .int .i64 0]) = some (.tup [.agg [a0, a1, a2, a3, a4], .int .i64 0]) := by
 show freezeV H n (38 + 1 + 1) _ = _
 simp only [freeze_tup, freeze_aggv, mapO_cons, mapO_nil, h0, h1, h2, h3, h4, qAe, qAo]
 rfl
theorem of_eq (p : SProg) (h : Heap) (hp : p.wf) (hF : mayP p = true -> Fits p) : ∃ v, call cfg 6 [.agg p.cells] h = some (.ret v, h) /\ OfAns p v := by
 have hmay : ∀ H, call cfg 16 [.agg p.cells] H = some (.ret (.bool (mayP p)), H) := fun H => may_eq p H hp
 cases hm : mayP p with
 | false =>
  refine ⟨_, ?_, .inl ⟨hm, rfl⟩⟩
  rw [hm] at hmay
  simp only [SProg.cells] at hmay
  rw [call6]
  simp only [SProg.cells, F6, k6, Tryz.f6, sxAll, cA, Env.keep, qt_eq, resultsA, packA, storeA, unA, loadA, Rv.part, cellsAt, TD.isAgg, buildA, fillA, setCells, mapO, ↓qAe, Nat.reduceBEq, Nat.reduceAdd, Nat.reduceLeDiff, ↓reduceIte, ty26, ty32, hmay, pu16]
  exact leave_pure rfl (by simp) rfl
 | true =>
  have F := hF hm
  obtain ⟨N, hN⟩ : ∃ N, N = p.funs.length := ⟨_, rfl⟩
  obtain ⟨CS, hCS⟩ : ∃ CS, CS = csP p := ⟨_, rfl⟩
  have hCN : CS.length = N := by rw [hCS, hN, csP, qBn]
  have hNb : N <= 300 := by rw [hN]; exact F.1
  have hrng : ∀ k j, j ∈ csOf CS k -> 0 <= j /\ j < (N : Int) := by rw [hCS, hN]; exact csP_rng F
  have hlen : ∀ l ∈ CS, l.length <= 1000 := by rw [hCS]; exact csP_len F
  have hrngl : ∀ l ∈ CS, ∀ j ∈ l, 0 <= j /\ j < (N : Int) := by
   rw [hCS, hN]; intro l hl j hj
   obtain ⟨f, hf, rfl⟩ := qBl.1 hl
   exact calleesOf_rng F hf hj
  have hmapC : (p.funs.map fun f => outL (calleesOf f)) = CS.map outL := by rw [hCS, csP, List.map_map]; rfl
  rw [hm] at hmay
  obtain ⟨H0, hH0⟩ : ∃ H0 : Heap, H0 = h ++ [.cells nils 0, .cells nils 0] := ⟨_, rfl⟩
  have hq00 : H0.obj h.length 0 = some nils := by rw [hH0]; simp [Heap.obj]
  have hq10 : H0.obj (h.length + 1) 0 = some nils := by rw [hH0]; simp [Heap.obj]
  have hH0l : H0.length = h.length + 2 := by rw [hH0]; simp
  have hH0t : ∀ o, o < h.length -> H0[o]? = h[o]? := fun o ho => by rw [hH0, qAx ho]
  have O0 : Ph (h.length + 1) H0 H0 [.lst [] 0 .nil, .lst [] 0 .nil, .lst [] 0 .nil, .lst [] 0 .nil, .lst [] 0 .nil] 0 (.lst [] 0 .nil) ((p.funs.take 0).map fun f => outL (calleesOf f)) :=
   ⟨fun _ _ _ => rfl, qAr _, hq10, rfl, .inl ⟨rfl, by simp⟩, fun o ho => (by cases ho), by omega⟩
  obtain ⟨⟨o1, e1, H1⟩, hx1, ho1, ⟨a6, a16, a17, he1⟩, v0, O1⟩ := of_loop0 p (by omega) F.2 H0 h.length (h.length + 1) p.funs 0 (by simp) (by omega) H0 _ O0 (.agg p.cells) (.int .i64 0) .junk .junk .junk (.bool false) .junk .junk .junk .junk .junk .junk .junk .junk .junk
  simp only [qBo] at hx1 ho1 he1 O1
  subst ho1 he1
  rw [hmapC] at O1
  have hlf : Leaf1 (CS.map outL) := leaf_outs CS (fun x => x)
  have hb0 : ∀ H', Same (h.length + 1) H1 H' -> Built H' v0 (CS.map outL) 1 := fun H' S => built_same O1.b (fun o ho => by have := O1.own o ho; omega) S
  have hrd0 : ∀ H', H'.take H1.length = H1 -> Rd cfg H' 30 27 v0 (CS.map outL) := fun H' ht => rd_leaf ty30 rfl ty27 rfl rfl (hb0 H' (same_take ht)) hlf
  have hkv0 := known_built O1.b
  have hcv0 := built_cells O1.b
  have hlv0 := built_leaf O1.b
  have hl1 := O1.le
  have hq01 : H1.obj h.length 0 = some nils := obj_keep hq00 (O1.same _ (by omega) (by omega))
  obtain ⟨H2, c1, ht1, L1⟩ := turned_eq CS N hCN H1 v0 hrd0 hNb hrngl hlen
  have hq12 : H2.obj (h.length + 1) 0 = some [v0, .lst [] 0 .nil, .lst [] 0 .nil, .lst [] 0 .nil, .lst [] 0 .nil] := obj_keep O1.cell (same_take (q := H2.length) L1.old _ (by omega) (by have := L1.le; omega))
  obtain ⟨v1, hv1⟩ : ∃ v1, v1 = AV.msl H1.length 0 N 1 0 (some N) := ⟨_, rfl⟩
  rw [← hv1] at ht1
  have hkv1 : known v1 = some v1 := by rw [hv1]; rfl
  have hcv1 : v1.cells = [v1] := by rw [hv1]; rfl
  have hlv1 : v1.leaf = true := by rw [hv1]; rfl
  obtain ⟨H3, hH3⟩ : ∃ H3 : Heap, H3 = H2.set (h.length + 1) (.cells [v0, v1, .lst [] 0 .nil, .lst [] 0 .nil, .lst [] 0 .nil] 0) := ⟨_, rfl⟩
  have hH2l := L1.le
  have hH3l : H3.length = H2.length := by rw [hH3]; simp
  have hq13 : H3.obj (h.length + 1) 0 = some [v0, v1, .lst [] 0 .nil, .lst [] 0 .nil, .lst [] 0 .nil] := by rw [hH3]; simp [Heap.obj, qAz (obj_some hq12)]
  have hS13 : Same (h.length + 1) H1 H3 := fun o ho hq => by
   rw [hH3, qAw (Ne.symm hq)]
   exact same_take (q := h.length + 1) L1.old o ho hq
  have hq03 : H3.obj h.length 0 = some nils := obj_keep hq01 (hS13 _ (by omega) (by omega))
  have hb3 : ∀ H', Same (h.length + 1) H3 H' -> Built H' v0 (CS.map outL) 1 := fun H' S => hb0 H' (hS13.trans (by omega) S)
  have O3 : Ph (h.length + 1) H3 H3 [v0, v1, .lst [] 0 .nil, .lst [] 0 .nil, .lst [] 0 .nil] 2 (.lst [] 0 .nil) ((List.range 0).map fun k : Nat => outL (reachOf CS N (k : Int))) :=
   ⟨fun _ _ _ => rfl, qAr _, hq13, rfl, .inl ⟨rfl, by simp⟩, fun o ho => (by cases ho), by omega⟩
  obtain ⟨⟨o4, e4, H4⟩, hx4, hq4⟩ := of_loop1 p CS N hCN hN.symm hNb hrng hlen H3 h.length (h.length + 1) v0 v1 hkv1 hb3 hq03 (by omega) N 0 (by omega) H3 _ O3 (fun k hk => by omega) (.agg p.cells) (.int .i64 0) a6 .junk .junk (.bool false) (.lst (funsL p.funs) p.fz p.froom) (.int .i64 N) a16 a17 .junk .junk .junk .junk .junk .junk
  simp only [qBo] at hx4 hq4
  have hH3o : ∀ o, o < h.length -> H3[o]? = h[o]? := fun o ho => by
   rw [hS13 o (by omega) (by omega), O1.same o (by omega) (by omega), hH0t o ho]
  rw [hH0] at hx1
  rw [hH3] at hx4
  simp only [SProg.cells, nils] at hmay hx1 hx4 hq01 hq03
  simp only [← hN] at hx1
  have hlq12 := live_of hq12
  have hlq11 := live_of O1.cell
  have hc11 := O1.cell
  have hc13 := hq13
  rw [hH3] at hc13
  have hlq13 := live_of hc13
  have hlen0 : lenA (h ++ [AObj.cells [.lst [] 0 .nil, .lst [] 0 .nil, .lst [] 0 .nil, .lst [] 0 .nil, .lst [] 0 .nil] 0, AObj.cells [.lst [] 0 .nil, .lst [] 0 .nil, .lst [] 0 .nil, .lst [] 0 .nil, .lst [] 0 .nil] 0]) (.slice 39) (.lst (funsL p.funs) p.fz p.froom) = some N := by rw [lenA_lst, funsL_len, hN]
  rcases hq4 with ⟨ho4, ⟨b7, b35, b36, b52, he4⟩, hno, v2, O4⟩ | ⟨ho4, hg2, hg3, ⟨k, hk1, hk2⟩, hobj4, hold4⟩
  ·subst ho4 he4
   obtain ⟨RS, hRS⟩ : ∃ RS, RS = reachLs CS N := ⟨_, rfl⟩
   rw [← hRS] at O4
   have hRN : RS.length = N := by rw [hRS, reachLs, qBn, List.length_range]
   have hRr : ∀ l ∈ RS, ∀ j ∈ l, 0 <= j /\ j < (N : Int) := by rw [hRS]; exact fun l hl => (reachLs_rng l hl).1
   have hRl : ∀ l ∈ RS, l.length <= 1000 := by rw [hRS]; intro l hl; have := (reachLs_rng l hl).2; omega
   have hb2 : ∀ H', Same (h.length + 1) H4 H' -> Built H' v2 (RS.map outL) 1 := fun H' S => built_same O4.b (fun o ho => by have := O4.own o ho; omega) S
   have hrd2 : ∀ H', H'.take H4.length = H4 -> Rd cfg H' 30 27 v2 (RS.map outL) := fun H' ht => rd_leaf ty30 rfl ty27 rfl rfl (hb2 H' (same_take ht)) (leaf_outs RS (fun x => x))
   have hkv2 := known_built O4.b
   have hcv2 := built_cells O4.b
   have hlv2 := built_leaf O4.b
   have hl4 := O4.le
   obtain ⟨H5, c5, ht5, L5⟩ := turned_eq RS N hRN H4 v2 hrd2 hNb hRr hRl
   have hH5l := L5.le
   have hq15 : H5.obj (h.length + 1) 0 = some [v0, v1, v2, .lst [] 0 .nil, .lst [] 0 .nil] := obj_keep O4.cell (same_take (q := H5.length) L5.old _ (by omega) (by omega))
   obtain ⟨m, hmm⟩ : ∃ m, m = H4.length := ⟨_, rfl⟩
   obtain ⟨v3, hv3⟩ : ∃ v3, v3 = AV.msl m 0 N 1 0 (some N) := ⟨_, rfl⟩
   rw [← hmm, ← hv3] at ht5
   have hkv3 : known v3 = some v3 := by rw [hv3]; rfl
   have hcv3 : v3.cells = [v3] := by rw [hv3]; rfl
   have hlv3 : v3.leaf = true := by rw [hv3]; rfl
   have V0 := L5.vv (q := h.length + 1) (by omega) (.cells [v0, v1, v2, v3, .lst [] 0 .nil] 0)
   obtain ⟨Hb, hHb⟩ : ∃ Hb : Heap, Hb = H4.set (h.length + 1) (.cells [v0, v1, v2, v3, .lst [] 0 .nil] 0) := ⟨_, rfl⟩
   have hbl : Hb.length = m := by rw [hHb, List.length_set, hmm]
   have hqb : Hb.obj (h.length + 1) 0 = some [v0, v1, v2, .msl Hb.length 0 N 1 0 (some N), .lst [] 0 .nil] := by
    rw [hbl, ← hv3, hHb]; simp [Heap.obj, qAz (obj_some O4.cell)]
   rw [← hHb] at V0
   have hbig : ∀ k xs, 0 <= k -> (turnedL RS)[k]? = some xs -> xs.length < 1000000 /\ ∀ j ∈ xs, 0 <= j /\ j < (N : Int) := fun k xs _ hx => by
    have hm' := qBj hx
    have h1 := turnedL_bound RS hRl hm'
    rw [hRN] at h1
    refine ⟨by omega, fun j hj => ?_⟩
    have := turnedL_mem RS hm' hj
    rwa [hRN] at this
   obtain ⟨⟨o7, e7, H7⟩, hx7, ho7, ⟨b8, b62, b63, b81, he7⟩, c7, V7⟩ := of_loop2 p N hN.symm hNb Hb h.length (h.length + 1) [] v0 v1 v2 (.lst [] 0 .nil) hqb p.funs 0 (by simp) (by omega) _ c5 (turnedL RS) V0 (by rw [turnedL_len, hRN]) hbig (.agg p.cells) (.int .i64 0) a6 b7 .junk (.bool false) (.lst (funsL p.funs) p.fz p.froom) (.int .i64 N) a16 a17 (.int .i64 N) b35 b36 b52 .junk .junk
   simp only [qBo] at hx7 ho7 he7 V7
   subst ho7 he7
   have hl7 := V7.le
   have hq17 : H7.obj (h.length + 1) 0 = some [v0, v1, v2, v3, .lst [] 0 .nil] := by
    rw [hv3, ← hbl]
    exact obj_keep hqb (same_take (q := H7.length) V7.old _ (by omega) (by omega))
   have hSA : ∀ o, o < h.length ∨ h.length + 2 <= o -> o < m -> H7[o]? = H4[o]? := fun o ho hlt => by
    rw [same_take (q := H7.length) V7.old o (by omega) (by omega), hHb, qAw (by omega)]
   have hS34 : ∀ o, o < H3.length -> o ≠ h.length + 1 -> H4[o]? = H3[o]? := O4.same
   have hq07 : H7.obj h.length 0 = some nils := by
    refine obj_keep (obj_keep hq03 (hS34 _ (by omega) (by omega))) ?_
    rw [same_take (q := H7.length) V7.old _ (by omega) (by omega), hHb, qAw (by omega)]
   have hB7 : ∀ H', Same (h.length + 1) H7 H' -> Same (h.length + 1) H1 H' := fun H' S o ho hq => by
    rw [S o (by omega) hq]
    rw [same_take (q := H7.length) V7.old _ (by omega) (by omega), hHb, qAw (Ne.symm hq), hS34 o (by omega) hq, hS13 o ho hq]
   have hrd7 : ∀ H', H'.take H7.length = H7 -> Rd cfg H' 30 27 v0 (CS.map outL) := fun H' ht => rd_leaf ty30 rfl ty27 rfl rfl (hb0 H' (hB7 H' (same_take ht))) hlf
   obtain ⟨z4, r4, hrow, hz4⟩ := row_eq CS N hCN H7 v0 [v1, v2, v3, .lst [] 0 .nil] hrd7 (by omega) hlen rfl (fun out => out.Nodup /\ ∀ x ∈ out, 0 <= x /\ x < (N : Int)) ⟨by simp, by simp⟩ (fun out hg hl => by
    obtain ⟨n, h1, h2, h3⟩ := pickR_some CS out (List.range N) (pick_ex CS N hrng hno out hl)
    refine ⟨n, h1, ?_, ?_⟩
    ·rw [List.nodup_append]
     refine ⟨hg.1, by simp, fun a ha b hb => ?_⟩
     rw [qAn.1 hb]; intro e; subst e
     simp [ready, ha] at h3
    ·intro x hx
     rcases qAp.1 hx with hx | hx
     ·exact hg.2 x hx
     ·rw [qAn.1 hx]
      have := List.mem_range.1 h2
      omega)
   obtain ⟨ro, hro⟩ : ∃ ro, ro = rowGo CS N N [] := ⟨_, rfl⟩
   rw [← hro] at hrow
   obtain ⟨v4, hv4⟩ : ∃ v4, v4 = AV.lst (intL ro) z4 r4 := ⟨_, rfl⟩
   rw [← hv4] at hrow
   have hkv4 : known v4 = some v4 := by rw [hv4]; rfl
   have hcv4 : v4.cells = [v4] := by rw [hv4]; rfl
   have hlv4 : v4.leaf = true := by rw [hv4]; rfl
   obtain ⟨H8, hH8⟩ : ∃ H8 : Heap, H8 = H7.set (h.length + 1) (.cells [v0, v1, v2, v3, v4] 0) := ⟨_, rfl⟩
   obtain ⟨H9, hH9⟩ : ∃ H9 : Heap, H9 = H8.set h.length (.cells [v0, v1, v2, v3, v4] 0) := ⟨_, rfl⟩
   have hq18 : H8.obj (h.length + 1) 0 = some [v0, v1, v2, v3, v4] := by rw [hH8]; simp [Heap.obj, qAz (obj_some hq17)]
   have hq08 : H8.obj h.length 0 = some nils := by rw [hH8]; exact obj_keep hq07 (by rw [qAw (by omega)])
   have hq09 : H9.obj h.length 0 = some [v0, v1, v2, v3, v4] := by rw [hH9]; simp [Heap.obj, qAz (obj_some hq08)]
   have key : call cfg 6 [.agg p.cells] h = leaveA cfg 6 h (.tup [.agg [v0, v1, v2, v3, v4], .int .i64 0]) H9 := by
    have hlq14 := live_of O4.cell
    have hc14 := O4.cell
    have hlq15 := live_of hq15
    have hc56 : Heap.obj (H5.set (h.length + 1) (.cells [v0, v1, v2, v3, .lst [] 0 .nil] 0)) (h.length + 1) 0 = some [v0, v1, v2, v3, .lst [] 0 .nil] := by simp [Heap.obj, qAz (obj_some hq15)]
    have hlq56 := live_of hc56
    have hlen3 : lenA (H5.set (h.length + 1) (.cells [v0, v1, v2, v3, .lst [] 0 .nil] 0)) (.slice 27) v3 = some N := by
     have := live_of V0.cell
     rw [hbl] at this
     rw [hv3]
     rw [hv3] at this
     simp only [lenA, this, if_true]
    have hlq17 := live_of hq17
    rw [hH8] at hq18 hq08 hH9
    have hlq18 := live_of hq18
    have hlq08 := live_of hq08
    rw [hH9] at hq09 ⊢
    simp only [SProg.cells] at hx7
    simp only [nils] at hq08
    rw [call6]
    simp only [SProg.cells, F6, k6, Tryz.f6, sxAll, cA, Env.keep, qt_eq, resultsA, packA, storeA, unA, fieldAddrA, Rv.part, TD.isAgg, setCells, mapO, ↓qAe, Nat.reduceBEq, Nat.reduceAdd, Nat.reduceLeDiff, ↓reduceIte, load_ptr, load_ref, lenA_lst, funsL_len, ty26, ty24, ty30, ty27, ty32, ← hN, hmay, pu16, hx1, hc11, hlq11, hkv0, hlv0, ht1, hkv1, hcv1, hlv1, hq12, hlq12, hx4, hc14, hlq14, ht5, hkv2, hlv2, hkv3, hcv3, hlv3, hq15, hlq15, hc56, hlq56, hlen3, hx7, hq17, hlq17, hrow, pu23, hkv4, hcv4, hlv4, hq18, hq08, hq09]
   have hS9 : ∀ o, h.length + 2 <= o -> H9[o]? = H7[o]? := fun o ho => by
    rw [hH9, qAw (by omega), hH8, qAw (by omega)]
   have hS47 : ∀ o, h.length + 2 <= o -> o < H4.length -> H9[o]? = H4[o]? := fun o ho hlt => by
    rw [hS9 o ho, hSA o (.inr ho) (by omega)]
   have hS39 : ∀ o, h.length + 2 <= o -> o < H3.length -> H9[o]? = H3[o]? := fun o ho hlt => by
    rw [hS47 o ho (by omega), hS34 o hlt (by omega)]
   have hS29 : ∀ o, h.length + 2 <= o -> o < H2.length -> H9[o]? = H2[o]? := fun o ho hlt => by
    rw [hS39 o ho (by omega), hH3, qAw (by omega)]
   obtain ⟨b0, f0, g0⟩ : ∃ a, freezeV H9 h.length 38 v0 = some a /\ IsLL a CS :=
    freeze_built_outs (d := 35) (O1.b.other fun o ho => by
     have h1 := O1.own o ho
     have h2 := built_lt O1.b ho
     rw [hS39 o (by omega) (by omega), hS13 o h2 (by omega)]) (fun o ho => by have := O1.own o ho; omega)
   obtain ⟨b1, f1, g1⟩ : ∃ a, freezeV H9 h.length 38 v1 = some a /\ IsLL a (turnedL CS) := by
    rw [hv1]
    refine freeze_vv (d := 35) (cells := c1) (obj_keep L1.cell (hS29 _ (by omega) (by omega))) L1.len (by rw [turnedL_len, hCN]) (by omega) fun k v xs hv hx => ?_
    refine View.freeze (d := 35) (Built.view ((L1.each k v xs hv hx).other fun o ho => ?_)) (fun o ho => by have := L1.own k v o hv ho; omega)
    have h1 := L1.own k v o hv ho
    have h2 := built_lt (L1.each k v xs hv hx) ho
    exact hS29 o (by omega) h2
   obtain ⟨b2, f2, g2⟩ : ∃ a, freezeV H9 h.length 38 v2 = some a /\ IsLL a RS :=
    freeze_built_outs (d := 35) (O4.b.other fun o ho => by
     have h1 := O4.own o ho
     have h2 := built_lt O4.b ho
     exact hS47 o (by omega) h2) (fun o ho => by have := O4.own o ho; omega)
   obtain ⟨b3, f3, g3⟩ : ∃ a, freezeV H9 h.length 38 v3 = some a /\ IsLL a (rootsGo p p.funs 0 (turnedL RS)) := by
    rw [hv3, ← hbl]
    have hrl : (rootsGo p p.funs 0 (turnedL RS)).length = N := by
     rw [rootsGo_len, turnedL_len, hRN]
    refine freeze_vv (d := 35) (cells := c7) (obj_keep V7.cell (hS9 _ (by omega))) V7.len hrl (by omega) fun k v xs hv hx => ?_
    refine View.freeze (d := 35) ((V7.each k v xs hv hx).other fun o ho => ?_) (fun o ho => by have := V7.own k v o hv ho; omega)
    have h1 := V7.own k v o hv ho
    exact hS9 o (by omega)
   have f4 : freezeV H9 h.length 38 v4 = some v4 := by rw [hv4]; exact freeze_lint H9 h.length 36 ro z4 r4
   refine ⟨_, ?_, .inr (.inr ⟨hm, ?_, b0, b1, b2, b3, z4, r4, rfl, ?_, ?_, ?_, ?_, ?_⟩)⟩
   ·rw [key]
    refine leave_pure rfl ?_ ?_
    ·apply qBk
     intro o
     by_cases ho : o < h.length
     ·rw [qBa ho, hH9, qAw (by omega), hH8, qAw (by omega), hSA o (.inl ho) (by omega), hS34 o (by omega) (by omega), hH3o o ho]
     ·rw [qAt (by simp; omega), qAt (by omega)]
    ·rw [freeze_calls H9 h.length f0 f1 f2 f3 f4, hv4, hro, hCS, hN]
   ·rintro ⟨k, hk1, hk2⟩
    rw [← hN] at hk1 hk2
    rw [← hCS] at hk2
    exact hno k hk1 hk2
   ·rw [← hCS]; exact g0
   ·rw [← hCS]; exact g1
   ·rw [← hCS, ← hN, ← hRS]; exact g2
   ·rw [← hCS, ← hN, ← hRS]; exact g3
   ·rw [← hCS, ← hN]; exact hz4
  ·refine ⟨_, ?_, .inr (.inl ⟨hm, ⟨k, by rw [← hN]; exact hk1, by rw [← hCS, ← hN]; exact hk2⟩, rfl⟩)⟩
   subst ho4
   rw [call6]
   simp only [SProg.cells, F6, k6, Tryz.f6, sxAll, cA, Env.keep, qt_eq, resultsA, packA, storeA, unA, fieldAddrA, Rv.part, TD.isAgg, setCells, mapO, ↓qAe, Nat.reduceBEq, Nat.reduceAdd, Nat.reduceLeDiff, ↓reduceIte, load_ptr, load_ref, lenA_lst, funsL_len, ty26, ty24, ty30, ty32, ← hN, hmay, pu16, hx1, hc11, hlq11, hkv0, ht1, hkv1, hcv1, hlv1, hq12, hlq12, hx4, hg2, hg3, hobj4]
   exact leave_pure rfl (by
    apply qBk
    intro o
    by_cases ho : o < h.length
    ·rw [qBa ho, hold4 o ho, hH3o o ho]
    ·rw [qAt (by simp; omega), qAt (by omega)]) rfl
end
end Go.Proofs.Sx
namespace Go.Proofs.Sx
open Go.Rv Go.Proofs
noncomputable section
theorem mayIns_call {p : SProg} {f : SFun} {i : SIns} (h : mayInsB p f i = true) (ho : i.op = 10) : 0 <= i.n /\ i.n < p.funs.length /\ thrB p i.n = false := by
 unfold mayInsB at h
 rw [qAa, qAa] at h
 have h1 := h.1.2
 rw [ho] at h1
 have h2 : (decide (0 <= i.n) && (match p.funs[i.n.toNat]? with
  | some g => !g.thread && decide ((i.args.length : Int) = g.params)
  | none => false)) = true := h1
 rw [qAa, decide_eq_true_eq] at h2
 obtain ⟨h2, h3⟩ := h2
 cases hg : p.funs[i.n.toNat]? with
 | none => rw [hg] at h3; cases h3
 | some g =>
  rw [hg] at h3
  have := (qAu.1 hg).1
  simp only [qAa, qBh] at h3
  exact ⟨h2, by omega, by simp only [thrB, hg, h3.1]⟩
theorem mayFun_code {p : SProg} {f : SFun} (h : mayFunB p f = true) : f.code.length <= 16384 /\ ∀ i ∈ f.code, mayInsB p f i = true := by
 unfold mayFunB at h
 simp only [qAa, qBh, decide_eq_false_iff_not, qBd] at h
 obtain ⟨_, _, _, _, _, _, h7, _, h9⟩ := h
 exact ⟨by omega, h9⟩
theorem may_funs {p : SProg} (h : mayP p = true) : p.funs.length <= 256 /\ ∀ f ∈ p.funs, mayFunB p f = true := by
 unfold mayP at h
 simp only [qAa, qBd] at h
 obtain ⟨h1, _, _, h4⟩ := h
 refine ⟨?_, h4⟩
 unfold namedB at h1
 simp only [qAa, decide_eq_true_eq] at h1
 have := h1.1
 simp only [namesOf, qBb, qBn] at this
 omega
theorem fits_may {p : SProg} (h : mayP p = true) : Fits p := by
 obtain ⟨h1, h2⟩ := may_funs h
 refine ⟨by omega, fun f hf => ?_⟩
 obtain ⟨h3, h4⟩ := mayFun_code (h2 f hf)
 exact ⟨by omega, fun i hi ho => by have := mayIns_call (h4 i hi) ho; exact ⟨this.1, this.2.1⟩⟩
theorem callsOf_eq (p : SProg) (h : Heap) (hp : p.wf) : ∃ v, call cfg 6 [.agg p.cells] h = some (.ret v, h) /\ OfAns p v := of_eq p h hp fits_may
end
end Go.Proofs.Sx
namespace Go.Proofs.Sx
open Go.Rv Go.Proofs
noncomputable section
theorem getD_set_self {ls : List (List Int)} {k : Nat} (hk : k < ls.length) (v : List Int) : (ls.set k v).getD k [] = v := by
 rw [qBp, qAz hk]; rfl
theorem getD_set_ne {ls : List (List Int)} {k b : Nat} (h : k ≠ b) (v : List Int) : (ls.set k v).getD b [] = ls.getD b [] := by
 rw [qBp, qAw h, qBp]
theorem addTo_get (n : Int) (b : Nat) (j : Int) : ∀ (x : List Int) (ls : List (List Int)), (∀ k ∈ x, 0 <= k) -> b < ls.length -> (j ∈ (addTo ls n x).getD b [] ↔ j ∈ ls.getD b [] ∨ (j = n /\ (b : Int) ∈ x))
 | [], ls, _, hb => by simp [addTo]
 | k :: r, ls, hx, hb => by
  have hk := hx k (qAi ..)
  rw [addTo, addTo_get n b j r _ (fun y hy => hx y (qAk _ hy)) (by simpa using hb)]
  by_cases he : k.toNat = b
  ·subst he
   rw [getD_set_self hb]
   have e1 : ((k.toNat : Nat) : Int) = k := by omega
   rw [e1]
   constructor
   ·rintro (h | ⟨h1, h2⟩)
    ·rcases qAp.1 h with h | h
     ·exact .inl h
     ·exact .inr ⟨qAn.1 h, qAi ..⟩
    ·exact .inr ⟨h1, qAk _ h2⟩
   ·rintro (h | ⟨h1, h2⟩)
    ·exact .inl (List.mem_append_left _ h)
    ·exact .inl (List.mem_append_right _ (qAn.2 h1))
  ·rw [getD_set_ne he]
   constructor
   ·rintro (h | ⟨h1, h2⟩)
    ·exact .inl h
    ·exact .inr ⟨h1, qAk _ h2⟩
   ·rintro (h | ⟨h1, h2⟩)
    ·exact .inl h
    ·rcases qAj.1 h2 with h2 | h2
     ·exact absurd (by rw [← h2]; simp) he
     ·exact .inr ⟨h1, h2⟩
theorem turnGo_get (b : Nat) (j : Int) : ∀ (CS : List (List Int)) (i : Nat) (ls : List (List Int)), (∀ x ∈ CS, ∀ k ∈ x, 0 <= k) -> b < ls.length -> (j ∈ (turnGo CS i ls).getD b [] ↔ j ∈ ls.getD b [] ∨ ∃ (m : Nat) (x : List Int), CS[m]? = some x /\ j = ((i + m : Nat) : Int) /\ (b : Int) ∈ x)
 | [], i, ls, _, hb => by simp [turnGo]
 | x :: r, i, ls, hx, hb => by
  rw [turnGo, turnGo_get b j r (i + 1) _ (fun y hy => hx y (qAk _ hy)) (by rw [addTo_len]; exact hb), addTo_get (i : Int) b j x ls (hx x (qAi ..)) hb]
  constructor
  ·rintro ((h | ⟨h1, h2⟩) | ⟨m, y, h1, h2, h3⟩)
   ·exact .inl h
   ·exact .inr ⟨0, x, rfl, h1, h2⟩
   ·exact .inr ⟨m + 1, y, by simpa using h1, by rw [h2]; omega, h3⟩
  ·rintro (h | ⟨m, y, h1, h2, h3⟩)
   ·exact .inl (.inl h)
   ·cases m with
    | zero =>
     simp at h1; subst h1
     exact .inl (.inr ⟨h2, h3⟩)
    | succ m => exact .inr ⟨m, y, by simpa using h1, by rw [h2]; omega, h3⟩
theorem turnedL_get (CS : List (List Int)) (hx : ∀ x ∈ CS, ∀ k ∈ x, 0 <= k) {b : Nat} (hb : b < CS.length) (j : Int) : j ∈ (turnedL CS).getD b [] ↔ ∃ (m : Nat) (x : List Int), CS[m]? = some x /\ j = (m : Int) /\ (b : Int) ∈ x := by
 rw [turnedL, turnGo_get b j CS 0 _ hx (by simpa using hb)]
 have h0 : (List.replicate CS.length ([] : List Int)).getD b [] = [] := by
  rw [qBp, List.getElem?_replicate]; split <;> rfl
 rw [h0]
 constructor
 ·rintro (h | ⟨m, x, h1, h2, h3⟩)
  ·simp at h
  ·exact ⟨m, x, h1, by simpa using h2, h3⟩
 ·rintro ⟨m, x, h1, h2, h3⟩
  exact .inr ⟨m, x, h1, by simpa using h2, h3⟩
theorem rootsGo_low (p : SProg) : ∀ (fs : List SFun) (i : Nat) (ls : List (List Int)) (a : Nat), a < i -> (rootsGo p fs i ls).getD a [] = ls.getD a []
 | [], i, ls, a, _ => rfl
 | f :: r, i, ls, a, h => by rw [rootsGo, rootsGo_low p r (i + 1) _ a (by omega), getD_set_ne (by omega)]
theorem rootsGo_get (p : SProg) : ∀ (fs : List SFun) (i : Nat) (ls : List (List Int)) (a : Nat) (f : SFun), fs[a]? = some f -> i + fs.length <= ls.length -> (rootsGo p fs i ls).getD (i + a) [] = if f.thread then [((i + a : Nat) : Int)] else (ls.getD (i + a) []).filter (thrB p)
 | [], i, ls, a, f, h, _ => by simp at h
 | g :: r, i, ls, a, f, h, hl => by
  rw [rootsGo]
  simp only [qAv] at hl
  cases a with
  | zero =>
   simp at h; subst h
   show (rootsGo p r (i + 1) (ls.set i (if g.thread then [(i : Int)] else (ls.getD i []).filter (thrB p)))).getD i [] = if g.thread then [(i : Int)] else (ls.getD i []).filter (thrB p)
   rw [rootsGo_low p r (i + 1) _ i (by omega), getD_set_self (by omega)]
  | succ a =>
   have := rootsGo_get p r (i + 1) (ls.set i (if g.thread then [(i : Int)] else (ls.getD i []).filter (thrB p))) a f (by simpa using h) (by simp; omega)
   rw [show i + (a + 1) = i + 1 + a from by omega, this, getD_set_ne (by omega)]
theorem rowGo_len (CS : List (List Int)) (N : Nat) (Good : List Int -> Prop) (hp : ∀ out, Good out -> out.length < N -> ∃ n, pickR CS out (List.range N) = some n /\ Good (out ++ [(n : Int)])) : ∀ (d : Nat) (out : List Int), Good out -> out.length + d <= N -> (rowGo CS N d out).length = out.length + d
 | 0, out, _, _ => rfl
 | d + 1, out, hg, hl => by
  obtain ⟨n, h1, h2⟩ := hp out hg (by omega)
  rw [rowGo, h1]
  simp only
  rw [rowGo_len CS N Good hp d _ h2 (by simp; omega)]
  simp; omega
theorem row_len (CS : List (List Int)) (N : Nat) (hrng : ∀ k j, j ∈ csOf CS k -> 0 <= j /\ j < (N : Int)) (hno : ∀ k : Nat, k < N -> (k : Int) ∉ reachOf CS N (k : Int)) : (rowGo CS N N []).length = N := by
 have := rowGo_len CS N (fun out => True) (fun out _ hl => by
  obtain ⟨n, h1, h2, h3⟩ := pickR_some CS out (List.range N) (pick_ex CS N hrng hno out hl)
  exact ⟨n, h1, trivial⟩) N [] trivial (by simp)
 simpa using this
theorem reachLs_get (CS : List (List Int)) (N : Nat) {a : Nat} (ha : a < N) : (reachLs CS N).getD a [] = reachOf CS N (a : Int) := by
 rw [reachLs, qBp, qBc, List.getElem?_range ha]; rfl
theorem csP_thr {p : SProg} (hm : mayP p = true) {k j : Int} (hj : j ∈ csOf (csP p) k) : thrB p j = false := by
 rw [csOf, csP, qBp, qBc] at hj
 cases hg : p.funs[k.toNat]? with
 | none => rw [hg] at hj; simp at hj
 | some f =>
  rw [hg] at hj
  have hf := qBj hg
  have h4 := (mayFun_code ((may_funs hm).2 f hf)).2
  exact calleeKeys_wf (P := fun j => thrB p j = false) f.code [] (fun i hi ho => (mayIns_call (h4 i hi) ho).2.2) (fun k hk => by simp at hk) j (isort_mem.1 hj)
theorem rch_thr {p : SProg} (hm : mayP p = true) {k j : Int} (h : Rch (csP p) k j) : thrB p j = false := by
 induction h with
 | one h => exact csP_thr hm h
 | step _ _ ih => exact ih
theorem back_roots {p : SProg} (hm : mayP p = true) {a b : Nat} (ha : a < p.funs.length) (hb : b < p.funs.length) :
  (b : Int) ∈ (rootsGo p p.funs 0 (turnedL (reachLs (csP p) p.funs.length))).getD a [] ↔ thrB p (b : Int) = true /\ (a = b ∨ (a : Int) ∈ reachOf (csP p) p.funs.length (b : Int)) := by
 have F := fits_may hm
 have hget : p.funs[a]? = some p.funs[a] := qAs ha
 have hRl : (reachLs (csP p) p.funs.length).length = p.funs.length := by rw [reachLs, qBn, List.length_range]
 have h := rootsGo_get p p.funs 0 (turnedL (reachLs (csP p) p.funs.length)) a _ hget (by rw [turnedL_len, hRl]; omega)
 rw [qBg] at h
 rw [h]
 have hta : thrB p (a : Int) = p.funs[a].thread := by rw [thrB, Int.toNat_natCast, hget]
 cases ht : p.funs[a].thread with
 | true =>
  simp only [if_true, qAn]
  constructor
  ·intro e
   have : b = a := by omega
   subst this
   exact ⟨by rw [hta, ht], .inl rfl⟩
  ·rintro ⟨_, h | h⟩
   ·omega
   ·have := rch_thr hm ((reachOf_mem _ _ _ _ (csP_rng F)).1 h)
    rw [hta, ht] at this
    cases this
 | false =>
  simp only [qAb, if_false, List.mem_filter]
  rw [turnedL_get _ (fun x hx k hk => ((reachLs_rng x hx).1 k hk).1) (by omega)]
  constructor
  ·rintro ⟨⟨m, x, h1, h2, h3⟩, h4⟩
   have : m = b := by omega
   subst this
   refine ⟨h4, .inr ?_⟩
   have := reachLs_get (csP p) p.funs.length hb
   rw [qBp, h1] at this
   rw [← this]; exact h3
  ·rintro ⟨h1, h2 | h2⟩
   ·subst h2
    rw [hta, ht] at h1; cases h1
   ·refine ⟨⟨b, reachOf (csP p) p.funs.length (b : Int), ?_, rfl, h2⟩, h1⟩
    rw [reachLs, qBc, List.getElem?_range hb]; rfl
end
end Go.Proofs.Sx
namespace Go.Proofs.Sx
open Go.Rv Go.Proofs
attribute [local congr] bind_left got_left
noncomputable section
theorem pu7 : cfg.pure 7 = true := rfl
instance t7 {d : Option Nat} : TightD cfg 7 d := ⟨fun _ _ => rfl⟩
def B7 (p : List Bool) := cA p Tryz.f7.body
def R7 (p : List Bool) (i : Nat) := Code.region i (cA p Tryz.f7.body) false
theorem F7 : (∀ p i, XR cfg 7 (R7 p i) (B7 p) (cA p Tryz.f7.body).toList i false) /\ RE cfg 7 [0, 1, 4, 5, 9, 17] /\ cfg.pure 7 = true := ⟨fun _ _ => xr rfl rfl, rE fun _ => rfl, rfl⟩
def l7_0 : Code := (.seq (.seq (R7 [tt, ff, tt, ff, ff, ff, ff] 2) (.cond (.tmp 9) .skip (.exit 0))) (.seq (.block 1 (.seq (R7 [tt, ff, tt, ff, ff, tt, ff, ff, ff] 4) (.cond (.tmp 17) (.seq (R7 [tt, ff, tt, ff, ff, tt, ff, ff, tt, ff, ff] 5) .ret) .skip))) (R7 [tt, ff, tt, ff, ff, tt, tt] 3)))
def k7 : Code := (.seq (R7 [ff] 0) (.seq (.seq (R7 [tt, ff, ff] 1) (.block 0 (.loop l7_0))) (.seq (R7 [tt, tt, ff] 6) .ret)))
theorem call7 (x0 x1 : AV) (h : Heap) : call cfg 7 [x0, x1] h = (exec cfg 7 k7 [(0, x0), (1, x1)] h).bind (callEnd cfg 7 h [.tmp 4]) := call_at2 (fnat Tryz.func7 (b := k7) (by kernel_rfl) (by kernel_rfl)) rfl rfl
theorem has_loop (xs : List Int) (x : Int) (z : Nat) (r : Room) (h : Heap) (hn : xs.length < 1000000000) : ∀ (ys : List Int) (i : Nat), xs.drop i = ys -> i <= xs.length -> ∀ c t9 t17,
  Got (exec cfg 7 (.loop l7_0) [(0, .lst (intL xs) z r), (1, .int .i64 x), (4, c), (5, .int .i64 i), (9, t9), (17, t17)] h) (fun q => q.2.2 = h /\
   ((q.1 = .exit 0 /\ x ∉ ys) ∨ (q.1 = .ret /\ q.2.1.get 4 = .bool true /\ x ∈ ys))) := by
 intro ys
 induction ys with
 | nil =>
  intro i hd hi c t9 t17
  rw [got_loop]
  simp only [l7_0, F7, Tryz.f7, sxAll, cA, arithA, Env.keep, ↓qAe, Nat.reduceBEq, ↓reduceIte, lenA_lst, ty27, intL_len, at_end hd]
  exact ⟨trivial, .inl ⟨trivial, by simp⟩⟩
 | cons y s ih =>
  intro i hd hi c t9 t17
  obtain ⟨hlt, hget, hd'⟩ := at_drop hd
  have hix := fun H => idx_ints H xs z r i y hget
  have hw := wrap_succ (i := i) (by omega)
  rw [got_loop]
  by_cases he : y = x
  ·subst he
   have hlo : (y == y) = true := by simp
   simp only [l7_0, F7, Tryz.f7, sxAll, cA, arithA, Env.keep, qt_eq, ↓qAe, Nat.reduceBEq, ↓reduceIte, lenA_lst, ty27, intL_len, hlt, hix, load_ints]
   exact ⟨trivial, .inr ⟨trivial, by simp [], qAi ..⟩⟩
  ·have hne : (y == x) = false := by simp [he]
   have := ih (i + 1) hd' (by simp at hlt; omega)
   simp only [l7_0] at this ⊢
   simp only [F7, Tryz.f7, sxAll, cA, arithA, Env.keep, qt_eq, ↓qAe, Nat.reduceBEq, ↓reduceIte, lenA_lst, ty27, intL_len, hlt, hix, load_ints, hne, hw] at this ⊢
   refine Got.mono (this _ _ _) fun q hq => ?_
   refine ⟨hq.1, ?_⟩
   rcases hq.2 with ⟨h1, h2⟩ | ⟨h1, h2, h3⟩
   ·exact .inl ⟨h1, fun hc => (qAj.1 hc).elim (fun e => he e.symm) h2⟩
   ·exact .inr ⟨h1, h2, qAk _ h3⟩
theorem has_eq (xs : List Int) (x : Int) (z : Nat) (r : Room) (h : Heap) (hn : xs.length < 1000000000) : call cfg 7 [.lst (intL xs) z r, .int .i64 x] h = some (.ret (.bool (decide (x ∈ xs))), h) := by
 obtain ⟨⟨o, e', h'⟩, hx, hh, hq⟩ := has_loop xs x z r h hn xs 0 (by simp) (by omega) (.bool false) .junk .junk
 simp only [qBo] at hx hh hq
 subst hh
 rw [call7]
 rcases hq with ⟨rfl, h1⟩ | ⟨rfl, h1, h2⟩
 ·simp only [F7, k7, Tryz.f7, sxAll, cA, Env.keep, resultsA, packA, ↓qAe, Nat.reduceBEq, ↓reduceIte, hx, h1]
  exact leave_kept rfl rfl
 ·simp only [F7, k7, Tryz.f7, sxAll, cA, Env.keep, resultsA, packA, ↓qAe, Nat.reduceBEq, ↓reduceIte, hx, h1, h2]
  exact leave_kept rfl rfl
theorem idx_ll (H : Heap) {es : List AV} {z : Nat} {r : Room} {i : Nat} {xs : List Int} {z' : Nat} {r' : Room} (h : es[i]? = some (.lst (intL xs) z' r')) : indexAddrA cfg H 30 (.lst es z r) (.int .i64 i) = some (.ref [.lst (intL xs) z' r']) := by
 simp [indexAddrA, ty30, ty27, h, AV.cells]
theorem load_ll (H : Heap) (xs : List Int) (z : Nat) (r : Room) : loadA cfg H 27 (.ref [.lst (intL xs) z r]) = some (.lst (intL xs) z r) := by
 simp [load_ref, ty27, Rv.part, TD.isAgg]
theorem idx_fun (H : Heap) (p : SProg) {b : Nat} {f : SFun} (h : p.funs[b]? = some f) : indexAddrA cfg H 24 (.lst (funsL p.funs) p.fz p.froom) (.int .i64 b) = some (.ref f.cells) := by
 have h1 := funsL_get h
 have h2 : f.cells.length = 5 := rfl
 simp [indexAddrA, ty24, ty39, h1, AV.cells, h2]
end
end Go.Proofs.Sx
