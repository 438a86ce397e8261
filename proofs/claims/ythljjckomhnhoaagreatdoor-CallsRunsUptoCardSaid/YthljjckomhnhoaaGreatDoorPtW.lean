/-
  CallsRuns: the picks; the law.
-/
import Derived.Test.YthljjckomhnhoaaGreatDoorPtV
set_option linter.unusedSectionVars false
set_option linter.unusedSimpArgs false
set_option linter.unusedVariables false
set_option linter.defProp false
set_option maxHeartbeats 8000000
set_option maxRecDepth 100000
namespace Go.Proofs.Sx
open Go.Rv Go.Proofs
attribute [local congr] bind_left got_left
noncomputable section
section
variable (p : SProg) (es0 es1 es2 es3 : List AV) (z0 z1 z2 z3 : Nat) (r0 r1 r2 r3 : Room) (row : List Int) (zr : Nat) (rr : Room)
theorem runs_p (hF : mayP p = true) (g2 : ∀ (k : Nat) xs, (reachLs (csP p) p.funs.length)[k]? = some xs -> ∃ z r, es2[k]? = some (.lst (intL xs) z r)) (g3 : ∀ (k : Nat) xs, (rootsGo p p.funs 0 (turnedL (reachLs (csP p) p.funs.length)))[k]? = some xs -> ∃ z r, es3[k]? = some (.lst (intL xs) z r)) (hl3 : ∀ xs ∈ rootsGo p p.funs 0 (turnedL (reachLs (csP p) p.funs.length)), xs.length < 1000000)
  (l : List Int) (z : Nat) (r : Room) (hl : l.length <= 1000) (v : AV) (n0 : Nat) (h0 : Heap) (ρ0 : Nat -> Role) (hc : h0.obj 0 0 = some [.lst es0 z0 r0, .lst es1 z1 r1, .lst es2 z2 r2, .lst es3 z3 r3, .lst (intL row) zr rr]) (B : Built h0 v (intL (thr p.funs 0)) 1) (hown : ∀ o, o < n0 -> ρ0 o = .other) (hn0 : 0 < n0) (hvo : ∀ o, objOf v = some o -> o < n0) (s : Nat) : ∀ (d i : Nat), i + d = l.length -> ∀ (H : Heap) (ρ : Nat -> Role) (σ : SSt) (K : Nat), KF n0 h0 ρ0 H ρ -> n0 <= H.length -> At (ownP p) H ρ s σ -> SOk (ownP p) K σ -> K + d < 100000 -> InvT (Who p) (thr p.funs 0).length σ.thr -> LiveA (ownP p) σ -> ∀ t0 t2 t4 t6 t7 t8 t9 t10 t11 t12 t14 t16 t18 t19 t21 t23 t34 t42 t53 t58 t82 t90 t107 t115 t132 t141 t173 t178 t186 t204 t208 t214 t258 t267 t278,
  Got (exec cfg 3 (.loop l3_5) [(0, t0), (1, .lst (intL l) z r), (2, t2), (4, t4), (5, .ptr 0 0 0), (6, t6), (7, t7), (8, t8), (9, t9), (10, t10), (11, t11), (12, t12), (13, v), (14, t14), (15, .ptr s 0 0), (16, t16), (17, .int .i64 i), (18, t18), (19, t19), (21, t21), (23, t23), (34, t34), (42, t42), (53, t53), (58, t58), (82, t82), (90, t90), (107, t107), (115, t115), (132, t132), (141, t141), (173, t173), (178, t178), (186, t186), (204, t204), (208, t208), (214, t214), (258, t258), (267, t267), (278, t278)] H) (fun q => ∃ H' t17 t18 t19 t21 t23 t208 t214 t258 t267 t278, q = (.exit 10, [(0, t0), (1, .lst (intL l) z r), (2, t2), (4, t4), (5, .ptr 0 0 0), (6, t6), (7, t7), (8, t8), (9, t9), (10, t10), (11, t11), (12, t12), (13, v), (14, t14), (15, .ptr s 0 0), (16, t16), (17, t17), (18, t18), (19, t19), (21, t21), (23, t23), (34, t34), (42, t42), (53, t53), (58, t58), (82, t82), (90, t90), (107, t107), (115, t115), (132, t132), (141, t141), (173, t173), (178, t178), (186, t186), (204, t204), (208, t208), (214, t214), (258, t258), (267, t267), (278, t278)], H')) := by
 have P := (prog_ok hF).own
 intro d
 induction d with
 | zero =>
  intro i hi H ρ σ K KH hH A W hK hI hL t0 t2 t4 t6 t7 t8 t9 t10 t11 t12 t14 t16 t18 t19 t21 t23 t34 t42 t53 t58 t82 t90 t107 t115 t132 t141 t173 t178 t186 t204 t208 t214 t258 t267 t278
  obtain rfl : i = l.length := by omega
  have hc' := KH.obj hc (hown 0 hn0) hn0
  have B' : Built H v (intL (thr p.funs 0)) 1 := B.other fun o ho => (KH.keep o (hvo o ho) (hown o (hvo o ho))).1
  have c1 : ((l.length : Int) <= (l.length : Int)) = True := eq_true (Int.le_refl _)
  have c2 : ((l.length : Int) == (l.length : Int)) = true := by simp
  obtain ⟨q, hx, t18', t19', t21', t214', t258', hq⟩ := runs_s p es0 es1 es2 es3 z0 z1 z2 z3 r0 r1 r2 r3 row zr rr hF g2 g3 hl3 H hc' v B' ρ s σ K A W (by omega) hI (thr p.funs 0).length 0 (by omega) t0 (.lst (intL l) z r) t2 t4 t6 t7 t8 t9 t10 t11 t12 t14 t16 (.int .i64 l.length) t19 t21 t23 t34 t42 t53 t58 t82 t90 t107 t115 t132 t141 t173 t178 t186 t204 (.bool true) t214 t258 t267 t278
  subst hq
  simp only [qBo] at hx
  rw [got_loop]
  simp only [l3_5, F3, Tryz.f3, sxAll, cA, arithA, Env.keep, ↓qAe, Nat.reduceBEq, ↓reduceIte, lenA_lst, intL_len, c1, hx, ty27]
  exact ⟨_, _, _, _, _, _, _, _, _, _, _, rfl⟩
 | succ d ih =>
  intro i hi H ρ σ K KH hH A W hK hI hL t0 t2 t4 t6 t7 t8 t9 t10 t11 t12 t14 t16 t18 t19 t21 t23 t34 t42 t53 t58 t82 t90 t107 t115 t132 t141 t173 t178 t186 t204 t208 t214 t258 t267 t278
  have hi' : i < l.length := by omega
  have hw := wrap_succ (i := i) (by omega)
  have hc' := KH.obj hc (hown 0 hn0) hn0
  have B' : Built H v (intL (thr p.funs 0)) 1 := B.other fun o ho => (KH.keep o (hvo o ho) (hown o (hvo o ho))).1
  have c1 : ((i : Int) <= (l.length : Int)) = True := eq_true (by omega)
  have c2 : ((i : Int) == (l.length : Int)) = false := by simp; omega
  obtain ⟨q, hx, t18', t19', t21', t214', t258', hq⟩ := runs_s p es0 es1 es2 es3 z0 z1 z2 z3 r0 r1 r2 r3 row zr rr hF g2 g3 hl3 H hc' v B' ρ s σ K A W (by omega) hI (thr p.funs 0).length 0 (by omega) t0 (.lst (intL l) z r) t2 t4 t6 t7 t8 t9 t10 t11 t12 t14 t16 (.int .i64 i) t19 t21 t23 t34 t42 t53 t58 t82 t90 t107 t115 t132 t141 t173 t178 t186 t204 (.bool true) t214 t258 t267 t278
  subst hq
  simp only [qBo] at hx
  have hend : call cfg 11 [.ptr s 0 0] H = some (.ret (.int .u8 σ.ending), H) := by
   obtain ⟨m, mp, cv, tv, ov, cs, ts, R⟩ := A
   exact ending_eq R
  by_cases he : σ.ending = 0
  ·have e1 : (σ.ending == 0) = true := by simp [he]
   have hab := hL he
   obtain ⟨H', ρ', hp, A', F'⟩ := pick_yes A P W (by omega) (l.getD i 0) hab
   have hle := F'.le
   have hix := idx_ints H l z r i (l.getD i 0) (by rw [qBp, qAs hi']; rfl)
   have := ih (i + 1) (by omega) H' ρ' _ (K + 1) (KH.trans (F'.kf hH)) (by omega) A' (step_ok P W _) (by omega) (step_inv hI _ fun f x hq hi ho => who_call hF hq hi ho) (liveA_step hL _)
   rw [got_loop]
   simp only [l3_5] at this ⊢
   simp only [F3, Tryz.f3, sxAll, cA, arithA, Env.keep, qt_eq, Rv.part, TD.isAgg, mapO, ↓qAe, Nat.reduceBEq, bne, ↓reduceIte, load_ref, lenA_lst, intL_len, c1, c2, hx, hend, e1, hix, hp, hw, pu11, pu12, ty27, ty3] at this ⊢
   exact this _ _ _ _ _ _ _ _ _ _ _ _ _ _ _ _ _ _ _ _ _ _ _ _ _ _ _ _ _ _ _ _ _ _ _
  ·have e1 : (σ.ending == 0) = false := by simp [he]
   rw [got_loop]
   simp only [l3_5, F3, Tryz.f3, sxAll, cA, arithA, Env.keep, qt_eq, mapO, ↓qAe, Nat.reduceBEq, bne, ↓reduceIte, lenA_lst, intL_len, c1, c2, hx, hend, e1, pu11, ty27]
   exact ⟨_, _, _, _, _, _, _, _, _, _, _, rfl⟩
end
theorem roots_short {p : SProg} (hm : mayP p = true) : ∀ xs ∈ rootsGo p p.funs 0 (turnedL (reachLs (csP p) p.funs.length)), xs.length < 1000000 := fun xs hx => by
 have F := fits_may hm
 have hNl := F.1
 have hRl : (reachLs (csP p) p.funs.length).length = p.funs.length := by rw [reachLs, qBn, List.length_range]
 obtain ⟨k, hk, e⟩ := List.getElem_of_mem hx
 have hkN : k < p.funs.length := by rw [rootsGo_len, turnedL_len, hRl] at hk; exact hk
 have h := rootsGo_get p p.funs 0 (turnedL (reachLs (csP p) p.funs.length)) k _ (qAs hkN) (by rw [turnedL_len, hRl]; omega)
 rw [qBg] at h
 have e2 : xs = (rootsGo p p.funs 0 (turnedL (reachLs (csP p) p.funs.length))).getD k [] := by rw [qBp, qAs hk, Option.getD_some, e]
 rw [e2, h]
 split
 ·simp
 ·have h1 := List.length_filter_le (thrB p) ((turnedL (reachLs (csP p) p.funs.length)).getD k [])
  have h2 := turnedL_bound (reachLs (csP p) p.funs.length) (fun x hx => by
   rw [reachLs] at hx
   obtain ⟨a, _, rfl⟩ := qBl.1 hx
   have := reachOf_len (csP p) p.funs.length (a : Int)
   omega) (l := (turnedL (reachLs (csP p) p.funs.length)).getD k []) (by
    rw [qBp, qAs (by rw [turnedL_len, hRl]; exact hkN)]
    exact List.getElem_mem _)
  rw [hRl] at h2
  omega
theorem start_who {p : SProg} (hm : mayP p = true) : InvT (Who p) (thr p.funs 0).length (startS (ownP p)).thr := by
 rw [(start_sok hm).2]
 refine ⟨by simp [stacks0], fun t l hl f hf => ?_⟩
 simp only [stacks0, qBc] at hl
 cases hT : (thr p.funs 0)[t]? with
 | none => rw [hT] at hl; cases hl
 | some n =>
  rw [hT] at hl
  simp only [qAo, qAf] at hl
  subst hl
  simp only [qAn] at hf
  subst hf
  obtain ⟨b, rfl, _, _⟩ := thr_nat (qBj hT)
  left
  rw [qBp, hT]
  rfl
theorem callsRuns_eq (p : SProg) (hw : p.wf) (hnl : p.nils) (l : List Int) (z : Nat) (r : Room) : call cfg 3 [.agg p.cells, .lst (intL l) z r] [] = some (.ret (.bool true), []) := by
 have hwk := works_eq
 obtain ⟨b, hlg⟩ := large_eq p [] hw
 rw [call3]
 simp only [SProg.cells] at hlg
 cases b with
 | true =>
  simp only [F3, k3, Tryz.f3, sxAll, cA, Env.keep, qt_eq, resultsA, packA, unA, Rv.part, TD.isAgg, mapO, ↓qAe, Nat.reduceBEq, Nat.reduceAdd, Nat.reduceLeDiff, ↓reduceIte, load_ref, SProg.cells, hwk, hlg, pu4, pu5, ty26]
  exact leave_kept rfl rfl
 | false =>
  by_cases h1 : (l.length : Int) > 400
  ·simp only [F3, k3, Tryz.f3, sxAll, cA, arithA, Env.keep, qt_eq, resultsA, packA, unA, Rv.part, TD.isAgg, mapO, ↓qAe, Nat.reduceBEq, Nat.reduceAdd, Nat.reduceLeDiff, ↓reduceIte, load_ref, lenA_lst, intL_len, SProg.cells, hwk, hlg, h1, pu4, pu5, ty27, ty26]
   exact leave_kept rfl rfl
  obtain ⟨v, hv, hA⟩ := callsOf_eq p [] hw
  simp only [SProg.cells] at hv
  rcases hA with ⟨hm, rfl⟩ | ⟨hm, hs, rfl⟩ | ⟨hm, hno, a0, a1, a2, a3, zr, rr, rfl, ⟨es0, z0, r0, rfl, l0, g0⟩, ⟨es1, z1, r1, rfl, l1, g1⟩, ⟨es2, z2, r2, rfl, l2, g2⟩, ⟨es3, z3, r3, rfl, l3, g3⟩, hz⟩
  ·simp only [nils] at hv
   simp only [F3, k3, Tryz.f3, sxAll, cA, arithA, Env.keep, qt_eq, resultsA, packA, storeA, unA, fieldAddrA, Rv.part, TD.isAgg, setCells, mapO, ↓qAe, Nat.reduceBEq, Nat.reduceAdd, Nat.reduceLeDiff, Int.reduceBEq, bne, ↓reduceIte, load_ptr, load_ref, lenA_lst, intL_len, SProg.cells, hwk, hlg, h1, hv, pu4, pu5, pu6, ty32, ty27, ty26]
   exact leave_pure rfl rfl rfl
  ·simp only [nils] at hv
   simp only [F3, k3, Tryz.f3, sxAll, cA, arithA, Env.keep, qt_eq, resultsA, packA, storeA, unA, fieldAddrA, Rv.part, TD.isAgg, setCells, mapO, ↓qAe, Nat.reduceBEq, Nat.reduceAdd, Nat.reduceLeDiff, Int.reduceBEq, bne, ↓reduceIte, load_ptr, load_ref, lenA_lst, intL_len, SProg.cells, hwk, hlg, h1, hv, pu4, pu5, pu6, ty32, ty27, ty26]
   exact leave_pure rfl rfl rfl
  ·have F := fits_may hm
   have hNl := F.1
   have hno' : ∀ k : Nat, k < p.funs.length -> (k : Int) ∉ reachOf (csP p) p.funs.length (k : Int) := fun k h1 h2 => hno ⟨k, h1, h2⟩
   have hro := row_ok (csP p) p.funs.length
   have hrl := row_len (csP p) p.funs.length (csP_rng F) hno'
   generalize rowGo (csP p) p.funs.length p.funs.length [] = row at *
   have hc : Heap.obj [AObj.cells [.lst es0 z0 r0, .lst es1 z1 r1, .lst es2 z2 r2, .lst es3 z3 r3, .lst (intL row) zr rr] 0] 0 0 = some [.lst es0 z0 r0, .lst es1 z1 r1, .lst es2 z2 r2, .lst es3 z3 r3, .lst (intL row) zr rr] := rfl
   obtain ⟨q, hx, u7, u8, u9, u10, u11, u12, u58, u82, u90, u107, u115, u132, u141, u173, hq⟩ := runs_i p es0 es1 es2 es3 z0 z1 z2 z3 r0 r1 r2 r3 row zr rr hm hw g0 g2 hro hz (by omega) _ hc row 0 (by simp) (by omega) (.agg p.cells) (.lst (intL l) z r) (.bool false) (.int .i64 0) (.junk) (.junk) (.junk) (.junk) (.junk) (.junk) (.junk) (.junk) (.junk) (.junk) (.junk) (.junk) (.junk) (.junk) (.bool false) (.bool false) (.bool false) (.junk) (.junk) (.junk) (.junk) (.junk) (.junk) (.junk) (.junk) (.junk) (.junk) (.junk) (.junk) (.junk) (.junk) (.junk) (.junk)
   subst hq
   obtain ⟨q, hy, v, H1, u14, u178, u186, hq, O⟩ := runs_t p (by omega) [AObj.cells [.lst es0 z0 r0, .lst es1 z1 r1, .lst es2 z2 r2, .lst es3 z3 r3, .lst (intL row) zr rr] 0] p.funs 0 (by simp) (by omega) [AObj.cells [.lst es0 z0 r0, .lst es1 z1 r1, .lst es2 z2 r2, .lst es3 z3 r3, .lst (intL row) zr rr] 0] (.lst [] 0 .nil) [] ⟨.inl ⟨rfl, rfl⟩, fun _ h => (by cases h), qAr _, rfl⟩ (by simp) (by simp) (.agg p.cells) (.lst (intL l) z r) (.bool false) (.ptr 0 0 0) (.int .i64 0) (u7) (u8) (u9) (u10) (u11) (u12) (.junk) (.junk) (.junk) (.junk) (.junk) (.junk) (.junk) (.bool false) (.bool false) (.bool false) (u58) (u82) (u90) (u107) (u115) (u132) (u141) (u173) (.junk) (.junk) (.junk) (.junk) (.junk) (.junk) (.junk) (.junk)
   subst hq
   have hc1 : H1.obj 0 0 = some [.lst es0 z0 r0, .lst es1 z1 r1, .lst es2 z2 r2, .lst es3 z3 r3, .lst (intL row) zr rr] := obj_of hc (by
    have := congrArg (·[0]?) O.old
    simp only [qBa (Nat.zero_lt_one)] at this
    exact this)
   have hle1 := O.le
   have hsm := small_may hw hm
   obtain ⟨H2, ρ, s, hnew, A, hle, hk⟩ := new_yes p hw hnl hsm hm H1
   obtain ⟨W, hth⟩ := start_sok hm
   have hthr : call cfg 9 [.ptr s 0 0] H2 = some (.ret (.int .i64 (startS (ownP p)).thr.length), H2) := by
    obtain ⟨m, mp, cv, tv, ov, cs, ts, R⟩ := A
    exact threads_eq R
   rw [hth, show (stacks0 (ownP p) (thr p.funs 0)).length = (thr p.funs 0).length by simp [stacks0]] at hthr
   have hc2 := obj_of hc1 (hk 0 (by omega)).1
   have B2 : Built H2 v (intL (thr p.funs 0)) 1 := O.b.other fun o ho => (hk o (built_lt O.b ho)).1
   have hlen := len_built (e := 3) B2
   rw [intL_len] at hlen
   have hkv := known_built B2
   obtain ⟨q, hz2, H3, w17, w18, w19, w21, w23, w208, w214, w258, w267, w278, hq⟩ := runs_p p es0 es1 es2 es3 z0 z1 z2 z3 r0 r1 r2 r3 row zr rr hm g2 g3 (roots_short hm) l z r (by omega) v H1.length H2 ρ hc2 B2 (fun o ho => (hk o ho).2) (by omega) (fun o ho => built_lt O.b ho) s l.length 0 (by omega) H2 ρ _ 1 (KF.refl _ _ _) hle A W (by omega) (start_who hm) (liveA_end _) (.agg p.cells) (.ref p.cells) (.bool false) (.int .i64 0) (u7) (u8) (u9) (u10) (u11) (u12) (u14) (.int .i64 0) (.junk) (.junk) (.junk) (.junk) (.bool false) (.bool false) (.bool false) (u58) (u82) (u90) (u107) (u115) (u132) (u141) (u173) (u178) (u186) (.bool false) (.junk) (.junk) (.junk) (.junk) (.junk)
   subst hq
   simp only [qBo, SProg.cells] at hx hy hz2 hnew
   have c1 : ((row.length : Int) == (p.funs.length : Int)) = true := by simp [hrl]
   have c2 : (((thr p.funs 0).length : Int) == ((thr p.funs 0).length : Int)) = true := by simp
   simp only [F3, k3, Tryz.f3, sxAll, cA, arithA, Env.keep, qt_eq, resultsA, packA, storeA, unA, fieldAddrA, Rv.part, TD.isAgg, setCells, mapO, ↓qAe, Nat.reduceBEq, Nat.reduceAdd, Nat.reduceLeDiff, bne, ↓reduceIte, load_ptr, load_ref, lenA_lst, intL_len, funsL_len, SProg.cells, hwk, hlg, h1, hv, c1, hx, hy, hnew, hthr, hlen, hkv, hz2, pu4, pu5, pu6, pu8, pu9, ty32, ty27, ty26, ty24]
   trace_state
   exact leave_pure rfl rfl rfl
end
end Go.Proofs.Sx
