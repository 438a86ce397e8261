/-
  CallsRuns answers true.
-/
import Derived.Test.YthljjckomhnhoaaGreatDoorPtT
import Derived.Test.YthljjckomhnhoaaGreatDoorPtU
import Derived.Test.YthljjckomhnhoaaGreatDoorPtP
set_option linter.unusedSectionVars false
set_option linter.unusedSimpArgs false
set_option linter.unusedVariables false
set_option linter.defProp false
set_option maxHeartbeats 8000000
set_option maxRecDepth 100000
namespace Go.Proofs.Sx
open Go.Rv Go.Proofs
attribute [local congr] bind_left got_left
noncomputable section
instance t3 {d : Option Nat} : TightD cfg 3 d := ⟨fun _ _ => rfl⟩
def B3 (p : List Bool) := cA p Tryz.f3.body
def R3 (p : List Bool) (i : Nat) := Code.region i (cA p Tryz.f3.body) false
def D3 (p : List Bool) (i : Nat) := Code.region i (cA p Tryz.f3.body) true
theorem F3 : (∀ p i, XR cfg 3 (R3 p i) (B3 p) (cA p Tryz.f3.body).toList i false) /\ cfg.imm 3 2 = true /\ GO cfg 3 (B3 [tt, ff, ff]) 2 26 /\ GO cfg 3 (B3 [tt, ff, ff]) 6 30 /\ GO cfg 3 (B3 [tt, tt, tt, tt, tt, ff, tt, ff, ff, tt, ff, ff, tt, ff, ff]) 2 68 /\ GO cfg 3 (B3 [tt, tt, tt, tt, tt, ff, tt, ff, ff, tt, ff, ff, tt, ff, ff]) 9 75 /\ XR cfg 3 (D3 [tt, tt, tt, tt, tt, ff, tt, ff, ff, tt, ff, ff, tt, tt, ff, tt, ff, ff, tt, ff, ff, tt, tt, tt, ff, ff, tt, ff, ff, ff] 23) (B3 [tt, tt, tt, tt, tt, ff, tt, ff, ff, tt, ff, ff, tt, tt, ff, tt, ff, ff, tt, ff, ff, tt, tt, tt, ff, ff, tt, ff, ff, ff]) ((cA [tt, tt, tt, tt, tt, ff, tt, ff, ff, tt, ff, ff, tt, tt, ff, tt, ff, ff, tt, ff, ff, tt, tt, tt, ff, ff, tt, ff, ff, ff] Tryz.f3.body).toList) 23 true /\ XR cfg 3 (D3 [tt, tt, tt, tt, tt, ff, tt, ff, ff, tt, ff, ff, tt, tt, tt, tt, ff, ff, tt, ff, ff, ff] 28) (B3 [tt, tt, tt, tt, tt, ff, tt, ff, ff, tt, ff, ff, tt, tt, tt, tt, ff, ff, tt, ff, ff, ff]) ((cA [tt, tt, tt, tt, tt, ff, tt, ff, ff, tt, ff, ff, tt, tt, tt, tt, ff, ff, tt, ff, ff, ff] Tryz.f3.body).toList) 28 true /\ GO cfg 3 (B3 [tt, tt, tt, tt, tt, ff, tt, ff, ff, tt, ff, ff, tt, tt, tt, tt, ff, ff, tt, ff, ff, ff]) 11 155 /\ cfg.imm 3 189 = true /\ GO cfg 3 (B3 [tt, tt, tt, tt, tt, tt, tt, tt, tt, ff, ff]) 2 198 /\ XR cfg 3 (D3 [tt, tt, tt, tt, tt, tt, tt, tt, tt, tt, ff, tt, ff, ff, tt, ff, ff, ff, tt, ff, ff, tt, ff, ff, tt, ff] 46) (B3 [tt, tt, tt, tt, tt, tt, tt, tt, tt, tt, ff, tt, ff, ff, tt, ff, ff, ff, tt, ff, ff, tt, ff, ff, tt, ff]) ((cA [tt, tt, tt, tt, tt, tt, tt, tt, tt, tt, ff, tt, ff, ff, tt, ff, ff, ff, tt, ff, ff, tt, ff, ff, tt, ff] Tryz.f3.body).toList) 46 true /\ GO cfg 3 (B3 [tt, tt, tt, tt, tt, tt, tt, tt, tt, tt, ff, tt, ff, ff, tt, ff, ff, ff, tt, ff, ff, tt, ff, ff, tt, ff]) 1 225 /\ GO cfg 3 (B3 [tt, tt, tt, tt, tt, tt, tt, tt, tt, tt, ff, tt, ff, ff, tt, ff, ff, ff, tt, ff, ff, tt, ff, ff, tt, ff]) 8 232 /\ GO cfg 3 (B3 [tt, tt, tt, tt, tt, tt, tt, tt, tt, tt, ff, tt, ff, ff, tt, ff, ff, ff, tt, ff, ff, tt, ff, ff, tt, ff]) 21 245 /\ GO cfg 3 (B3 [tt, tt, tt, tt, tt, tt, tt, tt, tt, tt, ff, tt, ff, ff, tt, ff, ff, tt, ff, ff]) 4 263 /\ RE cfg 3 [0, 1, 2, 4, 5, 6, 7, 8, 9, 10, 11, 12, 13, 14, 15, 16, 17, 18, 19, 21, 23, 34, 42, 53, 58, 82, 90, 107, 115, 132, 141, 173, 178, 186, 204, 208, 214, 258, 267, 278] /\ cfg.pure 3 = true := ⟨fun _ _ => xr rfl rfl, by kernel_rfl, gO (by kernel_rfl), gO (by kernel_rfl), gO (by kernel_rfl), gO (by kernel_rfl), xd (by kernel_rfl) rfl rfl, xd (by kernel_rfl) rfl rfl, gO (by kernel_rfl), by kernel_rfl, gO (by kernel_rfl), xd (by kernel_rfl) rfl rfl, gO (by kernel_rfl), gO (by kernel_rfl), gO (by kernel_rfl), gO (by kernel_rfl), rE fun _ => rfl, rfl⟩
def l3_6 : Code := (.seq (.seq (R3 [tt, tt, tt, tt, tt, tt, tt, tt, tt, tt, ff, tt, ff, ff, tt, ff, ff, ff, tt, ff, ff, ff, ff] 43) (.cond (.tmp 214) .skip (.exit 12))) (.seq (.block 13 (.seq (R3 [tt, tt, tt, tt, tt, tt, tt, tt, tt, tt, ff, tt, ff, ff, tt, ff, ff, ff, tt, ff, ff, tt, ff, ff, ff] 45) (.seq (D3 [tt, tt, tt, tt, tt, tt, tt, tt, tt, tt, ff, tt, ff, ff, tt, ff, ff, ff, tt, ff, ff, tt, ff, ff, tt, ff] 46) (.cond (.tmp 258) (.seq (R3 [tt, tt, tt, tt, tt, tt, tt, tt, tt, tt, ff, tt, ff, ff, tt, ff, ff, ff, tt, ff, ff, tt, ff, ff, tt, tt, ff, ff] 47) .ret) .skip)))) (R3 [tt, tt, tt, tt, tt, tt, tt, tt, tt, tt, ff, tt, ff, ff, tt, ff, ff, ff, tt, ff, ff, tt, tt] 44)))
def l3_5 : Code := (.seq (.seq (R3 [tt, tt, tt, tt, tt, tt, tt, tt, tt, tt, ff, tt, ff, ff, ff, ff] 40) (.cond (.tmp 208) .skip (.exit 10))) (.seq (.block 11 (.seq (.seq (R3 [tt, tt, tt, tt, tt, tt, tt, tt, tt, tt, ff, tt, ff, ff, tt, ff, ff, ff, ff] 42) (.block 12 (.loop l3_6))) (.seq (.seq (R3 [tt, tt, tt, tt, tt, tt, tt, tt, tt, tt, ff, tt, ff, ff, tt, ff, ff, tt, ff, ff] 48) (.cond (.tmp 267) (.exit 10) .skip)) (.seq (R3 [tt, tt, tt, tt, tt, tt, tt, tt, tt, tt, ff, tt, ff, ff, tt, ff, ff, tt, tt, ff] 49) (.seq (R3 [tt, tt, tt, tt, tt, tt, tt, tt, tt, tt, ff, tt, ff, ff, tt, ff, ff, tt, tt, tt, ff] 50) (.cond (.tmp 278) (.seq (R3 [tt, tt, tt, tt, tt, tt, tt, tt, tt, tt, ff, tt, ff, ff, tt, ff, ff, tt, tt, tt, tt, ff, ff] 51) .ret) .skip)))))) (R3 [tt, tt, tt, tt, tt, tt, tt, tt, tt, tt, ff, tt, ff, ff, tt, tt] 41)))
def l3_4 : Code := (.seq (.seq (R3 [tt, tt, tt, tt, tt, tt, tt, ff, tt, ff, ff, ff, ff] 32) (.cond (.tmp 178) .skip (.exit 8))) (.seq (.block 9 (.seq (R3 [tt, tt, tt, tt, tt, tt, tt, ff, tt, ff, ff, tt, ff, ff, ff] 34) (.cond (.tmp 186) (R3 [tt, tt, tt, tt, tt, tt, tt, ff, tt, ff, ff, tt, ff, ff, tt, ff] 35) .skip))) (R3 [tt, tt, tt, tt, tt, tt, tt, ff, tt, ff, ff, tt, tt] 33)))
def l3_3 : Code := (.seq (.seq (R3 [tt, tt, tt, tt, tt, ff, tt, ff, ff, tt, ff, ff, tt, tt, tt, tt, ff, ff, ff, ff] 26) (.cond (.tmp 141) .skip (.exit 6))) (.seq (.block 7 (.seq (D3 [tt, tt, tt, tt, tt, ff, tt, ff, ff, tt, ff, ff, tt, tt, tt, tt, ff, ff, tt, ff, ff, ff] 28) (.cond (.tmp 173) (.seq (R3 [tt, tt, tt, tt, tt, ff, tt, ff, ff, tt, ff, ff, tt, tt, tt, tt, ff, ff, tt, ff, ff, tt, ff, ff] 29) .ret) .skip))) (R3 [tt, tt, tt, tt, tt, ff, tt, ff, ff, tt, ff, ff, tt, tt, tt, tt, ff, ff, tt, tt] 27)))
def l3_2 : Code := (.seq (.seq (R3 [tt, tt, tt, tt, tt, ff, tt, ff, ff, tt, ff, ff, tt, tt, ff, tt, ff, ff, tt, ff, ff, tt, tt, tt, ff, ff, ff, ff] 21) (.cond (.tmp 115) .skip (.exit 4))) (.seq (.block 5 (.seq (D3 [tt, tt, tt, tt, tt, ff, tt, ff, ff, tt, ff, ff, tt, tt, ff, tt, ff, ff, tt, ff, ff, tt, tt, tt, ff, ff, tt, ff, ff, ff] 23) (.cond (.tmp 132) (.seq (R3 [tt, tt, tt, tt, tt, ff, tt, ff, ff, tt, ff, ff, tt, tt, ff, tt, ff, ff, tt, ff, ff, tt, tt, tt, ff, ff, tt, ff, ff, tt, ff, ff] 24) .ret) .skip))) (R3 [tt, tt, tt, tt, tt, ff, tt, ff, ff, tt, ff, ff, tt, tt, ff, tt, ff, ff, tt, ff, ff, tt, tt, tt, ff, ff, tt, tt] 22)))
def l3_1 : Code := (.seq (.seq (R3 [tt, tt, tt, tt, tt, ff, tt, ff, ff, tt, ff, ff, tt, tt, ff, tt, ff, ff, ff, ff] 15) (.cond (.tmp 90) .skip (.exit 2))) (.seq (.block 3 (.seq (R3 [tt, tt, tt, tt, tt, ff, tt, ff, ff, tt, ff, ff, tt, tt, ff, tt, ff, ff, tt, ff, ff, ff] 17) (.seq (.seq (R3 [tt, tt, tt, tt, tt, ff, tt, ff, ff, tt, ff, ff, tt, tt, ff, tt, ff, ff, tt, ff, ff, tt, ff, ff] 18) (.cond (.tmp 107) (.seq (R3 [tt, tt, tt, tt, tt, ff, tt, ff, ff, tt, ff, ff, tt, tt, ff, tt, ff, ff, tt, ff, ff, tt, ff, tt, ff, ff] 19) .ret) .skip)) (.seq (R3 [tt, tt, tt, tt, tt, ff, tt, ff, ff, tt, ff, ff, tt, tt, ff, tt, ff, ff, tt, ff, ff, tt, tt, ff] 20) (.block 4 (.loop l3_2)))))) (R3 [tt, tt, tt, tt, tt, ff, tt, ff, ff, tt, ff, ff, tt, tt, ff, tt, ff, ff, tt, tt] 16)))
def l3_0 : Code := (.seq (.seq (R3 [tt, tt, tt, tt, tt, ff, tt, ff, ff, ff, ff] 9) (.cond (.tmp 58) .skip (.exit 0))) (.seq (.block 1 (.seq (R3 [tt, tt, tt, tt, tt, ff, tt, ff, ff, tt, ff, ff, ff] 11) (.seq (.seq (R3 [tt, tt, tt, tt, tt, ff, tt, ff, ff, tt, ff, ff, tt, ff, ff] 12) (.cond (.tmp 82) (.seq (R3 [tt, tt, tt, tt, tt, ff, tt, ff, ff, tt, ff, ff, tt, ff, tt, ff, ff] 13) .ret) .skip)) (.seq (.seq (R3 [tt, tt, tt, tt, tt, ff, tt, ff, ff, tt, ff, ff, tt, tt, ff, ff] 14) (.block 2 (.loop l3_1))) (.seq (R3 [tt, tt, tt, tt, tt, ff, tt, ff, ff, tt, ff, ff, tt, tt, tt, ff] 25) (.block 6 (.loop l3_3))))))) (R3 [tt, tt, tt, tt, tt, ff, tt, ff, ff, tt, tt] 10)))
def k3 : Code := (.seq (R3 [ff] 0) (.seq (.seq (R3 [tt, ff, ff] 1) (.cond (.tmp 34) (.seq (R3 [tt, ff, tt, ff, ff] 2) .ret) .skip)) (.seq (R3 [tt, tt, ff] 3) (.seq (.seq (R3 [tt, tt, tt, ff, ff] 4) (.cond (.tmp 42) (.seq (R3 [tt, tt, tt, ff, tt, ff, ff] 5) .ret) .skip)) (.seq (.seq (R3 [tt, tt, tt, tt, ff, ff] 6) (.cond (.tmp 53) (.seq (R3 [tt, tt, tt, tt, ff, tt, ff, ff] 7) .ret) .skip)) (.seq (.seq (R3 [tt, tt, tt, tt, tt, ff, ff] 8) (.block 0 (.loop l3_0))) (.seq (R3 [tt, tt, tt, tt, tt, tt, ff] 30) (.seq (.seq (R3 [tt, tt, tt, tt, tt, tt, tt, ff, ff] 31) (.block 8 (.loop l3_4))) (.seq (R3 [tt, tt, tt, tt, tt, tt, tt, tt, ff] 36) (.seq (.seq (R3 [tt, tt, tt, tt, tt, tt, tt, tt, tt, ff, ff] 37) (.cond (.tmp 204) (.seq (R3 [tt, tt, tt, tt, tt, tt, tt, tt, tt, ff, tt, ff, ff] 38) .ret) .skip)) (.seq (.seq (R3 [tt, tt, tt, tt, tt, tt, tt, tt, tt, tt, ff, ff] 39) (.block 10 (.loop l3_5))) (.seq (R3 [tt, tt, tt, tt, tt, tt, tt, tt, tt, tt, tt, ff] 52) .ret))))))))))))
theorem call3 (x0 x1 : AV) (h : Heap) : call cfg 3 [x0, x1] h = (exec cfg 3 k3 [(0, x0), (1, x1)] h).bind (callEnd cfg 3 h [.tmp 4]) := call_at2 (fnat Tryz.func3 (b := k3) (by kernel_rfl) (by kernel_rfl)) rfl rfl
section
variable (p : SProg) (es0 es1 es2 es3 : List AV) (z0 z1 z2 z3 : Nat) (r0 r1 r2 r3 : Room) (row : List Int) (zr : Nat) (rr : Room)
theorem runs_x (H : Heap) (hc : H.obj 0 0 = some [.lst es0 z0 r0, .lst es1 z1 r1, .lst es2 z2 r2, .lst es3 z3 r3, .lst (intL row) zr rr]) (n m : Nat) (RN RM : List Int) (zn zm : Nat) (rn rm : Room) (hn : es2[n]? = some (.lst (intL RN) zn rn)) (hm : es2[m]? = some (.lst (intL RM) zm rm)) (hsub : ∀ x ∈ RM, x ∈ RN) (hlN : RN.length < 1000000) (hlM : RM.length < 1000000) : ∀ (ys : List Int) (i : Nat), RM.drop i = ys -> i <= RM.length -> ∀ t0 t1 t4 t6 t7 t9 t12 t13 t14 t15 t16 t17 t18 t19 t21 t23 t34 t42 t53 t58 t82 t90 t107 t115 t132 t141 t173 t178 t186 t204 t208 t214 t258 t267 t278,
  Got (exec cfg 3 (.loop l3_2) [(0, t0), (1, t1), (2, .ref p.cells), (4, t4), (5, .ptr 0 0 0), (6, t6), (7, t7), (8, .int .i64 n), (9, t9), (10, .int .i64 m), (11, .int .i64 i), (12, t12), (13, t13), (14, t14), (15, t15), (16, t16), (17, t17), (18, t18), (19, t19), (21, t21), (23, t23), (34, t34), (42, t42), (53, t53), (58, t58), (82, t82), (90, t90), (107, t107), (115, t115), (132, t132), (141, t141), (173, t173), (178, t178), (186, t186), (204, t204), (208, t208), (214, t214), (258, t258), (267, t267), (278, t278)] H) (fun q => ∃ t11 t115 t132, q = (.exit 4, [(0, t0), (1, t1), (2, .ref p.cells), (4, t4), (5, .ptr 0 0 0), (6, t6), (7, t7), (8, .int .i64 n), (9, t9), (10, .int .i64 m), (11, t11), (12, t12), (13, t13), (14, t14), (15, t15), (16, t16), (17, t17), (18, t18), (19, t19), (21, t21), (23, t23), (34, t34), (42, t42), (53, t53), (58, t58), (82, t82), (90, t90), (107, t107), (115, t115), (132, t132), (141, t141), (173, t173), (178, t178), (186, t186), (204, t204), (208, t208), (214, t214), (258, t258), (267, t267), (278, t278)], H)) := by
 have hlc := live_of hc
 have i2n := idx_ll H hn (z := z2) (r := r2)
 have i2m := idx_ll H hm (z := z2) (r := r2)
 intro ys
 induction ys with
 | nil =>
  intro i hd hi t0 t1 t4 t6 t7 t9 t12 t13 t14 t15 t16 t17 t18 t19 t21 t23 t34 t42 t53 t58 t82 t90 t107 t115 t132 t141 t173 t178 t186 t204 t208 t214 t258 t267 t278
  rw [got_loop]
  simp only [l3_2, F3, Tryz.f3, sxAll, cA, arithA, Env.keep, qt_eq, fieldAddrA, Rv.part, TD.isAgg, ↓qAe, Nat.reduceBEq, Nat.reduceAdd, ↓reduceIte, load_ptr, load_ref, lenA_lst, intL_len, SProg.cells, hc, hlc, i2m, at_end hd, ty32, ty30, ty27]
  exact ⟨_, _, _, rfl⟩
 | cons y s ih =>
  intro i hd hi t0 t1 t4 t6 t7 t9 t12 t13 t14 t15 t16 t17 t18 t19 t21 t23 t34 t42 t53 t58 t82 t90 t107 t115 t132 t141 t173 t178 t186 t204 t208 t214 t258 t267 t278
  obtain ⟨hlt, hget, hd'⟩ := at_drop hd
  have hlt' : i < RM.length := by simpa using hlt
  have hw := wrap_succ (i := i) (by omega)
  have hix := idx_ints H RM zm rm i y hget
  have hh := has_eq RN y zn rn H (by omega)
  rw [decide_eq_true (hsub y (qBj hget))] at hh
  have := ih (i + 1) hd' (by omega)
  rw [got_loop]
  simp only [l3_2, SProg.cells] at this ⊢
  simp only [F3, Tryz.f3, sxAll, cA, arithA, Env.keep, qt_eq, unA, fieldAddrA, Rv.part, TD.isAgg, mapO, ↓qAe, Nat.reduceBEq, Nat.reduceAdd, ↓reduceIte, load_ptr, load_ref, lenA_lst, intL_len, hc, hlc, i2n, i2m, hlt, hix, hh, hw, pu7, ty32, ty30, ty27, ty3] at this ⊢
  exact this _ _ _ _ _ _ _ _ _ _ _ _ _ _ _ _ _ _ _ _ _ _ _ _ _ _ _ _ _ _ _ _ _ _ _
theorem runs_k (hF : mayP p = true) (g2 : ∀ (k : Nat) xs, (reachLs (csP p) p.funs.length)[k]? = some xs -> ∃ z r, es2[k]? = some (.lst (intL xs) z r)) (hro : RowOk (csP p) p.funs.length row) (hz : zr = 1 ∨ row = []) (hrl : row.length < 1000000) (H : Heap) (hc : H.obj 0 0 = some [.lst es0 z0 r0, .lst es1 z1 r1, .lst es2 z2 r2, .lst es3 z3 r3, .lst (intL row) zr rr]) (i n : Nat) (hi0 : row[i]? = some (n : Int)) (hnN : n < p.funs.length) (RN : List Int) (hRN : RN = reachOf (csP p) p.funs.length (n : Int)) (zn : Nat) (rn : Room) (hn : es2[n]? = some (.lst (intL RN) zn rn)) (hlN : RN.length < 1000000) : ∀ (ys : List Int) (k : Nat), RN.drop k = ys -> k <= RN.length -> ∀ t0 t1 t4 t6 t10 t11 t12 t13 t14 t15 t16 t17 t18 t19 t21 t23 t34 t42 t53 t58 t82 t90 t107 t115 t132 t141 t173 t178 t186 t204 t208 t214 t258 t267 t278,
  Got (exec cfg 3 (.loop l3_1) [(0, t0), (1, t1), (2, .ref p.cells), (4, t4), (5, .ptr 0 0 0), (6, t6), (7, .int .i64 i), (8, .int .i64 n), (9, .int .i64 k), (10, t10), (11, t11), (12, t12), (13, t13), (14, t14), (15, t15), (16, t16), (17, t17), (18, t18), (19, t19), (21, t21), (23, t23), (34, t34), (42, t42), (53, t53), (58, t58), (82, t82), (90, t90), (107, t107), (115, t115), (132, t132), (141, t141), (173, t173), (178, t178), (186, t186), (204, t204), (208, t208), (214, t214), (258, t258), (267, t267), (278, t278)] H) (fun q => ∃ t9 t10 t11 t90 t107 t115 t132, q = (.exit 2, [(0, t0), (1, t1), (2, .ref p.cells), (4, t4), (5, .ptr 0 0 0), (6, t6), (7, .int .i64 i), (8, .int .i64 n), (9, t9), (10, t10), (11, t11), (12, t12), (13, t13), (14, t14), (15, t15), (16, t16), (17, t17), (18, t18), (19, t19), (21, t21), (23, t23), (34, t34), (42, t42), (53, t53), (58, t58), (82, t82), (90, t90), (107, t107), (115, t115), (132, t132), (141, t141), (173, t173), (178, t178), (186, t186), (204, t204), (208, t208), (214, t214), (258, t258), (267, t267), (278, t278)], H)) := by
 have F := fits_may hF
 have hlc := live_of hc
 have i2n := idx_ll H hn (z := z2) (r := r2)
 have hsl := sliceC_lst H row zr rr i (by have := (qAu.1 hi0).1; omega) hz
 intro ys
 induction ys with
 | nil =>
  intro k hd hi t0 t1 t4 t6 t10 t11 t12 t13 t14 t15 t16 t17 t18 t19 t21 t23 t34 t42 t53 t58 t82 t90 t107 t115 t132 t141 t173 t178 t186 t204 t208 t214 t258 t267 t278
  rw [got_loop]
  simp only [l3_1, F3, Tryz.f3, sxAll, cA, arithA, Env.keep, qt_eq, fieldAddrA, Rv.part, TD.isAgg, ↓qAe, Nat.reduceBEq, Nat.reduceAdd, ↓reduceIte, load_ptr, load_ref, lenA_lst, intL_len, SProg.cells, hc, hlc, i2n, at_end hd, ty32, ty30, ty27]
  exact ⟨_, _, _, _, _, _, _, rfl⟩
 | cons y s ih =>
  intro k hd hi t0 t1 t4 t6 t10 t11 t12 t13 t14 t15 t16 t17 t18 t19 t21 t23 t34 t42 t53 t58 t82 t90 t107 t115 t132 t141 t173 t178 t186 t204 t208 t214 t258 t267 t278
  obtain ⟨hlt, hget, hd'⟩ := at_drop hd
  have hlt' : k < RN.length := by simpa using hlt
  have hw := wrap_succ (i := k) (by omega)
  have hyR : y ∈ reachOf (csP p) p.funs.length (n : Int) := by rw [← hRN]; exact qBj hget
  have hyr := (reachOf_mem _ _ _ _ (csP_rng F)).1 hyR
  obtain ⟨m, rfl, hmN⟩ := reachOf_nat hyR
  obtain ⟨zm, rm, hm⟩ := g2 m (reachOf (csP p) p.funs.length (m : Int)) (reachLs_at _ hmN)
  have hlM := reachOf_len (csP p) p.funs.length (m : Int)
  have hNl := F.1
  have hix := idx_ints H RN zn rn k (m : Int) hget
  have hh := has_eq (row.take i) (m : Int) zr (cutC rr) H (by simp; omega)
  rw [decide_eq_true (row_reach hro hyr hi0)] at hh
  obtain ⟨q, hx, t11', t115', t132', hq⟩ := runs_x p es0 es1 es2 es3 z0 z1 z2 z3 r0 r1 r2 r3 row zr rr H hc n m RN (reachOf (csP p) p.funs.length (m : Int)) zn zm rn rm hn hm (fun x hx => by
   rw [hRN]
   exact (reachOf_mem _ _ _ _ (csP_rng F)).2 (hyr.trans ((reachOf_mem _ _ _ _ (csP_rng F)).1 hx))) hlN (by omega) (reachOf (csP p) p.funs.length (m : Int)) 0 (by simp) (by omega) t0 t1 t4 t6 (.int .i64 i) (.int .i64 k) t12 t13 t14 t15 t16 t17 t18 t19 t21 t23 t34 t42 t53 t58 t82 (.bool true) (.bool false) t115 t132 t141 t173 t178 t186 t204 t208 t214 t258 t267 t278
  subst hq
  simp only [qBo] at hx
  have := ih (k + 1) hd' (by omega)
  rw [got_loop]
  simp only [l3_1, SProg.cells] at this hx ⊢
  simp only [F3, Tryz.f3, sxAll, cA, arithA, Env.keep, qt_eq, unA, fieldAddrA, Rv.part, TD.isAgg, optA, mapO, ↓qAe, Nat.reduceBEq, Nat.reduceAdd, ↓reduceIte, load_ptr, load_ref, lenA_lst, intL_len, hc, hlc, i2n, hlt, hix, hsl, hh, hw, hx, pu7, ty32, ty30, ty27, ty3] at this ⊢
  exact this _ _ _ _ _ _ _ _ _ _ _ _ _ _ _ _ _ _ _ _ _ _ _ _ _ _ _ _ _ _ _ _ _ _ _
theorem runs_c (H : Heap) (hc : H.obj 0 0 = some [.lst es0 z0 r0, .lst es1 z1 r1, .lst es2 z2 r2, .lst es3 z3 r3, .lst (intL row) zr rr]) (n : Nat) (F : SFun) (hF : p.funs[n]? = some F) (hFl : F.code.length < 100000000) (CN : List Int) (hCN : CN = csOf (csP p) (n : Int)) (zn : Nat) (rn : Room) (hn : es0[n]? = some (.lst (intL CN) zn rn)) (hlN : CN.length < 1000000) : ∀ (ys : List SIns) (k : Nat), F.code.drop k = ys -> k <= F.code.length -> ∀ t0 t1 t4 t6 t7 t9 t10 t11 t13 t14 t15 t16 t17 t18 t19 t21 t23 t34 t42 t53 t58 t82 t90 t107 t115 t132 t141 t173 t178 t186 t204 t208 t214 t258 t267 t278,
  Got (exec cfg 3 (.loop l3_3) [(0, t0), (1, t1), (2, .ref p.cells), (4, t4), (5, .ptr 0 0 0), (6, t6), (7, t7), (8, .int .i64 n), (9, t9), (10, t10), (11, t11), (12, .int .i64 k), (13, t13), (14, t14), (15, t15), (16, t16), (17, t17), (18, t18), (19, t19), (21, t21), (23, t23), (34, t34), (42, t42), (53, t53), (58, t58), (82, t82), (90, t90), (107, t107), (115, t115), (132, t132), (141, t141), (173, t173), (178, t178), (186, t186), (204, t204), (208, t208), (214, t214), (258, t258), (267, t267), (278, t278)] H) (fun q => ∃ t12 t141 t173, q = (.exit 6, [(0, t0), (1, t1), (2, .ref p.cells), (4, t4), (5, .ptr 0 0 0), (6, t6), (7, t7), (8, .int .i64 n), (9, t9), (10, t10), (11, t11), (12, t12), (13, t13), (14, t14), (15, t15), (16, t16), (17, t17), (18, t18), (19, t19), (21, t21), (23, t23), (34, t34), (42, t42), (53, t53), (58, t58), (82, t82), (90, t90), (107, t107), (115, t115), (132, t132), (141, t141), (173, t173), (178, t178), (186, t186), (204, t204), (208, t208), (214, t214), (258, t258), (267, t267), (278, t278)], H)) := by
 have hlc := live_of hc
 have i0n := idx_ll H hn (z := z0) (r := r0)
 have ifn := idx_fun H p hF
 intro ys
 induction ys with
 | nil =>
  intro k hd hi t0 t1 t4 t6 t7 t9 t10 t11 t13 t14 t15 t16 t17 t18 t19 t21 t23 t34 t42 t53 t58 t82 t90 t107 t115 t132 t141 t173 t178 t186 t204 t208 t214 t258 t267 t278
  rw [got_loop]
  simp only [l3_3, F3, Tryz.f3, sxAll, cA, arithA, Env.keep, qt_eq, fieldAddrA, Rv.part, TD.isAgg, ↓qAe, Nat.reduceBEq, ↓reduceIte, load_ref, lenA_lst, codeL_len, SProg.cells, SFun.cells, ifn, at_end hd, ty26, ty24, ty39, ty37]
  exact ⟨_, _, _, rfl⟩
 | cons y s ih =>
  intro k hd hi t0 t1 t4 t6 t7 t9 t10 t11 t13 t14 t15 t16 t17 t18 t19 t21 t23 t34 t42 t53 t58 t82 t90 t107 t115 t132 t141 t173 t178 t186 t204 t208 t214 t258 t267 t278
  obtain ⟨hlt, hget, hd'⟩ := at_drop hd
  have hlt' : k < F.code.length := by simpa using hlt
  have hw := wrap_succ (i := k) (by omega)
  have hiy := ins_addr H F hget
  have := ih (k + 1) hd' (by omega)
  rw [got_loop]
  simp only [l3_3, SProg.cells] at this ⊢
  cases ho : y.op == 10 with
  | false =>
   simp only [F3, Tryz.f3, sxAll, cA, arithA, Env.keep, qt_eq, fieldAddrA, Rv.part, TD.isAgg, ↓qAe, Nat.reduceBEq, ↓reduceIte, load_ref, lenA_lst, codeL_len, SFun.cells, SIns.cells, ifn, hiy, hlt, ho, hw, ty26, ty24, ty39, ty37, ty41, ty5] at this ⊢
   exact this _ _ _ _ _ _ _ _ _ _ _ _ _ _ _ _ _ _ _ _ _ _ _ _ _ _ _ _ _ _ _ _ _ _ _ _
  | true =>
   have hh := has_eq CN y.n zn rn H (by omega)
   rw [decide_eq_true (show y.n ∈ CN by rw [hCN]; exact calls_cs hF (qBj hget) (by simpa using ho))] at hh
   simp only [F3, Tryz.f3, sxAll, cA, arithA, Env.keep, qt_eq, unA, fieldAddrA, Rv.part, TD.isAgg, mapO, ↓qAe, Nat.reduceBEq, Nat.reduceAdd, ↓reduceIte, load_ptr, load_ref, lenA_lst, codeL_len, SFun.cells, SIns.cells, hc, hlc, i0n, ifn, hiy, hlt, ho, hh, hw, pu7, ty32, ty30, ty27, ty26, ty24, ty39, ty37, ty41, ty5, ty2] at this ⊢
   exact this _ _ _ _ _ _ _ _ _ _ _ _ _ _ _ _ _ _ _ _ _ _ _ _ _ _ _ _ _ _ _ _ _ _ _ _
theorem runs_i (hF : mayP p = true) (hw0 : p.wf) (g0 : ∀ (k : Nat) xs, (csP p)[k]? = some xs -> ∃ z r, es0[k]? = some (.lst (intL xs) z r)) (g2 : ∀ (k : Nat) xs, (reachLs (csP p) p.funs.length)[k]? = some xs -> ∃ z r, es2[k]? = some (.lst (intL xs) z r)) (hro : RowOk (csP p) p.funs.length row) (hz : zr = 1 ∨ row = []) (hrl : row.length < 1000000) (H : Heap) (hc : H.obj 0 0 = some [.lst es0 z0 r0, .lst es1 z1 r1, .lst es2 z2 r2, .lst es3 z3 r3, .lst (intL row) zr rr]) : ∀ (ys : List Int) (i : Nat), row.drop i = ys -> i <= row.length -> ∀ t0 t1 t4 t6 t8 t9 t10 t11 t12 t13 t14 t15 t16 t17 t18 t19 t21 t23 t34 t42 t53 t58 t82 t90 t107 t115 t132 t141 t173 t178 t186 t204 t208 t214 t258 t267 t278,
  Got (exec cfg 3 (.loop l3_0) [(0, t0), (1, t1), (2, .ref p.cells), (4, t4), (5, .ptr 0 0 0), (6, t6), (7, .int .i64 i), (8, t8), (9, t9), (10, t10), (11, t11), (12, t12), (13, t13), (14, t14), (15, t15), (16, t16), (17, t17), (18, t18), (19, t19), (21, t21), (23, t23), (34, t34), (42, t42), (53, t53), (58, t58), (82, t82), (90, t90), (107, t107), (115, t115), (132, t132), (141, t141), (173, t173), (178, t178), (186, t186), (204, t204), (208, t208), (214, t214), (258, t258), (267, t267), (278, t278)] H) (fun q => ∃ t7 t8 t9 t10 t11 t12 t58 t82 t90 t107 t115 t132 t141 t173, q = (.exit 0, [(0, t0), (1, t1), (2, .ref p.cells), (4, t4), (5, .ptr 0 0 0), (6, t6), (7, t7), (8, t8), (9, t9), (10, t10), (11, t11), (12, t12), (13, t13), (14, t14), (15, t15), (16, t16), (17, t17), (18, t18), (19, t19), (21, t21), (23, t23), (34, t34), (42, t42), (53, t53), (58, t58), (82, t82), (90, t90), (107, t107), (115, t115), (132, t132), (141, t141), (173, t173), (178, t178), (186, t186), (204, t204), (208, t208), (214, t214), (258, t258), (267, t267), (278, t278)], H)) := by
 have F := fits_may hF
 have hlc := live_of hc
 intro ys
 induction ys with
 | nil =>
  intro i hd hi t0 t1 t4 t6 t8 t9 t10 t11 t12 t13 t14 t15 t16 t17 t18 t19 t21 t23 t34 t42 t53 t58 t82 t90 t107 t115 t132 t141 t173 t178 t186 t204 t208 t214 t258 t267 t278
  rw [got_loop]
  simp only [l3_0, F3, Tryz.f3, sxAll, cA, arithA, Env.keep, qt_eq, fieldAddrA, Rv.part, TD.isAgg, ↓qAe, Nat.reduceBEq, Nat.reduceAdd, ↓reduceIte, load_ptr, lenA_lst, intL_len, SProg.cells, hc, hlc, at_end hd, ty32, ty27]
  exact ⟨_, _, _, _, _, _, _, _, _, _, _, _, _, _, rfl⟩
 | cons y s ih =>
  intro i hd hi t0 t1 t4 t6 t8 t9 t10 t11 t12 t13 t14 t15 t16 t17 t18 t19 t21 t23 t34 t42 t53 t58 t82 t90 t107 t115 t132 t141 t173 t178 t186 t204 t208 t214 t258 t267 t278
  obtain ⟨hlt, hget, hd'⟩ := at_drop hd
  have hlt' : i < row.length := by simpa using hlt
  have hw := wrap_succ (i := i) (by omega)
  obtain ⟨⟨hy0, hyN⟩, hno, hcs⟩ := hro i y hget
  obtain ⟨n, rfl⟩ : ∃ n : Nat, y = n := ⟨y.toNat, by omega⟩
  have hnN : n < p.funs.length := by omega
  obtain ⟨Fn, hFn⟩ : ∃ F, p.funs[n]? = some F := ⟨_, qAs hnN⟩
  have hFl : Fn.code.length < 100000000 := by have := hw0.2.2.2.2.2 Fn (qBj hFn); unfold SFun.wf at this; omega
  obtain ⟨z0n, r0n, hn0⟩ := g0 n (csOf (csP p) (n : Int)) (csP_at p hnN)
  obtain ⟨zn, rn, hn2⟩ := g2 n (reachOf (csP p) p.funs.length (n : Int)) (reachLs_at _ hnN)
  have hlN := reachOf_len (csP p) p.funs.length (n : Int)
  have hlC := csOf_len F (n : Int)
  have hNl := F.1
  have hix := idx_ints H row zr rr i (n : Int) hget
  have hsl := sliceC_lst H row zr rr i hi hz
  have hh := has_eq (row.take i) (n : Int) zr (cutC rr) H (by simp; omega)
  rw [decide_eq_false hno] at hh
  have c1 : ((n : Int) >= (p.funs.length : Int)) = False := eq_false (by omega)
  have c2 : (p.funs.length <= n) = False := eq_false (by omega)
  obtain ⟨q, hx, t9', t10', t11', t90', t107', t115', t132', hq⟩ := runs_k p es0 es1 es2 es3 z0 z1 z2 z3 r0 r1 r2 r3 row zr rr hF g2 hro hz hrl H hc i n hget hnN _ rfl zn rn hn2 (by omega) (reachOf (csP p) p.funs.length (n : Int)) 0 (by simp) (by omega) t0 t1 t4 t6 t10 t11 t12 t13 t14 t15 t16 t17 t18 t19 t21 t23 t34 t42 t53 (.bool true) (.bool false) t90 t107 t115 t132 t141 t173 t178 t186 t204 t208 t214 t258 t267 t278
  subst hq
  obtain ⟨q, hx2, t12', t141', t173', hq⟩ := runs_c p es0 es1 es2 es3 z0 z1 z2 z3 r0 r1 r2 r3 row zr rr H hc n Fn hFn hFl _ rfl z0n r0n hn0 (by omega) Fn.code 0 (by simp) (by omega) t0 t1 t4 t6 (.int .i64 i) (t9') (t10') (t11') t13 t14 t15 t16 t17 t18 t19 t21 t23 t34 t42 t53 (.bool true) (.bool false) (t90') (t107') (t115') (t132') t141 t173 t178 t186 t204 t208 t214 t258 t267 t278
  subst hq
  simp only [qBo] at hx hx2
  have := ih (i + 1) hd' (by omega)
  rw [got_loop]
  simp only [l3_0, SProg.cells] at this hx hx2 ⊢
  simp only [F3, Tryz.f3, sxAll, cA, arithA, Env.keep, qt_eq, fieldAddrA, Rv.part, TD.isAgg, optA, mapO, ↓qAe, Nat.reduceBEq, Nat.reduceAdd, ↓reduceIte, load_ptr, load_ref, lenA_lst, intL_len, funsL_len, hc, hlc, hlt, hix, hsl, hh, hw, c1, hx, hx2, pu7, ty32, ty27, ty3, ty26, ty24] at this ⊢
  exact this _ _ _ _ _ _ _ _ _ _ _ _ _ _ _ _ _ _ _ _ _ _ _ _ _ _ _ _ _ _ _ _ _ _ _ _ _
theorem runs_t (hl : p.funs.length < 1000000) (h0 : Heap) : ∀ (ys : List SFun) (i : Nat), p.funs.drop i = ys -> i <= p.funs.length -> ∀ (H : Heap) (v : AV) (acc : List Int), Own 1 h0 H v (intL acc) -> acc ++ thr ys i = thr p.funs 0 -> acc.length <= i -> ∀ t0 t1 t4 t5 t6 t7 t8 t9 t10 t11 t12 t15 t16 t17 t18 t19 t21 t23 t34 t42 t53 t58 t82 t90 t107 t115 t132 t141 t173 t178 t186 t204 t208 t214 t258 t267 t278,
  Got (exec cfg 3 (.loop l3_4) [(0, t0), (1, t1), (2, .ref p.cells), (4, t4), (5, t5), (6, t6), (7, t7), (8, t8), (9, t9), (10, t10), (11, t11), (12, t12), (13, v), (14, .int .i64 i), (15, t15), (16, t16), (17, t17), (18, t18), (19, t19), (21, t21), (23, t23), (34, t34), (42, t42), (53, t53), (58, t58), (82, t82), (90, t90), (107, t107), (115, t115), (132, t132), (141, t141), (173, t173), (178, t178), (186, t186), (204, t204), (208, t208), (214, t214), (258, t258), (267, t267), (278, t278)] H) (fun q => ∃ v' H' t14 t178 t186, q = (.exit 8, [(0, t0), (1, t1), (2, .ref p.cells), (4, t4), (5, t5), (6, t6), (7, t7), (8, t8), (9, t9), (10, t10), (11, t11), (12, t12), (13, v'), (14, t14), (15, t15), (16, t16), (17, t17), (18, t18), (19, t19), (21, t21), (23, t23), (34, t34), (42, t42), (53, t53), (58, t58), (82, t82), (90, t90), (107, t107), (115, t115), (132, t132), (141, t141), (173, t173), (178, t178), (186, t186), (204, t204), (208, t208), (214, t214), (258, t258), (267, t267), (278, t278)], H') /\ Own 1 h0 H' v' (intL (thr p.funs 0))) := by
 intro ys
 induction ys with
 | nil =>
  intro i hd hi H v acc O ha hal t0 t1 t4 t5 t6 t7 t8 t9 t10 t11 t12 t15 t16 t17 t18 t19 t21 t23 t34 t42 t53 t58 t82 t90 t107 t115 t132 t141 t173 t178 t186 t204 t208 t214 t258 t267 t278
  have ha : acc = thr p.funs 0 := by simpa [thr] using ha
  subst ha
  rw [got_loop]
  simp only [l3_4, F3, Tryz.f3, sxAll, cA, arithA, Env.keep, qt_eq, fieldAddrA, Rv.part, TD.isAgg, ↓qAe, Nat.reduceBEq, ↓reduceIte, load_ref, lenA_lst, funsL_len, SProg.cells, at_end hd, ty26, ty24]
  exact ⟨_, _, _, _, _, rfl, O⟩
 | cons F s ih =>
  intro i hd hi H v acc O ha hal t0 t1 t4 t5 t6 t7 t8 t9 t10 t11 t12 t15 t16 t17 t18 t19 t21 t23 t34 t42 t53 t58 t82 t90 t107 t115 t132 t141 t173 t178 t186 t204 t208 t214 t258 t267 t278
  obtain ⟨hlt, hget, hd'⟩ := at_drop hd
  have hlt' : i < p.funs.length := by simpa using hlt
  have hw := wrap_succ (i := i) (by omega)
  have ifn := fun H => idx_fun H p hget
  have kv := O.kn
  rw [got_loop]
  cases hb : F.thread with
  | false =>
   have ha' : acc ++ thr s (i + 1) = thr p.funs 0 := by simpa [thr, hb] using ha
   have := ih (i + 1) hd' (by omega) H v acc O ha' (by omega)
   simp only [l3_4, SProg.cells] at this ⊢
   simp only [F3, Tryz.f3, sxAll, cA, arithA, Env.keep, qt_eq, fieldAddrA, Rv.part, TD.isAgg, ↓qAe, Nat.reduceBEq, ↓reduceIte, load_ref, lenA_lst, funsL_len, SFun.cells, hlt, ifn, hb, hw, ty26, ty24, ty39, ty4] at this ⊢
   exact this _ _ _ _ _ _ _ _ _ _ _ _ _ _ _ _ _ _ _ _ _ _ _ _ _ _ _ _ _ _ _ _ _ _ _ _ _
  | true =>
   obtain ⟨v2, H2, hap, O2⟩ := O.push (ys := [.int .i64 (i : Int)]) (plain_ints acc) (plain_ints [(i : Int)]) (by simp [mostLen, intL]; omega)
   have ha' : (acc ++ [(i : Int)]) ++ thr s (i + 1) = thr p.funs 0 := by simpa [thr, hb] using ha
   have kv2 := O2.kn
   have := ih (i + 1) hd' (by omega) H2 v2 (acc ++ [(i : Int)]) (by simpa [intL] using O2) ha' (by simp; omega)
   simp only [l3_4, SProg.cells] at this ⊢
   simp only [F3, Tryz.f3, sxAll, cA, arithA, Env.keep, qt_eq, fieldAddrA, Rv.part, TD.isAgg, fillA, setCells, copies, ↓qAe, Nat.reduceBEq, Nat.reduceAdd, Nat.reduceMul, Nat.reduceLeDiff, Nat.reduceGT, bne, ↓reduceIte, load_ref, lenA_lst, funsL_len, SFun.cells, hlt, ifn, hb, hw, kv, kv2, hap, elems, group, ty27, ty3, ty26, ty24, ty39, ty4] at this ⊢
   exact this _ _ _ _ _ _ _ _ _ _ _ _ _ _ _ _ _ _ _ _ _ _ _ _ _ _ _ _ _ _ _ _ _ _ _ _ _
def Who (p : SProg) (t n : Nat) : Prop := (n : Int) = (thr p.funs 0).getD t 0 ∨ Rch (csP p) ((thr p.funs 0).getD t 0) (n : Int)
theorem who_call {p : SProg} (hm : mayP p = true) {t : Nat} {f : SFrame} {i : SIns} (h : Who p t f.fn) (hi : insAt (ownP p) f = some i) (ho : i.op = 10) : Who p t i.n.toNat := by
 obtain ⟨h1, h2⟩ := rch_call hm h hi ho
 exact .inr (by rw [Int.toNat_of_nonneg h2]; exact h1)
theorem runs_s (hF : mayP p = true) (g2 : ∀ (k : Nat) xs, (reachLs (csP p) p.funs.length)[k]? = some xs -> ∃ z r, es2[k]? = some (.lst (intL xs) z r)) (g3 : ∀ (k : Nat) xs, (rootsGo p p.funs 0 (turnedL (reachLs (csP p) p.funs.length)))[k]? = some xs -> ∃ z r, es3[k]? = some (.lst (intL xs) z r)) (hl3 : ∀ xs ∈ rootsGo p p.funs 0 (turnedL (reachLs (csP p) p.funs.length)), xs.length < 1000000)
  (H : Heap) (hc : H.obj 0 0 = some [.lst es0 z0 r0, .lst es1 z1 r1, .lst es2 z2 r2, .lst es3 z3 r3, .lst (intL row) zr rr]) (v : AV) (B : Built H v (intL (thr p.funs 0)) 1) (ρ : Nat -> Role) (s : Nat) (σ : SSt) (K : Nat) (A : At (ownP p) H ρ s σ) (W : SOk (ownP p) K σ) (hK : K < 1000000) (hI : InvT (Who p) (thr p.funs 0).length σ.thr) : ∀ (d t : Nat), t + d = (thr p.funs 0).length -> ∀ t0 t1 t2 t4 t6 t7 t8 t9 t10 t11 t12 t14 t16 t17 t19 t21 t23 t34 t42 t53 t58 t82 t90 t107 t115 t132 t141 t173 t178 t186 t204 t208 t214 t258 t267 t278,
  Got (exec cfg 3 (.loop l3_6) [(0, t0), (1, t1), (2, t2), (4, t4), (5, .ptr 0 0 0), (6, t6), (7, t7), (8, t8), (9, t9), (10, t10), (11, t11), (12, t12), (13, v), (14, t14), (15, .ptr s 0 0), (16, t16), (17, t17), (18, .int .i64 t), (19, t19), (21, t21), (23, t23), (34, t34), (42, t42), (53, t53), (58, t58), (82, t82), (90, t90), (107, t107), (115, t115), (132, t132), (141, t141), (173, t173), (178, t178), (186, t186), (204, t204), (208, t208), (214, t214), (258, t258), (267, t267), (278, t278)] H) (fun q => ∃ t18 t19 t21 t214 t258, q = (.exit 12, [(0, t0), (1, t1), (2, t2), (4, t4), (5, .ptr 0 0 0), (6, t6), (7, t7), (8, t8), (9, t9), (10, t10), (11, t11), (12, t12), (13, v), (14, t14), (15, .ptr s 0 0), (16, t16), (17, t17), (18, t18), (19, t19), (21, t21), (23, t23), (34, t34), (42, t42), (53, t53), (58, t58), (82, t82), (90, t90), (107, t107), (115, t115), (132, t132), (141, t141), (173, t173), (178, t178), (186, t186), (204, t204), (208, t208), (214, t214), (258, t258), (267, t267), (278, t278)], H)) := by
 have F := fits_may hF
 have hlc := live_of hc
 have few := W.few
 have hRd := rd_built ty27 rfl ty3 rfl rfl B (plain_ints (thr p.funs 0))
 have hkv := hRd.kn
 have hlen := hRd.len
 rw [intL_len] at hlen
 obtain ⟨m, mp, cv, tv, ov, cs, ts, R⟩ := A
 intro d
 induction d with
 | zero =>
  intro t ht t0 t1 t2 t4 t6 t7 t8 t9 t10 t11 t12 t14 t16 t17 t19 t21 t23 t34 t42 t53 t58 t82 t90 t107 t115 t132 t141 t173 t178 t186 t204 t208 t214 t258 t267 t278
  obtain rfl : t = (thr p.funs 0).length := by omega
  rw [got_loop]
  simp only [l3_6, F3, Tryz.f3, sxAll, cA, arithA, Env.keep, ↓qAe, Nat.reduceBEq, ↓reduceIte, hkv, hlen, Nat.lt_irrefl, ty27]
  exact ⟨_, _, _, _, _, rfl⟩
 | succ d ih =>
  intro t ht t0 t1 t2 t4 t6 t7 t8 t9 t10 t11 t12 t14 t16 t17 t19 t21 t23 t34 t42 t53 t58 t82 t90 t107 t115 t132 t141 t173 t178 t186 t204 t208 t214 t258 t267 t278
  have htl : t < (thr p.funs 0).length := by omega
  have hlt : (t < (thr p.funs 0).length) = True := eq_true htl
  have hT16 : (thr p.funs 0).length <= 16 := by rw [← hI.1]; exact few
  have hw := wrap_succ (i := t) (by omega)
  have hat := at_eq R W (by omega) (t : Int)
  rw [if_pos (by omega), Int.toNat_natCast] at hat
  have := ih (t + 1) (by omega)
  rw [got_loop]
  simp only [l3_6] at this ⊢
  cases htop : σ.top t with
  | none =>
   rw [htop] at hat
   simp only [F3, Tryz.f3, sxAll, cA, arithA, Env.keep, qt_eq, mapO, ↓qAe, Nat.reduceBEq, ↓reduceIte, hkv, hlen, hlt, hat, hw, pu10, ty27] at this ⊢
   exact this _ _ _ _ _ _ _ _ _ _ _ _ _ _ _ _ _ _ _ _ _ _ _ _ _ _ _ _ _ _ _ _ _ _ _ _
  | some f =>
   rw [htop] at hat
   obtain ⟨rest, hth⟩ := top_last htop
   have hfq := hI.2 t _ hth f (by simp)
   obtain ⟨G, _, hG, _, _⟩ := W.fr _ (qBj hth) f (by simp)
   have hfN : f.fn < p.funs.length := by
    have := (qAu.1 hG).1
    simpa [ownP] using this
   have hTt : (thr p.funs 0)[t]? = some ((thr p.funs 0).getD t 0) := by rw [qBp, qAs htl]; rfl
   obtain ⟨b, hb, hbN, hbt⟩ := thr_nat (qBj hTt)
   have hwho : (f.fn : Int) = (b : Int) ∨ Rch (csP p) (b : Int) (f.fn : Int) := by rw [← hb]; exact hfq
   rw [hb] at hTt
   obtain ⟨a, ha1, ha2, ha3⟩ := hRd.get t (.int .i64 (b : Int)) (by simp [intL, hTt])
   obtain ⟨z2b, r2b, h2b⟩ := g2 b (reachOf (csP p) p.funs.length (b : Int)) (reachLs_at _ hbN)
   obtain ⟨z3f, r3f, h3f⟩ := g3 f.fn _ (rootsGo_at p hfN)
   have hll := hl3 _ (qBj (rootsGo_at p hfN))
   have hlb := reachOf_len (csP p) p.funs.length (b : Int)
   have hNl := F.1
   have i2 := idx_ll H h2b (z := z2) (r := r2)
   have i3 := idx_ll H h3f (z := z3) (r := r3)
   have hroot : (b : Int) ∈ (rootsGo p p.funs 0 (turnedL (reachLs (csP p) p.funs.length))).getD f.fn [] := (back_roots hF hfN hbN).2 ⟨hbt, by
    rcases hwho with h | h
    ·exact .inl (by omega)
    ·exact .inr ((reachOf_mem _ _ _ _ (csP_rng F)).2 h)⟩
   have hh3 := has_eq _ (b : Int) z3f r3f H (show ((rootsGo p p.funs 0 (turnedL (reachLs (csP p) p.funs.length))).getD f.fn []).length < 1000000000 by omega)
   rw [decide_eq_true hroot] at hh3
   by_cases he : (f.fn : Int) = (b : Int)
   ·have e1 : ((f.fn : Int) == (b : Int)) = true := by simp [he]
    simp only [F3, Tryz.f3, sxAll, cA, arithA, Env.keep, qt_eq, unA, fieldAddrA, Rv.part, TD.isAgg, mapO, ↓qAe, Nat.reduceBEq, Nat.reduceAdd, bne, ↓reduceIte, load_ptr, load_ref, hc, hlc, hkv, hlen, hlt, hat, ha1, ha2, ha3, e1, i3, hh3, hw, pu10, pu7, ty32, ty30, ty27] at this ⊢
    exact this _ _ _ _ _ _ _ _ _ _ _ _ _ _ _ _ _ _ _ _ _ _ _ _ _ _ _ _ _ _ _ _ _ _ _ _
   ·have e1 : ((f.fn : Int) == (b : Int)) = false := by simp; omega
    have hh2 := has_eq (reachOf (csP p) p.funs.length (b : Int)) (f.fn : Int) z2b r2b H (by omega)
    rw [decide_eq_true ((reachOf_mem _ _ _ _ (csP_rng F)).2 (hwho.resolve_left he))] at hh2
    simp only [F3, Tryz.f3, sxAll, cA, arithA, Env.keep, qt_eq, unA, fieldAddrA, Rv.part, TD.isAgg, mapO, ↓qAe, Nat.reduceBEq, Nat.reduceAdd, bne, ↓reduceIte, load_ptr, load_ref, hc, hlc, hkv, hlen, hlt, hat, ha1, ha2, ha3, e1, i2, i3, hh2, hh3, hw, pu10, pu7, ty32, ty30, ty27] at this ⊢
    exact this _ _ _ _ _ _ _ _ _ _ _ _ _ _ _ _ _ _ _ _ _ _ _ _ _ _ _ _ _ _ _ _ _ _ _ _
end
end
end Go.Proofs.Sx
