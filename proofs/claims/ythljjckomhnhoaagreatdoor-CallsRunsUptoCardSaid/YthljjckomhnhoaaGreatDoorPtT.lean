/-
  Is a program large? Whatever is answered: it is answered.
-/
import Derived.Test.YthljjckomhnhoaaGreatDoorPtS
set_option linter.unusedSectionVars false
set_option linter.unusedSimpArgs false
set_option linter.unusedVariables false
set_option linter.defProp false
set_option maxHeartbeats 8000000
set_option maxRecDepth 100000
namespace Go.Proofs.Sx
open Go.Rv Go.Proofs
attribute [local congr] bind_left got_left
noncomputable section
theorem pu5 : cfg.pure 5 = true := rfl
instance t5 {d : Option Nat} : TightD cfg 5 d := ⟨fun _ _ => rfl⟩
def B5 (p : List Bool) := cA p Tryz.f5.body
def R5 (p : List Bool) (i : Nat) := Code.region i (cA p Tryz.f5.body) false
theorem F5 : (∀ p i, XR cfg 5 (R5 p i) (B5 p) (cA p Tryz.f5.body).toList i false) /\ cfg.imm 5 1 = true /\ GO cfg 5 (B5 [tt, tt, ff, tt, ff, ff, ff, ff]) 5 18 /\ GO cfg 5 (B5 [tt, tt, ff, tt, ff, ff, tt, ff, ff, tt, tt, ff, ff, ff, ff]) 9 43 /\ GO cfg 5 (B5 [tt, tt, tt, ff]) 2 64 /\ RE cfg 5 [0, 1, 2, 3, 4, 5, 21, 46] /\ cfg.pure 5 = true := ⟨fun _ _ => xr rfl rfl, by kernel_rfl, gO (by kernel_rfl), gO (by kernel_rfl), gO (by kernel_rfl), rE fun _ => rfl, rfl⟩
def l5_1 : Code := (.seq (.seq (R5 [tt, tt, ff, tt, ff, ff, tt, ff, ff, tt, tt, ff, ff, ff, ff] 7) (.cond (.tmp 46) .skip (.exit 2))) (.seq (.block 3 (R5 [tt, tt, ff, tt, ff, ff, tt, ff, ff, tt, tt, ff, ff, tt, ff, ff] 9)) (R5 [tt, tt, ff, tt, ff, ff, tt, ff, ff, tt, tt, ff, ff, tt, tt] 8)))
def l5_0 : Code := (.seq (.seq (R5 [tt, tt, ff, tt, ff, ff, ff, ff] 3) (.cond (.tmp 21) .skip (.exit 0))) (.seq (.block 1 (.seq (R5 [tt, tt, ff, tt, ff, ff, tt, ff, ff, ff] 5) (.seq (R5 [tt, tt, ff, tt, ff, ff, tt, ff, ff, tt, ff] 6) (.block 2 (.loop l5_1))))) (R5 [tt, tt, ff, tt, ff, ff, tt, tt] 4)))
def k5 : Code := (.seq (R5 [ff] 0) (.seq (R5 [tt, ff] 1) (.seq (.seq (R5 [tt, tt, ff, ff] 2) (.block 0 (.loop l5_0))) (.seq (R5 [tt, tt, tt, ff] 10) .ret))))
theorem call5 (x0 : AV) (h : Heap) : call cfg 5 [x0] h = (exec cfg 5 k5 [(0, x0)] h).bind (callEnd cfg 5 h [.tmp 2]) := call_at2 (fnat Tryz.func5 (b := k5) (by kernel_rfl) (by kernel_rfl)) rfl rfl
section
variable (p : SProg) (h : Heap)
theorem ins_addr (F : SFun) {i : Nat} {y : SIns} (hx : F.code[i]? = some y) : indexAddrA cfg h 37 (.lst (codeL F.code) F.cz F.room) (.int .i64 i) = some (.ref y.cells) := by
 have hx := codeL_get hx
 have hh : ¬ (i : Int) < 0 := by omega
 simp [indexAddrA, ty37, ty41, hh, hx, AV.cells, SIns.cells]
theorem large_inner (k : Nat) (F : SFun) (hF : p.funs[k]? = some F) (hFl : F.code.length < 100000000) : ∀ (ys : List SIns) (i : Nat), F.code.drop i = ys -> i <= F.code.length -> ∀ (s : Int), ∀ t0 t2 t21 t46,
  Got (exec cfg 5 (.loop l5_1) [(0, t0), (1, .ref p.cells), (2, t2), (3, .int .i64 s), (4, .int .i64 k), (5, .int .i64 i), (21, t21), (46, t46)] h) (fun q => ∃ s' : Int, ∃ t5 t46, q = (.exit 2, [(0, t0), (1, .ref p.cells), (2, t2), (3, .int .i64 s'), (4, .int .i64 k), (5, t5), (21, t21), (46, t46)], h)) := by
 have hix := idx_fun h p hF
 have hlen : (codeL F.code).length = F.code.length := by simp [codeL]
 intro ys
 induction ys with
 | nil =>
  intro i hd hi s t0 t2 t21 t46
  have hlt := at_end hd
  rw [got_loop]
  simp only [l5_1, F5, Tryz.f5, sxAll, cA, arithA, Env.keep, qt_eq, fieldAddrA, Rv.part, TD.isAgg, ↓qAe, Nat.reduceBEq, ↓reduceIte, load_ref, lenA_lst, SProg.cells, SFun.cells, hix, hlen, hlt, ty26, ty24, ty39, ty37]
  exact ⟨_, _, _, rfl⟩
 | cons y r ih =>
  intro i hd hi s t0 t2 t21 t46
  obtain ⟨hlt, hget, hd'⟩ := at_drop hd
  have hlt' : i < F.code.length := by simpa using hlt
  have hw' := wrap_succ (i := i) (by omega)
  have hiy := ins_addr h F hget
  have := ih (i + 1) hd' (by omega) (IntKind.i64.wrap (s + y.args.length))
  rw [got_loop]
  simp only [l5_1, SProg.cells] at this ⊢
  by_cases h1 : s < 4000
  ·simp only [F5, Tryz.f5, sxAll, cA, arithA, Env.keep, qt_eq, fieldAddrA, Rv.part, TD.isAgg, ↓qAe, Nat.reduceBEq, ↓reduceIte, load_ref, lenA_lst, intL_len, SFun.cells, SIns.cells, hix, hiy, hlen, hlt, h1, hw', ty26, ty24, ty39, ty37, ty41, ty27] at this ⊢
   exact this _ _ _ _
  ·simp only [F5, Tryz.f5, sxAll, cA, arithA, Env.keep, qt_eq, fieldAddrA, Rv.part, TD.isAgg, ↓qAe, Nat.reduceBEq, ↓reduceIte, load_ref, lenA_lst, SFun.cells, hix, hlen, hlt, h1, ty26, ty24, ty39, ty37]
   exact ⟨_, _, _, rfl⟩
variable (hw : p.wf)
include hw
theorem large_outer : ∀ (ys : List SFun) (k : Nat), p.funs.drop k = ys -> k <= p.funs.length -> ∀ (s : Int), ∀ t0 t2 t5 t21 t46,
  Got (exec cfg 5 (.loop l5_0) [(0, t0), (1, .ref p.cells), (2, t2), (3, .int .i64 s), (4, .int .i64 k), (5, t5), (21, t21), (46, t46)] h) (fun q => ∃ s' : Int, ∃ t4 t5 t21 t46, q = (.exit 0, [(0, t0), (1, .ref p.cells), (2, t2), (3, .int .i64 s'), (4, t4), (5, t5), (21, t21), (46, t46)], h)) := by
 have hlen : (funsL p.funs).length = p.funs.length := by simp [funsL]
 intro ys
 induction ys with
 | nil =>
  intro k hd hi s t0 t2 t5 t21 t46
  have hlt := at_end hd
  rw [got_loop]
  simp only [l5_0, F5, Tryz.f5, sxAll, cA, arithA, Env.keep, qt_eq, fieldAddrA, Rv.part, TD.isAgg, ↓qAe, Nat.reduceBEq, ↓reduceIte, load_ref, lenA_lst, SProg.cells, hlen, hlt, ty26, ty24]
  exact ⟨_, _, _, _, _, rfl⟩
 | cons F r ih =>
  intro k hd hi s t0 t2 t5 t21 t46
  obtain ⟨hlt, hget, hd'⟩ := at_drop hd
  have hlt' : k < p.funs.length := by simpa using hlt
  have hw' := wrap_succ (i := k) (by have := hw.2.2.1; omega)
  have hix := idx_fun h p hget
  have hlc : (codeL F.code).length = F.code.length := by simp [codeL]
  have hFw := hw.2.2.2.2.2 F (qBj hget)
  obtain ⟨q, hx, s', t5', t46', hq⟩ := large_inner p h k F hget (by have := hFw; unfold SFun.wf at this; omega) F.code 0 (by simp) (by omega) (IntKind.i64.wrap (IntKind.i64.wrap (s + 20) + F.code.length)) t0 t2 (.bool true) t46
  subst hq
  have := ih (k + 1) hd' (by omega) s'
  simp only [qBo] at hx
  rw [got_loop]
  simp only [l5_0, SProg.cells, SFun.cells] at this hx hix ⊢
  by_cases h1 : s < 4000
  ·simp only [F5, Tryz.f5, sxAll, cA, arithA, Env.keep, qt_eq, fieldAddrA, Rv.part, TD.isAgg, ↓qAe, Nat.reduceBEq, ↓reduceIte, load_ref, lenA_lst, hix, hlc, hlen, hlt, h1, hx, hw', ty26, ty24, ty39, ty37] at this ⊢
   exact this _ _ _ _ _
  ·simp only [F5, Tryz.f5, sxAll, cA, arithA, Env.keep, qt_eq, fieldAddrA, Rv.part, TD.isAgg, ↓qAe, Nat.reduceBEq, ↓reduceIte, load_ref, lenA_lst, hlen, hlt, h1, ty26, ty24]
   exact ⟨_, _, _, _, _, rfl⟩
theorem large_eq : ∃ b, call cfg 5 [.agg p.cells] h = some (.ret (.bool b), h) := by
 have l1 : (funsL p.funs).length = p.funs.length := by simp [funsL]
 have l2 : (memsL p.mems).length = p.mems.length := by simp [memsL]
 have l3 : (strL p.locks).length = p.locks.length := by simp [strL]
 obtain ⟨q, hx, s', t4, t5, t21, t46, hq⟩ := large_outer p h hw p.funs 0 (by simp) (by omega) (IntKind.i64.wrap ((p.mems.length : Int) + p.locks.length)) (.agg p.cells) (.bool false) .junk .junk .junk
 subst hq
 simp only [qBo, SProg.cells] at hx
 rw [call5]
 simp only [SProg.cells]
 by_cases h1 : s' >= 4000
 ·exact ⟨true, by
   simp only [F5, k5, Tryz.f5, sxAll, cA, arithA, Env.keep, qt_eq, resultsA, packA, fieldAddrA, Rv.part, TD.isAgg, ↓qAe, Nat.reduceBEq, Nat.reduceAdd, ↓reduceIte, load_ref, lenA_lst, l2, l3, hx, h1, ty26, ty22, ty23]
   exact leave_kept rfl rfl⟩
 by_cases h2 : (p.funs.length : Int) > 60
 ·exact ⟨true, by
   simp only [F5, k5, Tryz.f5, sxAll, cA, arithA, Env.keep, qt_eq, resultsA, packA, fieldAddrA, Rv.part, TD.isAgg, ↓qAe, Nat.reduceBEq, Nat.reduceAdd, ↓reduceIte, load_ref, lenA_lst, l1, l2, l3, hx, h1, h2, ty26, ty22, ty23, ty24]
   exact leave_kept rfl rfl⟩
 ·exact ⟨false, by
   simp only [F5, k5, Tryz.f5, sxAll, cA, arithA, Env.keep, qt_eq, resultsA, packA, fieldAddrA, Rv.part, TD.isAgg, ↓qAe, Nat.reduceBEq, Nat.reduceAdd, ↓reduceIte, load_ref, lenA_lst, l1, l2, l3, hx, h1, h2, ty26, ty22, ty23, ty24]
   exact leave_kept rfl rfl⟩
end
end
end Go.Proofs.Sx
