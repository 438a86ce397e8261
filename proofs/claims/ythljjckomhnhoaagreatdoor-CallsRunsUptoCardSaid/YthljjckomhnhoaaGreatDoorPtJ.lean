/-
  package code: 'bare', 'number'; a program's picture.
-/
import Derived.Test.YthljjckomhnhoaaGreatDoorPtI
set_option linter.unusedSectionVars false
set_option linter.unusedSimpArgs false
set_option linter.unusedVariables false
set_option linter.defProp false
set_option maxHeartbeats 4000000
set_option maxRecDepth 100000
namespace Go.Proofs.Sx
open Go.Rv Go.Proofs
attribute [local congr] bind_left got_left
noncomputable section
def bareOf (q : Row) (i : SIns) : SIns where
 op := 0
 r := if q.1 then 0 else i.r
 a := if q.2.1 then 0 else i.a
 b := if q.2.2.1 then 0 else i.b
 n := if q.2.2.2.2 = 0 then i.n else 0
 args := if q.2.2.2.2 = 6 then [] else i.args
 z := if q.2.2.2.2 = 6 then 0 else i.z
 room := if q.2.2.2.2 = 6 then .nil else i.room
theorem freeze_ins (h : Heap) (n d : Nat) (i : SIns) : freezeV h n (d + 3) (.agg i.cells) = some (.agg i.cells) := by
 show (mapO (freezeV h n (d + 2)) i.cells).map AV.agg = _
 simp only [SIns.cells, mapO, freeze_lint]
 rfl
theorem pu92 : cfg.pure 92 = true := rfl
instance t92 {d : Option Nat} : TightD cfg 92 d := ⟨fun _ _ => rfl⟩
def B92 (p : List Bool) := cA p Tryz.f92.body
def R92 (p : List Bool) (i : Nat) := Code.region i (cA p Tryz.f92.body) false
theorem F92 : (∀ p i, XR cfg 92 (R92 p i) (B92 p) (cA p Tryz.f92.body).toList i false) /\ cfg.imm 92 2 = true /\ cfg.imm 92 3 = false /\ RE cfg 92 [0, 1, 2, 3, 4, 7, 10, 13, 17, 21] /\ cfg.pure 92 = true := ⟨fun _ _ => xr rfl rfl, by kernel_rfl, by kernel_rfl, rE fun _ => rfl, rfl⟩
def k92 : Code := (.seq (R92 [ff] 0) (.seq (R92 [tt, ff] 1) (.seq (.seq (R92 [tt, tt, ff, ff] 2) (.cond (.tmp 7) (R92 [tt, tt, ff, tt, ff] 3) .skip)) (.seq (.seq (R92 [tt, tt, tt, ff, ff] 4) (.cond (.tmp 10) (R92 [tt, tt, tt, ff, tt, ff] 5) .skip)) (.seq (.seq (R92 [tt, tt, tt, tt, ff, ff] 6) (.cond (.tmp 13) (R92 [tt, tt, tt, tt, ff, tt, ff] 7) .skip)) (.seq (.seq (R92 [tt, tt, tt, tt, tt, ff, ff] 8) (.cond (.tmp 17) (R92 [tt, tt, tt, tt, tt, ff, tt, ff] 9) .skip)) (.seq (.seq (R92 [tt, tt, tt, tt, tt, tt, ff, ff] 10) (.cond (.tmp 21) (R92 [tt, tt, tt, tt, tt, tt, ff, tt, ff] 11) .skip)) (.seq (R92 [tt, tt, tt, tt, tt, tt, tt, ff] 12) .ret))))))))
theorem call92 (x0 x1 : AV) (h : Heap) : call cfg 92 [x0, x1] h = (exec cfg 92 k92 [(0, x0), (1, x1)] h).bind (callEnd cfg 92 h [.cell 4 41]) := call_at2 (fnat Tryz.func92 (b := k92) (by kernel_rfl) (by kernel_rfl)) rfl rfl
theorem bare_eq (q : Row) (i : SIns) (h : Heap) : call cfg 92 [.agg (rowCells q), .agg i.cells] h = some (.ret (.agg (bareOf q i).cells), h) := by
 rw [call92]
 obtain ⟨q1, q2, q3, q4, n⟩ := q
 by_cases h0 : n = 0
 ·subst h0
  cases q1 <;> cases q2 <;> cases q3 <;> simp only [SIns.cells, rowCells, F92, k92, Tryz.f92, sxAll, cA, arithA, Env.keep, qt_eq, resultsA, packA, storeA, fieldAddrA, loadA, Rv.part, cellsAt, TD.isAgg, setCells, ↓qAe, Nat.reduceBEq, Nat.reduceAdd, Nat.reduceLeDiff, Int.reduceBEq, bne, ↓reduceIte, ty41, ty136, ty5, ty3, ty4, bareOf, Int.reduceEq] <;> exact leave_pure rfl (by simp) (freeze_ins _ _ 37 ⟨_, _, _, _, _, _, _, _⟩)
 ·have e0 : (n == 0) = false := by simp [h0]
  by_cases h6 : n = 6
  ·subst h6
   cases q1 <;> cases q2 <;> cases q3 <;> simp only [SIns.cells, rowCells, F92, k92, Tryz.f92, sxAll, cA, arithA, Env.keep, qt_eq, resultsA, packA, storeA, fieldAddrA, loadA, Rv.part, cellsAt, TD.isAgg, setCells, ↓qAe, Nat.reduceBEq, Nat.reduceAdd, Nat.reduceLeDiff, Int.reduceBEq, bne, ↓reduceIte, ty41, ty136, ty5, ty3, ty2, ty4, ty27, bareOf, Int.reduceEq] <;> exact leave_pure rfl (by simp) (freeze_ins _ _ 37 ⟨_, _, _, _, _, [], _, _⟩)
  ·have e6 : (n == 6) = false := by simp [h6]
   cases q1 <;> cases q2 <;> cases q3 <;> simp only [SIns.cells, rowCells, F92, k92, Tryz.f92, sxAll, cA, arithA, Env.keep, qt_eq, resultsA, packA, storeA, fieldAddrA, loadA, Rv.part, cellsAt, TD.isAgg, setCells, ↓qAe, Nat.reduceBEq, Nat.reduceAdd, Nat.reduceLeDiff, bne, ↓reduceIte, ty41, ty136, ty5, ty3, ty2, ty4, e0, e6, bareOf, h0, h6] <;> exact leave_pure rfl (by simp) (freeze_ins _ _ 37 ⟨_, _, _, _, _, _, _, _⟩)
structure SMem where
 name : List UInt8
 size : Int
 first : Int
structure SFun where
 name : List UInt8
 thread : Bool
 params : Int
 regs : Int
 code : List SIns
 cz : Nat
 room : Room
structure SProg where
 mems : List SMem
 mz : Nat
 mroom : Room
 locks : List (List UInt8)
 lz : Nat
 lroom : Room
 funs : List SFun
 fz : Nat
 froom : Room
def SMem.cells (m : SMem) : List AV := [.str m.name, .int .i64 m.size, .int .i64 m.first]
def codeL (l : List SIns) : List AV := l.map fun i => .agg i.cells
def SFun.cells (f : SFun) : List AV := [.str f.name, .bool f.thread, .int .i64 f.params, .int .i64 f.regs, .lst (codeL f.code) f.cz f.room]
def memsL (l : List SMem) : List AV := l.map fun m => .agg m.cells
def strL (l : List (List UInt8)) : List AV := l.map AV.str
def funsL (l : List SFun) : List AV := l.map fun f => .agg f.cells
def SProg.cells (p : SProg) : List AV := [.lst (memsL p.mems) p.mz p.mroom, .lst (strL p.locks) p.lz p.lroom, .lst (funsL p.funs) p.fz p.froom]
theorem codeL_len (l : List SIns) : (codeL l).length = l.length := by simp [codeL]
theorem memsL_len (l : List SMem) : (memsL l).length = l.length := by simp [memsL]
theorem strL_len (l : List (List UInt8)) : (strL l).length = l.length := by simp [strL]
theorem funsL_len (l : List SFun) : (funsL l).length = l.length := by simp [funsL]
theorem codeL_get {l : List SIns} {n : Nat} {x : SIns} (h : l[n]? = some x) : (codeL l)[n]? = some (.agg x.cells) := by simp [codeL, h]
theorem memsL_get {l : List SMem} {n : Nat} {x : SMem} (h : l[n]? = some x) : (memsL l)[n]? = some (.agg x.cells) := by simp [memsL, h]
theorem strL_get {l : List (List UInt8)} {n : Nat} {x : List UInt8} (h : l[n]? = some x) : (strL l)[n]? = some (.str x) := by simp [strL, h]
theorem funsL_get {l : List SFun} {n : Nat} {x : SFun} (h : l[n]? = some x) : (funsL l)[n]? = some (.agg x.cells) := by simp [funsL, h]
def numberB (p : SProg) (f : SFun) (q : Row) (i : SIns) : Bool :=
 if q.2.2.2.2 = 2 then decide (i.n = 5) || decide (i.n = 6)
 else if q.2.2.2.2 = 3 then decide (7 <= i.n) && decide (i.n <= 17)
 else if q.2.2.2.2 = 4 then decide (0 <= i.n) && decide (i.n < p.mems.length)
 else if q.2.2.2.2 = 5 then decide (0 <= i.n) && decide (i.n < p.locks.length)
 else if q.2.2.2.2 = 7 then decide (0 <= i.n) && decide (i.n < f.code.length)
 else if q.2.2.2.2 = 6 then decide (0 <= i.n) && match p.funs[i.n.toNat]? with
  | some g => !g.thread && decide ((i.args.length : Int) = g.params)
  | none => false
 else true
theorem beq_dec (a b : Int) : (a == b) = decide (a = b) := rfl
theorem pu93 : cfg.pure 93 = true := rfl
instance t93 {d : Option Nat} : TightD cfg 93 d := ⟨fun _ _ => rfl⟩
def B93 (p : List Bool) := cA p Tryz.f93.body
def R93 (p : List Bool) (i : Nat) := Code.region i (cA p Tryz.f93.body) false
def D93 (p : List Bool) (i : Nat) := Code.region i (cA p Tryz.f93.body) true
theorem F93 : (∀ p i, XR cfg 93 (R93 p i) (B93 p) (cA p Tryz.f93.body).toList i false) /\ cfg.imm 93 4 = true /\ cfg.imm 93 5 = true /\ cfg.imm 93 6 = true /\ cfg.imm 93 7 = true /\ GO cfg 93 (B93 [tt, tt, ff, tt, ff, tt, ff, ff]) 2 18 /\ GO cfg 93 (B93 [tt, tt, ff, tt, ff, tt, tt, tt, ff, ff]) 2 26 /\ GO cfg 93 (B93 [tt, tt, ff, tt, ff, tt, tt, tt, tt, tt, ff, ff]) 2 34 /\ GO cfg 93 (B93 [tt, tt, ff, tt, ff, tt, tt, tt, tt, tt, tt, tt, ff, ff]) 2 45 /\ GO cfg 93 (B93 [tt, tt, ff, tt, ff, tt, tt, tt, tt, tt, tt, tt, tt, tt, ff, ff]) 2 56 /\ XR cfg 93 (D93 [tt, tt, ff, tt, ff, tt, tt, tt, tt, tt, tt, tt, tt, tt, tt, tt, ff, ff] 14) (B93 [tt, tt, ff, tt, ff, tt, tt, tt, tt, tt, tt, tt, tt, tt, tt, tt, ff, ff]) ((cA [tt, tt, ff, tt, ff, tt, tt, tt, tt, tt, tt, tt, tt, tt, tt, tt, ff, ff] Tryz.f93.body).toList) 14 true /\ GO cfg 93 (B93 [tt, tt, ff, tt, ff, tt, tt, tt, tt, tt, tt, tt, tt, tt, tt, tt, ff, ff]) 2 67 /\ GO cfg 93 (B93 [tt, tt, ff, tt, ff, tt, tt, tt, tt, tt, tt, tt, tt, tt, tt, tt, ff, ff]) 9 74 /\ GO cfg 93 (B93 [tt, tt, ff, tt, ff, tt, tt, tt, tt, tt, tt, tt, tt, tt, tt, tt, ff, ff]) 18 83 /\ RE cfg 93 [0, 1, 2, 3, 4, 5, 6, 7, 8, 9, 13, 14, 22, 30, 41, 52, 63] /\ cfg.pure 93 = true := ⟨fun _ _ => xr rfl rfl, by kernel_rfl, by kernel_rfl, by kernel_rfl, by kernel_rfl, gO (by kernel_rfl), gO (by kernel_rfl), gO (by kernel_rfl), gO (by kernel_rfl), gO (by kernel_rfl), xd (by kernel_rfl) rfl rfl, gO (by kernel_rfl), gO (by kernel_rfl), gO (by kernel_rfl), rE fun _ => rfl, rfl⟩
def k93 : Code := (.seq (R93 [ff] 0) (.seq (R93 [tt, ff] 1) (.seq (.seq (R93 [tt, tt, ff, ff] 2) (.block 0 (.seq (R93 [tt, tt, ff, tt, ff, ff] 3) (.cond (.tmp 14) (.seq (R93 [tt, tt, ff, tt, ff, tt, ff, ff] 4) .ret) (.seq (R93 [tt, tt, ff, tt, ff, tt, tt, ff] 5) (.cond (.tmp 22) (.seq (R93 [tt, tt, ff, tt, ff, tt, tt, tt, ff, ff] 6) .ret) (.seq (R93 [tt, tt, ff, tt, ff, tt, tt, tt, tt, ff] 7) (.cond (.tmp 30) (.seq (R93 [tt, tt, ff, tt, ff, tt, tt, tt, tt, tt, ff, ff] 8) .ret) (.seq (R93 [tt, tt, ff, tt, ff, tt, tt, tt, tt, tt, tt, ff] 9) (.cond (.tmp 41) (.seq (R93 [tt, tt, ff, tt, ff, tt, tt, tt, tt, tt, tt, tt, ff, ff] 10) .ret) (.seq (R93 [tt, tt, ff, tt, ff, tt, tt, tt, tt, tt, tt, tt, tt, ff] 11) (.cond (.tmp 52) (.seq (R93 [tt, tt, ff, tt, ff, tt, tt, tt, tt, tt, tt, tt, tt, tt, ff, ff] 12) .ret) (.seq (R93 [tt, tt, ff, tt, ff, tt, tt, tt, tt, tt, tt, tt, tt, tt, tt, ff] 13) (.cond (.tmp 63) (.seq (D93 [tt, tt, ff, tt, ff, tt, tt, tt, tt, tt, tt, tt, tt, tt, tt, tt, ff, ff] 14) .ret) .skip)))))))))))))) (.seq (R93 [tt, tt, tt, ff] 15) .ret))))
theorem call93 (x0 x1 x2 x3 : AV) (h : Heap) : call cfg 93 [x0, x1, x2, x3] h = (exec cfg 93 k93 [(0, x0), (1, x1), (2, x2), (3, x3)] h).bind (callEnd cfg 93 h [.tmp 8]) := call_at2 (fnat Tryz.func93 (b := k93) (by kernel_rfl) (by kernel_rfl)) rfl rfl
theorem number_eq (p : SProg) (f : SFun) (q : Row) (i : SIns) (h : Heap) : call cfg 93 [.agg p.cells, .agg f.cells, .agg (rowCells q), .agg i.cells] h = some (.ret (.bool (numberB p f q i)), h) := by
 rw [call93]
 obtain ⟨q1, q2, q3, q4, n⟩ := q
 unfold numberB
 dsimp only
 by_cases h2 : n = 2
 ·subst h2
  by_cases ha : i.n = 5
  ·have ea : (i.n == 5) = true := by simp [ha]
   simp only [SProg.cells, SFun.cells, SIns.cells, rowCells, F93, k93, Tryz.f93, sxAll, cA, arithA, Env.keep, qt_eq, resultsA, packA, fieldAddrA, loadA, Rv.part, cellsAt, TD.isAgg, ↓qAe, Nat.reduceBEq, Nat.reduceAdd, ↓reduceIte, ty26, ty39, ty41, ty136, ty3, ty2, ea]
   try simp only [ha, decide_true, Bool.true_or]
   exact leave_kept rfl rfl
  ·have ea : (i.n == 5) = false := by simp [ha]
   simp only [SProg.cells, SFun.cells, SIns.cells, rowCells, F93, k93, Tryz.f93, sxAll, cA, arithA, Env.keep, qt_eq, resultsA, packA, fieldAddrA, loadA, Rv.part, cellsAt, TD.isAgg, ↓qAe, Nat.reduceBEq, Nat.reduceAdd, ↓reduceIte, ty26, ty39, ty41, ty136, ty3, ty2, ea]
   try simp only [ha, decide_false, Bool.false_or, beq_dec]
   exact leave_kept rfl rfl
 have e2 : (n == 2) = false := by simp [h2]
 rw [if_neg h2]
 by_cases h3 : n = 3
 ·subst h3
  by_cases ha : 7 <= i.n
  ·have ea : (i.n >= 7) = True := by simp [ha]
   simp only [e2, SProg.cells, SFun.cells, SIns.cells, rowCells, F93, k93, Tryz.f93, sxAll, cA, arithA, Env.keep, qt_eq, resultsA, packA, fieldAddrA, loadA, Rv.part, cellsAt, TD.isAgg, ↓qAe, Nat.reduceBEq, Nat.reduceAdd, ↓reduceIte, ty26, ty39, ty41, ty136, ty3, ty2, ea]
   try simp only [ha, decide_true, Bool.true_and, if_true, Int.reduceEq, if_false]
   exact leave_kept rfl rfl
  ·have ea : (i.n >= 7) = False := by simp; omega
   simp only [e2, SProg.cells, SFun.cells, SIns.cells, rowCells, F93, k93, Tryz.f93, sxAll, cA, arithA, Env.keep, qt_eq, resultsA, packA, fieldAddrA, loadA, Rv.part, cellsAt, TD.isAgg, ↓qAe, Nat.reduceBEq, Nat.reduceAdd, ↓reduceIte, ty26, ty39, ty41, ty136, ty3, ty2, ea]
   try simp only [ha, decide_false, Bool.false_and, if_true, Int.reduceEq, if_false]
   exact leave_kept rfl rfl
 have e3 : (n == 3) = false := by simp [h3]
 rw [if_neg h3]
 by_cases h4 : n = 4
 ·subst h4
  by_cases ha : 0 <= i.n
  ·have ea : (i.n >= 0) = True := by simp [ha]
   simp only [e2, e3, SProg.cells, SFun.cells, SIns.cells, rowCells, F93, k93, Tryz.f93, sxAll, cA, arithA, Env.keep, qt_eq, resultsA, packA, fieldAddrA, loadA, Rv.part, cellsAt, TD.isAgg, lenA, ↓qAe, Nat.reduceBEq, Nat.reduceAdd, ↓reduceIte, ty26, ty39, ty41, ty136, ty3, ty2, ty22, memsL_len, ea]
   try simp only [ha, decide_true, Bool.true_and, if_true, Int.reduceEq, if_false]
   exact leave_kept rfl rfl
  ·have ea : (i.n >= 0) = False := by simp; omega
   simp only [e2, e3, SProg.cells, SFun.cells, SIns.cells, rowCells, F93, k93, Tryz.f93, sxAll, cA, arithA, Env.keep, qt_eq, resultsA, packA, fieldAddrA, loadA, Rv.part, cellsAt, TD.isAgg, ↓qAe, Nat.reduceBEq, Nat.reduceAdd, ↓reduceIte, ty26, ty39, ty41, ty136, ty3, ty2, ea]
   try simp only [ha, decide_false, Bool.false_and, if_true, Int.reduceEq, if_false]
   exact leave_kept rfl rfl
 have e4 : (n == 4) = false := by simp [h4]
 rw [if_neg h4]
 by_cases h5 : n = 5
 ·subst h5
  by_cases ha : 0 <= i.n
  ·have ea : (i.n >= 0) = True := by simp [ha]
   simp only [e2, e3, e4, SProg.cells, SFun.cells, SIns.cells, rowCells, F93, k93, Tryz.f93, sxAll, cA, arithA, Env.keep, qt_eq, resultsA, packA, fieldAddrA, loadA, Rv.part, cellsAt, TD.isAgg, lenA, ↓qAe, Nat.reduceBEq, Nat.reduceAdd, ↓reduceIte, ty26, ty39, ty41, ty136, ty3, ty2, ty23, strL_len, ea]
   try simp only [ha, decide_true, Bool.true_and, if_true, Int.reduceEq, if_false]
   exact leave_kept rfl rfl
  ·have ea : (i.n >= 0) = False := by simp; omega
   simp only [e2, e3, e4, SProg.cells, SFun.cells, SIns.cells, rowCells, F93, k93, Tryz.f93, sxAll, cA, arithA, Env.keep, qt_eq, resultsA, packA, fieldAddrA, loadA, Rv.part, cellsAt, TD.isAgg, ↓qAe, Nat.reduceBEq, Nat.reduceAdd, ↓reduceIte, ty26, ty39, ty41, ty136, ty3, ty2, ea]
   try simp only [ha, decide_false, Bool.false_and, if_true, Int.reduceEq, if_false]
   exact leave_kept rfl rfl
 have e5 : (n == 5) = false := by simp [h5]
 rw [if_neg h5]
 by_cases h7 : n = 7
 ·subst h7
  by_cases ha : 0 <= i.n
  ·have ea : (i.n >= 0) = True := by simp [ha]
   simp only [e2, e3, e4, e5, SProg.cells, SFun.cells, SIns.cells, rowCells, F93, k93, Tryz.f93, sxAll, cA, arithA, Env.keep, qt_eq, resultsA, packA, fieldAddrA, loadA, Rv.part, cellsAt, TD.isAgg, lenA, ↓qAe, Nat.reduceBEq, Nat.reduceAdd, ↓reduceIte, ty26, ty39, ty41, ty136, ty3, ty2, ty37, codeL_len, ea]
   try simp only [ha, decide_true, Bool.true_and, if_true, Int.reduceEq, if_false]
   exact leave_kept rfl rfl
  ·have ea : (i.n >= 0) = False := by simp; omega
   simp only [e2, e3, e4, e5, SProg.cells, SFun.cells, SIns.cells, rowCells, F93, k93, Tryz.f93, sxAll, cA, arithA, Env.keep, qt_eq, resultsA, packA, fieldAddrA, loadA, Rv.part, cellsAt, TD.isAgg, ↓qAe, Nat.reduceBEq, Nat.reduceAdd, ↓reduceIte, ty26, ty39, ty41, ty136, ty3, ty2, ea]
   try simp only [ha, decide_false, Bool.false_and, if_true, Int.reduceEq, if_false]
   exact leave_kept rfl rfl
 have e7 : (n == 7) = false := by simp [h7]
 rw [if_neg h7]
 by_cases h6 : n = 6
 ·subst h6
  by_cases ha : 0 <= i.n
  ·have ea : (i.n >= 0) = True := by simp [ha]
   by_cases hb : i.n < p.funs.length
   ·have eb : (i.n < (p.funs.length : Int)) = True := by simp [hb]
    obtain ⟨g, hg⟩ : ∃ g, p.funs[i.n.toNat]? = some g := ⟨_, qAs (by omega)⟩
    have hg' := funsL_get hg
    have hneg : (i.n < 0) = False := by simp; omega
    cases ht : g.thread with
    | true =>
     simp only [e2, e3, e4, e5, e7, SProg.cells, SFun.cells, SIns.cells, rowCells, F93, k93, Tryz.f93, sxAll, cA, arithA, Env.keep, qt_eq, resultsA, packA, indexAddrA, unA, fieldAddrA, loadA, Rv.part, cellsAt, TD.isAgg, lenA, ↓qAe, Nat.reduceBEq, Nat.reduceAdd, ↓reduceIte, ty26, ty39, ty41, ty136, ty3, ty2, ty4, ty24, funsL_len, ea, eb, hneg, hg', ht]
     try simp only [hg, ht, Bool.not_true, Bool.false_and]
     exact leave_kept rfl rfl
    | false =>
     simp only [e2, e3, e4, e5, e7, SProg.cells, SFun.cells, SIns.cells, rowCells, F93, k93, Tryz.f93, sxAll, cA, arithA, Env.keep, qt_eq, resultsA, packA, indexAddrA, unA, fieldAddrA, loadA, Rv.part, cellsAt, TD.isAgg, lenA, ↓qAe, Nat.reduceBEq, Nat.reduceAdd, ↓reduceIte, ty26, ty39, ty41, ty136, ty3, ty2, ty4, ty27, ty24, funsL_len, intL_len, ea, eb, hneg, hg', ht]
     try simp only [hg, ht, Bool.true_and, Bool.not_false, beq_dec]
     exact leave_kept rfl rfl
   ·have eb : (i.n < (p.funs.length : Int)) = False := by simp; omega
    have hg : p.funs[i.n.toNat]? = none := qAt (by omega)
    simp only [e2, e3, e4, e5, e7, SProg.cells, SFun.cells, SIns.cells, rowCells, F93, k93, Tryz.f93, sxAll, cA, arithA, Env.keep, qt_eq, resultsA, packA, fieldAddrA, loadA, Rv.part, cellsAt, TD.isAgg, lenA, ↓qAe, Nat.reduceBEq, Nat.reduceAdd, ↓reduceIte, ty26, ty39, ty41, ty136, ty3, ty2, ty24, funsL_len, ea, eb]
    try simp only [hg]
    exact leave_kept rfl rfl
  ·have ea : (i.n >= 0) = False := by simp; omega
   simp only [e2, e3, e4, e5, e7, SProg.cells, SFun.cells, SIns.cells, rowCells, F93, k93, Tryz.f93, sxAll, cA, arithA, Env.keep, qt_eq, resultsA, packA, fieldAddrA, loadA, Rv.part, cellsAt, TD.isAgg, ↓qAe, Nat.reduceBEq, Nat.reduceAdd, ↓reduceIte, ty26, ty39, ty41, ty136, ty3, ty2, ea]
   try simp only [ha, decide_false, Bool.false_and, if_true]
   exact leave_kept rfl rfl
 have e6 : (n == 6) = false := by simp [h6]
 rw [if_neg h6]
 simp only [e2, e3, e4, e5, e6, e7, SProg.cells, SFun.cells, SIns.cells, rowCells, F93, k93, Tryz.f93, sxAll, cA, arithA, Env.keep, qt_eq, resultsA, packA, fieldAddrA, loadA, Rv.part, cellsAt, TD.isAgg, ↓qAe, Nat.reduceBEq, Nat.reduceAdd, ↓reduceIte, ty26, ty39, ty41, ty136, ty3, ty2]
 exact leave_kept rfl rfl
end
end Go.Proofs.Sx
