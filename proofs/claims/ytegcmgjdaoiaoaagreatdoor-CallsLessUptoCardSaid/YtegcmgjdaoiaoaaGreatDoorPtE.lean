/-
  package tree: what 'Name' answers: slices.Contains at []string, strings.Trim at a set of ASCII letters.
-/
import Derived.Test.YtegcmgjdaoiaoaaGreatDoorPtD
import Derived.Test.YtegcmgjdaoiaoaaGreatDoorPtC
set_option linter.unusedSectionVars false
set_option linter.unusedSimpArgs false
set_option linter.unusedVariables false
set_option linter.defProp false
set_option linter.unusedSimpArgs false
set_option linter.unusedVariables false
set_option maxRecDepth 100000
set_option maxHeartbeats 4000000
namespace Go.Proofs.Sx
open Go.Rv Go.Proofs
attribute [local congr] bind_left got_left
noncomputable section

def idxS (x : List UInt8) : List (List UInt8) → Nat → Int
  | [], _ => -1
  | y :: r, i => if x = y then i else idxS x r (i + 1)
theorem idxS_has (x : List UInt8) : ∀ (l : List (List UInt8)) (i : Nat), (idxS x l i ≥ 0) = (x ∈ l)
  | [], i => by simp [idxS]
  | y :: r, i => by
    unfold idxS
    split
    · rename_i h; subst h; simp
    · rename_i h
      rw [idxS_has x r (i + 1)]
      simp [h]
theorem strL_drop {xs ys : List (List UInt8)} {i : Nat} (h : xs.drop i = ys) : (strL xs).drop i = strL ys := by rw [strL, ← List.map_drop, h]; rfl

theorem lv85 (r : Nat) : cfg.live 85 r = some [0, 1, 4, 5, 7, 8, 9, 16] := rfl
theorem ok85 : okB cfg0 85 Tryz.f85 (Tryz.f85.body.getD .skip) = true := by kernel_rfl
theorem pu85 : cfg.pure 85 = true := rfl
instance tight85 {d : Option Nat} : TightD cfg 85 d := ⟨fun _ _ => rfl⟩
def a85_0 : Array Oper := codeOps (codeAt [false] (Tryz.f85.body.getD .skip))
def b85_0 : Array Oper := a85_0
def r85_0 : Code := .region 0 a85_0 false
theorem x85_0 (e : Env) (h : Heap) : exec cfg 85 r85_0 e h = (ops cfg 85 b85_0 (a85_0.toList) e h).bind (regEnd cfg 85 0 false) := region_at _ _ _ _ _ _ _
def a85_1 : Array Oper := codeOps (codeAt [true, false, false] (Tryz.f85.body.getD .skip))
def b85_1 : Array Oper := a85_1
def r85_1 : Code := .region 1 a85_1 false
theorem x85_1 (e : Env) (h : Heap) : exec cfg 85 r85_1 e h = (ops cfg 85 b85_1 (a85_1.toList) e h).bind (regEnd cfg 85 1 false) := region_at _ _ _ _ _ _ _
def a85_2 : Array Oper := codeOps (codeAt [true, false, true, false, false, false] (Tryz.f85.body.getD .skip))
def b85_2 : Array Oper := a85_2
def r85_2 : Code := .region 2 a85_2 false
theorem x85_2 (e : Env) (h : Heap) : exec cfg 85 r85_2 e h = (ops cfg 85 b85_2 (a85_2.toList) e h).bind (regEnd cfg 85 2 false) := region_at _ _ _ _ _ _ _
def a85_3 : Array Oper := codeOps (codeAt [true, false, true, false, false, true, true, false, false, false] (Tryz.f85.body.getD .skip))
def b85_3 : Array Oper := a85_3
def r85_3 : Code := .region 3 a85_3 false
theorem x85_3 (e : Env) (h : Heap) : exec cfg 85 r85_3 e h = (ops cfg 85 b85_3 (a85_3.toList) e h).bind (regEnd cfg 85 3 false) := region_at _ _ _ _ _ _ _
def a85_4 : Array Oper := codeOps (codeAt [true, false, true, false, false, true, true, false, false, true, false] (Tryz.f85.body.getD .skip))
def b85_4 : Array Oper := a85_4
def r85_4 : Code := .region 4 a85_4 false
theorem x85_4 (e : Env) (h : Heap) : exec cfg 85 r85_4 e h = (ops cfg 85 b85_4 (a85_4.toList) e h).bind (regEnd cfg 85 4 false) := region_at _ _ _ _ _ _ _
def a85_5 : Array Oper := codeOps (codeAt [true, false, true, false, false, true, true, false, false, true, true, false, false] (Tryz.f85.body.getD .skip))
def b85_5 : Array Oper := a85_5
def r85_5 : Code := .region 5 a85_5 false
theorem x85_5 (e : Env) (h : Heap) : exec cfg 85 r85_5 e h = (ops cfg 85 b85_5 (a85_5.toList) e h).bind (regEnd cfg 85 5 false) := region_at _ _ _ _ _ _ _
def a85_6 : Array Oper := codeOps (codeAt [true, false, true, false, false, true, true, true] (Tryz.f85.body.getD .skip))
def b85_6 : Array Oper := a85_6
def r85_6 : Code := .region 6 a85_6 false
theorem x85_6 (e : Env) (h : Heap) : exec cfg 85 r85_6 e h = (ops cfg 85 b85_6 (a85_6.toList) e h).bind (regEnd cfg 85 6 false) := region_at _ _ _ _ _ _ _
def a85_7 : Array Oper := codeOps (codeAt [true, true, false] (Tryz.f85.body.getD .skip))
def b85_7 : Array Oper := a85_7
def r85_7 : Code := .region 7 a85_7 false
theorem x85_7 (e : Env) (h : Heap) : exec cfg 85 r85_7 e h = (ops cfg 85 b85_7 (a85_7.toList) e h).bind (regEnd cfg 85 7 false) := region_at _ _ _ _ _ _ _
def l85_0 : Code := (.seq r85_2 (.seq (.cond (.tmp 9) .skip (.exit 0)) (.seq (.block 1 (.seq r85_3 (.seq r85_4 (.cond (.tmp 16) (.seq r85_5 .ret) .skip)))) r85_6)))
def k85 : Code := (.seq r85_0 (.seq (.seq r85_1 (.block 0 (.loop l85_0))) (.seq r85_7 .ret)))
theorem body85 : Tryz.f85.body = some k85 := by kernel_rfl
theorem call85 (x0 x1 : AV) (h : Heap) : call cfg 85 [x0, x1] h = (exec cfg 85 k85 [(0, x0), (1, x1)] h).bind (callEnd cfg 85 h [.tmp 4]) := call_at2 (fnat Tryz.func85 body85 (by rw [← ok85]; kernel_rfl)) rfl rfl
theorem lv62 (r : Nat) : cfg.live 62 r = some [0, 1, 4] := rfl
theorem ok62 : okB cfg0 62 Tryz.f62 (Tryz.f62.body.getD .skip) = true := by kernel_rfl
theorem pu62 : cfg.pure 62 = true := rfl
instance tight62 {d : Option Nat} : TightD cfg 62 d := ⟨fun _ _ => rfl⟩
def a62_0 : Array Oper := codeOps (codeAt [false] (Tryz.f62.body.getD .skip))
def b62_0 : Array Oper := a62_0
def r62_0 : Code := .region 0 a62_0 false
theorem x62_0 (e : Env) (h : Heap) : exec cfg 62 r62_0 e h = (ops cfg 62 b62_0 (a62_0.toList) e h).bind (regEnd cfg 62 0 false) := region_at _ _ _ _ _ _ _
def a62_1 : Array Oper := codeOps (codeAt [true, false] (Tryz.f62.body.getD .skip))
def b62_1 : Array Oper := a62_1
def r62_1 : Code := .region 1 a62_1 false
theorem x62_1 (e : Env) (h : Heap) : exec cfg 62 r62_1 e h = (ops cfg 62 b62_1 (a62_1.toList) e h).bind (regEnd cfg 62 1 false) := region_at _ _ _ _ _ _ _
def k62 : Code := (.seq r62_0 (.seq r62_1 .ret))
theorem body62 : Tryz.f62.body = some k62 := by kernel_rfl
theorem call62 (x0 x1 : AV) (h : Heap) : call cfg 62 [x0, x1] h = (exec cfg 62 k62 [(0, x0), (1, x1)] h).bind (callEnd cfg 62 h [.tmp 4]) := call_at2 (fnat Tryz.func62 body62 (by rw [← ok62]; kernel_rfl)) rfl rfl
theorem indexS_loop (xs : List (List UInt8)) (x : List UInt8) (z : Nat) (r : Room) (h : Heap) (hn : xs.length < 1000000000) : ∀ (ys : List (List UInt8)) (i : Nat), xs.drop i = ys → i ≤ xs.length → ∀ c d t e,
    Got (exec cfg 85 (.loop l85_0) [(0, .lst (strL xs) z r), (1, .str x), (4, c), (5, d), (7, .int .i64 xs.length), (8, .int .i64 i), (9, t), (16, e)] h) (fun q => q.2.2 = h ∧
      ((q.1 = .exit 0 ∧ idxS x ys i = -1) ∨ (q.1 = .ret ∧ q.2.1.get 4 = .int .i64 (idxS x ys i)))) := by
  intro ys
  induction ys with
  | nil =>
    intro i hd hi c d t e
    rw [got_loop]
    simp only [l85_0, k85, Tryz.f85, regEnd_nrm (lv85 _), pu85, x85_0, a85_0, x85_1, a85_1, x85_2, a85_2, x85_3, a85_3, x85_4, a85_4, x85_5, a85_5, x85_6, a85_6, x85_7, a85_7, sxAll, arithA, Nat.reduceEqDiff, Env.keep, qt_eq, isAlloc, resultsA, packA, storeA, indexAddrA, fieldA, indexA, unA, fieldAddrA, loadA, Rv.part, cellsAt, TD.isAgg, convH, convA, buildA, fillA, setCells, copies, lenA, optA, boundA, mapO, ↓Option.bind_some, ↓Option.bind_none, Nat.reduceBEq, Nat.reduceAdd, Nat.reduceMul, Nat.reduceLeDiff, Nat.reduceSub, Nat.reduceLT, Nat.reduceGT, Int.reduceBEq, Int.reduceLT, Int.reduceLE, bne, ↓reduceIte, at_end hd]
    exact ⟨trivial, .inl ⟨trivial, rfl⟩⟩
  | cons y r ih =>
    intro i hd hi c d t e
    obtain ⟨hlt, _, hd'⟩ := at_drop hd
    obtain ⟨_, hx, _⟩ := at_drop (strL_drop hd)
    have hw := wrap_succ (i := i) (by omega)
    rw [got_loop]
    by_cases he : x = y
    · subst he
      simp only [l85_0, k85, Tryz.f85, regEnd_nrm (lv85 _), pu85, x85_0, a85_0, x85_1, a85_1, x85_2, a85_2, x85_3, a85_3, x85_4, a85_4, x85_5, a85_5, x85_6, a85_6, x85_7, a85_7, sxAll, arithA, Nat.reduceEqDiff, Env.keep, qt_eq, isAlloc, resultsA, packA, storeA, indexAddrA, fieldA, indexA, unA, fieldAddrA, loadA, Rv.part, cellsAt, TD.isAgg, convH, convA, buildA, fillA, setCells, copies, lenA, optA, boundA, mapO, ↓Option.bind_some, ↓Option.bind_none, Nat.reduceBEq, Nat.reduceAdd, Nat.reduceMul, Nat.reduceLeDiff, Nat.reduceSub, Nat.reduceLT, Nat.reduceGT, Int.reduceBEq, Int.reduceLT, Int.reduceLE, bne, ↓reduceIte, hlt, ty23, ty9, hx, binA_str_eql]
      exact ⟨trivial, .inr ⟨trivial, by simp [Env.get_cons, idxS]⟩⟩
    · have hne : (x == y) = false := by simp [he]
      have := ih (i + 1) hd' (by simp at hlt; omega)
      simp only [l85_0] at this ⊢
      simp only [k85, Tryz.f85, regEnd_nrm (lv85 _), pu85, x85_0, a85_0, x85_1, a85_1, x85_2, a85_2, x85_3, a85_3, x85_4, a85_4, x85_5, a85_5, x85_6, a85_6, x85_7, a85_7, sxAll, arithA, Nat.reduceEqDiff, Env.keep, qt_eq, isAlloc, resultsA, packA, storeA, indexAddrA, fieldA, indexA, unA, fieldAddrA, loadA, Rv.part, cellsAt, TD.isAgg, convH, convA, buildA, fillA, setCells, copies, lenA, optA, boundA, mapO, ↓Option.bind_some, ↓Option.bind_none, Nat.reduceBEq, Nat.reduceAdd, Nat.reduceMul, Nat.reduceLeDiff, Nat.reduceSub, Nat.reduceLT, Nat.reduceGT, Int.reduceBEq, Int.reduceLT, Int.reduceLE, bne, ↓reduceIte, hlt, ty23, ty9, hx, hne, hw, idxS, if_neg he, binA_str_eql] at this ⊢
      exact this _ _ _ _
theorem indexS_eq (xs : List (List UInt8)) (x : List UInt8) (z : Nat) (r : Room) (h : Heap) (hn : xs.length < 1000000000) : call cfg 85 [.lst (strL xs) z r, .str x] h = some (.ret (.int .i64 (idxS x xs 0)), h) := by
  obtain ⟨⟨o, e', h'⟩, hx, hh, hq⟩ := indexS_loop xs x z r h hn xs 0 (by simp) (by omega) (.int .i64 0) .junk .junk .junk
  simp only [Int.natCast_zero] at hx hh hq
  subst hh
  rw [call85]
  rcases hq with ⟨rfl, h1⟩ | ⟨rfl, h1⟩
  · simp only [k85, Tryz.f85, regEnd_nrm (lv85 _), pu85, x85_0, a85_0, x85_1, a85_1, x85_2, a85_2, x85_3, a85_3, x85_4, a85_4, x85_5, a85_5, x85_6, a85_6, x85_7, a85_7, sxAll, arithA, Nat.reduceEqDiff, Env.keep, qt_eq, isAlloc, resultsA, packA, storeA, indexAddrA, fieldA, indexA, unA, fieldAddrA, loadA, Rv.part, cellsAt, TD.isAgg, convH, convA, buildA, fillA, setCells, copies, lenA, optA, boundA, mapO, ↓Option.bind_some, ↓Option.bind_none, Nat.reduceBEq, Nat.reduceAdd, Nat.reduceMul, Nat.reduceLeDiff, Nat.reduceSub, Nat.reduceLT, Nat.reduceGT, Int.reduceBEq, Int.reduceLT, Int.reduceLE, bne, ↓reduceIte, ty23, strL_len, hx, h1]
    exact leave_kept rfl rfl
  · simp only [k85, Tryz.f85, regEnd_nrm (lv85 _), pu85, x85_0, a85_0, x85_1, a85_1, x85_2, a85_2, x85_3, a85_3, x85_4, a85_4, x85_5, a85_5, x85_6, a85_6, x85_7, a85_7, sxAll, arithA, Nat.reduceEqDiff, Env.keep, qt_eq, isAlloc, resultsA, packA, storeA, indexAddrA, fieldA, indexA, unA, fieldAddrA, loadA, Rv.part, cellsAt, TD.isAgg, convH, convA, buildA, fillA, setCells, copies, lenA, optA, boundA, mapO, ↓Option.bind_some, ↓Option.bind_none, Nat.reduceBEq, Nat.reduceAdd, Nat.reduceMul, Nat.reduceLeDiff, Nat.reduceSub, Nat.reduceLT, Nat.reduceGT, Int.reduceBEq, Int.reduceLT, Int.reduceLE, bne, ↓reduceIte, ty23, strL_len, hx, h1]
    exact leave_kept rfl rfl
theorem containsS_eq (xs : List (List UInt8)) (x : List UInt8) (z : Nat) (r : Room) (h : Heap) (hn : xs.length < 1000000000) : call cfg 62 [.lst (strL xs) z r, .str x] h = some (.ret (.bool (decide (x ∈ xs))), h) := by
  rw [call62]
  simp only [k62, Tryz.f62, regEnd_nrm (lv62 _), pu62, x62_0, a62_0, x62_1, a62_1, sxAll, arithA, Nat.reduceEqDiff, Env.keep, qt_eq, isAlloc, resultsA, packA, storeA, indexAddrA, fieldA, indexA, unA, fieldAddrA, loadA, Rv.part, cellsAt, TD.isAgg, convH, convA, buildA, fillA, setCells, copies, lenA, optA, boundA, mapO, ↓Option.bind_some, ↓Option.bind_none, Nat.reduceBEq, Nat.reduceAdd, Nat.reduceMul, Nat.reduceLeDiff, Nat.reduceSub, Nat.reduceLT, Nat.reduceGT, Int.reduceBEq, Int.reduceLT, Int.reduceLE, bne, ↓reduceIte, indexS_eq xs x z r h hn, pu85, idxS_has]
  exact leave_kept rfl rfl

theorem lv88 (r : Nat) : cfg.live 88 r = some [0, 2, 3, 4, 5, 9, 16] := rfl
theorem ok88 : okB cfg0 88 Tryz.f88 (Tryz.f88.body.getD .skip) = true := by kernel_rfl
theorem pu88 : cfg.pure 88 = false := rfl
instance tight88 {d : Option Nat} : TightD cfg 88 d := ⟨fun _ _ => rfl⟩
def a88_0 : Array Oper := codeOps (codeAt [false] (Tryz.f88.body.getD .skip))
def b88_0 : Array Oper := a88_0
def r88_0 : Code := .region 0 a88_0 false
theorem x88_0 (e : Env) (h : Heap) : exec cfg 88 r88_0 e h = (ops cfg 88 b88_0 (a88_0.toList) e h).bind (regEnd cfg 88 0 false) := region_at _ _ _ _ _ _ _
def a88_1 : Array Oper := codeOps (codeAt [true, false, false] (Tryz.f88.body.getD .skip))
def b88_1 : Array Oper := a88_1
def r88_1 : Code := .region 1 a88_1 false
theorem x88_1 (e : Env) (h : Heap) : exec cfg 88 r88_1 e h = (ops cfg 88 b88_1 (a88_1.toList) e h).bind (regEnd cfg 88 1 false) := region_at _ _ _ _ _ _ _
def a88_2 : Array Oper := codeOps (codeAt [true, false, true, false, false, false, false] (Tryz.f88.body.getD .skip))
def b88_2 : Array Oper := a88_2
def r88_2 : Code := .region 2 a88_2 false
theorem x88_2 (e : Env) (h : Heap) : exec cfg 88 r88_2 e h = (ops cfg 88 b88_2 (a88_2.toList) e h).bind (regEnd cfg 88 2 false) := region_at _ _ _ _ _ _ _
def a88_4 : Array Oper := codeOps (codeAt [true, false, true, false, false, true, false, false, false] (Tryz.f88.body.getD .skip))
def b88_4 : Array Oper := a88_4
def r88_4 : Code := .region 4 a88_4 false
theorem x88_4 (e : Env) (h : Heap) : exec cfg 88 r88_4 e h = (ops cfg 88 b88_4 (a88_4.toList) e h).bind (regEnd cfg 88 4 false) := region_at _ _ _ _ _ _ _
def a88_5 : Array Oper := codeOps (codeAt [true, false, true, false, false, true, false, false, true, false, false] (Tryz.f88.body.getD .skip))
def b88_5 : Array Oper := a88_5
def r88_5 : Code := .region 5 a88_5 false
theorem x88_5 (e : Env) (h : Heap) : exec cfg 88 r88_5 e h = (ops cfg 88 b88_5 (a88_5.toList) e h).bind (regEnd cfg 88 5 false) := region_at _ _ _ _ _ _ _
def a88_6 : Array Oper := codeOps (codeAt [true, false, true, false, false, true, false, false, true, false, true, false, false] (Tryz.f88.body.getD .skip))
def b88_6 : Array Oper := a88_6
def r88_6 : Code := .region 6 a88_6 false
theorem x88_6 (e : Env) (h : Heap) : exec cfg 88 r88_6 e h = (ops cfg 88 b88_6 (a88_6.toList) e h).bind (regEnd cfg 88 6 false) := region_at _ _ _ _ _ _ _
def a88_7 : Array Oper := codeOps (codeAt [true, false, true, false, false, true, false, false, true, true] (Tryz.f88.body.getD .skip))
def b88_7 : Array Oper := a88_7
def r88_7 : Code := .region 7 a88_7 false
theorem x88_7 (e : Env) (h : Heap) : exec cfg 88 r88_7 e h = (ops cfg 88 b88_7 (a88_7.toList) e h).bind (regEnd cfg 88 7 false) := region_at _ _ _ _ _ _ _
def a88_3 : Array Oper := codeOps (codeAt [true, false, true, false, false, true, true] (Tryz.f88.body.getD .skip))
def b88_3 : Array Oper := a88_3
def r88_3 : Code := .region 3 a88_3 false
theorem x88_3 (e : Env) (h : Heap) : exec cfg 88 r88_3 e h = (ops cfg 88 b88_3 (a88_3.toList) e h).bind (regEnd cfg 88 3 false) := region_at _ _ _ _ _ _ _
def a88_8 : Array Oper := codeOps (codeAt [true, true, false] (Tryz.f88.body.getD .skip))
def b88_8 : Array Oper := a88_8
def r88_8 : Code := .region 8 a88_8 false
theorem x88_8 (e : Env) (h : Heap) : exec cfg 88 r88_8 e h = (ops cfg 88 b88_8 (a88_8.toList) e h).bind (regEnd cfg 88 8 false) := region_at _ _ _ _ _ _ _
def l88_0 : Code := (.seq (.seq r88_2 (.cond (.tmp 9) .skip (.exit 0))) (.seq (.block 1 (.seq r88_4 (.seq (.seq r88_5 (.cond (.tmp 16) (.seq r88_6 .ret) .skip)) r88_7))) r88_3))
def k88 : Code := (.seq r88_0 (.seq (.seq r88_1 (.block 0 (.loop l88_0))) (.seq r88_8 .ret)))
theorem body88 : Tryz.f88.body = some k88 := by kernel_rfl
theorem call88 (x0 : AV) (h : Heap) : call cfg 88 [x0] h = (exec cfg 88 k88 [(0, x0)] h).bind (callEnd cfg 88 h [.cell 2 123, .tmp 3]) := call_at2 (fnat Tryz.func88 body88 (by rw [← ok88]; kernel_rfl)) rfl rfl
theorem lv103 (r : Nat) : cfg.live 103 r = some [0, 1, 4] := rfl
theorem ok103 : okB cfg0 103 Tryz.f103 (Tryz.f103.body.getD .skip) = true := by kernel_rfl
theorem pu103 : cfg.pure 103 = true := rfl
instance tight103 {d : Option Nat} : TightD cfg 103 d := ⟨fun _ _ => rfl⟩
def a103_0 : Array Oper := codeOps (codeAt [false] (Tryz.f103.body.getD .skip))
def b103_0 : Array Oper := a103_0
def r103_0 : Code := .region 0 a103_0 false
theorem x103_0 (e : Env) (h : Heap) : exec cfg 103 r103_0 e h = (ops cfg 103 b103_0 (a103_0.toList) e h).bind (regEnd cfg 103 0 false) := region_at _ _ _ _ _ _ _
def a103_1 : Array Oper := codeOps (codeAt [true, false] (Tryz.f103.body.getD .skip))
def b103_1 : Array Oper := a103_1
def r103_1 : Code := .region 1 a103_1 false
theorem x103_1 (e : Env) (h : Heap) : exec cfg 103 r103_1 e h = (ops cfg 103 b103_1 (a103_1.toList) e h).bind (regEnd cfg 103 1 false) := region_at _ _ _ _ _ _ _
def k103 : Code := (.seq r103_0 (.seq r103_1 .ret))
theorem body103 : Tryz.f103.body = some k103 := by kernel_rfl
theorem call103 (x0 x1 : AV) (h : Heap) : call cfg 103 [x0, x1] h = (exec cfg 103 k103 [(0, x0), (1, x1)] h).bind (callEnd cfg 103 h [.tmp 4]) := call_at2 (fnat Tryz.func103 body103 (by rw [← ok103]; kernel_rfl)) rfl rfl
theorem lv90 (r : Nat) : cfg.live 90 r = some [0, 1, 4, 7, 15] := rfl
theorem ok90 : okB cfg0 90 Tryz.f90 (Tryz.f90.body.getD .skip) = true := by kernel_rfl
theorem pu90 : cfg.pure 90 = true := rfl
instance tight90 {d : Option Nat} : TightD cfg 90 d := ⟨fun _ _ => rfl⟩
def a90_0 : Array Oper := codeOps (codeAt [false] (Tryz.f90.body.getD .skip))
def b90_0 : Array Oper := a90_0
def r90_0 : Code := .region 0 a90_0 false
theorem x90_0 (e : Env) (h : Heap) : exec cfg 90 r90_0 e h = (ops cfg 90 b90_0 (a90_0.toList) e h).bind (regEnd cfg 90 0 false) := region_at _ _ _ _ _ _ _
def a90_1 : Array Oper := codeOps (codeAt [true, false, false, false, false, false] (Tryz.f90.body.getD .skip))
def b90_1 : Array Oper := a90_1
def r90_1 : Code := .region 1 a90_1 false
theorem x90_1 (e : Env) (h : Heap) : exec cfg 90 r90_1 e h = (ops cfg 90 b90_1 (a90_1.toList) e h).bind (regEnd cfg 90 1 false) := region_at _ _ _ _ _ _ _
def a90_2 : Array Oper := codeOps (codeAt [true, false, false, false, true, false, false, false] (Tryz.f90.body.getD .skip))
def b90_2 : Array Oper := a90_2
def r90_2 : Code := .region 2 a90_2 false
theorem x90_2 (e : Env) (h : Heap) : exec cfg 90 r90_2 e h = (ops cfg 90 b90_2 (a90_2.toList) e h).bind (regEnd cfg 90 2 false) := region_at _ _ _ _ _ _ _
def a90_3 : Array Oper := codeOps (codeAt [true, false, false, false, true, false, true] (Tryz.f90.body.getD .skip))
def b90_3 : Array Oper := a90_3
def r90_3 : Code := .region 3 a90_3 false
theorem x90_3 (e : Env) (h : Heap) : exec cfg 90 r90_3 e h = (ops cfg 90 b90_3 (a90_3.toList) e h).bind (regEnd cfg 90 3 false) := region_at _ _ _ _ _ _ _
def a90_4 : Array Oper := codeOps (codeAt [true, true, false] (Tryz.f90.body.getD .skip))
def b90_4 : Array Oper := a90_4
def r90_4 : Code := .region 4 a90_4 false
theorem x90_4 (e : Env) (h : Heap) : exec cfg 90 r90_4 e h = (ops cfg 90 b90_4 (a90_4.toList) e h).bind (regEnd cfg 90 4 false) := region_at _ _ _ _ _ _ _
def l90_0 : Code := (.seq (.seq r90_1 (.cond (.tmp 7) .skip (.exit 0))) (.block 1 (.seq (.seq r90_2 (.cond (.tmp 15) (.exit 0) .skip)) r90_3)))
def k90 : Code := (.seq r90_0 (.seq (.block 0 (.loop l90_0)) (.seq r90_4 .ret)))
theorem body90 : Tryz.f90.body = some k90 := by kernel_rfl
theorem call90 (x0 x1 : AV) (h : Heap) : call cfg 90 [x0, x1] h = (exec cfg 90 k90 [(0, x0), (1, x1)] h).bind (callEnd cfg 90 h [.tmp 4]) := call_at2 (fnat Tryz.func90 body90 (by rw [← ok90]; kernel_rfl)) rfl rfl
theorem lv89 (r : Nat) : cfg.live 89 r = some [0, 1, 4, 7, 12] := rfl
theorem ok89 : okB cfg0 89 Tryz.f89 (Tryz.f89.body.getD .skip) = true := by kernel_rfl
theorem pu89 : cfg.pure 89 = true := rfl
instance tight89 {d : Option Nat} : TightD cfg 89 d := ⟨fun _ _ => rfl⟩
def a89_0 : Array Oper := codeOps (codeAt [false] (Tryz.f89.body.getD .skip))
def b89_0 : Array Oper := a89_0
def r89_0 : Code := .region 0 a89_0 false
theorem x89_0 (e : Env) (h : Heap) : exec cfg 89 r89_0 e h = (ops cfg 89 b89_0 (a89_0.toList) e h).bind (regEnd cfg 89 0 false) := region_at _ _ _ _ _ _ _
def a89_1 : Array Oper := codeOps (codeAt [true, false, false, false, false, false] (Tryz.f89.body.getD .skip))
def b89_1 : Array Oper := a89_1
def r89_1 : Code := .region 1 a89_1 false
theorem x89_1 (e : Env) (h : Heap) : exec cfg 89 r89_1 e h = (ops cfg 89 b89_1 (a89_1.toList) e h).bind (regEnd cfg 89 1 false) := region_at _ _ _ _ _ _ _
def a89_2 : Array Oper := codeOps (codeAt [true, false, false, false, true, false, false, false] (Tryz.f89.body.getD .skip))
def b89_2 : Array Oper := a89_2
def r89_2 : Code := .region 2 a89_2 false
theorem x89_2 (e : Env) (h : Heap) : exec cfg 89 r89_2 e h = (ops cfg 89 b89_2 (a89_2.toList) e h).bind (regEnd cfg 89 2 false) := region_at _ _ _ _ _ _ _
def a89_3 : Array Oper := codeOps (codeAt [true, false, false, false, true, false, true] (Tryz.f89.body.getD .skip))
def b89_3 : Array Oper := a89_3
def r89_3 : Code := .region 3 a89_3 false
theorem x89_3 (e : Env) (h : Heap) : exec cfg 89 r89_3 e h = (ops cfg 89 b89_3 (a89_3.toList) e h).bind (regEnd cfg 89 3 false) := region_at _ _ _ _ _ _ _
def a89_4 : Array Oper := codeOps (codeAt [true, true, false] (Tryz.f89.body.getD .skip))
def b89_4 : Array Oper := a89_4
def r89_4 : Code := .region 4 a89_4 false
theorem x89_4 (e : Env) (h : Heap) : exec cfg 89 r89_4 e h = (ops cfg 89 b89_4 (a89_4.toList) e h).bind (regEnd cfg 89 4 false) := region_at _ _ _ _ _ _ _
def l89_0 : Code := (.seq (.seq r89_1 (.cond (.tmp 7) .skip (.exit 0))) (.block 1 (.seq (.seq r89_2 (.cond (.tmp 12) (.exit 0) .skip)) r89_3)))
def k89 : Code := (.seq r89_0 (.seq (.block 0 (.loop l89_0)) (.seq r89_4 .ret)))
theorem body89 : Tryz.f89.body = some k89 := by kernel_rfl
theorem call89 (x0 x1 : AV) (h : Heap) : call cfg 89 [x0, x1] h = (exec cfg 89 k89 [(0, x0), (1, x1)] h).bind (callEnd cfg 89 h [.tmp 4]) := call_at2 (fnat Tryz.func89 body89 (by rw [← ok89]; kernel_rfl)) rfl rfl
def setOf (T : Nat → Bool) : List UInt8 → Nat → Bool
  | [] => T
  | c :: r => setOf (fun k => T k || k == c.toNat) r

theorem makeASCII_loop (cs : List UInt8) (hn : cs.length < 1000000000) (h : Heap) (hc : ∀ c ∈ cs, c.toNat < 128) : ∀ (ys : List UInt8) (i : Nat), cs.drop i = ys → i ≤ cs.length → ∀ (T : Nat → Bool) a b c d,
    Got (exec cfg 88 (.loop l88_0) [(0, .str cs), (2, .ptr h.length 0 0), (3, a), (4, .int .i64 i), (5, b), (9, c), (16, d)] (h ++ [.cells (tabC T) 0]))
      (fun q => q.1 = .exit 0 ∧ q.2.2 = h ++ [.cells (tabC (setOf T ys)) 0] ∧ q.2.1.get 2 = .ptr h.length 0 0) := by
  intro ys
  induction ys with
  | nil =>
    intro i hd hi T a b c d
    rw [got_loop]
    simp only [l88_0, k88, Tryz.f88, regEnd_nrm (lv88 _), pu88, x88_0, a88_0, x88_1, a88_1, x88_2, a88_2, x88_4, a88_4, x88_5, a88_5, x88_6, a88_6, x88_7, a88_7, x88_3, a88_3, x88_8, a88_8, sxAll, arithA, Nat.reduceEqDiff, Env.keep, qt_eq, isAlloc, resultsA, packA, storeA, indexAddrA, fieldA, indexA, unA, fieldAddrA, loadA, Rv.part, cellsAt, TD.isAgg, convH, convA, buildA, fillA, setCells, copies, lenA, optA, boundA, mapO, ↓Option.bind_some, ↓Option.bind_none, Nat.reduceBEq, Nat.reduceAdd, Nat.reduceMul, Nat.reduceLeDiff, Nat.reduceSub, Nat.reduceLT, Nat.reduceGT, Int.reduceBEq, Int.reduceLT, Int.reduceLE, bne, ↓reduceIte, ty9, at_end hd]
    exact ⟨trivial, rfl, trivial⟩
  | cons y r ih =>
    intro i hd hi T a b c d
    obtain ⟨hlt, hget, hd'⟩ := at_drop hd
    have hy := hc y (List.mem_of_getElem? hget)
    have hw := wrap_succ (i := i) (by omega)
    have hge : ((y.toNat : Int) ≥ 128) = False := by simp; omega
    have hlt2 : (y.toNat < 256) = True := by simp; omega
    have := ih (i + 1) hd' (by simp at hlt; omega) (fun k => T k || k == y.toNat)
    rw [got_loop]
    have hle : (y.toNat + 1 ≤ 256) = True := by simp; omega
    simp only [l88_0] at this ⊢
    simp only [k88, Tryz.f88, regEnd_nrm (lv88 _), pu88, x88_0, a88_0, x88_1, a88_1, x88_2, a88_2, x88_4, a88_4, x88_5, a88_5, x88_6, a88_6, x88_7, a88_7, x88_3, a88_3, x88_8, a88_8, sxAll, arithA, Nat.reduceEqDiff, Env.keep, qt_eq, isAlloc, resultsA, packA, storeA, indexAddrA, fieldA, indexA, unA, fieldAddrA, loadA, Rv.part, cellsAt, TD.isAgg, convH, convA, buildA, fillA, setCells, copies, lenA, optA, boundA, mapO, ↓Option.bind_some, ↓Option.bind_none, Nat.reduceBEq, Nat.reduceAdd, Nat.reduceMul, Nat.reduceLeDiff, Nat.reduceSub, Nat.reduceLT, Nat.reduceGT, Int.reduceBEq, Int.reduceLT, Int.reduceLE, bne, ↓reduceIte, hlt, ty123, ty4, ty9, hget, hw, hge, hlt2, hle, Nat.zero_add, Nat.mul_one, tabC_len, tabC_set T (show y.toNat < 256 by omega), setOf] at this ⊢
    exact this _ _ _ _

theorem tyA : cfg.ty 123 = some ⟨.array 256 4, 256, 256, tabC (fun _ => false)⟩ := by rw [ty123, tabC_zero]
theorem makeASCII_eq (cs : List UInt8) (hn : cs.length < 1000000000) (h : Heap) (hc : ∀ c ∈ cs, c.toNat < 128) : call cfg 88 [.str cs] h = some (.ret (.tup [.agg (tabC (setOf (fun _ => false) cs)), .bool true]), h ++ [.cells (tabC (setOf (fun _ => false) cs)) 0]) := by
  obtain ⟨⟨o, e', h'⟩, hx, ho, hh, h2⟩ := makeASCII_loop cs hn h hc cs 0 (by simp) (by omega) (fun _ => false) (.bool false) .junk .junk .junk
  simp only [Int.natCast_zero] at hx ho hh h2
  subst ho
  subst hh
  rw [call88]
  simp only [k88, Tryz.f88, regEnd_nrm (lv88 _), pu88, x88_0, a88_0, x88_1, a88_1, x88_2, a88_2, x88_4, a88_4, x88_5, a88_5, x88_6, a88_6, x88_7, a88_7, x88_3, a88_3, x88_8, a88_8, sxAll, arithA, Nat.reduceEqDiff, Env.keep, qt_eq, isAlloc, resultsA, packA, storeA, indexAddrA, fieldA, indexA, unA, fieldAddrA, loadA, Rv.part, cellsAt, TD.isAgg, convH, convA, buildA, fillA, setCells, copies, lenA, optA, boundA, mapO, ↓Option.bind_some, ↓Option.bind_none, Nat.reduceBEq, Nat.reduceAdd, Nat.reduceMul, Nat.reduceLeDiff, Nat.reduceSub, Nat.reduceLT, Nat.reduceGT, Int.reduceBEq, Int.reduceLT, Int.reduceLE, bne, ↓reduceIte, tyA, ty4, tabC_len, tabC_take, tabC_leaf, hx, h2, tabC_over]
  exact leave_impure rfl

theorem asciiHas_eq (T : Nat → Bool) (o : Nat) (c : UInt8) (h : Heap) (ho : h.obj o 0 = some (tabC T)) : call cfg 103 [.ptr o 0 0, .int .u8 c.toNat] h = some (.ret (.bool (T c.toNat)), h) := by
  have hc : c.toNat < 256 := c.toNat_lt
  have hl := live_of ho
  have hlt : (c.toNat < 256) = True := by simp [hc]
  rw [call103]
  simp only [k103, Tryz.f103, regEnd_nrm (lv103 _), pu103, x103_0, a103_0, x103_1, a103_1, sxAll, arithA, Nat.reduceEqDiff, Env.keep, qt_eq, isAlloc, resultsA, packA, storeA, indexAddrA, fieldA, indexA, unA, fieldAddrA, loadA, Rv.part, cellsAt, TD.isAgg, convH, convA, buildA, fillA, setCells, copies, lenA, optA, boundA, mapO, ↓Option.bind_some, ↓Option.bind_none, Nat.reduceBEq, Nat.reduceAdd, Nat.reduceMul, Nat.reduceLeDiff, Nat.reduceSub, Nat.reduceLT, Nat.reduceGT, Int.reduceBEq, Int.reduceLT, Int.reduceLE, bne, ↓reduceIte, ty123, ty4, hl, hlt, ho, Nat.zero_add, Nat.mul_one, tabC_head T hc]
  exact leave_kept rfl rfl

def dropR (T : Nat → Bool) (s : List UInt8) : List UInt8 := (s.reverse.dropWhile fun c => T c.toNat).reverse
theorem dropR_nil (T : Nat → Bool) : dropR T [] = [] := rfl
theorem dropR_snoc (T : Nat → Bool) (r : List UInt8) (c : UInt8) : dropR T (r ++ [c]) = if T c.toNat then dropR T r else r ++ [c] := by
  simp only [dropR, List.reverse_append, List.reverse_cons, List.reverse_nil, List.nil_append, List.cons_append, List.dropWhile_cons]
  split <;> simp

theorem trimRA_loop (T : Nat → Bool) (o : Nat) (H : Heap) (ho : H.obj o 0 = some (tabC T)) : ∀ (k : Nat) (s : List UInt8), s.length = k → k < 1000000000 → ∀ a b c,
    Got (exec cfg 90 (.loop l90_0) [(0, .str s), (1, .ptr o 0 0), (4, a), (7, b), (15, c)] H) (fun q => q.1 = .exit 0 ∧ q.2.2 = H ∧ q.2.1.get 0 = .str (dropR T s)) := by
  intro k
  induction k with
  | zero =>
    intro s hs hk a b c
    have : s = [] := List.length_eq_zero_iff.1 hs
    subst this
    rw [got_loop]
    simp only [l90_0, k90, Tryz.f90, regEnd_nrm (lv90 _), pu90, x90_0, a90_0, x90_1, a90_1, x90_2, a90_2, x90_3, a90_3, x90_4, a90_4, sxAll, arithA, Nat.reduceEqDiff, Env.keep, qt_eq, isAlloc, resultsA, packA, storeA, indexAddrA, fieldA, indexA, unA, fieldAddrA, loadA, Rv.part, cellsAt, TD.isAgg, convH, convA, buildA, fillA, setCells, copies, lenA, optA, boundA, mapO, ↓Option.bind_some, ↓Option.bind_none, Nat.reduceBEq, Nat.reduceAdd, Nat.reduceMul, Nat.reduceLeDiff, Nat.reduceSub, Nat.reduceLT, Nat.reduceGT, Int.reduceBEq, Int.reduceLT, Int.reduceLE, bne, ↓reduceIte, ty9, Int.natCast_zero, Int.reduceGT]
    (refine ⟨trivial, trivial, ?_⟩; first | rfl | trivial)
  | succ k ih =>
    intro s hs hk a b c
    obtain ⟨r, ch, hrc⟩ : ∃ r ch, s = r ++ [ch] := ⟨s.dropLast, s.getLast (by intro hc; rw [hc] at hs; cases hs), (List.dropLast_concat_getLast _).symm⟩
    have hr : r.length = k := by rw [hrc] at hs; simpa using hs
    have hgt : ((s.length : Int) > 0) = True := by simp; omega
    have hw : IntKind.i64.wrap ((s.length : Int) - 1) = (k : Int) := by rw [wrap_id (by omega) (by omega)]; omega
    have hget : s[k]? = some ch := by rw [hrc, ← hr]; simp
    have hc := asciiHas_eq T o ch H ho
    have hb1 : (decide (0 ≤ (k : Int)) && decide ((k : Int) ≤ (s.length : Int))) = true := by simp; omega
    have htk : s.take k = r := by rw [hrc, ← hr]; simp
    have hdr : dropR T s = if T ch.toNat then dropR T r else s := by rw [hrc, dropR_snoc]
    rw [got_loop, hdr]
    cases ht : T ch.toNat with
    | true =>
      rw [ht] at hc
      have := ih r hr (by omega)
      simp only [l90_0] at this ⊢
      simp only [k90, Tryz.f90, regEnd_nrm (lv90 _), pu90, x90_0, a90_0, x90_1, a90_1, x90_2, a90_2, x90_3, a90_3, x90_4, a90_4, sxAll, arithA, Nat.reduceEqDiff, Env.keep, qt_eq, isAlloc, resultsA, packA, storeA, indexAddrA, fieldA, indexA, unA, fieldAddrA, loadA, Rv.part, cellsAt, TD.isAgg, convH, convA, buildA, fillA, setCells, copies, lenA, optA, boundA, mapO, ↓Option.bind_some, ↓Option.bind_none, Nat.reduceBEq, Nat.reduceAdd, Nat.reduceMul, Nat.reduceLeDiff, Nat.reduceSub, Nat.reduceLT, Nat.reduceGT, Int.reduceBEq, Int.reduceLT, Int.reduceLE, bne, ↓reduceIte, ty9, hgt, hw, hget, hc, pu103, sliceA, hb1, htk] at this ⊢
      exact this _ _ _
    | false =>
      rw [ht] at hc
      simp only [l90_0, k90, Tryz.f90, regEnd_nrm (lv90 _), pu90, x90_0, a90_0, x90_1, a90_1, x90_2, a90_2, x90_3, a90_3, x90_4, a90_4, sxAll, arithA, Nat.reduceEqDiff, Env.keep, qt_eq, isAlloc, resultsA, packA, storeA, indexAddrA, fieldA, indexA, unA, fieldAddrA, loadA, Rv.part, cellsAt, TD.isAgg, convH, convA, buildA, fillA, setCells, copies, lenA, optA, boundA, mapO, ↓Option.bind_some, ↓Option.bind_none, Nat.reduceBEq, Nat.reduceAdd, Nat.reduceMul, Nat.reduceLeDiff, Nat.reduceSub, Nat.reduceLT, Nat.reduceGT, Int.reduceBEq, Int.reduceLT, Int.reduceLE, bne, ↓reduceIte, ty9, hgt, hw, hget, hc, pu103]
      (refine ⟨trivial, trivial, ?_⟩; first | rfl | trivial)
theorem trimRA_eq (T : Nat → Bool) (o : Nat) (H : Heap) (ho : H.obj o 0 = some (tabC T)) (s : List UInt8) (hs : s.length < 1000000000) : call cfg 90 [.str s, .ptr o 0 0] H = some (.ret (.str (dropR T s)), H) := by
  obtain ⟨⟨out, e', h'⟩, hx, ho, hh, h2⟩ := trimRA_loop T o H ho s.length s rfl hs (.str []) .junk .junk
  simp only at hx ho hh h2
  subst ho
  subst hh
  rw [call90]
  simp only [k90, Tryz.f90, regEnd_nrm (lv90 _), pu90, x90_0, a90_0, x90_1, a90_1, x90_2, a90_2, x90_3, a90_3, x90_4, a90_4, sxAll, arithA, Nat.reduceEqDiff, Env.keep, qt_eq, isAlloc, resultsA, packA, storeA, indexAddrA, fieldA, indexA, unA, fieldAddrA, loadA, Rv.part, cellsAt, TD.isAgg, convH, convA, buildA, fillA, setCells, copies, lenA, optA, boundA, mapO, ↓Option.bind_some, ↓Option.bind_none, Nat.reduceBEq, Nat.reduceAdd, Nat.reduceMul, Nat.reduceLeDiff, Nat.reduceSub, Nat.reduceLT, Nat.reduceGT, Int.reduceBEq, Int.reduceLT, Int.reduceLE, bne, ↓reduceIte, hx, h2]
  exact leave_kept rfl rfl

theorem trimLA_loop (T : Nat → Bool) (o : Nat) (H : Heap) (ho : H.obj o 0 = some (tabC T)) : ∀ (s : List UInt8), s.length < 1000000000 → ∀ a b c,
    Got (exec cfg 89 (.loop l89_0) [(0, .str s), (1, .ptr o 0 0), (4, a), (7, b), (12, c)] H) (fun q => q.1 = .exit 0 ∧ q.2.2 = H ∧ q.2.1.get 0 = .str (s.dropWhile fun c => T c.toNat)) := by
  intro s
  induction s with
  | nil =>
    intro hk a b c
    rw [got_loop]
    simp only [l89_0, k89, Tryz.f89, regEnd_nrm (lv89 _), pu89, x89_0, a89_0, x89_1, a89_1, x89_2, a89_2, x89_3, a89_3, x89_4, a89_4, sxAll, arithA, Nat.reduceEqDiff, Env.keep, qt_eq, isAlloc, resultsA, packA, storeA, indexAddrA, fieldA, indexA, unA, fieldAddrA, loadA, Rv.part, cellsAt, TD.isAgg, convH, convA, buildA, fillA, setCells, copies, lenA, optA, boundA, mapO, ↓Option.bind_some, ↓Option.bind_none, Nat.reduceBEq, Nat.reduceAdd, Nat.reduceMul, Nat.reduceLeDiff, Nat.reduceSub, Nat.reduceLT, Nat.reduceGT, Int.reduceBEq, Int.reduceLT, Int.reduceLE, bne, ↓reduceIte, ty9, Int.natCast_zero, Int.reduceGT]
    (refine ⟨trivial, trivial, ?_⟩; first | rfl | trivial)
  | cons ch r ih =>
    intro hk a b c
    have hgt : (((ch :: r).length : Int) > 0) = True := by simp <;> omega
    have hgt' : (((r.length + 1 : Nat) : Int) > 0) = True := by simp <;> omega
    have hc := asciiHas_eq T o ch H ho
    have h1 : ((1 : Int) ≤ ((r.length + 1 : Nat) : Int)) = True := by simp <;> omega
    rw [got_loop, List.dropWhile_cons]
    cases ht : T ch.toNat with
    | true =>
      rw [ht] at hc
      have := ih (by simp at hk; omega)
      simp only [l89_0] at this ⊢
      simp only [k89, Tryz.f89, regEnd_nrm (lv89 _), pu89, x89_0, a89_0, x89_1, a89_1, x89_2, a89_2, x89_3, a89_3, x89_4, a89_4, sxAll, arithA, Nat.reduceEqDiff, Env.keep, qt_eq, isAlloc, resultsA, packA, storeA, indexAddrA, fieldA, indexA, unA, fieldAddrA, loadA, Rv.part, cellsAt, TD.isAgg, convH, convA, buildA, fillA, setCells, copies, lenA, optA, boundA, mapO, ↓Option.bind_some, ↓Option.bind_none, Nat.reduceBEq, Nat.reduceAdd, Nat.reduceMul, Nat.reduceLeDiff, Nat.reduceSub, Nat.reduceLT, Nat.reduceGT, Int.reduceBEq, Int.reduceLT, Int.reduceLE, bne, ↓reduceIte, ty9, hgt, hgt', hc, pu103, sliceA, Int.reduceToNat, h1, List.take_length] at this ⊢
      exact this _ _ _
    | false =>
      rw [ht] at hc
      simp only [l89_0, k89, Tryz.f89, regEnd_nrm (lv89 _), pu89, x89_0, a89_0, x89_1, a89_1, x89_2, a89_2, x89_3, a89_3, x89_4, a89_4, sxAll, arithA, Nat.reduceEqDiff, Env.keep, qt_eq, isAlloc, resultsA, packA, storeA, indexAddrA, fieldA, indexA, unA, fieldAddrA, loadA, Rv.part, cellsAt, TD.isAgg, convH, convA, buildA, fillA, setCells, copies, lenA, optA, boundA, mapO, ↓Option.bind_some, ↓Option.bind_none, Nat.reduceBEq, Nat.reduceAdd, Nat.reduceMul, Nat.reduceLeDiff, Nat.reduceSub, Nat.reduceLT, Nat.reduceGT, Int.reduceBEq, Int.reduceLT, Int.reduceLE, bne, ↓reduceIte, ty9, hgt, hgt', hc, pu103, Int.reduceToNat]
      (refine ⟨trivial, trivial, ?_⟩; first | rfl | trivial)
theorem trimLA_eq (T : Nat → Bool) (o : Nat) (H : Heap) (ho : H.obj o 0 = some (tabC T)) (s : List UInt8) (hs : s.length < 1000000000) : call cfg 89 [.str s, .ptr o 0 0] H = some (.ret (.str (s.dropWhile fun c => T c.toNat)), H) := by
  obtain ⟨⟨out, e', h'⟩, hx, ho, hh, h2⟩ := trimLA_loop T o H ho s hs (.str []) .junk .junk
  simp only at hx ho hh h2
  subst ho
  subst hh
  rw [call89]
  simp only [k89, Tryz.f89, regEnd_nrm (lv89 _), pu89, x89_0, a89_0, x89_1, a89_1, x89_2, a89_2, x89_3, a89_3, x89_4, a89_4, sxAll, arithA, Nat.reduceEqDiff, Env.keep, qt_eq, isAlloc, resultsA, packA, storeA, indexAddrA, fieldA, indexA, unA, fieldAddrA, loadA, Rv.part, cellsAt, TD.isAgg, convH, convA, buildA, fillA, setCells, copies, lenA, optA, boundA, mapO, ↓Option.bind_some, ↓Option.bind_none, Nat.reduceBEq, Nat.reduceAdd, Nat.reduceMul, Nat.reduceLeDiff, Nat.reduceSub, Nat.reduceLT, Nat.reduceGT, Int.reduceBEq, Int.reduceLT, Int.reduceLE, bne, ↓reduceIte, hx, h2]
  exact leave_kept rfl rfl

theorem lv63 (r : Nat) : cfg.live 63 r = some [0, 1, 4, 5, 6, 12, 21, 34] := rfl
theorem ok63 : okB cfg0 63 Tryz.f63 (Tryz.f63.body.getD .skip) = true := by kernel_rfl
theorem pu63 : cfg.pure 63 = true := rfl
instance tight63 {d : Option Nat} : TightD cfg 63 d := ⟨fun _ _ => rfl⟩
def a63_0 : Array Oper := codeOps (codeAt [false] (Tryz.f63.body.getD .skip))
def b63_0 : Array Oper := a63_0
def r63_0 : Code := .region 0 a63_0 false
theorem x63_0 (e : Env) (h : Heap) : exec cfg 63 r63_0 e h = (ops cfg 63 b63_0 (a63_0.toList) e h).bind (regEnd cfg 63 0 false) := region_at _ _ _ _ _ _ _
def a63_1 : Array Oper := codeOps (codeAt [true, false, false] (Tryz.f63.body.getD .skip))
def b63_1 : Array Oper := a63_1
def r63_1 : Code := .region 1 a63_1 false
theorem x63_1 (e : Env) (h : Heap) : exec cfg 63 r63_1 e h = (ops cfg 63 b63_1 (a63_1.toList) e h).bind (regEnd cfg 63 1 false) := region_at _ _ _ _ _ _ _
theorem g63_1_2 : (b63_1[2]?).bind (·.dst) = some 9 := by kernel_rfl
def a63_2 : Array Oper := codeOps (codeAt [true, false, true, false, false] (Tryz.f63.body.getD .skip))
def b63_2 : Array Oper := a63_2
def r63_2 : Code := .region 2 a63_2 false
theorem x63_2 (e : Env) (h : Heap) : exec cfg 63 r63_2 e h = (ops cfg 63 b63_2 (a63_2.toList) e h).bind (regEnd cfg 63 2 false) := region_at _ _ _ _ _ _ _
def a63_3 : Array Oper := codeOps (codeAt [true, true, false, false] (Tryz.f63.body.getD .skip))
def b63_3 : Array Oper := a63_3
def r63_3 : Code := .region 3 a63_3 false
theorem x63_3 (e : Env) (h : Heap) : exec cfg 63 r63_3 e h = (ops cfg 63 b63_3 (a63_3.toList) e h).bind (regEnd cfg 63 3 false) := region_at _ _ _ _ _ _ _
theorem g63_3_3 : (b63_3[3]?).bind (·.dst) = some 17 := by kernel_rfl
def a63_4 : Array Oper := codeOps (codeAt [true, true, false, true, false, false] (Tryz.f63.body.getD .skip))
def b63_4 : Array Oper := a63_4
def r63_4 : Code := .region 4 a63_4 true
theorem s63_4 : sched a63_4 true = a63_4.toList := by kernel_rfl
theorem x63_4 (e : Env) (h : Heap) : exec cfg 63 r63_4 e h = (ops cfg 63 b63_4 (a63_4.toList) e h).bind (regEnd cfg 63 4 true) := (region_at _ _ _ _ _ _ _).trans (by rw [s63_4]; rfl)
def a63_5 : Array Oper := codeOps (codeAt [true, true, true, false, false] (Tryz.f63.body.getD .skip))
def b63_5 : Array Oper := a63_5
def r63_5 : Code := .region 5 a63_5 false
theorem x63_5 (e : Env) (h : Heap) : exec cfg 63 r63_5 e h = (ops cfg 63 b63_5 (a63_5.toList) e h).bind (regEnd cfg 63 5 false) := region_at _ _ _ _ _ _ _
def a63_6 : Array Oper := codeOps (codeAt [true, true, true, false, true, false] (Tryz.f63.body.getD .skip))
def b63_6 : Array Oper := a63_6
def r63_6 : Code := .region 6 a63_6 false
theorem x63_6 (e : Env) (h : Heap) : exec cfg 63 r63_6 e h = (ops cfg 63 b63_6 (a63_6.toList) e h).bind (regEnd cfg 63 6 false) := region_at _ _ _ _ _ _ _
def a63_7 : Array Oper := codeOps (codeAt [true, true, true, false, true, true, false, false] (Tryz.f63.body.getD .skip))
def b63_7 : Array Oper := a63_7
def r63_7 : Code := .region 7 a63_7 false
theorem x63_7 (e : Env) (h : Heap) : exec cfg 63 r63_7 e h = (ops cfg 63 b63_7 (a63_7.toList) e h).bind (regEnd cfg 63 7 false) := region_at _ _ _ _ _ _ _
def a63_8 : Array Oper := codeOps (codeAt [true, true, true, true, false] (Tryz.f63.body.getD .skip))
def b63_8 : Array Oper := a63_8
def r63_8 : Code := .region 8 a63_8 false
theorem x63_8 (e : Env) (h : Heap) : exec cfg 63 r63_8 e h = (ops cfg 63 b63_8 (a63_8.toList) e h).bind (regEnd cfg 63 8 false) := region_at _ _ _ _ _ _ _
def k63 : Code := (.seq r63_0 (.seq (.seq r63_1 (.cond (.tmp 12) (.seq r63_2 .ret) .skip)) (.seq (.seq r63_3 (.cond (.tmp 21) (.seq r63_4 .ret) .skip)) (.seq (.seq r63_5 (.seq r63_6 (.cond (.tmp 34) (.seq r63_7 .ret) .skip))) (.seq r63_8 .ret)))))
theorem body63 : Tryz.f63.body = some k63 := by kernel_rfl
theorem call63 (x0 x1 : AV) (h : Heap) : call cfg 63 [x0, x1] h = (exec cfg 63 k63 [(0, x0), (1, x1)] h).bind (callEnd cfg 63 h [.tmp 4]) := call_at2 (fnat Tryz.func63 body63 (by rw [← ok63]; kernel_rfl)) rfl rfl
theorem trim_eq (s cs : List UInt8) (h : Heap) (hs : s.length < 1000000000) (hn : cs.length < 1000000000) (hc : ∀ c ∈ cs, c.toNat < 128) (h2 : 2 ≤ cs.length) :
    call cfg 63 [.str s, .str cs] h = some (.ret (.str (if s = [] then [] else (dropR (setOf (fun _ => false) cs) s).dropWhile fun c => setOf (fun _ => false) cs c.toNat)), h) := by
  rw [call63]
  have hm := fun h => makeASCII_eq cs hn h hc
  generalize setOf (fun _ => false) cs = T at hm
  by_cases h0 : s = []
  · subst h0
    simp only [k63, Tryz.f63, regEnd_nrm (lv63 _), pu63, x63_0, a63_0, x63_1, a63_1, sx_guardO g63_1_2, x63_2, a63_2, x63_3, a63_3, sx_guardO g63_3_3, x63_4, a63_4, x63_5, a63_5, x63_6, a63_6, x63_7, a63_7, x63_8, a63_8, sxAll, arithA, Nat.reduceEqDiff, Env.keep, qt_eq, isAlloc, resultsA, packA, storeA, indexAddrA, fieldA, indexA, unA, fieldAddrA, loadA, Rv.part, cellsAt, TD.isAgg, convH, convA, buildA, fillA, setCells, copies, lenA, optA, boundA, mapO, ↓Option.bind_some, ↓Option.bind_none, Nat.reduceBEq, Nat.reduceAdd, Nat.reduceMul, Nat.reduceLeDiff, Nat.reduceSub, Nat.reduceLT, Nat.reduceGT, Int.reduceBEq, Int.reduceLT, Int.reduceLE, bne, ↓reduceIte, binA_str_eql]
    exact leave_kept rfl rfl
  · have b0 : (s == []) = false := by simp [h0]
    have b1 : (cs == []) = false := by cases cs <;> simp at h2 ⊢
    have b2 : ((cs.length : Int) == 1) = false := by simp; omega
    rw [if_neg h0]
    have hr := fun H o (ho : Heap.obj H o 0 = some (tabC T)) => trimRA_eq T o H ho s hs
    have hl := fun H o (ho : Heap.obj H o 0 = some (tabC T)) => trimLA_eq T o H ho (dropR T s) (by
      have : (dropR T s).length ≤ s.length := by
        simp only [dropR, List.length_reverse]
        exact Nat.le_trans (List.dropWhile_sublist _).length_le (by simp)
      omega)
    have hob : Heap.obj (h ++ [.cells (tabC T) 0, .cells (tabC T) 0]) (h.length + 1) 0 = some (tabC T) := by simp [Heap.obj]
    have hr' := hr _ _ hob
    have hl' := hl _ _ hob
    simp only [k63, Tryz.f63, regEnd_nrm (lv63 _), pu63, x63_0, a63_0, x63_1, a63_1, sx_guardO g63_1_2, x63_2, a63_2, x63_3, a63_3, sx_guardO g63_3_3, x63_4, a63_4, x63_5, a63_5, x63_6, a63_6, x63_7, a63_7, x63_8, a63_8, sxAll, arithA, Nat.reduceEqDiff, Env.keep, qt_eq, isAlloc, resultsA, packA, storeA, indexAddrA, fieldA, indexA, unA, fieldAddrA, loadA, Rv.part, cellsAt, TD.isAgg, convH, convA, buildA, fillA, setCells, copies, lenA, optA, boundA, mapO, ↓Option.bind_some, ↓Option.bind_none, Nat.reduceBEq, Nat.reduceAdd, Nat.reduceMul, Nat.reduceLeDiff, Nat.reduceSub, Nat.reduceLT, Nat.reduceGT, Int.reduceBEq, Int.reduceLT, Int.reduceLE, bne, ↓reduceIte, binA_str_eql, b0, b1, b2, ty9, tyA, tabC_len, tabC_leaf, tabC_over, pu88, hm, pu90, pu89, hr', hl']
    exact leave_pure rfl (by simp) rfl

def letters : List UInt8 := [97, 98, 99, 100, 101, 102, 103, 104, 105, 106, 107, 108, 109, 110, 111, 112, 113, 114, 115, 116, 117, 118, 119, 120, 121, 122, 65, 66, 67, 68, 69, 70, 71, 72, 73, 74, 75, 76, 77, 78, 79, 80, 81, 82, 83, 84, 85, 86, 87, 88, 89, 90, 95, 48, 49, 50, 51, 52, 53, 54, 55, 56, 57]
def isLetter (c : UInt8) : Bool := setOf (fun _ => false) letters c.toNat
def words : List (List UInt8) := wordsOf.map fun s => s.toUTF8.data.toList
theorem wordCells_eq : wordCells = strL words := rfl
/-- Is a text a name? -/
def isName (s : List UInt8) : Bool := !(s == []) && (!decide ((s.length : Int) > 32) && (!decide (s ∈ words) && (!(match s with | [] => false | c :: _ => decide ((c.toNat : Int) ≥ 48) && decide ((c.toNat : Int) ≤ 57)) && s.all isLetter)))

theorem dropWhile_nil {α : Type} {p : α → Bool} : ∀ {l : List α}, l.dropWhile p = [] → ∀ x ∈ l, p x = true
  | [], _, x, hx => by simp at hx
  | a :: r, h, x, hx => by
    rw [List.dropWhile_cons] at h
    cases ha : p a with
    | true =>
      rw [ha] at h
      rcases List.mem_cons.1 hx with rfl | hx
      · exact ha
      · exact dropWhile_nil h x hx
    | false => rw [ha] at h; cases h
theorem dropR_all (T : Nat → Bool) : ∀ s : List UInt8, ((dropR T s).dropWhile fun c => T c.toNat) = [] ↔ s.all (fun c => T c.toNat) = true := by
  intro s
  have key : ∀ r : List UInt8, ((r.dropWhile fun c => T c.toNat).reverse.dropWhile fun c => T c.toNat) = [] ↔ r.all (fun c => T c.toNat) = true := by
    intro r
    induction r with
    | nil => simp
    | cons c r ih =>
      rw [List.dropWhile_cons]
      cases hc : T c.toNat with
      | true => simpa [hc] using ih
      | false =>
        simp only [Bool.false_eq_true, if_false, List.reverse_cons, List.all_cons, hc, Bool.false_and, iff_false]
        intro h
        have := dropWhile_nil h c (by simp)
        rw [hc] at this; cases this
  rw [dropR, key, List.all_reverse]

theorem glob_words : cfg.glob 0 = some (.ref wordCells) := rfl
theorem lv45 (r : Nat) : cfg.live 45 r = some [0, 2, 24] := rfl
theorem ok45 : okB cfg0 45 Tryz.f45 (Tryz.f45.body.getD .skip) = true := by kernel_rfl
theorem pu45 : cfg.pure 45 = true := rfl
instance tight45 {d : Option Nat} : TightD cfg 45 d := ⟨fun _ _ => rfl⟩
def a45_0 : Array Oper := codeOps (codeAt [false] (Tryz.f45.body.getD .skip))
def b45_0 : Array Oper := a45_0
def r45_0 : Code := .region 0 a45_0 false
theorem x45_0 (e : Env) (h : Heap) : exec cfg 45 r45_0 e h = (ops cfg 45 b45_0 (a45_0.toList) e h).bind (regEnd cfg 45 0 false) := region_at _ _ _ _ _ _ _
def a45_1 : Array Oper := codeOps (codeAt [true, false, false] (Tryz.f45.body.getD .skip))
def b45_1 : Array Oper := a45_1
def r45_1 : Code := .region 1 a45_1 false
theorem x45_1 (e : Env) (h : Heap) : exec cfg 45 r45_1 e h = (ops cfg 45 b45_1 (a45_1.toList) e h).bind (regEnd cfg 45 1 false) := region_at _ _ _ _ _ _ _
theorem g45_1_2 : (b45_1[2]?).bind (·.dst) = some 5 := by kernel_rfl
theorem g45_1_7 : (b45_1[7]?).bind (·.dst) = some 10 := by kernel_rfl
theorem g45_1_12 : (b45_1[12]?).bind (·.dst) = some 15 := by kernel_rfl
theorem g45_1_16 : (b45_1[16]?).bind (·.dst) = some 19 := by kernel_rfl
def a45_2 : Array Oper := codeOps (codeAt [true, false, true, false, false] (Tryz.f45.body.getD .skip))
def b45_2 : Array Oper := a45_2
def r45_2 : Code := .region 2 a45_2 false
theorem x45_2 (e : Env) (h : Heap) : exec cfg 45 r45_2 e h = (ops cfg 45 b45_2 (a45_2.toList) e h).bind (regEnd cfg 45 2 false) := region_at _ _ _ _ _ _ _
def a45_3 : Array Oper := codeOps (codeAt [true, true, false] (Tryz.f45.body.getD .skip))
def b45_3 : Array Oper := a45_3
def r45_3 : Code := .region 3 a45_3 false
theorem x45_3 (e : Env) (h : Heap) : exec cfg 45 r45_3 e h = (ops cfg 45 b45_3 (a45_3.toList) e h).bind (regEnd cfg 45 3 false) := region_at _ _ _ _ _ _ _
def k45 : Code := (.seq r45_0 (.seq (.seq r45_1 (.cond (.tmp 24) (.seq r45_2 .ret) .skip)) (.seq r45_3 .ret)))
theorem body45 : Tryz.f45.body = some k45 := by kernel_rfl
theorem call45 (x0 : AV) (h : Heap) : call cfg 45 [x0] h = (exec cfg 45 k45 [(0, x0)] h).bind (callEnd cfg 45 h [.tmp 2]) := call_at2 (fnat Tryz.func45 body45 (by rw [← ok45]; kernel_rfl)) rfl rfl
theorem name_eq (s : List UInt8) (h : Heap) (hs : s.length < 1000000000) : call cfg 45 [.str s] h = some (.ret (.bool (isName s)), h) := by
  rw [call45]
  have hsl : sliceA cfg h 97 (.ref wordCells) none none none = some (.lst (strL words) 1 (.exact 15)) := by
    have hg : group 15 wordCells 1 = strL words := by rw [wordCells_eq]; exact group_plain (plain_strs words)
    have hl : wordCells.length = 15 := rfl
    simp [sliceA, ty97, ty9, boundA, hl, hg]
  have hcn := containsS_eq words s 1 (.exact 15) h (by decide)
  have ht := trim_eq s letters h hs (by decide) (by decide) (by decide)
  have hset : ∀ c, setOf (fun _ => false) letters c = setOf (fun _ => false) letters c := fun _ => rfl
  cases s with
  | nil =>
    simp only [k45, Tryz.f45, regEnd_nrm (lv45 _), pu45, x45_0, a45_0, x45_1, a45_1, sx_guardO g45_1_2, sx_guardO g45_1_7, sx_guardO g45_1_12, sx_guardO g45_1_16, x45_2, a45_2, x45_3, a45_3, sxAll, arithA, Nat.reduceEqDiff, Env.keep, qt_eq, isAlloc, resultsA, packA, storeA, indexAddrA, fieldA, indexA, unA, fieldAddrA, loadA, Rv.part, cellsAt, TD.isAgg, convH, convA, buildA, fillA, setCells, copies, lenA, optA, boundA, mapO, ↓Option.bind_some, ↓Option.bind_none, Nat.reduceBEq, Nat.reduceAdd, Nat.reduceMul, Nat.reduceLeDiff, Nat.reduceSub, Nat.reduceLT, Nat.reduceGT, Int.reduceBEq, Int.reduceLT, Int.reduceLE, bne, ↓reduceIte, binA_str_eql, ty9, ty5, ty3, evalA_glob, glob_words, hsl, pu62, pu63]
    exact leave_kept rfl rfl
  | cons c r =>
    have e0 : ((c :: r) == []) = false := rfl
    have hB : isName (c :: r) = (!decide (((c :: r).length : Int) > 32) && (!decide ((c :: r) ∈ words) && (!(decide ((c.toNat : Int) ≥ 48) && decide ((c.toNat : Int) ≤ 57)) && (c :: r).all isLetter))) := by simp [isName]
    rw [hB]
    by_cases h1 : ((c :: r).length : Int) > 32
    · have c1 : (((r.length + 1 : Nat) : Int) > 32) = True := by simp at h1 ⊢; omega
      simp only [k45, Tryz.f45, regEnd_nrm (lv45 _), pu45, x45_0, a45_0, x45_1, a45_1, sx_guardO g45_1_2, sx_guardO g45_1_7, sx_guardO g45_1_12, sx_guardO g45_1_16, x45_2, a45_2, x45_3, a45_3, sxAll, arithA, Nat.reduceEqDiff, Env.keep, qt_eq, isAlloc, resultsA, packA, storeA, indexAddrA, fieldA, indexA, unA, fieldAddrA, loadA, Rv.part, cellsAt, TD.isAgg, convH, convA, buildA, fillA, setCells, copies, lenA, optA, boundA, mapO, ↓Option.bind_some, ↓Option.bind_none, Nat.reduceBEq, Nat.reduceAdd, Nat.reduceMul, Nat.reduceLeDiff, Nat.reduceSub, Nat.reduceLT, Nat.reduceGT, Int.reduceBEq, Int.reduceLT, Int.reduceLE, bne, ↓reduceIte, binA_str_eql, ty9, ty5, ty3, evalA_glob, glob_words, hsl, pu62, pu63, c1, e0]
      exact leave_kept rfl rfl
    have c1 : (((r.length + 1 : Nat) : Int) > 32) = False := by simp at h1 ⊢; omega
    by_cases h2 : (c :: r) ∈ words
    · simp only [h2, decide_true] at hcn
      simp only [k45, Tryz.f45, regEnd_nrm (lv45 _), pu45, x45_0, a45_0, x45_1, a45_1, sx_guardO g45_1_2, sx_guardO g45_1_7, sx_guardO g45_1_12, sx_guardO g45_1_16, x45_2, a45_2, x45_3, a45_3, sxAll, arithA, Nat.reduceEqDiff, Env.keep, qt_eq, isAlloc, resultsA, packA, storeA, indexAddrA, fieldA, indexA, unA, fieldAddrA, loadA, Rv.part, cellsAt, TD.isAgg, convH, convA, buildA, fillA, setCells, copies, lenA, optA, boundA, mapO, ↓Option.bind_some, ↓Option.bind_none, Nat.reduceBEq, Nat.reduceAdd, Nat.reduceMul, Nat.reduceLeDiff, Nat.reduceSub, Nat.reduceLT, Nat.reduceGT, Int.reduceBEq, Int.reduceLT, Int.reduceLE, bne, ↓reduceIte, binA_str_eql, ty9, ty5, ty3, evalA_glob, glob_words, hsl, pu62, pu63, c1, e0, hcn, h2]
      exact leave_kept rfl rfl
    simp only [h2, decide_false] at hcn
    have hfin : (dropR (setOf (fun _ => false) letters) (c :: r)).dropWhile (fun c => setOf (fun _ => false) letters c.toNat) = [] ↔ (c :: r).all isLetter = true := dropR_all _ _
    have hbool : ((dropR (setOf (fun _ => false) letters) (c :: r)).dropWhile (fun c => setOf (fun _ => false) letters c.toNat) == []) = (c :: r).all isLetter := by
      rw [Bool.eq_iff_iff, ← hfin]; simp
    rw [if_neg (by simp)] at ht
    generalize hg : (dropR (setOf (fun _ => false) letters) (c :: r)).dropWhile (fun c => setOf (fun _ => false) letters c.toNat) = res at ht hbool
    generalize (c :: r).all isLetter = al at hbool ⊢
    simp only [letters] at ht
    by_cases h3 : (c.toNat : Int) ≥ 48
    · by_cases h4 : (c.toNat : Int) ≤ 57
      · simp only [k45, Tryz.f45, regEnd_nrm (lv45 _), pu45, x45_0, a45_0, x45_1, a45_1, sx_guardO g45_1_2, sx_guardO g45_1_7, sx_guardO g45_1_12, sx_guardO g45_1_16, x45_2, a45_2, x45_3, a45_3, sxAll, arithA, Nat.reduceEqDiff, Env.keep, qt_eq, isAlloc, resultsA, packA, storeA, indexAddrA, fieldA, indexA, unA, fieldAddrA, loadA, Rv.part, cellsAt, TD.isAgg, convH, convA, buildA, fillA, setCells, copies, lenA, optA, boundA, mapO, ↓Option.bind_some, ↓Option.bind_none, Nat.reduceBEq, Nat.reduceAdd, Nat.reduceMul, Nat.reduceLeDiff, Nat.reduceSub, Nat.reduceLT, Nat.reduceGT, Int.reduceBEq, Int.reduceLT, Int.reduceLE, bne, ↓reduceIte, binA_str_eql, ty9, ty5, ty3, evalA_glob, glob_words, hsl, pu62, pu63, c1, e0, hcn, h2, h3, h4, Int.reduceToNat]
        exact leave_kept rfl rfl
      · simp only [k45, Tryz.f45, regEnd_nrm (lv45 _), pu45, x45_0, a45_0, x45_1, a45_1, sx_guardO g45_1_2, sx_guardO g45_1_7, sx_guardO g45_1_12, sx_guardO g45_1_16, x45_2, a45_2, x45_3, a45_3, sxAll, arithA, Nat.reduceEqDiff, Env.keep, qt_eq, isAlloc, resultsA, packA, storeA, indexAddrA, fieldA, indexA, unA, fieldAddrA, loadA, Rv.part, cellsAt, TD.isAgg, convH, convA, buildA, fillA, setCells, copies, lenA, optA, boundA, mapO, ↓Option.bind_some, ↓Option.bind_none, Nat.reduceBEq, Nat.reduceAdd, Nat.reduceMul, Nat.reduceLeDiff, Nat.reduceSub, Nat.reduceLT, Nat.reduceGT, Int.reduceBEq, Int.reduceLT, Int.reduceLE, bne, ↓reduceIte, binA_str_eql, ty9, ty5, ty3, evalA_glob, glob_words, hsl, pu62, pu63, c1, e0, hcn, h2, h3, h4, Int.reduceToNat, ht, hbool]
        exact leave_kept rfl rfl
    · simp only [k45, Tryz.f45, regEnd_nrm (lv45 _), pu45, x45_0, a45_0, x45_1, a45_1, sx_guardO g45_1_2, sx_guardO g45_1_7, sx_guardO g45_1_12, sx_guardO g45_1_16, x45_2, a45_2, x45_3, a45_3, sxAll, arithA, Nat.reduceEqDiff, Env.keep, qt_eq, isAlloc, resultsA, packA, storeA, indexAddrA, fieldA, indexA, unA, fieldAddrA, loadA, Rv.part, cellsAt, TD.isAgg, convH, convA, buildA, fillA, setCells, copies, lenA, optA, boundA, mapO, ↓Option.bind_some, ↓Option.bind_none, Nat.reduceBEq, Nat.reduceAdd, Nat.reduceMul, Nat.reduceLeDiff, Nat.reduceSub, Nat.reduceLT, Nat.reduceGT, Int.reduceBEq, Int.reduceLT, Int.reduceLE, bne, ↓reduceIte, binA_str_eql, ty9, ty5, ty3, evalA_glob, glob_words, hsl, pu62, pu63, c1, e0, hcn, h2, h3, Int.reduceToNat, ht, hbool]
      exact leave_kept rfl rfl
end
end Go.Proofs.Sx

/-
  package code: 'Threads'; slices.Clone at []string.
-/
set_option linter.unusedSimpArgs false
set_option linter.unusedVariables false
set_option maxRecDepth 100000
set_option maxHeartbeats 4000000
namespace Go.Proofs.Sx
open Go.Rv Go.Proofs
attribute [local congr] bind_left got_left
noncomputable section

/-- The numbers of those that are threads. -/
def thr : List SFun → Nat → List Int
  | [], _ => []
  | f :: r, i => (if f.thread then [(i : Int)] else []) ++ thr r (i + 1)

theorem lv25 (r : Nat) : cfg.live 25 r = some [0, 1, 2, 3, 4, 5, 7, 8, 9, 10, 15] := rfl
theorem ok25 : okB cfg0 25 Tryz.f25 (Tryz.f25.body.getD .skip) = true := by kernel_rfl
theorem pu25 : cfg.pure 25 = true := rfl
instance tight25 {d : Option Nat} : TightD cfg 25 d := ⟨fun _ _ => rfl⟩
def a25_0 : Array Oper := codeOps (codeAt [false] (Tryz.f25.body.getD .skip))
def b25_0 : Array Oper := a25_0
def r25_0 : Code := .region 0 a25_0 false
theorem im25_1 : cfg.imm 25 1 = true := by kernel_rfl
theorem x25_0 (e : Env) (h : Heap) : exec cfg 25 r25_0 e h = (ops cfg 25 b25_0 (a25_0.toList) e h).bind (regEnd cfg 25 0 false) := region_at _ _ _ _ _ _ _
def a25_1 : Array Oper := codeOps (codeAt [true, false] (Tryz.f25.body.getD .skip))
def b25_1 : Array Oper := a25_1
def r25_1 : Code := .region 1 a25_1 false
theorem x25_1 (e : Env) (h : Heap) : exec cfg 25 r25_1 e h = (ops cfg 25 b25_1 (a25_1.toList) e h).bind (regEnd cfg 25 1 false) := region_at _ _ _ _ _ _ _
def a25_2 : Array Oper := codeOps (codeAt [true, true, false, false] (Tryz.f25.body.getD .skip))
def b25_2 : Array Oper := a25_2
def r25_2 : Code := .region 2 a25_2 false
theorem x25_2 (e : Env) (h : Heap) : exec cfg 25 r25_2 e h = (ops cfg 25 b25_2 (a25_2.toList) e h).bind (regEnd cfg 25 2 false) := region_at _ _ _ _ _ _ _
def a25_3 : Array Oper := codeOps (codeAt [true, true, false, true, false, false, false] (Tryz.f25.body.getD .skip))
def b25_3 : Array Oper := a25_3
def r25_3 : Code := .region 3 a25_3 false
theorem x25_3 (e : Env) (h : Heap) : exec cfg 25 r25_3 e h = (ops cfg 25 b25_3 (a25_3.toList) e h).bind (regEnd cfg 25 3 false) := region_at _ _ _ _ _ _ _
def a25_4 : Array Oper := codeOps (codeAt [true, true, false, true, false, false, true, true, false, false, false] (Tryz.f25.body.getD .skip))
def b25_4 : Array Oper := a25_4
def r25_4 : Code := .region 4 a25_4 false
theorem x25_4 (e : Env) (h : Heap) : exec cfg 25 r25_4 e h = (ops cfg 25 b25_4 (a25_4.toList) e h).bind (regEnd cfg 25 4 false) := region_at _ _ _ _ _ _ _
def a25_5 : Array Oper := codeOps (codeAt [true, true, false, true, false, false, true, true, false, false, true, false] (Tryz.f25.body.getD .skip))
def b25_5 : Array Oper := a25_5
def r25_5 : Code := .region 5 a25_5 false
theorem x25_5 (e : Env) (h : Heap) : exec cfg 25 r25_5 e h = (ops cfg 25 b25_5 (a25_5.toList) e h).bind (regEnd cfg 25 5 false) := region_at _ _ _ _ _ _ _
def a25_6 : Array Oper := codeOps (codeAt [true, true, false, true, false, false, true, true, false, false, true, true, false] (Tryz.f25.body.getD .skip))
def b25_6 : Array Oper := a25_6
def r25_6 : Code := .region 6 a25_6 false
theorem im25_18 : cfg.imm 25 18 = true := by kernel_rfl
theorem x25_6 (e : Env) (h : Heap) : exec cfg 25 r25_6 e h = (ops cfg 25 b25_6 (a25_6.toList) e h).bind (regEnd cfg 25 6 false) := region_at _ _ _ _ _ _ _
def a25_7 : Array Oper := codeOps (codeAt [true, true, false, true, false, false, true, true, true] (Tryz.f25.body.getD .skip))
def b25_7 : Array Oper := a25_7
def r25_7 : Code := .region 7 a25_7 false
theorem x25_7 (e : Env) (h : Heap) : exec cfg 25 r25_7 e h = (ops cfg 25 b25_7 (a25_7.toList) e h).bind (regEnd cfg 25 7 false) := region_at _ _ _ _ _ _ _
def a25_8 : Array Oper := codeOps (codeAt [true, true, true, false] (Tryz.f25.body.getD .skip))
def b25_8 : Array Oper := a25_8
def r25_8 : Code := .region 8 a25_8 false
theorem x25_8 (e : Env) (h : Heap) : exec cfg 25 r25_8 e h = (ops cfg 25 b25_8 (a25_8.toList) e h).bind (regEnd cfg 25 8 false) := region_at _ _ _ _ _ _ _
def l25_0 : Code := (.seq r25_3 (.seq (.cond (.tmp 10) .skip (.exit 0)) (.seq (.block 1 (.seq r25_4 (.seq r25_5 (.cond (.tmp 15) r25_6 .skip)))) r25_7)))
def k25 : Code := (.seq r25_0 (.seq r25_1 (.seq (.seq r25_2 (.block 0 (.loop l25_0))) (.seq r25_8 .ret))))
theorem body25 : Tryz.f25.body = some k25 := by kernel_rfl
theorem call25 (x0 : AV) (h : Heap) : call cfg 25 [x0] h = (exec cfg 25 k25 [(0, x0)] h).bind (callEnd cfg 25 h [.tmp 2]) := call_at2 (fnat Tryz.func25 body25 (by rw [← ok25]; kernel_rfl)) rfl rfl
theorem funsL_drop {xs ys : List SFun} {i : Nat} (h : xs.drop i = ys) : (funsL xs).drop i = funsL ys := by rw [funsL, ← List.map_drop, h]; rfl
theorem intL_append (a b : List Int) : intL (a ++ b) = intL a ++ intL b := by simp [intL]
theorem threads_loop (l : List SFun) (hn : l.length < 100000000) (n : Nat) (h0 : Heap) (z : Nat) (r : Room) : ∀ (ys : List SFun) (i : Nat), l.drop i = ys → i ≤ l.length → ∀ (acc : List Int) v H, Own n h0 H v (intL acc) → acc.length ≤ i → ∀ a b c d e f g,
    Got (exec cfg 25 (.loop l25_0) [(0, a), (1, b), (2, c), (3, v), (4, d), (5, e), (7, .lst (funsL l) z r), (8, .int .i64 l.length), (9, .int .i64 i), (10, f), (15, g)] H)
      (fun q => q.1 = .exit 0 ∧ Own n h0 q.2.2 (q.2.1.get 3) (intL (acc ++ thr ys i))) := by
  intro ys
  induction ys with
  | nil =>
    intro i hd hi acc v H O hacc a b c d e f g
    rw [got_loop]
    simp only [l25_0, k25, Tryz.f25, regEnd_nrm (lv25 _), pu25, x25_0, a25_0, im25_1, x25_1, a25_1, x25_2, a25_2, x25_3, a25_3, x25_4, a25_4, x25_5, a25_5, x25_6, a25_6, im25_18, x25_7, a25_7, x25_8, a25_8, sxAll, arithA, Nat.reduceEqDiff, Env.keep, qt_eq, isAlloc, resultsA, packA, storeA, indexAddrA, fieldA, indexA, unA, fieldAddrA, loadA, Rv.part, cellsAt, TD.isAgg, convH, convA, buildA, fillA, setCells, copies, lenA, optA, boundA, mapO, ↓Option.bind_some, ↓Option.bind_none, Nat.reduceBEq, Nat.reduceAdd, Nat.reduceMul, Nat.reduceLeDiff, Nat.reduceSub, Nat.reduceLT, Nat.reduceGT, Int.reduceBEq, Int.reduceLT, Int.reduceLE, bne, ↓reduceIte, at_end hd]
    exact ⟨trivial, by simpa [thr] using O⟩
  | cons y s ih =>
    intro i hd hi acc v H O hacc a b c d e f g
    obtain ⟨hlt, hget, hd'⟩ := at_drop hd
    have hx := funsL_get hget
    have hlt' : i < l.length := by simpa using hlt
    have hw := wrap_succ (i := i) (by omega)
    have hk := O.kn
    rw [got_loop]
    cases ht : y.thread with
    | true =>
      obtain ⟨v', H', ha, O'⟩ := (O.app [.cells y.cells 0]).push (plain_ints acc) (ys := [.int .i64 i]) (plain_ints [(i : Int)]) (by simp [mostLen, intL]; omega)
      have := ih (i + 1) hd' (by omega) (acc ++ [(i : Int)]) v' H' (by rw [intL_append]; exact O') (by simp; omega)
      simp only [SFun.cells, ht] at ha
      simp only [l25_0] at this ⊢
      simp only [thr, ht, if_true, SFun.cells, k25, Tryz.f25, regEnd_nrm (lv25 _), pu25, x25_0, a25_0, im25_1, x25_1, a25_1, x25_2, a25_2, x25_3, a25_3, x25_4, a25_4, x25_5, a25_5, x25_6, a25_6, im25_18, x25_7, a25_7, x25_8, a25_8, sxAll, arithA, Nat.reduceEqDiff, Env.keep, qt_eq, isAlloc, resultsA, packA, storeA, indexAddrA, fieldA, indexA, unA, fieldAddrA, loadA, Rv.part, cellsAt, TD.isAgg, convH, convA, buildA, fillA, setCells, copies, lenA, optA, boundA, mapO, ↓Option.bind_some, ↓Option.bind_none, Nat.reduceBEq, Nat.reduceAdd, Nat.reduceMul, Nat.reduceLeDiff, Nat.reduceSub, Nat.reduceLT, Nat.reduceGT, Int.reduceBEq, Int.reduceLT, Int.reduceLE, bne, ↓reduceIte, hlt, ty24, ty38, ty29, ty3, ty4, hx, hw, hk, O'.kn, ha, elems, group] at this ⊢
      exact this _ _ _ _ _ _ _
    | false =>
      have := ih (i + 1) hd' (by omega) acc v (H ++ [.cells y.cells 0]) (O.app _) (by omega)
      simp only [l25_0] at this ⊢
      simp only [thr, ht, Bool.false_eq_true, if_false, SFun.cells, k25, Tryz.f25, regEnd_nrm (lv25 _), pu25, x25_0, a25_0, im25_1, x25_1, a25_1, x25_2, a25_2, x25_3, a25_3, x25_4, a25_4, x25_5, a25_5, x25_6, a25_6, im25_18, x25_7, a25_7, x25_8, a25_8, sxAll, arithA, Nat.reduceEqDiff, Env.keep, qt_eq, isAlloc, resultsA, packA, storeA, indexAddrA, fieldA, indexA, unA, fieldAddrA, loadA, Rv.part, cellsAt, TD.isAgg, convH, convA, buildA, fillA, setCells, copies, lenA, optA, boundA, mapO, ↓Option.bind_some, ↓Option.bind_none, Nat.reduceBEq, Nat.reduceAdd, Nat.reduceMul, Nat.reduceLeDiff, Nat.reduceSub, Nat.reduceLT, Nat.reduceGT, Int.reduceBEq, Int.reduceLT, Int.reduceLE, bne, ↓reduceIte, hlt, ty24, ty38, ty29, ty3, ty4, hx, hw, hk] at this ⊢
      exact this _ _ _ _ _ _ _

theorem thr_len : ∀ (l : List SFun) (i : Nat), (thr l i).length ≤ l.length
  | [], _ => by simp [thr]
  | f :: r, i => by
    have := thr_len r (i + 1)
    simp only [thr, List.length_append, List.length_cons]
    split <;> simp <;> omega
/-- Threads' numbers, as they are handed back. -/
def thrV (p : SProg) : AV := if thr p.funs 0 = [] then .lst [] 0 .nil else .lst (intL (thr p.funs 0)) 1 .open
theorem cthreads_eq (p : SProg) (h : Heap) (hp : p.wf) : ∃ z r, call cfg 25 [.agg p.cells] h = some (.ret (.lst (intL (thr p.funs 0)) z r), h) := by
  obtain ⟨⟨o, e', H'⟩, hx, ho, O⟩ := threads_loop p.funs hp.2.2.1 h.length h p.fz p.froom p.funs 0 (by simp) (by omega) [] (.lst [] 0 .nil) h (Own.nil h) (by simp) (.agg p.cells) (.ref p.cells) (.lst [] 0 .nil) .junk .junk .junk .junk
  simp only [Int.natCast_zero, List.nil_append] at hx ho O
  subst ho
  have key : call cfg 25 [.agg p.cells] h = leaveA cfg 25 h (e'.get 3) H' := by
    rw [call25]
    simp only [SProg.cells] at hx
    simp only [SProg.cells, k25, Tryz.f25, regEnd_nrm (lv25 _), pu25, x25_0, a25_0, im25_1, x25_1, a25_1, x25_2, a25_2, x25_3, a25_3, x25_4, a25_4, x25_5, a25_5, x25_6, a25_6, im25_18, x25_7, a25_7, x25_8, a25_8, sxAll, arithA, Nat.reduceEqDiff, Env.keep, qt_eq, isAlloc, resultsA, packA, storeA, indexAddrA, fieldA, indexA, unA, fieldAddrA, loadA, Rv.part, cellsAt, TD.isAgg, convH, convA, buildA, fillA, setCells, copies, lenA, optA, boundA, mapO, ↓Option.bind_some, ↓Option.bind_none, Nat.reduceBEq, Nat.reduceAdd, Nat.reduceMul, Nat.reduceLeDiff, Nat.reduceSub, Nat.reduceLT, Nat.reduceGT, Int.reduceBEq, Int.reduceLT, Int.reduceLE, bne, ↓reduceIte, ty26, ty24, funsL_len, hx, O.kn]
  rw [key]
  rcases O.leave (plain_ints _) (C := cfg) (f := 25) rfl with ⟨h1, h2⟩ | h2
  · rw [h2]
    have : intL (thr p.funs 0) = [] := h1
    rw [this]
    exact ⟨_, _, rfl⟩
  · exact ⟨_, _, h2⟩

theorem lv42 (r : Nat) : cfg.live 42 r = some [0, 2, 4] := rfl
theorem ok42 : okB cfg0 42 Tryz.f42 (Tryz.f42.body.getD .skip) = true := by kernel_rfl
theorem pu42 : cfg.pure 42 = false := rfl
instance tight42 {d : Option Nat} : TightD cfg 42 d := ⟨fun _ _ => rfl⟩
def a42_0 : Array Oper := codeOps (codeAt [false] (Tryz.f42.body.getD .skip))
def b42_0 : Array Oper := a42_0
def r42_0 : Code := .region 0 a42_0 false
theorem x42_0 (e : Env) (h : Heap) : exec cfg 42 r42_0 e h = (ops cfg 42 b42_0 (a42_0.toList) e h).bind (regEnd cfg 42 0 false) := region_at _ _ _ _ _ _ _
def a42_1 : Array Oper := codeOps (codeAt [true, false, false] (Tryz.f42.body.getD .skip))
def b42_1 : Array Oper := a42_1
def r42_1 : Code := .region 1 a42_1 false
theorem x42_1 (e : Env) (h : Heap) : exec cfg 42 r42_1 e h = (ops cfg 42 b42_1 (a42_1.toList) e h).bind (regEnd cfg 42 1 false) := region_at _ _ _ _ _ _ _
def a42_2 : Array Oper := codeOps (codeAt [true, false, true, false, false] (Tryz.f42.body.getD .skip))
def b42_2 : Array Oper := a42_2
def r42_2 : Code := .region 2 a42_2 false
theorem x42_2 (e : Env) (h : Heap) : exec cfg 42 r42_2 e h = (ops cfg 42 b42_2 (a42_2.toList) e h).bind (regEnd cfg 42 2 false) := region_at _ _ _ _ _ _ _
def a42_3 : Array Oper := codeOps (codeAt [true, true, false] (Tryz.f42.body.getD .skip))
def b42_3 : Array Oper := a42_3
def r42_3 : Code := .region 3 a42_3 false
theorem im42_5 : cfg.imm 42 5 = false := by kernel_rfl
theorem x42_3 (e : Env) (h : Heap) : exec cfg 42 r42_3 e h = (ops cfg 42 b42_3 (a42_3.toList) e h).bind (regEnd cfg 42 3 false) := region_at _ _ _ _ _ _ _
def k42 : Code := (.seq r42_0 (.seq (.seq r42_1 (.cond (.tmp 4) (.seq r42_2 .ret) .skip)) (.seq r42_3 .ret)))
theorem body42 : Tryz.f42.body = some k42 := by kernel_rfl
theorem call42 (x0 : AV) (h : Heap) : call cfg 42 [x0] h = (exec cfg 42 k42 [(0, x0)] h).bind (callEnd cfg 42 h [.tmp 2]) := call_at2 (fnat Tryz.func42 body42 (by rw [← ok42]; kernel_rfl)) rfl rfl
theorem cloneS_eq (H : Heap) (v : AV) (xs : List (List UInt8)) (B : Built H v (strL xs) 1) (hl : xs.length ≤ mostLen) : ∃ v' H', call cfg 42 [v] H = some (.ret v', H') ∧ Own H.length H H' v' (strL xs) := by
  rcases B with ⟨rfl, hnil⟩ | ⟨o, g, cap, rfl, hob, hcap⟩
  · refine ⟨.lst [] 0 .nil, H, ?_, by rw [hnil]; exact Own.nil H⟩
    rw [call42]
    simp only [k42, Tryz.f42, regEnd_nrm (lv42 _), pu42, x42_0, a42_0, x42_1, a42_1, x42_2, a42_2, x42_3, a42_3, im42_5, sxAll, arithA, Nat.reduceEqDiff, Env.keep, qt_eq, isAlloc, resultsA, packA, storeA, indexAddrA, fieldA, indexA, unA, fieldAddrA, loadA, Rv.part, cellsAt, TD.isAgg, convH, convA, buildA, fillA, setCells, copies, lenA, optA, boundA, mapO, ↓Option.bind_some, ↓Option.bind_none, Nat.reduceBEq, Nat.reduceAdd, Nat.reduceMul, Nat.reduceLeDiff, Nat.reduceSub, Nat.reduceLT, Nat.reduceGT, Int.reduceBEq, Int.reduceLT, Int.reduceLE, bne, ↓reduceIte, ty23, binA, eqA]
    exact leave_impure rfl
  · have hlive := live_of hob
    have O0 : Own H.length H (H ++ [.cells [] 0]) (.msl H.length 0 0 1 0 (some 0)) [] :=
      ⟨.inr ⟨H.length, 0, some 0, rfl, by simp [Heap.obj, flatC], .inr rfl⟩, fun o ho => by simp only [objOf, Option.some.injEq] at ho; omega, by simp, by simp⟩
    obtain ⟨v', H', ha, O'⟩ := O0.push (fun _ h => by simp at h) (plain_strs xs) (by simpa using hl)
    refine ⟨v', H', ?_, by simpa [strL] using O'⟩
    have he : elems (H ++ [.cells [] 0]) (.msl o 0 (strL xs).length 1 g cap) = some (strL xs) := elems_built (Built.app (.inr ⟨o, g, cap, rfl, hob, hcap⟩) _) (plain_strs xs)
    rw [call42]
    have ha' : appendA (H ++ [.cells [] 0]) 1 (.msl H.length 0 0 1 0 (some 0)) (strL xs) = some (v', H') := ha
    simp only [k42, Tryz.f42, regEnd_nrm (lv42 _), pu42, x42_0, a42_0, x42_1, a42_1, x42_2, a42_2, x42_3, a42_3, im42_5, sxAll, arithA, Nat.reduceEqDiff, Env.keep, qt_eq, isAlloc, resultsA, packA, storeA, indexAddrA, fieldA, indexA, unA, fieldAddrA, loadA, Rv.part, cellsAt, TD.isAgg, convH, convA, buildA, fillA, setCells, copies, lenA, optA, boundA, mapO, ↓Option.bind_some, ↓Option.bind_none, Nat.reduceBEq, Nat.reduceAdd, Nat.reduceMul, Nat.reduceLeDiff, Nat.reduceSub, Nat.reduceLT, Nat.reduceGT, Int.reduceBEq, Int.reduceLT, Int.reduceLE, bne, ↓reduceIte, ty23, ty9, binA, eqA, hlive, Nat.zero_mul, he, ha', O'.kn]
    exact leave_impure rfl
end
end Go.Proofs.Sx

/-
  slices.IndexFunc, ContainsFunc at []string, whatever slice can be read; the closures of code.May.
-/
set_option linter.unusedSimpArgs false
set_option linter.unusedVariables false
set_option maxRecDepth 100000
set_option maxHeartbeats 4000000
namespace Go.Proofs.Sx
open Go.Rv Go.Proofs
attribute [local congr] bind_left got_left
noncomputable section

theorem indexFS_loopR (xs : List (List UInt8)) (p : List UInt8 → Bool) (g : Nat) (caps : List AV) (v : AV) (h : Heap) (hn : xs.length < 1000000000) (R : Rd cfg h 23 9 v (strL xs))
    (hg : ∀ a ∈ xs, call cfg g (.str a :: caps) h = some (.ret (.bool (p a)), h)) : ∀ (ys : List (List UInt8)) (i : Nat), xs.drop i = ys → i ≤ xs.length → ∀ c d t e,
    Got (exec cfg 61 (.loop l61_0) [(0, v), (1, .clo g caps), (4, c), (5, d), (7, .int .i64 xs.length), (8, .int .i64 i), (9, t), (16, e)] h) (fun q => q.2.2 = h ∧
      ((q.1 = .exit 0 ∧ idxP p ys i = -1) ∨ (q.1 = .ret ∧ q.2.1.get 4 = .int .i64 (idxP p ys i)))) := by
  intro ys
  induction ys with
  | nil =>
    intro i hd hi c d t e
    rw [got_loop]
    simp only [l61_0, k61, Tryz.f61, regEnd_nrm (lv61 _), pu61, x61_0, a61_0, x61_1, a61_1, x61_2, a61_2, x61_3, a61_3, x61_4, a61_4, x61_5, a61_5, x61_6, a61_6, x61_7, a61_7, sxAll, arithA, Nat.reduceEqDiff, Env.keep, qt_eq, isAlloc, resultsA, packA, storeA, fieldA, indexA, unA, fieldAddrA, Rv.part, cellsAt, TD.isAgg, convH, convA, buildA, fillA, setCells, copies, optA, boundA, mapO, ↓Option.bind_some, ↓Option.bind_none, Nat.reduceBEq, Nat.reduceAdd, Nat.reduceMul, Nat.reduceLeDiff, Nat.reduceSub, Nat.reduceLT, Nat.reduceGT, Int.reduceBEq, Int.reduceLT, Int.reduceLE, bne, ↓reduceIte, at_end hd]
    exact ⟨trivial, .inl ⟨trivial, rfl⟩⟩
  | cons y r ih =>
    intro i hd hi c d t e
    obtain ⟨hlt, hget, hd'⟩ := at_drop hd
    obtain ⟨a, h1, h2, h3⟩ := R.get i _ (strL_get hget)
    have hmem : y ∈ xs := List.mem_of_getElem? hget
    have hw := wrap_succ (i := i) (by omega)
    have hc := hg y hmem
    have hk := R.kn
    rw [got_loop]
    cases he : p y with
    | true =>
      rw [he] at hc
      simp only [l61_0, k61, Tryz.f61, regEnd_nrm (lv61 _), pu61, x61_0, a61_0, x61_1, a61_1, x61_2, a61_2, x61_3, a61_3, x61_4, a61_4, x61_5, a61_5, x61_6, a61_6, x61_7, a61_7, sxAll, arithA, Nat.reduceEqDiff, Env.keep, qt_eq, isAlloc, resultsA, packA, storeA, fieldA, indexA, unA, fieldAddrA, Rv.part, cellsAt, TD.isAgg, convH, convA, buildA, fillA, setCells, copies, optA, boundA, mapO, ↓Option.bind_some, ↓Option.bind_none, Nat.reduceBEq, Nat.reduceAdd, Nat.reduceMul, Nat.reduceLeDiff, Nat.reduceSub, Nat.reduceLT, Nat.reduceGT, Int.reduceBEq, Int.reduceLT, Int.reduceLE, bne, ↓reduceIte, hlt, hc, hk, h1, h2, h3]
      exact ⟨trivial, .inr ⟨trivial, by simp [Env.get_cons, idxP, he]⟩⟩
    | false =>
      rw [he] at hc
      have := ih (i + 1) hd' (by simp at hlt; omega)
      simp only [l61_0] at this ⊢
      simp only [k61, Tryz.f61, regEnd_nrm (lv61 _), pu61, x61_0, a61_0, x61_1, a61_1, x61_2, a61_2, x61_3, a61_3, x61_4, a61_4, x61_5, a61_5, x61_6, a61_6, x61_7, a61_7, sxAll, arithA, Nat.reduceEqDiff, Env.keep, qt_eq, isAlloc, resultsA, packA, storeA, fieldA, indexA, unA, fieldAddrA, Rv.part, cellsAt, TD.isAgg, convH, convA, buildA, fillA, setCells, copies, optA, boundA, mapO, ↓Option.bind_some, ↓Option.bind_none, Nat.reduceBEq, Nat.reduceAdd, Nat.reduceMul, Nat.reduceLeDiff, Nat.reduceSub, Nat.reduceLT, Nat.reduceGT, Int.reduceBEq, Int.reduceLT, Int.reduceLE, bne, ↓reduceIte, hlt, hw, hc, hk, h1, h2, h3, idxP, he] at this ⊢
      exact this _ _ _ _
theorem indexFS_eqR (xs : List (List UInt8)) (p : List UInt8 → Bool) (g : Nat) (caps : List AV) (v : AV) (h : Heap) (hn : xs.length < 1000000000) (R : Rd cfg h 23 9 v (strL xs))
    (hg : ∀ a ∈ xs, call cfg g (.str a :: caps) h = some (.ret (.bool (p a)), h)) : call cfg 61 [v, .clo g caps] h = some (.ret (.int .i64 (idxP p xs 0)), h) := by
  obtain ⟨⟨o, e', h'⟩, hx, hh, hq⟩ := indexFS_loopR xs p g caps v h hn R hg xs 0 (by simp) (by omega) (.int .i64 0) .junk .junk .junk
  simp only [Int.natCast_zero] at hx hh hq
  subst hh
  have hk := R.kn
  have hlen := R.len
  rw [strL_len] at hlen
  rw [call61]
  rcases hq with ⟨rfl, h1⟩ | ⟨rfl, h1⟩
  · simp only [k61, Tryz.f61, regEnd_nrm (lv61 _), pu61, x61_0, a61_0, x61_1, a61_1, x61_2, a61_2, x61_3, a61_3, x61_4, a61_4, x61_5, a61_5, x61_6, a61_6, x61_7, a61_7, sxAll, arithA, Nat.reduceEqDiff, Env.keep, qt_eq, isAlloc, resultsA, packA, storeA, fieldA, indexA, unA, fieldAddrA, Rv.part, cellsAt, TD.isAgg, convH, convA, buildA, fillA, setCells, copies, optA, boundA, mapO, ↓Option.bind_some, ↓Option.bind_none, Nat.reduceBEq, Nat.reduceAdd, Nat.reduceMul, Nat.reduceLeDiff, Nat.reduceSub, Nat.reduceLT, Nat.reduceGT, Int.reduceBEq, Int.reduceLT, Int.reduceLE, bne, ↓reduceIte, ty23, hk, hlen, hx, h1]
    exact leave_kept rfl rfl
  · simp only [k61, Tryz.f61, regEnd_nrm (lv61 _), pu61, x61_0, a61_0, x61_1, a61_1, x61_2, a61_2, x61_3, a61_3, x61_4, a61_4, x61_5, a61_5, x61_6, a61_6, x61_7, a61_7, sxAll, arithA, Nat.reduceEqDiff, Env.keep, qt_eq, isAlloc, resultsA, packA, storeA, fieldA, indexA, unA, fieldAddrA, Rv.part, cellsAt, TD.isAgg, convH, convA, buildA, fillA, setCells, copies, optA, boundA, mapO, ↓Option.bind_some, ↓Option.bind_none, Nat.reduceBEq, Nat.reduceAdd, Nat.reduceMul, Nat.reduceLeDiff, Nat.reduceSub, Nat.reduceLT, Nat.reduceGT, Int.reduceBEq, Int.reduceLT, Int.reduceLE, bne, ↓reduceIte, ty23, hk, hlen, hx, h1]
    exact leave_kept rfl rfl
theorem containsFS_eqR (xs : List (List UInt8)) (p : List UInt8 → Bool) (g : Nat) (caps : List AV) (v : AV) (h : Heap) (hn : xs.length < 1000000000) (R : Rd cfg h 23 9 v (strL xs))
    (hg : ∀ a ∈ xs, call cfg g (.str a :: caps) h = some (.ret (.bool (p a)), h)) : call cfg 43 [v, .clo g caps] h = some (.ret (.bool (xs.any p)), h) := by
  rw [call43]
  simp only [k43, Tryz.f43, regEnd_nrm (lv43 _), pu43, x43_0, a43_0, x43_1, a43_1, sxAll, arithA, Nat.reduceEqDiff, Env.keep, qt_eq, isAlloc, resultsA, packA, storeA, fieldA, indexA, unA, fieldAddrA, Rv.part, cellsAt, TD.isAgg, convH, convA, buildA, fillA, setCells, copies, optA, boundA, mapO, ↓Option.bind_some, ↓Option.bind_none, Nat.reduceBEq, Nat.reduceAdd, Nat.reduceMul, Nat.reduceLeDiff, Nat.reduceSub, Nat.reduceLT, Nat.reduceGT, Int.reduceBEq, Int.reduceLT, Int.reduceLE, bne, ↓reduceIte, R.kn, indexFS_eqR xs p g caps v h hn R hg, pu61, idxP_any]
  exact leave_kept rfl rfl

theorem lv44 (r : Nat) : cfg.live 44 r = some [0, 2] := rfl
theorem ok44 : okB cfg0 44 Tryz.f44 (Tryz.f44.body.getD .skip) = true := by kernel_rfl
theorem pu44 : cfg.pure 44 = true := rfl
instance tight44 {d : Option Nat} : TightD cfg 44 d := ⟨fun _ _ => rfl⟩
def a44_0 : Array Oper := codeOps (codeAt [false] (Tryz.f44.body.getD .skip))
def b44_0 : Array Oper := a44_0
def r44_0 : Code := .region 0 a44_0 false
theorem x44_0 (e : Env) (h : Heap) : exec cfg 44 r44_0 e h = (ops cfg 44 b44_0 (a44_0.toList) e h).bind (regEnd cfg 44 0 false) := region_at _ _ _ _ _ _ _
def a44_1 : Array Oper := codeOps (codeAt [true, false] (Tryz.f44.body.getD .skip))
def b44_1 : Array Oper := a44_1
def r44_1 : Code := .region 1 a44_1 false
theorem x44_1 (e : Env) (h : Heap) : exec cfg 44 r44_1 e h = (ops cfg 44 b44_1 (a44_1.toList) e h).bind (regEnd cfg 44 1 false) := region_at _ _ _ _ _ _ _
def k44 : Code := (.seq r44_0 (.seq r44_1 .ret))
theorem body44 : Tryz.f44.body = some k44 := by kernel_rfl
theorem call44 (x0 : AV) (h : Heap) : call cfg 44 [x0] h = (exec cfg 44 k44 [(0, x0)] h).bind (callEnd cfg 44 h [.tmp 2]) := call_at2 (fnat Tryz.func44 body44 (by rw [← ok44]; kernel_rfl)) rfl rfl
theorem lv27 (r : Nat) : cfg.live 27 r = some [0, 1, 2] := rfl
theorem ok27 : okB cfg0 27 Tryz.f27 (Tryz.f27.body.getD .skip) = true := by kernel_rfl
theorem pu27 : cfg.pure 27 = true := rfl
instance tight27 {d : Option Nat} : TightD cfg 27 d := ⟨fun _ _ => rfl⟩
def a27_0 : Array Oper := codeOps (codeAt [false] (Tryz.f27.body.getD .skip))
def b27_0 : Array Oper := a27_0
def r27_0 : Code := .region 0 a27_0 false
theorem im27_1 : cfg.imm 27 1 = true := by kernel_rfl
theorem x27_0 (e : Env) (h : Heap) : exec cfg 27 r27_0 e h = (ops cfg 27 b27_0 (a27_0.toList) e h).bind (regEnd cfg 27 0 false) := region_at _ _ _ _ _ _ _
def a27_1 : Array Oper := codeOps (codeAt [true, false] (Tryz.f27.body.getD .skip))
def b27_1 : Array Oper := a27_1
def r27_1 : Code := .region 1 a27_1 false
theorem x27_1 (e : Env) (h : Heap) : exec cfg 27 r27_1 e h = (ops cfg 27 b27_1 (a27_1.toList) e h).bind (regEnd cfg 27 1 false) := region_at _ _ _ _ _ _ _
theorem g27_1_3 : (b27_1[3]?).bind (·.dst) = some 6 := by kernel_rfl
def k27 : Code := (.seq r27_0 (.seq r27_1 .ret))
theorem body27 : Tryz.f27.body = some k27 := by kernel_rfl
theorem call27 (x0 : AV) (h : Heap) : call cfg 27 [x0] h = (exec cfg 27 k27 [(0, x0)] h).bind (callEnd cfg 27 h [.tmp 2]) := call_at2 (fnat Tryz.func27 body27 (by rw [← ok27]; kernel_rfl)) rfl rfl
theorem lv29 (r : Nat) : cfg.live 29 r = some [0, 1, 2, 3] := rfl
theorem ok29 : okB cfg0 29 Tryz.f29 (Tryz.f29.body.getD .skip) = true := by kernel_rfl
theorem pu29 : cfg.pure 29 = true := rfl
instance tight29 {d : Option Nat} : TightD cfg 29 d := ⟨fun _ _ => rfl⟩
def a29_0 : Array Oper := codeOps (codeAt [false] (Tryz.f29.body.getD .skip))
def b29_0 : Array Oper := a29_0
def r29_0 : Code := .region 0 a29_0 false
theorem im29_2 : cfg.imm 29 2 = true := by kernel_rfl
theorem x29_0 (e : Env) (h : Heap) : exec cfg 29 r29_0 e h = (ops cfg 29 b29_0 (a29_0.toList) e h).bind (regEnd cfg 29 0 false) := region_at _ _ _ _ _ _ _
def a29_1 : Array Oper := codeOps (codeAt [true, false] (Tryz.f29.body.getD .skip))
def b29_1 : Array Oper := a29_1
def r29_1 : Code := .region 1 a29_1 false
theorem x29_1 (e : Env) (h : Heap) : exec cfg 29 r29_1 e h = (ops cfg 29 b29_1 (a29_1.toList) e h).bind (regEnd cfg 29 1 false) := region_at _ _ _ _ _ _ _
def k29 : Code := (.seq r29_0 (.seq r29_1 .ret))
theorem body29 : Tryz.f29.body = some k29 := by kernel_rfl
theorem call29 (x0 x1 : AV) (h : Heap) : call cfg 29 [x0, x1] h = (exec cfg 29 k29 [(0, x0), (1, x1)] h).bind (callEnd cfg 29 h [.tmp 3]) := call_at2 (fnat Tryz.func29 body29 (by rw [← ok29]; kernel_rfl)) rfl rfl
theorem namedx_eq (s : List UInt8) (h : Heap) (hs : s.length < 1000000000) : call cfg 44 [.str s] h = some (.ret (.bool (!isName s)), h) := by
  rw [call44]
  simp only [k44, Tryz.f44, regEnd_nrm (lv44 _), pu44, x44_0, a44_0, x44_1, a44_1, sxAll, arithA, Nat.reduceEqDiff, Env.keep, qt_eq, isAlloc, resultsA, packA, storeA, indexAddrA, fieldA, indexA, unA, fieldAddrA, loadA, Rv.part, cellsAt, TD.isAgg, convH, convA, buildA, fillA, setCells, copies, lenA, optA, boundA, mapO, ↓Option.bind_some, ↓Option.bind_none, Nat.reduceBEq, Nat.reduceAdd, Nat.reduceMul, Nat.reduceLeDiff, Nat.reduceSub, Nat.reduceLT, Nat.reduceGT, Int.reduceBEq, Int.reduceLT, Int.reduceLE, bne, ↓reduceIte, name_eq s h hs, pu45]
  exact leave_kept rfl rfl

def badSize (m : SMem) : Bool := decide (m.size < 1) || decide (m.size > 1024)
theorem mayA_eq (m : SMem) (h : Heap) : call cfg 27 [.agg m.cells] h = some (.ret (.bool (badSize m)), h) := by
  rw [call27]
  unfold badSize
  by_cases c1 : m.size < 1
  · simp only [SMem.cells, k27, Tryz.f27, regEnd_nrm (lv27 _), pu27, x27_0, a27_0, im27_1, x27_1, a27_1, sx_guardO g27_1_3, sxAll, arithA, Nat.reduceEqDiff, Env.keep, qt_eq, isAlloc, resultsA, packA, storeA, indexAddrA, fieldA, indexA, unA, fieldAddrA, loadA, Rv.part, cellsAt, TD.isAgg, convH, convA, buildA, fillA, setCells, copies, lenA, optA, boundA, mapO, ↓Option.bind_some, ↓Option.bind_none, Nat.reduceBEq, Nat.reduceAdd, Nat.reduceMul, Nat.reduceLeDiff, Nat.reduceSub, Nat.reduceLT, Nat.reduceGT, Int.reduceBEq, Int.reduceLT, Int.reduceLE, bne, ↓reduceIte, ty63, ty3, c1]
    exact leave_kept rfl rfl
  · simp only [SMem.cells, k27, Tryz.f27, regEnd_nrm (lv27 _), pu27, x27_0, a27_0, im27_1, x27_1, a27_1, sx_guardO g27_1_3, sxAll, arithA, Nat.reduceEqDiff, Env.keep, qt_eq, isAlloc, resultsA, packA, storeA, indexAddrA, fieldA, indexA, unA, fieldAddrA, loadA, Rv.part, cellsAt, TD.isAgg, convH, convA, buildA, fillA, setCells, copies, lenA, optA, boundA, mapO, ↓Option.bind_some, ↓Option.bind_none, Nat.reduceBEq, Nat.reduceAdd, Nat.reduceMul, Nat.reduceLeDiff, Nat.reduceSub, Nat.reduceLT, Nat.reduceGT, Int.reduceBEq, Int.reduceLT, Int.reduceLE, bne, ↓reduceIte, ty63, ty3, c1]
    exact leave_kept rfl rfl
theorem mayB_eq (p : SProg) (f : SFun) (h : Heap) (hf : f.wf) : call cfg 29 [.agg f.cells, .ref p.cells] h = some (.ret (.bool (!mayFunB p f)), h) := by
  rw [call29]
  have hm := fun h => mayFun_eq p f h hf
  simp only [SProg.cells, SFun.cells] at hm
  simp only [SProg.cells, SFun.cells, k29, Tryz.f29, regEnd_nrm (lv29 _), pu29, x29_0, a29_0, im29_2, x29_1, a29_1, sxAll, arithA, Nat.reduceEqDiff, Env.keep, qt_eq, isAlloc, resultsA, packA, storeA, indexAddrA, fieldA, indexA, unA, fieldAddrA, loadA, Rv.part, cellsAt, TD.isAgg, convH, convA, buildA, fillA, setCells, copies, lenA, optA, boundA, mapO, ↓Option.bind_some, ↓Option.bind_none, Nat.reduceBEq, Nat.reduceAdd, Nat.reduceMul, Nat.reduceLeDiff, Nat.reduceSub, Nat.reduceLT, Nat.reduceGT, Int.reduceBEq, Int.reduceLT, Int.reduceLE, bne, ↓reduceIte, ty26, ty38, pu30, hm]
  exact leave_kept rfl rfl
end
end Go.Proofs.Sx

/-
  slices.Compact at []string: how long what it hands back is.
-/
set_option linter.unusedSimpArgs false
set_option linter.unusedVariables false
set_option maxRecDepth 100000
set_option maxHeartbeats 4000000
namespace Go.Proofs.Sx
open Go.Rv Go.Proofs
attribute [local congr] bind_left got_left
noncomputable section

/-- How often one differs from the one ahead of it. -/
def chg : List (List UInt8) → Nat
  | a :: b :: r => (if a = b then 0 else 1) + chg (b :: r)
  | _ => 0
def cl (l : List (List UInt8)) : Nat := if l = [] then 0 else 1 + chg l

theorem drop_two {l : List (List UInt8)} {j : Nat} (h : j + 1 < l.length) : ∃ a b r, l.drop j = a :: b :: r ∧ l.drop (j + 1) = b :: r ∧ l[j]? = some a ∧ l[j + 1]? = some b := by
  have h1 : l.drop j = l[j] :: l.drop (j + 1) := List.drop_eq_getElem_cons (by omega)
  have h2 : l.drop (j + 1) = l[j + 1] :: l.drop (j + 1 + 1) := List.drop_eq_getElem_cons h
  exact ⟨l[j], l[j + 1], l.drop (j + 1 + 1), by rw [h1, h2], h2, List.getElem?_eq_getElem _, List.getElem?_eq_getElem _⟩
theorem drop_one {l : List (List UInt8)} {j : Nat} (h : j + 1 = l.length) : ∃ a, l.drop j = [a] := by
  have h1 : l.drop j = l[j] :: l.drop (j + 1) := List.drop_eq_getElem_cons (by omega)
  exact ⟨l[j], by rw [h1, List.drop_of_length_le (by omega)]⟩

theorem lv41 (r : Nat) : cfg.live 41 r = some [0, 2, 3, 4, 5, 8, 13, 25, 32, 44] := rfl
theorem ok41 : okB cfg0 41 Tryz.f41 (Tryz.f41.body.getD .skip) = true := by kernel_rfl
theorem pu41 : cfg.pure 41 = false := rfl
instance tight41 {d : Option Nat} : TightD cfg 41 d := ⟨fun _ _ => rfl⟩
def a41_0 : Array Oper := codeOps (codeAt [false] (Tryz.f41.body.getD .skip))
def b41_0 : Array Oper := a41_0
def r41_0 : Code := .region 0 a41_0 false
theorem x41_0 (e : Env) (h : Heap) : exec cfg 41 r41_0 e h = (ops cfg 41 b41_0 (a41_0.toList) e h).bind (regEnd cfg 41 0 false) := region_at _ _ _ _ _ _ _
def a41_1 : Array Oper := codeOps (codeAt [true, false, false] (Tryz.f41.body.getD .skip))
def b41_1 : Array Oper := a41_1
def r41_1 : Code := .region 1 a41_1 false
theorem x41_1 (e : Env) (h : Heap) : exec cfg 41 r41_1 e h = (ops cfg 41 b41_1 (a41_1.toList) e h).bind (regEnd cfg 41 1 false) := region_at _ _ _ _ _ _ _
def a41_2 : Array Oper := codeOps (codeAt [true, false, true, false, false] (Tryz.f41.body.getD .skip))
def b41_2 : Array Oper := a41_2
def r41_2 : Code := .region 2 a41_2 false
theorem x41_2 (e : Env) (h : Heap) : exec cfg 41 r41_2 e h = (ops cfg 41 b41_2 (a41_2.toList) e h).bind (regEnd cfg 41 2 false) := region_at _ _ _ _ _ _ _
def a41_3 : Array Oper := codeOps (codeAt [true, true, false, false] (Tryz.f41.body.getD .skip))
def b41_3 : Array Oper := a41_3
def r41_3 : Code := .region 3 a41_3 false
theorem x41_3 (e : Env) (h : Heap) : exec cfg 41 r41_3 e h = (ops cfg 41 b41_3 (a41_3.toList) e h).bind (regEnd cfg 41 3 false) := region_at _ _ _ _ _ _ _
def a41_4 : Array Oper := codeOps (codeAt [true, true, false, true, false, false, false, false] (Tryz.f41.body.getD .skip))
def b41_4 : Array Oper := a41_4
def r41_4 : Code := .region 4 a41_4 false
theorem x41_4 (e : Env) (h : Heap) : exec cfg 41 r41_4 e h = (ops cfg 41 b41_4 (a41_4.toList) e h).bind (regEnd cfg 41 4 false) := region_at _ _ _ _ _ _ _
def a41_6 : Array Oper := codeOps (codeAt [true, true, false, true, false, false, true, false, false, false] (Tryz.f41.body.getD .skip))
def b41_6 : Array Oper := a41_6
def r41_6 : Code := .region 6 a41_6 true
theorem s41_6 : sched a41_6 true = a41_6.toList := by kernel_rfl
theorem x41_6 (e : Env) (h : Heap) : exec cfg 41 r41_6 e h = (ops cfg 41 b41_6 (a41_6.toList) e h).bind (regEnd cfg 41 6 true) := (region_at _ _ _ _ _ _ _).trans (by rw [s41_6]; rfl)
def a41_7 : Array Oper := codeOps (codeAt [true, true, false, true, false, false, true, false, false, true, false, false] (Tryz.f41.body.getD .skip))
def b41_7 : Array Oper := a41_7
def r41_7 : Code := .region 7 a41_7 false
theorem x41_7 (e : Env) (h : Heap) : exec cfg 41 r41_7 e h = (ops cfg 41 b41_7 (a41_7.toList) e h).bind (regEnd cfg 41 7 false) := region_at _ _ _ _ _ _ _
def a41_8 : Array Oper := codeOps (codeAt [true, true, false, true, false, false, true, false, false, true, false, true, false, false] (Tryz.f41.body.getD .skip))
def b41_8 : Array Oper := a41_8
def r41_8 : Code := .region 8 a41_8 false
theorem x41_8 (e : Env) (h : Heap) : exec cfg 41 r41_8 e h = (ops cfg 41 b41_8 (a41_8.toList) e h).bind (regEnd cfg 41 8 false) := region_at _ _ _ _ _ _ _
def a41_9 : Array Oper := codeOps (codeAt [true, true, false, true, false, false, true, false, false, true, false, true, false, true, false, false, false, false] (Tryz.f41.body.getD .skip))
def b41_9 : Array Oper := a41_9
def r41_9 : Code := .region 9 a41_9 false
theorem x41_9 (e : Env) (h : Heap) : exec cfg 41 r41_9 e h = (ops cfg 41 b41_9 (a41_9.toList) e h).bind (regEnd cfg 41 9 false) := region_at _ _ _ _ _ _ _
def a41_11 : Array Oper := codeOps (codeAt [true, true, false, true, false, false, true, false, false, true, false, true, false, true, false, false, true, false, false, false] (Tryz.f41.body.getD .skip))
def b41_11 : Array Oper := a41_11
def r41_11 : Code := .region 11 a41_11 true
theorem s41_11 : sched a41_11 true = a41_11.toList := by kernel_rfl
theorem x41_11 (e : Env) (h : Heap) : exec cfg 41 r41_11 e h = (ops cfg 41 b41_11 (a41_11.toList) e h).bind (regEnd cfg 41 11 true) := (region_at _ _ _ _ _ _ _).trans (by rw [s41_11]; rfl)
def a41_12 : Array Oper := codeOps (codeAt [true, true, false, true, false, false, true, false, false, true, false, true, false, true, false, false, true, false, false, true, false, false] (Tryz.f41.body.getD .skip))
def b41_12 : Array Oper := a41_12
def r41_12 : Code := .region 12 a41_12 false
theorem x41_12 (e : Env) (h : Heap) : exec cfg 41 r41_12 e h = (ops cfg 41 b41_12 (a41_12.toList) e h).bind (regEnd cfg 41 12 false) := region_at _ _ _ _ _ _ _
def a41_13 : Array Oper := codeOps (codeAt [true, true, false, true, false, false, true, false, false, true, false, true, false, true, false, false, true, false, false, true, false, true] (Tryz.f41.body.getD .skip))
def b41_13 : Array Oper := a41_13
def r41_13 : Code := .region 13 a41_13 false
theorem x41_13 (e : Env) (h : Heap) : exec cfg 41 r41_13 e h = (ops cfg 41 b41_13 (a41_13.toList) e h).bind (regEnd cfg 41 13 false) := region_at _ _ _ _ _ _ _
def a41_10 : Array Oper := codeOps (codeAt [true, true, false, true, false, false, true, false, false, true, false, true, false, true, false, false, true, true] (Tryz.f41.body.getD .skip))
def b41_10 : Array Oper := a41_10
def r41_10 : Code := .region 10 a41_10 false
theorem x41_10 (e : Env) (h : Heap) : exec cfg 41 r41_10 e h = (ops cfg 41 b41_10 (a41_10.toList) e h).bind (regEnd cfg 41 10 false) := region_at _ _ _ _ _ _ _
def a41_14 : Array Oper := codeOps (codeAt [true, true, false, true, false, false, true, false, false, true, false, true, true, false] (Tryz.f41.body.getD .skip))
def b41_14 : Array Oper := a41_14
def r41_14 : Code := .region 14 a41_14 false
theorem x41_14 (e : Env) (h : Heap) : exec cfg 41 r41_14 e h = (ops cfg 41 b41_14 (a41_14.toList) e h).bind (regEnd cfg 41 14 false) := region_at _ _ _ _ _ _ _
def a41_15 : Array Oper := codeOps (codeAt [true, true, false, true, false, false, true, false, false, true, false, true, true, true, false] (Tryz.f41.body.getD .skip))
def b41_15 : Array Oper := a41_15
def r41_15 : Code := .region 15 a41_15 false
theorem x41_15 (e : Env) (h : Heap) : exec cfg 41 r41_15 e h = (ops cfg 41 b41_15 (a41_15.toList) e h).bind (regEnd cfg 41 15 false) := region_at _ _ _ _ _ _ _
def a41_5 : Array Oper := codeOps (codeAt [true, true, false, true, false, false, true, true] (Tryz.f41.body.getD .skip))
def b41_5 : Array Oper := a41_5
def r41_5 : Code := .region 5 a41_5 false
theorem x41_5 (e : Env) (h : Heap) : exec cfg 41 r41_5 e h = (ops cfg 41 b41_5 (a41_5.toList) e h).bind (regEnd cfg 41 5 false) := region_at _ _ _ _ _ _ _
def a41_16 : Array Oper := codeOps (codeAt [true, true, true, false] (Tryz.f41.body.getD .skip))
def b41_16 : Array Oper := a41_16
def r41_16 : Code := .region 16 a41_16 false
theorem x41_16 (e : Env) (h : Heap) : exec cfg 41 r41_16 e h = (ops cfg 41 b41_16 (a41_16.toList) e h).bind (regEnd cfg 41 16 false) := region_at _ _ _ _ _ _ _
def l41_1 : Code := (.seq (.seq r41_9 (.cond (.tmp 32) .skip (.exit 2))) (.seq (.block 3 (.seq r41_11 (.cond (.tmp 44) (.seq r41_12 r41_13) .skip))) r41_10))
def l41_0 : Code := (.seq (.seq r41_4 (.cond (.tmp 13) .skip (.exit 0))) (.seq (.block 1 (.seq r41_6 (.cond (.tmp 25) (.seq r41_7 (.seq (.seq r41_8 (.block 2 (.loop l41_1))) (.seq r41_14 (.seq r41_15 .ret)))) .skip))) r41_5))
def k41 : Code := (.seq r41_0 (.seq (.seq r41_1 (.cond (.tmp 8) (.seq r41_2 .ret) .skip)) (.seq (.seq r41_3 (.block 0 (.loop l41_0))) (.seq r41_16 .ret))))
theorem body41 : Tryz.f41.body = some k41 := by kernel_rfl
theorem call41 (x0 : AV) (h : Heap) : call cfg 41 [x0] h = (exec cfg 41 k41 [(0, x0)] h).bind (callEnd cfg 41 h [.tmp 2]) := call_at2 (fnat Tryz.func41 body41 (by rw [← ok41]; kernel_rfl)) rfl rfl

theorem head_drop {cs : List AV} {k : Nat} {x : AV} (h : cs[k]? = some x) : (cs.drop k).head? = some x := by rw [List.head?_drop, h]

theorem compact_inner (xs : List (List UInt8)) (hn : xs.length < 100000000) (o g : Nat) (cap c4 : Option Nat) (k0 : Nat) : ∀ (d j k k2 : Nat), j + 1 + d = xs.length → j = k0 + k2 - 1 → 1 ≤ k2 → 1 ≤ k → k ≤ j → k0 ≤ j → chg xs = (k - 1) + chg (xs.drop j) → ∀ (H : Heap) cs, H.obj o g = some cs → cs.length = xs.length → cs.drop j = (strL xs).drop j → ∀ a t13 t25 t32 t44 t8,
    Got (exec cfg 41 (.loop l41_1) [(0, .msl o 0 xs.length 1 g cap), (2, a), (3, .int .i64 k), (4, .msl o k0 (xs.length - k0) 1 g c4), (5, .int .i64 k2), (8, t8), (13, t13), (25, t25), (32, t32), (44, t44)] H)
      (fun q => q.1 = .exit 2 ∧ ∃ k' cs', 1 ≤ k' ∧ k' < xs.length ∧ cl xs = k' ∧ q.2.1.get 3 = .int .i64 k' ∧ q.2.1.get 0 = .msl o 0 xs.length 1 g cap ∧ q.2.2 = H.set o (.cells cs' g) ∧ cs'.length = xs.length) := by
  intro d
  induction d with
  | zero =>
    intro j k k2 hj hk2 h1 hk hkj hk0 hchg H cs hob hcl hdr a t13 t25 t32 t44 t8
    have hlive := live_of hob
    have hlt : (k2 < xs.length - k0) = False := by simp; omega
    obtain ⟨w, hw⟩ := drop_one (l := xs) (j := j) (by omega)
    rw [got_loop]
    simp only [l41_1, k41, Tryz.f41, regEnd_nrm (lv41 _), pu41, x41_0, a41_0, x41_1, a41_1, x41_2, a41_2, x41_3, a41_3, x41_4, a41_4, x41_6, a41_6, x41_7, a41_7, x41_8, a41_8, x41_9, a41_9, x41_11, a41_11, x41_12, a41_12, x41_13, a41_13, x41_10, a41_10, x41_14, a41_14, x41_15, a41_15, x41_5, a41_5, x41_16, a41_16, sxAll, arithA, Nat.reduceEqDiff, Env.keep, qt_eq, isAlloc, resultsA, packA, storeA, indexAddrA, fieldA, indexA, unA, fieldAddrA, loadA, Rv.part, cellsAt, TD.isAgg, convH, convA, buildA, fillA, setCells, copies, lenA, optA, boundA, mapO, ↓Option.bind_some, ↓Option.bind_none, Nat.reduceBEq, Nat.reduceAdd, Nat.reduceMul, Nat.reduceLeDiff, Nat.reduceSub, Nat.reduceLT, Nat.reduceGT, Int.reduceBEq, Int.reduceLT, Int.reduceLE, bne, ↓reduceIte, ty23, hlive, hlt]
    refine ⟨trivial, k, cs, hk, by omega, ?_, by first | rfl | trivial, by first | rfl | trivial, ?_, hcl⟩
    · rw [hw] at hchg
      have hne : xs ≠ [] := by intro hc; rw [hc] at hj; simp at hj
      simp only [cl, hne, if_false, hchg, chg]
      omega
    · have ho := obj_some hob
      apply List.ext_getElem?
      intro i
      by_cases hi : o = i
      · subst hi
        rw [List.getElem?_set_self ho]
        unfold Heap.obj at hob
        split at hob
        · rename_i cs0 g0 hx
          split at hob
          · rename_i hg
            simp only [beq_iff_eq] at hg
            simp only [Option.some.injEq] at hob
            rw [hx, hob, hg]
          · cases hob
        · cases hob
      · rw [List.getElem?_set_ne hi]
  | succ d ih =>
    intro j k k2 hj hk2 h1 hk hkj hk0 hchg H cs hob hcl hdr a t13 t25 t32 t44 t8
    have hlive := live_of hob
    have ho := obj_some hob
    have hlt : (k2 < xs.length - k0) = True := by simp; omega
    obtain ⟨x, y, r, hd2, hd1, gx, gy⟩ := drop_two (l := xs) (j := j) (by omega)
    have cx : cs[j]? = some (.str x) := by
      have := congrArg (·[0]?) hdr
      simp only [List.getElem?_drop, Nat.add_zero] at this
      rw [this]; exact strL_get gx
    have cy : cs[j + 1]? = some (.str y) := by
      have := congrArg (·[1]?) hdr
      simp only [List.getElem?_drop] at this
      rw [this]; exact strL_get gy
    have e1 : k0 + k2 = j + 1 := by omega
    have e2 : k0 + (k2 - 1) = j := by omega
    have hw1 : IntKind.i64.wrap ((k2 : Int) - 1) = ((k2 - 1 : Nat) : Int) := by rw [wrap_id (by omega) (by omega)]; omega
    have hlt1 : (k2 - 1 < xs.length - k0) = True := by simp; omega
    have hw2 := wrap_succ (i := k2) (by omega)
    have hw3 := wrap_succ (i := k) (by omega)
    have hkn : (k < xs.length) = True := by simp; omega
    have hkc : (k + 1 ≤ cs.length) = True := by simp; omega
    rw [got_loop]
    by_cases he : y = x
    · have hb : (y == x) = true := by simp [he]
      have := ih (j + 1) k (k2 + 1) (by omega) (by omega) (by omega) hk (by omega) (by omega) (by rw [hd1]; rw [hd2] at hchg; simp only [chg, he, if_true] at hchg ⊢; omega) H cs hob hcl (by rw [← List.drop_drop, ← List.drop_drop, hdr])
      simp only [l41_1] at this ⊢
      simp only [k41, Tryz.f41, regEnd_nrm (lv41 _), pu41, x41_0, a41_0, x41_1, a41_1, x41_2, a41_2, x41_3, a41_3, x41_4, a41_4, x41_6, a41_6, x41_7, a41_7, x41_8, a41_8, x41_9, a41_9, x41_11, a41_11, x41_12, a41_12, x41_13, a41_13, x41_10, a41_10, x41_14, a41_14, x41_15, a41_15, x41_5, a41_5, x41_16, a41_16, sxAll, arithA, Nat.reduceEqDiff, Env.keep, qt_eq, isAlloc, resultsA, packA, storeA, indexAddrA, fieldA, indexA, unA, fieldAddrA, loadA, Rv.part, cellsAt, TD.isAgg, convH, convA, buildA, fillA, setCells, copies, lenA, optA, boundA, mapO, ↓Option.bind_some, ↓Option.bind_none, Nat.reduceBEq, Nat.reduceAdd, Nat.reduceMul, Nat.reduceLeDiff, Nat.reduceSub, Nat.reduceLT, Nat.reduceGT, Int.reduceBEq, Int.reduceLT, Int.reduceLE, bne, ↓reduceIte, ty23, ty9, hlive, hlt, hlt1, hw1, hw2, Nat.mul_one, e1, e2, hob, head_drop cx, head_drop cy, binA_str_neq, hb] at this ⊢
      exact this _ _ _ _ _ _
    · have hb : (y == x) = false := by simp [he]
      have hob' : Heap.obj (H.set o (.cells (cs.set k (.str y)) g)) o g = some (cs.set k (.str y)) := by simp [Heap.obj, List.getElem?_set_self ho]
      have hchg' : chg xs = (k + 1 - 1) + chg (xs.drop (j + 1)) := by
        rw [hd1]; rw [hd2] at hchg
        simp only [chg, if_neg (show ¬ x = y from fun h => he h.symm)] at hchg ⊢
        omega
      have hdr' : (cs.set k (.str y)).drop (j + 1) = (strL xs).drop (j + 1) := by
        rw [List.drop_set_of_lt (by omega), ← List.drop_drop, hdr, List.drop_drop]
      have := ih (j + 1) (k + 1) (k2 + 1) (by omega) (by omega) (by omega) (by omega) (by omega) (by omega) hchg' (H.set o (.cells (cs.set k (.str y)) g)) _ hob' (by simpa using hcl) hdr'
      simp only [l41_1] at this ⊢
      simp only [k41, Tryz.f41, regEnd_nrm (lv41 _), pu41, x41_0, a41_0, x41_1, a41_1, x41_2, a41_2, x41_3, a41_3, x41_4, a41_4, x41_6, a41_6, x41_7, a41_7, x41_8, a41_8, x41_9, a41_9, x41_11, a41_11, x41_12, a41_12, x41_13, a41_13, x41_10, a41_10, x41_14, a41_14, x41_15, a41_15, x41_5, a41_5, x41_16, a41_16, sxAll, arithA, Nat.reduceEqDiff, Env.keep, qt_eq, isAlloc, resultsA, packA, storeA, indexAddrA, fieldA, indexA, unA, fieldAddrA, loadA, Rv.part, cellsAt, TD.isAgg, convH, convA, buildA, fillA, setCells, copies, lenA, optA, boundA, mapO, ↓Option.bind_some, ↓Option.bind_none, Nat.reduceBEq, Nat.reduceAdd, Nat.reduceMul, Nat.reduceLeDiff, Nat.reduceSub, Nat.reduceLT, Nat.reduceGT, Int.reduceBEq, Int.reduceLT, Int.reduceLE, bne, ↓reduceIte, ty23, ty9, hlive, hlt, hlt1, hw1, hw2, hw3, Nat.mul_one, Nat.zero_add, e1, e2, hob, head_drop cx, head_drop cy, binA_str_neq, hb, hkn, hkc, List.set_set] at this ⊢
      exact this _ _ _ _ _ _

theorem clear_fact (H : Heap) (o g k n : Nat) (cap : Option Nat) (cs : List AV) (hob : H.obj o g = some cs) (hcl : cs.length = n) (hk : k < n) :
    ∃ cs', moreA cfg H .clear [23] [.msl o k (n - k) 1 g cap] = some (.tup [], H.set o (.cells cs' g)) ∧ cs'.length = n := by
  refine ⟨setCells cs k (copies (n - k) [.str []]), ?_, by rw [setCells_length]; exact hcl⟩
  have h0 : (n - k == 0) = false := by simp; omega
  have hle : k + (n - k) * 1 ≤ cs.length := by omega
  simp [moreA, ty23, ty9, hob, h0, hle, AV.leaf]
  rw [if_neg (by omega), if_pos (by omega)]
theorem slice_fact (H : Heap) (o g k n : Nat) (cap : Option Nat) (cs : List AV) (hob : H.obj o g = some cs) (hcl : cs.length = n) (hcap : cap = none ∨ cap = some n) (hk : k ≤ n) :
    sliceA cfg H 23 (.msl o 0 n 1 g cap) none (some (.int .i64 k)) none = some (.msl o 0 k 1 g (cap.map (· - 0))) ∧ sliceA cfg H 23 (.msl o 0 n 1 g cap) (some (.int .i64 k)) none none = some (.msl o k (n - k) 1 g (cap.map (· - k))) := by
  constructor
  · rcases hcap with rfl | rfl <;> simp [sliceA, ty23, ty9, hob, boundA, hcl, hk]
  · rcases hcap with rfl | rfl <;> simp [sliceA, ty23, ty9, hob, boundA, hcl, hk]

theorem compact_outer (xs : List (List UInt8)) (hn : xs.length < 100000000) (o g : Nat) (cap : Option Nat) (hcap : cap = none ∨ cap = some xs.length) (H : Heap) (hob : H.obj o g = some (strL xs)) : ∀ (d k : Nat), k + d = xs.length → 1 ≤ k → chg xs = (k - 1) + chg (xs.drop (k - 1)) → ∀ a c4 c5 t8 t13 t25 t32 t44,
    Got (exec cfg 41 (.loop l41_0) [(0, .msl o 0 xs.length 1 g cap), (2, a), (3, .int .i64 k), (4, c4), (5, c5), (8, t8), (13, t13), (25, t25), (32, t32), (44, t44)] H)
      (fun q => (q.1 = .exit 0 ∧ q.2.2 = H ∧ q.2.1.get 0 = .msl o 0 xs.length 1 g cap ∧ cl xs = xs.length) ∨
        (q.1 = .ret ∧ ∃ k' cs', k' ≤ xs.length ∧ cl xs = k' ∧ q.2.1.get 2 = .msl o 0 k' 1 g (cap.map (· - 0)) ∧ q.2.2 = H.set o (.cells cs' g))) := by
  have hlive := live_of hob
  have ho := obj_some hob
  intro d
  induction d with
  | zero =>
    intro k hk h1 hchg a c4 c5 t8 t13 t25 t32 t44
    have hlt : (k < xs.length) = False := by simp; omega
    obtain ⟨w, hw⟩ := drop_one (l := xs) (j := k - 1) (by omega)
    rw [got_loop]
    simp only [l41_0, k41, Tryz.f41, regEnd_nrm (lv41 _), pu41, x41_0, a41_0, x41_1, a41_1, x41_2, a41_2, x41_3, a41_3, x41_4, a41_4, x41_6, a41_6, x41_7, a41_7, x41_8, a41_8, x41_9, a41_9, x41_11, a41_11, x41_12, a41_12, x41_13, a41_13, x41_10, a41_10, x41_14, a41_14, x41_15, a41_15, x41_5, a41_5, x41_16, a41_16, sxAll, arithA, Nat.reduceEqDiff, Env.keep, qt_eq, isAlloc, resultsA, packA, storeA, indexAddrA, fieldA, indexA, unA, fieldAddrA, loadA, Rv.part, cellsAt, TD.isAgg, convH, convA, buildA, fillA, setCells, copies, lenA, optA, boundA, mapO, ↓Option.bind_some, ↓Option.bind_none, Nat.reduceBEq, Nat.reduceAdd, Nat.reduceMul, Nat.reduceLeDiff, Nat.reduceSub, Nat.reduceLT, Nat.reduceGT, Int.reduceBEq, Int.reduceLT, Int.reduceLE, bne, ↓reduceIte, ty23, hlive, hlt]
    refine .inl ⟨trivial, trivial, trivial, ?_⟩
    rw [hw] at hchg
    have hne : xs ≠ [] := by intro hc; rw [hc] at hk; simp at hk; omega
    simp only [cl, hne, if_false, hchg, chg]
    omega
  | succ d ih =>
    intro k hk h1 hchg a c4 c5 t8 t13 t25 t32 t44
    have hlt : (k < xs.length) = True := by simp; omega
    obtain ⟨x, y, r, hd2, hd1, gx, gy⟩ := drop_two (l := xs) (j := k - 1) (by omega)
    rw [show k - 1 + 1 = k from by omega] at hd1 gy
    have cx := head_drop (strL_get gx)
    have cy := head_drop (strL_get gy)
    have hw1 : IntKind.i64.wrap ((k : Int) - 1) = ((k - 1 : Nat) : Int) := by rw [wrap_id (by omega) (by omega)]; omega
    have hlt1 : (k - 1 < xs.length) = True := by simp; omega
    have hw2 := wrap_succ (i := k) (by omega)
    rw [got_loop]
    by_cases he : y = x
    · have hb : (y == x) = true := by simp [he]
      have hs1 := (slice_fact H o g k xs.length cap _ hob (strL_len xs) hcap (by omega)).2
      have hin := compact_inner xs hn o g cap (cap.map (· - k)) k (xs.length - k - 1) k k 1 (by omega) (by omega) (by omega) h1 (by omega) (by omega) (by rw [hd1]; rw [hd2] at hchg; simp only [chg, he, if_true] at hchg ⊢; omega) H _ hob (strL_len xs) rfl
      obtain ⟨⟨out, e', H'⟩, hx, ho', k', cs', p1, p2, p3, p4, p5, p6, p7⟩ := hin a (.bool true) (.bool true) t32 t44 t8
      simp only [Int.natCast_one] at hx ho' p3 p4 p5 p6
      subst ho'
      subst p6
      have hob' : Heap.obj (H.set o (.cells cs' g)) o g = some cs' := by simp [Heap.obj, List.getElem?_set_self ho]
      obtain ⟨cs2, hcl2, hl2⟩ := clear_fact (H.set o (.cells cs' g)) o g k' xs.length (cap.map (· - k')) cs' hob' p7 p2
      have hob2 : Heap.obj (H.set o (.cells cs2 g)) o g = some cs2 := by simp [Heap.obj, List.getElem?_set_self ho]
      rw [List.set_set] at hcl2
      have hs2 := (slice_fact (H.set o (.cells cs' g)) o g k' xs.length cap cs' hob' p7 hcap (by omega)).2
      have hs3 := (slice_fact (H.set o (.cells cs2 g)) o g k' xs.length cap cs2 hob2 hl2 hcap (by omega)).1
      simp only [l41_0, k41, Tryz.f41, regEnd_nrm (lv41 _), pu41, x41_0, a41_0, x41_1, a41_1, x41_2, a41_2, x41_3, a41_3, x41_4, a41_4, x41_6, a41_6, x41_7, a41_7, x41_8, a41_8, x41_9, a41_9, x41_11, a41_11, x41_12, a41_12, x41_13, a41_13, x41_10, a41_10, x41_14, a41_14, x41_15, a41_15, x41_5, a41_5, x41_16, a41_16, sxAll, arithA, Nat.reduceEqDiff, Env.keep, qt_eq, isAlloc, resultsA, packA, storeA, indexAddrA, fieldA, indexA, unA, fieldAddrA, loadA, Rv.part, cellsAt, TD.isAgg, convH, convA, buildA, fillA, setCells, copies, lenA, optA, boundA, mapO, ↓Option.bind_some, ↓Option.bind_none, Nat.reduceBEq, Nat.reduceAdd, Nat.reduceMul, Nat.reduceLeDiff, Nat.reduceSub, Nat.reduceLT, Nat.reduceGT, Int.reduceBEq, Int.reduceLT, Int.reduceLE, bne, ↓reduceIte, ty23, ty9, hlive, hlt, hlt1, hw1, hob, cx, cy, Nat.mul_one, Nat.zero_add, binA_str_eql, hb, hs1, hx, p4, p5, hs2, hcl2, hs3]
      exact .inr ⟨trivial, k', cs2, by omega, p3, rfl, rfl⟩
    · have hb : (y == x) = false := by simp [he]
      have := ih (k + 1) (by omega) (by omega) (by
        rw [show k + 1 - 1 = k from rfl, hd1]; rw [hd2] at hchg
        simp only [chg, if_neg (show ¬ x = y from fun h => he h.symm)] at hchg ⊢
        omega)
      simp only [l41_0] at this ⊢
      simp only [k41, Tryz.f41, regEnd_nrm (lv41 _), pu41, x41_0, a41_0, x41_1, a41_1, x41_2, a41_2, x41_3, a41_3, x41_4, a41_4, x41_6, a41_6, x41_7, a41_7, x41_8, a41_8, x41_9, a41_9, x41_11, a41_11, x41_12, a41_12, x41_13, a41_13, x41_10, a41_10, x41_14, a41_14, x41_15, a41_15, x41_5, a41_5, x41_16, a41_16, sxAll, arithA, Nat.reduceEqDiff, Env.keep, qt_eq, isAlloc, resultsA, packA, storeA, indexAddrA, fieldA, indexA, unA, fieldAddrA, loadA, Rv.part, cellsAt, TD.isAgg, convH, convA, buildA, fillA, setCells, copies, lenA, optA, boundA, mapO, ↓Option.bind_some, ↓Option.bind_none, Nat.reduceBEq, Nat.reduceAdd, Nat.reduceMul, Nat.reduceLeDiff, Nat.reduceSub, Nat.reduceLT, Nat.reduceGT, Int.reduceBEq, Int.reduceLT, Int.reduceLE, bne, ↓reduceIte, ty23, ty9, hlive, hlt, hlt1, hw1, hw2, hob, cx, cy, Nat.mul_one, Nat.zero_add, binA_str_eql, hb] at this ⊢
      exact this _ _ _ _ _ _ _ _
end
end Go.Proofs.Sx

/-
  package code: 'named'.
-/
set_option linter.unusedSimpArgs false
set_option linter.unusedVariables false
set_option maxRecDepth 100000
set_option maxHeartbeats 4000000
namespace Go.Proofs.Sx
open Go.Rv Go.Proofs
attribute [local congr] bind_left got_left
noncomputable section

theorem compactS_eq (m : Nat) (h0 H : Heap) (v : AV) (xs : List (List UInt8)) (O : Own m h0 H v (strL xs)) (hn : xs.length < 100000000) :
    ∃ u H', call cfg 41 [v] H = some (.ret u, H') ∧ known u = some u ∧ lenA H' (.slice 9) u = some (cl xs) ∧ m ≤ H'.length ∧ H'.take m = h0.take m := by
  have hk := O.kn
  have hlen := len_built (e := 9) O.b
  rw [strL_len] at hlen
  by_cases h2 : xs.length < 2
  · refine ⟨v, H, ?_, hk, ?_, O.le, O.old⟩
    · have c1 : ((xs.length : Int) < 2) = True := by simp; omega
      rw [call41]
      simp only [k41, Tryz.f41, regEnd_nrm (lv41 _), pu41, x41_0, a41_0, x41_1, a41_1, x41_2, a41_2, x41_3, a41_3, x41_4, a41_4, x41_6, a41_6, x41_7, a41_7, x41_8, a41_8, x41_9, a41_9, x41_11, a41_11, x41_12, a41_12, x41_13, a41_13, x41_10, a41_10, x41_14, a41_14, x41_15, a41_15, x41_5, a41_5, x41_16, a41_16, sxAll, arithA, Nat.reduceEqDiff, Env.keep, qt_eq, isAlloc, resultsA, packA, storeA, fieldA, indexA, unA, fieldAddrA, Rv.part, cellsAt, TD.isAgg, convH, convA, buildA, fillA, setCells, copies, optA, boundA, mapO, ↓Option.bind_some, ↓Option.bind_none, Nat.reduceBEq, Nat.reduceAdd, Nat.reduceMul, Nat.reduceLeDiff, Nat.reduceSub, Nat.reduceLT, Nat.reduceGT, Int.reduceBEq, Int.reduceLT, Int.reduceLE, bne, ↓reduceIte, ty23, hk, hlen, c1]
      exact leave_impure rfl
    · rw [hlen]
      match xs, h2 with
      | [], _ => rfl
      | [a], _ => rfl
  · rcases O.b with ⟨_, hnil⟩ | ⟨o, g, cap, rfl, hob, hcap⟩
    · exfalso
      have : xs.length = 0 := by rw [← strL_len, hnil]; rfl
      omega
    · rw [show flatC (strL xs) = strL xs from flatC_plain (plain_strs xs)] at hob
      rw [strL_len] at hcap
      have hmo : m ≤ o := O.own o rfl
      have ho := obj_some hob
      have c1 : ((xs.length : Int) < 2) = False := by simp; omega
      obtain ⟨⟨out, e', H'⟩, hx, hq⟩ := compact_outer xs hn o g cap hcap H hob (xs.length - 1) 1 (by omega) (by omega) (by simp) (.lst [] 0 .nil) .junk .junk (.bool false) .junk .junk .junk .junk
      simp only [Int.natCast_one] at hx
      have hlive := live_of hob
      rcases hq with ⟨p1, p2, p3, p4⟩ | ⟨p1, k', cs', p2, p3, p4, p5⟩
      · simp only at p1 p2 p3
        subst p1 p2
        refine ⟨.msl o 0 xs.length 1 g cap, H', ?_, rfl, by simp [lenA, hlive, p4], O.le, O.old⟩
        rw [strL_len, call41]
        simp only [k41, Tryz.f41, regEnd_nrm (lv41 _), pu41, x41_0, a41_0, x41_1, a41_1, x41_2, a41_2, x41_3, a41_3, x41_4, a41_4, x41_6, a41_6, x41_7, a41_7, x41_8, a41_8, x41_9, a41_9, x41_11, a41_11, x41_12, a41_12, x41_13, a41_13, x41_10, a41_10, x41_14, a41_14, x41_15, a41_15, x41_5, a41_5, x41_16, a41_16, sxAll, arithA, Nat.reduceEqDiff, Env.keep, qt_eq, isAlloc, resultsA, packA, storeA, indexAddrA, fieldA, indexA, unA, fieldAddrA, loadA, Rv.part, cellsAt, TD.isAgg, convH, convA, buildA, fillA, setCells, copies, lenA, optA, boundA, mapO, ↓Option.bind_some, ↓Option.bind_none, Nat.reduceBEq, Nat.reduceAdd, Nat.reduceMul, Nat.reduceLeDiff, Nat.reduceSub, Nat.reduceLT, Nat.reduceGT, Int.reduceBEq, Int.reduceLT, Int.reduceLE, bne, ↓reduceIte, ty23, hlive, c1, hx, p3]
        exact leave_impure rfl
      · simp only at p1 p4 p5
        subst p1 p5
        have hob' : Heap.obj (H.set o (.cells cs' g)) o g = some cs' := by simp [Heap.obj, List.getElem?_set_self ho]
        refine ⟨.msl o 0 k' 1 g (cap.map (· - 0)), H.set o (.cells cs' g), ?_, rfl, by simp [lenA, live_of hob', p3], by simpa using O.le, ?_⟩
        · rw [strL_len, call41]
          simp only [k41, Tryz.f41, regEnd_nrm (lv41 _), pu41, x41_0, a41_0, x41_1, a41_1, x41_2, a41_2, x41_3, a41_3, x41_4, a41_4, x41_6, a41_6, x41_7, a41_7, x41_8, a41_8, x41_9, a41_9, x41_11, a41_11, x41_12, a41_12, x41_13, a41_13, x41_10, a41_10, x41_14, a41_14, x41_15, a41_15, x41_5, a41_5, x41_16, a41_16, sxAll, arithA, Nat.reduceEqDiff, Env.keep, qt_eq, isAlloc, resultsA, packA, storeA, indexAddrA, fieldA, indexA, unA, fieldAddrA, loadA, Rv.part, cellsAt, TD.isAgg, convH, convA, buildA, fillA, setCells, copies, lenA, optA, boundA, mapO, ↓Option.bind_some, ↓Option.bind_none, Nat.reduceBEq, Nat.reduceAdd, Nat.reduceMul, Nat.reduceLeDiff, Nat.reduceSub, Nat.reduceLT, Nat.reduceGT, Int.reduceBEq, Int.reduceLT, Int.reduceLE, bne, ↓reduceIte, ty23, hlive, c1, hx, p4]
          exact leave_impure rfl
        · rw [List.take_set_of_le hmo]; exact O.old

theorem lenA_lst (h : Heap) (e : Nat) (xs : List AV) (z : Nat) (r : Room) : lenA h (.slice e) (.lst xs z r) = some xs.length := rfl
theorem load_ref {C : Cfg} (h : Heap) (t : Nat) (cs : List AV) : loadA C h t (.ref cs) = (C.ty t).bind fun ti => Rv.part ti cs := rfl
theorem load_ptr {C : Cfg} (h : Heap) (t o off g : Nat) : loadA C h t (.ptr o off g) = (C.ty t).bind fun ti => (h.obj o g).bind fun cs => Rv.part ti (cs.drop off) := by
  simp only [loadA, cellsAt, Option.bind_eq_bind, Option.bind_map]
  rfl
theorem call_sortS (args : List AV) (h : Heap) : call cfg 40 args h = sortStr args h := call_prim _ _ args _ rfl
theorem sortS_own {n : Nat} {h0 H : Heap} {v : AV} {xs : List (List UInt8)} (O : Own n h0 H v (strL xs)) (hmax : xs.length ≤ 1000000000) : ∃ H', call cfg 40 [v] H = some (.ret (.tup []), H') ∧ Own n h0 H' v (strL (sortedS xs)) := by
  have hl : (sortedS xs).length = xs.length := (sortedS_perm xs).length_eq
  rcases O.b with ⟨rfl, hnil⟩ | ⟨o, g, cap, rfl, hob, hcap⟩
  · have : xs = [] := by simpa [strL] using hnil
    subst this
    exact ⟨H, by rw [call_sortS]; rfl, by simpa [sortedS] using O⟩
  · have ho := obj_some hob
    rw [show flatC (strL xs) = strL xs from flatC_plain (plain_strs xs)] at hob
    refine ⟨H.set o (.cells (strL (sortedS xs)) g), ?_, ⟨.inr ⟨o, g, cap, by simp [strL, hl], ?_, by simpa [strL, hl] using hcap⟩, O.own, by simpa using O.le, ?_⟩⟩
    · rw [call_sortS]
      unfold sortStr
      simp only [hob, Option.bind_some, strL_len, hmax, and_self, if_true]
      rw [show strsOf (strL xs) = some xs from strsOf_map xs]
      rfl
    · rw [show flatC (strL (sortedS xs)) = strL (sortedS xs) from flatC_plain (plain_strs _)]
      simp [Heap.obj, List.getElem?_set_self ho, strL]
    · rw [List.take_set_of_le (O.own o rfl)]; exact O.old

theorem memsL_drop {xs ys : List SMem} {i : Nat} (h : xs.drop i = ys) : (memsL xs).drop i = memsL ys := by rw [memsL, ← List.map_drop, h]; rfl
theorem lv24 (r : Nat) : cfg.live 24 r = some [0, 1, 2, 3, 5, 7, 9, 10, 11, 12, 26, 27, 28, 29] := rfl
theorem ok24 : okB cfg0 24 Tryz.f24 (Tryz.f24.body.getD .skip) = true := by kernel_rfl
theorem pu24 : cfg.pure 24 = true := rfl
instance tight24 {d : Option Nat} : TightD cfg 24 d := ⟨fun _ _ => rfl⟩
def a24_0 : Array Oper := codeOps (codeAt [false] (Tryz.f24.body.getD .skip))
def b24_0 : Array Oper := a24_0
def r24_0 : Code := .region 0 a24_0 false
theorem im24_1 : cfg.imm 24 1 = true := by kernel_rfl
theorem x24_0 (e : Env) (h : Heap) : exec cfg 24 r24_0 e h = (ops cfg 24 b24_0 (a24_0.toList) e h).bind (regEnd cfg 24 0 false) := region_at _ _ _ _ _ _ _
def a24_1 : Array Oper := codeOps (codeAt [true, false] (Tryz.f24.body.getD .skip))
def b24_1 : Array Oper := a24_1
def r24_1 : Code := .region 1 a24_1 false
theorem x24_1 (e : Env) (h : Heap) : exec cfg 24 r24_1 e h = (ops cfg 24 b24_1 (a24_1.toList) e h).bind (regEnd cfg 24 1 false) := region_at _ _ _ _ _ _ _
def a24_2 : Array Oper := codeOps (codeAt [true, true, false, false] (Tryz.f24.body.getD .skip))
def b24_2 : Array Oper := a24_2
def r24_2 : Code := .region 2 a24_2 false
theorem x24_2 (e : Env) (h : Heap) : exec cfg 24 r24_2 e h = (ops cfg 24 b24_2 (a24_2.toList) e h).bind (regEnd cfg 24 2 false) := region_at _ _ _ _ _ _ _
def a24_3 : Array Oper := codeOps (codeAt [true, true, false, true, false, false, false] (Tryz.f24.body.getD .skip))
def b24_3 : Array Oper := a24_3
def r24_3 : Code := .region 3 a24_3 false
theorem x24_3 (e : Env) (h : Heap) : exec cfg 24 r24_3 e h = (ops cfg 24 b24_3 (a24_3.toList) e h).bind (regEnd cfg 24 3 false) := region_at _ _ _ _ _ _ _
def a24_4 : Array Oper := codeOps (codeAt [true, true, false, true, false, false, true, true, false, false, false] (Tryz.f24.body.getD .skip))
def b24_4 : Array Oper := a24_4
def r24_4 : Code := .region 4 a24_4 false
theorem x24_4 (e : Env) (h : Heap) : exec cfg 24 r24_4 e h = (ops cfg 24 b24_4 (a24_4.toList) e h).bind (regEnd cfg 24 4 false) := region_at _ _ _ _ _ _ _
def a24_5 : Array Oper := codeOps (codeAt [true, true, false, true, false, false, true, true, false, false, true] (Tryz.f24.body.getD .skip))
def b24_5 : Array Oper := a24_5
def r24_5 : Code := .region 5 a24_5 false
theorem im24_18 : cfg.imm 24 18 = true := by kernel_rfl
theorem x24_5 (e : Env) (h : Heap) : exec cfg 24 r24_5 e h = (ops cfg 24 b24_5 (a24_5.toList) e h).bind (regEnd cfg 24 5 false) := region_at _ _ _ _ _ _ _
def a24_6 : Array Oper := codeOps (codeAt [true, true, false, true, false, false, true, true, true] (Tryz.f24.body.getD .skip))
def b24_6 : Array Oper := a24_6
def r24_6 : Code := .region 6 a24_6 false
theorem x24_6 (e : Env) (h : Heap) : exec cfg 24 r24_6 e h = (ops cfg 24 b24_6 (a24_6.toList) e h).bind (regEnd cfg 24 6 false) := region_at _ _ _ _ _ _ _
def a24_7 : Array Oper := codeOps (codeAt [true, true, true, false] (Tryz.f24.body.getD .skip))
def b24_7 : Array Oper := a24_7
def r24_7 : Code := .region 7 a24_7 false
theorem x24_7 (e : Env) (h : Heap) : exec cfg 24 r24_7 e h = (ops cfg 24 b24_7 (a24_7.toList) e h).bind (regEnd cfg 24 7 false) := region_at _ _ _ _ _ _ _
def a24_8 : Array Oper := codeOps (codeAt [true, true, true, true, false, false] (Tryz.f24.body.getD .skip))
def b24_8 : Array Oper := a24_8
def r24_8 : Code := .region 8 a24_8 false
theorem x24_8 (e : Env) (h : Heap) : exec cfg 24 r24_8 e h = (ops cfg 24 b24_8 (a24_8.toList) e h).bind (regEnd cfg 24 8 false) := region_at _ _ _ _ _ _ _
def a24_9 : Array Oper := codeOps (codeAt [true, true, true, true, false, true, false, false, false] (Tryz.f24.body.getD .skip))
def b24_9 : Array Oper := a24_9
def r24_9 : Code := .region 9 a24_9 false
theorem x24_9 (e : Env) (h : Heap) : exec cfg 24 r24_9 e h = (ops cfg 24 b24_9 (a24_9.toList) e h).bind (regEnd cfg 24 9 false) := region_at _ _ _ _ _ _ _
def a24_10 : Array Oper := codeOps (codeAt [true, true, true, true, false, true, false, false, true, true, false, false, false] (Tryz.f24.body.getD .skip))
def b24_10 : Array Oper := a24_10
def r24_10 : Code := .region 10 a24_10 false
theorem x24_10 (e : Env) (h : Heap) : exec cfg 24 r24_10 e h = (ops cfg 24 b24_10 (a24_10.toList) e h).bind (regEnd cfg 24 10 false) := region_at _ _ _ _ _ _ _
def a24_11 : Array Oper := codeOps (codeAt [true, true, true, true, false, true, false, false, true, true, false, false, true] (Tryz.f24.body.getD .skip))
def b24_11 : Array Oper := a24_11
def r24_11 : Code := .region 11 a24_11 false
theorem im24_35 : cfg.imm 24 35 = true := by kernel_rfl
theorem x24_11 (e : Env) (h : Heap) : exec cfg 24 r24_11 e h = (ops cfg 24 b24_11 (a24_11.toList) e h).bind (regEnd cfg 24 11 false) := region_at _ _ _ _ _ _ _
def a24_12 : Array Oper := codeOps (codeAt [true, true, true, true, false, true, false, false, true, true, true] (Tryz.f24.body.getD .skip))
def b24_12 : Array Oper := a24_12
def r24_12 : Code := .region 12 a24_12 false
theorem x24_12 (e : Env) (h : Heap) : exec cfg 24 r24_12 e h = (ops cfg 24 b24_12 (a24_12.toList) e h).bind (regEnd cfg 24 12 false) := region_at _ _ _ _ _ _ _
def a24_13 : Array Oper := codeOps (codeAt [true, true, true, true, true, false] (Tryz.f24.body.getD .skip))
def b24_13 : Array Oper := a24_13
def r24_13 : Code := .region 13 a24_13 false
theorem x24_13 (e : Env) (h : Heap) : exec cfg 24 r24_13 e h = (ops cfg 24 b24_13 (a24_13.toList) e h).bind (regEnd cfg 24 13 false) := region_at _ _ _ _ _ _ _
def a24_14 : Array Oper := codeOps (codeAt [true, true, true, true, true, true, false] (Tryz.f24.body.getD .skip))
def b24_14 : Array Oper := a24_14
def r24_14 : Code := .region 14 a24_14 false
theorem x24_14 (e : Env) (h : Heap) : exec cfg 24 r24_14 e h = (ops cfg 24 b24_14 (a24_14.toList) e h).bind (regEnd cfg 24 14 false) := region_at _ _ _ _ _ _ _
theorem g24_14_3 : (b24_14[3]?).bind (·.dst) = some 43 := by kernel_rfl
theorem g24_14_12 : (b24_14[12]?).bind (·.dst) = some 52 := by kernel_rfl
def l24_1 : Code := (.seq r24_9 (.seq (.cond (.tmp 29) .skip (.exit 2)) (.seq (.block 3 (.seq r24_10 r24_11)) r24_12)))
def l24_0 : Code := (.seq r24_3 (.seq (.cond (.tmp 12) .skip (.exit 0)) (.seq (.block 1 (.seq r24_4 r24_5)) r24_6)))
def k24 : Code := (.seq r24_0 (.seq r24_1 (.seq (.seq r24_2 (.block 0 (.loop l24_0))) (.seq r24_7 (.seq (.seq r24_8 (.block 2 (.loop l24_1))) (.seq r24_13 (.seq r24_14 .ret)))))))
theorem body24 : Tryz.f24.body = some k24 := by kernel_rfl
theorem call24 (x0 : AV) (h : Heap) : call cfg 24 [x0] h = (exec cfg 24 k24 [(0, x0)] h).bind (callEnd cfg 24 h [.tmp 2]) := call_at2 (fnat Tryz.func24 body24 (by rw [← ok24]; kernel_rfl)) rfl rfl

theorem named_mems (l : List SMem) (hn : l.length < 100000000) (n : Nat) (h0 : Heap) (z : Nat) (r : Room) : ∀ (ys : List SMem) (i : Nat), l.drop i = ys → i ≤ l.length → ∀ (acc : List (List UInt8)) v H, Own n h0 H v (strL acc) → acc.length + ys.length ≤ 900000000 → ∀ t0 t1 t2 t5 t7 t12 t26 t27 t28 t29,
    Got (exec cfg 24 (.loop l24_0) [(0, t0), (1, t1), (2, t2), (3, v), (5, t5), (7, t7), (9, .lst (memsL l) z r), (10, .int .i64 l.length), (11, .int .i64 i), (12, t12), (26, t26), (27, t27), (28, t28), (29, t29)] H)
      (fun q => q.1 = .exit 0 ∧ Own n h0 q.2.2 (q.2.1.get 3) (strL (acc ++ ys.map SMem.name)) ∧ q.2.1.get 0 = t0 ∧ q.2.1.get 1 = t1 ∧ q.2.1.get 2 = t2) := by
  intro ys
  induction ys with
  | nil =>
    intro i hd hi acc v H O hacc t0 t1 t2 t5 t7 t12 t26 t27 t28 t29
    rw [got_loop]
    simp only [l24_0, k24, Tryz.f24, regEnd_nrm (lv24 _), pu24, x24_0, a24_0, im24_1, x24_1, a24_1, x24_2, a24_2, x24_3, a24_3, x24_4, a24_4, x24_5, a24_5, im24_18, x24_6, a24_6, x24_7, a24_7, x24_8, a24_8, x24_9, a24_9, x24_10, a24_10, x24_11, a24_11, im24_35, x24_12, a24_12, x24_13, a24_13, x24_14, a24_14, sx_guardO g24_14_3, sx_guardO g24_14_12, sxAll, arithA, Nat.reduceEqDiff, Env.keep, qt_eq, isAlloc, resultsA, packA, storeA, indexAddrA, fieldA, indexA, unA, fieldAddrA, loadA, Rv.part, cellsAt, TD.isAgg, convH, convA, buildA, fillA, setCells, copies, lenA, optA, boundA, mapO, ↓Option.bind_some, ↓Option.bind_none, Nat.reduceBEq, Nat.reduceAdd, Nat.reduceMul, Nat.reduceLeDiff, Nat.reduceSub, Nat.reduceLT, Nat.reduceGT, Int.reduceBEq, Int.reduceLT, Int.reduceLE, bne, ↓reduceIte, at_end hd]
    exact ⟨trivial, by simpa using O, trivial, trivial, trivial⟩
  | cons y s ih =>
    intro i hd hi acc v H O hacc t0 t1 t2 t5 t7 t12 t26 t27 t28 t29
    obtain ⟨hlt, hget, hd'⟩ := at_drop hd
    have hx := memsL_get hget
    have hlt' : i < l.length := by simpa using hlt
    have hw := wrap_succ (i := i) (by omega)
    have hk := O.kn
    simp only [List.length_cons] at hacc
    rw [got_loop]
    obtain ⟨v', H', ha, O'⟩ := (O.app [.cells y.cells 0]).push (plain_strs acc) (ys := [.str y.name]) (plain_strs [y.name]) (by simp [mostLen, strL]; omega)
    have := ih (i + 1) hd' (by omega) (acc ++ [y.name]) v' H' (by simpa [strL] using O') (by simp; omega)
    simp only [SMem.cells] at ha
    simp only [l24_0] at this ⊢
    simp only [List.map_cons, SMem.cells, k24, Tryz.f24, regEnd_nrm (lv24 _), pu24, x24_0, a24_0, im24_1, x24_1, a24_1, x24_2, a24_2, x24_3, a24_3, x24_4, a24_4, x24_5, a24_5, im24_18, x24_6, a24_6, x24_7, a24_7, x24_8, a24_8, x24_9, a24_9, x24_10, a24_10, x24_11, a24_11, im24_35, x24_12, a24_12, x24_13, a24_13, x24_14, a24_14, sx_guardO g24_14_3, sx_guardO g24_14_12, sxAll, arithA, Nat.reduceEqDiff, Env.keep, qt_eq, isAlloc, resultsA, packA, storeA, indexAddrA, fieldA, indexA, unA, fieldAddrA, loadA, Rv.part, cellsAt, TD.isAgg, convH, convA, buildA, fillA, setCells, copies, lenA, optA, boundA, mapO, ↓Option.bind_some, ↓Option.bind_none, Nat.reduceBEq, Nat.reduceAdd, Nat.reduceMul, Nat.reduceLeDiff, Nat.reduceSub, Nat.reduceLT, Nat.reduceGT, Int.reduceBEq, Int.reduceLT, Int.reduceLE, bne, ↓reduceIte, hlt, ty22, ty63, ty23, ty9, ty36, ty3, ty2, ty4, hx, hw, hk, O'.kn, ha, elems, group] at this ⊢
    exact this _ _ _ _ _ _ _ _ _ _

theorem named_funs (l : List SFun) (hn : l.length < 100000000) (n : Nat) (h0 : Heap) (z : Nat) (r : Room) : ∀ (ys : List SFun) (i : Nat), l.drop i = ys → i ≤ l.length → ∀ (acc : List (List UInt8)) v H, Own n h0 H v (strL acc) → acc.length + ys.length ≤ 900000000 → ∀ t0 t1 t2 t5 t7 t9 t10 t11 t12 t29,
    Got (exec cfg 24 (.loop l24_1) [(0, t0), (1, t1), (2, t2), (3, v), (5, t5), (7, t7), (9, t9), (10, t10), (11, t11), (12, t12), (26, .lst (funsL l) z r), (27, .int .i64 l.length), (28, .int .i64 i), (29, t29)] H)
      (fun q => q.1 = .exit 2 ∧ Own n h0 q.2.2 (q.2.1.get 3) (strL (acc ++ ys.map SFun.name)) ∧ q.2.1.get 0 = t0 ∧ q.2.1.get 1 = t1 ∧ q.2.1.get 2 = t2) := by
  intro ys
  induction ys with
  | nil =>
    intro i hd hi acc v H O hacc t0 t1 t2 t5 t7 t9 t10 t11 t12 t29
    rw [got_loop]
    simp only [l24_1, k24, Tryz.f24, regEnd_nrm (lv24 _), pu24, x24_0, a24_0, im24_1, x24_1, a24_1, x24_2, a24_2, x24_3, a24_3, x24_4, a24_4, x24_5, a24_5, im24_18, x24_6, a24_6, x24_7, a24_7, x24_8, a24_8, x24_9, a24_9, x24_10, a24_10, x24_11, a24_11, im24_35, x24_12, a24_12, x24_13, a24_13, x24_14, a24_14, sx_guardO g24_14_3, sx_guardO g24_14_12, sxAll, arithA, Nat.reduceEqDiff, Env.keep, qt_eq, isAlloc, resultsA, packA, storeA, indexAddrA, fieldA, indexA, unA, fieldAddrA, loadA, Rv.part, cellsAt, TD.isAgg, convH, convA, buildA, fillA, setCells, copies, lenA, optA, boundA, mapO, ↓Option.bind_some, ↓Option.bind_none, Nat.reduceBEq, Nat.reduceAdd, Nat.reduceMul, Nat.reduceLeDiff, Nat.reduceSub, Nat.reduceLT, Nat.reduceGT, Int.reduceBEq, Int.reduceLT, Int.reduceLE, bne, ↓reduceIte, at_end hd]
    exact ⟨trivial, by simpa using O, trivial, trivial, trivial⟩
  | cons y s ih =>
    intro i hd hi acc v H O hacc t0 t1 t2 t5 t7 t9 t10 t11 t12 t29
    obtain ⟨hlt, hget, hd'⟩ := at_drop hd
    have hx := funsL_get hget
    have hlt' : i < l.length := by simpa using hlt
    have hw := wrap_succ (i := i) (by omega)
    have hk := O.kn
    simp only [List.length_cons] at hacc
    rw [got_loop]
    obtain ⟨v', H', ha, O'⟩ := (O.app [.cells y.cells 0]).push (plain_strs acc) (ys := [.str y.name]) (plain_strs [y.name]) (by simp [mostLen, strL]; omega)
    have := ih (i + 1) hd' (by omega) (acc ++ [y.name]) v' H' (by simpa [strL] using O') (by simp; omega)
    simp only [SFun.cells] at ha
    simp only [l24_1] at this ⊢
    simp only [List.map_cons, SFun.cells, k24, Tryz.f24, regEnd_nrm (lv24 _), pu24, x24_0, a24_0, im24_1, x24_1, a24_1, x24_2, a24_2, x24_3, a24_3, x24_4, a24_4, x24_5, a24_5, im24_18, x24_6, a24_6, x24_7, a24_7, x24_8, a24_8, x24_9, a24_9, x24_10, a24_10, x24_11, a24_11, im24_35, x24_12, a24_12, x24_13, a24_13, x24_14, a24_14, sx_guardO g24_14_3, sx_guardO g24_14_12, sxAll, arithA, Nat.reduceEqDiff, Env.keep, qt_eq, isAlloc, resultsA, packA, storeA, indexAddrA, fieldA, indexA, unA, fieldAddrA, loadA, Rv.part, cellsAt, TD.isAgg, convH, convA, buildA, fillA, setCells, copies, lenA, optA, boundA, mapO, ↓Option.bind_some, ↓Option.bind_none, Nat.reduceBEq, Nat.reduceAdd, Nat.reduceMul, Nat.reduceLeDiff, Nat.reduceSub, Nat.reduceLT, Nat.reduceGT, Int.reduceBEq, Int.reduceLT, Int.reduceLE, bne, ↓reduceIte, hlt, ty24, ty38, ty23, ty9, ty36, ty3, ty2, ty4, hx, hw, hk, O'.kn, ha, elems, group] at this ⊢
    exact this _ _ _ _ _ _ _ _ _ _

def namesOf (p : SProg) : List (List UInt8) := p.mems.map SMem.name ++ (p.locks ++ p.funs.map SFun.name)
def namedB (p : SProg) : Bool := decide ((namesOf p).length ≤ 256) && (cl (sortedS (namesOf p)) == (namesOf p).length && !((sortedS (namesOf p)).any fun s => !isName s))

theorem named_eq (p : SProg) (h : Heap) (hp : p.wf) : call cfg 24 [.agg p.cells] h = some (.ret (.bool (namedB p)), h) := by
  obtain ⟨⟨o1, e1, H1⟩, hx1, ho1, O1, g10, g11, g12⟩ := named_mems p.mems hp.1 h.length h p.mz p.mroom p.mems 0 (by simp) (by omega) [] (.lst [] 0 .nil) h (Own.nil h) (by have := hp.1; simp; omega) (.agg p.cells) (.ref p.cells) (.bool false) .junk .junk .junk .junk .junk .junk .junk
  simp only [Int.natCast_zero, List.nil_append] at hx1 ho1 O1 g10 g11 g12
  subst ho1
  obtain ⟨v2, H2, ha2, O2⟩ := O1.push (plain_strs _) (ys := strL p.locks) (plain_strs _) (by have := hp.1; have := hp.2.1; simp [strL, mostLen]; omega)
  have O2' : Own h.length h H2 v2 (strL (p.mems.map SMem.name ++ p.locks)) := by simpa [strL] using O2
  obtain ⟨⟨o3, e3, H3⟩, hx3, ho3, O3, g30, g31, g32⟩ := named_funs p.funs hp.2.2.1 h.length h p.fz p.froom p.funs 0 (by simp) (by omega) (p.mems.map SMem.name ++ p.locks) v2 H2 O2' (by have := hp.1; have := hp.2.1; have := hp.2.2.1; simp; omega)
    (.agg p.cells) (.ref p.cells) (.bool false) (e1.get 5) (e1.get 7) (e1.get 9) (e1.get 10) (e1.get 11) (e1.get 12) (e1.get 29)
  simp only [Int.natCast_zero] at hx3 ho3 O3 g30 g31 g32
  subst ho3
  rw [show p.mems.map SMem.name ++ p.locks ++ p.funs.map SFun.name = namesOf p from by simp [namesOf]] at O3
  obtain ⟨H4, hs4, O4⟩ := sortS_own O3 (by have := hp.1; have := hp.2.1; have := hp.2.2.1; simp [namesOf]; omega)
  have hlen : (sortedS (namesOf p)).length = (namesOf p).length := (sortedS_perm _).length_eq
  have hl4 := len_built (e := 9) O4.b
  rw [strL_len, hlen] at hl4
  have hk3 := O4.kn
  have hn1 := hp.1
  have hn2 := hp.2.1
  have hn3 := hp.2.2.1
  have hnl : (namesOf p).length < 300000000 := by simp [namesOf]; omega
  generalize hv : e3.get 3 = v at *
  simp only [SProg.cells] at hx1 hx3 g10 g11 g30 g31
  rw [call24]
  by_cases hle : (namesOf p).length ≤ 256
  · obtain ⟨v5, H5, hc5, O5⟩ := cloneS_eq H4 v _ O4.b (by simp [mostLen, hlen]; omega)
    obtain ⟨u6, H6, hc6, hk6, hl6, hm6, ht6⟩ := compactS_eq _ _ _ _ _ O5 (by omega)
    have hkeep : ∀ o, objOf v = some o → H6[o]? = H4[o]? := fun o ho => by
      have hlt := built_lt O4.b ho
      have := congrArg (·[o]?) ht6
      simp only [List.getElem?_take_of_lt hlt] at this
      exact this
    have B6 := O4.b.other hkeep
    have hl6' := len_built (e := 9) B6
    rw [strL_len, hlen] at hl6'
    have hcf := containsFS_eqR (sortedS (namesOf p)) (fun s => !isName s) 44 [] v H6 (by omega) (rd_built ty23 rfl ty9 rfl rfl B6 (plain_strs _)) (fun a ha => namedx_eq a H6 (by
      have := (sortedS_perm (namesOf p)).mem_iff.1 ha
      simp only [namesOf, List.mem_append, List.mem_map] at this
      rcases this with ⟨m, hm, rfl⟩ | hl | ⟨f, hf, rfl⟩
      · have := hp.2.2.2.1 m hm; omega
      · have := hp.2.2.2.2.1 a hl; omega
      · have := (hp.2.2.2.2.2 f hf).2.1; omega))
    have hold : H6.take h.length = h := by
      have h1 : h.length ≤ H4.length := O4.le
      have : H6.take h.length = H4.take h.length := by
        have := congrArg (List.take h.length) ht6
        rwa [List.take_take, List.take_take, Nat.min_eq_left h1] at this
      rw [this, O4.old]; simp
    have hle' : (((namesOf p).length : Int) ≤ 256) = True := by simp; omega
    unfold namedB
    cases hcl : cl (sortedS (namesOf p)) == (namesOf p).length with
    | false =>
      have hcl' : ((cl (sortedS (namesOf p)) : Int) == ((namesOf p).length : Int)) = false := by simp at hcl ⊢; omega
      simp only [SProg.cells, k24, Tryz.f24, regEnd_nrm (lv24 _), pu24, x24_0, a24_0, im24_1, x24_1, a24_1, x24_2, a24_2, x24_3, a24_3, x24_4, a24_4, x24_5, a24_5, im24_18, x24_6, a24_6, x24_7, a24_7, x24_8, a24_8, x24_9, a24_9, x24_10, a24_10, x24_11, a24_11, im24_35, x24_12, a24_12, x24_13, a24_13, x24_14, a24_14, sx_guardO g24_14_3, sx_guardO g24_14_12, sxAll, arithA, Nat.reduceEqDiff, Env.keep, qt_eq, isAlloc, resultsA, packA, storeA, fieldA, indexA, unA, fieldAddrA, Rv.part, cellsAt, TD.isAgg, convH, convA, buildA, fillA, setCells, copies, optA, boundA, mapO, ↓Option.bind_some, ↓Option.bind_none, Nat.reduceBEq, Nat.reduceAdd, Nat.reduceMul, Nat.reduceLeDiff, Nat.reduceSub, Nat.reduceLT, Nat.reduceGT, Int.reduceBEq, Int.reduceLT, Int.reduceLE, bne, ↓reduceIte, lenA_lst, load_ref, elems, ty26, ty22, ty23, ty9, ty24, memsL_len, funsL_len, strL_len, hx1, g10, g11, g12, O1.kn, O2.kn, ha2, hx3, g30, g31, g32, hv, hk3, hs4, hl4, hle', hle, hc5, O5.kn, hc6, hk6, hl6, hl6', hcl']
      exact leave_pure rfl hold rfl
    | true =>
      have hcl' : ((cl (sortedS (namesOf p)) : Int) == ((namesOf p).length : Int)) = true := by simp at hcl ⊢; omega
      simp only [SProg.cells, k24, Tryz.f24, regEnd_nrm (lv24 _), pu24, x24_0, a24_0, im24_1, x24_1, a24_1, x24_2, a24_2, x24_3, a24_3, x24_4, a24_4, x24_5, a24_5, im24_18, x24_6, a24_6, x24_7, a24_7, x24_8, a24_8, x24_9, a24_9, x24_10, a24_10, x24_11, a24_11, im24_35, x24_12, a24_12, x24_13, a24_13, x24_14, a24_14, sx_guardO g24_14_3, sx_guardO g24_14_12, sxAll, arithA, Nat.reduceEqDiff, Env.keep, qt_eq, isAlloc, resultsA, packA, storeA, fieldA, indexA, unA, fieldAddrA, Rv.part, cellsAt, TD.isAgg, convH, convA, buildA, fillA, setCells, copies, optA, boundA, mapO, ↓Option.bind_some, ↓Option.bind_none, Nat.reduceBEq, Nat.reduceAdd, Nat.reduceMul, Nat.reduceLeDiff, Nat.reduceSub, Nat.reduceLT, Nat.reduceGT, Int.reduceBEq, Int.reduceLT, Int.reduceLE, bne, ↓reduceIte, lenA_lst, load_ref, elems, ty26, ty22, ty23, ty9, ty24, memsL_len, funsL_len, strL_len, hx1, g10, g11, g12, O1.kn, O2.kn, ha2, hx3, g30, g31, g32, hv, hk3, hs4, hl4, hle', hle, hc5, O5.kn, hc6, hk6, hl6, hl6', hcl', hcf, pu43]
      exact leave_pure rfl hold rfl
  · have hle' : (((namesOf p).length : Int) ≤ 256) = False := by simp; omega
    have hB : namedB p = false := by simp [namedB, hle]
    rw [hB]
    have hold : H4.take h.length = h := by rw [O4.old]; simp
    simp only [SProg.cells, k24, Tryz.f24, regEnd_nrm (lv24 _), pu24, x24_0, a24_0, im24_1, x24_1, a24_1, x24_2, a24_2, x24_3, a24_3, x24_4, a24_4, x24_5, a24_5, im24_18, x24_6, a24_6, x24_7, a24_7, x24_8, a24_8, x24_9, a24_9, x24_10, a24_10, x24_11, a24_11, im24_35, x24_12, a24_12, x24_13, a24_13, x24_14, a24_14, sx_guardO g24_14_3, sx_guardO g24_14_12, sxAll, arithA, Nat.reduceEqDiff, Env.keep, qt_eq, isAlloc, resultsA, packA, storeA, fieldA, indexA, unA, fieldAddrA, Rv.part, cellsAt, TD.isAgg, convH, convA, buildA, fillA, setCells, copies, optA, boundA, mapO, ↓Option.bind_some, ↓Option.bind_none, Nat.reduceBEq, Nat.reduceAdd, Nat.reduceMul, Nat.reduceLeDiff, Nat.reduceSub, Nat.reduceLT, Nat.reduceGT, Int.reduceBEq, Int.reduceLT, Int.reduceLE, bne, ↓reduceIte, lenA_lst, load_ref, elems, ty26, ty22, ty23, ty9, ty24, memsL_len, funsL_len, strL_len, hx1, g10, g11, g12, O1.kn, O2.kn, ha2, hx3, g30, g31, g32, hv, hk3, hs4, hl4, hle']
    exact leave_pure rfl hold rfl
end
end Go.Proofs.Sx

/-
  package code: what 'May' answers.
-/
set_option linter.unusedSimpArgs false
set_option linter.unusedVariables false
set_option maxRecDepth 100000
set_option maxHeartbeats 4000000
namespace Go.Proofs.Sx
open Go.Rv Go.Proofs
attribute [local congr] bind_left got_left
noncomputable section

/-- May a program be? -/
def mayP (p : SProg) : Bool := namedB p && (!decide (((thr p.funs 0).length : Int) > 16) && (!(p.mems.any badSize) && p.funs.all (mayFunB p)))

theorem lv14 (r : Nat) : cfg.live 14 r = some [0, 1, 2, 16] := rfl
theorem ok14 : okB cfg0 14 Tryz.f14 (Tryz.f14.body.getD .skip) = true := by kernel_rfl
theorem pu14 : cfg.pure 14 = true := rfl
instance tight14 {d : Option Nat} : TightD cfg 14 d := ⟨fun _ _ => rfl⟩
def a14_0 : Array Oper := codeOps (codeAt [false] (Tryz.f14.body.getD .skip))
def b14_0 : Array Oper := a14_0
def r14_0 : Code := .region 0 a14_0 false
theorem im14_1 : cfg.imm 14 1 = true := by kernel_rfl
theorem x14_0 (e : Env) (h : Heap) : exec cfg 14 r14_0 e h = (ops cfg 14 b14_0 (a14_0.toList) e h).bind (regEnd cfg 14 0 false) := region_at _ _ _ _ _ _ _
def a14_1 : Array Oper := codeOps (codeAt [true, false, false] (Tryz.f14.body.getD .skip))
def b14_1 : Array Oper := a14_1
def r14_1 : Code := .region 1 a14_1 false
theorem x14_1 (e : Env) (h : Heap) : exec cfg 14 r14_1 e h = (ops cfg 14 b14_1 (a14_1.toList) e h).bind (regEnd cfg 14 1 false) := region_at _ _ _ _ _ _ _
theorem g14_1_3 : (b14_1[3]?).bind (·.dst) = some 6 := by kernel_rfl
theorem g14_1_9 : (b14_1[9]?).bind (·.dst) = some 12 := by kernel_rfl
def a14_2 : Array Oper := codeOps (codeAt [true, false, true, false, false] (Tryz.f14.body.getD .skip))
def b14_2 : Array Oper := a14_2
def r14_2 : Code := .region 2 a14_2 false
theorem x14_2 (e : Env) (h : Heap) : exec cfg 14 r14_2 e h = (ops cfg 14 b14_2 (a14_2.toList) e h).bind (regEnd cfg 14 2 false) := region_at _ _ _ _ _ _ _
def a14_3 : Array Oper := codeOps (codeAt [true, true, false] (Tryz.f14.body.getD .skip))
def b14_3 : Array Oper := a14_3
def r14_3 : Code := .region 3 a14_3 false
theorem x14_3 (e : Env) (h : Heap) : exec cfg 14 r14_3 e h = (ops cfg 14 b14_3 (a14_3.toList) e h).bind (regEnd cfg 14 3 false) := region_at _ _ _ _ _ _ _
def k14 : Code := (.seq r14_0 (.seq (.seq r14_1 (.cond (.tmp 16) (.seq r14_2 .ret) .skip)) (.seq r14_3 .ret)))
theorem body14 : Tryz.f14.body = some k14 := by kernel_rfl
theorem call14 (x0 : AV) (h : Heap) : call cfg 14 [x0] h = (exec cfg 14 k14 [(0, x0)] h).bind (callEnd cfg 14 h [.tmp 2]) := call_at2 (fnat Tryz.func14 body14 (by rw [← ok14]; kernel_rfl)) rfl rfl
theorem may_eq (p : SProg) (h : Heap) (hp : p.wf) : call cfg 14 [.agg p.cells] h = some (.ret (.bool (mayP p)), h) := by
  rw [call14]
  have h1 := fun h => named_eq p h hp
  obtain ⟨z, r, h2⟩ := cthreads_eq p h hp
  have h3 : call cfg 26 [.lst (memsL p.mems) p.mz p.mroom, .clo 27 []] h = some (.ret (.bool (p.mems.any badSize)), h) :=
    containsFMem_eq p.mems SMem.cells badSize 27 [] p.mz p.mroom h (by have := hp.1; omega) (fun _ _ => rfl) (fun m _ => mayA_eq m h)
  have h4 : call cfg 28 [.lst (funsL p.funs) p.fz p.froom, .clo 29 [.ref p.cells]] h = some (.ret (.bool (p.funs.any fun f => !mayFunB p f)), h) :=
    containsFFun_eq p.funs SFun.cells (fun f => !mayFunB p f) 29 [.ref p.cells] p.fz p.froom h (by have := hp.2.2.1; omega) (fun _ _ => rfl) (fun f hf => mayB_eq p f h (hp.2.2.2.2.2 f hf))
  have h5 : p.funs.all (mayFunB p) = !(p.funs.any fun f => !mayFunB p f) := by simp [List.not_any_eq_all_not]
  unfold mayP
  rw [h5]
  simp only [SProg.cells] at h1 h2 h4
  cases c1 : namedB p with
  | false =>
    rw [c1] at h1
    simp only [SProg.cells, k14, Tryz.f14, regEnd_nrm (lv14 _), pu14, x14_0, a14_0, im14_1, x14_1, a14_1, sx_guardO g14_1_3, sx_guardO g14_1_9, x14_2, a14_2, x14_3, a14_3, sxAll, arithA, Nat.reduceEqDiff, Env.keep, qt_eq, isAlloc, resultsA, packA, storeA, indexAddrA, fieldA, indexA, unA, fieldAddrA, loadA, Rv.part, cellsAt, TD.isAgg, convH, convA, buildA, fillA, setCells, copies, lenA, optA, boundA, mapO, ↓Option.bind_some, ↓Option.bind_none, Nat.reduceBEq, Nat.reduceAdd, Nat.reduceMul, Nat.reduceLeDiff, Nat.reduceSub, Nat.reduceLT, Nat.reduceGT, Int.reduceBEq, Int.reduceLT, Int.reduceLE, bne, ↓reduceIte, ty26, pu24, h1]
    exact leave_kept rfl rfl
  | true =>
    rw [c1] at h1
    by_cases c2 : ((thr p.funs 0).length : Int) > 16
    · simp only [SProg.cells, k14, Tryz.f14, regEnd_nrm (lv14 _), pu14, x14_0, a14_0, im14_1, x14_1, a14_1, sx_guardO g14_1_3, sx_guardO g14_1_9, x14_2, a14_2, x14_3, a14_3, sxAll, arithA, Nat.reduceEqDiff, Env.keep, qt_eq, isAlloc, resultsA, packA, storeA, indexAddrA, fieldA, indexA, unA, fieldAddrA, loadA, Rv.part, cellsAt, TD.isAgg, convH, convA, buildA, fillA, setCells, copies, lenA, optA, boundA, mapO, ↓Option.bind_some, ↓Option.bind_none, Nat.reduceBEq, Nat.reduceAdd, Nat.reduceMul, Nat.reduceLeDiff, Nat.reduceSub, Nat.reduceLT, Nat.reduceGT, Int.reduceBEq, Int.reduceLT, Int.reduceLE, bne, ↓reduceIte, ty26, ty29, pu24, pu25, h1, h2, intL_len, c2]
      exact leave_kept rfl rfl
    · cases c3 : p.mems.any badSize with
      | true =>
        rw [c3] at h3
        simp only [SProg.cells, k14, Tryz.f14, regEnd_nrm (lv14 _), pu14, x14_0, a14_0, im14_1, x14_1, a14_1, sx_guardO g14_1_3, sx_guardO g14_1_9, x14_2, a14_2, x14_3, a14_3, sxAll, arithA, Nat.reduceEqDiff, Env.keep, qt_eq, isAlloc, resultsA, packA, storeA, indexAddrA, fieldA, indexA, unA, fieldAddrA, loadA, Rv.part, cellsAt, TD.isAgg, convH, convA, buildA, fillA, setCells, copies, lenA, optA, boundA, mapO, ↓Option.bind_some, ↓Option.bind_none, Nat.reduceBEq, Nat.reduceAdd, Nat.reduceMul, Nat.reduceLeDiff, Nat.reduceSub, Nat.reduceLT, Nat.reduceGT, Int.reduceBEq, Int.reduceLT, Int.reduceLE, bne, ↓reduceIte, ty26, ty29, ty22, pu24, pu25, pu26, h1, h2, h3, intL_len, c2]
        exact leave_kept rfl rfl
      | false =>
        rw [c3] at h3
        simp only [SProg.cells, k14, Tryz.f14, regEnd_nrm (lv14 _), pu14, x14_0, a14_0, im14_1, x14_1, a14_1, sx_guardO g14_1_3, sx_guardO g14_1_9, x14_2, a14_2, x14_3, a14_3, sxAll, arithA, Nat.reduceEqDiff, Env.keep, qt_eq, isAlloc, resultsA, packA, storeA, indexAddrA, fieldA, indexA, unA, fieldAddrA, loadA, Rv.part, cellsAt, TD.isAgg, convH, convA, buildA, fillA, setCells, copies, lenA, optA, boundA, mapO, ↓Option.bind_some, ↓Option.bind_none, Nat.reduceBEq, Nat.reduceAdd, Nat.reduceMul, Nat.reduceLeDiff, Nat.reduceSub, Nat.reduceLT, Nat.reduceGT, Int.reduceBEq, Int.reduceLT, Int.reduceLE, bne, ↓reduceIte, ty26, ty29, ty22, ty24, pu24, pu25, pu26, pu28, h1, h2, h3, h4, intL_len, c2]
        exact leave_kept rfl rfl
end
end Go.Proofs.Sx

/-
  package calls: 'rising', 'callees'.
-/
set_option linter.unusedSimpArgs false
set_option linter.unusedVariables false
set_option maxRecDepth 100000
set_option maxHeartbeats 4000000
namespace Go.Proofs.Sx
open Go.Rv Go.Proofs
attribute [local congr] bind_left got_left
noncomputable section

/-- A list of numbers, as slices.Sorted hands it back. -/
def outL (l : List Int) : AV := .lst (intL l) 1 (if l = [] then .nil else .open)

theorem call_sortedI (args : List AV) (h : Heap) : call cfg 51 args h = sortedKeys 73 args h := call_prim _ _ args _ rfl
theorem lv31 (r : Nat) : cfg.live 31 r = some [0, 2] := rfl
theorem ok31 : okB cfg0 31 Tryz.f31 (Tryz.f31.body.getD .skip) = true := by kernel_rfl
theorem pu31 : cfg.pure 31 = true := rfl
instance tight31 {d : Option Nat} : TightD cfg 31 d := ⟨fun _ _ => rfl⟩
def a31_0 : Array Oper := codeOps (codeAt [false] (Tryz.f31.body.getD .skip))
def b31_0 : Array Oper := a31_0
def r31_0 : Code := .region 0 a31_0 false
theorem x31_0 (e : Env) (h : Heap) : exec cfg 31 r31_0 e h = (ops cfg 31 b31_0 (a31_0.toList) e h).bind (regEnd cfg 31 0 false) := region_at _ _ _ _ _ _ _
def a31_1 : Array Oper := codeOps (codeAt [true, false] (Tryz.f31.body.getD .skip))
def b31_1 : Array Oper := a31_1
def r31_1 : Code := .region 1 a31_1 false
theorem x31_1 (e : Env) (h : Heap) : exec cfg 31 r31_1 e h = (ops cfg 31 b31_1 (a31_1.toList) e h).bind (regEnd cfg 31 1 false) := region_at _ _ _ _ _ _ _
def k31 : Code := (.seq r31_0 (.seq r31_1 .ret))
theorem body31 : Tryz.f31.body = some k31 := by kernel_rfl
theorem call31 (x0 : AV) (h : Heap) : call cfg 31 [x0] h = (exec cfg 31 k31 [(0, x0)] h).bind (callEnd cfg 31 h [.tmp 2]) := call_at2 (fnat Tryz.func31 body31 (by rw [← ok31]; kernel_rfl)) rfl rfl
theorem lv52 (r : Nat) : cfg.live 52 r = some [0, 1, 2] := rfl
theorem ok52 : okB cfg0 52 Tryz.f52 (Tryz.f52.body.getD .skip) = true := by kernel_rfl
theorem pu52 : cfg.pure 52 = false := rfl
instance tight52 {d : Option Nat} : TightD cfg 52 d := ⟨fun _ _ => rfl⟩
def a52_0 : Array Oper := codeOps (codeAt [false] (Tryz.f52.body.getD .skip))
def b52_0 : Array Oper := a52_0
def r52_0 : Code := .region 0 a52_0 false
theorem im52_1 : cfg.imm 52 1 = false := by kernel_rfl
theorem x52_0 (e : Env) (h : Heap) : exec cfg 52 r52_0 e h = (ops cfg 52 b52_0 (a52_0.toList) e h).bind (regEnd cfg 52 0 false) := region_at _ _ _ _ _ _ _
def a52_1 : Array Oper := codeOps (codeAt [true, false] (Tryz.f52.body.getD .skip))
def b52_1 : Array Oper := a52_1
def r52_1 : Code := .region 1 a52_1 false
theorem x52_1 (e : Env) (h : Heap) : exec cfg 52 r52_1 e h = (ops cfg 52 b52_1 (a52_1.toList) e h).bind (regEnd cfg 52 1 false) := region_at _ _ _ _ _ _ _
def k52 : Code := (.seq r52_0 (.seq r52_1 .ret))
theorem body52 : Tryz.f52.body = some k52 := by kernel_rfl
theorem call52 (x0 : AV) (h : Heap) : call cfg 52 [x0] h = (exec cfg 52 k52 [(0, x0)] h).bind (callEnd cfg 52 h [.tmp 2]) := call_at2 (fnat Tryz.func52 body52 (by rw [← ok52]; kernel_rfl)) rfl rfl
theorem rising_eq (H : Heap) (m : Nat) (l : List (Int × Int)) (hm : H.mapAt m = some (mapE l)) (hw : ∀ k ∈ l.map (·.1), (Lit.int .i64 k).wf = true) (hl : l.length ≤ 1000000) :
    call cfg 31 [.map m] H = some (.ret (outL (isort (l.map (·.1)))), H) := by
  have hk : call cfg 52 [.map m] H = some (.ret (.clo 73 [.ptr H.length 0 0]), H ++ [.cells [.map m] 0]) := by
    rw [call52]
    simp only [k52, Tryz.f52, regEnd_nrm (lv52 _), pu52, x52_0, a52_0, im52_1, x52_1, a52_1, sxAll, arithA, Nat.reduceEqDiff, Env.keep, qt_eq, isAlloc, resultsA, packA, storeA, indexAddrA, fieldA, indexA, unA, fieldAddrA, loadA, Rv.part, cellsAt, TD.isAgg, convH, convA, buildA, fillA, setCells, copies, lenA, optA, boundA, mapO, ↓Option.bind_some, ↓Option.bind_none, Nat.reduceBEq, Nat.reduceAdd, Nat.reduceMul, Nat.reduceLeDiff, Nat.reduceSub, Nat.reduceLT, Nat.reduceGT, Int.reduceBEq, Int.reduceLT, Int.reduceLE, bne, ↓reduceIte, ty69, known_map, cells_map]
    exact leave_impure rfl
  have hs : call cfg 51 [.clo 73 [.ptr H.length 0 0]] (H ++ [.cells [.map m] 0]) = some (.ret (outL (isort (l.map (·.1)))), H ++ [.cells [.map m] 0]) := by
    rw [call_sortedI]
    have hm' : Heap.mapAt (H ++ [.cells [.map m] 0]) m = some (mapE l) := by rw [mapAt_left _ (mapAt_lt hm), hm]
    have hlen : (mapE l).length ≤ 1000000 := by simpa [mapE] using hl
    simp only [sortedKeys, if_true, obj_app0, obj_zero, Option.bind_some, hm', keysI_mapE hw, hlen, keysOut_eq]
    rfl
  have hfz : freezeV (H ++ [.cells [.map m] 0]) H.length 40 (outL (isort (l.map (·.1)))) = some (outL (isort (l.map (·.1)))) := freeze_lint _ _ 38 _ _ _
  have hkn : known (outL (isort (l.map (·.1)))) = some (outL (isort (l.map (·.1)))) := rfl
  rw [call31]
  simp only [k31, Tryz.f31, regEnd_nrm (lv31 _), pu31, x31_0, a31_0, x31_1, a31_1, sxAll, arithA, Nat.reduceEqDiff, Env.keep, qt_eq, isAlloc, resultsA, packA, storeA, indexAddrA, fieldA, indexA, unA, fieldAddrA, loadA, Rv.part, cellsAt, TD.isAgg, convH, convA, buildA, fillA, setCells, copies, lenA, optA, boundA, mapO, ↓Option.bind_some, ↓Option.bind_none, Nat.reduceBEq, Nat.reduceAdd, Nat.reduceMul, Nat.reduceLeDiff, Nat.reduceSub, Nat.reduceLT, Nat.reduceGT, Int.reduceBEq, Int.reduceLT, Int.reduceLE, bne, ↓reduceIte, known_map, hk, hs, hkn]
  exact leave_pure rfl (by simp) hfz

def addKey (ks : List Int) (n : Int) : List Int := if n ∈ ks then ks else ks ++ [n]
def calleeKeys (l : List SIns) : List Int → List Int := fun ks => l.foldl (fun ks i => if i.op == 10 then addKey ks i.n else ks) ks
def calleesOf (f : SFun) : List Int := isort (calleeKeys f.code [])

theorem lv15 (r : Nat) : cfg.live 15 r = some [0, 1, 2, 3, 5, 8, 9, 10, 11, 16] := rfl
theorem ok15 : okB cfg0 15 Tryz.f15 (Tryz.f15.body.getD .skip) = true := by kernel_rfl
theorem pu15 : cfg.pure 15 = true := rfl
instance tight15 {d : Option Nat} : TightD cfg 15 d := ⟨fun _ _ => rfl⟩
def a15_0 : Array Oper := codeOps (codeAt [false] (Tryz.f15.body.getD .skip))
def b15_0 : Array Oper := a15_0
def r15_0 : Code := .region 0 a15_0 false
theorem im15_1 : cfg.imm 15 1 = true := by kernel_rfl
theorem x15_0 (e : Env) (h : Heap) : exec cfg 15 r15_0 e h = (ops cfg 15 b15_0 (a15_0.toList) e h).bind (regEnd cfg 15 0 false) := region_at _ _ _ _ _ _ _
def a15_1 : Array Oper := codeOps (codeAt [true, false] (Tryz.f15.body.getD .skip))
def b15_1 : Array Oper := a15_1
def r15_1 : Code := .region 1 a15_1 false
theorem x15_1 (e : Env) (h : Heap) : exec cfg 15 r15_1 e h = (ops cfg 15 b15_1 (a15_1.toList) e h).bind (regEnd cfg 15 1 false) := region_at _ _ _ _ _ _ _
def a15_2 : Array Oper := codeOps (codeAt [true, true, false, false] (Tryz.f15.body.getD .skip))
def b15_2 : Array Oper := a15_2
def r15_2 : Code := .region 2 a15_2 false
theorem x15_2 (e : Env) (h : Heap) : exec cfg 15 r15_2 e h = (ops cfg 15 b15_2 (a15_2.toList) e h).bind (regEnd cfg 15 2 false) := region_at _ _ _ _ _ _ _
def a15_3 : Array Oper := codeOps (codeAt [true, true, false, true, false, false, false] (Tryz.f15.body.getD .skip))
def b15_3 : Array Oper := a15_3
def r15_3 : Code := .region 3 a15_3 false
theorem x15_3 (e : Env) (h : Heap) : exec cfg 15 r15_3 e h = (ops cfg 15 b15_3 (a15_3.toList) e h).bind (regEnd cfg 15 3 false) := region_at _ _ _ _ _ _ _
def a15_4 : Array Oper := codeOps (codeAt [true, true, false, true, false, false, true, true, false, false, false] (Tryz.f15.body.getD .skip))
def b15_4 : Array Oper := a15_4
def r15_4 : Code := .region 4 a15_4 false
theorem x15_4 (e : Env) (h : Heap) : exec cfg 15 r15_4 e h = (ops cfg 15 b15_4 (a15_4.toList) e h).bind (regEnd cfg 15 4 false) := region_at _ _ _ _ _ _ _
def a15_5 : Array Oper := codeOps (codeAt [true, true, false, true, false, false, true, true, false, false, true, false] (Tryz.f15.body.getD .skip))
def b15_5 : Array Oper := a15_5
def r15_5 : Code := .region 5 a15_5 false
theorem x15_5 (e : Env) (h : Heap) : exec cfg 15 r15_5 e h = (ops cfg 15 b15_5 (a15_5.toList) e h).bind (regEnd cfg 15 5 false) := region_at _ _ _ _ _ _ _
def a15_6 : Array Oper := codeOps (codeAt [true, true, false, true, false, false, true, true, false, false, true, true, false] (Tryz.f15.body.getD .skip))
def b15_6 : Array Oper := a15_6
def r15_6 : Code := .region 6 a15_6 false
theorem x15_6 (e : Env) (h : Heap) : exec cfg 15 r15_6 e h = (ops cfg 15 b15_6 (a15_6.toList) e h).bind (regEnd cfg 15 6 false) := region_at _ _ _ _ _ _ _
def a15_7 : Array Oper := codeOps (codeAt [true, true, false, true, false, false, true, true, true] (Tryz.f15.body.getD .skip))
def b15_7 : Array Oper := a15_7
def r15_7 : Code := .region 7 a15_7 false
theorem x15_7 (e : Env) (h : Heap) : exec cfg 15 r15_7 e h = (ops cfg 15 b15_7 (a15_7.toList) e h).bind (regEnd cfg 15 7 false) := region_at _ _ _ _ _ _ _
def a15_8 : Array Oper := codeOps (codeAt [true, true, true, false] (Tryz.f15.body.getD .skip))
def b15_8 : Array Oper := a15_8
def r15_8 : Code := .region 8 a15_8 false
theorem x15_8 (e : Env) (h : Heap) : exec cfg 15 r15_8 e h = (ops cfg 15 b15_8 (a15_8.toList) e h).bind (regEnd cfg 15 8 false) := region_at _ _ _ _ _ _ _
def l15_0 : Code := (.seq r15_3 (.seq (.cond (.tmp 11) .skip (.exit 0)) (.seq (.block 1 (.seq r15_4 (.seq r15_5 (.cond (.tmp 16) r15_6 .skip)))) r15_7)))
def k15 : Code := (.seq r15_0 (.seq r15_1 (.seq (.seq r15_2 (.block 0 (.loop l15_0))) (.seq r15_8 .ret))))
theorem body15 : Tryz.f15.body = some k15 := by kernel_rfl
theorem call15 (x0 : AV) (h : Heap) : call cfg 15 [x0] h = (exec cfg 15 k15 [(0, x0)] h).bind (callEnd cfg 15 h [.tmp 2]) := call_at2 (fnat Tryz.func15 body15 (by rw [← ok15]; kernel_rfl)) rfl rfl
theorem codeL_drop {xs ys : List SIns} {i : Nat} (h : xs.drop i = ys) : (codeL xs).drop i = codeL ys := by rw [codeL, ← List.map_drop, h]; rfl
theorem callees_loop (l : List SIns) (hn : l.length < 100000000) (m : Nat) (h0 : Heap) (z : Nat) (r : Room) : ∀ (ys : List SIns) (i : Nat), l.drop i = ys → i ≤ l.length → ∀ (es : List (Int × Int)) H, H.mapAt m = some (mapE es) → m ≤ H.length → H.take m = h0 → ∀ a b c e f g,
    Got (exec cfg 15 (.loop l15_0) [(0, a), (1, b), (2, c), (3, .map m), (5, e), (8, .lst (codeL l) z r), (9, .int .i64 l.length), (10, .int .i64 i), (11, f), (16, g)] H)
      (fun q => q.1 = .exit 0 ∧ q.2.1.get 3 = .map m ∧ q.2.2.take m = h0 ∧ ∃ es', q.2.2.mapAt m = some (mapE es') ∧ es'.map (·.1) = calleeKeys ys (es.map (·.1))) := by
  intro ys
  induction ys with
  | nil =>
    intro i hd hi es H hm hle htk a b c e f g
    rw [got_loop]
    simp only [l15_0, k15, Tryz.f15, regEnd_nrm (lv15 _), pu15, x15_0, a15_0, im15_1, x15_1, a15_1, x15_2, a15_2, x15_3, a15_3, x15_4, a15_4, x15_5, a15_5, x15_6, a15_6, x15_7, a15_7, x15_8, a15_8, sxAll, arithA, Nat.reduceEqDiff, Env.keep, qt_eq, isAlloc, resultsA, packA, storeA, indexAddrA, fieldA, indexA, unA, fieldAddrA, loadA, Rv.part, cellsAt, TD.isAgg, convH, convA, buildA, fillA, setCells, copies, lenA, optA, boundA, mapO, ↓Option.bind_some, ↓Option.bind_none, Nat.reduceBEq, Nat.reduceAdd, Nat.reduceMul, Nat.reduceLeDiff, Nat.reduceSub, Nat.reduceLT, Nat.reduceGT, Int.reduceBEq, Int.reduceLT, Int.reduceLE, bne, ↓reduceIte, at_end hd]
    exact ⟨trivial, trivial, htk, es, hm, rfl⟩
  | cons y s ih =>
    intro i hd hi es H hm hle htk a b c e f g
    obtain ⟨hlt, hget, hd'⟩ := at_drop hd
    have hx := codeL_get hget
    have hlt' : i < l.length := by simpa using hlt
    have hw := wrap_succ (i := i) (by omega)
    have hmlt := mapAt_lt hm
    rw [got_loop]
    cases ho : y.op == 10 with
    | true =>
      have hm1 : Heap.mapAt (H ++ [.cells y.cells 0]) m = some (mapE es) := by rw [mapAt_left _ hmlt, hm]
      obtain ⟨c1, hc1⟩ : ∃ c1, IntKind.i64.wrap (((pget y.n es).getD 0) + 1) = c1 := ⟨_, rfl⟩
      have hlook : lookupA cfg (H ++ [.cells y.cells 0]) 69 (.map m) (.int .i64 y.n) false = some (.int .i64 ((pget y.n es).getD 0)) := by
        simp only [lookupA, ty69, ty3, keyTd, Bool.not_true, Bool.false_eq_true, if_false, ents_map, hm1, findA_mapE, Option.bind_eq_bind, Option.bind_some, Rv.part, TD.isAgg, List.head?_cons]
        cases pget y.n es <;> rfl
      have hupd : updateA cfg (H ++ [.cells y.cells 0]) 69 (.map m) (.int .i64 y.n) (.int .i64 c1) = some ((H ++ [AObj.cells y.cells 0]).set m (.map (mapE (pput y.n c1 es)))) := by
        simp only [updateA, ty69, ty3, keyTd, Bool.not_true, Bool.false_eq_true, if_false, hm1, putA_mapE, Option.bind_eq_bind, Option.bind_some]
      have hkeys : calleeKeys (y :: s) (es.map (·.1)) = calleeKeys s ((pput y.n c1 es).map (·.1)) := by
        simp only [calleeKeys, List.foldl_cons, ho, if_true, pput_keys, addKey]
      have := ih (i + 1) hd' (by omega) (pput y.n c1 es) ((H ++ [AObj.cells y.cells 0]).set m (.map (mapE (pput y.n c1 es)))) (mapAt_set _ (by simp; omega)) (by simp; omega) (by
        rw [List.take_set_of_le (Nat.le_refl m), take_app _ hle, htk])
      rw [hkeys]
      simp only [SIns.cells] at hlook hupd
      simp only [l15_0] at this ⊢
      simp only [SIns.cells, k15, Tryz.f15, regEnd_nrm (lv15 _), pu15, x15_0, a15_0, im15_1, x15_1, a15_1, x15_2, a15_2, x15_3, a15_3, x15_4, a15_4, x15_5, a15_5, x15_6, a15_6, x15_7, a15_7, x15_8, a15_8, sxAll, arithA, Nat.reduceEqDiff, Env.keep, qt_eq, isAlloc, resultsA, packA, storeA, indexAddrA, fieldA, indexA, unA, fieldAddrA, loadA, Rv.part, cellsAt, TD.isAgg, convH, convA, buildA, fillA, setCells, copies, lenA, optA, boundA, mapO, ↓Option.bind_some, ↓Option.bind_none, Nat.reduceBEq, Nat.reduceAdd, Nat.reduceMul, Nat.reduceLeDiff, Nat.reduceSub, Nat.reduceLT, Nat.reduceGT, Int.reduceBEq, Int.reduceLT, Int.reduceLE, bne, ↓reduceIte, hlt, ty36, ty42, ty5, ty2, ty3, hx, hw, ho, known_map, hlook, hc1, hupd] at this ⊢
      exact this _ _ _ _ _ _
    | false =>
      have hkeys : calleeKeys (y :: s) (es.map (·.1)) = calleeKeys s (es.map (·.1)) := by
        simp only [calleeKeys, List.foldl_cons, ho, Bool.false_eq_true, if_false]
      have := ih (i + 1) hd' (by omega) es (H ++ [.cells y.cells 0]) (by rw [mapAt_left _ hmlt, hm]) (by simp; omega) (by rw [take_app _ hle, htk])
      rw [hkeys]
      simp only [l15_0] at this ⊢
      simp only [SIns.cells, k15, Tryz.f15, regEnd_nrm (lv15 _), pu15, x15_0, a15_0, im15_1, x15_1, a15_1, x15_2, a15_2, x15_3, a15_3, x15_4, a15_4, x15_5, a15_5, x15_6, a15_6, x15_7, a15_7, x15_8, a15_8, sxAll, arithA, Nat.reduceEqDiff, Env.keep, qt_eq, isAlloc, resultsA, packA, storeA, indexAddrA, fieldA, indexA, unA, fieldAddrA, loadA, Rv.part, cellsAt, TD.isAgg, convH, convA, buildA, fillA, setCells, copies, lenA, optA, boundA, mapO, ↓Option.bind_some, ↓Option.bind_none, Nat.reduceBEq, Nat.reduceAdd, Nat.reduceMul, Nat.reduceLeDiff, Nat.reduceSub, Nat.reduceLT, Nat.reduceGT, Int.reduceBEq, Int.reduceLT, Int.reduceLE, bne, ↓reduceIte, hlt, ty36, ty42, ty5, ty2, ty3, hx, hw, ho] at this ⊢
      exact this _ _ _ _ _ _

theorem calleeKeys_wf {P : Int → Prop} : ∀ (l : List SIns) (ks : List Int), (∀ i ∈ l, i.op = 10 → P i.n) → (∀ k ∈ ks, P k) → ∀ k ∈ calleeKeys l ks, P k
  | [], ks, _, h2, k, hk => h2 k hk
  | i :: r, ks, h1, h2, k, hk => by
    have e : calleeKeys (i :: r) ks = calleeKeys r (if i.op == 10 then addKey ks i.n else ks) := rfl
    rw [e] at hk
    refine calleeKeys_wf r _ (fun j hj => h1 j (List.mem_cons_of_mem _ hj)) (fun x hx => ?_) k hk
    split at hx
    · rename_i ho
      unfold addKey at hx
      split at hx
      · exact h2 x hx
      · rcases List.mem_append.1 hx with hx | hx
        · exact h2 x hx
        · rw [List.mem_singleton.1 hx]
          exact h1 i (List.mem_cons_self ..) (by simpa using ho)
    · exact h2 x hx
theorem calleeKeys_len : ∀ (l : List SIns) (ks : List Int), (calleeKeys l ks).length ≤ ks.length + l.length
  | [], ks => Nat.le_refl _
  | i :: r, ks => by
    have e : calleeKeys (i :: r) ks = calleeKeys r (if i.op == 10 then addKey ks i.n else ks) := rfl
    rw [e]
    have := calleeKeys_len r (if i.op == 10 then addKey ks i.n else ks)
    have h2 : (if i.op == 10 then addKey ks i.n else ks).length ≤ ks.length + 1 := by
      split
      · unfold addKey; split <;> simp
      · omega
    simp only [List.length_cons]; omega

theorem callees_eq (f : SFun) (h : Heap) (hf : f.code.length ≤ 1000000) (hw : ∀ i ∈ f.code, i.op = 10 → (Lit.int .i64 i.n).wf = true) : call cfg 15 [.agg f.cells] h = some (.ret (outL (calleesOf f)), h) := by
  obtain ⟨⟨o, e', H'⟩, hx, ho, h3, htk, es', hm, hkeys⟩ := callees_loop f.code (by omega) h.length h f.cz f.room f.code 0 (by simp) (by omega) [] (h ++ [.map []]) (by simp [Heap.mapAt, mapE]) (by simp) (by simp) (.agg f.cells) (.ref f.cells) (.lst [] 0 .nil) .junk .junk .junk
  simp only [Int.natCast_zero, List.map_nil] at hx ho h3 htk hm hkeys
  subst ho
  have hlen := calleeKeys_len f.code []
  simp only [List.length_nil, Nat.zero_add] at hlen
  have hr := rising_eq H' h.length es' hm (by rw [hkeys]; exact calleeKeys_wf f.code [] hw (fun k hk => by simp at hk)) (by
    have := congrArg List.length hkeys
    simp at this; omega)
  rw [hkeys] at hr
  rw [call15]
  have hkn : known (outL (isort (calleeKeys f.code []))) = some (outL (isort (calleeKeys f.code []))) := rfl
  simp only [SFun.cells] at hx
  simp only [SFun.cells, k15, Tryz.f15, regEnd_nrm (lv15 _), pu15, x15_0, a15_0, im15_1, x15_1, a15_1, x15_2, a15_2, x15_3, a15_3, x15_4, a15_4, x15_5, a15_5, x15_6, a15_6, x15_7, a15_7, x15_8, a15_8, sxAll, arithA, Nat.reduceEqDiff, Env.keep, qt_eq, isAlloc, resultsA, packA, storeA, indexAddrA, fieldA, indexA, unA, fieldAddrA, loadA, Rv.part, cellsAt, TD.isAgg, convH, convA, buildA, fillA, setCells, copies, lenA, optA, boundA, mapO, ↓Option.bind_some, ↓Option.bind_none, Nat.reduceBEq, Nat.reduceAdd, Nat.reduceMul, Nat.reduceLeDiff, Nat.reduceSub, Nat.reduceLT, Nat.reduceGT, Int.reduceBEq, Int.reduceLT, Int.reduceLE, bne, ↓reduceIte, ty38, ty36, ty69, codeL_len, hx, h3, known_map, pu31, hr, hkn]
  exact leave_pure rfl htk (freeze_lint _ _ 38 _ _ _)
end
end Go.Proofs.Sx

/-
  package calls: 'reach': from a number on, all that is come to.
-/
set_option linter.unusedSimpArgs false
set_option linter.unusedVariables false
set_option maxRecDepth 100000
set_option maxHeartbeats 4000000
namespace Go.Proofs.Sx
open Go.Rv Go.Proofs Go.Maps Go.RowKit
attribute [local congr] bind_left got_left
noncomputable section

/-- Who is called by a number. -/
def csOf (CS : List (List Int)) (k : Int) : List Int := CS.getD k.toNat []
/-- One comes from there to there, in one step or more. -/
inductive Rch (CS : List (List Int)) : Int → Int → Prop
  | one {k j : Int} : j ∈ csOf CS k → Rch CS k j
  | step {k j x : Int} : j ∈ csOf CS k → Rch CS j x → Rch CS k x
theorem Rch.trans {CS : List (List Int)} {a b c : Int} (h : Rch CS a b) (k : Rch CS b c) : Rch CS a c := by
  induction h with
  | one h => exact .step h k
  | step h _ ih => exact .step h (ih k)

def kys (es : List (Int × Int)) : List Int := es.map (·.1)
/-- What stands behind some numbers that were gone through, from k on. -/
structure Went (CS : List (List Int)) (N : Nat) (k : Int) (es0 es : List (Int × Int)) (B : Nat) (done : List Int) : Prop where
  pre : ∀ x ∈ kys es0, x ∈ kys es
  len : (kys es0).length ≤ (kys es).length
  nd : (kys es).Nodup
  rng : ∀ x ∈ kys es, 0 ≤ x ∧ x < N
  cnt : ∀ p ∈ es, 1 ≤ p.2 ∧ p.2 ≤ B
  all : ∀ j ∈ done, j ∈ kys es
  new : ∀ x ∈ kys es, x ∈ kys es0 ∨ (Rch CS k x ∧ ∀ j ∈ csOf CS x, j ∈ kys es)

theorem nodup_lenN : ∀ (N : Nat) (l : List Nat), l.Nodup → (∀ x ∈ l, x < N) → l.length ≤ N
  | 0, l, _, h => by
    cases l with
    | nil => simp
    | cons a r => exact absurd (h a (by simp)) (by omega)
  | N + 1, l, hn, h => by
    have h1 := nodup_lenN N (l.erase N) (hn.erase N) (fun x hx => by
      have := (hn.mem_erase_iff).1 hx
      have := h x this.2
      omega)
    have h2 : l.length ≤ (l.erase N).length + 1 := by
      rw [List.length_erase]; split <;> omega
    omega
theorem nodup_len {l : List Int} {N : Nat} (h : l.Nodup) (hr : ∀ x ∈ l, 0 ≤ x ∧ x < N) : l.length ≤ N := by
  have h1 : (l.map Int.toNat).Nodup := by
    rw [List.nodup_iff_pairwise_ne] at *
    rw [List.pairwise_map]
    refine h.imp_of_mem ?_
    intro a b ha hb hab hc
    have := hr a ha; have := hr b hb
    exact hab (by omega)
  have := nodup_lenN N _ h1 (fun x hx => by
    obtain ⟨y, hy, rfl⟩ := List.mem_map.1 hx
    have := hr y hy
    omega)
  simpa using this

variable (CS : List (List Int)) (N : Nat) (hN : CS.length = N) (h : Heap) (v : AV) (cr : List AV)

/-- The memory of a call of 'reach'. -/
def memR (h : Heap) (v : AV) (cr : List AV) (es : List (Int × Int)) : Heap :=
  h ++ [.map (mapE es), .cells [.map h.length] 0, .cells [.clo 32 [.ref (v :: cr), .ptr (h.length + 1) 0 0, .ptr (h.length + 2) 0 0]] 0]

theorem lv32 (r : Nat) : cfg.live 32 r = some [0, 1, 2, 3, 6, 11, 12, 13, 14, 24] := rfl
theorem ok32 : okB cfg0 32 Tryz.f32 (Tryz.f32.body.getD .skip) = true := by kernel_rfl
theorem pu32 : cfg.pure 32 = false := rfl
instance tight32 {d : Option Nat} : TightD cfg 32 d := ⟨fun _ _ => rfl⟩
def a32_0 : Array Oper := codeOps (codeAt [false] (Tryz.f32.body.getD .skip))
def b32_0 : Array Oper := a32_0
def r32_0 : Code := .region 0 a32_0 false
theorem x32_0 (e : Env) (h : Heap) : exec cfg 32 r32_0 e h = (ops cfg 32 b32_0 (a32_0.toList) e h).bind (regEnd cfg 32 0 false) := region_at _ _ _ _ _ _ _
def a32_1 : Array Oper := codeOps (codeAt [true, false, false, false] (Tryz.f32.body.getD .skip))
def b32_1 : Array Oper := a32_1
def r32_1 : Code := .region 1 a32_1 false
theorem x32_1 (e : Env) (h : Heap) : exec cfg 32 r32_1 e h = (ops cfg 32 b32_1 (a32_1.toList) e h).bind (regEnd cfg 32 1 false) := region_at _ _ _ _ _ _ _
def a32_2 : Array Oper := codeOps (codeAt [true, false, false, true, true, false, false, false] (Tryz.f32.body.getD .skip))
def b32_2 : Array Oper := a32_2
def r32_2 : Code := .region 2 a32_2 false
theorem x32_2 (e : Env) (h : Heap) : exec cfg 32 r32_2 e h = (ops cfg 32 b32_2 (a32_2.toList) e h).bind (regEnd cfg 32 2 false) := region_at _ _ _ _ _ _ _
def a32_3 : Array Oper := codeOps (codeAt [true, false, false, true, true, false, false, true, false] (Tryz.f32.body.getD .skip))
def b32_3 : Array Oper := a32_3
def r32_3 : Code := .region 3 a32_3 false
theorem x32_3 (e : Env) (h : Heap) : exec cfg 32 r32_3 e h = (ops cfg 32 b32_3 (a32_3.toList) e h).bind (regEnd cfg 32 3 false) := region_at _ _ _ _ _ _ _
def a32_4 : Array Oper := codeOps (codeAt [true, false, false, true, true, false, false, true, true, false] (Tryz.f32.body.getD .skip))
def b32_4 : Array Oper := a32_4
def r32_4 : Code := .region 4 a32_4 false
theorem x32_4 (e : Env) (h : Heap) : exec cfg 32 r32_4 e h = (ops cfg 32 b32_4 (a32_4.toList) e h).bind (regEnd cfg 32 4 false) := region_at _ _ _ _ _ _ _
def a32_5 : Array Oper := codeOps (codeAt [true, false, false, true, true, false, false, true, true, true, false] (Tryz.f32.body.getD .skip))
def b32_5 : Array Oper := a32_5
def r32_5 : Code := .region 5 a32_5 false
theorem x32_5 (e : Env) (h : Heap) : exec cfg 32 r32_5 e h = (ops cfg 32 b32_5 (a32_5.toList) e h).bind (regEnd cfg 32 5 false) := region_at _ _ _ _ _ _ _
def a32_6 : Array Oper := codeOps (codeAt [true, false, false, true, true, true] (Tryz.f32.body.getD .skip))
def b32_6 : Array Oper := a32_6
def r32_6 : Code := .region 6 a32_6 false
theorem x32_6 (e : Env) (h : Heap) : exec cfg 32 r32_6 e h = (ops cfg 32 b32_6 (a32_6.toList) e h).bind (regEnd cfg 32 6 false) := region_at _ _ _ _ _ _ _
def l32_0 : Code := (.seq r32_1 (.seq (.cond (.tmp 14) .skip (.exit 0)) (.seq (.block 1 (.seq r32_2 (.seq r32_3 (.seq r32_4 (.cond (.tmp 24) r32_5 .skip))))) r32_6)))
def k32 : Code := (.seq r32_0 (.block 0 (.loop l32_0)))
theorem body32 : Tryz.f32.body = some k32 := by kernel_rfl
theorem call32 (x0 x1 x2 x3 : AV) (h : Heap) : call cfg 32 [x0, x1, x2, x3] h = (exec cfg 32 k32 [(0, x0), (1, x1), (2, x2), (3, x3)] h).bind (callEnd cfg 32 h []) := call_at2 (fnat Tryz.func32 body32 (by rw [← ok32]; kernel_rfl)) rfl rfl
theorem lv17 (r : Nat) : cfg.live 17 r = some [0, 1, 2, 4, 5, 6] := rfl
theorem ok17 : okB cfg0 17 Tryz.f17 (Tryz.f17.body.getD .skip) = true := by kernel_rfl
theorem pu17 : cfg.pure 17 = true := rfl
instance tight17 {d : Option Nat} : TightD cfg 17 d := ⟨fun _ _ => rfl⟩
def a17_0 : Array Oper := codeOps (codeAt [false] (Tryz.f17.body.getD .skip))
def b17_0 : Array Oper := a17_0
def r17_0 : Code := .region 0 a17_0 false
theorem im17_2 : cfg.imm 17 2 = true := by kernel_rfl
theorem x17_0 (e : Env) (h : Heap) : exec cfg 17 r17_0 e h = (ops cfg 17 b17_0 (a17_0.toList) e h).bind (regEnd cfg 17 0 false) := region_at _ _ _ _ _ _ _
def a17_1 : Array Oper := codeOps (codeAt [true, false] (Tryz.f17.body.getD .skip))
def b17_1 : Array Oper := a17_1
def r17_1 : Code := .region 1 a17_1 false
theorem x17_1 (e : Env) (h : Heap) : exec cfg 17 r17_1 e h = (ops cfg 17 b17_1 (a17_1.toList) e h).bind (regEnd cfg 17 1 false) := region_at _ _ _ _ _ _ _
def a17_2 : Array Oper := codeOps (codeAt [true, true, false] (Tryz.f17.body.getD .skip))
def b17_2 : Array Oper := a17_2
def r17_2 : Code := .region 2 a17_2 false
theorem x17_2 (e : Env) (h : Heap) : exec cfg 17 r17_2 e h = (ops cfg 17 b17_2 (a17_2.toList) e h).bind (regEnd cfg 17 2 false) := region_at _ _ _ _ _ _ _
def a17_3 : Array Oper := codeOps (codeAt [true, true, true, false] (Tryz.f17.body.getD .skip))
def b17_3 : Array Oper := a17_3
def r17_3 : Code := .region 3 a17_3 false
theorem x17_3 (e : Env) (h : Heap) : exec cfg 17 r17_3 e h = (ops cfg 17 b17_3 (a17_3.toList) e h).bind (regEnd cfg 17 3 false) := region_at _ _ _ _ _ _ _
def a17_4 : Array Oper := codeOps (codeAt [true, true, true, true, false] (Tryz.f17.body.getD .skip))
def b17_4 : Array Oper := a17_4
def r17_4 : Code := .region 4 a17_4 false
theorem x17_4 (e : Env) (h : Heap) : exec cfg 17 r17_4 e h = (ops cfg 17 b17_4 (a17_4.toList) e h).bind (regEnd cfg 17 4 false) := region_at _ _ _ _ _ _ _
def a17_5 : Array Oper := codeOps (codeAt [true, true, true, true, true, false] (Tryz.f17.body.getD .skip))
def b17_5 : Array Oper := a17_5
def r17_5 : Code := .region 5 a17_5 false
theorem x17_5 (e : Env) (h : Heap) : exec cfg 17 r17_5 e h = (ops cfg 17 b17_5 (a17_5.toList) e h).bind (regEnd cfg 17 5 false) := region_at _ _ _ _ _ _ _
def k17 : Code := (.seq r17_0 (.seq r17_1 (.seq r17_2 (.seq r17_3 (.seq r17_4 (.seq r17_5 .ret))))))
theorem body17 : Tryz.f17.body = some k17 := by kernel_rfl
theorem call17 (x0 x1 : AV) (h : Heap) : call cfg 17 [x0, x1] h = (exec cfg 17 k17 [(0, x0), (1, x1)] h).bind (callEnd cfg 17 h [.tmp 4]) := call_at2 (fnat Tryz.func17 body17 (by rw [← ok17]; kernel_rfl)) rfl rfl

theorem memR_map (es : List (Int × Int)) : (memR h v cr es).mapAt h.length = some (mapE es) := by simp [memR, Heap.mapAt]
theorem memR_set (es es' : List (Int × Int)) : (memR h v cr es).set h.length (.map (mapE es')) = memR h v cr es' := by simp [memR, set_app0]
theorem memR_t2 (es : List (Int × Int)) : (memR h v cr es).obj (h.length + 1) 0 = some [.map h.length] := by simp [memR, Heap.obj]
theorem memR_t3 (es : List (Int × Int)) : (memR h v cr es).obj (h.length + 2) 0 = some [.clo 32 [.ref (v :: cr), .ptr (h.length + 1) 0 0, .ptr (h.length + 2) 0 0]] := by simp [memR, Heap.obj]
theorem memR_take (es : List (Int × Int)) : (memR h v cr es).take h.length = h := by simp [memR]
theorem memR_lookup (es : List (Int × Int)) (k : Int) : lookupA cfg (memR h v cr es) 69 (.map h.length) (.int .i64 k) false = some (.int .i64 ((pget k es).getD 0)) := by
  simp only [lookupA, ty69, ty3, keyTd, Bool.not_true, Bool.false_eq_true, if_false, ents_map, memR_map, findA_mapE, Option.bind_eq_bind, Option.bind_some, Rv.part, TD.isAgg, List.head?_cons]
  cases pget k es <;> rfl
theorem memR_update (es : List (Int × Int)) (k c : Int) : updateA cfg (memR h v cr es) 69 (.map h.length) (.int .i64 k) (.int .i64 c) = some (memR h v cr (pput k c es)) := by
  simp only [updateA, ty69, ty3, keyTd, Bool.not_true, Bool.false_eq_true, if_false, memR_map, putA_mapE, Option.bind_eq_bind, Option.bind_some, memR_set]

theorem wf_small {k : Int} (h1 : 0 ≤ k) (h2 : k < 4611686018427387904) : (Lit.int .i64 k).wf = true := by
  have e1 : IntKind.i64.min = -9223372036854775808 := by kernel_rfl
  have e2 : IntKind.i64.max = 9223372036854775807 := by kernel_rfl
  simp only [Lit.wf, Bool.and_eq_true, decide_eq_true_eq, e1, e2]
  omega

theorem idx_ints (H : Heap) (xs : List Int) (z : Nat) (r : Room) (i : Nat) (x : Int) (hx : xs[i]? = some x) : indexAddrA cfg H 29 (.lst (intL xs) z r) (.int .i64 i) = some (.ref [.int .i64 x]) := by
  have h1 : (intL xs)[i]? = some (.int .i64 x) := by simp [intL, hx]
  simp [indexAddrA, ty29, ty3, h1, AV.cells]
theorem load_ints (H : Heap) (x : Int) : loadA cfg H 3 (.ref [.int .i64 x]) = some (.int .i64 x) := by
  simp [load_ref, ty3, Rv.part, TD.isAgg]
theorem kys_pput (k c : Int) (es : List (Int × Int)) : kys (pput k c es) = if k ∈ kys es then kys es else kys es ++ [k] := pput_keys k c es

include hN in
theorem come_runs (hR : ∀ H', H'.take h.length = h → Rd cfg H' 28 29 v (CS.map outL)) (hrng : ∀ k j, j ∈ csOf CS k → 0 ≤ j ∧ j < (N : Int)) (hlen : ∀ l ∈ CS, l.length ≤ 1000) :
    ∀ (d : Nat) (es : List (Int × Int)) (kn X : Nat), (kys es).Nodup → (∀ x ∈ kys es, 0 ≤ x ∧ x < (N : Int)) → N - (kys es).length ≤ d → kn < N → (∀ p ∈ es, 1 ≤ p.2 ∧ p.2 ≤ (X : Int)) → X + 1000 * (d + 2) ≤ 1000000000000 →
      ∃ es', call cfg 32 [.int .i64 kn, .ref (v :: cr), .ptr (h.length + 1) 0 0, .ptr (h.length + 2) 0 0] (memR h v cr es) = some (.ret (.tup []), memR h v cr es') ∧
        Went CS N kn es es' (X + 1000 * ((kys es').length - (kys es).length + 1)) (csOf CS kn) := by
  intro d
  induction d using Nat.strongRecOn with
  | ind d IH =>
    intro es kn X hnd hr hd hkn hcnt hX
    obtain ⟨l, hl⟩ : ∃ l, CS[kn]? = some l := ⟨_, List.getElem?_eq_getElem (by omega)⟩
    have hcs : csOf CS kn = l := by simp [csOf, hl]
    have hll : l.length ≤ 1000 := hlen l (List.mem_of_getElem? hl)
    have L : ∀ (ys : List Int) (i : Nat), l.drop i = ys → i ≤ l.length → ∀ es1, Went CS N kn es es1 (X + i + 1000 * ((kys es1).length - (kys es).length)) (l.take i) → ∀ a f g,
        Got (exec cfg 32 (.loop l32_0) [(0, .int .i64 kn), (1, .ref (v :: cr)), (2, .ptr (h.length + 1) 0 0), (3, .ptr (h.length + 2) 0 0), (6, a), (11, outL l), (12, .int .i64 l.length), (13, .int .i64 i), (14, f), (24, g)] (memR h v cr es1))
          (fun q => q.1 = .exit 0 ∧ ∃ es', q.2.2 = memR h v cr es' ∧ Went CS N kn es es' (X + l.length + 1000 * ((kys es').length - (kys es).length)) l) := by
      intro ys
      induction ys with
      | nil =>
        intro i hdr hi es1 W a f g
        have hle := List.drop_eq_nil_iff.1 hdr
        have : i = l.length := by omega
        subst this
        rw [List.take_length] at W
        rw [got_loop]
        simp only [l32_0, outL, k32, Tryz.f32, regEnd_nrm (lv32 _), pu32, x32_0, a32_0, x32_1, a32_1, x32_2, a32_2, x32_3, a32_3, x32_4, a32_4, x32_5, a32_5, x32_6, a32_6, sxAll, arithA, Nat.reduceEqDiff, Env.keep, qt_eq, isAlloc, resultsA, packA, storeA, fieldA, indexA, unA, fieldAddrA, Rv.part, cellsAt, TD.isAgg, convH, convA, buildA, fillA, setCells, copies, optA, boundA, mapO, ↓Option.bind_some, ↓Option.bind_none, Nat.reduceBEq, Nat.reduceAdd, Nat.reduceMul, Nat.reduceLeDiff, Nat.reduceSub, Nat.reduceLT, Nat.reduceGT, Int.reduceBEq, Int.reduceLT, Int.reduceLE, bne, ↓reduceIte, at_end hdr]
        exact ⟨trivial, es1, rfl, W⟩
      | cons j s ih =>
        intro i hdr hi es1 W a f g
        obtain ⟨hlt, hget, hdr'⟩ := at_drop hdr
        have hlt' : i < l.length := by simpa using hlt
        have hw := wrap_succ (i := i) (by omega)
        have hj : j ∈ csOf CS kn := by rw [hcs]; exact List.mem_of_getElem? hget
        obtain ⟨hj0, hjN⟩ := hrng kn j hj
        have hix := fun H z r => idx_ints H l z r i j hget
        have htk : l.take (i + 1) = l.take i ++ [j] := by rw [List.take_add_one, hget]; rfl
        rw [got_loop]
        by_cases hm : j ∈ kys es1
        · obtain ⟨c, hc, hcm⟩ := pget_some hm
          have hcb := W.cnt _ hcm
          simp only at hcb
          have hN1 := nodup_len W.nd W.rng
          have hwc : IntKind.i64.wrap ((pget j es1).getD 0 + 1) = c + 1 := by rw [hc]; simp only [Option.getD_some]; exact wrap_id (by omega) (by omega)
          have hk2 : kys (pput j (c + 1) es1) = kys es1 := by rw [kys_pput, if_pos hm]
          have hne : ((c + 1 : Int) == 1) = false := by simp; omega
          have W2 : Went CS N kn es (pput j (c + 1) es1) (X + (i + 1) + 1000 * ((kys (pput j (c + 1) es1)).length - (kys es).length)) (l.take (i + 1)) := by
            constructor
            · rw [hk2]; exact W.pre
            · rw [hk2]; exact W.len
            · rw [hk2]; exact W.nd
            · rw [hk2]; exact W.rng
            · intro p hp
              rw [hk2]
              rcases pput_mem hp with rfl | hp
              · simp only; omega
              · have := W.cnt p hp; omega
            · rw [hk2, htk]
              intro x hx
              rcases List.mem_append.1 hx with hx | hx
              · exact W.all x hx
              · rw [List.mem_singleton.1 hx]; exact hm
            · rw [hk2]; exact W.new
          have := ih (i + 1) hdr' (by omega) _ W2
          simp only [l32_0] at this ⊢
          simp only [outL, k32, Tryz.f32, regEnd_nrm (lv32 _), pu32, x32_0, a32_0, x32_1, a32_1, x32_2, a32_2, x32_3, a32_3, x32_4, a32_4, x32_5, a32_5, x32_6, a32_6, sxAll, arithA, Nat.reduceEqDiff, Env.keep, qt_eq, isAlloc, resultsA, packA, storeA, fieldA, indexA, unA, fieldAddrA, Rv.part, cellsAt, TD.isAgg, convH, convA, buildA, fillA, setCells, copies, optA, boundA, mapO, ↓Option.bind_some, ↓Option.bind_none, Nat.reduceBEq, Nat.reduceAdd, Nat.reduceMul, Nat.reduceLeDiff, Nat.reduceSub, Nat.reduceLT, Nat.reduceGT, Int.reduceBEq, Int.reduceLT, Int.reduceLE, bne, ↓reduceIte, hlt, hix, load_ints, hw, ty69, load_ptr, memR_t2, live_of (memR_t2 h v cr _), known_map, memR_lookup, memR_update, hwc, pget_pput, hne] at this ⊢
          exact this _ _ _
        · have hc : pget j es1 = none := pget_none.2 hm
          have hwc : IntKind.i64.wrap ((pget j es1).getD 0 + 1) = 1 := by rw [hc]; rfl
          have hk2 : kys (pput j 1 es1) = kys es1 ++ [j] := by rw [kys_pput, if_neg hm]
          have hnd2 : (kys (pput j 1 es1)).Nodup := by
            rw [hk2, List.nodup_append]
            refine ⟨W.nd, by simp, fun a ha b hb => ?_⟩
            rw [List.mem_singleton.1 hb]; intro e; exact hm (e ▸ ha)
          have hr2 : ∀ x ∈ kys (pput j 1 es1), 0 ≤ x ∧ x < (N : Int) := by
            rw [hk2]; intro x hx
            rcases List.mem_append.1 hx with hx | hx
            · exact W.rng x hx
            · rw [List.mem_singleton.1 hx]; exact ⟨hj0, hjN⟩
          have hl2 : (kys (pput j 1 es1)).length = (kys es1).length + 1 := by rw [hk2]; simp
          have hN2 := nodup_len hnd2 hr2
          have hWl := W.len
          have hcnt2 : ∀ p ∈ pput j 1 es1, 1 ≤ p.2 ∧ p.2 ≤ ((X + i + 1 + 1000 * ((kys es1).length - (kys es).length) : Nat) : Int) := by
            intro p hp
            rcases pput_mem hp with rfl | hp
            · simp only; omega
            · have := W.cnt p hp; omega
          obtain ⟨es3, hcall, W3⟩ := IH (N - (kys (pput j 1 es1)).length) (by omega) (pput j 1 es1) j.toNat (X + i + 1 + 1000 * ((kys es1).length - (kys es).length)) hnd2 hr2 (Nat.le_refl _) (by omega) hcnt2 (by omega)
          rw [show ((j.toNat : Nat) : Int) = j from by omega] at hcall W3
          have hl3 := W3.len
          have W2 : Went CS N kn es es3 (X + (i + 1) + 1000 * ((kys es3).length - (kys es).length)) (l.take (i + 1)) := by
            constructor
            · intro x hx; exact W3.pre x (by rw [hk2]; exact List.mem_append_left _ (W.pre x hx))
            · omega
            · exact W3.nd
            · exact W3.rng
            · intro p hp
              have := W3.cnt p hp
              omega
            · rw [htk]
              intro x hx
              rcases List.mem_append.1 hx with hx | hx
              · exact W3.pre x (by rw [hk2]; exact List.mem_append_left _ (W.all x hx))
              · rw [List.mem_singleton.1 hx]; exact W3.pre j (by rw [hk2]; simp)
            · intro x hx
              rcases W3.new x hx with hx | ⟨h1, h2⟩
              · rw [hk2] at hx
                rcases List.mem_append.1 hx with hx | hx
                · rcases W.new x hx with h1 | ⟨h1, h2⟩
                  · exact .inl h1
                  · exact .inr ⟨h1, fun t ht => W3.pre t (by rw [hk2]; exact List.mem_append_left _ (h2 t ht))⟩
                · rw [List.mem_singleton.1 hx]
                  exact .inr ⟨.one hj, W3.all⟩
              · exact .inr ⟨.step hj h1, h2⟩
          have := ih (i + 1) hdr' (by omega) _ W2
          simp only [l32_0] at this ⊢
          simp only [outL, k32, Tryz.f32, regEnd_nrm (lv32 _), pu32, x32_0, a32_0, x32_1, a32_1, x32_2, a32_2, x32_3, a32_3, x32_4, a32_4, x32_5, a32_5, x32_6, a32_6, sxAll, arithA, Nat.reduceEqDiff, Env.keep, qt_eq, isAlloc, resultsA, packA, storeA, fieldA, indexA, unA, fieldAddrA, Rv.part, cellsAt, TD.isAgg, convH, convA, buildA, fillA, setCells, copies, optA, boundA, mapO, ↓Option.bind_some, ↓Option.bind_none, Nat.reduceBEq, Nat.reduceAdd, Nat.reduceMul, Nat.reduceLeDiff, Nat.reduceSub, Nat.reduceLT, Nat.reduceGT, Int.reduceBEq, Int.reduceLT, Int.reduceLE, bne, ↓reduceIte, hlt, hix, load_ints, hw, ty69, ty70, load_ptr, memR_t2, memR_t3, live_of (memR_t2 h v cr _), live_of (memR_t3 h v cr _), known_map, memR_lookup, memR_update, hwc, pget_pput, hcall] at this ⊢
          exact this _ _ _
    have W0 : Went CS N kn es es (X + 0 + 1000 * ((kys es).length - (kys es).length)) (l.take 0) := by
      refine ⟨fun x hx => hx, Nat.le_refl _, hnd, hr, fun p hp => ?_, fun j hj => by simp at hj, fun x hx => .inl hx⟩
      have := hcnt p hp; omega
    obtain ⟨⟨out, e', H'⟩, hx, ho, es', hh, W⟩ := L l 0 (by simp) (by omega) es W0 .junk .junk .junk
    simp only [Int.natCast_zero] at hx ho hh
    subst ho hh
    have hl' := W.len
    refine ⟨es', ?_, ?_⟩
    · have R := hR (memR h v cr es) (memR_take h v cr es)
      obtain ⟨a, g1, g2, g3⟩ := R.get kn (outL l) (by simp [hl])
      have hk := R.kn
      have hlen2 : lenA (memR h v cr es) (.slice 3) (outL l) = some l.length := by rw [outL, lenA_lst, intL_len]
      have hko : known (outL l) = some (outL l) := rfl
      rw [call32]
      simp only [k32, Tryz.f32, regEnd_nrm (lv32 _), pu32, x32_0, a32_0, x32_1, a32_1, x32_2, a32_2, x32_3, a32_3, x32_4, a32_4, x32_5, a32_5, x32_6, a32_6, sxAll, arithA, Nat.reduceEqDiff, Env.keep, qt_eq, isAlloc, resultsA, packA, storeA, fieldA, indexA, unA, fieldAddrA, Rv.part, cellsAt, TD.isAgg, convH, convA, buildA, fillA, setCells, copies, optA, boundA, mapO, ↓Option.bind_some, ↓Option.bind_none, Nat.reduceBEq, Nat.reduceAdd, Nat.reduceMul, Nat.reduceLeDiff, Nat.reduceSub, Nat.reduceLT, Nat.reduceGT, Int.reduceBEq, Int.reduceLT, Int.reduceLE, bne, ↓reduceIte, ty31, ty28, ty29, load_ref, hk, g1, g2, g3, hko, hlen2, hx]
      exact leave_impure rfl
    · rw [hcs]
      refine ⟨W.pre, W.len, W.nd, W.rng, fun p hp => ?_, W.all, W.new⟩
      have := W.cnt p hp
      omega

open Classical in
def reachOf (CS : List (List Int)) (N : Nat) (k : Int) : List Int := ((List.range N).map Int.ofNat).filter fun x => decide (Rch CS k x)
theorem reachOf_mem (CS : List (List Int)) (N : Nat) (k x : Int) (hr : ∀ k j, j ∈ csOf CS k → 0 ≤ j ∧ j < (N : Int)) : x ∈ reachOf CS N k ↔ Rch CS k x := by
  have rng : ∀ {k x}, Rch CS k x → 0 ≤ x ∧ x < (N : Int) := by
    intro k x h
    induction h with
    | one h => exact hr _ _ h
    | step _ _ ih => exact ih
  simp only [reachOf, List.mem_filter, List.mem_map, List.mem_range, decide_eq_true_eq]
  constructor
  · exact fun h => h.2
  · intro h
    have := rng h
    exact ⟨⟨x.toNat, by omega, by show ((x.toNat : Nat) : Int) = x; omega⟩, h⟩
theorem range_lt (N : Nat) : ((List.range N).map Int.ofNat).Pairwise (· < ·) := by
  rw [List.pairwise_map]
  exact List.pairwise_lt_range.imp fun h => by simpa using h
theorem reachOf_lt (CS : List (List Int)) (N : Nat) (k : Int) : (reachOf CS N k).Pairwise (· < ·) := (range_lt N).sublist List.filter_sublist
theorem isort_lt {l : List Int} (h : l.Nodup) : (isort l).Pairwise (· < ·) := by
  have h1 := isort_sorted l
  have h2 : (isort l).Nodup := (isort_perm l).nodup_iff.2 h
  rw [List.nodup_iff_pairwise_ne] at h2
  refine (h1.and h2).imp ?_
  rintro a b ⟨x, y⟩
  simp only [leI, decide_eq_true_eq] at x
  omega
theorem eq_of_lt_mem {a b : List Int} (ha : a.Pairwise (· < ·)) (hb : b.Pairwise (· < ·)) (h : ∀ x, x ∈ a ↔ x ∈ b) : a = b := by
  have na : a.Nodup := by rw [List.nodup_iff_pairwise_ne]; exact ha.imp fun h => by omega
  have nb : b.Nodup := by rw [List.nodup_iff_pairwise_ne]; exact hb.imp fun h => by omega
  have hp : a.Perm b := (List.perm_ext_iff_of_nodup na nb).2 h
  exact hp.eq_of_pairwise (le := (· < ·)) (fun x y _ _ h1 h2 => by omega) ha hb

theorem kys_reach {CS : List (List Int)} {N : Nat} {k : Int} {es : List (Int × Int)} {B : Nat} (W : Went CS N k [] es B (csOf CS k)) (x : Int) : x ∈ kys es ↔ Rch CS k x := by
  constructor
  · intro hx
    rcases W.new x hx with h | h
    · simp [kys] at h
    · exact h.1
  · intro h
    have key : ∀ {a x}, Rch CS a x → (∀ j ∈ csOf CS a, j ∈ kys es) → x ∈ kys es := by
      intro a x h
      induction h with
      | one h => exact fun H => H _ h
      | step h _ ih =>
        intro H
        refine ih fun t ht => ?_
        rcases W.new _ (H _ h) with h1 | h1
        · simp [kys] at h1
        · exact h1.2 t ht
    exact key h W.all

include hN in
theorem reach_eq (hR : ∀ H', H'.take h.length = h → Rd cfg H' 28 29 v (CS.map outL)) (hrng : ∀ k j, j ∈ csOf CS k → 0 ≤ j ∧ j < (N : Int)) (hlen : ∀ l ∈ CS, l.length ≤ 1000) (hNb : N ≤ 1000) (hcr : cr.length = 4) (kn : Nat) (hkn : kn < N) :
    call cfg 17 [.agg (v :: cr), .int .i64 kn] h = some (.ret (outL (reachOf CS N kn)), h) := by
  obtain ⟨es', hcall, W⟩ := come_runs CS N hN h v cr hR hrng hlen N [] kn 0 (by simp [kys]) (by simp [kys]) (by simp) hkn (by simp) (by omega)
  have hwf : ∀ k ∈ es'.map (·.1), (Lit.int .i64 k).wf = true := fun k hk => by
    have := W.rng k hk
    exact wf_small (by omega) (by omega)
  have hlk := nodup_len W.nd W.rng
  have hr := rising_eq (memR h v cr es') h.length es' (memR_map h v cr es') hwf (by simp [kys] at hlk; omega)
  have hks : isort (es'.map (·.1)) = reachOf CS N kn := eq_of_lt_mem (isort_lt W.nd) (reachOf_lt CS N kn) fun x => by
    rw [(isort_perm _).mem_iff, reachOf_mem CS N kn x hrng]
    exact kys_reach W x
  rw [hks] at hr
  obtain ⟨c1, c2, c3, c4, rfl⟩ : ∃ c1 c2 c3 c4, cr = [c1, c2, c3, c4] := by
    match cr, hcr with
    | [a, b, c, d], _ => exact ⟨a, b, c, d, rfl⟩
  have hm0 : memR h v [c1, c2, c3, c4] [] = h ++ [.map [], .cells [.map h.length] 0, .cells [.clo 32 [.ref [v, c1, c2, c3, c4], .ptr (h.length + 1) 0 0, .ptr (h.length + 2) 0 0]] 0] := rfl
  rw [hm0] at hcall
  have hkn : known (outL (reachOf CS N kn)) = some (outL (reachOf CS N kn)) := rfl
  rw [call17]
  simp only [k17, Tryz.f17, regEnd_nrm (lv17 _), pu17, x17_0, a17_0, im17_2, x17_1, a17_1, x17_2, a17_2, x17_3, a17_3, x17_4, a17_4, x17_5, a17_5, sxAll, arithA, Nat.reduceEqDiff, Env.keep, qt_eq, isAlloc, resultsA, packA, storeA, fieldA, indexA, unA, fieldAddrA, Rv.part, cellsAt, TD.isAgg, convH, convA, buildA, fillA, setCells, copies, optA, boundA, mapO, ↓Option.bind_some, ↓Option.bind_none, Nat.reduceBEq, Nat.reduceAdd, Nat.reduceMul, Nat.reduceLeDiff, Nat.reduceSub, Nat.reduceLT, Nat.reduceGT, Int.reduceBEq, Int.reduceLT, Int.reduceLE, bne, ↓reduceIte, ty31, ty69, ty70, load_ptr, known_map, known_nilFunc, cells_map, leaf_map, cells_clo, leaf_clo, cells_nilFunc, leaf_nilFunc, hcall, memR_t2, hr, hkn, pu31]
  exact leave_pure rfl (memR_take h v _ es') (freeze_lint _ _ 38 _ _ _)
end
end Go.Proofs.Sx

/-
  package calls: 'row': callees first.
-/
set_option linter.unusedSimpArgs false
set_option linter.unusedVariables false
set_option maxRecDepth 100000
set_option maxHeartbeats 4000000
namespace Go.Proofs.Sx
open Go.Rv Go.Proofs
attribute [local congr] bind_left got_left
noncomputable section

theorem indexI_loopR (xs : List Int) (x : Int) (v : AV) (h : Heap) (hn : xs.length < 1000000000) (R : Rd cfg h 29 3 v (intL xs)) : ∀ (ys : List Int) (i : Nat), xs.drop i = ys → i ≤ xs.length → ∀ c d t e,
    Got (exec cfg 33 (.loop l33_0) [(0, v), (1, .int .i64 x), (4, c), (5, d), (7, .int .i64 xs.length), (8, .int .i64 i), (9, t), (16, e)] h) (fun q => q.2.2 = h ∧
      ((q.1 = .exit 0 ∧ idxFrom x ys i = -1) ∨ (q.1 = .ret ∧ q.2.1.get 4 = .int .i64 (idxFrom x ys i)))) := by
  intro ys
  induction ys with
  | nil =>
    intro i hd hi c d t e
    rw [got_loop]
    simp only [l33_0, k33, Tryz.f33, regEnd_nrm (lv33 _), pu33, x33_0, a33_0, x33_1, a33_1, x33_2, a33_2, x33_3, a33_3, x33_4, a33_4, x33_5, a33_5, x33_6, a33_6, x33_7, a33_7, sxAll, arithA, Nat.reduceEqDiff, Env.keep, qt_eq, isAlloc, resultsA, packA, storeA, fieldA, indexA, unA, fieldAddrA, Rv.part, cellsAt, TD.isAgg, convH, convA, buildA, fillA, setCells, copies, optA, boundA, mapO, ↓Option.bind_some, ↓Option.bind_none, Nat.reduceBEq, Nat.reduceAdd, Nat.reduceMul, Nat.reduceLeDiff, Nat.reduceSub, Nat.reduceLT, Nat.reduceGT, Int.reduceBEq, Int.reduceLT, Int.reduceLE, bne, ↓reduceIte, at_end hd]
    exact ⟨trivial, .inl ⟨trivial, rfl⟩⟩
  | cons y r ih =>
    intro i hd hi c d t e
    obtain ⟨hlt, hget, hd'⟩ := at_drop hd
    obtain ⟨a, h1, h2, h3⟩ := R.get i (.int .i64 y) (by simp [intL, hget])
    have hw := wrap_succ (i := i) (by omega)
    have hk := R.kn
    rw [got_loop]
    by_cases he : x = y
    · subst he
      simp only [l33_0, k33, Tryz.f33, regEnd_nrm (lv33 _), pu33, x33_0, a33_0, x33_1, a33_1, x33_2, a33_2, x33_3, a33_3, x33_4, a33_4, x33_5, a33_5, x33_6, a33_6, x33_7, a33_7, sxAll, arithA, Nat.reduceEqDiff, Env.keep, qt_eq, isAlloc, resultsA, packA, storeA, fieldA, indexA, unA, fieldAddrA, Rv.part, cellsAt, TD.isAgg, convH, convA, buildA, fillA, setCells, copies, optA, boundA, mapO, ↓Option.bind_some, ↓Option.bind_none, Nat.reduceBEq, Nat.reduceAdd, Nat.reduceMul, Nat.reduceLeDiff, Nat.reduceSub, Nat.reduceLT, Nat.reduceGT, Int.reduceBEq, Int.reduceLT, Int.reduceLE, bne, ↓reduceIte, hlt, hk, h1, h2, h3]
      exact ⟨trivial, .inr ⟨trivial, by simp [Env.get_cons, idxFrom]⟩⟩
    · have hne : (x == y) = false := by simp [he]
      have := ih (i + 1) hd' (by simp at hlt; omega)
      simp only [l33_0] at this ⊢
      simp only [k33, Tryz.f33, regEnd_nrm (lv33 _), pu33, x33_0, a33_0, x33_1, a33_1, x33_2, a33_2, x33_3, a33_3, x33_4, a33_4, x33_5, a33_5, x33_6, a33_6, x33_7, a33_7, sxAll, arithA, Nat.reduceEqDiff, Env.keep, qt_eq, isAlloc, resultsA, packA, storeA, fieldA, indexA, unA, fieldAddrA, Rv.part, cellsAt, TD.isAgg, convH, convA, buildA, fillA, setCells, copies, optA, boundA, mapO, ↓Option.bind_some, ↓Option.bind_none, Nat.reduceBEq, Nat.reduceAdd, Nat.reduceMul, Nat.reduceLeDiff, Nat.reduceSub, Nat.reduceLT, Nat.reduceGT, Int.reduceBEq, Int.reduceLT, Int.reduceLE, bne, ↓reduceIte, hlt, hk, h1, h2, h3, hne, hw, idxFrom, if_neg he] at this ⊢
      exact this _ _ _ _
theorem containsI_eqR (xs : List Int) (x : Int) (v : AV) (h : Heap) (hn : xs.length < 1000000000) (R : Rd cfg h 29 3 v (intL xs)) : call cfg 18 [v, .int .i64 x] h = some (.ret (.bool (decide (x ∈ xs))), h) := by
  have hi : call cfg 33 [v, .int .i64 x] h = some (.ret (.int .i64 (idxFrom x xs 0)), h) := by
    obtain ⟨⟨o, e', h'⟩, hx, hh, hq⟩ := indexI_loopR xs x v h hn R xs 0 (by simp) (by omega) (.int .i64 0) .junk .junk .junk
    simp only [Int.natCast_zero] at hx hh hq
    subst hh
    have hk := R.kn
    have hlen := R.len
    rw [intL_len] at hlen
    rw [call33]
    rcases hq with ⟨rfl, h1⟩ | ⟨rfl, h1⟩
    · simp only [k33, Tryz.f33, regEnd_nrm (lv33 _), pu33, x33_0, a33_0, x33_1, a33_1, x33_2, a33_2, x33_3, a33_3, x33_4, a33_4, x33_5, a33_5, x33_6, a33_6, x33_7, a33_7, sxAll, arithA, Nat.reduceEqDiff, Env.keep, qt_eq, isAlloc, resultsA, packA, storeA, fieldA, indexA, unA, fieldAddrA, Rv.part, cellsAt, TD.isAgg, convH, convA, buildA, fillA, setCells, copies, optA, boundA, mapO, ↓Option.bind_some, ↓Option.bind_none, Nat.reduceBEq, Nat.reduceAdd, Nat.reduceMul, Nat.reduceLeDiff, Nat.reduceSub, Nat.reduceLT, Nat.reduceGT, Int.reduceBEq, Int.reduceLT, Int.reduceLE, bne, ↓reduceIte, ty29, hk, hlen, hx, h1]
      exact leave_kept rfl rfl
    · simp only [k33, Tryz.f33, regEnd_nrm (lv33 _), pu33, x33_0, a33_0, x33_1, a33_1, x33_2, a33_2, x33_3, a33_3, x33_4, a33_4, x33_5, a33_5, x33_6, a33_6, x33_7, a33_7, sxAll, arithA, Nat.reduceEqDiff, Env.keep, qt_eq, isAlloc, resultsA, packA, storeA, fieldA, indexA, unA, fieldAddrA, Rv.part, cellsAt, TD.isAgg, convH, convA, buildA, fillA, setCells, copies, optA, boundA, mapO, ↓Option.bind_some, ↓Option.bind_none, Nat.reduceBEq, Nat.reduceAdd, Nat.reduceMul, Nat.reduceLeDiff, Nat.reduceSub, Nat.reduceLT, Nat.reduceGT, Int.reduceBEq, Int.reduceLT, Int.reduceLE, bne, ↓reduceIte, ty29, hk, hlen, hx, h1]
      exact leave_kept rfl rfl
  rw [call18]
  simp only [k18, Tryz.f18, regEnd_nrm (lv18 _), pu18, x18_0, a18_0, x18_1, a18_1, sxAll, arithA, Nat.reduceEqDiff, Env.keep, qt_eq, isAlloc, resultsA, packA, storeA, fieldA, indexA, unA, fieldAddrA, Rv.part, cellsAt, TD.isAgg, convH, convA, buildA, fillA, setCells, copies, optA, boundA, mapO, ↓Option.bind_some, ↓Option.bind_none, Nat.reduceBEq, Nat.reduceAdd, Nat.reduceMul, Nat.reduceLeDiff, Nat.reduceSub, Nat.reduceLT, Nat.reduceGT, Int.reduceBEq, Int.reduceLT, Int.reduceLE, bne, ↓reduceIte, R.kn, hi, pu33, idxFrom_has]
  exact leave_kept rfl rfl

/-- A cell of the call's own that holds a slice that it builds. -/
structure OutC (h H : Heap) (vo : AV) (out : List Int) : Prop where
  cell : H.obj h.length 0 = some [vo]
  b : Built H vo (intL out) 1
  own : ∀ o, objOf vo = some o → h.length < o
  old : H.take h.length = h
theorem OutC.le {h H : Heap} {vo : AV} {out : List Int} (O : OutC h H vo out) : h.length < H.length := obj_some O.cell
theorem OutC.rd {h H : Heap} {vo : AV} {out : List Int} (O : OutC h H vo out) : Rd cfg H 29 3 vo (intL out) := rd_built ty29 rfl ty3 rfl rfl O.b (plain_ints _)
theorem OutC.push {h H : Heap} {vo : AV} {out : List Int} (O : OutC h H vo out) (x : Int) (hl : out.length < 1000000) :
    ∃ v' H', appendA H 1 vo [.int .i64 x] = some (v', H') ∧ known v' = some v' ∧ v'.cells = [v'] ∧ v'.leaf = true ∧ H'.obj h.length 0 = some [vo] ∧ OutC h (H'.set h.length (.cells [v'] 0)) v' (out ++ [x]) := by
  obtain ⟨v', H', h1, h2, h4, h5, h6⟩ := append_built (ys := [AV.int .i64 x]) O.b (plain_ints out).size (fun y hy => (plain_ints [x]).leafs y hy) (by omega) (by simp [intL, mostLen]; omega)
  have hlt := O.le
  have hk : ∀ o, o < H.length → objOf vo ≠ some o → H'[o]? = H[o]? := h5
  have hcell : H'.obj h.length 0 = some [vo] := obj_keep O.cell (h5 _ hlt fun hc => by have := O.own _ hc; omega)
  have hlt' := obj_some hcell
  have hown : ∀ o, objOf v' = some o → h.length < o := fun o ho => by
    rcases h6 with h6 | h6
    · exact O.own o (h6 ▸ ho)
    · rw [h6] at ho; simp only [Option.some.injEq] at ho; omega
  refine ⟨v', H', h1, known_built h2, built_cells h2, built_leaf h2, hcell, ⟨by simp [Heap.obj, List.getElem?_set_self hlt'], ?_, hown, ?_⟩⟩
  · have : intL (out ++ [x]) = intL out ++ [AV.int .i64 x] := by simp [intL]
    rw [this]
    exact h2.other fun o ho => by rw [List.getElem?_set_ne]; have := hown o ho; omega
  · rw [List.take_set_of_le (Nat.le_refl _), ← O.old]
    apply List.ext_getElem?
    intro i
    by_cases hi : i < h.length
    · rw [O.old, List.getElem?_take_of_lt hi, h5 i (by omega) (fun hc => by have := O.own _ hc; omega)]
      have := congrArg (·[i]?) O.old
      simp only [List.getElem?_take_of_lt hi] at this
      exact this
    · rw [O.old, List.getElem?_eq_none (by simp; omega), List.getElem?_eq_none (by omega)]

theorem lv36 (r : Nat) : cfg.live 36 r = some [0, 1, 3] := rfl
theorem ok36 : okB cfg0 36 Tryz.f36 (Tryz.f36.body.getD .skip) = true := by kernel_rfl
theorem pu36 : cfg.pure 36 = true := rfl
instance tight36 {d : Option Nat} : TightD cfg 36 d := ⟨fun _ _ => rfl⟩
def a36_0 : Array Oper := codeOps (codeAt [false] (Tryz.f36.body.getD .skip))
def b36_0 : Array Oper := a36_0
def r36_0 : Code := .region 0 a36_0 false
theorem x36_0 (e : Env) (h : Heap) : exec cfg 36 r36_0 e h = (ops cfg 36 b36_0 (a36_0.toList) e h).bind (regEnd cfg 36 0 false) := region_at _ _ _ _ _ _ _
def a36_1 : Array Oper := codeOps (codeAt [true, false] (Tryz.f36.body.getD .skip))
def b36_1 : Array Oper := a36_1
def r36_1 : Code := .region 1 a36_1 false
theorem x36_1 (e : Env) (h : Heap) : exec cfg 36 r36_1 e h = (ops cfg 36 b36_1 (a36_1.toList) e h).bind (regEnd cfg 36 1 false) := region_at _ _ _ _ _ _ _
def k36 : Code := (.seq r36_0 (.seq r36_1 .ret))
theorem body36 : Tryz.f36.body = some k36 := by kernel_rfl
theorem call36 (x0 x1 : AV) (h : Heap) : call cfg 36 [x0, x1] h = (exec cfg 36 k36 [(0, x0), (1, x1)] h).bind (callEnd cfg 36 h [.tmp 3]) := call_at2 (fnat Tryz.func36 body36 (by rw [← ok36]; kernel_rfl)) rfl rfl
theorem lv21 (r : Nat) : cfg.live 21 r = some [0, 1, 2, 3, 4, 5, 11, 13, 14, 15, 16, 29] := rfl
theorem ok21 : okB cfg0 21 Tryz.f21 (Tryz.f21.body.getD .skip) = true := by kernel_rfl
theorem pu21 : cfg.pure 21 = true := rfl
instance tight21 {d : Option Nat} : TightD cfg 21 d := ⟨fun _ _ => rfl⟩
def a21_0 : Array Oper := codeOps (codeAt [false] (Tryz.f21.body.getD .skip))
def b21_0 : Array Oper := a21_0
def r21_0 : Code := .region 0 a21_0 false
theorem im21_1 : cfg.imm 21 1 = true := by kernel_rfl
theorem x21_0 (e : Env) (h : Heap) : exec cfg 21 r21_0 e h = (ops cfg 21 b21_0 (a21_0.toList) e h).bind (regEnd cfg 21 0 false) := region_at _ _ _ _ _ _ _
def a21_1 : Array Oper := codeOps (codeAt [true, false] (Tryz.f21.body.getD .skip))
def b21_1 : Array Oper := a21_1
def r21_1 : Code := .region 1 a21_1 false
theorem x21_1 (e : Env) (h : Heap) : exec cfg 21 r21_1 e h = (ops cfg 21 b21_1 (a21_1.toList) e h).bind (regEnd cfg 21 1 false) := region_at _ _ _ _ _ _ _
def a21_2 : Array Oper := codeOps (codeAt [true, true, false, false, false, false, false] (Tryz.f21.body.getD .skip))
def b21_2 : Array Oper := a21_2
def r21_2 : Code := .region 2 a21_2 false
theorem x21_2 (e : Env) (h : Heap) : exec cfg 21 r21_2 e h = (ops cfg 21 b21_2 (a21_2.toList) e h).bind (regEnd cfg 21 2 false) := region_at _ _ _ _ _ _ _
def a21_3 : Array Oper := codeOps (codeAt [true, true, false, false, false, true, false, false] (Tryz.f21.body.getD .skip))
def b21_3 : Array Oper := a21_3
def r21_3 : Code := .region 3 a21_3 false
theorem x21_3 (e : Env) (h : Heap) : exec cfg 21 r21_3 e h = (ops cfg 21 b21_3 (a21_3.toList) e h).bind (regEnd cfg 21 3 false) := region_at _ _ _ _ _ _ _
def a21_4 : Array Oper := codeOps (codeAt [true, true, false, false, false, true, false, true, false, false, false] (Tryz.f21.body.getD .skip))
def b21_4 : Array Oper := a21_4
def r21_4 : Code := .region 4 a21_4 false
theorem x21_4 (e : Env) (h : Heap) : exec cfg 21 r21_4 e h = (ops cfg 21 b21_4 (a21_4.toList) e h).bind (regEnd cfg 21 4 false) := region_at _ _ _ _ _ _ _
def a21_5 : Array Oper := codeOps (codeAt [true, true, false, false, false, true, false, true, false, false, true, true, false, false, false] (Tryz.f21.body.getD .skip))
def b21_5 : Array Oper := a21_5
def r21_5 : Code := .region 5 a21_5 false
theorem x21_5 (e : Env) (h : Heap) : exec cfg 21 r21_5 e h = (ops cfg 21 b21_5 (a21_5.toList) e h).bind (regEnd cfg 21 5 false) := region_at _ _ _ _ _ _ _
def a21_6 : Array Oper := codeOps (codeAt [true, true, false, false, false, true, false, true, false, false, true, true, false, false, true, false] (Tryz.f21.body.getD .skip))
def b21_6 : Array Oper := a21_6
def r21_6 : Code := .region 6 a21_6 false
theorem x21_6 (e : Env) (h : Heap) : exec cfg 21 r21_6 e h = (ops cfg 21 b21_6 (a21_6.toList) e h).bind (regEnd cfg 21 6 false) := region_at _ _ _ _ _ _ _
theorem g21_6_4 : (b21_6[4]?).bind (·.dst) = some 24 := by kernel_rfl
def a21_7 : Array Oper := codeOps (codeAt [true, true, false, false, false, true, false, true, false, false, true, true, false, false, true, true, false, false] (Tryz.f21.body.getD .skip))
def b21_7 : Array Oper := a21_7
def r21_7 : Code := .region 7 a21_7 false
theorem im21_32 : cfg.imm 21 32 = true := by kernel_rfl
theorem x21_7 (e : Env) (h : Heap) : exec cfg 21 r21_7 e h = (ops cfg 21 b21_7 (a21_7.toList) e h).bind (regEnd cfg 21 7 false) := region_at _ _ _ _ _ _ _
def a21_8 : Array Oper := codeOps (codeAt [true, true, false, false, false, true, false, true, false, false, true, true, true] (Tryz.f21.body.getD .skip))
def b21_8 : Array Oper := a21_8
def r21_8 : Code := .region 8 a21_8 false
theorem x21_8 (e : Env) (h : Heap) : exec cfg 21 r21_8 e h = (ops cfg 21 b21_8 (a21_8.toList) e h).bind (regEnd cfg 21 8 false) := region_at _ _ _ _ _ _ _
def a21_9 : Array Oper := codeOps (codeAt [true, true, true, false] (Tryz.f21.body.getD .skip))
def b21_9 : Array Oper := a21_9
def r21_9 : Code := .region 9 a21_9 false
theorem x21_9 (e : Env) (h : Heap) : exec cfg 21 r21_9 e h = (ops cfg 21 b21_9 (a21_9.toList) e h).bind (regEnd cfg 21 9 false) := region_at _ _ _ _ _ _ _
def l21_1 : Code := (.seq r21_4 (.seq (.cond (.tmp 16) .skip (.exit 2)) (.seq (.block 3 (.seq r21_5 (.seq r21_6 (.cond (.tmp 29) (.seq r21_7 (.exit 2)) .skip)))) r21_8)))
def l21_0 : Code := (.seq (.seq r21_2 (.cond (.tmp 11) .skip (.exit 0))) (.block 1 (.seq r21_3 (.block 2 (.loop l21_1)))))
def k21 : Code := (.seq r21_0 (.seq r21_1 (.seq (.block 0 (.loop l21_0)) (.seq r21_9 .ret))))
theorem body21 : Tryz.f21.body = some k21 := by kernel_rfl
theorem call21 (x0 : AV) (h : Heap) : call cfg 21 [x0] h = (exec cfg 21 k21 [(0, x0)] h).bind (callEnd cfg 21 h [.tmp 2]) := call_at2 (fnat Tryz.func21 body21 (by rw [← ok21]; kernel_rfl)) rfl rfl
theorem rowx_eq (h H : Heap) (vo : AV) (out : List Int) (O : OutC h H vo out) (hl : out.length < 1000000) (k : Int) : call cfg 36 [.int .i64 k, .ptr h.length 0 0] H = some (.ret (.bool (!decide (k ∈ out))), H) := by
  have hc := containsI_eqR out k vo H (by omega) O.rd
  have hk := O.rd.kn
  rw [call36]
  simp only [k36, Tryz.f36, regEnd_nrm (lv36 _), pu36, x36_0, a36_0, x36_1, a36_1, sxAll, arithA, Nat.reduceEqDiff, Env.keep, qt_eq, isAlloc, resultsA, packA, storeA, fieldA, indexA, unA, fieldAddrA, Rv.part, cellsAt, TD.isAgg, convH, convA, buildA, fillA, setCells, copies, optA, boundA, mapO, ↓Option.bind_some, ↓Option.bind_none, Nat.reduceBEq, Nat.reduceAdd, Nat.reduceMul, Nat.reduceLeDiff, Nat.reduceSub, Nat.reduceLT, Nat.reduceGT, Int.reduceBEq, Int.reduceLT, Int.reduceLE, bne, ↓reduceIte, load_ptr, ty29, O.cell, hk, hc, pu18]
  exact leave_kept rfl rfl

/-- May a number come next? -/
def ready (CS : List (List Int)) (out : List Int) (n : Nat) : Bool := !decide ((n : Int) ∈ out) && !((csOf CS n).any fun k => !decide (k ∈ out))
def pickN (CS : List (List Int)) (out : List Int) : List Nat → Option Nat
  | [] => none
  | n :: r => if ready CS out n then some n else pickN CS out r

def rowGo (CS : List (List Int)) (N : Nat) : Nat → List Int → List Int
  | 0, out => out
  | d + 1, out => match pickN CS out (List.range N) with
    | some n => rowGo CS N d (out ++ [(n : Int)])
    | none => out
/-- A list of numbers that was built by append. -/
def inL (l : List Int) : AV := if l = [] then .lst [] 0 .nil else .lst (intL l) 1 .open

section
variable (CS : List (List Int)) (N : Nat) (hN : CS.length = N) (h : Heap) (v : AV) (cr : List AV)
include hN
theorem row_inner (hR : ∀ H', H'.take h.length = h → Rd cfg H' 28 29 v (CS.map outL)) (hNb : N ≤ 1000) (hlen : ∀ l ∈ CS, l.length ≤ 1000) (H : Heap) (vo : AV) (out : List Int) (O : OutC h H vo out) (hout : out.length < N) :
    ∀ (ys : List Nat) (i : Nat), (List.range N).drop i = ys → i ≤ N → ∀ a b t4 t5 t11 t16 t29,
      Got (exec cfg 21 (.loop l21_1) [(0, a), (1, .ref (v :: cr)), (2, b), (3, .ptr h.length 0 0), (4, t4), (5, t5), (11, t11), (13, v), (14, .int .i64 N), (15, .int .i64 i), (16, t16), (29, t29)] H)
        (fun q => q.1 = .exit 2 ∧ (∃ t4 t5 t11 t15 t16 t29, q.2.1 = [(0, a), (1, .ref (v :: cr)), (2, b), (3, .ptr h.length 0 0), (4, t4), (5, t5), (11, t11), (13, v), (14, .int .i64 N), (15, t15), (16, t16), (29, t29)]) ∧ match pickN CS out ys with
          | some n => ∃ v', OutC h q.2.2 v' (out ++ [(n : Int)])
          | none => q.2.2 = H) := by
  intro ys
  induction ys with
  | nil =>
    intro i hd hi a b t4 t5 t11 t16 t29
    have := List.drop_eq_nil_iff.1 hd
    have hlt : (i < N) = False := by simp at this; simp; omega
    rw [got_loop]
    simp only [l21_1, k21, Tryz.f21, regEnd_nrm (lv21 _), pu21, x21_0, a21_0, im21_1, x21_1, a21_1, x21_2, a21_2, x21_3, a21_3, x21_4, a21_4, x21_5, a21_5, x21_6, a21_6, sx_guardO g21_6_4, x21_7, a21_7, im21_32, x21_8, a21_8, x21_9, a21_9, sxAll, arithA, Nat.reduceEqDiff, Env.keep, qt_eq, isAlloc, resultsA, packA, storeA, fieldA, indexA, unA, fieldAddrA, Rv.part, cellsAt, TD.isAgg, convH, convA, buildA, fillA, setCells, copies, optA, boundA, mapO, ↓Option.bind_some, ↓Option.bind_none, Nat.reduceBEq, Nat.reduceAdd, Nat.reduceMul, Nat.reduceLeDiff, Nat.reduceSub, Nat.reduceLT, Nat.reduceGT, Int.reduceBEq, Int.reduceLT, Int.reduceLE, bne, ↓reduceIte, hlt]
    exact ⟨trivial, ⟨_, _, _, _, _, _, rfl⟩, by first | rfl | trivial⟩
  | cons n r ih =>
    intro i hd hi a b t4 t5 t11 t16 t29
    obtain ⟨hlt0, hget, hd'⟩ := at_drop hd
    rw [List.length_range] at hlt0
    have hlt' : i < N := by simpa using hlt0
    have hn : n = i := by
      rw [List.getElem?_range hlt'] at hget
      exact (Option.some.inj hget).symm
    subst hn
    have hw := wrap_succ (i := n) (by omega)
    obtain ⟨l, hl⟩ : ∃ l, CS[n]? = some l := ⟨_, List.getElem?_eq_getElem (by omega)⟩
    have hcs : csOf CS (n : Int) = l := by simp [csOf, hl]
    have R := hR H O.old
    obtain ⟨ad, g1, g2, g3⟩ := R.get n (outL l) (by simp [hl])
    have hko : known (outL l) = some (outL l) := rfl
    have hkv := R.kn
    have hkvo := O.rd.kn
    have hcell := O.cell
    have hci := containsI_eqR out n vo H (by omega) O.rd
    have hcf : call cfg 35 [outL l, .clo 36 [.ptr h.length 0 0]] H = some (.ret (.bool (l.any fun k => !decide (k ∈ out))), H) :=
      containsFI_eq l id (fun k => !decide (k ∈ out)) 36 [.ptr h.length 0 0] 1 _ H (by have := hlen l (List.mem_of_getElem? hl); omega) (fun _ _ => trivial) (fun k _ => rowx_eq h H vo out O (by omega) k)
    rw [got_loop]
    cases hm : decide ((n : Int) ∈ out) with
    | true =>
      have hpick : pickN CS out (n :: r) = pickN CS out r := by simp [pickN, ready, hm]
      rw [hpick]
      rw [hm] at hci
      have := ih (n + 1) hd' (by omega)
      simp only [l21_1] at this ⊢
      simp only [k21, Tryz.f21, regEnd_nrm (lv21 _), pu21, x21_0, a21_0, im21_1, x21_1, a21_1, x21_2, a21_2, x21_3, a21_3, x21_4, a21_4, x21_5, a21_5, x21_6, a21_6, sx_guardO g21_6_4, x21_7, a21_7, im21_32, x21_8, a21_8, x21_9, a21_9, sxAll, arithA, Nat.reduceEqDiff, Env.keep, qt_eq, isAlloc, resultsA, packA, storeA, fieldA, indexA, unA, fieldAddrA, Rv.part, cellsAt, TD.isAgg, convH, convA, buildA, fillA, setCells, copies, optA, boundA, mapO, ↓Option.bind_some, ↓Option.bind_none, Nat.reduceBEq, Nat.reduceAdd, Nat.reduceMul, Nat.reduceLeDiff, Nat.reduceSub, Nat.reduceLT, Nat.reduceGT, Int.reduceBEq, Int.reduceLT, Int.reduceLE, bne, ↓reduceIte, hlt0, hkv, g1, g2, g3, hko, load_ptr, ty29, hcell, hkvo, hci, pu18, hw] at this ⊢
      exact this _ _ _ _ _ _ _
    | false =>
      rw [hm] at hci
      cases hany : l.any (fun k => !decide (k ∈ out)) with
      | true =>
        have hpick : pickN CS out (n :: r) = pickN CS out r := by simp only [pickN, ready, hm, hcs, hany]; rfl
        rw [hpick]
        rw [hany] at hcf
        have := ih (n + 1) hd' (by omega)
        simp only [l21_1] at this ⊢
        simp only [k21, Tryz.f21, regEnd_nrm (lv21 _), pu21, x21_0, a21_0, im21_1, x21_1, a21_1, x21_2, a21_2, x21_3, a21_3, x21_4, a21_4, x21_5, a21_5, x21_6, a21_6, sx_guardO g21_6_4, x21_7, a21_7, im21_32, x21_8, a21_8, x21_9, a21_9, sxAll, arithA, Nat.reduceEqDiff, Env.keep, qt_eq, isAlloc, resultsA, packA, storeA, fieldA, indexA, unA, fieldAddrA, Rv.part, cellsAt, TD.isAgg, convH, convA, buildA, fillA, setCells, copies, optA, boundA, mapO, ↓Option.bind_some, ↓Option.bind_none, Nat.reduceBEq, Nat.reduceAdd, Nat.reduceMul, Nat.reduceLeDiff, Nat.reduceSub, Nat.reduceLT, Nat.reduceGT, Int.reduceBEq, Int.reduceLT, Int.reduceLE, bne, ↓reduceIte, hlt0, hkv, g1, g2, g3, hko, load_ptr, ty29, hcell, hkvo, hci, pu18, hcf, pu35, hw] at this ⊢
        exact this _ _ _ _ _ _ _
      | false =>
        have hpick : pickN CS out (n :: r) = some n := by simp only [pickN, ready, hm, hcs, hany]; rfl
        rw [hpick]
        rw [hany] at hcf
        obtain ⟨v', H', ha, p1, p2, p3, p4, p5⟩ := O.push n (by omega)
        simp only [l21_1, k21, Tryz.f21, regEnd_nrm (lv21 _), pu21, x21_0, a21_0, im21_1, x21_1, a21_1, x21_2, a21_2, x21_3, a21_3, x21_4, a21_4, x21_5, a21_5, x21_6, a21_6, sx_guardO g21_6_4, x21_7, a21_7, im21_32, x21_8, a21_8, x21_9, a21_9, sxAll, arithA, Nat.reduceEqDiff, Env.keep, qt_eq, isAlloc, resultsA, packA, storeA, fieldA, indexA, unA, fieldAddrA, Rv.part, cellsAt, TD.isAgg, convH, convA, buildA, fillA, setCells, copies, optA, boundA, mapO, ↓Option.bind_some, ↓Option.bind_none, Nat.reduceBEq, Nat.reduceAdd, Nat.reduceMul, Nat.reduceLeDiff, Nat.reduceSub, Nat.reduceLT, Nat.reduceGT, Int.reduceBEq, Int.reduceLT, Int.reduceLE, bne, ↓reduceIte, hlt0, hkv, g1, g2, g3, hko, load_ptr, ty29, ty3, hcell, hkvo, hci, pu18, hcf, pu35, elems, group, ha, p1, p2, p3, p4]
        exact ⟨trivial, ⟨_, _, _, _, _, _, rfl⟩, v', p5⟩

theorem row_outer (hR : ∀ H', H'.take h.length = h → Rd cfg H' 28 29 v (CS.map outL)) (hNb : N ≤ 1000) (hlen : ∀ l ∈ CS, l.length ≤ 1000) (Good : List Int → Prop)
    (hp : ∀ out, Good out → out.length < N → ∃ n, pickN CS out (List.range N) = some n ∧ Good (out ++ [(n : Int)])) : ∀ (d : Nat) (H : Heap) (vo : AV) (out : List Int), OutC h H vo out → out.length + d = N → Good out → ∀ a b t4 t5 t11 t13 t14 t15 t16 t29,
      Got (exec cfg 21 (.loop l21_0) [(0, a), (1, .ref (v :: cr)), (2, b), (3, .ptr h.length 0 0), (4, t4), (5, t5), (11, t11), (13, t13), (14, t14), (15, t15), (16, t16), (29, t29)] H)
        (fun q => q.1 = .exit 0 ∧ q.2.1.get 3 = .ptr h.length 0 0 ∧ ∃ v', OutC h q.2.2 v' (rowGo CS N d out)) := by
  intro d
  induction d with
  | zero =>
    intro H vo out O hd hg a b t4 t5 t11 t13 t14 t15 t16 t29
    have R := hR H O.old
    have hl1 := O.rd.len
    rw [intL_len] at hl1
    have hl2 := R.len
    rw [List.length_map, hN] at hl2
    have hlt : (out.length < N) = False := by simp; omega
    rw [got_loop]
    simp only [l21_0, k21, Tryz.f21, regEnd_nrm (lv21 _), pu21, x21_0, a21_0, im21_1, x21_1, a21_1, x21_2, a21_2, x21_3, a21_3, x21_4, a21_4, x21_5, a21_5, x21_6, a21_6, sx_guardO g21_6_4, x21_7, a21_7, im21_32, x21_8, a21_8, x21_9, a21_9, sxAll, arithA, Nat.reduceEqDiff, Env.keep, qt_eq, isAlloc, resultsA, packA, storeA, fieldA, indexA, unA, fieldAddrA, Rv.part, cellsAt, TD.isAgg, convH, convA, buildA, fillA, setCells, copies, optA, boundA, mapO, ↓Option.bind_some, ↓Option.bind_none, Nat.reduceBEq, Nat.reduceAdd, Nat.reduceMul, Nat.reduceLeDiff, Nat.reduceSub, Nat.reduceLT, Nat.reduceGT, Int.reduceBEq, Int.reduceLT, Int.reduceLE, bne, ↓reduceIte, load_ptr, load_ref, ty29, ty31, ty28, O.cell, O.rd.kn, hl1, R.kn, hl2, hlt]
    exact ⟨trivial, trivial, vo, O⟩
  | succ d ih =>
    intro H vo out O hd hg a b t4 t5 t11 t13 t14 t15 t16 t29
    have R := hR H O.old
    have hl1 := O.rd.len
    rw [intL_len] at hl1
    have hl2 := R.len
    rw [List.length_map, hN] at hl2
    have hlt : (out.length < N) = True := by simp; omega
    obtain ⟨n, hpick, hgood⟩ := hp out hg (by omega)
    obtain ⟨⟨o, e', H'⟩, hx, ho, ⟨u4, u5, u11, u15, u16, u29, he⟩, pm⟩ := row_inner CS N hN h v cr hR hNb hlen H vo out O (by omega) (List.range N) 0 (by simp) (by omega) a b t4 t5 (.bool true) t16 t29
    simp only [Int.natCast_zero, hpick] at hx ho he pm
    subst ho he
    obtain ⟨v', O'⟩ := pm
    have := ih H' v' (out ++ [(n : Int)]) O' (by simp; omega) hgood
    have hrg : rowGo CS N (d + 1) out = rowGo CS N d (out ++ [(n : Int)]) := by simp only [rowGo, hpick]
    rw [hrg, got_loop]
    simp only [l21_0] at this ⊢
    simp only [k21, Tryz.f21, regEnd_nrm (lv21 _), pu21, x21_0, a21_0, im21_1, x21_1, a21_1, x21_2, a21_2, x21_3, a21_3, x21_4, a21_4, x21_5, a21_5, x21_6, a21_6, sx_guardO g21_6_4, x21_7, a21_7, im21_32, x21_8, a21_8, x21_9, a21_9, sxAll, arithA, Nat.reduceEqDiff, Env.keep, qt_eq, isAlloc, resultsA, packA, storeA, fieldA, indexA, unA, fieldAddrA, Rv.part, cellsAt, TD.isAgg, convH, convA, buildA, fillA, setCells, copies, optA, boundA, mapO, ↓Option.bind_some, ↓Option.bind_none, Nat.reduceBEq, Nat.reduceAdd, Nat.reduceMul, Nat.reduceLeDiff, Nat.reduceSub, Nat.reduceLT, Nat.reduceGT, Int.reduceBEq, Int.reduceLT, Int.reduceLE, bne, ↓reduceIte, load_ptr, load_ref, ty29, ty31, ty28, O.cell, O.rd.kn, hl1, R.kn, hl2, hlt, hx] at this ⊢
    exact this _ _ _ _ _ _ _ _ _ _

theorem row_eq (hR : ∀ H', H'.take h.length = h → Rd cfg H' 28 29 v (CS.map outL)) (hNb : N ≤ 1000) (hlen : ∀ l ∈ CS, l.length ≤ 1000) (hcr : cr.length = 4) (Good : List Int → Prop) (hg0 : Good [])
    (hp : ∀ out, Good out → out.length < N → ∃ n, pickN CS out (List.range N) = some n ∧ Good (out ++ [(n : Int)])) :
    ∃ z r, call cfg 21 [.agg (v :: cr)] h = some (.ret (.lst (intL (rowGo CS N N [])) z r), h) := by
  obtain ⟨c1, c2, c3, c4, rfl⟩ : ∃ c1 c2 c3 c4, cr = [c1, c2, c3, c4] := by
    match cr, hcr with
    | [a, b, c, d], _ => exact ⟨a, b, c, d, rfl⟩
  have O0 : OutC h (h ++ [.cells [.lst [] 0 .nil] 0]) (.lst [] 0 .nil) [] := ⟨by simp [Heap.obj], .inl ⟨rfl, rfl⟩, fun o ho => (by cases ho), by simp⟩
  obtain ⟨⟨o, e', H'⟩, hx, ho, h3, v', O⟩ := row_outer CS N hN h v [c1, c2, c3, c4] hR hNb hlen Good hp N _ _ [] O0 (by simp) hg0 (.agg [v, c1, c2, c3, c4]) (.lst [] 0 .nil) .junk .junk .junk .junk .junk .junk .junk .junk
  simp only at hx ho h3 O
  subst ho
  have key : call cfg 21 [.agg [v, c1, c2, c3, c4]] h = leaveA cfg 21 h v' H' := by
    rw [call21]
    simp only [k21, Tryz.f21, regEnd_nrm (lv21 _), pu21, x21_0, a21_0, im21_1, x21_1, a21_1, x21_2, a21_2, x21_3, a21_3, x21_4, a21_4, x21_5, a21_5, x21_6, a21_6, sx_guardO g21_6_4, x21_7, a21_7, im21_32, x21_8, a21_8, x21_9, a21_9, sxAll, arithA, Nat.reduceEqDiff, Env.keep, qt_eq, isAlloc, resultsA, packA, storeA, fieldA, indexA, unA, fieldAddrA, Rv.part, cellsAt, TD.isAgg, convH, convA, buildA, fillA, setCells, copies, optA, boundA, mapO, ↓Option.bind_some, ↓Option.bind_none, Nat.reduceBEq, Nat.reduceAdd, Nat.reduceMul, Nat.reduceLeDiff, Nat.reduceSub, Nat.reduceLT, Nat.reduceGT, Int.reduceBEq, Int.reduceLT, Int.reduceLE, bne, ↓reduceIte, ty31, ty29, hx, h3, load_ptr, O.cell, O.rd.kn]
  have Ow : Own h.length h H' v' (intL (rowGo CS N N [])) := ⟨O.b, fun o ho => Nat.le_of_lt (O.own o ho), Nat.le_of_lt O.le, by rw [O.old]; simp⟩
  rw [key]
  rcases Ow.leave (plain_ints _) (C := cfg) (f := 21) rfl with ⟨h1, h2⟩ | h2
  · rw [h2]
    have : intL (rowGo CS N N []) = [] := h1
    rw [this]; exact ⟨_, _, rfl⟩
  · exact ⟨_, _, h2⟩
end
end
end Go.Proofs.Sx

/-
  package calls: 'turned'.
-/
set_option linter.unusedSimpArgs false
set_option linter.unusedVariables false
set_option maxRecDepth 100000
set_option maxHeartbeats 4000000
namespace Go.Proofs.Sx
open Go.Rv Go.Proofs
attribute [local congr] bind_left got_left
noncomputable section

/-- An object of the call's own that holds slices, each built by itself. -/
structure LL (h H : Heap) (cells : List AV) (ls : List (List Int)) : Prop where
  cell : H.obj h.length 0 = some cells
  len : cells.length = ls.length
  each : ∀ (k : Nat) v xs, cells[k]? = some v → ls[k]? = some xs → Built H v (intL xs) 1
  own : ∀ (k : Nat) v o, cells[k]? = some v → objOf v = some o → h.length < o
  sep : ∀ (k k' : Nat) v v' o, cells[k]? = some v → cells[k']? = some v' → objOf v = some o → objOf v' = some o → k = k'
  old : H.take h.length = h
theorem LL.le {h H : Heap} {cells : List AV} {ls : List (List Int)} (O : LL h H cells ls) : h.length < H.length := obj_some O.cell

theorem LL.push {h H : Heap} {cells : List AV} {ls : List (List Int)} (O : LL h H cells ls) {k : Nat} {v : AV} {xs : List Int} (hv : cells[k]? = some v) (hx : ls[k]? = some xs) (x : Int) (hl : xs.length < 1000000) :
    ∃ v' H', appendA H 1 v [.int .i64 x] = some (v', H') ∧ known v' = some v' ∧ v'.cells = [v'] ∧ v'.leaf = true ∧ H'.obj h.length 0 = some cells ∧ LL h (H'.set h.length (.cells (cells.set k v') 0)) (cells.set k v') (ls.set k (xs ++ [x])) := by
  have B := O.each k v xs hv hx
  obtain ⟨v', H', h1, h2, h4, h5, h6⟩ := append_built (ys := [AV.int .i64 x]) B (plain_ints xs).size (fun y hy => (plain_ints [x]).leafs y hy) (by omega) (by simp [intL, mostLen]; omega)
  have hlt := O.le
  have hkl : k < cells.length := (List.getElem?_eq_some_iff.1 hv).1
  have hcell : H'.obj h.length 0 = some cells := obj_keep O.cell (h5 _ hlt fun hc => by have := O.own k v _ hv hc; omega)
  have hlt' := obj_some hcell
  have hownv : ∀ o, objOf v' = some o → h.length < o := fun o ho => by
    rcases h6 with h6 | h6
    · exact O.own k v o hv (h6 ▸ ho)
    · rw [h6] at ho; simp only [Option.some.injEq] at ho; omega
  -- other cells' objects are older, and not the one that was written
  have hother : ∀ (j : Nat) w o, j ≠ k → cells[j]? = some w → objOf w = some o → o < H.length ∧ objOf v ≠ some o ∧ objOf v' ≠ some o := by
    intro j w o hj hw ho
    have hjl : j < ls.length := by rw [← O.len]; exact (List.getElem?_eq_some_iff.1 hw).1
    have hlo := built_lt (O.each j w _ hw (List.getElem?_eq_getElem hjl)) ho
    have hne : objOf v ≠ some o := fun hc => hj (O.sep j k w v o hw hv ho hc)
    refine ⟨hlo, hne, fun hc => ?_⟩
    rcases h6 with h6 | h6
    · exact hne (h6 ▸ hc)
    · rw [h6] at hc; simp only [Option.some.injEq] at hc; omega
  refine ⟨v', H', h1, known_built h2, built_cells h2, built_leaf h2, hcell, ⟨by simp [Heap.obj, List.getElem?_set_self hlt'], by simp [O.len], ?_, ?_, ?_, ?_⟩⟩
  · intro j w ys hw hys
    by_cases hj : j = k
    · subst hj
      rw [List.getElem?_set_self hkl] at hw
      rw [List.getElem?_set_self (by rw [← O.len]; exact hkl)] at hys
      injection hw with hw; injection hys with hys
      subst hw hys
      rw [show intL (xs ++ [x]) = intL xs ++ [AV.int .i64 x] by simp [intL]]
      exact h2.other fun o ho => by rw [List.getElem?_set_ne]; have := hownv o ho; omega
    · rw [List.getElem?_set_ne (Ne.symm hj)] at hw hys
      refine (O.each j w ys hw hys).other fun o ho => ?_
      obtain ⟨q1, q2, _⟩ := hother j w o hj hw ho
      rw [List.getElem?_set_ne (by have := O.own j w o hw ho; omega), h5 o q1 q2]
  · intro j w o hw ho
    by_cases hj : j = k
    · subst hj
      rw [List.getElem?_set_self hkl] at hw
      injection hw with hw; subst hw
      exact hownv o ho
    · rw [List.getElem?_set_ne (Ne.symm hj)] at hw
      exact O.own j w o hw ho
  · intro j j' w w' o hw hw' ho ho'
    by_cases hj : j = k
    · by_cases hj' : j' = k
      · omega
      · subst hj
        rw [List.getElem?_set_self hkl] at hw
        rw [List.getElem?_set_ne (Ne.symm hj')] at hw'
        injection hw with hw; subst hw
        exact absurd ho (hother j' w' o hj' hw' ho').2.2
    · rw [List.getElem?_set_ne (Ne.symm hj)] at hw
      by_cases hj' : j' = k
      · subst hj'
        rw [List.getElem?_set_self hkl] at hw'
        injection hw' with hw'; subst hw'
        exact absurd ho' (hother j w o hj hw ho).2.2
      · rw [List.getElem?_set_ne (Ne.symm hj')] at hw'
        exact O.sep j j' w w' o hw hw' ho ho'
  · rw [List.take_set_of_le (Nat.le_refl _), ← O.old]
    apply List.ext_getElem?
    intro i
    by_cases hi : i < h.length
    · rw [O.old, List.getElem?_take_of_lt hi, h5 i (by omega) (fun hc => by have := O.own k v _ hv hc; omega)]
      have := congrArg (·[i]?) O.old
      simp only [List.getElem?_take_of_lt hi] at this
      exact this
    · rw [O.old, List.getElem?_eq_none (by simp; omega), List.getElem?_eq_none (by omega)]

/-- n is put behind the lists of some numbers. -/
def addTo (ls : List (List Int)) (n : Int) : List Int → List (List Int)
  | [] => ls
  | k :: r => addTo (ls.set k.toNat (ls.getD k.toNat [] ++ [n])) n r
def turnGo : List (List Int) → Nat → List (List Int) → List (List Int)
  | [], _, ls => ls
  | x :: r, i, ls => turnGo r (i + 1) (addTo ls i x)
def turnedL (CS : List (List Int)) : List (List Int) := turnGo CS 0 (List.replicate CS.length [])
theorem addTo_len (n : Int) : ∀ (x : List Int) (ls : List (List Int)), (addTo ls n x).length = ls.length
  | [], ls => rfl
  | k :: r, ls => by rw [addTo, addTo_len n r]; simp

theorem lv16 (r : Nat) : cfg.live 16 r = some [0, 2, 3, 4, 5, 7, 11, 12, 13, 14, 18, 19, 20, 21] := rfl
theorem ok16 : okB cfg0 16 Tryz.f16 (Tryz.f16.body.getD .skip) = true := by kernel_rfl
theorem pu16 : cfg.pure 16 = false := rfl
instance tight16 {d : Option Nat} : TightD cfg 16 d := ⟨fun _ _ => rfl⟩
def a16_0 : Array Oper := codeOps (codeAt [false] (Tryz.f16.body.getD .skip))
def b16_0 : Array Oper := a16_0
def r16_0 : Code := .region 0 a16_0 false
theorem x16_0 (e : Env) (h : Heap) : exec cfg 16 r16_0 e h = (ops cfg 16 b16_0 (a16_0.toList) e h).bind (regEnd cfg 16 0 false) := region_at _ _ _ _ _ _ _
def a16_1 : Array Oper := codeOps (codeAt [true, false] (Tryz.f16.body.getD .skip))
def b16_1 : Array Oper := a16_1
def r16_1 : Code := .region 1 a16_1 false
theorem x16_1 (e : Env) (h : Heap) : exec cfg 16 r16_1 e h = (ops cfg 16 b16_1 (a16_1.toList) e h).bind (regEnd cfg 16 1 false) := region_at _ _ _ _ _ _ _
def a16_2 : Array Oper := codeOps (codeAt [true, true, false, false] (Tryz.f16.body.getD .skip))
def b16_2 : Array Oper := a16_2
def r16_2 : Code := .region 2 a16_2 false
theorem x16_2 (e : Env) (h : Heap) : exec cfg 16 r16_2 e h = (ops cfg 16 b16_2 (a16_2.toList) e h).bind (regEnd cfg 16 2 false) := region_at _ _ _ _ _ _ _
def a16_3 : Array Oper := codeOps (codeAt [true, true, false, true, false, false, false] (Tryz.f16.body.getD .skip))
def b16_3 : Array Oper := a16_3
def r16_3 : Code := .region 3 a16_3 false
theorem x16_3 (e : Env) (h : Heap) : exec cfg 16 r16_3 e h = (ops cfg 16 b16_3 (a16_3.toList) e h).bind (regEnd cfg 16 3 false) := region_at _ _ _ _ _ _ _
def a16_4 : Array Oper := codeOps (codeAt [true, true, false, true, false, false, true, true, false, false, false] (Tryz.f16.body.getD .skip))
def b16_4 : Array Oper := a16_4
def r16_4 : Code := .region 4 a16_4 false
theorem x16_4 (e : Env) (h : Heap) : exec cfg 16 r16_4 e h = (ops cfg 16 b16_4 (a16_4.toList) e h).bind (regEnd cfg 16 4 false) := region_at _ _ _ _ _ _ _
def a16_5 : Array Oper := codeOps (codeAt [true, true, false, true, false, false, true, true, false, false, true, false] (Tryz.f16.body.getD .skip))
def b16_5 : Array Oper := a16_5
def r16_5 : Code := .region 5 a16_5 false
theorem x16_5 (e : Env) (h : Heap) : exec cfg 16 r16_5 e h = (ops cfg 16 b16_5 (a16_5.toList) e h).bind (regEnd cfg 16 5 false) := region_at _ _ _ _ _ _ _
def a16_6 : Array Oper := codeOps (codeAt [true, true, false, true, false, false, true, true, false, false, true, true, false, false, false] (Tryz.f16.body.getD .skip))
def b16_6 : Array Oper := a16_6
def r16_6 : Code := .region 6 a16_6 false
theorem x16_6 (e : Env) (h : Heap) : exec cfg 16 r16_6 e h = (ops cfg 16 b16_6 (a16_6.toList) e h).bind (regEnd cfg 16 6 false) := region_at _ _ _ _ _ _ _
def a16_7 : Array Oper := codeOps (codeAt [true, true, false, true, false, false, true, true, false, false, true, true, false, false, true, true, false, false, false] (Tryz.f16.body.getD .skip))
def b16_7 : Array Oper := a16_7
def r16_7 : Code := .region 7 a16_7 false
theorem x16_7 (e : Env) (h : Heap) : exec cfg 16 r16_7 e h = (ops cfg 16 b16_7 (a16_7.toList) e h).bind (regEnd cfg 16 7 false) := region_at _ _ _ _ _ _ _
def a16_8 : Array Oper := codeOps (codeAt [true, true, false, true, false, false, true, true, false, false, true, true, false, false, true, true, false, false, true] (Tryz.f16.body.getD .skip))
def b16_8 : Array Oper := a16_8
def r16_8 : Code := .region 8 a16_8 false
theorem im16_31 : cfg.imm 16 31 = true := by kernel_rfl
theorem x16_8 (e : Env) (h : Heap) : exec cfg 16 r16_8 e h = (ops cfg 16 b16_8 (a16_8.toList) e h).bind (regEnd cfg 16 8 false) := region_at _ _ _ _ _ _ _
def a16_9 : Array Oper := codeOps (codeAt [true, true, false, true, false, false, true, true, false, false, true, true, false, false, true, true, true] (Tryz.f16.body.getD .skip))
def b16_9 : Array Oper := a16_9
def r16_9 : Code := .region 9 a16_9 false
theorem x16_9 (e : Env) (h : Heap) : exec cfg 16 r16_9 e h = (ops cfg 16 b16_9 (a16_9.toList) e h).bind (regEnd cfg 16 9 false) := region_at _ _ _ _ _ _ _
def a16_10 : Array Oper := codeOps (codeAt [true, true, false, true, false, false, true, true, true] (Tryz.f16.body.getD .skip))
def b16_10 : Array Oper := a16_10
def r16_10 : Code := .region 10 a16_10 false
theorem x16_10 (e : Env) (h : Heap) : exec cfg 16 r16_10 e h = (ops cfg 16 b16_10 (a16_10.toList) e h).bind (regEnd cfg 16 10 false) := region_at _ _ _ _ _ _ _
def a16_11 : Array Oper := codeOps (codeAt [true, true, true, false] (Tryz.f16.body.getD .skip))
def b16_11 : Array Oper := a16_11
def r16_11 : Code := .region 11 a16_11 false
theorem x16_11 (e : Env) (h : Heap) : exec cfg 16 r16_11 e h = (ops cfg 16 b16_11 (a16_11.toList) e h).bind (regEnd cfg 16 11 false) := region_at _ _ _ _ _ _ _
def l16_1 : Code := (.seq r16_6 (.seq (.cond (.tmp 21) .skip (.exit 2)) (.seq (.block 3 (.seq r16_7 r16_8)) r16_9)))
def l16_0 : Code := (.seq r16_3 (.seq (.cond (.tmp 14) .skip (.exit 0)) (.seq (.block 1 (.seq r16_4 (.seq r16_5 (.block 2 (.loop l16_1))))) r16_10)))
def k16 : Code := (.seq r16_0 (.seq r16_1 (.seq (.seq r16_2 (.block 0 (.loop l16_0))) (.seq r16_11 .ret))))
theorem body16 : Tryz.f16.body = some k16 := by kernel_rfl
theorem call16 (x0 : AV) (h : Heap) : call cfg 16 [x0] h = (exec cfg 16 k16 [(0, x0)] h).bind (callEnd cfg 16 h [.tmp 2]) := call_at2 (fnat Tryz.func16 body16 (by rw [← ok16]; kernel_rfl)) rfl rfl
section
variable (CS : List (List Int)) (N : Nat) (hN : CS.length = N) (h : Heap) (v : AV)
theorem turned_inner (hNb : N ≤ 1000) (n : Nat) (xs : List Int) (hxs : xs.length ≤ 1000) (hrng : ∀ j ∈ xs, 0 ≤ j ∧ j < (N : Int)) (z : Nat) (r : Room) (B : Nat) (hB : B ≤ 400000) :
    ∀ (ys : List Int) (i : Nat), xs.drop i = ys → i ≤ xs.length → ∀ H cells ls, LL h H cells ls → ls.length = N → (∀ l ∈ ls, l.length ≤ B + i) → ∀ a b t5 t7 t11 t12 t13 t14 t21,
      Got (exec cfg 16 (.loop l16_1) [(0, a), (2, b), (3, .msl h.length 0 N 1 0 (some N)), (4, .int .i64 n), (5, t5), (7, t7), (11, t11), (12, t12), (13, t13), (14, t14), (18, .lst (intL xs) z r), (19, .int .i64 xs.length), (20, .int .i64 i), (21, t21)] H)
        (fun q => q.1 = .exit 2 ∧ (∃ t7 t20 t21, q.2.1 = [(0, a), (2, b), (3, .msl h.length 0 N 1 0 (some N)), (4, .int .i64 n), (5, t5), (7, t7), (11, t11), (12, t12), (13, t13), (14, t14), (18, .lst (intL xs) z r), (19, .int .i64 xs.length), (20, t20), (21, t21)]) ∧
          ∃ cells', LL h q.2.2 cells' (addTo ls n ys) ∧ ∀ l ∈ addTo ls n ys, l.length ≤ B + xs.length) := by
  intro ys
  induction ys with
  | nil =>
    intro i hd hi H cells ls O hls hbd a b t5 t7 t11 t12 t13 t14 t21
    have hle := List.drop_eq_nil_iff.1 hd
    rw [got_loop]
    simp only [l16_1, k16, Tryz.f16, regEnd_nrm (lv16 _), pu16, x16_0, a16_0, x16_1, a16_1, x16_2, a16_2, x16_3, a16_3, x16_4, a16_4, x16_5, a16_5, x16_6, a16_6, x16_7, a16_7, x16_8, a16_8, im16_31, x16_9, a16_9, x16_10, a16_10, x16_11, a16_11, sxAll, arithA, Nat.reduceEqDiff, Env.keep, qt_eq, isAlloc, resultsA, packA, storeA, fieldA, indexA, unA, fieldAddrA, Rv.part, cellsAt, TD.isAgg, convH, convA, buildA, fillA, setCells, copies, optA, boundA, mapO, ↓Option.bind_some, ↓Option.bind_none, Nat.reduceBEq, Nat.reduceAdd, Nat.reduceMul, Nat.reduceLeDiff, Nat.reduceSub, Nat.reduceLT, Nat.reduceGT, Int.reduceBEq, Int.reduceLT, Int.reduceLE, bne, ↓reduceIte, at_end hd]
    exact ⟨trivial, ⟨_, _, _, rfl⟩, cells, O, fun l hl => by have := hbd l hl; omega⟩
  | cons k s ih =>
    intro i hd hi H cells ls O hls hbd a b t5 t7 t11 t12 t13 t14 t21
    obtain ⟨hlt, hget, hd'⟩ := at_drop hd
    have hlt' : i < xs.length := by simpa using hlt
    obtain ⟨hk0, hkN⟩ := hrng k (List.mem_of_getElem? hget)
    have hw := wrap_succ (i := i) (by omega)
    have hxi : (intL xs)[i]? = some (.int .i64 k) := by simp [intL, hget]
    obtain ⟨l, hl⟩ : ∃ l, ls[k.toNat]? = some l := ⟨_, List.getElem?_eq_getElem (by omega)⟩
    obtain ⟨vk, hvk⟩ : ∃ vk, cells[k.toNat]? = some vk := ⟨_, List.getElem?_eq_getElem (by rw [O.len]; omega)⟩
    have hll := hbd l (List.mem_of_getElem? hl)
    have hkvk := known_built (O.each _ _ _ hvk hl)
    obtain ⟨v', H', ha, p1, p2, p3, p4, O'⟩ := O.push hvk hl (n : Int) (by omega)
    have hls' : ls.getD k.toNat [] = l := by simp [hl]
    have hneg : (k < 0) = False := by simp; omega
    have hkl : (k.toNat < N) = True := by simp; omega
    have hkc : (k.toNat + 1 ≤ cells.length) = True := by rw [O.len]; simp; omega
    have hlive := live_of O.cell
    have hlive' := live_of p4
    have hadd : addTo ls n (k :: s) = addTo (ls.set k.toNat (l ++ [(n : Int)])) n s := by rw [addTo, hls']
    have := ih (i + 1) hd' (by omega) _ _ _ O' (by simp [hls]) (fun l' hl' => by
      rcases List.mem_or_eq_of_mem_set hl' with h1 | h1
      · have := hbd l' h1; omega
      · subst h1; simp; omega)
    rw [hadd, got_loop]
    simp only [l16_1] at this ⊢
    simp only [k16, Tryz.f16, regEnd_nrm (lv16 _), pu16, x16_0, a16_0, x16_1, a16_1, x16_2, a16_2, x16_3, a16_3, x16_4, a16_4, x16_5, a16_5, x16_6, a16_6, x16_7, a16_7, x16_8, a16_8, im16_31, x16_9, a16_9, x16_10, a16_10, x16_11, a16_11, sxAll, arithA, Nat.reduceEqDiff, Env.keep, qt_eq, isAlloc, resultsA, packA, storeA, indexAddrA, fieldA, indexA, unA, fieldAddrA, loadA, Rv.part, cellsAt, TD.isAgg, convH, convA, buildA, fillA, setCells, copies, lenA, optA, boundA, mapO, ↓Option.bind_some, ↓Option.bind_none, Nat.reduceBEq, Nat.reduceAdd, Nat.reduceMul, Nat.reduceLeDiff, Nat.reduceSub, Nat.reduceLT, Nat.reduceGT, Int.reduceBEq, Int.reduceLT, Int.reduceLE, bne, ↓reduceIte, hlt, hxi, hw, ty28, ty29, ty3, hneg, hkl, hlive, hlive', O.cell, p4, Nat.mul_one, Nat.zero_add, head_drop hvk, hkvk, elems, group, ha, p1, p2, p3, hkc] at this ⊢
    exact this _ _ _ _ _ _ _ _ _

include hN in
theorem turned_outer (hR : ∀ H', H'.take h.length = h → Rd cfg H' 28 29 v (CS.map outL)) (hNb : N ≤ 300) (hrng : ∀ l ∈ CS, ∀ j ∈ l, 0 ≤ j ∧ j < (N : Int)) (hlen : ∀ l ∈ CS, l.length ≤ 1000) :
    ∀ (ys : List (List Int)) (i : Nat), CS.drop i = ys → i ≤ CS.length → ∀ H cells ls, LL h H cells ls → ls.length = N → (∀ l ∈ ls, l.length ≤ 1000 * i) → ∀ a b t4 t5 t7 t14 t18 t19 t20 t21,
      Got (exec cfg 16 (.loop l16_0) [(0, a), (2, b), (3, .msl h.length 0 N 1 0 (some N)), (4, t4), (5, t5), (7, t7), (11, v), (12, .int .i64 N), (13, .int .i64 i), (14, t14), (18, t18), (19, t19), (20, t20), (21, t21)] H)
        (fun q => q.1 = .exit 0 ∧ q.2.1.get 3 = .msl h.length 0 N 1 0 (some N) ∧ ∃ cells', LL h q.2.2 cells' (turnGo ys i ls)) := by
  intro ys
  induction ys with
  | nil =>
    intro i hd hi H cells ls O hls hbd a b t4 t5 t7 t14 t18 t19 t20 t21
    have hlt := at_end hd
    rw [hN] at hlt
    rw [got_loop]
    simp only [l16_0, k16, Tryz.f16, regEnd_nrm (lv16 _), pu16, x16_0, a16_0, x16_1, a16_1, x16_2, a16_2, x16_3, a16_3, x16_4, a16_4, x16_5, a16_5, x16_6, a16_6, x16_7, a16_7, x16_8, a16_8, im16_31, x16_9, a16_9, x16_10, a16_10, x16_11, a16_11, sxAll, arithA, Nat.reduceEqDiff, Env.keep, qt_eq, isAlloc, resultsA, packA, storeA, fieldA, indexA, unA, fieldAddrA, Rv.part, cellsAt, TD.isAgg, convH, convA, buildA, fillA, setCells, copies, optA, boundA, mapO, ↓Option.bind_some, ↓Option.bind_none, Nat.reduceBEq, Nat.reduceAdd, Nat.reduceMul, Nat.reduceLeDiff, Nat.reduceSub, Nat.reduceLT, Nat.reduceGT, Int.reduceBEq, Int.reduceLT, Int.reduceLE, bne, ↓reduceIte, hlt]
    exact ⟨trivial, trivial, cells, O⟩
  | cons x s ih =>
    intro i hd hi H cells ls O hls hbd a b t4 t5 t7 t14 t18 t19 t20 t21
    obtain ⟨hlt, hget, hd'⟩ := at_drop hd
    rw [hN] at hlt
    have hlt' : i < N := by simpa using hlt
    have hw := wrap_succ (i := i) (by omega)
    have R := hR H O.old
    obtain ⟨ad, g1, g2, g3⟩ := R.get i (outL x) (by simp [hget])
    have hkv := R.kn
    have hxm := List.mem_of_getElem? hget
    have hxl := hlen x hxm
    obtain ⟨⟨o, e', H'⟩, hx, ho, ⟨u7, u20, u21, he⟩, cells', O', hbd'⟩ := turned_inner N h (by omega) i x hxl (hrng x hxm) 1 (if x = [] then .nil else .open) (1000 * i) (by omega) x 0 (by simp) (by omega) H cells ls O hls (fun l hl => by have := hbd l hl; omega) a b (outL x) t7 v (.int .i64 N) (.int .i64 i) (.bool true) t21
    simp only [Int.natCast_zero] at hx ho he O' hbd'
    subst ho he
    have hko : known (outL x) = some (outL x) := rfl
    have := ih (i + 1) hd' (by omega) H' cells' (addTo ls i x) O' (by rw [addTo_len]; exact hls) (fun l hl => by have := hbd' l hl; omega)
    rw [got_loop]
    simp only [outL] at hx g3 hko this ⊢
    simp only [turnGo, l16_0] at this ⊢
    simp only [k16, Tryz.f16, regEnd_nrm (lv16 _), pu16, x16_0, a16_0, x16_1, a16_1, x16_2, a16_2, x16_3, a16_3, x16_4, a16_4, x16_5, a16_5, x16_6, a16_6, x16_7, a16_7, x16_8, a16_8, im16_31, x16_9, a16_9, x16_10, a16_10, x16_11, a16_11, sxAll, arithA, Nat.reduceEqDiff, Env.keep, qt_eq, isAlloc, resultsA, packA, storeA, fieldA, indexA, unA, fieldAddrA, Rv.part, cellsAt, TD.isAgg, convH, convA, buildA, fillA, setCells, copies, optA, boundA, mapO, ↓Option.bind_some, ↓Option.bind_none, Nat.reduceBEq, Nat.reduceAdd, Nat.reduceMul, Nat.reduceLeDiff, Nat.reduceSub, Nat.reduceLT, Nat.reduceGT, Int.reduceBEq, Int.reduceLT, Int.reduceLE, bne, ↓reduceIte, hlt, hkv, g1, g2, g3, hko, lenA_lst, intL_len, ty29, hx, hw] at this ⊢
    exact this _ _ _ _ _ _ _ _ _ _

theorem copies_rep (z : AV) : ∀ n, copies n [z] = List.replicate n z
  | 0 => rfl
  | n + 1 => by rw [copies, copies_rep z n, List.replicate_succ]; rfl
include hN in
theorem turned_eq (hR : ∀ H', H'.take h.length = h → Rd cfg H' 28 29 v (CS.map outL)) (hNb : N ≤ 300) (hrng : ∀ l ∈ CS, ∀ j ∈ l, 0 ≤ j ∧ j < (N : Int)) (hlen : ∀ l ∈ CS, l.length ≤ 1000) :
    ∃ H' cells, call cfg 16 [v] h = some (.ret (.msl h.length 0 N 1 0 (some N)), H') ∧ LL h H' cells (turnedL CS) := by
  have O0 : LL h (h ++ [.cells (copies N [.lst [] 0 .nil]) 0]) (copies N [.lst [] 0 .nil]) (List.replicate N []) := by
    have hv : ∀ (k : Nat) w, (List.replicate N (AV.lst [] 0 .nil))[k]? = some w → w = .lst [] 0 .nil := fun k w hw => by
      have := List.mem_of_getElem? hw
      exact (List.mem_replicate.1 this).2
    rw [copies_rep]
    refine ⟨by simp [Heap.obj], by simp, ?_, ?_, ?_, by simp⟩
    · intro k w xs hw hxs
      have := List.mem_of_getElem? hxs
      rw [(List.mem_replicate.1 this).2, hv k w hw]
      exact .inl ⟨rfl, rfl⟩
    · intro k w o hw ho; rw [hv k w hw] at ho; cases ho
    · intro k k' w w' o hw _ ho _; rw [hv k w hw] at ho; cases ho
  obtain ⟨⟨o, e', H'⟩, hx, ho, h3, cells', O⟩ := turned_outer CS N hN h v hR hNb hrng hlen CS 0 (by simp) (by omega) _ _ _ O0 (by simp) (fun l hl => by rw [(List.mem_replicate.1 hl).2]; simp) v (.lst [] 0 .nil) .junk .junk .junk .junk .junk .junk .junk .junk
  simp only [Int.natCast_zero] at hx ho h3 O
  subst ho
  have R := hR h (by simp)
  have hl := R.len
  rw [List.length_map, hN] at hl
  have hkv := R.kn
  have hms : makeSliceA cfg h 28 (.int .i64 N) (.int .i64 N) = some (.msl h.length 0 N 1 0 (some N), h ++ [.cells (copies N [.lst [] 0 .nil]) 0]) := by
    have h1 : (N : Int) ≤ mostLen := by simp [mostLen]; omega
    simp [makeSliceA, ty28, ty29, h1]
  have R' := hR (h ++ [.cells (copies N [.lst [] 0 .nil]) 0]) (by simp)
  have hl' := R'.len
  rw [List.length_map, hN] at hl'
  refine ⟨H', cells', ?_, by rw [turnedL, hN]; exact O⟩
  rw [call16]
  simp only [k16, Tryz.f16, regEnd_nrm (lv16 _), pu16, x16_0, a16_0, x16_1, a16_1, x16_2, a16_2, x16_3, a16_3, x16_4, a16_4, x16_5, a16_5, x16_6, a16_6, x16_7, a16_7, x16_8, a16_8, im16_31, x16_9, a16_9, x16_10, a16_10, x16_11, a16_11, sxAll, arithA, Nat.reduceEqDiff, Env.keep, qt_eq, isAlloc, resultsA, packA, storeA, fieldA, indexA, unA, fieldAddrA, Rv.part, cellsAt, TD.isAgg, convH, convA, buildA, fillA, setCells, copies, optA, boundA, mapO, ↓Option.bind_some, ↓Option.bind_none, Nat.reduceBEq, Nat.reduceAdd, Nat.reduceMul, Nat.reduceLeDiff, Nat.reduceSub, Nat.reduceLT, Nat.reduceGT, Int.reduceBEq, Int.reduceLT, Int.reduceLE, bne, ↓reduceIte, hkv, hl, hl', hms, ty28, hx, h3]
  exact leave_impure rfl
end
end
end Go.Proofs.Sx
