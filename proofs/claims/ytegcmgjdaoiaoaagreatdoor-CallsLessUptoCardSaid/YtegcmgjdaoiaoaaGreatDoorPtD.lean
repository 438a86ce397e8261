/-
  slices.IndexFunc, ContainsFunc at several types; slices.Equal at []int: what their calls answer.
-/
import Derived.Test.YtegcmgjdaoiaoaaGreatDoorPtC
set_option linter.unusedSectionVars false
set_option linter.unusedSimpArgs false
set_option linter.unusedVariables false
set_option linter.defProp false
set_option linter.unusedSimpArgs false
set_option linter.unusedVariables false
set_option maxRecDepth 100000
namespace Go.Proofs.Sx
open Go.Rv Go.Proofs
attribute [local congr] bind_left got_left guardK_left
noncomputable section

def idxP {α : Type} (p : α → Bool) : List α → Nat → Int
  | [], _ => -1
  | y :: r, i => if p y then i else idxP p r (i + 1)
theorem idxP_any {α : Type} (p : α → Bool) : ∀ (l : List α) (i : Nat), (decide (idxP p l i ≥ 0)) = l.any p
  | [], i => by simp [idxP]
  | y :: r, i => by
    unfold idxP
    cases hp : p y
    · simp only [Bool.false_eq_true, if_false, List.any_cons, hp, Bool.false_or]
      exact idxP_any p r (i + 1)
    · simp [List.any_cons, hp]

theorem drop_map {α β : Type} {f : α → β} {xs ys : List α} {i : Nat} (h : xs.drop i = ys) : (xs.map f).drop i = ys.map f := by rw [← List.map_drop, h]

theorem lv34 (r : Nat) : cfg.live 34 r = some [0, 1, 4, 5, 7, 8, 9, 16] := rfl
theorem ok34 : okB cfg0 34 Tryz.f34 (Tryz.f34.body.getD .skip) = true := by kernel_rfl
theorem pu34 : cfg.pure 34 = true := rfl
instance tight34 {d : Option Nat} : TightD cfg 34 d := ⟨fun _ _ => rfl⟩
def a34_0 : Array Oper := codeOps (codeAt [false] (Tryz.f34.body.getD .skip))
def b34_0 : Array Oper := a34_0
def r34_0 : Code := .region 0 a34_0 false
theorem x34_0 (e : Env) (h : Heap) : exec cfg 34 r34_0 e h = (ops cfg 34 b34_0 (a34_0.toList) e h).bind (regEnd cfg 34 0 false) := region_at _ _ _ _ _ _ _
def a34_1 : Array Oper := codeOps (codeAt [true, false, false] (Tryz.f34.body.getD .skip))
def b34_1 : Array Oper := a34_1
def r34_1 : Code := .region 1 a34_1 false
theorem x34_1 (e : Env) (h : Heap) : exec cfg 34 r34_1 e h = (ops cfg 34 b34_1 (a34_1.toList) e h).bind (regEnd cfg 34 1 false) := region_at _ _ _ _ _ _ _
def a34_2 : Array Oper := codeOps (codeAt [true, false, true, false, false, false] (Tryz.f34.body.getD .skip))
def b34_2 : Array Oper := a34_2
def r34_2 : Code := .region 2 a34_2 false
theorem x34_2 (e : Env) (h : Heap) : exec cfg 34 r34_2 e h = (ops cfg 34 b34_2 (a34_2.toList) e h).bind (regEnd cfg 34 2 false) := region_at _ _ _ _ _ _ _
def a34_3 : Array Oper := codeOps (codeAt [true, false, true, false, false, true, true, false, false, false] (Tryz.f34.body.getD .skip))
def b34_3 : Array Oper := a34_3
def r34_3 : Code := .region 3 a34_3 false
theorem x34_3 (e : Env) (h : Heap) : exec cfg 34 r34_3 e h = (ops cfg 34 b34_3 (a34_3.toList) e h).bind (regEnd cfg 34 3 false) := region_at _ _ _ _ _ _ _
def a34_4 : Array Oper := codeOps (codeAt [true, false, true, false, false, true, true, false, false, true, false] (Tryz.f34.body.getD .skip))
def b34_4 : Array Oper := a34_4
def r34_4 : Code := .region 4 a34_4 false
theorem x34_4 (e : Env) (h : Heap) : exec cfg 34 r34_4 e h = (ops cfg 34 b34_4 (a34_4.toList) e h).bind (regEnd cfg 34 4 false) := region_at _ _ _ _ _ _ _
def a34_5 : Array Oper := codeOps (codeAt [true, false, true, false, false, true, true, false, false, true, true, false, false] (Tryz.f34.body.getD .skip))
def b34_5 : Array Oper := a34_5
def r34_5 : Code := .region 5 a34_5 false
theorem x34_5 (e : Env) (h : Heap) : exec cfg 34 r34_5 e h = (ops cfg 34 b34_5 (a34_5.toList) e h).bind (regEnd cfg 34 5 false) := region_at _ _ _ _ _ _ _
def a34_6 : Array Oper := codeOps (codeAt [true, false, true, false, false, true, true, true] (Tryz.f34.body.getD .skip))
def b34_6 : Array Oper := a34_6
def r34_6 : Code := .region 6 a34_6 false
theorem x34_6 (e : Env) (h : Heap) : exec cfg 34 r34_6 e h = (ops cfg 34 b34_6 (a34_6.toList) e h).bind (regEnd cfg 34 6 false) := region_at _ _ _ _ _ _ _
def a34_7 : Array Oper := codeOps (codeAt [true, true, false] (Tryz.f34.body.getD .skip))
def b34_7 : Array Oper := a34_7
def r34_7 : Code := .region 7 a34_7 false
theorem x34_7 (e : Env) (h : Heap) : exec cfg 34 r34_7 e h = (ops cfg 34 b34_7 (a34_7.toList) e h).bind (regEnd cfg 34 7 false) := region_at _ _ _ _ _ _ _
def l34_0 : Code := (.seq r34_2 (.seq (.cond (.tmp 9) .skip (.exit 0)) (.seq (.block 1 (.seq r34_3 (.seq r34_4 (.cond (.tmp 16) (.seq r34_5 .ret) .skip)))) r34_6)))
def k34 : Code := (.seq r34_0 (.seq (.seq r34_1 (.block 0 (.loop l34_0))) (.seq r34_7 .ret)))
theorem body34 : Tryz.f34.body = some k34 := by kernel_rfl
theorem call34 (x0 x1 : AV) (h : Heap) : call cfg 34 [x0, x1] h = (exec cfg 34 k34 [(0, x0), (1, x1)] h).bind (callEnd cfg 34 h [.tmp 4]) := call_at2 (fnat Tryz.func34 body34 (by rw [← ok34]; kernel_rfl)) rfl rfl
theorem lv35 (r : Nat) : cfg.live 35 r = some [0, 1, 4] := rfl
theorem ok35 : okB cfg0 35 Tryz.f35 (Tryz.f35.body.getD .skip) = true := by kernel_rfl
theorem pu35 : cfg.pure 35 = true := rfl
instance tight35 {d : Option Nat} : TightD cfg 35 d := ⟨fun _ _ => rfl⟩
def a35_0 : Array Oper := codeOps (codeAt [false] (Tryz.f35.body.getD .skip))
def b35_0 : Array Oper := a35_0
def r35_0 : Code := .region 0 a35_0 false
theorem x35_0 (e : Env) (h : Heap) : exec cfg 35 r35_0 e h = (ops cfg 35 b35_0 (a35_0.toList) e h).bind (regEnd cfg 35 0 false) := region_at _ _ _ _ _ _ _
def a35_1 : Array Oper := codeOps (codeAt [true, false] (Tryz.f35.body.getD .skip))
def b35_1 : Array Oper := a35_1
def r35_1 : Code := .region 1 a35_1 false
theorem x35_1 (e : Env) (h : Heap) : exec cfg 35 r35_1 e h = (ops cfg 35 b35_1 (a35_1.toList) e h).bind (regEnd cfg 35 1 false) := region_at _ _ _ _ _ _ _
def k35 : Code := (.seq r35_0 (.seq r35_1 .ret))
theorem body35 : Tryz.f35.body = some k35 := by kernel_rfl
theorem call35 (x0 x1 : AV) (h : Heap) : call cfg 35 [x0, x1] h = (exec cfg 35 k35 [(0, x0), (1, x1)] h).bind (callEnd cfg 35 h [.tmp 4]) := call_at2 (fnat Tryz.func35 body35 (by rw [← ok35]; kernel_rfl)) rfl rfl

theorem indexFI_loop {α : Type} (xs : List α) (f : α → Int) (p : α → Bool) (g : Nat) (caps : List AV) (z : Nat) (r : Room) (h : Heap) (hn : xs.length < 1000000000) (hs : ∀ a ∈ xs, True)
    (hg : ∀ a ∈ xs, call cfg g (.int .i64 (f a) :: caps) h = some (.ret (.bool (p a)), h)) : ∀ (ys : List α) (i : Nat), xs.drop i = ys → i ≤ xs.length → ∀ c d t e,
    Got (exec cfg 34 (.loop l34_0) [(0, .lst (xs.map fun a => .int .i64 (f a)) z r), (1, .clo g caps), (4, c), (5, d), (7, .int .i64 xs.length), (8, .int .i64 i), (9, t), (16, e)] h) (fun q => q.2.2 = h ∧
      ((q.1 = .exit 0 ∧ idxP p ys i = -1) ∨ (q.1 = .ret ∧ q.2.1.get 4 = .int .i64 (idxP p ys i)))) := by
  intro ys
  induction ys with
  | nil =>
    intro i hd hi c d t e
    rw [got_loop]
    simp only [l34_0, k34, Tryz.f34, regEnd_nrm (lv34 _), pu34, x34_0, a34_0, x34_1, a34_1, x34_2, a34_2, x34_3, a34_3, x34_4, a34_4, x34_5, a34_5, x34_6, a34_6, x34_7, a34_7, sxAll, arithA, Nat.reduceEqDiff, Env.keep, qt_eq, isAlloc, resultsA, packA, storeA, indexAddrA, fieldA, indexA, unA, fieldAddrA, loadA, Rv.part, cellsAt, TD.isAgg, convH, convA, buildA, fillA, setCells, copies, lenA, optA, boundA, mapO, ↓Option.bind_some, ↓Option.bind_none, Nat.reduceBEq, Nat.reduceAdd, Nat.reduceMul, Nat.reduceLeDiff, Nat.reduceSub, Nat.reduceLT, Nat.reduceGT, Int.reduceBEq, Int.reduceLT, Int.reduceLE, bne, ↓reduceIte, at_end hd]
    exact ⟨trivial, .inl ⟨trivial, rfl⟩⟩
  | cons y r ih =>
    intro i hd hi c d t e
    obtain ⟨hlt, hget, hd'⟩ := at_drop hd
    obtain ⟨_, hx, _⟩ := at_drop (drop_map (f := fun a => AV.int .i64 (f a)) hd)
    have hmem : y ∈ xs := List.mem_of_getElem? hget
    have hw := wrap_succ (i := i) (by omega)
    have hc := hg y hmem
    have hsz := hs y hmem
    
    rw [got_loop]
    cases he : p y with
    | true =>
      rw [he] at hc
      simp only [l34_0, k34, Tryz.f34, regEnd_nrm (lv34 _), pu34, x34_0, a34_0, x34_1, a34_1, x34_2, a34_2, x34_3, a34_3, x34_4, a34_4, x34_5, a34_5, x34_6, a34_6, x34_7, a34_7, sxAll, arithA, Nat.reduceEqDiff, Env.keep, qt_eq, isAlloc, resultsA, packA, storeA, indexAddrA, fieldA, indexA, unA, fieldAddrA, loadA, Rv.part, cellsAt, TD.isAgg, convH, convA, buildA, fillA, setCells, copies, lenA, optA, boundA, mapO, ↓Option.bind_some, ↓Option.bind_none, Nat.reduceBEq, Nat.reduceAdd, Nat.reduceMul, Nat.reduceLeDiff, Nat.reduceSub, Nat.reduceLT, Nat.reduceGT, Int.reduceBEq, Int.reduceLT, Int.reduceLE, bne, ↓reduceIte, hlt, indexAddrA, ty29, ty3, hx, hc]
      exact ⟨trivial, .inr ⟨trivial, by simp [Env.get_cons, idxP, he]⟩⟩
    | false =>
      rw [he] at hc
      have := ih (i + 1) hd' (by simp at hlt; omega)
      simp only [l34_0] at this ⊢
      simp only [k34, Tryz.f34, regEnd_nrm (lv34 _), pu34, x34_0, a34_0, x34_1, a34_1, x34_2, a34_2, x34_3, a34_3, x34_4, a34_4, x34_5, a34_5, x34_6, a34_6, x34_7, a34_7, sxAll, arithA, Nat.reduceEqDiff, Env.keep, qt_eq, isAlloc, resultsA, packA, storeA, indexAddrA, fieldA, indexA, unA, fieldAddrA, loadA, Rv.part, cellsAt, TD.isAgg, convH, convA, buildA, fillA, setCells, copies, lenA, optA, boundA, mapO, ↓Option.bind_some, ↓Option.bind_none, Nat.reduceBEq, Nat.reduceAdd, Nat.reduceMul, Nat.reduceLeDiff, Nat.reduceSub, Nat.reduceLT, Nat.reduceGT, Int.reduceBEq, Int.reduceLT, Int.reduceLE, bne, ↓reduceIte, hlt, indexAddrA, ty29, ty3, hx, hw, hc, idxP, he] at this ⊢
      exact this _ _ _ _
theorem indexFI_eq {α : Type} (xs : List α) (f : α → Int) (p : α → Bool) (g : Nat) (caps : List AV) (z : Nat) (r : Room) (h : Heap) (hn : xs.length < 1000000000) (hs : ∀ a ∈ xs, True)
    (hg : ∀ a ∈ xs, call cfg g (.int .i64 (f a) :: caps) h = some (.ret (.bool (p a)), h)) : call cfg 34 [.lst (xs.map fun a => .int .i64 (f a)) z r, .clo g caps] h = some (.ret (.int .i64 (idxP p xs 0)), h) := by
  obtain ⟨⟨o, e', h'⟩, hx, hh, hq⟩ := indexFI_loop xs f p g caps z r h hn hs hg xs 0 (by simp) (by omega) (.int .i64 0) .junk .junk .junk
  simp only [Int.natCast_zero] at hx hh hq
  subst hh
  rw [call34]
  rcases hq with ⟨rfl, h1⟩ | ⟨rfl, h1⟩
  · simp only [k34, Tryz.f34, regEnd_nrm (lv34 _), pu34, x34_0, a34_0, x34_1, a34_1, x34_2, a34_2, x34_3, a34_3, x34_4, a34_4, x34_5, a34_5, x34_6, a34_6, x34_7, a34_7, sxAll, arithA, Nat.reduceEqDiff, Env.keep, qt_eq, isAlloc, resultsA, packA, storeA, indexAddrA, fieldA, indexA, unA, fieldAddrA, loadA, Rv.part, cellsAt, TD.isAgg, convH, convA, buildA, fillA, setCells, copies, lenA, optA, boundA, mapO, ↓Option.bind_some, ↓Option.bind_none, Nat.reduceBEq, Nat.reduceAdd, Nat.reduceMul, Nat.reduceLeDiff, Nat.reduceSub, Nat.reduceLT, Nat.reduceGT, Int.reduceBEq, Int.reduceLT, Int.reduceLE, bne, ↓reduceIte, ty29, List.length_map, hx, h1]
    exact leave_kept rfl rfl
  · simp only [k34, Tryz.f34, regEnd_nrm (lv34 _), pu34, x34_0, a34_0, x34_1, a34_1, x34_2, a34_2, x34_3, a34_3, x34_4, a34_4, x34_5, a34_5, x34_6, a34_6, x34_7, a34_7, sxAll, arithA, Nat.reduceEqDiff, Env.keep, qt_eq, isAlloc, resultsA, packA, storeA, indexAddrA, fieldA, indexA, unA, fieldAddrA, loadA, Rv.part, cellsAt, TD.isAgg, convH, convA, buildA, fillA, setCells, copies, lenA, optA, boundA, mapO, ↓Option.bind_some, ↓Option.bind_none, Nat.reduceBEq, Nat.reduceAdd, Nat.reduceMul, Nat.reduceLeDiff, Nat.reduceSub, Nat.reduceLT, Nat.reduceGT, Int.reduceBEq, Int.reduceLT, Int.reduceLE, bne, ↓reduceIte, ty29, List.length_map, hx, h1]
    exact leave_kept rfl rfl
theorem containsFI_eq {α : Type} (xs : List α) (f : α → Int) (p : α → Bool) (g : Nat) (caps : List AV) (z : Nat) (r : Room) (h : Heap) (hn : xs.length < 1000000000) (hs : ∀ a ∈ xs, True)
    (hg : ∀ a ∈ xs, call cfg g (.int .i64 (f a) :: caps) h = some (.ret (.bool (p a)), h)) : call cfg 35 [.lst (xs.map fun a => .int .i64 (f a)) z r, .clo g caps] h = some (.ret (.bool (xs.any p)), h) := by
  rw [call35]
  simp only [k35, Tryz.f35, regEnd_nrm (lv35 _), pu35, x35_0, a35_0, x35_1, a35_1, sxAll, arithA, Nat.reduceEqDiff, Env.keep, qt_eq, isAlloc, resultsA, packA, storeA, indexAddrA, fieldA, indexA, unA, fieldAddrA, loadA, Rv.part, cellsAt, TD.isAgg, convH, convA, buildA, fillA, setCells, copies, lenA, optA, boundA, mapO, ↓Option.bind_some, ↓Option.bind_none, Nat.reduceBEq, Nat.reduceAdd, Nat.reduceMul, Nat.reduceLeDiff, Nat.reduceSub, Nat.reduceLT, Nat.reduceGT, Int.reduceBEq, Int.reduceLT, Int.reduceLE, bne, ↓reduceIte, indexFI_eq xs f p g caps z r h hn hs hg, pu34, idxP_any]
  exact leave_kept rfl rfl

theorem lv61 (r : Nat) : cfg.live 61 r = some [0, 1, 4, 5, 7, 8, 9, 16] := rfl
theorem ok61 : okB cfg0 61 Tryz.f61 (Tryz.f61.body.getD .skip) = true := by kernel_rfl
theorem pu61 : cfg.pure 61 = true := rfl
instance tight61 {d : Option Nat} : TightD cfg 61 d := ⟨fun _ _ => rfl⟩
def a61_0 : Array Oper := codeOps (codeAt [false] (Tryz.f61.body.getD .skip))
def b61_0 : Array Oper := a61_0
def r61_0 : Code := .region 0 a61_0 false
theorem x61_0 (e : Env) (h : Heap) : exec cfg 61 r61_0 e h = (ops cfg 61 b61_0 (a61_0.toList) e h).bind (regEnd cfg 61 0 false) := region_at _ _ _ _ _ _ _
def a61_1 : Array Oper := codeOps (codeAt [true, false, false] (Tryz.f61.body.getD .skip))
def b61_1 : Array Oper := a61_1
def r61_1 : Code := .region 1 a61_1 false
theorem x61_1 (e : Env) (h : Heap) : exec cfg 61 r61_1 e h = (ops cfg 61 b61_1 (a61_1.toList) e h).bind (regEnd cfg 61 1 false) := region_at _ _ _ _ _ _ _
def a61_2 : Array Oper := codeOps (codeAt [true, false, true, false, false, false] (Tryz.f61.body.getD .skip))
def b61_2 : Array Oper := a61_2
def r61_2 : Code := .region 2 a61_2 false
theorem x61_2 (e : Env) (h : Heap) : exec cfg 61 r61_2 e h = (ops cfg 61 b61_2 (a61_2.toList) e h).bind (regEnd cfg 61 2 false) := region_at _ _ _ _ _ _ _
def a61_3 : Array Oper := codeOps (codeAt [true, false, true, false, false, true, true, false, false, false] (Tryz.f61.body.getD .skip))
def b61_3 : Array Oper := a61_3
def r61_3 : Code := .region 3 a61_3 false
theorem x61_3 (e : Env) (h : Heap) : exec cfg 61 r61_3 e h = (ops cfg 61 b61_3 (a61_3.toList) e h).bind (regEnd cfg 61 3 false) := region_at _ _ _ _ _ _ _
def a61_4 : Array Oper := codeOps (codeAt [true, false, true, false, false, true, true, false, false, true, false] (Tryz.f61.body.getD .skip))
def b61_4 : Array Oper := a61_4
def r61_4 : Code := .region 4 a61_4 false
theorem x61_4 (e : Env) (h : Heap) : exec cfg 61 r61_4 e h = (ops cfg 61 b61_4 (a61_4.toList) e h).bind (regEnd cfg 61 4 false) := region_at _ _ _ _ _ _ _
def a61_5 : Array Oper := codeOps (codeAt [true, false, true, false, false, true, true, false, false, true, true, false, false] (Tryz.f61.body.getD .skip))
def b61_5 : Array Oper := a61_5
def r61_5 : Code := .region 5 a61_5 false
theorem x61_5 (e : Env) (h : Heap) : exec cfg 61 r61_5 e h = (ops cfg 61 b61_5 (a61_5.toList) e h).bind (regEnd cfg 61 5 false) := region_at _ _ _ _ _ _ _
def a61_6 : Array Oper := codeOps (codeAt [true, false, true, false, false, true, true, true] (Tryz.f61.body.getD .skip))
def b61_6 : Array Oper := a61_6
def r61_6 : Code := .region 6 a61_6 false
theorem x61_6 (e : Env) (h : Heap) : exec cfg 61 r61_6 e h = (ops cfg 61 b61_6 (a61_6.toList) e h).bind (regEnd cfg 61 6 false) := region_at _ _ _ _ _ _ _
def a61_7 : Array Oper := codeOps (codeAt [true, true, false] (Tryz.f61.body.getD .skip))
def b61_7 : Array Oper := a61_7
def r61_7 : Code := .region 7 a61_7 false
theorem x61_7 (e : Env) (h : Heap) : exec cfg 61 r61_7 e h = (ops cfg 61 b61_7 (a61_7.toList) e h).bind (regEnd cfg 61 7 false) := region_at _ _ _ _ _ _ _
def l61_0 : Code := (.seq r61_2 (.seq (.cond (.tmp 9) .skip (.exit 0)) (.seq (.block 1 (.seq r61_3 (.seq r61_4 (.cond (.tmp 16) (.seq r61_5 .ret) .skip)))) r61_6)))
def k61 : Code := (.seq r61_0 (.seq (.seq r61_1 (.block 0 (.loop l61_0))) (.seq r61_7 .ret)))
theorem body61 : Tryz.f61.body = some k61 := by kernel_rfl
theorem call61 (x0 x1 : AV) (h : Heap) : call cfg 61 [x0, x1] h = (exec cfg 61 k61 [(0, x0), (1, x1)] h).bind (callEnd cfg 61 h [.tmp 4]) := call_at2 (fnat Tryz.func61 body61 (by rw [← ok61]; kernel_rfl)) rfl rfl
theorem lv43 (r : Nat) : cfg.live 43 r = some [0, 1, 4] := rfl
theorem ok43 : okB cfg0 43 Tryz.f43 (Tryz.f43.body.getD .skip) = true := by kernel_rfl
theorem pu43 : cfg.pure 43 = true := rfl
instance tight43 {d : Option Nat} : TightD cfg 43 d := ⟨fun _ _ => rfl⟩
def a43_0 : Array Oper := codeOps (codeAt [false] (Tryz.f43.body.getD .skip))
def b43_0 : Array Oper := a43_0
def r43_0 : Code := .region 0 a43_0 false
theorem x43_0 (e : Env) (h : Heap) : exec cfg 43 r43_0 e h = (ops cfg 43 b43_0 (a43_0.toList) e h).bind (regEnd cfg 43 0 false) := region_at _ _ _ _ _ _ _
def a43_1 : Array Oper := codeOps (codeAt [true, false] (Tryz.f43.body.getD .skip))
def b43_1 : Array Oper := a43_1
def r43_1 : Code := .region 1 a43_1 false
theorem x43_1 (e : Env) (h : Heap) : exec cfg 43 r43_1 e h = (ops cfg 43 b43_1 (a43_1.toList) e h).bind (regEnd cfg 43 1 false) := region_at _ _ _ _ _ _ _
def k43 : Code := (.seq r43_0 (.seq r43_1 .ret))
theorem body43 : Tryz.f43.body = some k43 := by kernel_rfl
theorem call43 (x0 x1 : AV) (h : Heap) : call cfg 43 [x0, x1] h = (exec cfg 43 k43 [(0, x0), (1, x1)] h).bind (callEnd cfg 43 h [.tmp 4]) := call_at2 (fnat Tryz.func43 body43 (by rw [← ok43]; kernel_rfl)) rfl rfl

theorem indexFS_loop {α : Type} (xs : List α) (f : α → List UInt8) (p : α → Bool) (g : Nat) (caps : List AV) (z : Nat) (r : Room) (h : Heap) (hn : xs.length < 1000000000) (hs : ∀ a ∈ xs, True)
    (hg : ∀ a ∈ xs, call cfg g (.str (f a) :: caps) h = some (.ret (.bool (p a)), h)) : ∀ (ys : List α) (i : Nat), xs.drop i = ys → i ≤ xs.length → ∀ c d t e,
    Got (exec cfg 61 (.loop l61_0) [(0, .lst (xs.map fun a => .str (f a)) z r), (1, .clo g caps), (4, c), (5, d), (7, .int .i64 xs.length), (8, .int .i64 i), (9, t), (16, e)] h) (fun q => q.2.2 = h ∧
      ((q.1 = .exit 0 ∧ idxP p ys i = -1) ∨ (q.1 = .ret ∧ q.2.1.get 4 = .int .i64 (idxP p ys i)))) := by
  intro ys
  induction ys with
  | nil =>
    intro i hd hi c d t e
    rw [got_loop]
    simp only [l61_0, k61, Tryz.f61, regEnd_nrm (lv61 _), pu61, x61_0, a61_0, x61_1, a61_1, x61_2, a61_2, x61_3, a61_3, x61_4, a61_4, x61_5, a61_5, x61_6, a61_6, x61_7, a61_7, sxAll, arithA, Nat.reduceEqDiff, Env.keep, qt_eq, isAlloc, resultsA, packA, storeA, indexAddrA, fieldA, indexA, unA, fieldAddrA, loadA, Rv.part, cellsAt, TD.isAgg, convH, convA, buildA, fillA, setCells, copies, lenA, optA, boundA, mapO, ↓Option.bind_some, ↓Option.bind_none, Nat.reduceBEq, Nat.reduceAdd, Nat.reduceMul, Nat.reduceLeDiff, Nat.reduceSub, Nat.reduceLT, Nat.reduceGT, Int.reduceBEq, Int.reduceLT, Int.reduceLE, bne, ↓reduceIte, at_end hd]
    exact ⟨trivial, .inl ⟨trivial, rfl⟩⟩
  | cons y r ih =>
    intro i hd hi c d t e
    obtain ⟨hlt, hget, hd'⟩ := at_drop hd
    obtain ⟨_, hx, _⟩ := at_drop (drop_map (f := fun a => AV.str (f a)) hd)
    have hmem : y ∈ xs := List.mem_of_getElem? hget
    have hw := wrap_succ (i := i) (by omega)
    have hc := hg y hmem
    have hsz := hs y hmem
    
    rw [got_loop]
    cases he : p y with
    | true =>
      rw [he] at hc
      simp only [l61_0, k61, Tryz.f61, regEnd_nrm (lv61 _), pu61, x61_0, a61_0, x61_1, a61_1, x61_2, a61_2, x61_3, a61_3, x61_4, a61_4, x61_5, a61_5, x61_6, a61_6, x61_7, a61_7, sxAll, arithA, Nat.reduceEqDiff, Env.keep, qt_eq, isAlloc, resultsA, packA, storeA, indexAddrA, fieldA, indexA, unA, fieldAddrA, loadA, Rv.part, cellsAt, TD.isAgg, convH, convA, buildA, fillA, setCells, copies, lenA, optA, boundA, mapO, ↓Option.bind_some, ↓Option.bind_none, Nat.reduceBEq, Nat.reduceAdd, Nat.reduceMul, Nat.reduceLeDiff, Nat.reduceSub, Nat.reduceLT, Nat.reduceGT, Int.reduceBEq, Int.reduceLT, Int.reduceLE, bne, ↓reduceIte, hlt, indexAddrA, ty23, ty9, hx, hc]
      exact ⟨trivial, .inr ⟨trivial, by simp [Env.get_cons, idxP, he]⟩⟩
    | false =>
      rw [he] at hc
      have := ih (i + 1) hd' (by simp at hlt; omega)
      simp only [l61_0] at this ⊢
      simp only [k61, Tryz.f61, regEnd_nrm (lv61 _), pu61, x61_0, a61_0, x61_1, a61_1, x61_2, a61_2, x61_3, a61_3, x61_4, a61_4, x61_5, a61_5, x61_6, a61_6, x61_7, a61_7, sxAll, arithA, Nat.reduceEqDiff, Env.keep, qt_eq, isAlloc, resultsA, packA, storeA, indexAddrA, fieldA, indexA, unA, fieldAddrA, loadA, Rv.part, cellsAt, TD.isAgg, convH, convA, buildA, fillA, setCells, copies, lenA, optA, boundA, mapO, ↓Option.bind_some, ↓Option.bind_none, Nat.reduceBEq, Nat.reduceAdd, Nat.reduceMul, Nat.reduceLeDiff, Nat.reduceSub, Nat.reduceLT, Nat.reduceGT, Int.reduceBEq, Int.reduceLT, Int.reduceLE, bne, ↓reduceIte, hlt, indexAddrA, ty23, ty9, hx, hw, hc, idxP, he] at this ⊢
      exact this _ _ _ _
theorem indexFS_eq {α : Type} (xs : List α) (f : α → List UInt8) (p : α → Bool) (g : Nat) (caps : List AV) (z : Nat) (r : Room) (h : Heap) (hn : xs.length < 1000000000) (hs : ∀ a ∈ xs, True)
    (hg : ∀ a ∈ xs, call cfg g (.str (f a) :: caps) h = some (.ret (.bool (p a)), h)) : call cfg 61 [.lst (xs.map fun a => .str (f a)) z r, .clo g caps] h = some (.ret (.int .i64 (idxP p xs 0)), h) := by
  obtain ⟨⟨o, e', h'⟩, hx, hh, hq⟩ := indexFS_loop xs f p g caps z r h hn hs hg xs 0 (by simp) (by omega) (.int .i64 0) .junk .junk .junk
  simp only [Int.natCast_zero] at hx hh hq
  subst hh
  rw [call61]
  rcases hq with ⟨rfl, h1⟩ | ⟨rfl, h1⟩
  · simp only [k61, Tryz.f61, regEnd_nrm (lv61 _), pu61, x61_0, a61_0, x61_1, a61_1, x61_2, a61_2, x61_3, a61_3, x61_4, a61_4, x61_5, a61_5, x61_6, a61_6, x61_7, a61_7, sxAll, arithA, Nat.reduceEqDiff, Env.keep, qt_eq, isAlloc, resultsA, packA, storeA, indexAddrA, fieldA, indexA, unA, fieldAddrA, loadA, Rv.part, cellsAt, TD.isAgg, convH, convA, buildA, fillA, setCells, copies, lenA, optA, boundA, mapO, ↓Option.bind_some, ↓Option.bind_none, Nat.reduceBEq, Nat.reduceAdd, Nat.reduceMul, Nat.reduceLeDiff, Nat.reduceSub, Nat.reduceLT, Nat.reduceGT, Int.reduceBEq, Int.reduceLT, Int.reduceLE, bne, ↓reduceIte, ty23, List.length_map, hx, h1]
    exact leave_kept rfl rfl
  · simp only [k61, Tryz.f61, regEnd_nrm (lv61 _), pu61, x61_0, a61_0, x61_1, a61_1, x61_2, a61_2, x61_3, a61_3, x61_4, a61_4, x61_5, a61_5, x61_6, a61_6, x61_7, a61_7, sxAll, arithA, Nat.reduceEqDiff, Env.keep, qt_eq, isAlloc, resultsA, packA, storeA, indexAddrA, fieldA, indexA, unA, fieldAddrA, loadA, Rv.part, cellsAt, TD.isAgg, convH, convA, buildA, fillA, setCells, copies, lenA, optA, boundA, mapO, ↓Option.bind_some, ↓Option.bind_none, Nat.reduceBEq, Nat.reduceAdd, Nat.reduceMul, Nat.reduceLeDiff, Nat.reduceSub, Nat.reduceLT, Nat.reduceGT, Int.reduceBEq, Int.reduceLT, Int.reduceLE, bne, ↓reduceIte, ty23, List.length_map, hx, h1]
    exact leave_kept rfl rfl
theorem containsFS_eq {α : Type} (xs : List α) (f : α → List UInt8) (p : α → Bool) (g : Nat) (caps : List AV) (z : Nat) (r : Room) (h : Heap) (hn : xs.length < 1000000000) (hs : ∀ a ∈ xs, True)
    (hg : ∀ a ∈ xs, call cfg g (.str (f a) :: caps) h = some (.ret (.bool (p a)), h)) : call cfg 43 [.lst (xs.map fun a => .str (f a)) z r, .clo g caps] h = some (.ret (.bool (xs.any p)), h) := by
  rw [call43]
  simp only [k43, Tryz.f43, regEnd_nrm (lv43 _), pu43, x43_0, a43_0, x43_1, a43_1, sxAll, arithA, Nat.reduceEqDiff, Env.keep, qt_eq, isAlloc, resultsA, packA, storeA, indexAddrA, fieldA, indexA, unA, fieldAddrA, loadA, Rv.part, cellsAt, TD.isAgg, convH, convA, buildA, fillA, setCells, copies, lenA, optA, boundA, mapO, ↓Option.bind_some, ↓Option.bind_none, Nat.reduceBEq, Nat.reduceAdd, Nat.reduceMul, Nat.reduceLeDiff, Nat.reduceSub, Nat.reduceLT, Nat.reduceGT, Int.reduceBEq, Int.reduceLT, Int.reduceLE, bne, ↓reduceIte, indexFS_eq xs f p g caps z r h hn hs hg, pu61, idxP_any]
  exact leave_kept rfl rfl

theorem lv46 (r : Nat) : cfg.live 46 r = some [0, 1, 4, 5, 7, 8, 9, 16] := rfl
theorem ok46 : okB cfg0 46 Tryz.f46 (Tryz.f46.body.getD .skip) = true := by kernel_rfl
theorem pu46 : cfg.pure 46 = true := rfl
instance tight46 {d : Option Nat} : TightD cfg 46 d := ⟨fun _ _ => rfl⟩
def a46_0 : Array Oper := codeOps (codeAt [false] (Tryz.f46.body.getD .skip))
def b46_0 : Array Oper := a46_0
def r46_0 : Code := .region 0 a46_0 false
theorem x46_0 (e : Env) (h : Heap) : exec cfg 46 r46_0 e h = (ops cfg 46 b46_0 (a46_0.toList) e h).bind (regEnd cfg 46 0 false) := region_at _ _ _ _ _ _ _
def a46_1 : Array Oper := codeOps (codeAt [true, false, false] (Tryz.f46.body.getD .skip))
def b46_1 : Array Oper := a46_1
def r46_1 : Code := .region 1 a46_1 false
theorem x46_1 (e : Env) (h : Heap) : exec cfg 46 r46_1 e h = (ops cfg 46 b46_1 (a46_1.toList) e h).bind (regEnd cfg 46 1 false) := region_at _ _ _ _ _ _ _
def a46_2 : Array Oper := codeOps (codeAt [true, false, true, false, false, false] (Tryz.f46.body.getD .skip))
def b46_2 : Array Oper := a46_2
def r46_2 : Code := .region 2 a46_2 false
theorem x46_2 (e : Env) (h : Heap) : exec cfg 46 r46_2 e h = (ops cfg 46 b46_2 (a46_2.toList) e h).bind (regEnd cfg 46 2 false) := region_at _ _ _ _ _ _ _
def a46_3 : Array Oper := codeOps (codeAt [true, false, true, false, false, true, true, false, false, false] (Tryz.f46.body.getD .skip))
def b46_3 : Array Oper := a46_3
def r46_3 : Code := .region 3 a46_3 false
theorem x46_3 (e : Env) (h : Heap) : exec cfg 46 r46_3 e h = (ops cfg 46 b46_3 (a46_3.toList) e h).bind (regEnd cfg 46 3 false) := region_at _ _ _ _ _ _ _
def a46_4 : Array Oper := codeOps (codeAt [true, false, true, false, false, true, true, false, false, true, false] (Tryz.f46.body.getD .skip))
def b46_4 : Array Oper := a46_4
def r46_4 : Code := .region 4 a46_4 false
theorem x46_4 (e : Env) (h : Heap) : exec cfg 46 r46_4 e h = (ops cfg 46 b46_4 (a46_4.toList) e h).bind (regEnd cfg 46 4 false) := region_at _ _ _ _ _ _ _
def a46_5 : Array Oper := codeOps (codeAt [true, false, true, false, false, true, true, false, false, true, true, false, false] (Tryz.f46.body.getD .skip))
def b46_5 : Array Oper := a46_5
def r46_5 : Code := .region 5 a46_5 false
theorem x46_5 (e : Env) (h : Heap) : exec cfg 46 r46_5 e h = (ops cfg 46 b46_5 (a46_5.toList) e h).bind (regEnd cfg 46 5 false) := region_at _ _ _ _ _ _ _
def a46_6 : Array Oper := codeOps (codeAt [true, false, true, false, false, true, true, true] (Tryz.f46.body.getD .skip))
def b46_6 : Array Oper := a46_6
def r46_6 : Code := .region 6 a46_6 false
theorem x46_6 (e : Env) (h : Heap) : exec cfg 46 r46_6 e h = (ops cfg 46 b46_6 (a46_6.toList) e h).bind (regEnd cfg 46 6 false) := region_at _ _ _ _ _ _ _
def a46_7 : Array Oper := codeOps (codeAt [true, true, false] (Tryz.f46.body.getD .skip))
def b46_7 : Array Oper := a46_7
def r46_7 : Code := .region 7 a46_7 false
theorem x46_7 (e : Env) (h : Heap) : exec cfg 46 r46_7 e h = (ops cfg 46 b46_7 (a46_7.toList) e h).bind (regEnd cfg 46 7 false) := region_at _ _ _ _ _ _ _
def l46_0 : Code := (.seq r46_2 (.seq (.cond (.tmp 9) .skip (.exit 0)) (.seq (.block 1 (.seq r46_3 (.seq r46_4 (.cond (.tmp 16) (.seq r46_5 .ret) .skip)))) r46_6)))
def k46 : Code := (.seq r46_0 (.seq (.seq r46_1 (.block 0 (.loop l46_0))) (.seq r46_7 .ret)))
theorem body46 : Tryz.f46.body = some k46 := by kernel_rfl
theorem call46 (x0 x1 : AV) (h : Heap) : call cfg 46 [x0, x1] h = (exec cfg 46 k46 [(0, x0), (1, x1)] h).bind (callEnd cfg 46 h [.tmp 4]) := call_at2 (fnat Tryz.func46 body46 (by rw [← ok46]; kernel_rfl)) rfl rfl
theorem lv26 (r : Nat) : cfg.live 26 r = some [0, 1, 4] := rfl
theorem ok26 : okB cfg0 26 Tryz.f26 (Tryz.f26.body.getD .skip) = true := by kernel_rfl
theorem pu26 : cfg.pure 26 = true := rfl
instance tight26 {d : Option Nat} : TightD cfg 26 d := ⟨fun _ _ => rfl⟩
def a26_0 : Array Oper := codeOps (codeAt [false] (Tryz.f26.body.getD .skip))
def b26_0 : Array Oper := a26_0
def r26_0 : Code := .region 0 a26_0 false
theorem x26_0 (e : Env) (h : Heap) : exec cfg 26 r26_0 e h = (ops cfg 26 b26_0 (a26_0.toList) e h).bind (regEnd cfg 26 0 false) := region_at _ _ _ _ _ _ _
def a26_1 : Array Oper := codeOps (codeAt [true, false] (Tryz.f26.body.getD .skip))
def b26_1 : Array Oper := a26_1
def r26_1 : Code := .region 1 a26_1 false
theorem x26_1 (e : Env) (h : Heap) : exec cfg 26 r26_1 e h = (ops cfg 26 b26_1 (a26_1.toList) e h).bind (regEnd cfg 26 1 false) := region_at _ _ _ _ _ _ _
def k26 : Code := (.seq r26_0 (.seq r26_1 .ret))
theorem body26 : Tryz.f26.body = some k26 := by kernel_rfl
theorem call26 (x0 x1 : AV) (h : Heap) : call cfg 26 [x0, x1] h = (exec cfg 26 k26 [(0, x0), (1, x1)] h).bind (callEnd cfg 26 h [.tmp 4]) := call_at2 (fnat Tryz.func26 body26 (by rw [← ok26]; kernel_rfl)) rfl rfl

theorem indexFMem_loop {α : Type} (xs : List α) (f : α → List AV) (p : α → Bool) (g : Nat) (caps : List AV) (z : Nat) (r : Room) (h : Heap) (hn : xs.length < 1000000000) (hs : ∀ a ∈ xs, (f a).length = 3)
    (hg : ∀ a ∈ xs, call cfg g (.agg (f a) :: caps) h = some (.ret (.bool (p a)), h)) : ∀ (ys : List α) (i : Nat), xs.drop i = ys → i ≤ xs.length → ∀ c d t e,
    Got (exec cfg 46 (.loop l46_0) [(0, .lst (xs.map fun a => .agg (f a)) z r), (1, .clo g caps), (4, c), (5, d), (7, .int .i64 xs.length), (8, .int .i64 i), (9, t), (16, e)] h) (fun q => q.2.2 = h ∧
      ((q.1 = .exit 0 ∧ idxP p ys i = -1) ∨ (q.1 = .ret ∧ q.2.1.get 4 = .int .i64 (idxP p ys i)))) := by
  intro ys
  induction ys with
  | nil =>
    intro i hd hi c d t e
    rw [got_loop]
    simp only [l46_0, k46, Tryz.f46, regEnd_nrm (lv46 _), pu46, x46_0, a46_0, x46_1, a46_1, x46_2, a46_2, x46_3, a46_3, x46_4, a46_4, x46_5, a46_5, x46_6, a46_6, x46_7, a46_7, sxAll, arithA, Nat.reduceEqDiff, Env.keep, qt_eq, isAlloc, resultsA, packA, storeA, indexAddrA, fieldA, indexA, unA, fieldAddrA, loadA, Rv.part, cellsAt, TD.isAgg, convH, convA, buildA, fillA, setCells, copies, lenA, optA, boundA, mapO, ↓Option.bind_some, ↓Option.bind_none, Nat.reduceBEq, Nat.reduceAdd, Nat.reduceMul, Nat.reduceLeDiff, Nat.reduceSub, Nat.reduceLT, Nat.reduceGT, Int.reduceBEq, Int.reduceLT, Int.reduceLE, bne, ↓reduceIte, at_end hd]
    exact ⟨trivial, .inl ⟨trivial, rfl⟩⟩
  | cons y r ih =>
    intro i hd hi c d t e
    obtain ⟨hlt, hget, hd'⟩ := at_drop hd
    obtain ⟨_, hx, _⟩ := at_drop (drop_map (f := fun a => AV.agg (f a)) hd)
    have hmem : y ∈ xs := List.mem_of_getElem? hget
    have hw := wrap_succ (i := i) (by omega)
    have hc := hg y hmem
    have hsz := hs y hmem
    have hle : ((3 : Nat) ≤ (f y).length) = True := by simp [hsz]
    have htk : (f y).take 3 = f y := List.take_of_length_le (by omega)
    have hbq : ((f y).length == 3) = true := by simp [hsz]
    rw [got_loop]
    cases he : p y with
    | true =>
      rw [he] at hc
      simp only [l46_0, k46, Tryz.f46, regEnd_nrm (lv46 _), pu46, x46_0, a46_0, x46_1, a46_1, x46_2, a46_2, x46_3, a46_3, x46_4, a46_4, x46_5, a46_5, x46_6, a46_6, x46_7, a46_7, sxAll, arithA, Nat.reduceEqDiff, Env.keep, qt_eq, isAlloc, resultsA, packA, storeA, indexAddrA, fieldA, indexA, unA, fieldAddrA, loadA, Rv.part, cellsAt, TD.isAgg, convH, convA, buildA, fillA, setCells, copies, lenA, optA, boundA, mapO, ↓Option.bind_some, ↓Option.bind_none, Nat.reduceBEq, Nat.reduceAdd, Nat.reduceMul, Nat.reduceLeDiff, Nat.reduceSub, Nat.reduceLT, Nat.reduceGT, Int.reduceBEq, Int.reduceLT, Int.reduceLE, bne, ↓reduceIte, hlt, indexAddrA, ty22, ty63, hx, hc, hle, htk, hbq]
      exact ⟨trivial, .inr ⟨trivial, by simp [Env.get_cons, idxP, he]⟩⟩
    | false =>
      rw [he] at hc
      have := ih (i + 1) hd' (by simp at hlt; omega)
      simp only [l46_0] at this ⊢
      simp only [k46, Tryz.f46, regEnd_nrm (lv46 _), pu46, x46_0, a46_0, x46_1, a46_1, x46_2, a46_2, x46_3, a46_3, x46_4, a46_4, x46_5, a46_5, x46_6, a46_6, x46_7, a46_7, sxAll, arithA, Nat.reduceEqDiff, Env.keep, qt_eq, isAlloc, resultsA, packA, storeA, indexAddrA, fieldA, indexA, unA, fieldAddrA, loadA, Rv.part, cellsAt, TD.isAgg, convH, convA, buildA, fillA, setCells, copies, lenA, optA, boundA, mapO, ↓Option.bind_some, ↓Option.bind_none, Nat.reduceBEq, Nat.reduceAdd, Nat.reduceMul, Nat.reduceLeDiff, Nat.reduceSub, Nat.reduceLT, Nat.reduceGT, Int.reduceBEq, Int.reduceLT, Int.reduceLE, bne, ↓reduceIte, hlt, indexAddrA, ty22, ty63, hx, hw, hc, idxP, he, hle, htk, hbq] at this ⊢
      exact this _ _ _ _
theorem indexFMem_eq {α : Type} (xs : List α) (f : α → List AV) (p : α → Bool) (g : Nat) (caps : List AV) (z : Nat) (r : Room) (h : Heap) (hn : xs.length < 1000000000) (hs : ∀ a ∈ xs, (f a).length = 3)
    (hg : ∀ a ∈ xs, call cfg g (.agg (f a) :: caps) h = some (.ret (.bool (p a)), h)) : call cfg 46 [.lst (xs.map fun a => .agg (f a)) z r, .clo g caps] h = some (.ret (.int .i64 (idxP p xs 0)), h) := by
  obtain ⟨⟨o, e', h'⟩, hx, hh, hq⟩ := indexFMem_loop xs f p g caps z r h hn hs hg xs 0 (by simp) (by omega) (.int .i64 0) .junk .junk .junk
  simp only [Int.natCast_zero] at hx hh hq
  subst hh
  rw [call46]
  rcases hq with ⟨rfl, h1⟩ | ⟨rfl, h1⟩
  · simp only [k46, Tryz.f46, regEnd_nrm (lv46 _), pu46, x46_0, a46_0, x46_1, a46_1, x46_2, a46_2, x46_3, a46_3, x46_4, a46_4, x46_5, a46_5, x46_6, a46_6, x46_7, a46_7, sxAll, arithA, Nat.reduceEqDiff, Env.keep, qt_eq, isAlloc, resultsA, packA, storeA, indexAddrA, fieldA, indexA, unA, fieldAddrA, loadA, Rv.part, cellsAt, TD.isAgg, convH, convA, buildA, fillA, setCells, copies, lenA, optA, boundA, mapO, ↓Option.bind_some, ↓Option.bind_none, Nat.reduceBEq, Nat.reduceAdd, Nat.reduceMul, Nat.reduceLeDiff, Nat.reduceSub, Nat.reduceLT, Nat.reduceGT, Int.reduceBEq, Int.reduceLT, Int.reduceLE, bne, ↓reduceIte, ty22, List.length_map, hx, h1]
    exact leave_kept rfl rfl
  · simp only [k46, Tryz.f46, regEnd_nrm (lv46 _), pu46, x46_0, a46_0, x46_1, a46_1, x46_2, a46_2, x46_3, a46_3, x46_4, a46_4, x46_5, a46_5, x46_6, a46_6, x46_7, a46_7, sxAll, arithA, Nat.reduceEqDiff, Env.keep, qt_eq, isAlloc, resultsA, packA, storeA, indexAddrA, fieldA, indexA, unA, fieldAddrA, loadA, Rv.part, cellsAt, TD.isAgg, convH, convA, buildA, fillA, setCells, copies, lenA, optA, boundA, mapO, ↓Option.bind_some, ↓Option.bind_none, Nat.reduceBEq, Nat.reduceAdd, Nat.reduceMul, Nat.reduceLeDiff, Nat.reduceSub, Nat.reduceLT, Nat.reduceGT, Int.reduceBEq, Int.reduceLT, Int.reduceLE, bne, ↓reduceIte, ty22, List.length_map, hx, h1]
    exact leave_kept rfl rfl
theorem containsFMem_eq {α : Type} (xs : List α) (f : α → List AV) (p : α → Bool) (g : Nat) (caps : List AV) (z : Nat) (r : Room) (h : Heap) (hn : xs.length < 1000000000) (hs : ∀ a ∈ xs, (f a).length = 3)
    (hg : ∀ a ∈ xs, call cfg g (.agg (f a) :: caps) h = some (.ret (.bool (p a)), h)) : call cfg 26 [.lst (xs.map fun a => .agg (f a)) z r, .clo g caps] h = some (.ret (.bool (xs.any p)), h) := by
  rw [call26]
  simp only [k26, Tryz.f26, regEnd_nrm (lv26 _), pu26, x26_0, a26_0, x26_1, a26_1, sxAll, arithA, Nat.reduceEqDiff, Env.keep, qt_eq, isAlloc, resultsA, packA, storeA, indexAddrA, fieldA, indexA, unA, fieldAddrA, loadA, Rv.part, cellsAt, TD.isAgg, convH, convA, buildA, fillA, setCells, copies, lenA, optA, boundA, mapO, ↓Option.bind_some, ↓Option.bind_none, Nat.reduceBEq, Nat.reduceAdd, Nat.reduceMul, Nat.reduceLeDiff, Nat.reduceSub, Nat.reduceLT, Nat.reduceGT, Int.reduceBEq, Int.reduceLT, Int.reduceLE, bne, ↓reduceIte, indexFMem_eq xs f p g caps z r h hn hs hg, pu46, idxP_any]
  exact leave_kept rfl rfl

theorem lv47 (r : Nat) : cfg.live 47 r = some [0, 1, 4, 5, 7, 8, 9, 16] := rfl
theorem ok47 : okB cfg0 47 Tryz.f47 (Tryz.f47.body.getD .skip) = true := by kernel_rfl
theorem pu47 : cfg.pure 47 = true := rfl
instance tight47 {d : Option Nat} : TightD cfg 47 d := ⟨fun _ _ => rfl⟩
def a47_0 : Array Oper := codeOps (codeAt [false] (Tryz.f47.body.getD .skip))
def b47_0 : Array Oper := a47_0
def r47_0 : Code := .region 0 a47_0 false
theorem x47_0 (e : Env) (h : Heap) : exec cfg 47 r47_0 e h = (ops cfg 47 b47_0 (a47_0.toList) e h).bind (regEnd cfg 47 0 false) := region_at _ _ _ _ _ _ _
def a47_1 : Array Oper := codeOps (codeAt [true, false, false] (Tryz.f47.body.getD .skip))
def b47_1 : Array Oper := a47_1
def r47_1 : Code := .region 1 a47_1 false
theorem x47_1 (e : Env) (h : Heap) : exec cfg 47 r47_1 e h = (ops cfg 47 b47_1 (a47_1.toList) e h).bind (regEnd cfg 47 1 false) := region_at _ _ _ _ _ _ _
def a47_2 : Array Oper := codeOps (codeAt [true, false, true, false, false, false] (Tryz.f47.body.getD .skip))
def b47_2 : Array Oper := a47_2
def r47_2 : Code := .region 2 a47_2 false
theorem x47_2 (e : Env) (h : Heap) : exec cfg 47 r47_2 e h = (ops cfg 47 b47_2 (a47_2.toList) e h).bind (regEnd cfg 47 2 false) := region_at _ _ _ _ _ _ _
def a47_3 : Array Oper := codeOps (codeAt [true, false, true, false, false, true, true, false, false, false] (Tryz.f47.body.getD .skip))
def b47_3 : Array Oper := a47_3
def r47_3 : Code := .region 3 a47_3 false
theorem x47_3 (e : Env) (h : Heap) : exec cfg 47 r47_3 e h = (ops cfg 47 b47_3 (a47_3.toList) e h).bind (regEnd cfg 47 3 false) := region_at _ _ _ _ _ _ _
def a47_4 : Array Oper := codeOps (codeAt [true, false, true, false, false, true, true, false, false, true, false] (Tryz.f47.body.getD .skip))
def b47_4 : Array Oper := a47_4
def r47_4 : Code := .region 4 a47_4 false
theorem x47_4 (e : Env) (h : Heap) : exec cfg 47 r47_4 e h = (ops cfg 47 b47_4 (a47_4.toList) e h).bind (regEnd cfg 47 4 false) := region_at _ _ _ _ _ _ _
def a47_5 : Array Oper := codeOps (codeAt [true, false, true, false, false, true, true, false, false, true, true, false, false] (Tryz.f47.body.getD .skip))
def b47_5 : Array Oper := a47_5
def r47_5 : Code := .region 5 a47_5 false
theorem x47_5 (e : Env) (h : Heap) : exec cfg 47 r47_5 e h = (ops cfg 47 b47_5 (a47_5.toList) e h).bind (regEnd cfg 47 5 false) := region_at _ _ _ _ _ _ _
def a47_6 : Array Oper := codeOps (codeAt [true, false, true, false, false, true, true, true] (Tryz.f47.body.getD .skip))
def b47_6 : Array Oper := a47_6
def r47_6 : Code := .region 6 a47_6 false
theorem x47_6 (e : Env) (h : Heap) : exec cfg 47 r47_6 e h = (ops cfg 47 b47_6 (a47_6.toList) e h).bind (regEnd cfg 47 6 false) := region_at _ _ _ _ _ _ _
def a47_7 : Array Oper := codeOps (codeAt [true, true, false] (Tryz.f47.body.getD .skip))
def b47_7 : Array Oper := a47_7
def r47_7 : Code := .region 7 a47_7 false
theorem x47_7 (e : Env) (h : Heap) : exec cfg 47 r47_7 e h = (ops cfg 47 b47_7 (a47_7.toList) e h).bind (regEnd cfg 47 7 false) := region_at _ _ _ _ _ _ _
def l47_0 : Code := (.seq r47_2 (.seq (.cond (.tmp 9) .skip (.exit 0)) (.seq (.block 1 (.seq r47_3 (.seq r47_4 (.cond (.tmp 16) (.seq r47_5 .ret) .skip)))) r47_6)))
def k47 : Code := (.seq r47_0 (.seq (.seq r47_1 (.block 0 (.loop l47_0))) (.seq r47_7 .ret)))
theorem body47 : Tryz.f47.body = some k47 := by kernel_rfl
theorem call47 (x0 x1 : AV) (h : Heap) : call cfg 47 [x0, x1] h = (exec cfg 47 k47 [(0, x0), (1, x1)] h).bind (callEnd cfg 47 h [.tmp 4]) := call_at2 (fnat Tryz.func47 body47 (by rw [← ok47]; kernel_rfl)) rfl rfl
theorem lv28 (r : Nat) : cfg.live 28 r = some [0, 1, 4] := rfl
theorem ok28 : okB cfg0 28 Tryz.f28 (Tryz.f28.body.getD .skip) = true := by kernel_rfl
theorem pu28 : cfg.pure 28 = true := rfl
instance tight28 {d : Option Nat} : TightD cfg 28 d := ⟨fun _ _ => rfl⟩
def a28_0 : Array Oper := codeOps (codeAt [false] (Tryz.f28.body.getD .skip))
def b28_0 : Array Oper := a28_0
def r28_0 : Code := .region 0 a28_0 false
theorem x28_0 (e : Env) (h : Heap) : exec cfg 28 r28_0 e h = (ops cfg 28 b28_0 (a28_0.toList) e h).bind (regEnd cfg 28 0 false) := region_at _ _ _ _ _ _ _
def a28_1 : Array Oper := codeOps (codeAt [true, false] (Tryz.f28.body.getD .skip))
def b28_1 : Array Oper := a28_1
def r28_1 : Code := .region 1 a28_1 false
theorem x28_1 (e : Env) (h : Heap) : exec cfg 28 r28_1 e h = (ops cfg 28 b28_1 (a28_1.toList) e h).bind (regEnd cfg 28 1 false) := region_at _ _ _ _ _ _ _
def k28 : Code := (.seq r28_0 (.seq r28_1 .ret))
theorem body28 : Tryz.f28.body = some k28 := by kernel_rfl
theorem call28 (x0 x1 : AV) (h : Heap) : call cfg 28 [x0, x1] h = (exec cfg 28 k28 [(0, x0), (1, x1)] h).bind (callEnd cfg 28 h [.tmp 4]) := call_at2 (fnat Tryz.func28 body28 (by rw [← ok28]; kernel_rfl)) rfl rfl

theorem indexFFun_loop {α : Type} (xs : List α) (f : α → List AV) (p : α → Bool) (g : Nat) (caps : List AV) (z : Nat) (r : Room) (h : Heap) (hn : xs.length < 1000000000) (hs : ∀ a ∈ xs, (f a).length = 5)
    (hg : ∀ a ∈ xs, call cfg g (.agg (f a) :: caps) h = some (.ret (.bool (p a)), h)) : ∀ (ys : List α) (i : Nat), xs.drop i = ys → i ≤ xs.length → ∀ c d t e,
    Got (exec cfg 47 (.loop l47_0) [(0, .lst (xs.map fun a => .agg (f a)) z r), (1, .clo g caps), (4, c), (5, d), (7, .int .i64 xs.length), (8, .int .i64 i), (9, t), (16, e)] h) (fun q => q.2.2 = h ∧
      ((q.1 = .exit 0 ∧ idxP p ys i = -1) ∨ (q.1 = .ret ∧ q.2.1.get 4 = .int .i64 (idxP p ys i)))) := by
  intro ys
  induction ys with
  | nil =>
    intro i hd hi c d t e
    rw [got_loop]
    simp only [l47_0, k47, Tryz.f47, regEnd_nrm (lv47 _), pu47, x47_0, a47_0, x47_1, a47_1, x47_2, a47_2, x47_3, a47_3, x47_4, a47_4, x47_5, a47_5, x47_6, a47_6, x47_7, a47_7, sxAll, arithA, Nat.reduceEqDiff, Env.keep, qt_eq, isAlloc, resultsA, packA, storeA, indexAddrA, fieldA, indexA, unA, fieldAddrA, loadA, Rv.part, cellsAt, TD.isAgg, convH, convA, buildA, fillA, setCells, copies, lenA, optA, boundA, mapO, ↓Option.bind_some, ↓Option.bind_none, Nat.reduceBEq, Nat.reduceAdd, Nat.reduceMul, Nat.reduceLeDiff, Nat.reduceSub, Nat.reduceLT, Nat.reduceGT, Int.reduceBEq, Int.reduceLT, Int.reduceLE, bne, ↓reduceIte, at_end hd]
    exact ⟨trivial, .inl ⟨trivial, rfl⟩⟩
  | cons y r ih =>
    intro i hd hi c d t e
    obtain ⟨hlt, hget, hd'⟩ := at_drop hd
    obtain ⟨_, hx, _⟩ := at_drop (drop_map (f := fun a => AV.agg (f a)) hd)
    have hmem : y ∈ xs := List.mem_of_getElem? hget
    have hw := wrap_succ (i := i) (by omega)
    have hc := hg y hmem
    have hsz := hs y hmem
    have hle : ((5 : Nat) ≤ (f y).length) = True := by simp [hsz]
    have htk : (f y).take 5 = f y := List.take_of_length_le (by omega)
    have hbq : ((f y).length == 5) = true := by simp [hsz]
    rw [got_loop]
    cases he : p y with
    | true =>
      rw [he] at hc
      simp only [l47_0, k47, Tryz.f47, regEnd_nrm (lv47 _), pu47, x47_0, a47_0, x47_1, a47_1, x47_2, a47_2, x47_3, a47_3, x47_4, a47_4, x47_5, a47_5, x47_6, a47_6, x47_7, a47_7, sxAll, arithA, Nat.reduceEqDiff, Env.keep, qt_eq, isAlloc, resultsA, packA, storeA, indexAddrA, fieldA, indexA, unA, fieldAddrA, loadA, Rv.part, cellsAt, TD.isAgg, convH, convA, buildA, fillA, setCells, copies, lenA, optA, boundA, mapO, ↓Option.bind_some, ↓Option.bind_none, Nat.reduceBEq, Nat.reduceAdd, Nat.reduceMul, Nat.reduceLeDiff, Nat.reduceSub, Nat.reduceLT, Nat.reduceGT, Int.reduceBEq, Int.reduceLT, Int.reduceLE, bne, ↓reduceIte, hlt, indexAddrA, ty24, ty38, hx, hc, hle, htk, hbq]
      exact ⟨trivial, .inr ⟨trivial, by simp [Env.get_cons, idxP, he]⟩⟩
    | false =>
      rw [he] at hc
      have := ih (i + 1) hd' (by simp at hlt; omega)
      simp only [l47_0] at this ⊢
      simp only [k47, Tryz.f47, regEnd_nrm (lv47 _), pu47, x47_0, a47_0, x47_1, a47_1, x47_2, a47_2, x47_3, a47_3, x47_4, a47_4, x47_5, a47_5, x47_6, a47_6, x47_7, a47_7, sxAll, arithA, Nat.reduceEqDiff, Env.keep, qt_eq, isAlloc, resultsA, packA, storeA, indexAddrA, fieldA, indexA, unA, fieldAddrA, loadA, Rv.part, cellsAt, TD.isAgg, convH, convA, buildA, fillA, setCells, copies, lenA, optA, boundA, mapO, ↓Option.bind_some, ↓Option.bind_none, Nat.reduceBEq, Nat.reduceAdd, Nat.reduceMul, Nat.reduceLeDiff, Nat.reduceSub, Nat.reduceLT, Nat.reduceGT, Int.reduceBEq, Int.reduceLT, Int.reduceLE, bne, ↓reduceIte, hlt, indexAddrA, ty24, ty38, hx, hw, hc, idxP, he, hle, htk, hbq] at this ⊢
      exact this _ _ _ _
theorem indexFFun_eq {α : Type} (xs : List α) (f : α → List AV) (p : α → Bool) (g : Nat) (caps : List AV) (z : Nat) (r : Room) (h : Heap) (hn : xs.length < 1000000000) (hs : ∀ a ∈ xs, (f a).length = 5)
    (hg : ∀ a ∈ xs, call cfg g (.agg (f a) :: caps) h = some (.ret (.bool (p a)), h)) : call cfg 47 [.lst (xs.map fun a => .agg (f a)) z r, .clo g caps] h = some (.ret (.int .i64 (idxP p xs 0)), h) := by
  obtain ⟨⟨o, e', h'⟩, hx, hh, hq⟩ := indexFFun_loop xs f p g caps z r h hn hs hg xs 0 (by simp) (by omega) (.int .i64 0) .junk .junk .junk
  simp only [Int.natCast_zero] at hx hh hq
  subst hh
  rw [call47]
  rcases hq with ⟨rfl, h1⟩ | ⟨rfl, h1⟩
  · simp only [k47, Tryz.f47, regEnd_nrm (lv47 _), pu47, x47_0, a47_0, x47_1, a47_1, x47_2, a47_2, x47_3, a47_3, x47_4, a47_4, x47_5, a47_5, x47_6, a47_6, x47_7, a47_7, sxAll, arithA, Nat.reduceEqDiff, Env.keep, qt_eq, isAlloc, resultsA, packA, storeA, indexAddrA, fieldA, indexA, unA, fieldAddrA, loadA, Rv.part, cellsAt, TD.isAgg, convH, convA, buildA, fillA, setCells, copies, lenA, optA, boundA, mapO, ↓Option.bind_some, ↓Option.bind_none, Nat.reduceBEq, Nat.reduceAdd, Nat.reduceMul, Nat.reduceLeDiff, Nat.reduceSub, Nat.reduceLT, Nat.reduceGT, Int.reduceBEq, Int.reduceLT, Int.reduceLE, bne, ↓reduceIte, ty24, List.length_map, hx, h1]
    exact leave_kept rfl rfl
  · simp only [k47, Tryz.f47, regEnd_nrm (lv47 _), pu47, x47_0, a47_0, x47_1, a47_1, x47_2, a47_2, x47_3, a47_3, x47_4, a47_4, x47_5, a47_5, x47_6, a47_6, x47_7, a47_7, sxAll, arithA, Nat.reduceEqDiff, Env.keep, qt_eq, isAlloc, resultsA, packA, storeA, indexAddrA, fieldA, indexA, unA, fieldAddrA, loadA, Rv.part, cellsAt, TD.isAgg, convH, convA, buildA, fillA, setCells, copies, lenA, optA, boundA, mapO, ↓Option.bind_some, ↓Option.bind_none, Nat.reduceBEq, Nat.reduceAdd, Nat.reduceMul, Nat.reduceLeDiff, Nat.reduceSub, Nat.reduceLT, Nat.reduceGT, Int.reduceBEq, Int.reduceLT, Int.reduceLE, bne, ↓reduceIte, ty24, List.length_map, hx, h1]
    exact leave_kept rfl rfl
theorem containsFFun_eq {α : Type} (xs : List α) (f : α → List AV) (p : α → Bool) (g : Nat) (caps : List AV) (z : Nat) (r : Room) (h : Heap) (hn : xs.length < 1000000000) (hs : ∀ a ∈ xs, (f a).length = 5)
    (hg : ∀ a ∈ xs, call cfg g (.agg (f a) :: caps) h = some (.ret (.bool (p a)), h)) : call cfg 28 [.lst (xs.map fun a => .agg (f a)) z r, .clo g caps] h = some (.ret (.bool (xs.any p)), h) := by
  rw [call28]
  simp only [k28, Tryz.f28, regEnd_nrm (lv28 _), pu28, x28_0, a28_0, x28_1, a28_1, sxAll, arithA, Nat.reduceEqDiff, Env.keep, qt_eq, isAlloc, resultsA, packA, storeA, indexAddrA, fieldA, indexA, unA, fieldAddrA, loadA, Rv.part, cellsAt, TD.isAgg, convH, convA, buildA, fillA, setCells, copies, lenA, optA, boundA, mapO, ↓Option.bind_some, ↓Option.bind_none, Nat.reduceBEq, Nat.reduceAdd, Nat.reduceMul, Nat.reduceLeDiff, Nat.reduceSub, Nat.reduceLT, Nat.reduceGT, Int.reduceBEq, Int.reduceLT, Int.reduceLE, bne, ↓reduceIte, indexFFun_eq xs f p g caps z r h hn hs hg, pu47, idxP_any]
  exact leave_kept rfl rfl

theorem lv64 (r : Nat) : cfg.live 64 r = some [0, 1, 4, 5, 7, 8, 9, 16] := rfl
theorem ok64 : okB cfg0 64 Tryz.f64 (Tryz.f64.body.getD .skip) = true := by kernel_rfl
theorem pu64 : cfg.pure 64 = true := rfl
instance tight64 {d : Option Nat} : TightD cfg 64 d := ⟨fun _ _ => rfl⟩
def a64_0 : Array Oper := codeOps (codeAt [false] (Tryz.f64.body.getD .skip))
def b64_0 : Array Oper := a64_0
def r64_0 : Code := .region 0 a64_0 false
theorem x64_0 (e : Env) (h : Heap) : exec cfg 64 r64_0 e h = (ops cfg 64 b64_0 (a64_0.toList) e h).bind (regEnd cfg 64 0 false) := region_at _ _ _ _ _ _ _
def a64_1 : Array Oper := codeOps (codeAt [true, false, false] (Tryz.f64.body.getD .skip))
def b64_1 : Array Oper := a64_1
def r64_1 : Code := .region 1 a64_1 false
theorem x64_1 (e : Env) (h : Heap) : exec cfg 64 r64_1 e h = (ops cfg 64 b64_1 (a64_1.toList) e h).bind (regEnd cfg 64 1 false) := region_at _ _ _ _ _ _ _
def a64_2 : Array Oper := codeOps (codeAt [true, false, true, false, false, false] (Tryz.f64.body.getD .skip))
def b64_2 : Array Oper := a64_2
def r64_2 : Code := .region 2 a64_2 false
theorem x64_2 (e : Env) (h : Heap) : exec cfg 64 r64_2 e h = (ops cfg 64 b64_2 (a64_2.toList) e h).bind (regEnd cfg 64 2 false) := region_at _ _ _ _ _ _ _
def a64_3 : Array Oper := codeOps (codeAt [true, false, true, false, false, true, true, false, false, false] (Tryz.f64.body.getD .skip))
def b64_3 : Array Oper := a64_3
def r64_3 : Code := .region 3 a64_3 false
theorem x64_3 (e : Env) (h : Heap) : exec cfg 64 r64_3 e h = (ops cfg 64 b64_3 (a64_3.toList) e h).bind (regEnd cfg 64 3 false) := region_at _ _ _ _ _ _ _
def a64_4 : Array Oper := codeOps (codeAt [true, false, true, false, false, true, true, false, false, true, false] (Tryz.f64.body.getD .skip))
def b64_4 : Array Oper := a64_4
def r64_4 : Code := .region 4 a64_4 false
theorem x64_4 (e : Env) (h : Heap) : exec cfg 64 r64_4 e h = (ops cfg 64 b64_4 (a64_4.toList) e h).bind (regEnd cfg 64 4 false) := region_at _ _ _ _ _ _ _
def a64_5 : Array Oper := codeOps (codeAt [true, false, true, false, false, true, true, false, false, true, true, false, false] (Tryz.f64.body.getD .skip))
def b64_5 : Array Oper := a64_5
def r64_5 : Code := .region 5 a64_5 false
theorem x64_5 (e : Env) (h : Heap) : exec cfg 64 r64_5 e h = (ops cfg 64 b64_5 (a64_5.toList) e h).bind (regEnd cfg 64 5 false) := region_at _ _ _ _ _ _ _
def a64_6 : Array Oper := codeOps (codeAt [true, false, true, false, false, true, true, true] (Tryz.f64.body.getD .skip))
def b64_6 : Array Oper := a64_6
def r64_6 : Code := .region 6 a64_6 false
theorem x64_6 (e : Env) (h : Heap) : exec cfg 64 r64_6 e h = (ops cfg 64 b64_6 (a64_6.toList) e h).bind (regEnd cfg 64 6 false) := region_at _ _ _ _ _ _ _
def a64_7 : Array Oper := codeOps (codeAt [true, true, false] (Tryz.f64.body.getD .skip))
def b64_7 : Array Oper := a64_7
def r64_7 : Code := .region 7 a64_7 false
theorem x64_7 (e : Env) (h : Heap) : exec cfg 64 r64_7 e h = (ops cfg 64 b64_7 (a64_7.toList) e h).bind (regEnd cfg 64 7 false) := region_at _ _ _ _ _ _ _
def l64_0 : Code := (.seq r64_2 (.seq (.cond (.tmp 9) .skip (.exit 0)) (.seq (.block 1 (.seq r64_3 (.seq r64_4 (.cond (.tmp 16) (.seq r64_5 .ret) .skip)))) r64_6)))
def k64 : Code := (.seq r64_0 (.seq (.seq r64_1 (.block 0 (.loop l64_0))) (.seq r64_7 .ret)))
theorem body64 : Tryz.f64.body = some k64 := by kernel_rfl
theorem call64 (x0 x1 : AV) (h : Heap) : call cfg 64 [x0, x1] h = (exec cfg 64 k64 [(0, x0), (1, x1)] h).bind (callEnd cfg 64 h [.tmp 4]) := call_at2 (fnat Tryz.func64 body64 (by rw [← ok64]; kernel_rfl)) rfl rfl
theorem lv48 (r : Nat) : cfg.live 48 r = some [0, 1, 4] := rfl
theorem ok48 : okB cfg0 48 Tryz.f48 (Tryz.f48.body.getD .skip) = true := by kernel_rfl
theorem pu48 : cfg.pure 48 = true := rfl
instance tight48 {d : Option Nat} : TightD cfg 48 d := ⟨fun _ _ => rfl⟩
def a48_0 : Array Oper := codeOps (codeAt [false] (Tryz.f48.body.getD .skip))
def b48_0 : Array Oper := a48_0
def r48_0 : Code := .region 0 a48_0 false
theorem x48_0 (e : Env) (h : Heap) : exec cfg 48 r48_0 e h = (ops cfg 48 b48_0 (a48_0.toList) e h).bind (regEnd cfg 48 0 false) := region_at _ _ _ _ _ _ _
def a48_1 : Array Oper := codeOps (codeAt [true, false] (Tryz.f48.body.getD .skip))
def b48_1 : Array Oper := a48_1
def r48_1 : Code := .region 1 a48_1 false
theorem x48_1 (e : Env) (h : Heap) : exec cfg 48 r48_1 e h = (ops cfg 48 b48_1 (a48_1.toList) e h).bind (regEnd cfg 48 1 false) := region_at _ _ _ _ _ _ _
def k48 : Code := (.seq r48_0 (.seq r48_1 .ret))
theorem body48 : Tryz.f48.body = some k48 := by kernel_rfl
theorem call48 (x0 x1 : AV) (h : Heap) : call cfg 48 [x0, x1] h = (exec cfg 48 k48 [(0, x0), (1, x1)] h).bind (callEnd cfg 48 h [.tmp 4]) := call_at2 (fnat Tryz.func48 body48 (by rw [← ok48]; kernel_rfl)) rfl rfl

theorem indexFIns_loop {α : Type} (xs : List α) (f : α → List AV) (p : α → Bool) (g : Nat) (caps : List AV) (z : Nat) (r : Room) (h : Heap) (hn : xs.length < 1000000000) (hs : ∀ a ∈ xs, (f a).length = 6)
    (hg : ∀ a ∈ xs, call cfg g (.agg (f a) :: caps) h = some (.ret (.bool (p a)), h)) : ∀ (ys : List α) (i : Nat), xs.drop i = ys → i ≤ xs.length → ∀ c d t e,
    Got (exec cfg 64 (.loop l64_0) [(0, .lst (xs.map fun a => .agg (f a)) z r), (1, .clo g caps), (4, c), (5, d), (7, .int .i64 xs.length), (8, .int .i64 i), (9, t), (16, e)] h) (fun q => q.2.2 = h ∧
      ((q.1 = .exit 0 ∧ idxP p ys i = -1) ∨ (q.1 = .ret ∧ q.2.1.get 4 = .int .i64 (idxP p ys i)))) := by
  intro ys
  induction ys with
  | nil =>
    intro i hd hi c d t e
    rw [got_loop]
    simp only [l64_0, k64, Tryz.f64, regEnd_nrm (lv64 _), pu64, x64_0, a64_0, x64_1, a64_1, x64_2, a64_2, x64_3, a64_3, x64_4, a64_4, x64_5, a64_5, x64_6, a64_6, x64_7, a64_7, sxAll, arithA, Nat.reduceEqDiff, Env.keep, qt_eq, isAlloc, resultsA, packA, storeA, indexAddrA, fieldA, indexA, unA, fieldAddrA, loadA, Rv.part, cellsAt, TD.isAgg, convH, convA, buildA, fillA, setCells, copies, lenA, optA, boundA, mapO, ↓Option.bind_some, ↓Option.bind_none, Nat.reduceBEq, Nat.reduceAdd, Nat.reduceMul, Nat.reduceLeDiff, Nat.reduceSub, Nat.reduceLT, Nat.reduceGT, Int.reduceBEq, Int.reduceLT, Int.reduceLE, bne, ↓reduceIte, at_end hd]
    exact ⟨trivial, .inl ⟨trivial, rfl⟩⟩
  | cons y r ih =>
    intro i hd hi c d t e
    obtain ⟨hlt, hget, hd'⟩ := at_drop hd
    obtain ⟨_, hx, _⟩ := at_drop (drop_map (f := fun a => AV.agg (f a)) hd)
    have hmem : y ∈ xs := List.mem_of_getElem? hget
    have hw := wrap_succ (i := i) (by omega)
    have hc := hg y hmem
    have hsz := hs y hmem
    have hle : ((6 : Nat) ≤ (f y).length) = True := by simp [hsz]
    have htk : (f y).take 6 = f y := List.take_of_length_le (by omega)
    have hbq : ((f y).length == 6) = true := by simp [hsz]
    rw [got_loop]
    cases he : p y with
    | true =>
      rw [he] at hc
      simp only [l64_0, k64, Tryz.f64, regEnd_nrm (lv64 _), pu64, x64_0, a64_0, x64_1, a64_1, x64_2, a64_2, x64_3, a64_3, x64_4, a64_4, x64_5, a64_5, x64_6, a64_6, x64_7, a64_7, sxAll, arithA, Nat.reduceEqDiff, Env.keep, qt_eq, isAlloc, resultsA, packA, storeA, indexAddrA, fieldA, indexA, unA, fieldAddrA, loadA, Rv.part, cellsAt, TD.isAgg, convH, convA, buildA, fillA, setCells, copies, lenA, optA, boundA, mapO, ↓Option.bind_some, ↓Option.bind_none, Nat.reduceBEq, Nat.reduceAdd, Nat.reduceMul, Nat.reduceLeDiff, Nat.reduceSub, Nat.reduceLT, Nat.reduceGT, Int.reduceBEq, Int.reduceLT, Int.reduceLE, bne, ↓reduceIte, hlt, indexAddrA, ty36, ty42, hx, hc, hle, htk, hbq]
      exact ⟨trivial, .inr ⟨trivial, by simp [Env.get_cons, idxP, he]⟩⟩
    | false =>
      rw [he] at hc
      have := ih (i + 1) hd' (by simp at hlt; omega)
      simp only [l64_0] at this ⊢
      simp only [k64, Tryz.f64, regEnd_nrm (lv64 _), pu64, x64_0, a64_0, x64_1, a64_1, x64_2, a64_2, x64_3, a64_3, x64_4, a64_4, x64_5, a64_5, x64_6, a64_6, x64_7, a64_7, sxAll, arithA, Nat.reduceEqDiff, Env.keep, qt_eq, isAlloc, resultsA, packA, storeA, indexAddrA, fieldA, indexA, unA, fieldAddrA, loadA, Rv.part, cellsAt, TD.isAgg, convH, convA, buildA, fillA, setCells, copies, lenA, optA, boundA, mapO, ↓Option.bind_some, ↓Option.bind_none, Nat.reduceBEq, Nat.reduceAdd, Nat.reduceMul, Nat.reduceLeDiff, Nat.reduceSub, Nat.reduceLT, Nat.reduceGT, Int.reduceBEq, Int.reduceLT, Int.reduceLE, bne, ↓reduceIte, hlt, indexAddrA, ty36, ty42, hx, hw, hc, idxP, he, hle, htk, hbq] at this ⊢
      exact this _ _ _ _
theorem indexFIns_eq {α : Type} (xs : List α) (f : α → List AV) (p : α → Bool) (g : Nat) (caps : List AV) (z : Nat) (r : Room) (h : Heap) (hn : xs.length < 1000000000) (hs : ∀ a ∈ xs, (f a).length = 6)
    (hg : ∀ a ∈ xs, call cfg g (.agg (f a) :: caps) h = some (.ret (.bool (p a)), h)) : call cfg 64 [.lst (xs.map fun a => .agg (f a)) z r, .clo g caps] h = some (.ret (.int .i64 (idxP p xs 0)), h) := by
  obtain ⟨⟨o, e', h'⟩, hx, hh, hq⟩ := indexFIns_loop xs f p g caps z r h hn hs hg xs 0 (by simp) (by omega) (.int .i64 0) .junk .junk .junk
  simp only [Int.natCast_zero] at hx hh hq
  subst hh
  rw [call64]
  rcases hq with ⟨rfl, h1⟩ | ⟨rfl, h1⟩
  · simp only [k64, Tryz.f64, regEnd_nrm (lv64 _), pu64, x64_0, a64_0, x64_1, a64_1, x64_2, a64_2, x64_3, a64_3, x64_4, a64_4, x64_5, a64_5, x64_6, a64_6, x64_7, a64_7, sxAll, arithA, Nat.reduceEqDiff, Env.keep, qt_eq, isAlloc, resultsA, packA, storeA, indexAddrA, fieldA, indexA, unA, fieldAddrA, loadA, Rv.part, cellsAt, TD.isAgg, convH, convA, buildA, fillA, setCells, copies, lenA, optA, boundA, mapO, ↓Option.bind_some, ↓Option.bind_none, Nat.reduceBEq, Nat.reduceAdd, Nat.reduceMul, Nat.reduceLeDiff, Nat.reduceSub, Nat.reduceLT, Nat.reduceGT, Int.reduceBEq, Int.reduceLT, Int.reduceLE, bne, ↓reduceIte, ty36, List.length_map, hx, h1]
    exact leave_kept rfl rfl
  · simp only [k64, Tryz.f64, regEnd_nrm (lv64 _), pu64, x64_0, a64_0, x64_1, a64_1, x64_2, a64_2, x64_3, a64_3, x64_4, a64_4, x64_5, a64_5, x64_6, a64_6, x64_7, a64_7, sxAll, arithA, Nat.reduceEqDiff, Env.keep, qt_eq, isAlloc, resultsA, packA, storeA, indexAddrA, fieldA, indexA, unA, fieldAddrA, loadA, Rv.part, cellsAt, TD.isAgg, convH, convA, buildA, fillA, setCells, copies, lenA, optA, boundA, mapO, ↓Option.bind_some, ↓Option.bind_none, Nat.reduceBEq, Nat.reduceAdd, Nat.reduceMul, Nat.reduceLeDiff, Nat.reduceSub, Nat.reduceLT, Nat.reduceGT, Int.reduceBEq, Int.reduceLT, Int.reduceLE, bne, ↓reduceIte, ty36, List.length_map, hx, h1]
    exact leave_kept rfl rfl
theorem containsFIns_eq {α : Type} (xs : List α) (f : α → List AV) (p : α → Bool) (g : Nat) (caps : List AV) (z : Nat) (r : Room) (h : Heap) (hn : xs.length < 1000000000) (hs : ∀ a ∈ xs, (f a).length = 6)
    (hg : ∀ a ∈ xs, call cfg g (.agg (f a) :: caps) h = some (.ret (.bool (p a)), h)) : call cfg 48 [.lst (xs.map fun a => .agg (f a)) z r, .clo g caps] h = some (.ret (.bool (xs.any p)), h) := by
  rw [call48]
  simp only [k48, Tryz.f48, regEnd_nrm (lv48 _), pu48, x48_0, a48_0, x48_1, a48_1, sxAll, arithA, Nat.reduceEqDiff, Env.keep, qt_eq, isAlloc, resultsA, packA, storeA, indexAddrA, fieldA, indexA, unA, fieldAddrA, loadA, Rv.part, cellsAt, TD.isAgg, convH, convA, buildA, fillA, setCells, copies, lenA, optA, boundA, mapO, ↓Option.bind_some, ↓Option.bind_none, Nat.reduceBEq, Nat.reduceAdd, Nat.reduceMul, Nat.reduceLeDiff, Nat.reduceSub, Nat.reduceLT, Nat.reduceGT, Int.reduceBEq, Int.reduceLT, Int.reduceLE, bne, ↓reduceIte, indexFIns_eq xs f p g caps z r h hn hs hg, pu64, idxP_any]
  exact leave_kept rfl rfl

end
end Go.Proofs.Sx

/-
  package code: instructions: what 'of', 'Writes', 'SameIns', 'bare', 'number' answer.
-/
set_option linter.unusedSimpArgs false
set_option linter.unusedVariables false
set_option maxRecDepth 100000
namespace Go.Proofs.Sx
open Go.Rv Go.Proofs
attribute [local congr] bind_left got_left guardK_left
noncomputable section

structure SIns where
  op : Int
  r : Int
  a : Int
  b : Int
  n : Int
  args : List Int
  z : Nat
  room : Room
def SIns.cells (i : SIns) : List AV := [.int .u8 i.op, .int .i64 i.r, .int .i64 i.a, .int .i64 i.b, .int .i64 i.n, .lst (intL i.args) i.z i.room]

theorem freeze_ints (h : Heap) (n d : Nat) (xs : List Int) : mapO (freezeV h n (d + 1)) (intL xs) = some (intL xs) := freeze_deads h n d (by simp [intL, AV.dead])
theorem freeze_lint (h : Heap) (n d : Nat) (xs : List Int) (z : Nat) (r : Room) : freezeV h n (d + 2) (.lst (intL xs) z r) = some (.lst (intL xs) z r) := by
  show (mapO (freezeV h n (d + 1)) (intL xs)).map _ = _
  rw [freeze_ints]; rfl

abbrev Row := Bool × Bool × Bool × Bool × Int
def rowCells (q : Row) : List AV := [.bool q.1, .bool q.2.1, .bool q.2.2.1, .bool q.2.2.2.1, .int .i64 q.2.2.2.2]
def rowOf (op : Int) : Row := if op < 1 then (false, false, false, false, 0) else opRows.getD op.toNat (false, false, false, false, 0)
def legal (op : Int) : Bool := decide (1 ≤ op) && decide (op < 14)

theorem glob_ops : cfg.glob 1 = some (.ref opCells) := rfl
theorem evalA_glob {C : Cfg} (e : Env) (g : Nat) : evalA C e (.global g) = C.glob g := rfl

theorem lv65 (r : Nat) : cfg.live 65 r = some [0, 1, 2, 3, 12] := rfl
theorem ok65 : okB cfg0 65 Tryz.f65 (Tryz.f65.body.getD .skip) = true := by kernel_rfl
theorem pu65 : cfg.pure 65 = true := rfl
instance tight65 {d : Option Nat} : TightD cfg 65 d := ⟨fun _ _ => rfl⟩
def a65_0 : Array Oper := codeOps (codeAt [false] (Tryz.f65.body.getD .skip))
def b65_0 : Array Oper := a65_0
def r65_0 : Code := .region 0 a65_0 false
theorem im65_1 : cfg.imm 65 1 = true := by kernel_rfl
theorem x65_0 (e : Env) (h : Heap) : exec cfg 65 r65_0 e h = (ops cfg 65 b65_0 (a65_0.toList) e h).bind (regEnd cfg 65 0 false) := region_at _ _ _ _ _ _ _
def a65_1 : Array Oper := codeOps (codeAt [true, false, false] (Tryz.f65.body.getD .skip))
def b65_1 : Array Oper := a65_1
def r65_1 : Code := .region 1 a65_1 false
theorem x65_1 (e : Env) (h : Heap) : exec cfg 65 r65_1 e h = (ops cfg 65 b65_1 (a65_1.toList) e h).bind (regEnd cfg 65 1 false) := region_at _ _ _ _ _ _ _
theorem g65_1_3 : (b65_1[3]?).bind (·.dst) = some 7 := by kernel_rfl
def a65_2 : Array Oper := codeOps (codeAt [true, false, true, false, false] (Tryz.f65.body.getD .skip))
def b65_2 : Array Oper := a65_2
def r65_2 : Code := .region 2 a65_2 false
theorem x65_2 (e : Env) (h : Heap) : exec cfg 65 r65_2 e h = (ops cfg 65 b65_2 (a65_2.toList) e h).bind (regEnd cfg 65 2 false) := region_at _ _ _ _ _ _ _
def a65_3 : Array Oper := codeOps (codeAt [true, true, false] (Tryz.f65.body.getD .skip))
def b65_3 : Array Oper := a65_3
def r65_3 : Code := .region 3 a65_3 false
theorem x65_3 (e : Env) (h : Heap) : exec cfg 65 r65_3 e h = (ops cfg 65 b65_3 (a65_3.toList) e h).bind (regEnd cfg 65 3 false) := region_at _ _ _ _ _ _ _
def k65 : Code := (.seq r65_0 (.seq (.seq r65_1 (.cond (.tmp 12) (.seq r65_2 .ret) .skip)) (.seq r65_3 .ret)))
theorem body65 : Tryz.f65.body = some k65 := by kernel_rfl
theorem call65 (x0 : AV) (h : Heap) : call cfg 65 [x0] h = (exec cfg 65 k65 [(0, x0)] h).bind (callEnd cfg 65 h [.cell 2 101, .tmp 3]) := call_at2 (fnat Tryz.func65 body65 (by rw [← ok65]; kernel_rfl)) rfl rfl

theorem op_cases {op : Int} (h1 : 1 ≤ op) (h2 : op < 14) : op = 1 ∨ op = 2 ∨ op = 3 ∨ op = 4 ∨ op = 5 ∨ op = 6 ∨ op = 7 ∨ op = 8 ∨ op = 9 ∨ op = 10 ∨ op = 11 ∨ op = 12 ∨ op = 13 := by omega

theorem op_row {op : Int} (h1 : 1 ≤ op) (h2 : op < 14) : (op.toNat < 14) = True ∧ (5 ≤ (opCells.drop (op.toNat * 5)).length) = True ∧ (opCells.drop (op.toNat * 5)).take 5 = rowCells (rowOf op) := by
  rcases op_cases h1 h2 with rfl | rfl | rfl | rfl | rfl | rfl | rfl | rfl | rfl | rfl | rfl | rfl | rfl <;> exact ⟨eq_true (by decide), eq_true (by decide), rfl⟩

theorem ofI_eq (i : SIns) (h : Heap) (h0 : 0 ≤ i.op) (h1 : i.op < 256) : call cfg 65 [.agg i.cells] h = some (.ret (.tup [.agg (rowCells (rowOf i.op)), .bool (legal i.op)]), h) := by
  rw [call65]
  have hw : IntKind.i64.wrap i.op = i.op := wrap_id (by omega) (by omega)
  by_cases ha : i.op < 1
  · have e1 : rowOf i.op = (false, false, false, false, 0) := by simp [rowOf, ha]
    have e2 : legal i.op = false := by simp [legal]; omega
    rw [e1, e2]
    simp only [SIns.cells, k65, Tryz.f65, regEnd_nrm (lv65 _), pu65, x65_0, a65_0, im65_1, x65_1, a65_1, sx_guardO g65_1_3, x65_2, a65_2, x65_3, a65_3, sxAll, arithA, Nat.reduceEqDiff, Env.keep, qt_eq, isAlloc, resultsA, packA, storeA, indexAddrA, fieldA, indexA, unA, fieldAddrA, loadA, Rv.part, cellsAt, TD.isAgg, convH, convA, buildA, fillA, setCells, copies, lenA, optA, boundA, mapO, ↓Option.bind_some, ↓Option.bind_none, Nat.reduceBEq, Nat.reduceAdd, Nat.reduceMul, Nat.reduceLeDiff, Nat.reduceSub, Nat.reduceLT, Nat.reduceGT, Int.reduceBEq, Int.reduceLT, Int.reduceLE, bne, ↓reduceIte, ty42, ty5, ty101, ty3, ty4, ha, hw]
    exact leave_pure rfl (by simp) rfl
  · by_cases hb : i.op < 14
    · have e2 : legal i.op = true := by simp [legal]; omega
      have hge : (i.op ≥ 14) = False := by simp; omega
      have hneg : (i.op < 0) = False := by simp; omega
      rw [e2]
      simp only [SIns.cells, k65, Tryz.f65, regEnd_nrm (lv65 _), pu65, x65_0, a65_0, im65_1, x65_1, a65_1, sx_guardO g65_1_3, x65_2, a65_2, x65_3, a65_3, sxAll, arithA, Nat.reduceEqDiff, Env.keep, qt_eq, isAlloc, resultsA, packA, storeA, indexAddrA, fieldA, indexA, unA, fieldAddrA, loadA, Rv.part, cellsAt, TD.isAgg, convH, convA, buildA, fillA, setCells, copies, lenA, optA, boundA, mapO, ↓Option.bind_some, ↓Option.bind_none, Nat.reduceBEq, Nat.reduceAdd, Nat.reduceMul, Nat.reduceLeDiff, Nat.reduceSub, Nat.reduceLT, Nat.reduceGT, Int.reduceBEq, Int.reduceLT, Int.reduceLE, bne, ↓reduceIte, ty42, ty5, ty101, ty3, ty4, ty128, ha, hw, hge, evalA_glob, glob_ops, hneg, (op_row (by omega) hb).1, (op_row (by omega) hb).2.1, (op_row (by omega) hb).2.2, rowCells]
      exact leave_pure rfl (by simp) rfl
    · have e1 : rowOf i.op = (false, false, false, false, 0) := by
        unfold rowOf
        rw [if_neg ha]
        have : opRows.length ≤ i.op.toNat := by simp [opRows]; omega
        rw [List.getD_eq_getElem?_getD, List.getElem?_eq_none this]; rfl
      have e2 : legal i.op = false := by simp [legal]; omega
      have hge : (i.op ≥ 14) = True := by simp; omega
      rw [e1, e2]
      simp only [SIns.cells, k65, Tryz.f65, regEnd_nrm (lv65 _), pu65, x65_0, a65_0, im65_1, x65_1, a65_1, sx_guardO g65_1_3, x65_2, a65_2, x65_3, a65_3, sxAll, arithA, Nat.reduceEqDiff, Env.keep, qt_eq, isAlloc, resultsA, packA, storeA, indexAddrA, fieldA, indexA, unA, fieldAddrA, loadA, Rv.part, cellsAt, TD.isAgg, convH, convA, buildA, fillA, setCells, copies, lenA, optA, boundA, mapO, ↓Option.bind_some, ↓Option.bind_none, Nat.reduceBEq, Nat.reduceAdd, Nat.reduceMul, Nat.reduceLeDiff, Nat.reduceSub, Nat.reduceLT, Nat.reduceGT, Int.reduceBEq, Int.reduceLT, Int.reduceLE, bne, ↓reduceIte, ty42, ty5, ty101, ty3, ty4, ha, hw, hge]
      exact leave_pure rfl (by simp) rfl

theorem lv70 (r : Nat) : cfg.live 70 r = some [0, 1, 2, 3, 4, 5, 15] := rfl
theorem ok70 : okB cfg0 70 Tryz.f70 (Tryz.f70.body.getD .skip) = true := by kernel_rfl
theorem pu70 : cfg.pure 70 = true := rfl
instance tight70 {d : Option Nat} : TightD cfg 70 d := ⟨fun _ _ => rfl⟩
def a70_0 : Array Oper := codeOps (codeAt [false] (Tryz.f70.body.getD .skip))
def b70_0 : Array Oper := a70_0
def r70_0 : Code := .region 0 a70_0 false
theorem im70_1 : cfg.imm 70 1 = true := by kernel_rfl
theorem x70_0 (e : Env) (h : Heap) : exec cfg 70 r70_0 e h = (ops cfg 70 b70_0 (a70_0.toList) e h).bind (regEnd cfg 70 0 false) := region_at _ _ _ _ _ _ _
def a70_1 : Array Oper := codeOps (codeAt [true, false, false] (Tryz.f70.body.getD .skip))
def b70_1 : Array Oper := a70_1
def r70_1 : Code := .region 1 a70_1 false
theorem x70_1 (e : Env) (h : Heap) : exec cfg 70 r70_1 e h = (ops cfg 70 b70_1 (a70_1.toList) e h).bind (regEnd cfg 70 1 false) := region_at _ _ _ _ _ _ _
def a70_2 : Array Oper := codeOps (codeAt [true, false, true, false] (Tryz.f70.body.getD .skip))
def b70_2 : Array Oper := a70_2
def r70_2 : Code := .region 2 a70_2 false
theorem x70_2 (e : Env) (h : Heap) : exec cfg 70 r70_2 e h = (ops cfg 70 b70_2 (a70_2.toList) e h).bind (regEnd cfg 70 2 false) := region_at _ _ _ _ _ _ _
theorem g70_2_1 : (b70_2[1]?).bind (·.dst) = some 12 := by kernel_rfl
def a70_3 : Array Oper := codeOps (codeAt [true, false, true, true, false, false] (Tryz.f70.body.getD .skip))
def b70_3 : Array Oper := a70_3
def r70_3 : Code := .region 3 a70_3 false
theorem x70_3 (e : Env) (h : Heap) : exec cfg 70 r70_3 e h = (ops cfg 70 b70_3 (a70_3.toList) e h).bind (regEnd cfg 70 3 false) := region_at _ _ _ _ _ _ _
def a70_4 : Array Oper := codeOps (codeAt [true, true, false] (Tryz.f70.body.getD .skip))
def b70_4 : Array Oper := a70_4
def r70_4 : Code := .region 4 a70_4 false
theorem x70_4 (e : Env) (h : Heap) : exec cfg 70 r70_4 e h = (ops cfg 70 b70_4 (a70_4.toList) e h).bind (regEnd cfg 70 4 false) := region_at _ _ _ _ _ _ _
def k70 : Code := (.seq r70_0 (.seq (.seq r70_1 (.seq r70_2 (.cond (.tmp 15) (.seq r70_3 .ret) .skip))) (.seq r70_4 .ret)))
theorem body70 : Tryz.f70.body = some k70 := by kernel_rfl
theorem call70 (x0 : AV) (h : Heap) : call cfg 70 [x0] h = (exec cfg 70 k70 [(0, x0)] h).bind (callEnd cfg 70 h [.tmp 2, .tmp 3]) := call_at2 (fnat Tryz.func70 body70 (by rw [← ok70]; kernel_rfl)) rfl rfl

def writesOf (i : SIns) : Int × Bool := if legal i.op && (rowOf i.op).1 then (i.r, true) else (0, false)
theorem writes_eq (i : SIns) (h : Heap) (h0 : 0 ≤ i.op) (h1 : i.op < 256) : call cfg 70 [.agg i.cells] h = some (.ret (.tup [.int .i64 (writesOf i).1, .bool (writesOf i).2]), h) := by
  rw [call70]
  have hc := fun h => ofI_eq i h h0 h1
  unfold writesOf
  generalize hq : rowOf i.op = q at hc
  generalize legal i.op = l at hc
  obtain ⟨q1, q2, q3, q4, q5⟩ := q
  simp only [SIns.cells] at hc
  cases l <;> cases q1 <;> simp only [SIns.cells, rowCells, k70, Tryz.f70, regEnd_nrm (lv70 _), pu70, x70_0, a70_0, im70_1, x70_1, a70_1, x70_2, a70_2, sx_guardO g70_2_1, x70_3, a70_3, x70_4, a70_4, sxAll, arithA, Nat.reduceEqDiff, Env.keep, qt_eq, isAlloc, resultsA, packA, storeA, indexAddrA, fieldA, indexA, unA, fieldAddrA, loadA, Rv.part, cellsAt, TD.isAgg, convH, convA, buildA, fillA, setCells, copies, lenA, optA, boundA, mapO, ↓Option.bind_some, ↓Option.bind_none, Nat.reduceBEq, Nat.reduceAdd, Nat.reduceMul, Nat.reduceLeDiff, Nat.reduceSub, Nat.reduceLT, Nat.reduceGT, Int.reduceBEq, Int.reduceLT, Int.reduceLE, bne, ↓reduceIte, ty42, ty101, ty3, ty4, pu65, hc] <;> exact leave_pure rfl (by simp) rfl
end
end Go.Proofs.Sx

/-
  package code: slices.Equal, 'SameIns', 'bare'.
-/
set_option linter.unusedSimpArgs false
set_option linter.unusedVariables false
set_option maxRecDepth 100000
namespace Go.Proofs.Sx
open Go.Rv Go.Proofs
attribute [local congr] bind_left got_left guardK_left
noncomputable section

theorem lv93 (r : Nat) : cfg.live 93 r = some [0, 1, 4, 5, 10, 12, 13, 14, 24] := rfl
theorem ok93 : okB cfg0 93 Tryz.f93 (Tryz.f93.body.getD .skip) = true := by kernel_rfl
theorem pu93 : cfg.pure 93 = true := rfl
instance tight93 {d : Option Nat} : TightD cfg 93 d := ⟨fun _ _ => rfl⟩
def a93_0 : Array Oper := codeOps (codeAt [false] (Tryz.f93.body.getD .skip))
def b93_0 : Array Oper := a93_0
def r93_0 : Code := .region 0 a93_0 false
theorem x93_0 (e : Env) (h : Heap) : exec cfg 93 r93_0 e h = (ops cfg 93 b93_0 (a93_0.toList) e h).bind (regEnd cfg 93 0 false) := region_at _ _ _ _ _ _ _
def a93_1 : Array Oper := codeOps (codeAt [true, false, false] (Tryz.f93.body.getD .skip))
def b93_1 : Array Oper := a93_1
def r93_1 : Code := .region 1 a93_1 false
theorem x93_1 (e : Env) (h : Heap) : exec cfg 93 r93_1 e h = (ops cfg 93 b93_1 (a93_1.toList) e h).bind (regEnd cfg 93 1 false) := region_at _ _ _ _ _ _ _
def a93_2 : Array Oper := codeOps (codeAt [true, false, true, false, false] (Tryz.f93.body.getD .skip))
def b93_2 : Array Oper := a93_2
def r93_2 : Code := .region 2 a93_2 false
theorem x93_2 (e : Env) (h : Heap) : exec cfg 93 r93_2 e h = (ops cfg 93 b93_2 (a93_2.toList) e h).bind (regEnd cfg 93 2 false) := region_at _ _ _ _ _ _ _
def a93_3 : Array Oper := codeOps (codeAt [true, true, false, false] (Tryz.f93.body.getD .skip))
def b93_3 : Array Oper := a93_3
def r93_3 : Code := .region 3 a93_3 false
theorem x93_3 (e : Env) (h : Heap) : exec cfg 93 r93_3 e h = (ops cfg 93 b93_3 (a93_3.toList) e h).bind (regEnd cfg 93 3 false) := region_at _ _ _ _ _ _ _
def a93_4 : Array Oper := codeOps (codeAt [true, true, false, true, false, false, false] (Tryz.f93.body.getD .skip))
def b93_4 : Array Oper := a93_4
def r93_4 : Code := .region 4 a93_4 false
theorem x93_4 (e : Env) (h : Heap) : exec cfg 93 r93_4 e h = (ops cfg 93 b93_4 (a93_4.toList) e h).bind (regEnd cfg 93 4 false) := region_at _ _ _ _ _ _ _
def a93_5 : Array Oper := codeOps (codeAt [true, true, false, true, false, false, true, true, false, false, false] (Tryz.f93.body.getD .skip))
def b93_5 : Array Oper := a93_5
def r93_5 : Code := .region 5 a93_5 false
theorem x93_5 (e : Env) (h : Heap) : exec cfg 93 r93_5 e h = (ops cfg 93 b93_5 (a93_5.toList) e h).bind (regEnd cfg 93 5 false) := region_at _ _ _ _ _ _ _
def a93_6 : Array Oper := codeOps (codeAt [true, true, false, true, false, false, true, true, false, false, true, false] (Tryz.f93.body.getD .skip))
def b93_6 : Array Oper := a93_6
def r93_6 : Code := .region 6 a93_6 true
theorem s93_6 : sched a93_6 true = a93_6.toList := by kernel_rfl
theorem x93_6 (e : Env) (h : Heap) : exec cfg 93 r93_6 e h = (ops cfg 93 b93_6 (a93_6.toList) e h).bind (regEnd cfg 93 6 true) := (region_at _ _ _ _ _ _ _).trans (by rw [s93_6]; rfl)
def a93_7 : Array Oper := codeOps (codeAt [true, true, false, true, false, false, true, true, false, false, true, true, false, false] (Tryz.f93.body.getD .skip))
def b93_7 : Array Oper := a93_7
def r93_7 : Code := .region 7 a93_7 false
theorem x93_7 (e : Env) (h : Heap) : exec cfg 93 r93_7 e h = (ops cfg 93 b93_7 (a93_7.toList) e h).bind (regEnd cfg 93 7 false) := region_at _ _ _ _ _ _ _
def a93_8 : Array Oper := codeOps (codeAt [true, true, false, true, false, false, true, true, true] (Tryz.f93.body.getD .skip))
def b93_8 : Array Oper := a93_8
def r93_8 : Code := .region 8 a93_8 false
theorem x93_8 (e : Env) (h : Heap) : exec cfg 93 r93_8 e h = (ops cfg 93 b93_8 (a93_8.toList) e h).bind (regEnd cfg 93 8 false) := region_at _ _ _ _ _ _ _
def a93_9 : Array Oper := codeOps (codeAt [true, true, true, false] (Tryz.f93.body.getD .skip))
def b93_9 : Array Oper := a93_9
def r93_9 : Code := .region 9 a93_9 false
theorem x93_9 (e : Env) (h : Heap) : exec cfg 93 r93_9 e h = (ops cfg 93 b93_9 (a93_9.toList) e h).bind (regEnd cfg 93 9 false) := region_at _ _ _ _ _ _ _
def l93_0 : Code := (.seq r93_4 (.seq (.cond (.tmp 14) .skip (.exit 0)) (.seq (.block 1 (.seq r93_5 (.seq r93_6 (.cond (.tmp 24) (.seq r93_7 .ret) .skip)))) r93_8)))
def k93 : Code := (.seq r93_0 (.seq (.seq r93_1 (.cond (.tmp 10) (.seq r93_2 .ret) .skip)) (.seq (.seq r93_3 (.block 0 (.loop l93_0))) (.seq r93_9 .ret))))
theorem body93 : Tryz.f93.body = some k93 := by kernel_rfl
theorem call93 (x0 x1 : AV) (h : Heap) : call cfg 93 [x0, x1] h = (exec cfg 93 k93 [(0, x0), (1, x1)] h).bind (callEnd cfg 93 h [.tmp 4]) := call_at2 (fnat Tryz.func93 body93 (by rw [← ok93]; kernel_rfl)) rfl rfl

theorem equalI_loop (xs ys : List Int) (z z' : Nat) (r r' : Room) (h : Heap) (hn : xs.length < 1000000000) (hl : ys.length = xs.length) : ∀ (us vs : List Int) (i : Nat), xs.drop i = us → ys.drop i = vs → i ≤ xs.length → ∀ c d t e b,
    Got (exec cfg 93 (.loop l93_0) [(0, .lst (intL xs) z r), (1, .lst (intL ys) z' r'), (4, c), (5, d), (10, b), (12, .int .i64 xs.length), (13, .int .i64 i), (14, t), (24, e)] h) (fun q => q.2.2 = h ∧
      ((q.1 = .exit 0 ∧ us = vs) ∨ (q.1 = .ret ∧ q.2.1.get 4 = .bool false ∧ us ≠ vs))) := by
  intro us
  induction us with
  | nil =>
    intro vs i hd hd2 hi c d t e b
    have : vs = [] := by
      rw [← hd2]; apply List.drop_of_length_le
      have := List.drop_eq_nil_iff.1 hd; omega
    subst this
    rw [got_loop]
    simp only [l93_0, k93, Tryz.f93, regEnd_nrm (lv93 _), pu93, x93_0, a93_0, x93_1, a93_1, x93_2, a93_2, x93_3, a93_3, x93_4, a93_4, x93_5, a93_5, x93_6, a93_6, x93_7, a93_7, x93_8, a93_8, x93_9, a93_9, sxAll, arithA, Nat.reduceEqDiff, Env.keep, qt_eq, isAlloc, resultsA, packA, storeA, indexAddrA, fieldA, indexA, unA, fieldAddrA, loadA, Rv.part, cellsAt, TD.isAgg, convH, convA, buildA, fillA, setCells, copies, lenA, optA, boundA, mapO, ↓Option.bind_some, ↓Option.bind_none, Nat.reduceBEq, Nat.reduceAdd, Nat.reduceMul, Nat.reduceLeDiff, Nat.reduceSub, Nat.reduceLT, Nat.reduceGT, Int.reduceBEq, Int.reduceLT, Int.reduceLE, bne, ↓reduceIte, at_end hd]
    exact ⟨trivial, .inl ⟨trivial, trivial⟩⟩
  | cons y r ih =>
    intro vs i hd hd2 hi c d t e b
    obtain ⟨hlt, _, hd'⟩ := at_drop hd
    obtain ⟨_, hx, _⟩ := at_drop (intL_drop hd)
    cases vs with
    | nil =>
      have := List.drop_eq_nil_iff.1 hd2
      simp at hlt; omega
    | cons w s =>
      obtain ⟨_, _, hd2'⟩ := at_drop hd2
      obtain ⟨_, hx2, _⟩ := at_drop (intL_drop hd2)
      have hw := wrap_succ (i := i) (by omega)
      rw [got_loop]
      by_cases he : y = w
      · subst he
        have := ih s (i + 1) hd' hd2' (by simp at hlt; omega)
        simp only [l93_0] at this ⊢
        simp only [k93, Tryz.f93, regEnd_nrm (lv93 _), pu93, x93_0, a93_0, x93_1, a93_1, x93_2, a93_2, x93_3, a93_3, x93_4, a93_4, x93_5, a93_5, x93_6, a93_6, x93_7, a93_7, x93_8, a93_8, x93_9, a93_9, sxAll, arithA, Nat.reduceEqDiff, Env.keep, qt_eq, isAlloc, resultsA, packA, storeA, indexAddrA, fieldA, indexA, unA, fieldAddrA, loadA, Rv.part, cellsAt, TD.isAgg, convH, convA, buildA, fillA, setCells, copies, lenA, optA, boundA, mapO, ↓Option.bind_some, ↓Option.bind_none, Nat.reduceBEq, Nat.reduceAdd, Nat.reduceMul, Nat.reduceLeDiff, Nat.reduceSub, Nat.reduceLT, Nat.reduceGT, Int.reduceBEq, Int.reduceLT, Int.reduceLE, bne, ↓reduceIte, hlt, indexAddrA, ty29, ty3, hx, hx2, hw, List.cons.injEq, true_and, ne_eq] at this ⊢
        exact this _ _ _ _ _
      · have hne : (y == w) = false := by simp [he]
        simp only [l93_0, k93, Tryz.f93, regEnd_nrm (lv93 _), pu93, x93_0, a93_0, x93_1, a93_1, x93_2, a93_2, x93_3, a93_3, x93_4, a93_4, x93_5, a93_5, x93_6, a93_6, x93_7, a93_7, x93_8, a93_8, x93_9, a93_9, sxAll, arithA, Nat.reduceEqDiff, Env.keep, qt_eq, isAlloc, resultsA, packA, storeA, indexAddrA, fieldA, indexA, unA, fieldAddrA, loadA, Rv.part, cellsAt, TD.isAgg, convH, convA, buildA, fillA, setCells, copies, lenA, optA, boundA, mapO, ↓Option.bind_some, ↓Option.bind_none, Nat.reduceBEq, Nat.reduceAdd, Nat.reduceMul, Nat.reduceLeDiff, Nat.reduceSub, Nat.reduceLT, Nat.reduceGT, Int.reduceBEq, Int.reduceLT, Int.reduceLE, bne, ↓reduceIte, hlt, indexAddrA, ty29, ty3, hx, hx2, hne]
        exact ⟨trivial, .inr ⟨trivial, trivial, by simp [he]⟩⟩

theorem equalI_eq (xs ys : List Int) (z z' : Nat) (r r' : Room) (h : Heap) (hn : xs.length < 1000000000) : call cfg 93 [.lst (intL xs) z r, .lst (intL ys) z' r'] h = some (.ret (.bool (decide (xs = ys))), h) := by
  rw [call93]
  by_cases hl : ys.length = xs.length
  · obtain ⟨⟨o, e', h'⟩, hx, hh, hq⟩ := equalI_loop xs ys z z' r r' h hn hl xs ys 0 (by simp) (by simp) (by omega) (.bool false) .junk .junk .junk (.bool false)
    simp only [Int.natCast_zero] at hx hh hq
    subst hh
    have hlen : (((xs.length : Int) != (ys.length : Int))) = false := by simp [hl]
    rcases hq with ⟨rfl, h1⟩ | ⟨rfl, h1, h2⟩
    · have hd : decide (xs = ys) = true := by simp [h1]
      simp only [k93, Tryz.f93, regEnd_nrm (lv93 _), pu93, x93_0, a93_0, x93_1, a93_1, x93_2, a93_2, x93_3, a93_3, x93_4, a93_4, x93_5, a93_5, x93_6, a93_6, x93_7, a93_7, x93_8, a93_8, x93_9, a93_9, sxAll, arithA, Nat.reduceEqDiff, Env.keep, qt_eq, isAlloc, resultsA, packA, storeA, indexAddrA, fieldA, indexA, unA, fieldAddrA, loadA, Rv.part, cellsAt, TD.isAgg, convH, convA, buildA, fillA, setCells, copies, lenA, optA, boundA, mapO, ↓Option.bind_some, ↓Option.bind_none, Nat.reduceBEq, Nat.reduceAdd, Nat.reduceMul, Nat.reduceLeDiff, Nat.reduceSub, Nat.reduceLT, Nat.reduceGT, Int.reduceBEq, Int.reduceLT, Int.reduceLE, bne, ↓reduceIte, ty29, intL_len, hl, hx, hd]
      exact leave_kept rfl rfl
    · have hd : decide (xs = ys) = false := by simp [h2]
      simp only [k93, Tryz.f93, regEnd_nrm (lv93 _), pu93, x93_0, a93_0, x93_1, a93_1, x93_2, a93_2, x93_3, a93_3, x93_4, a93_4, x93_5, a93_5, x93_6, a93_6, x93_7, a93_7, x93_8, a93_8, x93_9, a93_9, sxAll, arithA, Nat.reduceEqDiff, Env.keep, qt_eq, isAlloc, resultsA, packA, storeA, indexAddrA, fieldA, indexA, unA, fieldAddrA, loadA, Rv.part, cellsAt, TD.isAgg, convH, convA, buildA, fillA, setCells, copies, lenA, optA, boundA, mapO, ↓Option.bind_some, ↓Option.bind_none, Nat.reduceBEq, Nat.reduceAdd, Nat.reduceMul, Nat.reduceLeDiff, Nat.reduceSub, Nat.reduceLT, Nat.reduceGT, Int.reduceBEq, Int.reduceLT, Int.reduceLE, bne, ↓reduceIte, ty29, intL_len, hl, hx, h1, hd]
      exact leave_kept rfl rfl
  · have hlen : (((xs.length : Int) == (ys.length : Int))) = false := by simp; omega
    have hne : (xs = ys) = False := by simp; intro hc; exact hl (by rw [hc])
    simp only [k93, Tryz.f93, regEnd_nrm (lv93 _), pu93, x93_0, a93_0, x93_1, a93_1, x93_2, a93_2, x93_3, a93_3, x93_4, a93_4, x93_5, a93_5, x93_6, a93_6, x93_7, a93_7, x93_8, a93_8, x93_9, a93_9, sxAll, arithA, Nat.reduceEqDiff, Env.keep, qt_eq, isAlloc, resultsA, packA, storeA, indexAddrA, fieldA, indexA, unA, fieldAddrA, loadA, Rv.part, cellsAt, TD.isAgg, convH, convA, buildA, fillA, setCells, copies, lenA, optA, boundA, mapO, ↓Option.bind_some, ↓Option.bind_none, Nat.reduceBEq, Nat.reduceAdd, Nat.reduceMul, Nat.reduceLeDiff, Nat.reduceSub, Nat.reduceLT, Nat.reduceGT, Int.reduceBEq, Int.reduceLT, Int.reduceLE, bne, ↓reduceIte, ty29, intL_len, hlen, hne]
    exact leave_kept rfl rfl

theorem lv66 (r : Nat) : cfg.live 66 r = some [0, 1, 2, 3, 4] := rfl
theorem ok66 : okB cfg0 66 Tryz.f66 (Tryz.f66.body.getD .skip) = true := by kernel_rfl
theorem pu66 : cfg.pure 66 = true := rfl
instance tight66 {d : Option Nat} : TightD cfg 66 d := ⟨fun _ _ => rfl⟩
def a66_0 : Array Oper := codeOps (codeAt [false] (Tryz.f66.body.getD .skip))
def b66_0 : Array Oper := a66_0
def r66_0 : Code := .region 0 a66_0 false
theorem im66_2 : cfg.imm 66 2 = true := by kernel_rfl
theorem im66_3 : cfg.imm 66 3 = true := by kernel_rfl
theorem x66_0 (e : Env) (h : Heap) : exec cfg 66 r66_0 e h = (ops cfg 66 b66_0 (a66_0.toList) e h).bind (regEnd cfg 66 0 false) := region_at _ _ _ _ _ _ _
def a66_1 : Array Oper := codeOps (codeAt [true, false] (Tryz.f66.body.getD .skip))
def b66_1 : Array Oper := a66_1
def r66_1 : Code := .region 1 a66_1 false
theorem x66_1 (e : Env) (h : Heap) : exec cfg 66 r66_1 e h = (ops cfg 66 b66_1 (a66_1.toList) e h).bind (regEnd cfg 66 1 false) := region_at _ _ _ _ _ _ _
theorem g66_1_5 : (b66_1[5]?).bind (·.dst) = some 10 := by kernel_rfl
theorem g66_1_12 : (b66_1[12]?).bind (·.dst) = some 17 := by kernel_rfl
theorem g66_1_19 : (b66_1[19]?).bind (·.dst) = some 24 := by kernel_rfl
theorem g66_1_26 : (b66_1[26]?).bind (·.dst) = some 31 := by kernel_rfl
theorem g66_1_33 : (b66_1[33]?).bind (·.dst) = some 38 := by kernel_rfl
def k66 : Code := (.seq r66_0 (.seq r66_1 .ret))
theorem body66 : Tryz.f66.body = some k66 := by kernel_rfl
theorem call66 (x0 x1 : AV) (h : Heap) : call cfg 66 [x0, x1] h = (exec cfg 66 k66 [(0, x0), (1, x1)] h).bind (callEnd cfg 66 h [.tmp 4]) := call_at2 (fnat Tryz.func66 body66 (by rw [← ok66]; kernel_rfl)) rfl rfl
def sameB (i j : SIns) : Bool := i.op == j.op && i.r == j.r && i.a == j.a && i.b == j.b && i.n == j.n && decide (i.args = j.args)
theorem sameIns_eq (i j : SIns) (h : Heap) (hn : i.args.length < 1000000000) : call cfg 66 [.agg i.cells, .agg j.cells] h = some (.ret (.bool (sameB i j)), h) := by
  rw [call66]
  have hq := equalI_eq i.args j.args i.z j.z i.room j.room h hn
  unfold sameB
  cases h1 : i.op == j.op
  · simp only [SIns.cells, k66, Tryz.f66, regEnd_nrm (lv66 _), pu66, x66_0, a66_0, im66_2, im66_3, x66_1, a66_1, sx_guardO g66_1_5, sx_guardO g66_1_12, sx_guardO g66_1_19, sx_guardO g66_1_26, sx_guardO g66_1_33, sxAll, arithA, Nat.reduceEqDiff, Env.keep, qt_eq, isAlloc, resultsA, packA, storeA, indexAddrA, fieldA, indexA, unA, fieldAddrA, loadA, Rv.part, cellsAt, TD.isAgg, convH, convA, buildA, fillA, setCells, copies, lenA, optA, boundA, mapO, ↓Option.bind_some, ↓Option.bind_none, Nat.reduceBEq, Nat.reduceAdd, Nat.reduceMul, Nat.reduceLeDiff, Nat.reduceSub, Nat.reduceLT, Nat.reduceGT, Int.reduceBEq, Int.reduceLT, Int.reduceLE, bne, ↓reduceIte, ty42, ty5, ty3, ty2, ty29, pu93, h1]
    exact leave_kept rfl rfl
  cases h2 : i.r == j.r
  · simp only [SIns.cells, k66, Tryz.f66, regEnd_nrm (lv66 _), pu66, x66_0, a66_0, im66_2, im66_3, x66_1, a66_1, sx_guardO g66_1_5, sx_guardO g66_1_12, sx_guardO g66_1_19, sx_guardO g66_1_26, sx_guardO g66_1_33, sxAll, arithA, Nat.reduceEqDiff, Env.keep, qt_eq, isAlloc, resultsA, packA, storeA, indexAddrA, fieldA, indexA, unA, fieldAddrA, loadA, Rv.part, cellsAt, TD.isAgg, convH, convA, buildA, fillA, setCells, copies, lenA, optA, boundA, mapO, ↓Option.bind_some, ↓Option.bind_none, Nat.reduceBEq, Nat.reduceAdd, Nat.reduceMul, Nat.reduceLeDiff, Nat.reduceSub, Nat.reduceLT, Nat.reduceGT, Int.reduceBEq, Int.reduceLT, Int.reduceLE, bne, ↓reduceIte, ty42, ty5, ty3, ty2, ty29, pu93, h1, h2]
    exact leave_kept rfl rfl
  cases h3 : i.a == j.a
  · simp only [SIns.cells, k66, Tryz.f66, regEnd_nrm (lv66 _), pu66, x66_0, a66_0, im66_2, im66_3, x66_1, a66_1, sx_guardO g66_1_5, sx_guardO g66_1_12, sx_guardO g66_1_19, sx_guardO g66_1_26, sx_guardO g66_1_33, sxAll, arithA, Nat.reduceEqDiff, Env.keep, qt_eq, isAlloc, resultsA, packA, storeA, indexAddrA, fieldA, indexA, unA, fieldAddrA, loadA, Rv.part, cellsAt, TD.isAgg, convH, convA, buildA, fillA, setCells, copies, lenA, optA, boundA, mapO, ↓Option.bind_some, ↓Option.bind_none, Nat.reduceBEq, Nat.reduceAdd, Nat.reduceMul, Nat.reduceLeDiff, Nat.reduceSub, Nat.reduceLT, Nat.reduceGT, Int.reduceBEq, Int.reduceLT, Int.reduceLE, bne, ↓reduceIte, ty42, ty5, ty3, ty2, ty29, pu93, h1, h2, h3]
    exact leave_kept rfl rfl
  cases h4 : i.b == j.b
  · simp only [SIns.cells, k66, Tryz.f66, regEnd_nrm (lv66 _), pu66, x66_0, a66_0, im66_2, im66_3, x66_1, a66_1, sx_guardO g66_1_5, sx_guardO g66_1_12, sx_guardO g66_1_19, sx_guardO g66_1_26, sx_guardO g66_1_33, sxAll, arithA, Nat.reduceEqDiff, Env.keep, qt_eq, isAlloc, resultsA, packA, storeA, indexAddrA, fieldA, indexA, unA, fieldAddrA, loadA, Rv.part, cellsAt, TD.isAgg, convH, convA, buildA, fillA, setCells, copies, lenA, optA, boundA, mapO, ↓Option.bind_some, ↓Option.bind_none, Nat.reduceBEq, Nat.reduceAdd, Nat.reduceMul, Nat.reduceLeDiff, Nat.reduceSub, Nat.reduceLT, Nat.reduceGT, Int.reduceBEq, Int.reduceLT, Int.reduceLE, bne, ↓reduceIte, ty42, ty5, ty3, ty2, ty29, pu93, h1, h2, h3, h4]
    exact leave_kept rfl rfl
  cases h5 : i.n == j.n
  · simp only [SIns.cells, k66, Tryz.f66, regEnd_nrm (lv66 _), pu66, x66_0, a66_0, im66_2, im66_3, x66_1, a66_1, sx_guardO g66_1_5, sx_guardO g66_1_12, sx_guardO g66_1_19, sx_guardO g66_1_26, sx_guardO g66_1_33, sxAll, arithA, Nat.reduceEqDiff, Env.keep, qt_eq, isAlloc, resultsA, packA, storeA, indexAddrA, fieldA, indexA, unA, fieldAddrA, loadA, Rv.part, cellsAt, TD.isAgg, convH, convA, buildA, fillA, setCells, copies, lenA, optA, boundA, mapO, ↓Option.bind_some, ↓Option.bind_none, Nat.reduceBEq, Nat.reduceAdd, Nat.reduceMul, Nat.reduceLeDiff, Nat.reduceSub, Nat.reduceLT, Nat.reduceGT, Int.reduceBEq, Int.reduceLT, Int.reduceLE, bne, ↓reduceIte, ty42, ty5, ty3, ty2, ty29, pu93, h1, h2, h3, h4, h5]
    exact leave_kept rfl rfl
  · simp only [SIns.cells, k66, Tryz.f66, regEnd_nrm (lv66 _), pu66, x66_0, a66_0, im66_2, im66_3, x66_1, a66_1, sx_guardO g66_1_5, sx_guardO g66_1_12, sx_guardO g66_1_19, sx_guardO g66_1_26, sx_guardO g66_1_33, sxAll, arithA, Nat.reduceEqDiff, Env.keep, qt_eq, isAlloc, resultsA, packA, storeA, indexAddrA, fieldA, indexA, unA, fieldAddrA, loadA, Rv.part, cellsAt, TD.isAgg, convH, convA, buildA, fillA, setCells, copies, lenA, optA, boundA, mapO, ↓Option.bind_some, ↓Option.bind_none, Nat.reduceBEq, Nat.reduceAdd, Nat.reduceMul, Nat.reduceLeDiff, Nat.reduceSub, Nat.reduceLT, Nat.reduceGT, Int.reduceBEq, Int.reduceLT, Int.reduceLE, bne, ↓reduceIte, ty42, ty5, ty3, ty2, ty29, pu93, h1, h2, h3, h4, h5, hq]
    exact leave_kept rfl rfl
end
end Go.Proofs.Sx

/-
  package code: 'bare', 'number'; a program's picture.
-/
set_option linter.unusedSimpArgs false
set_option linter.unusedVariables false
set_option maxRecDepth 100000
set_option maxHeartbeats 4000000
namespace Go.Proofs.Sx
open Go.Rv Go.Proofs
attribute [local congr] bind_left got_left
noncomputable section

def bareOf (q : Row) (i : SIns) : SIns where
  op := 0
  r := if q.1 then 0 else i.r
  a := if q.2.1 then 0 else i.a
  b := if q.2.2.1 then 0 else i.b
  n := if q.2.2.2.2 = 0 then i.n else 0
  args := if q.2.2.2.2 = 6 then [] else i.args
  z := if q.2.2.2.2 = 6 then 0 else i.z
  room := if q.2.2.2.2 = 6 then .nil else i.room

theorem freeze_ins (h : Heap) (n d : Nat) (i : SIns) : freezeV h n (d + 3) (.agg i.cells) = some (.agg i.cells) := by
  show (mapO (freezeV h n (d + 2)) i.cells).map AV.agg = _
  simp only [SIns.cells, mapO, freeze_lint]
  rfl

theorem lv67 (r : Nat) : cfg.live 67 r = some [0, 1, 2, 3, 4, 7, 10, 13, 17, 21] := rfl
theorem ok67 : okB cfg0 67 Tryz.f67 (Tryz.f67.body.getD .skip) = true := by kernel_rfl
theorem pu67 : cfg.pure 67 = true := rfl
instance tight67 {d : Option Nat} : TightD cfg 67 d := ⟨fun _ _ => rfl⟩
def a67_0 : Array Oper := codeOps (codeAt [false] (Tryz.f67.body.getD .skip))
def b67_0 : Array Oper := a67_0
def r67_0 : Code := .region 0 a67_0 false
theorem im67_2 : cfg.imm 67 2 = true := by kernel_rfl
theorem im67_3 : cfg.imm 67 3 = false := by kernel_rfl
theorem x67_0 (e : Env) (h : Heap) : exec cfg 67 r67_0 e h = (ops cfg 67 b67_0 (a67_0.toList) e h).bind (regEnd cfg 67 0 false) := region_at _ _ _ _ _ _ _
def a67_1 : Array Oper := codeOps (codeAt [true, false] (Tryz.f67.body.getD .skip))
def b67_1 : Array Oper := a67_1
def r67_1 : Code := .region 1 a67_1 false
theorem x67_1 (e : Env) (h : Heap) : exec cfg 67 r67_1 e h = (ops cfg 67 b67_1 (a67_1.toList) e h).bind (regEnd cfg 67 1 false) := region_at _ _ _ _ _ _ _
def a67_2 : Array Oper := codeOps (codeAt [true, true, false, false] (Tryz.f67.body.getD .skip))
def b67_2 : Array Oper := a67_2
def r67_2 : Code := .region 2 a67_2 false
theorem x67_2 (e : Env) (h : Heap) : exec cfg 67 r67_2 e h = (ops cfg 67 b67_2 (a67_2.toList) e h).bind (regEnd cfg 67 2 false) := region_at _ _ _ _ _ _ _
def a67_3 : Array Oper := codeOps (codeAt [true, true, false, true, false] (Tryz.f67.body.getD .skip))
def b67_3 : Array Oper := a67_3
def r67_3 : Code := .region 3 a67_3 false
theorem x67_3 (e : Env) (h : Heap) : exec cfg 67 r67_3 e h = (ops cfg 67 b67_3 (a67_3.toList) e h).bind (regEnd cfg 67 3 false) := region_at _ _ _ _ _ _ _
def a67_4 : Array Oper := codeOps (codeAt [true, true, true, false, false] (Tryz.f67.body.getD .skip))
def b67_4 : Array Oper := a67_4
def r67_4 : Code := .region 4 a67_4 false
theorem x67_4 (e : Env) (h : Heap) : exec cfg 67 r67_4 e h = (ops cfg 67 b67_4 (a67_4.toList) e h).bind (regEnd cfg 67 4 false) := region_at _ _ _ _ _ _ _
def a67_5 : Array Oper := codeOps (codeAt [true, true, true, false, true, false] (Tryz.f67.body.getD .skip))
def b67_5 : Array Oper := a67_5
def r67_5 : Code := .region 5 a67_5 false
theorem x67_5 (e : Env) (h : Heap) : exec cfg 67 r67_5 e h = (ops cfg 67 b67_5 (a67_5.toList) e h).bind (regEnd cfg 67 5 false) := region_at _ _ _ _ _ _ _
def a67_6 : Array Oper := codeOps (codeAt [true, true, true, true, false, false] (Tryz.f67.body.getD .skip))
def b67_6 : Array Oper := a67_6
def r67_6 : Code := .region 6 a67_6 false
theorem x67_6 (e : Env) (h : Heap) : exec cfg 67 r67_6 e h = (ops cfg 67 b67_6 (a67_6.toList) e h).bind (regEnd cfg 67 6 false) := region_at _ _ _ _ _ _ _
def a67_7 : Array Oper := codeOps (codeAt [true, true, true, true, false, true, false] (Tryz.f67.body.getD .skip))
def b67_7 : Array Oper := a67_7
def r67_7 : Code := .region 7 a67_7 false
theorem x67_7 (e : Env) (h : Heap) : exec cfg 67 r67_7 e h = (ops cfg 67 b67_7 (a67_7.toList) e h).bind (regEnd cfg 67 7 false) := region_at _ _ _ _ _ _ _
def a67_8 : Array Oper := codeOps (codeAt [true, true, true, true, true, false, false] (Tryz.f67.body.getD .skip))
def b67_8 : Array Oper := a67_8
def r67_8 : Code := .region 8 a67_8 false
theorem x67_8 (e : Env) (h : Heap) : exec cfg 67 r67_8 e h = (ops cfg 67 b67_8 (a67_8.toList) e h).bind (regEnd cfg 67 8 false) := region_at _ _ _ _ _ _ _
def a67_9 : Array Oper := codeOps (codeAt [true, true, true, true, true, false, true, false] (Tryz.f67.body.getD .skip))
def b67_9 : Array Oper := a67_9
def r67_9 : Code := .region 9 a67_9 false
theorem x67_9 (e : Env) (h : Heap) : exec cfg 67 r67_9 e h = (ops cfg 67 b67_9 (a67_9.toList) e h).bind (regEnd cfg 67 9 false) := region_at _ _ _ _ _ _ _
def a67_10 : Array Oper := codeOps (codeAt [true, true, true, true, true, true, false, false] (Tryz.f67.body.getD .skip))
def b67_10 : Array Oper := a67_10
def r67_10 : Code := .region 10 a67_10 false
theorem x67_10 (e : Env) (h : Heap) : exec cfg 67 r67_10 e h = (ops cfg 67 b67_10 (a67_10.toList) e h).bind (regEnd cfg 67 10 false) := region_at _ _ _ _ _ _ _
def a67_11 : Array Oper := codeOps (codeAt [true, true, true, true, true, true, false, true, false] (Tryz.f67.body.getD .skip))
def b67_11 : Array Oper := a67_11
def r67_11 : Code := .region 11 a67_11 false
theorem x67_11 (e : Env) (h : Heap) : exec cfg 67 r67_11 e h = (ops cfg 67 b67_11 (a67_11.toList) e h).bind (regEnd cfg 67 11 false) := region_at _ _ _ _ _ _ _
def a67_12 : Array Oper := codeOps (codeAt [true, true, true, true, true, true, true, false] (Tryz.f67.body.getD .skip))
def b67_12 : Array Oper := a67_12
def r67_12 : Code := .region 12 a67_12 false
theorem x67_12 (e : Env) (h : Heap) : exec cfg 67 r67_12 e h = (ops cfg 67 b67_12 (a67_12.toList) e h).bind (regEnd cfg 67 12 false) := region_at _ _ _ _ _ _ _
def k67 : Code := (.seq r67_0 (.seq r67_1 (.seq (.seq r67_2 (.cond (.tmp 7) r67_3 .skip)) (.seq (.seq r67_4 (.cond (.tmp 10) r67_5 .skip)) (.seq (.seq r67_6 (.cond (.tmp 13) r67_7 .skip)) (.seq (.seq r67_8 (.cond (.tmp 17) r67_9 .skip)) (.seq (.seq r67_10 (.cond (.tmp 21) r67_11 .skip)) (.seq r67_12 .ret))))))))
theorem body67 : Tryz.f67.body = some k67 := by kernel_rfl
theorem call67 (x0 x1 : AV) (h : Heap) : call cfg 67 [x0, x1] h = (exec cfg 67 k67 [(0, x0), (1, x1)] h).bind (callEnd cfg 67 h [.cell 4 42]) := call_at2 (fnat Tryz.func67 body67 (by rw [← ok67]; kernel_rfl)) rfl rfl
theorem bare_eq (q : Row) (i : SIns) (h : Heap) : call cfg 67 [.agg (rowCells q), .agg i.cells] h = some (.ret (.agg (bareOf q i).cells), h) := by
  rw [call67]
  obtain ⟨q1, q2, q3, q4, n⟩ := q
  by_cases h0 : n = 0
  · subst h0
    cases q1 <;> cases q2 <;> cases q3 <;> simp only [SIns.cells, rowCells, k67, Tryz.f67, regEnd_nrm (lv67 _), pu67, x67_0, a67_0, im67_2, im67_3, x67_1, a67_1, x67_2, a67_2, x67_3, a67_3, x67_4, a67_4, x67_5, a67_5, x67_6, a67_6, x67_7, a67_7, x67_8, a67_8, x67_9, a67_9, x67_10, a67_10, x67_11, a67_11, x67_12, a67_12, sxAll, arithA, Nat.reduceEqDiff, Env.keep, qt_eq, isAlloc, resultsA, packA, storeA, indexAddrA, fieldA, indexA, unA, fieldAddrA, loadA, Rv.part, cellsAt, TD.isAgg, convH, convA, buildA, fillA, setCells, copies, lenA, optA, boundA, mapO, ↓Option.bind_some, ↓Option.bind_none, Nat.reduceBEq, Nat.reduceAdd, Nat.reduceMul, Nat.reduceLeDiff, Nat.reduceSub, Nat.reduceLT, Nat.reduceGT, Int.reduceBEq, Int.reduceLT, Int.reduceLE, bne, ↓reduceIte, ty42, ty101, ty5, ty3, ty2, ty4, ty29, bareOf, Int.reduceEq] <;> exact leave_pure rfl (by simp) (freeze_ins _ _ 37 ⟨_, _, _, _, _, _, _, _⟩)
  · have e0 : (n == 0) = false := by simp [h0]
    by_cases h6 : n = 6
    · subst h6
      cases q1 <;> cases q2 <;> cases q3 <;> simp only [SIns.cells, rowCells, k67, Tryz.f67, regEnd_nrm (lv67 _), pu67, x67_0, a67_0, im67_2, im67_3, x67_1, a67_1, x67_2, a67_2, x67_3, a67_3, x67_4, a67_4, x67_5, a67_5, x67_6, a67_6, x67_7, a67_7, x67_8, a67_8, x67_9, a67_9, x67_10, a67_10, x67_11, a67_11, x67_12, a67_12, sxAll, arithA, Nat.reduceEqDiff, Env.keep, qt_eq, isAlloc, resultsA, packA, storeA, indexAddrA, fieldA, indexA, unA, fieldAddrA, loadA, Rv.part, cellsAt, TD.isAgg, convH, convA, buildA, fillA, setCells, copies, lenA, optA, boundA, mapO, ↓Option.bind_some, ↓Option.bind_none, Nat.reduceBEq, Nat.reduceAdd, Nat.reduceMul, Nat.reduceLeDiff, Nat.reduceSub, Nat.reduceLT, Nat.reduceGT, Int.reduceBEq, Int.reduceLT, Int.reduceLE, bne, ↓reduceIte, ty42, ty101, ty5, ty3, ty2, ty4, ty29, bareOf, Int.reduceEq] <;> exact leave_pure rfl (by simp) (freeze_ins _ _ 37 ⟨_, _, _, _, _, [], _, _⟩)
    · have e6 : (n == 6) = false := by simp [h6]
      cases q1 <;> cases q2 <;> cases q3 <;> simp only [SIns.cells, rowCells, k67, Tryz.f67, regEnd_nrm (lv67 _), pu67, x67_0, a67_0, im67_2, im67_3, x67_1, a67_1, x67_2, a67_2, x67_3, a67_3, x67_4, a67_4, x67_5, a67_5, x67_6, a67_6, x67_7, a67_7, x67_8, a67_8, x67_9, a67_9, x67_10, a67_10, x67_11, a67_11, x67_12, a67_12, sxAll, arithA, Nat.reduceEqDiff, Env.keep, qt_eq, isAlloc, resultsA, packA, storeA, indexAddrA, fieldA, indexA, unA, fieldAddrA, loadA, Rv.part, cellsAt, TD.isAgg, convH, convA, buildA, fillA, setCells, copies, lenA, optA, boundA, mapO, ↓Option.bind_some, ↓Option.bind_none, Nat.reduceBEq, Nat.reduceAdd, Nat.reduceMul, Nat.reduceLeDiff, Nat.reduceSub, Nat.reduceLT, Nat.reduceGT, Int.reduceBEq, Int.reduceLT, Int.reduceLE, bne, ↓reduceIte, ty42, ty101, ty5, ty3, ty2, ty4, ty29, e0, e6, bareOf, h0, h6] <;> exact leave_pure rfl (by simp) (freeze_ins _ _ 37 ⟨_, _, _, _, _, _, _, _⟩)

structure SMem where
  name : List UInt8
  size : Int
  first : Int
structure SFun where
  name : List UInt8
  thread : Bool
  params : Int
  regs : Int
  code : List SIns
  cz : Nat
  room : Room
structure SProg where
  mems : List SMem
  mz : Nat
  mroom : Room
  locks : List (List UInt8)
  lz : Nat
  lroom : Room
  funs : List SFun
  fz : Nat
  froom : Room
def SMem.cells (m : SMem) : List AV := [.str m.name, .int .i64 m.size, .int .i64 m.first]
def codeL (l : List SIns) : List AV := l.map fun i => .agg i.cells
def SFun.cells (f : SFun) : List AV := [.str f.name, .bool f.thread, .int .i64 f.params, .int .i64 f.regs, .lst (codeL f.code) f.cz f.room]
def memsL (l : List SMem) : List AV := l.map fun m => .agg m.cells
def strL (l : List (List UInt8)) : List AV := l.map AV.str
def funsL (l : List SFun) : List AV := l.map fun f => .agg f.cells
def SProg.cells (p : SProg) : List AV := [.lst (memsL p.mems) p.mz p.mroom, .lst (strL p.locks) p.lz p.lroom, .lst (funsL p.funs) p.fz p.froom]
theorem codeL_len (l : List SIns) : (codeL l).length = l.length := by simp [codeL]
theorem memsL_len (l : List SMem) : (memsL l).length = l.length := by simp [memsL]
theorem strL_len (l : List (List UInt8)) : (strL l).length = l.length := by simp [strL]
theorem funsL_len (l : List SFun) : (funsL l).length = l.length := by simp [funsL]
theorem codeL_get {l : List SIns} {n : Nat} {x : SIns} (h : l[n]? = some x) : (codeL l)[n]? = some (.agg x.cells) := by simp [codeL, h]
theorem memsL_get {l : List SMem} {n : Nat} {x : SMem} (h : l[n]? = some x) : (memsL l)[n]? = some (.agg x.cells) := by simp [memsL, h]
theorem strL_get {l : List (List UInt8)} {n : Nat} {x : List UInt8} (h : l[n]? = some x) : (strL l)[n]? = some (.str x) := by simp [strL, h]
theorem funsL_get {l : List SFun} {n : Nat} {x : SFun} (h : l[n]? = some x) : (funsL l)[n]? = some (.agg x.cells) := by simp [funsL, h]

def numberB (p : SProg) (f : SFun) (q : Row) (i : SIns) : Bool :=
  if q.2.2.2.2 = 2 then decide (i.n = 5) || decide (i.n = 6)
  else if q.2.2.2.2 = 3 then decide (7 ≤ i.n) && decide (i.n ≤ 17)
  else if q.2.2.2.2 = 4 then decide (0 ≤ i.n) && decide (i.n < p.mems.length)
  else if q.2.2.2.2 = 5 then decide (0 ≤ i.n) && decide (i.n < p.locks.length)
  else if q.2.2.2.2 = 7 then decide (0 ≤ i.n) && decide (i.n < f.code.length)
  else if q.2.2.2.2 = 6 then decide (0 ≤ i.n) && match p.funs[i.n.toNat]? with
    | some g => !g.thread && decide ((i.args.length : Int) = g.params)
    | none => false
  else true

theorem beq_dec (a b : Int) : (a == b) = decide (a = b) := rfl
theorem lv68 (r : Nat) : cfg.live 68 r = some [0, 1, 2, 3, 4, 5, 6, 7, 8, 9, 13, 14, 22, 30, 41, 52, 63] := rfl
theorem ok68 : okB cfg0 68 Tryz.f68 (Tryz.f68.body.getD .skip) = true := by kernel_rfl
theorem pu68 : cfg.pure 68 = true := rfl
instance tight68 {d : Option Nat} : TightD cfg 68 d := ⟨fun _ _ => rfl⟩
def a68_0 : Array Oper := codeOps (codeAt [false] (Tryz.f68.body.getD .skip))
def b68_0 : Array Oper := a68_0
def r68_0 : Code := .region 0 a68_0 false
theorem im68_4 : cfg.imm 68 4 = true := by kernel_rfl
theorem im68_5 : cfg.imm 68 5 = true := by kernel_rfl
theorem im68_6 : cfg.imm 68 6 = true := by kernel_rfl
theorem im68_7 : cfg.imm 68 7 = true := by kernel_rfl
theorem x68_0 (e : Env) (h : Heap) : exec cfg 68 r68_0 e h = (ops cfg 68 b68_0 (a68_0.toList) e h).bind (regEnd cfg 68 0 false) := region_at _ _ _ _ _ _ _
def a68_1 : Array Oper := codeOps (codeAt [true, false] (Tryz.f68.body.getD .skip))
def b68_1 : Array Oper := a68_1
def r68_1 : Code := .region 1 a68_1 false
theorem x68_1 (e : Env) (h : Heap) : exec cfg 68 r68_1 e h = (ops cfg 68 b68_1 (a68_1.toList) e h).bind (regEnd cfg 68 1 false) := region_at _ _ _ _ _ _ _
def a68_2 : Array Oper := codeOps (codeAt [true, true, false, false] (Tryz.f68.body.getD .skip))
def b68_2 : Array Oper := a68_2
def r68_2 : Code := .region 2 a68_2 false
theorem x68_2 (e : Env) (h : Heap) : exec cfg 68 r68_2 e h = (ops cfg 68 b68_2 (a68_2.toList) e h).bind (regEnd cfg 68 2 false) := region_at _ _ _ _ _ _ _
def a68_3 : Array Oper := codeOps (codeAt [true, true, false, true, false, false] (Tryz.f68.body.getD .skip))
def b68_3 : Array Oper := a68_3
def r68_3 : Code := .region 3 a68_3 false
theorem x68_3 (e : Env) (h : Heap) : exec cfg 68 r68_3 e h = (ops cfg 68 b68_3 (a68_3.toList) e h).bind (regEnd cfg 68 3 false) := region_at _ _ _ _ _ _ _
def a68_4 : Array Oper := codeOps (codeAt [true, true, false, true, false, true, false, false] (Tryz.f68.body.getD .skip))
def b68_4 : Array Oper := a68_4
def r68_4 : Code := .region 4 a68_4 false
theorem x68_4 (e : Env) (h : Heap) : exec cfg 68 r68_4 e h = (ops cfg 68 b68_4 (a68_4.toList) e h).bind (regEnd cfg 68 4 false) := region_at _ _ _ _ _ _ _
theorem g68_4_2 : (b68_4[2]?).bind (·.dst) = some 18 := by kernel_rfl
def a68_5 : Array Oper := codeOps (codeAt [true, true, false, true, false, true, true, false] (Tryz.f68.body.getD .skip))
def b68_5 : Array Oper := a68_5
def r68_5 : Code := .region 5 a68_5 false
theorem x68_5 (e : Env) (h : Heap) : exec cfg 68 r68_5 e h = (ops cfg 68 b68_5 (a68_5.toList) e h).bind (regEnd cfg 68 5 false) := region_at _ _ _ _ _ _ _
def a68_6 : Array Oper := codeOps (codeAt [true, true, false, true, false, true, true, true, false, false] (Tryz.f68.body.getD .skip))
def b68_6 : Array Oper := a68_6
def r68_6 : Code := .region 6 a68_6 false
theorem x68_6 (e : Env) (h : Heap) : exec cfg 68 r68_6 e h = (ops cfg 68 b68_6 (a68_6.toList) e h).bind (regEnd cfg 68 6 false) := region_at _ _ _ _ _ _ _
theorem g68_6_2 : (b68_6[2]?).bind (·.dst) = some 26 := by kernel_rfl
def a68_7 : Array Oper := codeOps (codeAt [true, true, false, true, false, true, true, true, true, false] (Tryz.f68.body.getD .skip))
def b68_7 : Array Oper := a68_7
def r68_7 : Code := .region 7 a68_7 false
theorem x68_7 (e : Env) (h : Heap) : exec cfg 68 r68_7 e h = (ops cfg 68 b68_7 (a68_7.toList) e h).bind (regEnd cfg 68 7 false) := region_at _ _ _ _ _ _ _
def a68_8 : Array Oper := codeOps (codeAt [true, true, false, true, false, true, true, true, true, true, false, false] (Tryz.f68.body.getD .skip))
def b68_8 : Array Oper := a68_8
def r68_8 : Code := .region 8 a68_8 false
theorem x68_8 (e : Env) (h : Heap) : exec cfg 68 r68_8 e h = (ops cfg 68 b68_8 (a68_8.toList) e h).bind (regEnd cfg 68 8 false) := region_at _ _ _ _ _ _ _
theorem g68_8_2 : (b68_8[2]?).bind (·.dst) = some 34 := by kernel_rfl
def a68_9 : Array Oper := codeOps (codeAt [true, true, false, true, false, true, true, true, true, true, true, false] (Tryz.f68.body.getD .skip))
def b68_9 : Array Oper := a68_9
def r68_9 : Code := .region 9 a68_9 false
theorem x68_9 (e : Env) (h : Heap) : exec cfg 68 r68_9 e h = (ops cfg 68 b68_9 (a68_9.toList) e h).bind (regEnd cfg 68 9 false) := region_at _ _ _ _ _ _ _
def a68_10 : Array Oper := codeOps (codeAt [true, true, false, true, false, true, true, true, true, true, true, true, false, false] (Tryz.f68.body.getD .skip))
def b68_10 : Array Oper := a68_10
def r68_10 : Code := .region 10 a68_10 false
theorem x68_10 (e : Env) (h : Heap) : exec cfg 68 r68_10 e h = (ops cfg 68 b68_10 (a68_10.toList) e h).bind (regEnd cfg 68 10 false) := region_at _ _ _ _ _ _ _
theorem g68_10_2 : (b68_10[2]?).bind (·.dst) = some 45 := by kernel_rfl
def a68_11 : Array Oper := codeOps (codeAt [true, true, false, true, false, true, true, true, true, true, true, true, true, false] (Tryz.f68.body.getD .skip))
def b68_11 : Array Oper := a68_11
def r68_11 : Code := .region 11 a68_11 false
theorem x68_11 (e : Env) (h : Heap) : exec cfg 68 r68_11 e h = (ops cfg 68 b68_11 (a68_11.toList) e h).bind (regEnd cfg 68 11 false) := region_at _ _ _ _ _ _ _
def a68_12 : Array Oper := codeOps (codeAt [true, true, false, true, false, true, true, true, true, true, true, true, true, true, false, false] (Tryz.f68.body.getD .skip))
def b68_12 : Array Oper := a68_12
def r68_12 : Code := .region 12 a68_12 false
theorem x68_12 (e : Env) (h : Heap) : exec cfg 68 r68_12 e h = (ops cfg 68 b68_12 (a68_12.toList) e h).bind (regEnd cfg 68 12 false) := region_at _ _ _ _ _ _ _
theorem g68_12_2 : (b68_12[2]?).bind (·.dst) = some 56 := by kernel_rfl
def a68_13 : Array Oper := codeOps (codeAt [true, true, false, true, false, true, true, true, true, true, true, true, true, true, true, false] (Tryz.f68.body.getD .skip))
def b68_13 : Array Oper := a68_13
def r68_13 : Code := .region 13 a68_13 false
theorem x68_13 (e : Env) (h : Heap) : exec cfg 68 r68_13 e h = (ops cfg 68 b68_13 (a68_13.toList) e h).bind (regEnd cfg 68 13 false) := region_at _ _ _ _ _ _ _
def a68_14 : Array Oper := codeOps (codeAt [true, true, false, true, false, true, true, true, true, true, true, true, true, true, true, true, false, false] (Tryz.f68.body.getD .skip))
def b68_14 : Array Oper := a68_14
def r68_14 : Code := .region 14 a68_14 true
theorem s68_14 : sched a68_14 true = a68_14.toList := by kernel_rfl
theorem x68_14 (e : Env) (h : Heap) : exec cfg 68 r68_14 e h = (ops cfg 68 b68_14 (a68_14.toList) e h).bind (regEnd cfg 68 14 true) := (region_at _ _ _ _ _ _ _).trans (by rw [s68_14]; rfl)
theorem g68_14_2 : (b68_14[2]?).bind (·.dst) = some 67 := by kernel_rfl
theorem g68_14_9 : (b68_14[9]?).bind (·.dst) = some 74 := by kernel_rfl
theorem g68_14_18 : (b68_14[18]?).bind (·.dst) = some 83 := by kernel_rfl
def a68_15 : Array Oper := codeOps (codeAt [true, true, true, false] (Tryz.f68.body.getD .skip))
def b68_15 : Array Oper := a68_15
def r68_15 : Code := .region 15 a68_15 false
theorem x68_15 (e : Env) (h : Heap) : exec cfg 68 r68_15 e h = (ops cfg 68 b68_15 (a68_15.toList) e h).bind (regEnd cfg 68 15 false) := region_at _ _ _ _ _ _ _
def k68 : Code := (.seq r68_0 (.seq r68_1 (.seq (.seq r68_2 (.block 0 (.seq r68_3 (.cond (.tmp 14) (.seq r68_4 .ret) (.seq r68_5 (.cond (.tmp 22) (.seq r68_6 .ret) (.seq r68_7 (.cond (.tmp 30) (.seq r68_8 .ret) (.seq r68_9 (.cond (.tmp 41) (.seq r68_10 .ret) (.seq r68_11 (.cond (.tmp 52) (.seq r68_12 .ret) (.seq r68_13 (.cond (.tmp 63) (.seq r68_14 .ret) .skip)))))))))))))) (.seq r68_15 .ret))))
theorem body68 : Tryz.f68.body = some k68 := by kernel_rfl
theorem call68 (x0 x1 x2 x3 : AV) (h : Heap) : call cfg 68 [x0, x1, x2, x3] h = (exec cfg 68 k68 [(0, x0), (1, x1), (2, x2), (3, x3)] h).bind (callEnd cfg 68 h [.tmp 8]) := call_at2 (fnat Tryz.func68 body68 (by rw [← ok68]; kernel_rfl)) rfl rfl
theorem number_eq (p : SProg) (f : SFun) (q : Row) (i : SIns) (h : Heap) : call cfg 68 [.agg p.cells, .agg f.cells, .agg (rowCells q), .agg i.cells] h = some (.ret (.bool (numberB p f q i)), h) := by
  rw [call68]
  obtain ⟨q1, q2, q3, q4, n⟩ := q
  unfold numberB
  dsimp only
  by_cases h2 : n = 2
  · subst h2
    by_cases ha : i.n = 5
    · have ea : (i.n == 5) = true := by simp [ha]
      simp only [SProg.cells, SFun.cells, SIns.cells, rowCells, k68, Tryz.f68, regEnd_nrm (lv68 _), pu68, x68_0, a68_0, im68_4, im68_5, im68_6, im68_7, x68_1, a68_1, x68_2, a68_2, x68_3, a68_3, x68_4, a68_4, sx_guardO g68_4_2, x68_5, a68_5, x68_6, a68_6, sx_guardO g68_6_2, x68_7, a68_7, x68_8, a68_8, sx_guardO g68_8_2, x68_9, a68_9, x68_10, a68_10, sx_guardO g68_10_2, x68_11, a68_11, x68_12, a68_12, sx_guardO g68_12_2, x68_13, a68_13, x68_14, a68_14, sx_guardO g68_14_2, sx_guardO g68_14_9, sx_guardO g68_14_18, x68_15, a68_15, sxAll, arithA, Nat.reduceEqDiff, Env.keep, qt_eq, isAlloc, resultsA, packA, storeA, indexAddrA, fieldA, indexA, unA, fieldAddrA, loadA, Rv.part, cellsAt, TD.isAgg, convH, convA, buildA, fillA, setCells, copies, lenA, optA, boundA, mapO, ↓Option.bind_some, ↓Option.bind_none, Nat.reduceBEq, Nat.reduceAdd, Nat.reduceMul, Nat.reduceLeDiff, Nat.reduceSub, Nat.reduceLT, Nat.reduceGT, Int.reduceBEq, Int.reduceLT, Int.reduceLE, bne, ↓reduceIte, ty26, ty38, ty42, ty101, ty5, ty3, ty2, ty4, ty29, ty22, ty23, ty24, ty36, codeL_len, memsL_len, strL_len, funsL_len, intL_len, ea]
      try simp only [ha, decide_true, Bool.true_or, if_true]
      exact leave_kept rfl rfl
    · have ea : (i.n == 5) = false := by simp [ha]
      simp only [SProg.cells, SFun.cells, SIns.cells, rowCells, k68, Tryz.f68, regEnd_nrm (lv68 _), pu68, x68_0, a68_0, im68_4, im68_5, im68_6, im68_7, x68_1, a68_1, x68_2, a68_2, x68_3, a68_3, x68_4, a68_4, sx_guardO g68_4_2, x68_5, a68_5, x68_6, a68_6, sx_guardO g68_6_2, x68_7, a68_7, x68_8, a68_8, sx_guardO g68_8_2, x68_9, a68_9, x68_10, a68_10, sx_guardO g68_10_2, x68_11, a68_11, x68_12, a68_12, sx_guardO g68_12_2, x68_13, a68_13, x68_14, a68_14, sx_guardO g68_14_2, sx_guardO g68_14_9, sx_guardO g68_14_18, x68_15, a68_15, sxAll, arithA, Nat.reduceEqDiff, Env.keep, qt_eq, isAlloc, resultsA, packA, storeA, indexAddrA, fieldA, indexA, unA, fieldAddrA, loadA, Rv.part, cellsAt, TD.isAgg, convH, convA, buildA, fillA, setCells, copies, lenA, optA, boundA, mapO, ↓Option.bind_some, ↓Option.bind_none, Nat.reduceBEq, Nat.reduceAdd, Nat.reduceMul, Nat.reduceLeDiff, Nat.reduceSub, Nat.reduceLT, Nat.reduceGT, Int.reduceBEq, Int.reduceLT, Int.reduceLE, bne, ↓reduceIte, ty26, ty38, ty42, ty101, ty5, ty3, ty2, ty4, ty29, ty22, ty23, ty24, ty36, codeL_len, memsL_len, strL_len, funsL_len, intL_len, ea]
      try simp only [ha, decide_false, Bool.false_or, if_true, beq_dec]
      exact leave_kept rfl rfl
  have e2 : (n == 2) = false := by simp [h2]
  rw [if_neg h2]
  by_cases h3 : n = 3
  · subst h3
    by_cases ha : 7 ≤ i.n
    · have ea : (i.n ≥ 7) = True := by simp [ha]
      simp only [e2, SProg.cells, SFun.cells, SIns.cells, rowCells, k68, Tryz.f68, regEnd_nrm (lv68 _), pu68, x68_0, a68_0, im68_4, im68_5, im68_6, im68_7, x68_1, a68_1, x68_2, a68_2, x68_3, a68_3, x68_4, a68_4, sx_guardO g68_4_2, x68_5, a68_5, x68_6, a68_6, sx_guardO g68_6_2, x68_7, a68_7, x68_8, a68_8, sx_guardO g68_8_2, x68_9, a68_9, x68_10, a68_10, sx_guardO g68_10_2, x68_11, a68_11, x68_12, a68_12, sx_guardO g68_12_2, x68_13, a68_13, x68_14, a68_14, sx_guardO g68_14_2, sx_guardO g68_14_9, sx_guardO g68_14_18, x68_15, a68_15, sxAll, arithA, Nat.reduceEqDiff, Env.keep, qt_eq, isAlloc, resultsA, packA, storeA, indexAddrA, fieldA, indexA, unA, fieldAddrA, loadA, Rv.part, cellsAt, TD.isAgg, convH, convA, buildA, fillA, setCells, copies, lenA, optA, boundA, mapO, ↓Option.bind_some, ↓Option.bind_none, Nat.reduceBEq, Nat.reduceAdd, Nat.reduceMul, Nat.reduceLeDiff, Nat.reduceSub, Nat.reduceLT, Nat.reduceGT, Int.reduceBEq, Int.reduceLT, Int.reduceLE, bne, ↓reduceIte, ty26, ty38, ty42, ty101, ty5, ty3, ty2, ty4, ty29, ty22, ty23, ty24, ty36, codeL_len, memsL_len, strL_len, funsL_len, intL_len, ea]
      try simp only [ha, decide_true, Bool.true_and, if_true, Int.reduceEq, if_false]
      exact leave_kept rfl rfl
    · have ea : (i.n ≥ 7) = False := by simp; omega
      simp only [e2, SProg.cells, SFun.cells, SIns.cells, rowCells, k68, Tryz.f68, regEnd_nrm (lv68 _), pu68, x68_0, a68_0, im68_4, im68_5, im68_6, im68_7, x68_1, a68_1, x68_2, a68_2, x68_3, a68_3, x68_4, a68_4, sx_guardO g68_4_2, x68_5, a68_5, x68_6, a68_6, sx_guardO g68_6_2, x68_7, a68_7, x68_8, a68_8, sx_guardO g68_8_2, x68_9, a68_9, x68_10, a68_10, sx_guardO g68_10_2, x68_11, a68_11, x68_12, a68_12, sx_guardO g68_12_2, x68_13, a68_13, x68_14, a68_14, sx_guardO g68_14_2, sx_guardO g68_14_9, sx_guardO g68_14_18, x68_15, a68_15, sxAll, arithA, Nat.reduceEqDiff, Env.keep, qt_eq, isAlloc, resultsA, packA, storeA, indexAddrA, fieldA, indexA, unA, fieldAddrA, loadA, Rv.part, cellsAt, TD.isAgg, convH, convA, buildA, fillA, setCells, copies, lenA, optA, boundA, mapO, ↓Option.bind_some, ↓Option.bind_none, Nat.reduceBEq, Nat.reduceAdd, Nat.reduceMul, Nat.reduceLeDiff, Nat.reduceSub, Nat.reduceLT, Nat.reduceGT, Int.reduceBEq, Int.reduceLT, Int.reduceLE, bne, ↓reduceIte, ty26, ty38, ty42, ty101, ty5, ty3, ty2, ty4, ty29, ty22, ty23, ty24, ty36, codeL_len, memsL_len, strL_len, funsL_len, intL_len, ea]
      try simp only [ha, decide_false, Bool.false_and, if_true, Int.reduceEq, if_false]
      exact leave_kept rfl rfl
  have e3 : (n == 3) = false := by simp [h3]
  rw [if_neg h3]
  by_cases h4 : n = 4
  · subst h4
    by_cases ha : 0 ≤ i.n
    · have ea : (i.n ≥ 0) = True := by simp [ha]
      simp only [e2, e3, SProg.cells, SFun.cells, SIns.cells, rowCells, k68, Tryz.f68, regEnd_nrm (lv68 _), pu68, x68_0, a68_0, im68_4, im68_5, im68_6, im68_7, x68_1, a68_1, x68_2, a68_2, x68_3, a68_3, x68_4, a68_4, sx_guardO g68_4_2, x68_5, a68_5, x68_6, a68_6, sx_guardO g68_6_2, x68_7, a68_7, x68_8, a68_8, sx_guardO g68_8_2, x68_9, a68_9, x68_10, a68_10, sx_guardO g68_10_2, x68_11, a68_11, x68_12, a68_12, sx_guardO g68_12_2, x68_13, a68_13, x68_14, a68_14, sx_guardO g68_14_2, sx_guardO g68_14_9, sx_guardO g68_14_18, x68_15, a68_15, sxAll, arithA, Nat.reduceEqDiff, Env.keep, qt_eq, isAlloc, resultsA, packA, storeA, indexAddrA, fieldA, indexA, unA, fieldAddrA, loadA, Rv.part, cellsAt, TD.isAgg, convH, convA, buildA, fillA, setCells, copies, lenA, optA, boundA, mapO, ↓Option.bind_some, ↓Option.bind_none, Nat.reduceBEq, Nat.reduceAdd, Nat.reduceMul, Nat.reduceLeDiff, Nat.reduceSub, Nat.reduceLT, Nat.reduceGT, Int.reduceBEq, Int.reduceLT, Int.reduceLE, bne, ↓reduceIte, ty26, ty38, ty42, ty101, ty5, ty3, ty2, ty4, ty29, ty22, ty23, ty24, ty36, codeL_len, memsL_len, strL_len, funsL_len, intL_len, ea]
      try simp only [ha, decide_true, Bool.true_and, if_true, Int.reduceEq, if_false]
      exact leave_kept rfl rfl
    · have ea : (i.n ≥ 0) = False := by simp; omega
      simp only [e2, e3, SProg.cells, SFun.cells, SIns.cells, rowCells, k68, Tryz.f68, regEnd_nrm (lv68 _), pu68, x68_0, a68_0, im68_4, im68_5, im68_6, im68_7, x68_1, a68_1, x68_2, a68_2, x68_3, a68_3, x68_4, a68_4, sx_guardO g68_4_2, x68_5, a68_5, x68_6, a68_6, sx_guardO g68_6_2, x68_7, a68_7, x68_8, a68_8, sx_guardO g68_8_2, x68_9, a68_9, x68_10, a68_10, sx_guardO g68_10_2, x68_11, a68_11, x68_12, a68_12, sx_guardO g68_12_2, x68_13, a68_13, x68_14, a68_14, sx_guardO g68_14_2, sx_guardO g68_14_9, sx_guardO g68_14_18, x68_15, a68_15, sxAll, arithA, Nat.reduceEqDiff, Env.keep, qt_eq, isAlloc, resultsA, packA, storeA, indexAddrA, fieldA, indexA, unA, fieldAddrA, loadA, Rv.part, cellsAt, TD.isAgg, convH, convA, buildA, fillA, setCells, copies, lenA, optA, boundA, mapO, ↓Option.bind_some, ↓Option.bind_none, Nat.reduceBEq, Nat.reduceAdd, Nat.reduceMul, Nat.reduceLeDiff, Nat.reduceSub, Nat.reduceLT, Nat.reduceGT, Int.reduceBEq, Int.reduceLT, Int.reduceLE, bne, ↓reduceIte, ty26, ty38, ty42, ty101, ty5, ty3, ty2, ty4, ty29, ty22, ty23, ty24, ty36, codeL_len, memsL_len, strL_len, funsL_len, intL_len, ea]
      try simp only [ha, decide_false, Bool.false_and, if_true, Int.reduceEq, if_false]
      exact leave_kept rfl rfl
  have e4 : (n == 4) = false := by simp [h4]
  rw [if_neg h4]
  by_cases h5 : n = 5
  · subst h5
    by_cases ha : 0 ≤ i.n
    · have ea : (i.n ≥ 0) = True := by simp [ha]
      simp only [e2, e3, e4, SProg.cells, SFun.cells, SIns.cells, rowCells, k68, Tryz.f68, regEnd_nrm (lv68 _), pu68, x68_0, a68_0, im68_4, im68_5, im68_6, im68_7, x68_1, a68_1, x68_2, a68_2, x68_3, a68_3, x68_4, a68_4, sx_guardO g68_4_2, x68_5, a68_5, x68_6, a68_6, sx_guardO g68_6_2, x68_7, a68_7, x68_8, a68_8, sx_guardO g68_8_2, x68_9, a68_9, x68_10, a68_10, sx_guardO g68_10_2, x68_11, a68_11, x68_12, a68_12, sx_guardO g68_12_2, x68_13, a68_13, x68_14, a68_14, sx_guardO g68_14_2, sx_guardO g68_14_9, sx_guardO g68_14_18, x68_15, a68_15, sxAll, arithA, Nat.reduceEqDiff, Env.keep, qt_eq, isAlloc, resultsA, packA, storeA, indexAddrA, fieldA, indexA, unA, fieldAddrA, loadA, Rv.part, cellsAt, TD.isAgg, convH, convA, buildA, fillA, setCells, copies, lenA, optA, boundA, mapO, ↓Option.bind_some, ↓Option.bind_none, Nat.reduceBEq, Nat.reduceAdd, Nat.reduceMul, Nat.reduceLeDiff, Nat.reduceSub, Nat.reduceLT, Nat.reduceGT, Int.reduceBEq, Int.reduceLT, Int.reduceLE, bne, ↓reduceIte, ty26, ty38, ty42, ty101, ty5, ty3, ty2, ty4, ty29, ty22, ty23, ty24, ty36, codeL_len, memsL_len, strL_len, funsL_len, intL_len, ea]
      try simp only [ha, decide_true, Bool.true_and, if_true, Int.reduceEq, if_false]
      exact leave_kept rfl rfl
    · have ea : (i.n ≥ 0) = False := by simp; omega
      simp only [e2, e3, e4, SProg.cells, SFun.cells, SIns.cells, rowCells, k68, Tryz.f68, regEnd_nrm (lv68 _), pu68, x68_0, a68_0, im68_4, im68_5, im68_6, im68_7, x68_1, a68_1, x68_2, a68_2, x68_3, a68_3, x68_4, a68_4, sx_guardO g68_4_2, x68_5, a68_5, x68_6, a68_6, sx_guardO g68_6_2, x68_7, a68_7, x68_8, a68_8, sx_guardO g68_8_2, x68_9, a68_9, x68_10, a68_10, sx_guardO g68_10_2, x68_11, a68_11, x68_12, a68_12, sx_guardO g68_12_2, x68_13, a68_13, x68_14, a68_14, sx_guardO g68_14_2, sx_guardO g68_14_9, sx_guardO g68_14_18, x68_15, a68_15, sxAll, arithA, Nat.reduceEqDiff, Env.keep, qt_eq, isAlloc, resultsA, packA, storeA, indexAddrA, fieldA, indexA, unA, fieldAddrA, loadA, Rv.part, cellsAt, TD.isAgg, convH, convA, buildA, fillA, setCells, copies, lenA, optA, boundA, mapO, ↓Option.bind_some, ↓Option.bind_none, Nat.reduceBEq, Nat.reduceAdd, Nat.reduceMul, Nat.reduceLeDiff, Nat.reduceSub, Nat.reduceLT, Nat.reduceGT, Int.reduceBEq, Int.reduceLT, Int.reduceLE, bne, ↓reduceIte, ty26, ty38, ty42, ty101, ty5, ty3, ty2, ty4, ty29, ty22, ty23, ty24, ty36, codeL_len, memsL_len, strL_len, funsL_len, intL_len, ea]
      try simp only [ha, decide_false, Bool.false_and, if_true, Int.reduceEq, if_false]
      exact leave_kept rfl rfl
  have e5 : (n == 5) = false := by simp [h5]
  rw [if_neg h5]
  by_cases h7 : n = 7
  · subst h7
    by_cases ha : 0 ≤ i.n
    · have ea : (i.n ≥ 0) = True := by simp [ha]
      simp only [e2, e3, e4, e5, SProg.cells, SFun.cells, SIns.cells, rowCells, k68, Tryz.f68, regEnd_nrm (lv68 _), pu68, x68_0, a68_0, im68_4, im68_5, im68_6, im68_7, x68_1, a68_1, x68_2, a68_2, x68_3, a68_3, x68_4, a68_4, sx_guardO g68_4_2, x68_5, a68_5, x68_6, a68_6, sx_guardO g68_6_2, x68_7, a68_7, x68_8, a68_8, sx_guardO g68_8_2, x68_9, a68_9, x68_10, a68_10, sx_guardO g68_10_2, x68_11, a68_11, x68_12, a68_12, sx_guardO g68_12_2, x68_13, a68_13, x68_14, a68_14, sx_guardO g68_14_2, sx_guardO g68_14_9, sx_guardO g68_14_18, x68_15, a68_15, sxAll, arithA, Nat.reduceEqDiff, Env.keep, qt_eq, isAlloc, resultsA, packA, storeA, indexAddrA, fieldA, indexA, unA, fieldAddrA, loadA, Rv.part, cellsAt, TD.isAgg, convH, convA, buildA, fillA, setCells, copies, lenA, optA, boundA, mapO, ↓Option.bind_some, ↓Option.bind_none, Nat.reduceBEq, Nat.reduceAdd, Nat.reduceMul, Nat.reduceLeDiff, Nat.reduceSub, Nat.reduceLT, Nat.reduceGT, Int.reduceBEq, Int.reduceLT, Int.reduceLE, bne, ↓reduceIte, ty26, ty38, ty42, ty101, ty5, ty3, ty2, ty4, ty29, ty22, ty23, ty24, ty36, codeL_len, memsL_len, strL_len, funsL_len, intL_len, ea]
      try simp only [ha, decide_true, Bool.true_and, if_true, Int.reduceEq, if_false]
      exact leave_kept rfl rfl
    · have ea : (i.n ≥ 0) = False := by simp; omega
      simp only [e2, e3, e4, e5, SProg.cells, SFun.cells, SIns.cells, rowCells, k68, Tryz.f68, regEnd_nrm (lv68 _), pu68, x68_0, a68_0, im68_4, im68_5, im68_6, im68_7, x68_1, a68_1, x68_2, a68_2, x68_3, a68_3, x68_4, a68_4, sx_guardO g68_4_2, x68_5, a68_5, x68_6, a68_6, sx_guardO g68_6_2, x68_7, a68_7, x68_8, a68_8, sx_guardO g68_8_2, x68_9, a68_9, x68_10, a68_10, sx_guardO g68_10_2, x68_11, a68_11, x68_12, a68_12, sx_guardO g68_12_2, x68_13, a68_13, x68_14, a68_14, sx_guardO g68_14_2, sx_guardO g68_14_9, sx_guardO g68_14_18, x68_15, a68_15, sxAll, arithA, Nat.reduceEqDiff, Env.keep, qt_eq, isAlloc, resultsA, packA, storeA, indexAddrA, fieldA, indexA, unA, fieldAddrA, loadA, Rv.part, cellsAt, TD.isAgg, convH, convA, buildA, fillA, setCells, copies, lenA, optA, boundA, mapO, ↓Option.bind_some, ↓Option.bind_none, Nat.reduceBEq, Nat.reduceAdd, Nat.reduceMul, Nat.reduceLeDiff, Nat.reduceSub, Nat.reduceLT, Nat.reduceGT, Int.reduceBEq, Int.reduceLT, Int.reduceLE, bne, ↓reduceIte, ty26, ty38, ty42, ty101, ty5, ty3, ty2, ty4, ty29, ty22, ty23, ty24, ty36, codeL_len, memsL_len, strL_len, funsL_len, intL_len, ea]
      try simp only [ha, decide_false, Bool.false_and, if_true, Int.reduceEq, if_false]
      exact leave_kept rfl rfl
  have e7 : (n == 7) = false := by simp [h7]
  rw [if_neg h7]
  by_cases h6 : n = 6
  · subst h6
    by_cases ha : 0 ≤ i.n
    · have ea : (i.n ≥ 0) = True := by simp [ha]
      by_cases hb : i.n < p.funs.length
      · have eb : (i.n < (p.funs.length : Int)) = True := by simp [hb]
        obtain ⟨g, hg⟩ : ∃ g, p.funs[i.n.toNat]? = some g := ⟨_, List.getElem?_eq_getElem (by omega)⟩
        have hg' := funsL_get hg
        have hneg : (i.n < 0) = False := by simp; omega
        cases ht : g.thread with
        | true =>
          simp only [e2, e3, e4, e5, e7, SProg.cells, SFun.cells, SIns.cells, rowCells, k68, Tryz.f68, regEnd_nrm (lv68 _), pu68, x68_0, a68_0, im68_4, im68_5, im68_6, im68_7, x68_1, a68_1, x68_2, a68_2, x68_3, a68_3, x68_4, a68_4, sx_guardO g68_4_2, x68_5, a68_5, x68_6, a68_6, sx_guardO g68_6_2, x68_7, a68_7, x68_8, a68_8, sx_guardO g68_8_2, x68_9, a68_9, x68_10, a68_10, sx_guardO g68_10_2, x68_11, a68_11, x68_12, a68_12, sx_guardO g68_12_2, x68_13, a68_13, x68_14, a68_14, sx_guardO g68_14_2, sx_guardO g68_14_9, sx_guardO g68_14_18, x68_15, a68_15, sxAll, arithA, Nat.reduceEqDiff, Env.keep, qt_eq, isAlloc, resultsA, packA, storeA, indexAddrA, fieldA, indexA, unA, fieldAddrA, loadA, Rv.part, cellsAt, TD.isAgg, convH, convA, buildA, fillA, setCells, copies, lenA, optA, boundA, mapO, ↓Option.bind_some, ↓Option.bind_none, Nat.reduceBEq, Nat.reduceAdd, Nat.reduceMul, Nat.reduceLeDiff, Nat.reduceSub, Nat.reduceLT, Nat.reduceGT, Int.reduceBEq, Int.reduceLT, Int.reduceLE, bne, ↓reduceIte, ty26, ty38, ty42, ty101, ty5, ty3, ty2, ty4, ty29, ty22, ty23, ty24, ty36, codeL_len, memsL_len, strL_len, funsL_len, intL_len, ea, eb, hneg, hg', ht]
          try simp only [ha, hg, ht, decide_true, Bool.true_and, if_true, Bool.not_true, Bool.false_and]
          exact leave_kept rfl rfl
        | false =>
          simp only [e2, e3, e4, e5, e7, SProg.cells, SFun.cells, SIns.cells, rowCells, k68, Tryz.f68, regEnd_nrm (lv68 _), pu68, x68_0, a68_0, im68_4, im68_5, im68_6, im68_7, x68_1, a68_1, x68_2, a68_2, x68_3, a68_3, x68_4, a68_4, sx_guardO g68_4_2, x68_5, a68_5, x68_6, a68_6, sx_guardO g68_6_2, x68_7, a68_7, x68_8, a68_8, sx_guardO g68_8_2, x68_9, a68_9, x68_10, a68_10, sx_guardO g68_10_2, x68_11, a68_11, x68_12, a68_12, sx_guardO g68_12_2, x68_13, a68_13, x68_14, a68_14, sx_guardO g68_14_2, sx_guardO g68_14_9, sx_guardO g68_14_18, x68_15, a68_15, sxAll, arithA, Nat.reduceEqDiff, Env.keep, qt_eq, isAlloc, resultsA, packA, storeA, indexAddrA, fieldA, indexA, unA, fieldAddrA, loadA, Rv.part, cellsAt, TD.isAgg, convH, convA, buildA, fillA, setCells, copies, lenA, optA, boundA, mapO, ↓Option.bind_some, ↓Option.bind_none, Nat.reduceBEq, Nat.reduceAdd, Nat.reduceMul, Nat.reduceLeDiff, Nat.reduceSub, Nat.reduceLT, Nat.reduceGT, Int.reduceBEq, Int.reduceLT, Int.reduceLE, bne, ↓reduceIte, ty26, ty38, ty42, ty101, ty5, ty3, ty2, ty4, ty29, ty22, ty23, ty24, ty36, codeL_len, memsL_len, strL_len, funsL_len, intL_len, ea, eb, hneg, hg', ht]
          try simp only [ha, hg, ht, decide_true, Bool.true_and, if_true, Bool.not_false, beq_dec]
          exact leave_kept rfl rfl
      · have eb : (i.n < (p.funs.length : Int)) = False := by simp; omega
        have hg : p.funs[i.n.toNat]? = none := List.getElem?_eq_none (by omega)
        simp only [e2, e3, e4, e5, e7, SProg.cells, SFun.cells, SIns.cells, rowCells, k68, Tryz.f68, regEnd_nrm (lv68 _), pu68, x68_0, a68_0, im68_4, im68_5, im68_6, im68_7, x68_1, a68_1, x68_2, a68_2, x68_3, a68_3, x68_4, a68_4, sx_guardO g68_4_2, x68_5, a68_5, x68_6, a68_6, sx_guardO g68_6_2, x68_7, a68_7, x68_8, a68_8, sx_guardO g68_8_2, x68_9, a68_9, x68_10, a68_10, sx_guardO g68_10_2, x68_11, a68_11, x68_12, a68_12, sx_guardO g68_12_2, x68_13, a68_13, x68_14, a68_14, sx_guardO g68_14_2, sx_guardO g68_14_9, sx_guardO g68_14_18, x68_15, a68_15, sxAll, arithA, Nat.reduceEqDiff, Env.keep, qt_eq, isAlloc, resultsA, packA, storeA, indexAddrA, fieldA, indexA, unA, fieldAddrA, loadA, Rv.part, cellsAt, TD.isAgg, convH, convA, buildA, fillA, setCells, copies, lenA, optA, boundA, mapO, ↓Option.bind_some, ↓Option.bind_none, Nat.reduceBEq, Nat.reduceAdd, Nat.reduceMul, Nat.reduceLeDiff, Nat.reduceSub, Nat.reduceLT, Nat.reduceGT, Int.reduceBEq, Int.reduceLT, Int.reduceLE, bne, ↓reduceIte, ty26, ty38, ty42, ty101, ty5, ty3, ty2, ty4, ty29, ty22, ty23, ty24, ty36, codeL_len, memsL_len, strL_len, funsL_len, intL_len, ea, eb]
        try simp only [ha, hg, decide_true, Bool.true_and, if_true]
        exact leave_kept rfl rfl
    · have ea : (i.n ≥ 0) = False := by simp; omega
      simp only [e2, e3, e4, e5, e7, SProg.cells, SFun.cells, SIns.cells, rowCells, k68, Tryz.f68, regEnd_nrm (lv68 _), pu68, x68_0, a68_0, im68_4, im68_5, im68_6, im68_7, x68_1, a68_1, x68_2, a68_2, x68_3, a68_3, x68_4, a68_4, sx_guardO g68_4_2, x68_5, a68_5, x68_6, a68_6, sx_guardO g68_6_2, x68_7, a68_7, x68_8, a68_8, sx_guardO g68_8_2, x68_9, a68_9, x68_10, a68_10, sx_guardO g68_10_2, x68_11, a68_11, x68_12, a68_12, sx_guardO g68_12_2, x68_13, a68_13, x68_14, a68_14, sx_guardO g68_14_2, sx_guardO g68_14_9, sx_guardO g68_14_18, x68_15, a68_15, sxAll, arithA, Nat.reduceEqDiff, Env.keep, qt_eq, isAlloc, resultsA, packA, storeA, indexAddrA, fieldA, indexA, unA, fieldAddrA, loadA, Rv.part, cellsAt, TD.isAgg, convH, convA, buildA, fillA, setCells, copies, lenA, optA, boundA, mapO, ↓Option.bind_some, ↓Option.bind_none, Nat.reduceBEq, Nat.reduceAdd, Nat.reduceMul, Nat.reduceLeDiff, Nat.reduceSub, Nat.reduceLT, Nat.reduceGT, Int.reduceBEq, Int.reduceLT, Int.reduceLE, bne, ↓reduceIte, ty26, ty38, ty42, ty101, ty5, ty3, ty2, ty4, ty29, ty22, ty23, ty24, ty36, codeL_len, memsL_len, strL_len, funsL_len, intL_len, ea]
      try simp only [ha, decide_false, Bool.false_and, if_true]
      exact leave_kept rfl rfl
  have e6 : (n == 6) = false := by simp [h6]
  rw [if_neg h6]
  simp only [e2, e3, e4, e5, e6, e7, SProg.cells, SFun.cells, SIns.cells, rowCells, k68, Tryz.f68, regEnd_nrm (lv68 _), pu68, x68_0, a68_0, im68_4, im68_5, im68_6, im68_7, x68_1, a68_1, x68_2, a68_2, x68_3, a68_3, x68_4, a68_4, sx_guardO g68_4_2, x68_5, a68_5, x68_6, a68_6, sx_guardO g68_6_2, x68_7, a68_7, x68_8, a68_8, sx_guardO g68_8_2, x68_9, a68_9, x68_10, a68_10, sx_guardO g68_10_2, x68_11, a68_11, x68_12, a68_12, sx_guardO g68_12_2, x68_13, a68_13, x68_14, a68_14, sx_guardO g68_14_2, sx_guardO g68_14_9, sx_guardO g68_14_18, x68_15, a68_15, sxAll, arithA, Nat.reduceEqDiff, Env.keep, qt_eq, isAlloc, resultsA, packA, storeA, indexAddrA, fieldA, indexA, unA, fieldAddrA, loadA, Rv.part, cellsAt, TD.isAgg, convH, convA, buildA, fillA, setCells, copies, lenA, optA, boundA, mapO, ↓Option.bind_some, ↓Option.bind_none, Nat.reduceBEq, Nat.reduceAdd, Nat.reduceMul, Nat.reduceLeDiff, Nat.reduceSub, Nat.reduceLT, Nat.reduceGT, Int.reduceBEq, Int.reduceLT, Int.reduceLE, bne, ↓reduceIte, ty26, ty38, ty42, ty101, ty5, ty3, ty2, ty4, ty29, ty22, ty23, ty24, ty36, codeL_len, memsL_len, strL_len, funsL_len, intL_len]
  exact leave_kept rfl rfl
end
end Go.Proofs.Sx

/-
  package code: 'reads'.
-/
set_option linter.unusedSimpArgs false
set_option linter.unusedVariables false
set_option maxRecDepth 100000
set_option maxHeartbeats 4000000
namespace Go.Proofs.Sx
open Go.Rv Go.Proofs
attribute [local congr] bind_left got_left
noncomputable section

theorem obj_keep {h h' : Heap} {o g : Nat} {cs : List AV} (H : h.obj o g = some cs) (K : h'[o]? = h[o]?) : h'.obj o g = some cs := by
  unfold Heap.obj at *
  rw [K]; exact H

def optL (b : Bool) (l : List Int) : List Int := if b then l else []
def wantA' (q : Row) (i : SIns) : Bool := q.2.1 && !(q.2.2.2.1 && (i.a == -1))
def readsOf (q : Row) (i : SIns) : List Int := optL (wantA' q i) [i.a] ++ (optL q.2.2.1 [i.b] ++ optL (q.2.2.2.2 == 6) i.args)

/-- One step of building: so much is put behind, or not. -/
theorem step_built {h : Heap} {v : AV} {xs : List Int} (c : Bool) (ys : List Int) (B : Built h v (intL xs) 1) (hl : xs.length + ys.length ≤ mostLen) {o3 g3 n : Nat} {cs : List AV} (h3 : h.obj o3 g3 = some cs) (hne : ∀ o, objOf v = some o → n ≤ o ∧ o3 ≠ o) (hn : n ≤ h.length) :
    ∃ v' h', (c = true → appendA h 1 v (intL ys) = some (v', h')) ∧ (c = false → v' = v ∧ h' = h) ∧ Built h' v' (intL (xs ++ optL c ys)) 1 ∧ h'.obj o3 g3 = some cs ∧ (∀ o, objOf v' = some o → n ≤ o ∧ o3 ≠ o) ∧ n ≤ h'.length ∧ h'.take n = h.take n ∧ (objOf v ≠ none → objOf v' ≠ none) := by
  cases c with
  | false => exact ⟨v, h, by simp, fun _ => ⟨rfl, rfl⟩, by simpa [optL] using B, h3, hne, hn, rfl, id⟩
  | true =>
    obtain ⟨v', h', h1, h2, h4, h5, h6⟩ := append_built B (plain_ints xs).size (fun y hy => (plain_ints ys).leafs y hy) (by omega) (by simpa [intL] using hl)
    have ho3 := obj_some h3
    refine ⟨v', h', fun _ => h1, by simp, ?_, obj_keep h3 (h5 o3 ho3 fun hc => (hne o3 hc).2 rfl), ?_, Nat.le_trans hn h4, ?_⟩
    · rw [show intL (xs ++ optL true ys) = intL xs ++ intL ys by simp [intL, optL]]; exact h2
    · intro o ho
      rcases h6 with h6 | h6
      · exact hne o (h6 ▸ ho)
      · rw [h6] at ho
        simp only [Option.some.injEq] at ho
        subst ho
        exact ⟨hn, by omega⟩
    · refine ⟨List.ext_getElem? fun i => ?_, fun hv => by rcases h6 with h6 | h6 <;> rw [h6] <;> simp [hv]⟩
      by_cases hi : i < n
      · rw [List.getElem?_take_of_lt hi, List.getElem?_take_of_lt hi]
        exact h5 i (by omega) fun hc => by have := (hne i hc).1; omega
      · rw [List.getElem?_eq_none (by simp; omega), List.getElem?_eq_none (by simp; omega)]

theorem lv94 (r : Nat) : cfg.live 94 r = some [0, 1, 2] := rfl
theorem ok94 : okB cfg0 94 Tryz.f94 (Tryz.f94.body.getD .skip) = true := by kernel_rfl
theorem pu94 : cfg.pure 94 = true := rfl
instance tight94 {d : Option Nat} : TightD cfg 94 d := ⟨fun _ _ => rfl⟩
def a94_0 : Array Oper := codeOps (codeAt [false] (Tryz.f94.body.getD .skip))
def b94_0 : Array Oper := a94_0
def r94_0 : Code := .region 0 a94_0 false
theorem im94_1 : cfg.imm 94 1 = true := by kernel_rfl
theorem x94_0 (e : Env) (h : Heap) : exec cfg 94 r94_0 e h = (ops cfg 94 b94_0 (a94_0.toList) e h).bind (regEnd cfg 94 0 false) := region_at _ _ _ _ _ _ _
def a94_1 : Array Oper := codeOps (codeAt [true, false] (Tryz.f94.body.getD .skip))
def b94_1 : Array Oper := a94_1
def r94_1 : Code := .region 1 a94_1 false
theorem x94_1 (e : Env) (h : Heap) : exec cfg 94 r94_1 e h = (ops cfg 94 b94_1 (a94_1.toList) e h).bind (regEnd cfg 94 1 false) := region_at _ _ _ _ _ _ _
def k94 : Code := (.seq r94_0 (.seq r94_1 .ret))
theorem body94 : Tryz.f94.body = some k94 := by kernel_rfl
theorem call94 (x0 : AV) (h : Heap) : call cfg 94 [x0] h = (exec cfg 94 k94 [(0, x0)] h).bind (callEnd cfg 94 h [.tmp 2]) := call_at2 (fnat Tryz.func94 body94 (by rw [← ok94]; kernel_rfl)) rfl rfl
theorem lv69 (r : Nat) : cfg.live 69 r = some [0, 1, 2, 3, 5, 23, 30, 38] := rfl
theorem ok69 : okB cfg0 69 Tryz.f69 (Tryz.f69.body.getD .skip) = true := by kernel_rfl
theorem pu69 : cfg.pure 69 = true := rfl
instance tight69 {d : Option Nat} : TightD cfg 69 d := ⟨fun _ _ => rfl⟩
def a69_0 : Array Oper := codeOps (codeAt [false] (Tryz.f69.body.getD .skip))
def b69_0 : Array Oper := a69_0
def r69_0 : Code := .region 0 a69_0 false
theorem im69_1 : cfg.imm 69 1 = true := by kernel_rfl
theorem x69_0 (e : Env) (h : Heap) : exec cfg 69 r69_0 e h = (ops cfg 69 b69_0 (a69_0.toList) e h).bind (regEnd cfg 69 0 false) := region_at _ _ _ _ _ _ _
def a69_1 : Array Oper := codeOps (codeAt [true, false] (Tryz.f69.body.getD .skip))
def b69_1 : Array Oper := a69_1
def r69_1 : Code := .region 1 a69_1 false
theorem x69_1 (e : Env) (h : Heap) : exec cfg 69 r69_1 e h = (ops cfg 69 b69_1 (a69_1.toList) e h).bind (regEnd cfg 69 1 false) := region_at _ _ _ _ _ _ _
def a69_2 : Array Oper := codeOps (codeAt [true, true, false] (Tryz.f69.body.getD .skip))
def b69_2 : Array Oper := a69_2
def r69_2 : Code := .region 2 a69_2 false
theorem im69_11 : cfg.imm 69 11 = false := by kernel_rfl
theorem x69_2 (e : Env) (h : Heap) : exec cfg 69 r69_2 e h = (ops cfg 69 b69_2 (a69_2.toList) e h).bind (regEnd cfg 69 2 false) := region_at _ _ _ _ _ _ _
def a69_3 : Array Oper := codeOps (codeAt [true, true, true, false, false] (Tryz.f69.body.getD .skip))
def b69_3 : Array Oper := a69_3
def r69_3 : Code := .region 3 a69_3 false
theorem x69_3 (e : Env) (h : Heap) : exec cfg 69 r69_3 e h = (ops cfg 69 b69_3 (a69_3.toList) e h).bind (regEnd cfg 69 3 false) := region_at _ _ _ _ _ _ _
theorem g69_3_2 : (b69_3[2]?).bind (·.dst) = some 14 := by kernel_rfl
theorem g69_3_5 : (b69_3[5]?).bind (·.dst) = some 17 := by kernel_rfl
def a69_4 : Array Oper := codeOps (codeAt [true, true, true, false, true, false] (Tryz.f69.body.getD .skip))
def b69_4 : Array Oper := a69_4
def r69_4 : Code := .region 4 a69_4 false
theorem im69_27 : cfg.imm 69 27 = true := by kernel_rfl
theorem x69_4 (e : Env) (h : Heap) : exec cfg 69 r69_4 e h = (ops cfg 69 b69_4 (a69_4.toList) e h).bind (regEnd cfg 69 4 false) := region_at _ _ _ _ _ _ _
def a69_5 : Array Oper := codeOps (codeAt [true, true, true, true, false, false] (Tryz.f69.body.getD .skip))
def b69_5 : Array Oper := a69_5
def r69_5 : Code := .region 5 a69_5 false
theorem x69_5 (e : Env) (h : Heap) : exec cfg 69 r69_5 e h = (ops cfg 69 b69_5 (a69_5.toList) e h).bind (regEnd cfg 69 5 false) := region_at _ _ _ _ _ _ _
def a69_6 : Array Oper := codeOps (codeAt [true, true, true, true, false, true, false] (Tryz.f69.body.getD .skip))
def b69_6 : Array Oper := a69_6
def r69_6 : Code := .region 6 a69_6 false
theorem im69_34 : cfg.imm 69 34 = true := by kernel_rfl
theorem x69_6 (e : Env) (h : Heap) : exec cfg 69 r69_6 e h = (ops cfg 69 b69_6 (a69_6.toList) e h).bind (regEnd cfg 69 6 false) := region_at _ _ _ _ _ _ _
def a69_7 : Array Oper := codeOps (codeAt [true, true, true, true, true, false, false] (Tryz.f69.body.getD .skip))
def b69_7 : Array Oper := a69_7
def r69_7 : Code := .region 7 a69_7 false
theorem x69_7 (e : Env) (h : Heap) : exec cfg 69 r69_7 e h = (ops cfg 69 b69_7 (a69_7.toList) e h).bind (regEnd cfg 69 7 false) := region_at _ _ _ _ _ _ _
def a69_8 : Array Oper := codeOps (codeAt [true, true, true, true, true, false, true, false] (Tryz.f69.body.getD .skip))
def b69_8 : Array Oper := a69_8
def r69_8 : Code := .region 8 a69_8 false
theorem x69_8 (e : Env) (h : Heap) : exec cfg 69 r69_8 e h = (ops cfg 69 b69_8 (a69_8.toList) e h).bind (regEnd cfg 69 8 false) := region_at _ _ _ _ _ _ _
def a69_9 : Array Oper := codeOps (codeAt [true, true, true, true, true, true, false] (Tryz.f69.body.getD .skip))
def b69_9 : Array Oper := a69_9
def r69_9 : Code := .region 9 a69_9 false
theorem x69_9 (e : Env) (h : Heap) : exec cfg 69 r69_9 e h = (ops cfg 69 b69_9 (a69_9.toList) e h).bind (regEnd cfg 69 9 false) := region_at _ _ _ _ _ _ _
def k69 : Code := (.seq r69_0 (.seq r69_1 (.seq r69_2 (.seq (.seq r69_3 (.cond (.tmp 23) r69_4 .skip)) (.seq (.seq r69_5 (.cond (.tmp 30) r69_6 .skip)) (.seq (.seq r69_7 (.cond (.tmp 38) r69_8 .skip)) (.seq r69_9 .ret)))))))
theorem body69 : Tryz.f69.body = some k69 := by kernel_rfl
theorem call69 (x0 : AV) (h : Heap) : call cfg 69 [x0] h = (exec cfg 69 k69 [(0, x0)] h).bind (callEnd cfg 69 h [.tmp 2]) := call_at2 (fnat Tryz.func69 body69 (by rw [← ok69]; kernel_rfl)) rfl rfl

section
variable (q : Row) (i : SIns) (H H' : Heap) (v v' : AV) (o3 : Nat) (t0 t2 t4 t23 t30 t38 : AV)
theorem reads_st1 (h3 : H.obj o3 0 = some (rowCells q)) (hk : known v = some v) (hk' : known v' = some v') (h1 : wantA' q i = true → appendA H 1 v (intL [i.a]) = some (v', H')) (h2 : wantA' q i = false → v' = v ∧ H' = H) :
    exec cfg 69 (.seq r69_3 (.cond (.tmp 23) r69_4 .skip)) [(0, t0), (1, .ref i.cells), (2, t2), (3, .ptr o3 0 0), (5, v), (23, t23), (30, t30), (38, t38)] H
      = some (.nrm, [(0, t0), (1, .ref i.cells), (2, t2), (3, .ptr o3 0 0), (5, v'), (23, (.bool (wantA' q i))), (30, t30), (38, t38)], H') := by
  have hl : H.live o3 0 = true := by simp [Heap.live, h3]
  obtain ⟨q1, q2, q3, q4, n⟩ := q
  simp only [rowCells] at h3
  cases q2 with
  | false =>
    obtain ⟨rfl, rfl⟩ := h2 rfl
    simp only [SIns.cells, rowCells, k69, Tryz.f69, regEnd_nrm (lv69 _), pu69, x69_0, a69_0, im69_1, x69_1, a69_1, x69_2, a69_2, im69_11, x69_3, a69_3, sx_guardO g69_3_2, sx_guardO g69_3_5, x69_4, a69_4, im69_27, x69_5, a69_5, x69_6, a69_6, im69_34, x69_7, a69_7, x69_8, a69_8, x69_9, a69_9, sxAll, arithA, Nat.reduceEqDiff, Env.keep, qt_eq, isAlloc, resultsA, packA, storeA, indexAddrA, fieldA, indexA, unA, fieldAddrA, loadA, Rv.part, cellsAt, TD.isAgg, convH, convA, buildA, fillA, setCells, copies, lenA, optA, boundA, mapO, ↓Option.bind_some, ↓Option.bind_none, Nat.reduceBEq, Nat.reduceAdd, Nat.reduceMul, Nat.reduceLeDiff, Nat.reduceSub, Nat.reduceLT, Nat.reduceGT, Int.reduceBEq, Int.reduceLT, Int.reduceLE, bne, ↓reduceIte, ty42, ty101, ty5, ty3, ty2, ty4, ty29, elems, group, h3, hl, wantA']
  | true =>
    cases q4 with
    | false =>
      have ha := h1 rfl
      simp only [intL, List.map_cons, List.map_nil] at ha
      simp only [SIns.cells, rowCells, k69, Tryz.f69, regEnd_nrm (lv69 _), pu69, x69_0, a69_0, im69_1, x69_1, a69_1, x69_2, a69_2, im69_11, x69_3, a69_3, sx_guardO g69_3_2, sx_guardO g69_3_5, x69_4, a69_4, im69_27, x69_5, a69_5, x69_6, a69_6, im69_34, x69_7, a69_7, x69_8, a69_8, x69_9, a69_9, sxAll, arithA, Nat.reduceEqDiff, Env.keep, qt_eq, isAlloc, resultsA, packA, storeA, indexAddrA, fieldA, indexA, unA, fieldAddrA, loadA, Rv.part, cellsAt, TD.isAgg, convH, convA, buildA, fillA, setCells, copies, lenA, optA, boundA, mapO, ↓Option.bind_some, ↓Option.bind_none, Nat.reduceBEq, Nat.reduceAdd, Nat.reduceMul, Nat.reduceLeDiff, Nat.reduceSub, Nat.reduceLT, Nat.reduceGT, Int.reduceBEq, Int.reduceLT, Int.reduceLE, bne, ↓reduceIte, ty42, ty101, ty5, ty3, ty2, ty4, ty29, elems, group, h3, hl, wantA', hk, hk', ha]
    | true =>
      cases hx : i.a == -1 with
      | true =>
        obtain ⟨rfl, rfl⟩ := h2 (by simp [wantA', hx])
        simp only [SIns.cells, rowCells, k69, Tryz.f69, regEnd_nrm (lv69 _), pu69, x69_0, a69_0, im69_1, x69_1, a69_1, x69_2, a69_2, im69_11, x69_3, a69_3, sx_guardO g69_3_2, sx_guardO g69_3_5, x69_4, a69_4, im69_27, x69_5, a69_5, x69_6, a69_6, im69_34, x69_7, a69_7, x69_8, a69_8, x69_9, a69_9, sxAll, arithA, Nat.reduceEqDiff, Env.keep, qt_eq, isAlloc, resultsA, packA, storeA, indexAddrA, fieldA, indexA, unA, fieldAddrA, loadA, Rv.part, cellsAt, TD.isAgg, convH, convA, buildA, fillA, setCells, copies, lenA, optA, boundA, mapO, ↓Option.bind_some, ↓Option.bind_none, Nat.reduceBEq, Nat.reduceAdd, Nat.reduceMul, Nat.reduceLeDiff, Nat.reduceSub, Nat.reduceLT, Nat.reduceGT, Int.reduceBEq, Int.reduceLT, Int.reduceLE, bne, ↓reduceIte, ty42, ty101, ty5, ty3, ty2, ty4, ty29, elems, group, h3, hl, wantA', hx]
      | false =>
        have ha := h1 (by simp [wantA', hx])
        simp only [intL, List.map_cons, List.map_nil] at ha
        simp only [SIns.cells, rowCells, k69, Tryz.f69, regEnd_nrm (lv69 _), pu69, x69_0, a69_0, im69_1, x69_1, a69_1, x69_2, a69_2, im69_11, x69_3, a69_3, sx_guardO g69_3_2, sx_guardO g69_3_5, x69_4, a69_4, im69_27, x69_5, a69_5, x69_6, a69_6, im69_34, x69_7, a69_7, x69_8, a69_8, x69_9, a69_9, sxAll, arithA, Nat.reduceEqDiff, Env.keep, qt_eq, isAlloc, resultsA, packA, storeA, indexAddrA, fieldA, indexA, unA, fieldAddrA, loadA, Rv.part, cellsAt, TD.isAgg, convH, convA, buildA, fillA, setCells, copies, lenA, optA, boundA, mapO, ↓Option.bind_some, ↓Option.bind_none, Nat.reduceBEq, Nat.reduceAdd, Nat.reduceMul, Nat.reduceLeDiff, Nat.reduceSub, Nat.reduceLT, Nat.reduceGT, Int.reduceBEq, Int.reduceLT, Int.reduceLE, bne, ↓reduceIte, ty42, ty101, ty5, ty3, ty2, ty4, ty29, elems, group, h3, hl, wantA', hk, hk', ha, hx]
theorem reads_st2 (h3 : H.obj o3 0 = some (rowCells q)) (hk : known v = some v) (hk' : known v' = some v') (h1 : q.2.2.1 = true → appendA H 1 v (intL [i.b]) = some (v', H')) (h2 : q.2.2.1 = false → v' = v ∧ H' = H) :
    exec cfg 69 (.seq r69_5 (.cond (.tmp 30) r69_6 .skip)) [(0, t0), (1, .ref i.cells), (2, t2), (3, .ptr o3 0 0), (5, v), (23, t23), (30, t30), (38, t38)] H
      = some (.nrm, [(0, t0), (1, .ref i.cells), (2, t2), (3, .ptr o3 0 0), (5, v'), (23, t23), (30, (.bool q.2.2.1)), (38, t38)], H') := by
  have hl : H.live o3 0 = true := by simp [Heap.live, h3]
  obtain ⟨q1, q2, q3, q4, n⟩ := q
  simp only [rowCells] at h3
  cases q3 with
  | false =>
    obtain ⟨rfl, rfl⟩ := h2 rfl
    simp only [SIns.cells, rowCells, k69, Tryz.f69, regEnd_nrm (lv69 _), pu69, x69_0, a69_0, im69_1, x69_1, a69_1, x69_2, a69_2, im69_11, x69_3, a69_3, sx_guardO g69_3_2, sx_guardO g69_3_5, x69_4, a69_4, im69_27, x69_5, a69_5, x69_6, a69_6, im69_34, x69_7, a69_7, x69_8, a69_8, x69_9, a69_9, sxAll, arithA, Nat.reduceEqDiff, Env.keep, qt_eq, isAlloc, resultsA, packA, storeA, indexAddrA, fieldA, indexA, unA, fieldAddrA, loadA, Rv.part, cellsAt, TD.isAgg, convH, convA, buildA, fillA, setCells, copies, lenA, optA, boundA, mapO, ↓Option.bind_some, ↓Option.bind_none, Nat.reduceBEq, Nat.reduceAdd, Nat.reduceMul, Nat.reduceLeDiff, Nat.reduceSub, Nat.reduceLT, Nat.reduceGT, Int.reduceBEq, Int.reduceLT, Int.reduceLE, bne, ↓reduceIte, ty42, ty101, ty5, ty3, ty2, ty4, ty29, elems, group, h3, hl]
  | true =>
    have ha := h1 rfl
    simp only [intL, List.map_cons, List.map_nil] at ha
    simp only [SIns.cells, rowCells, k69, Tryz.f69, regEnd_nrm (lv69 _), pu69, x69_0, a69_0, im69_1, x69_1, a69_1, x69_2, a69_2, im69_11, x69_3, a69_3, sx_guardO g69_3_2, sx_guardO g69_3_5, x69_4, a69_4, im69_27, x69_5, a69_5, x69_6, a69_6, im69_34, x69_7, a69_7, x69_8, a69_8, x69_9, a69_9, sxAll, arithA, Nat.reduceEqDiff, Env.keep, qt_eq, isAlloc, resultsA, packA, storeA, indexAddrA, fieldA, indexA, unA, fieldAddrA, loadA, Rv.part, cellsAt, TD.isAgg, convH, convA, buildA, fillA, setCells, copies, lenA, optA, boundA, mapO, ↓Option.bind_some, ↓Option.bind_none, Nat.reduceBEq, Nat.reduceAdd, Nat.reduceMul, Nat.reduceLeDiff, Nat.reduceSub, Nat.reduceLT, Nat.reduceGT, Int.reduceBEq, Int.reduceLT, Int.reduceLE, bne, ↓reduceIte, ty42, ty101, ty5, ty3, ty2, ty4, ty29, elems, group, h3, hl, hk, hk', ha]
theorem reads_st3 (h3 : H.obj o3 0 = some (rowCells q)) (hk : known v = some v) (hk' : known v' = some v') (h1 : (q.2.2.2.2 == 6) = true → appendA H 1 v (intL i.args) = some (v', H')) (h2 : (q.2.2.2.2 == 6) = false → v' = v ∧ H' = H) :
    exec cfg 69 (.seq r69_7 (.cond (.tmp 38) r69_8 .skip)) [(0, t0), (1, .ref i.cells), (2, t2), (3, .ptr o3 0 0), (5, v), (23, t23), (30, t30), (38, t38)] H
      = some (.nrm, [(0, t0), (1, .ref i.cells), (2, t2), (3, .ptr o3 0 0), (5, v'), (23, t23), (30, t30), (38, (.bool (q.2.2.2.2 == 6)))], H') := by
  have hl : H.live o3 0 = true := by simp [Heap.live, h3]
  obtain ⟨q1, q2, q3, q4, n⟩ := q
  simp only [rowCells] at h3
  cases hn : n == 6 with
  | false =>
    obtain ⟨rfl, rfl⟩ := h2 hn
    simp only [SIns.cells, rowCells, k69, Tryz.f69, regEnd_nrm (lv69 _), pu69, x69_0, a69_0, im69_1, x69_1, a69_1, x69_2, a69_2, im69_11, x69_3, a69_3, sx_guardO g69_3_2, sx_guardO g69_3_5, x69_4, a69_4, im69_27, x69_5, a69_5, x69_6, a69_6, im69_34, x69_7, a69_7, x69_8, a69_8, x69_9, a69_9, sxAll, arithA, Nat.reduceEqDiff, Env.keep, qt_eq, isAlloc, resultsA, packA, storeA, indexAddrA, fieldA, indexA, unA, fieldAddrA, loadA, Rv.part, cellsAt, TD.isAgg, convH, convA, buildA, fillA, setCells, copies, lenA, optA, boundA, mapO, ↓Option.bind_some, ↓Option.bind_none, Nat.reduceBEq, Nat.reduceAdd, Nat.reduceMul, Nat.reduceLeDiff, Nat.reduceSub, Nat.reduceLT, Nat.reduceGT, Int.reduceBEq, Int.reduceLT, Int.reduceLE, bne, ↓reduceIte, ty42, ty101, ty5, ty3, ty2, ty4, ty29, elems, group, h3, hl, hn]
  | true =>
    have ha := h1 hn
    simp only [SIns.cells, rowCells, k69, Tryz.f69, regEnd_nrm (lv69 _), pu69, x69_0, a69_0, im69_1, x69_1, a69_1, x69_2, a69_2, im69_11, x69_3, a69_3, sx_guardO g69_3_2, sx_guardO g69_3_5, x69_4, a69_4, im69_27, x69_5, a69_5, x69_6, a69_6, im69_34, x69_7, a69_7, x69_8, a69_8, x69_9, a69_9, sxAll, arithA, Nat.reduceEqDiff, Env.keep, qt_eq, isAlloc, resultsA, packA, storeA, indexAddrA, fieldA, indexA, unA, fieldAddrA, loadA, Rv.part, cellsAt, TD.isAgg, convH, convA, buildA, fillA, setCells, copies, lenA, optA, boundA, mapO, ↓Option.bind_some, ↓Option.bind_none, Nat.reduceBEq, Nat.reduceAdd, Nat.reduceMul, Nat.reduceLeDiff, Nat.reduceSub, Nat.reduceLT, Nat.reduceGT, Int.reduceBEq, Int.reduceLT, Int.reduceLE, bne, ↓reduceIte, ty42, ty101, ty5, ty3, ty2, ty4, ty29, elems, group, h3, hl, hk, hk', ha, hn]
end

theorem valuesI_eq (v : AV) (h : Heap) (hk : known v = some v) (hc : v.cells = [v]) {v' : AV} (hf : freezeV h h.length 38 v = some v') : call cfg 94 [v] h = some (.ret (.clo 107 [.ref [v']]), h) := by
  rw [call94]
  simp only [k94, Tryz.f94, regEnd_nrm (lv94 _), pu94, x94_0, a94_0, im94_1, x94_1, a94_1, sxAll, arithA, Nat.reduceEqDiff, Env.keep, qt_eq, isAlloc, resultsA, packA, storeA, indexAddrA, fieldA, indexA, unA, fieldAddrA, loadA, Rv.part, cellsAt, TD.isAgg, convH, convA, buildA, fillA, setCells, copies, lenA, optA, boundA, mapO, ↓Option.bind_some, ↓Option.bind_none, Nat.reduceBEq, Nat.reduceAdd, Nat.reduceMul, Nat.reduceLeDiff, Nat.reduceSub, Nat.reduceLT, Nat.reduceGT, Int.reduceBEq, Int.reduceLT, Int.reduceLE, bne, ↓reduceIte, ty29, hk, hc]
  refine leave_kept rfl ?_
  rw [freeze_clo, mapO_cons, freeze_ref, mapO_cons, hf]
  rfl
theorem reads_eq (i : SIns) (h : Heap) (h0 : 0 ≤ i.op) (h1 : i.op < 256) (hn : i.args.length < 1000000000) :
    call cfg 69 [.agg i.cells] h = some (.ret (.clo 107 [.ref [.lst (intL (readsOf (rowOf i.op) i)) 1 .open]]), h) := by
  rw [call69]
  have hof := fun h => ofI_eq i h h0 h1
  generalize rowOf i.op = q at hof ⊢
  generalize legal i.op = l at hof
  obtain ⟨H0, hH0⟩ : ∃ H0, H0 = h ++ [AObj.cells (rowCells q) 0] ++ [.cells [] 0] := ⟨_, rfl⟩
  have hl0 : H0.length = h.length + 2 := by rw [hH0]; simp
  have h3 : H0.obj h.length 0 = some (rowCells q) := by rw [hH0]; simp [Heap.obj]
  have B0 : Built H0 (.msl (h.length + 1) 0 0 1 0 (some 0)) (intL []) 1 := .inr ⟨h.length + 1, 0, some 0, rfl, by rw [hH0]; simp [Heap.obj, flatC, intL], .inr rfl⟩
  obtain ⟨v1, H1, a1, b1, B1, h31, f1, n1, t1, m1⟩ := step_built (wantA' q i) [i.a] B0 (by simp [mostLen]) h3 (n := h.length) (fun o ho => by simp only [objOf, Option.some.injEq] at ho; omega) (by omega)
  obtain ⟨v2, H2, a2, b2, B2, h32, f2, n2, t2, m2⟩ := step_built q.2.2.1 [i.b] B1 (by simp only [List.length_append, List.length_nil, List.length_cons, optL, mostLen]; split <;> simp) h31 f1 n1
  obtain ⟨v3, H3, a3, b3, B3, h33, f3, n3, t3, m3⟩ := step_built (q.2.2.2.2 == 6) i.args B2 (by simp only [List.length_append, List.length_nil, List.length_cons, optL, mostLen]; split <;> split <;> simp <;> omega) h32 f2 n2
  have e1 := fun t0 t2 t23 t30 t38 => reads_st1 q i H0 H1 _ v1 h.length t0 t2 t23 t30 t38 h3 (known_built B0) (known_built B1) a1 b1
  have e2 := fun t0 t2 t23 t30 t38 => reads_st2 q i H1 H2 v1 v2 h.length t0 t2 t23 t30 t38 h31 (known_built B1) (known_built B2) a2 b2
  have e3 := fun t0 t2 t23 t30 t38 => reads_st3 q i H2 H3 v2 v3 h.length t0 t2 t23 t30 t38 h32 (known_built B2) (known_built B3) a3 b3
  have hlist : intL (([] ++ optL (wantA' q i) [i.a]) ++ optL q.2.2.1 [i.b] ++ optL (q.2.2.2.2 == 6) i.args) = intL (readsOf q i) := by simp [readsOf]
  rw [hlist] at B3
  have htk : H3.take h.length = h := by rw [t3, t2, t1, hH0]; simp
  have hr0 : exec cfg 69 r69_0 [(0, .agg i.cells)] h = some (.nrm, [(0, .agg i.cells), (1, .ref i.cells), (2, .nilFunc), (3, .junk), (5, .junk), (23, .junk), (30, .junk), (38, .junk)], h) := by
    simp only [SIns.cells, k69, Tryz.f69, regEnd_nrm (lv69 _), pu69, x69_0, a69_0, im69_1, x69_1, a69_1, x69_2, a69_2, im69_11, x69_3, a69_3, sx_guardO g69_3_2, sx_guardO g69_3_5, x69_4, a69_4, im69_27, x69_5, a69_5, x69_6, a69_6, im69_34, x69_7, a69_7, x69_8, a69_8, x69_9, a69_9, sxAll, arithA, Nat.reduceEqDiff, Env.keep, qt_eq, isAlloc, resultsA, packA, storeA, indexAddrA, fieldA, indexA, unA, fieldAddrA, loadA, Rv.part, cellsAt, TD.isAgg, convH, convA, buildA, fillA, setCells, copies, lenA, optA, boundA, mapO, ↓Option.bind_some, ↓Option.bind_none, Nat.reduceBEq, Nat.reduceAdd, Nat.reduceMul, Nat.reduceLeDiff, Nat.reduceSub, Nat.reduceLT, Nat.reduceGT, Int.reduceBEq, Int.reduceLT, Int.reduceLE, bne, ↓reduceIte, ty42]
  have hr1 : exec cfg 69 r69_1 [(0, .agg i.cells), (1, .ref i.cells), (2, .nilFunc), (3, .junk), (5, .junk), (23, .junk), (30, .junk), (38, .junk)] h = some (.nrm, [(0, .agg i.cells), (1, .ref i.cells), (2, .nilFunc), (3, .ptr h.length 0 0), (5, .junk), (23, .junk), (30, .junk), (38, .junk)], h ++ [.cells (rowCells q) 0]) := by
    simp only [SIns.cells] at hof
    simp only [SIns.cells, rowCells] at hof ⊢
    simp only [k69, Tryz.f69, regEnd_nrm (lv69 _), pu69, x69_0, a69_0, im69_1, x69_1, a69_1, x69_2, a69_2, im69_11, x69_3, a69_3, sx_guardO g69_3_2, sx_guardO g69_3_5, x69_4, a69_4, im69_27, x69_5, a69_5, x69_6, a69_6, im69_34, x69_7, a69_7, x69_8, a69_8, x69_9, a69_9, sxAll, arithA, Nat.reduceEqDiff, Env.keep, qt_eq, isAlloc, resultsA, packA, storeA, indexAddrA, fieldA, indexA, unA, fieldAddrA, loadA, Rv.part, cellsAt, TD.isAgg, convH, convA, buildA, fillA, setCells, copies, lenA, optA, boundA, mapO, ↓Option.bind_some, ↓Option.bind_none, Nat.reduceBEq, Nat.reduceAdd, Nat.reduceMul, Nat.reduceLeDiff, Nat.reduceSub, Nat.reduceLT, Nat.reduceGT, Int.reduceBEq, Int.reduceLT, Int.reduceLE, bne, ↓reduceIte, ty42, ty101, pu65, hof]
  have hr2 : exec cfg 69 r69_2 [(0, .agg i.cells), (1, .ref i.cells), (2, .nilFunc), (3, .ptr h.length 0 0), (5, .junk), (23, .junk), (30, .junk), (38, .junk)] (h ++ [.cells (rowCells q) 0]) = some (.nrm, [(0, .agg i.cells), (1, .ref i.cells), (2, .nilFunc), (3, .ptr h.length 0 0), (5, .msl (h.length + 1) 0 0 1 0 (some 0)), (23, .junk), (30, .junk), (38, .junk)], H0) := by
    simp only [hH0, k69, Tryz.f69, regEnd_nrm (lv69 _), pu69, x69_0, a69_0, im69_1, x69_1, a69_1, x69_2, a69_2, im69_11, x69_3, a69_3, sx_guardO g69_3_2, sx_guardO g69_3_5, x69_4, a69_4, im69_27, x69_5, a69_5, x69_6, a69_6, im69_34, x69_7, a69_7, x69_8, a69_8, x69_9, a69_9, sxAll, arithA, Nat.reduceEqDiff, Env.keep, qt_eq, isAlloc, resultsA, packA, storeA, indexAddrA, fieldA, indexA, unA, fieldAddrA, loadA, Rv.part, cellsAt, TD.isAgg, convH, convA, buildA, fillA, setCells, copies, lenA, optA, boundA, mapO, ↓Option.bind_some, ↓Option.bind_none, Nat.reduceBEq, Nat.reduceAdd, Nat.reduceMul, Nat.reduceLeDiff, Nat.reduceSub, Nat.reduceLT, Nat.reduceGT, Int.reduceBEq, Int.reduceLT, Int.reduceLE, bne, ↓reduceIte, ty29, ty3, Nat.zero_mul]
  have hfr := freeze_built (n := h.length) (d := 36) B3 (plain_ints _) (fun o ho => (f3 o ho).1)
  rw [k69, exec_seq_nrm hr0, exec_seq_nrm hr1, exec_seq_nrm hr2, exec_seq_nrm (e1 _ _ _ _ _), exec_seq_nrm (e2 _ _ _ _ _), exec_seq_nrm (e3 _ _ _ _ _)]
  have hm : objOf v3 ≠ none := m3 (m2 (m1 (by simp [objOf])))
  have hfr' : freezeV H3 h.length 38 v3 = some (.lst (intL (readsOf q i)) 1 .open) := by
    rcases hfr with ⟨rfl, _⟩ | hfr
    · exact absurd rfl hm
    · exact hfr
  have hval := valuesI_eq v3 H3 (known_built B3) (built_cells B3) (freeze_stay (d := 36) B3 (Nat.le_refl _))
  simp only [k69, Tryz.f69, regEnd_nrm (lv69 _), pu69, x69_0, a69_0, im69_1, x69_1, a69_1, x69_2, a69_2, im69_11, x69_3, a69_3, sx_guardO g69_3_2, sx_guardO g69_3_5, x69_4, a69_4, im69_27, x69_5, a69_5, x69_6, a69_6, im69_34, x69_7, a69_7, x69_8, a69_8, x69_9, a69_9, sxAll, arithA, Nat.reduceEqDiff, Env.keep, qt_eq, isAlloc, resultsA, packA, storeA, indexAddrA, fieldA, indexA, unA, fieldAddrA, loadA, Rv.part, cellsAt, TD.isAgg, convH, convA, buildA, fillA, setCells, copies, lenA, optA, boundA, mapO, ↓Option.bind_some, ↓Option.bind_none, Nat.reduceBEq, Nat.reduceAdd, Nat.reduceMul, Nat.reduceLeDiff, Nat.reduceSub, Nat.reduceLT, Nat.reduceGT, Int.reduceBEq, Int.reduceLT, Int.reduceLE, bne, ↓reduceIte, known_built B3, pu94, hval]
  refine leave_pure rfl htk ?_
  rw [freeze_clo, mapO_cons, freeze_ref, mapO_cons, hfr']
  rfl
end
end Go.Proofs.Sx

/-
  package code: 'mayIns'.
-/
set_option linter.unusedSimpArgs false
set_option linter.unusedVariables false
set_option maxRecDepth 100000
set_option maxHeartbeats 4000000
namespace Go.Proofs.Sx
open Go.Rv Go.Proofs
attribute [local congr] bind_left got_left
noncomputable section

theorem lv107 (r : Nat) : cfg.live 107 r = some [0, 1, 4, 5, 6, 7, 8, 14] := rfl
theorem ok107 : okB cfg0 107 Tryz.f107 (Tryz.f107.body.getD .skip) = true := by kernel_rfl
theorem pu107 : cfg.pure 107 = false := rfl
instance tight107 {d : Option Nat} : TightD cfg 107 d := ⟨fun _ _ => rfl⟩
def a107_0 : Array Oper := codeOps (codeAt [false] (Tryz.f107.body.getD .skip))
def b107_0 : Array Oper := a107_0
def r107_0 : Code := .region 0 a107_0 false
theorem x107_0 (e : Env) (h : Heap) : exec cfg 107 r107_0 e h = (ops cfg 107 b107_0 (a107_0.toList) e h).bind (regEnd cfg 107 0 false) := region_at _ _ _ _ _ _ _
def a107_1 : Array Oper := codeOps (codeAt [true, false, false, false] (Tryz.f107.body.getD .skip))
def b107_1 : Array Oper := a107_1
def r107_1 : Code := .region 1 a107_1 false
theorem x107_1 (e : Env) (h : Heap) : exec cfg 107 r107_1 e h = (ops cfg 107 b107_1 (a107_1.toList) e h).bind (regEnd cfg 107 1 false) := region_at _ _ _ _ _ _ _
def a107_2 : Array Oper := codeOps (codeAt [true, false, false, true, true, false, false, false] (Tryz.f107.body.getD .skip))
def b107_2 : Array Oper := a107_2
def r107_2 : Code := .region 2 a107_2 false
theorem x107_2 (e : Env) (h : Heap) : exec cfg 107 r107_2 e h = (ops cfg 107 b107_2 (a107_2.toList) e h).bind (regEnd cfg 107 2 false) := region_at _ _ _ _ _ _ _
def a107_3 : Array Oper := codeOps (codeAt [true, false, false, true, true, false, false, true, false] (Tryz.f107.body.getD .skip))
def b107_3 : Array Oper := a107_3
def r107_3 : Code := .region 3 a107_3 false
theorem x107_3 (e : Env) (h : Heap) : exec cfg 107 r107_3 e h = (ops cfg 107 b107_3 (a107_3.toList) e h).bind (regEnd cfg 107 3 false) := region_at _ _ _ _ _ _ _
def a107_4 : Array Oper := codeOps (codeAt [true, false, false, true, true, true] (Tryz.f107.body.getD .skip))
def b107_4 : Array Oper := a107_4
def r107_4 : Code := .region 4 a107_4 false
theorem x107_4 (e : Env) (h : Heap) : exec cfg 107 r107_4 e h = (ops cfg 107 b107_4 (a107_4.toList) e h).bind (regEnd cfg 107 4 false) := region_at _ _ _ _ _ _ _
def l107_0 : Code := (.seq r107_1 (.seq (.cond (.tmp 8) .skip (.exit 0)) (.seq (.block 1 (.seq r107_2 (.seq r107_3 (.cond (.tmp 14) .ret .skip)))) r107_4)))
def k107 : Code := (.seq r107_0 (.block 0 (.loop l107_0)))
theorem body107 : Tryz.f107.body = some k107 := by kernel_rfl
theorem call107 (x0 x1 : AV) (h : Heap) : call cfg 107 [x0, x1] h = (exec cfg 107 k107 [(0, x0), (1, x1)] h).bind (callEnd cfg 107 h []) := call_at2 (fnat Tryz.func107 body107 (by rw [← ok107]; kernel_rfl)) rfl rfl
theorem lv50 (r : Nat) : cfg.live 50 r = some [0, 1, 2, 3, 4, 5, 6, 7, 8, 9, 10, 11, 34, 36, 37, 45] := rfl
theorem ok50 : okB cfg0 50 Tryz.f50 (Tryz.f50.body.getD .skip) = true := by kernel_rfl
theorem pu50 : cfg.pure 50 = true := rfl
instance tight50 {d : Option Nat} : TightD cfg 50 d := ⟨fun _ _ => rfl⟩
def a50_0 : Array Oper := codeOps (codeAt [false] (Tryz.f50.body.getD .skip))
def b50_0 : Array Oper := a50_0
def r50_0 : Code := .region 0 a50_0 false
theorem im50_3 : cfg.imm 50 3 = true := by kernel_rfl
theorem im50_4 : cfg.imm 50 4 = true := by kernel_rfl
theorem im50_5 : cfg.imm 50 5 = true := by kernel_rfl
theorem x50_0 (e : Env) (h : Heap) : exec cfg 50 r50_0 e h = (ops cfg 50 b50_0 (a50_0.toList) e h).bind (regEnd cfg 50 0 false) := region_at _ _ _ _ _ _ _
def a50_1 : Array Oper := codeOps (codeAt [true, false] (Tryz.f50.body.getD .skip))
def b50_1 : Array Oper := a50_1
def r50_1 : Code := .region 1 a50_1 false
theorem x50_1 (e : Env) (h : Heap) : exec cfg 50 r50_1 e h = (ops cfg 50 b50_1 (a50_1.toList) e h).bind (regEnd cfg 50 1 false) := region_at _ _ _ _ _ _ _
def a50_2 : Array Oper := codeOps (codeAt [true, true, false, false] (Tryz.f50.body.getD .skip))
def b50_2 : Array Oper := a50_2
def r50_2 : Code := .region 2 a50_2 false
theorem x50_2 (e : Env) (h : Heap) : exec cfg 50 r50_2 e h = (ops cfg 50 b50_2 (a50_2.toList) e h).bind (regEnd cfg 50 2 false) := region_at _ _ _ _ _ _ _
theorem g50_2_2 : (b50_2[2]?).bind (·.dst) = some 19 := by kernel_rfl
theorem g50_2_10 : (b50_2[10]?).bind (·.dst) = some 27 := by kernel_rfl
def a50_3 : Array Oper := codeOps (codeAt [true, true, false, true, false, false] (Tryz.f50.body.getD .skip))
def b50_3 : Array Oper := a50_3
def r50_3 : Code := .region 3 a50_3 false
theorem x50_3 (e : Env) (h : Heap) : exec cfg 50 r50_3 e h = (ops cfg 50 b50_3 (a50_3.toList) e h).bind (regEnd cfg 50 3 false) := region_at _ _ _ _ _ _ _
def a50_4 : Array Oper := codeOps (codeAt [true, true, true, false, false] (Tryz.f50.body.getD .skip))
def b50_4 : Array Oper := a50_4
def r50_4 : Code := .region 4 a50_4 false
theorem x50_4 (e : Env) (h : Heap) : exec cfg 50 r50_4 e h = (ops cfg 50 b50_4 (a50_4.toList) e h).bind (regEnd cfg 50 4 false) := region_at _ _ _ _ _ _ _
def a50_5 : Array Oper := codeOps (codeAt [true, true, true, false, true, false, false] (Tryz.f50.body.getD .skip))
def b50_5 : Array Oper := a50_5
def r50_5 : Code := .region 5 a50_5 false
theorem x50_5 (e : Env) (h : Heap) : exec cfg 50 r50_5 e h = (ops cfg 50 b50_5 (a50_5.toList) e h).bind (regEnd cfg 50 5 false) := region_at _ _ _ _ _ _ _
def a50_6 : Array Oper := codeOps (codeAt [true, true, true, false, true, false, true, false, false] (Tryz.f50.body.getD .skip))
def b50_6 : Array Oper := a50_6
def r50_6 : Code := .region 6 a50_6 false
theorem x50_6 (e : Env) (h : Heap) : exec cfg 50 r50_6 e h = (ops cfg 50 b50_6 (a50_6.toList) e h).bind (regEnd cfg 50 6 false) := region_at _ _ _ _ _ _ _
theorem g50_6_2 : (b50_6[2]?).bind (·.dst) = some 40 := by kernel_rfl
def a50_7 : Array Oper := codeOps (codeAt [true, true, true, false, true, false, true, false, true, false, false] (Tryz.f50.body.getD .skip))
def b50_7 : Array Oper := a50_7
def r50_7 : Code := .region 7 a50_7 false
theorem x50_7 (e : Env) (h : Heap) : exec cfg 50 r50_7 e h = (ops cfg 50 b50_7 (a50_7.toList) e h).bind (regEnd cfg 50 7 false) := region_at _ _ _ _ _ _ _
def a50_8 : Array Oper := codeOps (codeAt [true, true, true, true, false] (Tryz.f50.body.getD .skip))
def b50_8 : Array Oper := a50_8
def r50_8 : Code := .region 8 a50_8 false
theorem x50_8 (e : Env) (h : Heap) : exec cfg 50 r50_8 e h = (ops cfg 50 b50_8 (a50_8.toList) e h).bind (regEnd cfg 50 8 false) := region_at _ _ _ _ _ _ _
def a50_9 : Array Oper := codeOps (codeAt [true, true, true, true, true, false] (Tryz.f50.body.getD .skip))
def b50_9 : Array Oper := a50_9
def r50_9 : Code := .region 9 a50_9 false
theorem x50_9 (e : Env) (h : Heap) : exec cfg 50 r50_9 e h = (ops cfg 50 b50_9 (a50_9.toList) e h).bind (regEnd cfg 50 9 false) := region_at _ _ _ _ _ _ _
theorem g50_9_2 : (b50_9[2]?).bind (·.dst) = some 53 := by kernel_rfl
theorem g50_9_5 : (b50_9[5]?).bind (·.dst) = some 56 := by kernel_rfl
def l50_0 : Code := (.block 1 (.seq r50_6 (.cond (.tmp 45) (.seq r50_7 .ret) .skip)))
def k50 : Code := (.seq r50_0 (.seq r50_1 (.seq (.seq r50_2 (.cond (.tmp 34) (.seq r50_3 .ret) .skip)) (.seq (.seq r50_4 (.block 0 (.rangeFunc (.tmp 36) #[37] r50_5 l50_0))) (.seq r50_8 (.seq r50_9 .ret))))))
theorem body50 : Tryz.f50.body = some k50 := by kernel_rfl
theorem call50 (x0 x1 x2 : AV) (h : Heap) : call cfg 50 [x0, x1, x2] h = (exec cfg 50 k50 [(0, x0), (1, x1), (2, x2)] h).bind (callEnd cfg 50 h [.cell 6 4]) := call_at2 (fnat Tryz.func50 body50 (by rw [← ok50]; kernel_rfl)) rfl rfl

theorem valuesIx_run (o : Nat) (xs : List Int) (z : Nat) (r : Room) (hn : xs.length < 1000000000) (I : List Int → Heap → Prop) (Q : Heap → Prop)
    (hstep : ∀ y ys h, I (y :: ys) h → ∃ b h', callv cfg (.yld o) [.int .i64 y] h = some (.ret (.bool b), h') ∧ (b = true → I ys h') ∧ (b = false → Q h')) (hend : ∀ h, I [] h → Q h) (h : Heap) (hI : I xs h) :
    ∃ h', call cfg 107 [.yld o, .ref [.lst (intL xs) z r]] h = some (.ret (.tup []), h') ∧ Q h' := by
  have L : ∀ (ys : List Int) (i : Nat), xs.drop i = ys → i ≤ xs.length → ∀ h, I ys h → ∀ a d t e,
      Got (exec cfg 107 (.loop l107_0) [(0, .yld o), (1, a), (4, d), (5, .lst (intL xs) z r), (6, .int .i64 xs.length), (7, .int .i64 i), (8, t), (14, e)] h) (fun q => (q.1 = .exit 0 ∨ q.1 = .ret) ∧ Q q.2.2) := by
    intro ys
    induction ys with
    | nil =>
      intro i hd hi h hI a d t e
      rw [got_loop]
      simp only [l107_0, k107, Tryz.f107, regEnd_nrm (lv107 _), pu107, x107_0, a107_0, x107_1, a107_1, x107_2, a107_2, x107_3, a107_3, x107_4, a107_4, sxAll, arithA, Nat.reduceEqDiff, Env.keep, qt_eq, isAlloc, resultsA, packA, storeA, indexAddrA, fieldA, indexA, unA, fieldAddrA, loadA, Rv.part, cellsAt, TD.isAgg, convH, convA, buildA, fillA, setCells, copies, lenA, optA, boundA, mapO, ↓Option.bind_some, ↓Option.bind_none, Nat.reduceBEq, Nat.reduceAdd, Nat.reduceMul, Nat.reduceLeDiff, Nat.reduceSub, Nat.reduceLT, Nat.reduceGT, Int.reduceBEq, Int.reduceLT, Int.reduceLE, bne, ↓reduceIte, at_end hd]
      exact ⟨.inl trivial, hend _ hI⟩
    | cons y s ih =>
      intro i hd hi h hI a d t e
      obtain ⟨hlt, _, hd'⟩ := at_drop hd
      obtain ⟨_, hx, _⟩ := at_drop (intL_drop hd)
      have hw := wrap_succ (i := i) (by omega)
      obtain ⟨b, h', hc, h1, h2⟩ := hstep y s h hI
      rw [got_loop]
      cases b with
      | true =>
        have := ih (i + 1) hd' (by simp at hlt; omega) h' (h1 rfl)
        simp only [l107_0] at this ⊢
        simp only [k107, Tryz.f107, regEnd_nrm (lv107 _), pu107, x107_0, a107_0, x107_1, a107_1, x107_2, a107_2, x107_3, a107_3, x107_4, a107_4, sxAll, arithA, Nat.reduceEqDiff, Env.keep, qt_eq, isAlloc, resultsA, packA, storeA, indexAddrA, fieldA, indexA, unA, fieldAddrA, loadA, Rv.part, cellsAt, TD.isAgg, convH, convA, buildA, fillA, setCells, copies, lenA, optA, boundA, mapO, ↓Option.bind_some, ↓Option.bind_none, Nat.reduceBEq, Nat.reduceAdd, Nat.reduceMul, Nat.reduceLeDiff, Nat.reduceSub, Nat.reduceLT, Nat.reduceGT, Int.reduceBEq, Int.reduceLT, Int.reduceLE, bne, ↓reduceIte, hlt, ty29, ty3, hx, hw, known_yld, hc] at this ⊢
        exact this _ _ _ _
      | false =>
        simp only [l107_0, k107, Tryz.f107, regEnd_nrm (lv107 _), pu107, x107_0, a107_0, x107_1, a107_1, x107_2, a107_2, x107_3, a107_3, x107_4, a107_4, sxAll, arithA, Nat.reduceEqDiff, Env.keep, qt_eq, isAlloc, resultsA, packA, storeA, indexAddrA, fieldA, indexA, unA, fieldAddrA, loadA, Rv.part, cellsAt, TD.isAgg, convH, convA, buildA, fillA, setCells, copies, lenA, optA, boundA, mapO, ↓Option.bind_some, ↓Option.bind_none, Nat.reduceBEq, Nat.reduceAdd, Nat.reduceMul, Nat.reduceLeDiff, Nat.reduceSub, Nat.reduceLT, Nat.reduceGT, Int.reduceBEq, Int.reduceLT, Int.reduceLE, bne, ↓reduceIte, hlt, ty29, ty3, hx, hw, known_yld, hc]
        exact ⟨.inr trivial, h2 rfl⟩
  obtain ⟨⟨out, e', h'⟩, hx, ho, hq⟩ := L xs 0 (by simp) (by omega) h hI (.ref [.lst (intL xs) z r]) .junk .junk .junk
  simp only [Int.natCast_zero] at hx ho hq
  refine ⟨h', ?_, hq⟩
  rw [call107]
  rcases ho with rfl | rfl
  · simp only [k107, Tryz.f107, regEnd_nrm (lv107 _), pu107, x107_0, a107_0, x107_1, a107_1, x107_2, a107_2, x107_3, a107_3, x107_4, a107_4, sxAll, arithA, Nat.reduceEqDiff, Env.keep, qt_eq, isAlloc, resultsA, packA, storeA, indexAddrA, fieldA, indexA, unA, fieldAddrA, loadA, Rv.part, cellsAt, TD.isAgg, convH, convA, buildA, fillA, setCells, copies, lenA, optA, boundA, mapO, ↓Option.bind_some, ↓Option.bind_none, Nat.reduceBEq, Nat.reduceAdd, Nat.reduceMul, Nat.reduceLeDiff, Nat.reduceSub, Nat.reduceLT, Nat.reduceGT, Int.reduceBEq, Int.reduceLT, Int.reduceLE, bne, ↓reduceIte, ty29, intL_len, hx]
    exact leave_impure rfl
  · simp only [k107, Tryz.f107, regEnd_nrm (lv107 _), pu107, x107_0, a107_0, x107_1, a107_1, x107_2, a107_2, x107_3, a107_3, x107_4, a107_4, sxAll, arithA, Nat.reduceEqDiff, Env.keep, qt_eq, isAlloc, resultsA, packA, storeA, indexAddrA, fieldA, indexA, unA, fieldAddrA, loadA, Rv.part, cellsAt, TD.isAgg, convH, convA, buildA, fillA, setCells, copies, lenA, optA, boundA, mapO, ↓Option.bind_some, ↓Option.bind_none, Nat.reduceBEq, Nat.reduceAdd, Nat.reduceMul, Nat.reduceLeDiff, Nat.reduceSub, Nat.reduceLT, Nat.reduceGT, Int.reduceBEq, Int.reduceLT, Int.reduceLE, bne, ↓reduceIte, ty29, intL_len, hx]
    exact leave_impure rfl

def inB (n r : Int) : Bool := decide (0 ≤ r) && decide (r < n)

theorem mayIns_range (f : SFun) (xs : List Int) (hn : xs.length < 1000000000) (H : Heap) (o6 : Nat) (b6 : Bool) (h6 : H.obj o6 0 = some [.bool b6]) (t0 t1 t2 t3 t5 t7 t8 t9 t10 t11 t34 t37 t45 : AV) :
    ∃ o H', exec cfg 50 (.rangeFunc (.tmp 36) #[37] r50_5 l50_0) [(0, t0), (1, t1), (2, t2), (3, t3), (4, .ref f.cells), (5, t5), (6, .ptr o6 0 0), (7, t7), (8, t8), (9, t9), (10, t10), (11, t11), (34, t34), (36, .clo 107 [.ref [.lst (intL xs) 1 .open]]), (37, t37), (45, t45)] H
      = some (o, [(0, t0), (1, t1), (2, t2), (3, t3), (4, .ref f.cells), (5, t5), (6, .ptr o6 0 0), (7, t7), (8, t8), (9, t9), (10, t10), (11, t11), (34, t34), (36, .clo 107 [.ref [.lst (intL xs) 1 .open]]), (37, t37), (45, t45)], H') ∧
      ((o = .nrm ∧ xs.all (inB f.regs) = true ∧ ∃ X, H' = H ++ X) ∨ (o = .ret ∧ xs.all (inB f.regs) = false ∧ ∃ X, H' = H.set o6 (.cells [.bool false] 0) ++ X)) := by
  have ho6 := obj_some h6
  generalize hE : ([(0, t0), (1, t1), (2, t2), (3, t3), (4, .ref f.cells), (5, t5), (6, .ptr o6 0 0), (7, t7), (8, t8), (9, t9), (10, t10), (11, t11), (34, t34), (36, .clo 107 [.ref [.lst (intL xs) 1 .open]]), (37, t37), (45, t45)] : Env) = E
  obtain ⟨R, hR⟩ : ∃ R : ALoop, R = { st := .ready, pend := none, f := 50, env := E, ps := (#[37] : Array Tmp).toList, assign := r50_5, body := l50_0 } := ⟨_, rfl⟩
  have run := valuesIx_run H.length xs 1 .open hn (fun ys h => h = H ++ [.loop R] ∧ xs.all (inB f.regs) = ys.all (inB f.regs))
    (fun h => (xs.all (inB f.regs) = true ∧ h = H ++ [.loop R]) ∨ (xs.all (inB f.regs) = false ∧ h = H.set o6 (.cells [.bool false] 0) ++ [.loop { R with st := .done, pend := some .ret }]))
    (fun y ys h hI => by
      obtain ⟨rfl, hall⟩ := hI
      have e1 : exec cfg 50 r50_5 (Env.puts E [37] [.int .i64 y]) (H ++ [.loop R]) = some (.nrm, [(0, t0), (1, t1), (2, t2), (3, t3), (4, .ref f.cells), (5, t5), (6, .ptr o6 0 0), (7, t7), (8, t8), (9, .int .i64 y), (10, t10), (11, t11), (34, t34), (36, .clo 107 [.ref [.lst (intL xs) 1 .open]]), (37, .int .i64 y), (45, t45)], H ++ [.loop R]) := by
        rw [← hE]
        simp only [k50, Tryz.f50, regEnd_nrm (lv50 _), pu50, x50_0, a50_0, im50_3, im50_4, im50_5, x50_1, a50_1, x50_2, a50_2, sx_guardO g50_2_2, sx_guardO g50_2_10, x50_3, a50_3, x50_4, a50_4, x50_5, a50_5, x50_6, a50_6, sx_guardO g50_6_2, x50_7, a50_7, x50_8, a50_8, x50_9, a50_9, sx_guardO g50_9_2, sx_guardO g50_9_5, sxAll, arithA, Nat.reduceEqDiff, Env.keep, qt_eq, isAlloc, resultsA, packA, storeA, indexAddrA, fieldA, indexA, unA, fieldAddrA, loadA, Rv.part, cellsAt, TD.isAgg, convH, convA, buildA, fillA, setCells, copies, lenA, optA, boundA, mapO, ↓Option.bind_some, ↓Option.bind_none, Nat.reduceBEq, Nat.reduceAdd, Nat.reduceMul, Nat.reduceLeDiff, Nat.reduceSub, Nat.reduceLT, Nat.reduceGT, Int.reduceBEq, Int.reduceLT, Int.reduceLE, bne, ↓reduceIte, Env.puts]
      have hlive : ∀ X, Heap.obj (H ++ X) o6 0 = some [.bool b6] := fun X => by rw [obj_left _ _ ho6, h6]
      have hset : ∀ (X : Heap) x, (H ++ X).set o6 x = H.set o6 x ++ X := fun X x => set_left X x ho6
      by_cases hy : inB f.regs y = true
      · have e2 : Got (exec cfg 50 l50_0 [(0, t0), (1, t1), (2, t2), (3, t3), (4, .ref f.cells), (5, t5), (6, .ptr o6 0 0), (7, t7), (8, t8), (9, .int .i64 y), (10, t10), (11, t11), (34, t34), (36, .clo 107 [.ref [.lst (intL xs) 1 .open]]), (37, .int .i64 y), (45, t45)] (H ++ [.loop { R with st := .busy }])) (fun q => q.1 = .nrm ∧ q.2.2 = H ++ [.loop { R with st := .busy }]) := by
          simp only [inB, Bool.and_eq_true, decide_eq_true_eq] at hy
          have c1 : (y < 0) = False := by simp; omega
          have c2 : (y ≥ f.regs) = False := by simp; omega
          simp only [l50_0, SFun.cells, k50, Tryz.f50, regEnd_nrm (lv50 _), pu50, x50_0, a50_0, im50_3, im50_4, im50_5, x50_1, a50_1, x50_2, a50_2, sx_guardO g50_2_2, sx_guardO g50_2_10, x50_3, a50_3, x50_4, a50_4, x50_5, a50_5, x50_6, a50_6, sx_guardO g50_6_2, x50_7, a50_7, x50_8, a50_8, x50_9, a50_9, sx_guardO g50_9_2, sx_guardO g50_9_5, sxAll, arithA, Nat.reduceEqDiff, Env.keep, qt_eq, isAlloc, resultsA, packA, storeA, indexAddrA, fieldA, indexA, unA, fieldAddrA, loadA, Rv.part, cellsAt, TD.isAgg, convH, convA, buildA, fillA, setCells, copies, lenA, optA, boundA, mapO, ↓Option.bind_some, ↓Option.bind_none, Nat.reduceBEq, Nat.reduceAdd, Nat.reduceMul, Nat.reduceLeDiff, Nat.reduceSub, Nat.reduceLT, Nat.reduceGT, Int.reduceBEq, Int.reduceLT, Int.reduceLE, bne, ↓reduceIte, ty26, ty38, ty42, ty101, ty5, ty3, ty2, ty4, ty29, c1, c2]
          exact ⟨trivial, trivial⟩
        obtain ⟨⟨o2, e2, h2⟩, he2, ho2, hh2⟩ := e2
        simp only at ho2 hh2
        subst ho2 hh2
        refine ⟨true, H ++ [.loop R], ?_, fun _ => ⟨rfl, by rw [hall]; simp [hy]⟩, by simp⟩
        have := callv_yld_of (C := cfg) (o := H.length) (vs := [.int .i64 y]) (h := H ++ [.loop R]) (h1 := H ++ [.loop R]) (h2 := H ++ [.loop { R with st := .busy }]) (r := R) (r1 := R) (r2 := { R with st := .busy }) (out := .nrm) (j := none) (loopAt_app0 _ _ _) (by rw [hR]) (by rw [hR]; rfl)
          (by rw [hR] at e1 ⊢; exact e1) (loopAt_app0 _ _ _) (by rw [hR]) (by rw [set_app0, List.set_cons_zero]; rw [hR] at he2 ⊢; exact he2) (loopAt_app0 _ _ _) rfl
        rw [this, set_app0, List.set_cons_zero]
        rw [hR]; rfl
      · have hy' : inB f.regs y = false := by simpa using hy
        have e2 : Got (exec cfg 50 l50_0 [(0, t0), (1, t1), (2, t2), (3, t3), (4, .ref f.cells), (5, t5), (6, .ptr o6 0 0), (7, t7), (8, t8), (9, .int .i64 y), (10, t10), (11, t11), (34, t34), (36, .clo 107 [.ref [.lst (intL xs) 1 .open]]), (37, .int .i64 y), (45, t45)] (H ++ [.loop { R with st := .busy }])) (fun q => q.1 = .ret ∧ q.2.2 = H.set o6 (.cells [.bool false] 0) ++ [.loop { R with st := .busy }]) := by
          by_cases c1 : y < 0
          · simp only [l50_0, SFun.cells, k50, Tryz.f50, regEnd_nrm (lv50 _), pu50, x50_0, a50_0, im50_3, im50_4, im50_5, x50_1, a50_1, x50_2, a50_2, sx_guardO g50_2_2, sx_guardO g50_2_10, x50_3, a50_3, x50_4, a50_4, x50_5, a50_5, x50_6, a50_6, sx_guardO g50_6_2, x50_7, a50_7, x50_8, a50_8, x50_9, a50_9, sx_guardO g50_9_2, sx_guardO g50_9_5, sxAll, arithA, Nat.reduceEqDiff, Env.keep, qt_eq, isAlloc, resultsA, packA, storeA, indexAddrA, fieldA, indexA, unA, fieldAddrA, loadA, Rv.part, cellsAt, TD.isAgg, convH, convA, buildA, fillA, setCells, copies, lenA, optA, boundA, mapO, ↓Option.bind_some, ↓Option.bind_none, Nat.reduceBEq, Nat.reduceAdd, Nat.reduceMul, Nat.reduceLeDiff, Nat.reduceSub, Nat.reduceLT, Nat.reduceGT, Int.reduceBEq, Int.reduceLT, Int.reduceLE, bne, ↓reduceIte, ty26, ty38, ty42, ty101, ty5, ty3, ty2, ty4, ty29, c1, hlive, hset]
            exact ⟨trivial, trivial⟩
          · have c2 : (y ≥ f.regs) = True := by
              simp [inB] at hy'
              simp; omega
            simp only [l50_0, SFun.cells, k50, Tryz.f50, regEnd_nrm (lv50 _), pu50, x50_0, a50_0, im50_3, im50_4, im50_5, x50_1, a50_1, x50_2, a50_2, sx_guardO g50_2_2, sx_guardO g50_2_10, x50_3, a50_3, x50_4, a50_4, x50_5, a50_5, x50_6, a50_6, sx_guardO g50_6_2, x50_7, a50_7, x50_8, a50_8, x50_9, a50_9, sx_guardO g50_9_2, sx_guardO g50_9_5, sxAll, arithA, Nat.reduceEqDiff, Env.keep, qt_eq, isAlloc, resultsA, packA, storeA, indexAddrA, fieldA, indexA, unA, fieldAddrA, loadA, Rv.part, cellsAt, TD.isAgg, convH, convA, buildA, fillA, setCells, copies, lenA, optA, boundA, mapO, ↓Option.bind_some, ↓Option.bind_none, Nat.reduceBEq, Nat.reduceAdd, Nat.reduceMul, Nat.reduceLeDiff, Nat.reduceSub, Nat.reduceLT, Nat.reduceGT, Int.reduceBEq, Int.reduceLT, Int.reduceLE, bne, ↓reduceIte, ty26, ty38, ty42, ty101, ty5, ty3, ty2, ty4, ty29, c1, c2, hlive, hset]
            exact ⟨trivial, trivial⟩
        obtain ⟨⟨o2, e2, h2⟩, he2, ho2, hh2⟩ := e2
        simp only at ho2 hh2
        subst ho2 hh2
        have hlen : (H.set o6 (.cells [.bool false] 0)).length = H.length := by simp
        refine ⟨false, H.set o6 (.cells [.bool false] 0) ++ [.loop { R with st := .done, pend := some .ret }], ?_, by simp, fun _ => .inr ⟨by rw [hall]; simp [hy'], rfl⟩⟩
        have := callv_yld_of (C := cfg) (o := H.length) (vs := [.int .i64 y]) (h := H ++ [.loop R]) (h1 := H ++ [.loop R]) (h2 := H.set o6 (.cells [.bool false] 0) ++ [.loop { R with st := .busy }]) (r := R) (r1 := R) (r2 := { R with st := .busy }) (out := .ret) (j := some .ret) (loopAt_app0 _ _ _) (by rw [hR]) (by rw [hR]; rfl)
          (by rw [hR] at e1 ⊢; exact e1) (loopAt_app0 _ _ _) (by rw [hR]) (by rw [set_app0, List.set_cons_zero]; rw [hR] at he2 ⊢; exact he2) (by rw [← hlen]; exact loopAt_app0 _ _ _) rfl
        rw [this, ← hlen, set_app0, List.set_cons_zero]
        rw [hR]; rfl)
    (fun h hI => .inl ⟨by simp [hI.2], hI.1⟩) (H ++ [.loop R]) ⟨rfl, rfl⟩
  obtain ⟨h', hc, hq⟩ := run
  have hg : evalA cfg E (.tmp 36) = some (.clo 107 [.ref [.lst (intL xs) 1 .open]]) := by
    rw [← hE]
    simp only [sxAll, arithA, Nat.reduceEqDiff, Env.keep, qt_eq, isAlloc, resultsA, packA, storeA, indexAddrA, fieldA, indexA, unA, fieldAddrA, loadA, Rv.part, cellsAt, TD.isAgg, convH, convA, buildA, fillA, setCells, copies, lenA, optA, boundA, mapO, ↓Option.bind_some, ↓Option.bind_none, Nat.reduceBEq, Nat.reduceAdd, Nat.reduceMul, Nat.reduceLeDiff, Nat.reduceSub, Nat.reduceLT, Nat.reduceGT, Int.reduceBEq, Int.reduceLT, Int.reduceLE, bne, ↓reduceIte]
  rw [hR] at hc hq
  rcases hq with ⟨hall, rfl⟩ | ⟨hall, rfl⟩
  · refine ⟨.nrm, _, exec_range_of hg hc (loopAt_app0 _ _ _) rfl (.inl ⟨rfl, rfl⟩), .inl ⟨rfl, hall, ?_⟩⟩
    rw [set_app0]; exact ⟨_, rfl⟩
  · have hlen : (H.set o6 (.cells [.bool false] 0)).length = H.length := by simp
    refine ⟨.ret, _, exec_range_of hg hc (by rw [← hlen]; exact loopAt_app0 _ _ _) rfl (.inr ⟨rfl, rfl⟩), .inr ⟨rfl, hall, ?_⟩⟩
    rw [← hlen, set_app0]; exact ⟨_, rfl⟩
end
end Go.Proofs.Sx

/-
  package code: what 'mayIns' answers.
-/
set_option linter.unusedSimpArgs false
set_option linter.unusedVariables false
set_option maxRecDepth 100000
set_option maxHeartbeats 4000000
namespace Go.Proofs.Sx
open Go.Rv Go.Proofs
attribute [local congr] bind_left got_left
noncomputable section

def noIns : SIns := ⟨0, 0, 0, 0, 0, [], 0, .nil⟩
def mayInsB (p : SProg) (f : SFun) (i : SIns) : Bool :=
  (legal i.op && sameB (bareOf (rowOf i.op) i) noIns && numberB p f (rowOf i.op) i) && ((readsOf (rowOf i.op) i).all (inB f.regs) && (!(writesOf i).2 || inB f.regs (writesOf i).1))
theorem noIns_cells : noIns.cells = [.int .u8 0, .int .i64 0, .int .i64 0, .int .i64 0, .int .i64 0, .lst [] 0 .nil] := rfl

section
variable (p : SProg) (f : SFun) (i b : SIns) (q : Row) (l s nb : Bool) (h : Heap)
  (hof : ∀ h, call cfg 65 [.agg i.cells] h = some (.ret (.tup [.agg (rowCells q), .bool l]), h))
include hof
theorem mayIns_r0 : exec cfg 50 r50_0 [(0, .agg p.cells), (1, .agg f.cells), (2, .agg i.cells)] h = some (.nrm, [(0, .agg p.cells), (1, .agg f.cells), (2, .agg i.cells), (3, .ref p.cells), (4, .ref f.cells), (5, .ref i.cells), (6, .ptr h.length 0 0), (7, .junk), (8, .junk), (9, .junk), (10, .junk), (11, .junk), (34, .junk), (36, .junk), (37, .junk), (45, .junk)], h ++ [.cells [.bool false] 0]) := by
  simp only [SProg.cells, SFun.cells, SIns.cells, rowCells, k50, Tryz.f50, regEnd_nrm (lv50 _), pu50, x50_0, a50_0, im50_3, im50_4, im50_5, x50_1, a50_1, x50_2, a50_2, sx_guardO g50_2_2, sx_guardO g50_2_10, x50_3, a50_3, x50_4, a50_4, x50_5, a50_5, x50_6, a50_6, sx_guardO g50_6_2, x50_7, a50_7, x50_8, a50_8, x50_9, a50_9, sx_guardO g50_9_2, sx_guardO g50_9_5, sxAll, arithA, Nat.reduceEqDiff, Env.keep, qt_eq, isAlloc, resultsA, packA, storeA, indexAddrA, fieldA, indexA, unA, fieldAddrA, loadA, Rv.part, cellsAt, TD.isAgg, convH, convA, buildA, fillA, setCells, copies, lenA, optA, boundA, mapO, ↓Option.bind_some, ↓Option.bind_none, Nat.reduceBEq, Nat.reduceAdd, Nat.reduceMul, Nat.reduceLeDiff, Nat.reduceSub, Nat.reduceLT, Nat.reduceGT, Int.reduceBEq, Int.reduceLT, Int.reduceLE, bne, ↓reduceIte, ty26, ty38, ty42, ty101, ty5, ty3, ty2, ty4, ty29, pu65, pu67, pu66, pu68, pu69, pu70]
theorem mayIns_r1 : exec cfg 50 r50_1 [(0, .agg p.cells), (1, .agg f.cells), (2, .agg i.cells), (3, .ref p.cells), (4, .ref f.cells), (5, .ref i.cells), (6, .ptr h.length 0 0), (7, .junk), (8, .junk), (9, .junk), (10, .junk), (11, .junk), (34, .junk), (36, .junk), (37, .junk), (45, .junk)] (h ++ [.cells [.bool false] 0]) = some (.nrm, [(0, .agg p.cells), (1, .agg f.cells), (2, .agg i.cells), (3, .ref p.cells), (4, .ref f.cells), (5, .ref i.cells), (6, .ptr h.length 0 0), (7, .ptr (h.length + 1) 0 0), (8, .bool l), (9, .junk), (10, .junk), (11, .junk), (34, .junk), (36, .junk), (37, .junk), (45, .junk)], h ++ [.cells [.bool false] 0, .cells (rowCells q) 0]) := by
  simp only [SIns.cells, rowCells] at hof
  simp only [SProg.cells, SFun.cells, SIns.cells, rowCells, k50, Tryz.f50, regEnd_nrm (lv50 _), pu50, x50_0, a50_0, im50_3, im50_4, im50_5, x50_1, a50_1, x50_2, a50_2, sx_guardO g50_2_2, sx_guardO g50_2_10, x50_3, a50_3, x50_4, a50_4, x50_5, a50_5, x50_6, a50_6, sx_guardO g50_6_2, x50_7, a50_7, x50_8, a50_8, x50_9, a50_9, sx_guardO g50_9_2, sx_guardO g50_9_5, sxAll, arithA, Nat.reduceEqDiff, Env.keep, qt_eq, isAlloc, resultsA, packA, storeA, indexAddrA, fieldA, indexA, unA, fieldAddrA, loadA, Rv.part, cellsAt, TD.isAgg, convH, convA, buildA, fillA, setCells, copies, lenA, optA, boundA, mapO, ↓Option.bind_some, ↓Option.bind_none, Nat.reduceBEq, Nat.reduceAdd, Nat.reduceMul, Nat.reduceLeDiff, Nat.reduceSub, Nat.reduceLT, Nat.reduceGT, Int.reduceBEq, Int.reduceLT, Int.reduceLE, bne, ↓reduceIte, ty26, ty38, ty42, ty101, ty5, ty3, ty2, ty4, ty29, pu65, pu67, pu66, pu68, pu69, pu70, hof]
theorem mayIns_r2 (hb : ∀ h, call cfg 67 [.agg (rowCells q), .agg i.cells] h = some (.ret (.agg b.cells), h)) (hs : ∀ h, call cfg 66 [.agg b.cells, .agg noIns.cells] h = some (.ret (.bool s), h))
    (hn : ∀ h, call cfg 68 [.agg p.cells, .agg f.cells, .agg (rowCells q), .agg i.cells] h = some (.ret (.bool nb), h)) :
    exec cfg 50 r50_2 [(0, .agg p.cells), (1, .agg f.cells), (2, .agg i.cells), (3, .ref p.cells), (4, .ref f.cells), (5, .ref i.cells), (6, .ptr h.length 0 0), (7, .ptr (h.length + 1) 0 0), (8, .bool l), (9, .junk), (10, .junk), (11, .junk), (34, .junk), (36, .junk), (37, .junk), (45, .junk)] (h ++ [.cells [.bool false] 0, .cells (rowCells q) 0]) = some (.nrm, [(0, .agg p.cells), (1, .agg f.cells), (2, .agg i.cells), (3, .ref p.cells), (4, .ref f.cells), (5, .ref i.cells), (6, .ptr h.length 0 0), (7, .ptr (h.length + 1) 0 0), (8, .bool l), (9, .junk), (10, .junk), (11, .junk), (34, .bool (!(l && s && nb))), (36, .junk), (37, .junk), (45, .junk)], h ++ [.cells [.bool false] 0, .cells (rowCells q) 0]) := by
  simp only [noIns_cells] at hs
  simp only [SProg.cells, SFun.cells, SIns.cells, rowCells] at hb hs hn
  cases l with
  | false => simp only [SProg.cells, SFun.cells, SIns.cells, rowCells, k50, Tryz.f50, regEnd_nrm (lv50 _), pu50, x50_0, a50_0, im50_3, im50_4, im50_5, x50_1, a50_1, x50_2, a50_2, sx_guardO g50_2_2, sx_guardO g50_2_10, x50_3, a50_3, x50_4, a50_4, x50_5, a50_5, x50_6, a50_6, sx_guardO g50_6_2, x50_7, a50_7, x50_8, a50_8, x50_9, a50_9, sx_guardO g50_9_2, sx_guardO g50_9_5, sxAll, arithA, Nat.reduceEqDiff, Env.keep, qt_eq, isAlloc, resultsA, packA, storeA, indexAddrA, fieldA, indexA, unA, fieldAddrA, loadA, Rv.part, cellsAt, TD.isAgg, convH, convA, buildA, fillA, setCells, copies, lenA, optA, boundA, mapO, ↓Option.bind_some, ↓Option.bind_none, Nat.reduceBEq, Nat.reduceAdd, Nat.reduceMul, Nat.reduceLeDiff, Nat.reduceSub, Nat.reduceLT, Nat.reduceGT, Int.reduceBEq, Int.reduceLT, Int.reduceLE, bne, ↓reduceIte, ty26, ty38, ty42, ty101, ty5, ty3, ty2, ty4, ty29, pu65, pu67, pu66, pu68, pu69, pu70]
  | true =>
    cases s with
    | false => simp only [SProg.cells, SFun.cells, SIns.cells, rowCells, k50, Tryz.f50, regEnd_nrm (lv50 _), pu50, x50_0, a50_0, im50_3, im50_4, im50_5, x50_1, a50_1, x50_2, a50_2, sx_guardO g50_2_2, sx_guardO g50_2_10, x50_3, a50_3, x50_4, a50_4, x50_5, a50_5, x50_6, a50_6, sx_guardO g50_6_2, x50_7, a50_7, x50_8, a50_8, x50_9, a50_9, sx_guardO g50_9_2, sx_guardO g50_9_5, sxAll, arithA, Nat.reduceEqDiff, Env.keep, qt_eq, isAlloc, resultsA, packA, storeA, indexAddrA, fieldA, indexA, unA, fieldAddrA, loadA, Rv.part, cellsAt, TD.isAgg, convH, convA, buildA, fillA, setCells, copies, lenA, optA, boundA, mapO, ↓Option.bind_some, ↓Option.bind_none, Nat.reduceBEq, Nat.reduceAdd, Nat.reduceMul, Nat.reduceLeDiff, Nat.reduceSub, Nat.reduceLT, Nat.reduceGT, Int.reduceBEq, Int.reduceLT, Int.reduceLE, bne, ↓reduceIte, ty26, ty38, ty42, ty101, ty5, ty3, ty2, ty4, ty29, pu65, pu67, pu66, pu68, pu69, pu70, hb, hs]
    | true => simp only [SProg.cells, SFun.cells, SIns.cells, rowCells, k50, Tryz.f50, regEnd_nrm (lv50 _), pu50, x50_0, a50_0, im50_3, im50_4, im50_5, x50_1, a50_1, x50_2, a50_2, sx_guardO g50_2_2, sx_guardO g50_2_10, x50_3, a50_3, x50_4, a50_4, x50_5, a50_5, x50_6, a50_6, sx_guardO g50_6_2, x50_7, a50_7, x50_8, a50_8, x50_9, a50_9, sx_guardO g50_9_2, sx_guardO g50_9_5, sxAll, arithA, Nat.reduceEqDiff, Env.keep, qt_eq, isAlloc, resultsA, packA, storeA, indexAddrA, fieldA, indexA, unA, fieldAddrA, loadA, Rv.part, cellsAt, TD.isAgg, convH, convA, buildA, fillA, setCells, copies, lenA, optA, boundA, mapO, ↓Option.bind_some, ↓Option.bind_none, Nat.reduceBEq, Nat.reduceAdd, Nat.reduceMul, Nat.reduceLeDiff, Nat.reduceSub, Nat.reduceLT, Nat.reduceGT, Int.reduceBEq, Int.reduceLT, Int.reduceLE, bne, ↓reduceIte, ty26, ty38, ty42, ty101, ty5, ty3, ty2, ty4, ty29, pu65, pu67, pu66, pu68, pu69, pu70, hb, hs, hn]
theorem mayIns_r4 (xs : List Int) (hr : ∀ h, call cfg 69 [.agg i.cells] h = some (.ret (.clo 107 [.ref [.lst (intL xs) 1 .open]]), h)) :
    exec cfg 50 r50_4 [(0, .agg p.cells), (1, .agg f.cells), (2, .agg i.cells), (3, .ref p.cells), (4, .ref f.cells), (5, .ref i.cells), (6, .ptr h.length 0 0), (7, .ptr (h.length + 1) 0 0), (8, .bool l), (9, .junk), (10, .junk), (11, .junk), (34, .bool (!(l && s && nb))), (36, .junk), (37, .junk), (45, .junk)] (h ++ [.cells [.bool false] 0, .cells (rowCells q) 0]) = some (.nrm, [(0, .agg p.cells), (1, .agg f.cells), (2, .agg i.cells), (3, .ref p.cells), (4, .ref f.cells), (5, .ref i.cells), (6, .ptr h.length 0 0), (7, .ptr (h.length + 1) 0 0), (8, .bool l), (9, .junk), (10, .junk), (11, .junk), (34, .bool (!(l && s && nb))), (36, .clo 107 [.ref [.lst (intL xs) 1 .open]]), (37, .junk), (45, .junk)], h ++ [.cells [.bool false] 0, .cells (rowCells q) 0]) := by
  simp only [SIns.cells] at hr
  simp only [SProg.cells, SFun.cells, SIns.cells, rowCells, k50, Tryz.f50, regEnd_nrm (lv50 _), pu50, x50_0, a50_0, im50_3, im50_4, im50_5, x50_1, a50_1, x50_2, a50_2, sx_guardO g50_2_2, sx_guardO g50_2_10, x50_3, a50_3, x50_4, a50_4, x50_5, a50_5, x50_6, a50_6, sx_guardO g50_6_2, x50_7, a50_7, x50_8, a50_8, x50_9, a50_9, sx_guardO g50_9_2, sx_guardO g50_9_5, sxAll, arithA, Nat.reduceEqDiff, Env.keep, qt_eq, isAlloc, resultsA, packA, storeA, indexAddrA, fieldA, indexA, unA, fieldAddrA, loadA, Rv.part, cellsAt, TD.isAgg, convH, convA, buildA, fillA, setCells, copies, lenA, optA, boundA, mapO, ↓Option.bind_some, ↓Option.bind_none, Nat.reduceBEq, Nat.reduceAdd, Nat.reduceMul, Nat.reduceLeDiff, Nat.reduceSub, Nat.reduceLT, Nat.reduceGT, Int.reduceBEq, Int.reduceLT, Int.reduceLE, bne, ↓reduceIte, ty26, ty38, ty42, ty101, ty5, ty3, ty2, ty4, ty29, pu65, pu67, pu66, pu68, pu69, pu70, hr]
end

theorem mayIns_eq (p : SProg) (f : SFun) (i : SIns) (h : Heap) (h0 : 0 ≤ i.op) (h1 : i.op < 256) (hn : i.args.length < 100000000) :
    call cfg 50 [.agg p.cells, .agg f.cells, .agg i.cells] h = some (.ret (.bool (mayInsB p f i)), h) := by
  rw [call50]
  have hof := fun h => ofI_eq i h h0 h1
  have hb := fun h => bare_eq (rowOf i.op) i h
  have hs := fun h => sameIns_eq (bareOf (rowOf i.op) i) noIns h (by
    show (if _ then [] else i.args).length < _
    split
    · simp
    · omega)
  have hnum := fun h => number_eq p f (rowOf i.op) i h
  have hr := fun h => reads_eq i h h0 h1 (by omega)
  have hw := fun h => writes_eq i h h0 h1
  have hlen : (readsOf (rowOf i.op) i).length < 1000000000 := by
    simp only [readsOf, List.length_append, optL]
    split <;> split <;> split <;> simp only [List.length_cons, List.length_nil] <;> omega
  unfold mayInsB
  generalize rowOf i.op = q at *
  generalize legal i.op = l at *
  generalize bareOf q i = b at *
  generalize sameB b noIns = s at *
  generalize numberB p f q i = nb at *
  generalize readsOf q i = xs at *
  generalize writesOf i = w at *
  obtain ⟨w1, w2⟩ := w
  rw [k50, exec_seq_nrm (mayIns_r0 p f i q l h hof), exec_seq_nrm (mayIns_r1 p f i q l h hof)]
  have r2 := mayIns_r2 p f i b q l s nb h hof hb hs hnum
  have r4 := mayIns_r4 p f i q l s nb h hof xs hr
  simp only [SIns.cells] at hw
  cases hg : l && s && nb with
  | false =>
    rw [hg] at r2
    rw [exec_seq (a := .seq r50_2 _), exec_seq_nrm r2]
    simp only [SProg.cells, SFun.cells, SIns.cells, rowCells, k50, Tryz.f50, regEnd_nrm (lv50 _), pu50, x50_0, a50_0, im50_3, im50_4, im50_5, x50_1, a50_1, x50_2, a50_2, sx_guardO g50_2_2, sx_guardO g50_2_10, x50_3, a50_3, x50_4, a50_4, x50_5, a50_5, x50_6, a50_6, sx_guardO g50_6_2, x50_7, a50_7, x50_8, a50_8, x50_9, a50_9, sx_guardO g50_9_2, sx_guardO g50_9_5, sxAll, arithA, Nat.reduceEqDiff, Env.keep, qt_eq, isAlloc, resultsA, packA, storeA, indexAddrA, fieldA, indexA, unA, fieldAddrA, loadA, Rv.part, cellsAt, TD.isAgg, convH, convA, buildA, fillA, setCells, copies, lenA, optA, boundA, mapO, ↓Option.bind_some, ↓Option.bind_none, Nat.reduceBEq, Nat.reduceAdd, Nat.reduceMul, Nat.reduceLeDiff, Nat.reduceSub, Nat.reduceLT, Nat.reduceGT, Int.reduceBEq, Int.reduceLT, Int.reduceLE, bne, ↓reduceIte, ty26, ty38, ty42, ty101, ty5, ty3, ty2, ty4, ty29, pu65, pu67, pu66, pu68, pu69, pu70]
    exact leave_pure rfl (by simp) rfl
  | true =>
    rw [hg] at r2 r4
    have s2 : exec cfg 50 (.seq r50_2 (.cond (.tmp 34) (.seq r50_3 .ret) .skip)) [(0, .agg p.cells), (1, .agg f.cells), (2, .agg i.cells), (3, .ref p.cells), (4, .ref f.cells), (5, .ref i.cells), (6, .ptr h.length 0 0), (7, .ptr (h.length + 1) 0 0), (8, .bool l), (9, .junk), (10, .junk), (11, .junk), (34, .junk), (36, .junk), (37, .junk), (45, .junk)] (h ++ [.cells [.bool false] 0, .cells (rowCells q) 0]) = some (.nrm, [(0, .agg p.cells), (1, .agg f.cells), (2, .agg i.cells), (3, .ref p.cells), (4, .ref f.cells), (5, .ref i.cells), (6, .ptr h.length 0 0), (7, .ptr (h.length + 1) 0 0), (8, .bool l), (9, .junk), (10, .junk), (11, .junk), (34, .bool (!true)), (36, .junk), (37, .junk), (45, .junk)], h ++ [.cells [.bool false] 0, .cells (rowCells q) 0]) := by
      rw [exec_seq_nrm r2]
      simp only [sxAll, arithA, Nat.reduceEqDiff, Env.keep, qt_eq, isAlloc, resultsA, packA, storeA, indexAddrA, fieldA, indexA, unA, fieldAddrA, loadA, Rv.part, cellsAt, TD.isAgg, convH, convA, buildA, fillA, setCells, copies, lenA, optA, boundA, mapO, ↓Option.bind_some, ↓Option.bind_none, Nat.reduceBEq, Nat.reduceAdd, Nat.reduceMul, Nat.reduceLeDiff, Nat.reduceSub, Nat.reduceLT, Nat.reduceGT, Int.reduceBEq, Int.reduceLT, Int.reduceLE, bne, ↓reduceIte]
    rw [exec_seq_nrm s2]
    obtain ⟨o, H', hx, ho⟩ := mayIns_range f xs hlen (h ++ [.cells [.bool false] 0, .cells (rowCells q) 0]) h.length false (by simp [Heap.obj]) (.agg p.cells) (.agg f.cells) (.agg i.cells) (.ref p.cells) (.ref i.cells) (.ptr (h.length + 1) 0 0) (.bool l) .junk .junk .junk (.bool (!true)) .junk .junk
    rcases ho with ⟨rfl, hall, X, rfl⟩ | ⟨rfl, hall, X, rfl⟩
    · have s4 : exec cfg 50 (.seq r50_4 (.block 0 (.rangeFunc (.tmp 36) #[37] r50_5 l50_0))) [(0, .agg p.cells), (1, .agg f.cells), (2, .agg i.cells), (3, .ref p.cells), (4, .ref f.cells), (5, .ref i.cells), (6, .ptr h.length 0 0), (7, .ptr (h.length + 1) 0 0), (8, .bool l), (9, .junk), (10, .junk), (11, .junk), (34, .bool (!true)), (36, .junk), (37, .junk), (45, .junk)] (h ++ [.cells [.bool false] 0, .cells (rowCells q) 0]) = some (.nrm, [(0, .agg p.cells), (1, .agg f.cells), (2, .agg i.cells), (3, .ref p.cells), (4, .ref f.cells), (5, .ref i.cells), (6, .ptr h.length 0 0), (7, .ptr (h.length + 1) 0 0), (8, .bool l), (9, .junk), (10, .junk), (11, .junk), (34, .bool (!true)), (36, .clo 107 [.ref [.lst (intL xs) 1 .open]]), (37, .junk), (45, .junk)], h ++ [.cells [.bool false] 0, .cells (rowCells q) 0] ++ X) := by
        rw [exec_seq_nrm r4, exec_block, hx]
        rfl
      rw [exec_seq_nrm s4, hall]
      cases w2 with
      | false =>
        simp only [SProg.cells, SFun.cells, SIns.cells, rowCells, k50, Tryz.f50, regEnd_nrm (lv50 _), pu50, x50_0, a50_0, im50_3, im50_4, im50_5, x50_1, a50_1, x50_2, a50_2, sx_guardO g50_2_2, sx_guardO g50_2_10, x50_3, a50_3, x50_4, a50_4, x50_5, a50_5, x50_6, a50_6, sx_guardO g50_6_2, x50_7, a50_7, x50_8, a50_8, x50_9, a50_9, sx_guardO g50_9_2, sx_guardO g50_9_5, sxAll, arithA, Nat.reduceEqDiff, Env.keep, qt_eq, isAlloc, resultsA, packA, storeA, indexAddrA, fieldA, indexA, unA, fieldAddrA, loadA, Rv.part, cellsAt, TD.isAgg, convH, convA, buildA, fillA, setCells, copies, lenA, optA, boundA, mapO, ↓Option.bind_some, ↓Option.bind_none, Nat.reduceBEq, Nat.reduceAdd, Nat.reduceMul, Nat.reduceLeDiff, Nat.reduceSub, Nat.reduceLT, Nat.reduceGT, Int.reduceBEq, Int.reduceLT, Int.reduceLE, bne, ↓reduceIte, ty26, ty38, ty42, ty101, ty5, ty3, ty2, ty4, ty29, pu65, pu67, pu66, pu68, pu69, pu70, hw]
        exact leave_pure rfl (by simp) rfl
      | true =>
        by_cases hge : 0 ≤ w1
        · have c1 : (w1 ≥ 0) = True := by simp [hge]
          simp only [SProg.cells, SFun.cells, SIns.cells, rowCells, k50, Tryz.f50, regEnd_nrm (lv50 _), pu50, x50_0, a50_0, im50_3, im50_4, im50_5, x50_1, a50_1, x50_2, a50_2, sx_guardO g50_2_2, sx_guardO g50_2_10, x50_3, a50_3, x50_4, a50_4, x50_5, a50_5, x50_6, a50_6, sx_guardO g50_6_2, x50_7, a50_7, x50_8, a50_8, x50_9, a50_9, sx_guardO g50_9_2, sx_guardO g50_9_5, sxAll, arithA, Nat.reduceEqDiff, Env.keep, qt_eq, isAlloc, resultsA, packA, storeA, indexAddrA, fieldA, indexA, unA, fieldAddrA, loadA, Rv.part, cellsAt, TD.isAgg, convH, convA, buildA, fillA, setCells, copies, lenA, optA, boundA, mapO, ↓Option.bind_some, ↓Option.bind_none, Nat.reduceBEq, Nat.reduceAdd, Nat.reduceMul, Nat.reduceLeDiff, Nat.reduceSub, Nat.reduceLT, Nat.reduceGT, Int.reduceBEq, Int.reduceLT, Int.reduceLE, bne, ↓reduceIte, ty26, ty38, ty42, ty101, ty5, ty3, ty2, ty4, ty29, pu65, pu67, pu66, pu68, pu69, pu70, hw, c1, inB, hge]
          exact leave_pure rfl (by simp) rfl
        · have c1 : (w1 ≥ 0) = False := by simp; omega
          simp only [SProg.cells, SFun.cells, SIns.cells, rowCells, k50, Tryz.f50, regEnd_nrm (lv50 _), pu50, x50_0, a50_0, im50_3, im50_4, im50_5, x50_1, a50_1, x50_2, a50_2, sx_guardO g50_2_2, sx_guardO g50_2_10, x50_3, a50_3, x50_4, a50_4, x50_5, a50_5, x50_6, a50_6, sx_guardO g50_6_2, x50_7, a50_7, x50_8, a50_8, x50_9, a50_9, sx_guardO g50_9_2, sx_guardO g50_9_5, sxAll, arithA, Nat.reduceEqDiff, Env.keep, qt_eq, isAlloc, resultsA, packA, storeA, indexAddrA, fieldA, indexA, unA, fieldAddrA, loadA, Rv.part, cellsAt, TD.isAgg, convH, convA, buildA, fillA, setCells, copies, lenA, optA, boundA, mapO, ↓Option.bind_some, ↓Option.bind_none, Nat.reduceBEq, Nat.reduceAdd, Nat.reduceMul, Nat.reduceLeDiff, Nat.reduceSub, Nat.reduceLT, Nat.reduceGT, Int.reduceBEq, Int.reduceLT, Int.reduceLE, bne, ↓reduceIte, ty26, ty38, ty42, ty101, ty5, ty3, ty2, ty4, ty29, pu65, pu67, pu66, pu68, pu69, pu70, hw, c1, inB, hge]
          exact leave_pure rfl (by simp) rfl
    · rw [exec_seq, exec_seq_nrm r4, exec_block, hx, hall]
      simp only [SProg.cells, SFun.cells, SIns.cells, rowCells, k50, Tryz.f50, regEnd_nrm (lv50 _), pu50, x50_0, a50_0, im50_3, im50_4, im50_5, x50_1, a50_1, x50_2, a50_2, sx_guardO g50_2_2, sx_guardO g50_2_10, x50_3, a50_3, x50_4, a50_4, x50_5, a50_5, x50_6, a50_6, sx_guardO g50_6_2, x50_7, a50_7, x50_8, a50_8, x50_9, a50_9, sx_guardO g50_9_2, sx_guardO g50_9_5, sxAll, arithA, Nat.reduceEqDiff, Env.keep, qt_eq, isAlloc, resultsA, packA, storeA, indexAddrA, fieldA, indexA, unA, fieldAddrA, loadA, Rv.part, cellsAt, TD.isAgg, convH, convA, buildA, fillA, setCells, copies, lenA, optA, boundA, mapO, ↓Option.bind_some, ↓Option.bind_none, Nat.reduceBEq, Nat.reduceAdd, Nat.reduceMul, Nat.reduceLeDiff, Nat.reduceSub, Nat.reduceLT, Nat.reduceGT, Int.reduceBEq, Int.reduceLT, Int.reduceLE, bne, ↓reduceIte, ty26, ty38, ty42, ty101, ty5, ty3, ty2, ty4, ty29, pu65, pu67, pu66, pu68, pu69, pu70]
      exact leave_pure rfl (by simp) rfl
end
end Go.Proofs.Sx

/-
  package code: what 'mayFun' answers.
-/
set_option linter.unusedSimpArgs false
set_option linter.unusedVariables false
set_option maxRecDepth 100000
set_option maxHeartbeats 4000000
namespace Go.Proofs.Sx
open Go.Rv Go.Proofs
attribute [local congr] bind_left got_left
noncomputable section

def SIns.wf (i : SIns) : Prop := 0 ≤ i.op ∧ i.op < 256 ∧ i.args.length < 100000000
def SFun.wf (f : SFun) : Prop := f.code.length < 100000000 ∧ f.name.length < 100000000 ∧ ∀ i ∈ f.code, i.wf
def SProg.wf (p : SProg) : Prop := p.mems.length < 100000000 ∧ p.locks.length < 100000000 ∧ p.funs.length < 100000000 ∧ (∀ m ∈ p.mems, m.name.length < 100000000) ∧ (∀ l ∈ p.locks, l.length < 100000000) ∧ ∀ f ∈ p.funs, f.wf

theorem lv49 (r : Nat) : cfg.live 49 r = some [0, 1, 2, 3, 4] := rfl
theorem ok49 : okB cfg0 49 Tryz.f49 (Tryz.f49.body.getD .skip) = true := by kernel_rfl
theorem pu49 : cfg.pure 49 = true := rfl
instance tight49 {d : Option Nat} : TightD cfg 49 d := ⟨fun _ _ => rfl⟩
def a49_0 : Array Oper := codeOps (codeAt [false] (Tryz.f49.body.getD .skip))
def b49_0 : Array Oper := a49_0
def r49_0 : Code := .region 0 a49_0 false
theorem im49_3 : cfg.imm 49 3 = true := by kernel_rfl
theorem x49_0 (e : Env) (h : Heap) : exec cfg 49 r49_0 e h = (ops cfg 49 b49_0 (a49_0.toList) e h).bind (regEnd cfg 49 0 false) := region_at _ _ _ _ _ _ _
def a49_1 : Array Oper := codeOps (codeAt [true, false] (Tryz.f49.body.getD .skip))
def b49_1 : Array Oper := a49_1
def r49_1 : Code := .region 1 a49_1 false
theorem x49_1 (e : Env) (h : Heap) : exec cfg 49 r49_1 e h = (ops cfg 49 b49_1 (a49_1.toList) e h).bind (regEnd cfg 49 1 false) := region_at _ _ _ _ _ _ _
def k49 : Code := (.seq r49_0 (.seq r49_1 .ret))
theorem body49 : Tryz.f49.body = some k49 := by kernel_rfl
theorem call49 (x0 x1 x2 : AV) (h : Heap) : call cfg 49 [x0, x1, x2] h = (exec cfg 49 k49 [(0, x0), (1, x1), (2, x2)] h).bind (callEnd cfg 49 h [.tmp 4]) := call_at2 (fnat Tryz.func49 body49 (by rw [← ok49]; kernel_rfl)) rfl rfl
theorem lv30 (r : Nat) : cfg.live 30 r = some [0, 1, 2, 3, 4, 5, 6, 46, 59] := rfl
theorem ok30 : okB cfg0 30 Tryz.f30 (Tryz.f30.body.getD .skip) = true := by kernel_rfl
theorem pu30 : cfg.pure 30 = true := rfl
instance tight30 {d : Option Nat} : TightD cfg 30 d := ⟨fun _ _ => rfl⟩
def a30_0 : Array Oper := codeOps (codeAt [false] (Tryz.f30.body.getD .skip))
def b30_0 : Array Oper := a30_0
def r30_0 : Code := .region 0 a30_0 false
theorem im30_2 : cfg.imm 30 2 = true := by kernel_rfl
theorem im30_3 : cfg.imm 30 3 = true := by kernel_rfl
theorem x30_0 (e : Env) (h : Heap) : exec cfg 30 r30_0 e h = (ops cfg 30 b30_0 (a30_0.toList) e h).bind (regEnd cfg 30 0 false) := region_at _ _ _ _ _ _ _
def a30_1 : Array Oper := codeOps (codeAt [true, false] (Tryz.f30.body.getD .skip))
def b30_1 : Array Oper := a30_1
def r30_1 : Code := .region 1 a30_1 false
theorem x30_1 (e : Env) (h : Heap) : exec cfg 30 r30_1 e h = (ops cfg 30 b30_1 (a30_1.toList) e h).bind (regEnd cfg 30 1 false) := region_at _ _ _ _ _ _ _
def a30_2 : Array Oper := codeOps (codeAt [true, true, false, false] (Tryz.f30.body.getD .skip))
def b30_2 : Array Oper := a30_2
def r30_2 : Code := .region 2 a30_2 false
theorem x30_2 (e : Env) (h : Heap) : exec cfg 30 r30_2 e h = (ops cfg 30 b30_2 (a30_2.toList) e h).bind (regEnd cfg 30 2 false) := region_at _ _ _ _ _ _ _
theorem g30_2_3 : (b30_2[3]?).bind (·.dst) = some 13 := by kernel_rfl
theorem g30_2_8 : (b30_2[8]?).bind (·.dst) = some 18 := by kernel_rfl
theorem g30_2_11 : (b30_2[11]?).bind (·.dst) = some 21 := by kernel_rfl
theorem g30_2_17 : (b30_2[17]?).bind (·.dst) = some 27 := by kernel_rfl
theorem g30_2_24 : (b30_2[24]?).bind (·.dst) = some 34 := by kernel_rfl
theorem g30_2_29 : (b30_2[29]?).bind (·.dst) = some 39 := by kernel_rfl
theorem g30_2_33 : (b30_2[33]?).bind (·.dst) = some 43 := by kernel_rfl
def a30_3 : Array Oper := codeOps (codeAt [true, true, false, true, false, false] (Tryz.f30.body.getD .skip))
def b30_3 : Array Oper := a30_3
def r30_3 : Code := .region 3 a30_3 false
theorem x30_3 (e : Env) (h : Heap) : exec cfg 30 r30_3 e h = (ops cfg 30 b30_3 (a30_3.toList) e h).bind (regEnd cfg 30 3 false) := region_at _ _ _ _ _ _ _
def a30_4 : Array Oper := codeOps (codeAt [true, true, true, false, false] (Tryz.f30.body.getD .skip))
def b30_4 : Array Oper := a30_4
def r30_4 : Code := .region 4 a30_4 false
theorem x30_4 (e : Env) (h : Heap) : exec cfg 30 r30_4 e h = (ops cfg 30 b30_4 (a30_4.toList) e h).bind (regEnd cfg 30 4 false) := region_at _ _ _ _ _ _ _
def a30_5 : Array Oper := codeOps (codeAt [true, true, true, false, true, false] (Tryz.f30.body.getD .skip))
def b30_5 : Array Oper := a30_5
def r30_5 : Code := .region 5 a30_5 false
theorem x30_5 (e : Env) (h : Heap) : exec cfg 30 r30_5 e h = (ops cfg 30 b30_5 (a30_5.toList) e h).bind (regEnd cfg 30 5 false) := region_at _ _ _ _ _ _ _
theorem g30_5_2 : (b30_5[2]?).bind (·.dst) = some 56 := by kernel_rfl
def a30_6 : Array Oper := codeOps (codeAt [true, true, true, false, true, true, false, false] (Tryz.f30.body.getD .skip))
def b30_6 : Array Oper := a30_6
def r30_6 : Code := .region 6 a30_6 false
theorem x30_6 (e : Env) (h : Heap) : exec cfg 30 r30_6 e h = (ops cfg 30 b30_6 (a30_6.toList) e h).bind (regEnd cfg 30 6 false) := region_at _ _ _ _ _ _ _
def a30_7 : Array Oper := codeOps (codeAt [true, true, true, true, false] (Tryz.f30.body.getD .skip))
def b30_7 : Array Oper := a30_7
def r30_7 : Code := .region 7 a30_7 false
theorem x30_7 (e : Env) (h : Heap) : exec cfg 30 r30_7 e h = (ops cfg 30 b30_7 (a30_7.toList) e h).bind (regEnd cfg 30 7 false) := region_at _ _ _ _ _ _ _
def k30 : Code := (.seq r30_0 (.seq r30_1 (.seq (.seq r30_2 (.cond (.tmp 46) (.seq r30_3 .ret) .skip)) (.seq (.seq r30_4 (.seq r30_5 (.cond (.tmp 59) (.seq r30_6 .ret) .skip))) (.seq r30_7 .ret)))))
theorem body30 : Tryz.f30.body = some k30 := by kernel_rfl
theorem call30 (x0 x1 : AV) (h : Heap) : call cfg 30 [x0, x1] h = (exec cfg 30 k30 [(0, x0), (1, x1)] h).bind (callEnd cfg 30 h [.tmp 4]) := call_at2 (fnat Tryz.func30 body30 (by rw [← ok30]; kernel_rfl)) rfl rfl
theorem mayFunx_eq (p : SProg) (f : SFun) (i : SIns) (h : Heap) (hi : i.wf) : call cfg 49 [.agg i.cells, .ref p.cells, .ref f.cells] h = some (.ret (.bool (!mayInsB p f i)), h) := by
  rw [call49]
  have hm := fun h => mayIns_eq p f i h hi.1 hi.2.1 hi.2.2
  simp only [SProg.cells, SFun.cells, SIns.cells] at hm
  simp only [SProg.cells, SFun.cells, SIns.cells, k49, Tryz.f49, regEnd_nrm (lv49 _), pu49, x49_0, a49_0, im49_3, x49_1, a49_1, sxAll, arithA, Nat.reduceEqDiff, Env.keep, qt_eq, isAlloc, resultsA, packA, storeA, indexAddrA, fieldA, indexA, unA, fieldAddrA, loadA, Rv.part, cellsAt, TD.isAgg, convH, convA, buildA, fillA, setCells, copies, lenA, optA, boundA, mapO, ↓Option.bind_some, ↓Option.bind_none, Nat.reduceBEq, Nat.reduceAdd, Nat.reduceMul, Nat.reduceLeDiff, Nat.reduceSub, Nat.reduceLT, Nat.reduceGT, Int.reduceBEq, Int.reduceLT, Int.reduceLE, bne, ↓reduceIte, ty26, ty38, ty42, pu50, hm]
  exact leave_kept rfl rfl

def lastOp (f : SFun) : Int := (f.code.getLast?.map SIns.op).getD 0
def mayFunB (p : SProg) (f : SFun) : Bool := !decide (f.params < 0) && (!decide (f.params > 8) && (!(f.thread && decide (f.params > 0)) && (!decide (f.regs < f.params) && (!decide (f.regs > 4096) && (!decide ((f.code.length : Int) < 1) && (!decide ((f.code.length : Int) > 16384) && ((lastOp f == 11 || lastOp f == 13) && f.code.all (mayInsB p f))))))))

theorem mayFun_eq (p : SProg) (f : SFun) (h : Heap) (hf : f.wf) : call cfg 30 [.agg p.cells, .agg f.cells] h = some (.ret (.bool (mayFunB p f)), h) := by
  rw [call30]
  have hcl : f.code.length < 100000000 := hf.1
  by_cases c1 : f.params < 0
  · have hB : mayFunB p f = false := by simp [mayFunB, c1]
    rw [hB]
    simp only [SProg.cells, SFun.cells, k30, Tryz.f30, regEnd_nrm (lv30 _), pu30, x30_0, a30_0, im30_2, im30_3, x30_1, a30_1, x30_2, a30_2, sx_guardO g30_2_3, sx_guardO g30_2_8, sx_guardO g30_2_11, sx_guardO g30_2_17, sx_guardO g30_2_24, sx_guardO g30_2_29, sx_guardO g30_2_33, x30_3, a30_3, x30_4, a30_4, x30_5, a30_5, sx_guardO g30_5_2, x30_6, a30_6, x30_7, a30_7, sxAll, arithA, Nat.reduceEqDiff, Env.keep, qt_eq, isAlloc, resultsA, packA, storeA, indexAddrA, fieldA, indexA, unA, fieldAddrA, loadA, Rv.part, cellsAt, TD.isAgg, convH, convA, buildA, fillA, setCells, copies, lenA, optA, boundA, mapO, ↓Option.bind_some, ↓Option.bind_none, Nat.reduceBEq, Nat.reduceAdd, Nat.reduceMul, Nat.reduceLeDiff, Nat.reduceSub, Nat.reduceLT, Nat.reduceGT, Int.reduceBEq, Int.reduceLT, Int.reduceLE, bne, ↓reduceIte, ty26, ty38, ty42, ty5, ty3, ty4, ty36, codeL_len, c1]
    exact leave_kept rfl rfl
  by_cases c2 : f.params > 8
  · have hB : mayFunB p f = false := by simp [mayFunB, c1, c2]
    rw [hB]
    simp only [SProg.cells, SFun.cells, k30, Tryz.f30, regEnd_nrm (lv30 _), pu30, x30_0, a30_0, im30_2, im30_3, x30_1, a30_1, x30_2, a30_2, sx_guardO g30_2_3, sx_guardO g30_2_8, sx_guardO g30_2_11, sx_guardO g30_2_17, sx_guardO g30_2_24, sx_guardO g30_2_29, sx_guardO g30_2_33, x30_3, a30_3, x30_4, a30_4, x30_5, a30_5, sx_guardO g30_5_2, x30_6, a30_6, x30_7, a30_7, sxAll, arithA, Nat.reduceEqDiff, Env.keep, qt_eq, isAlloc, resultsA, packA, storeA, indexAddrA, fieldA, indexA, unA, fieldAddrA, loadA, Rv.part, cellsAt, TD.isAgg, convH, convA, buildA, fillA, setCells, copies, lenA, optA, boundA, mapO, ↓Option.bind_some, ↓Option.bind_none, Nat.reduceBEq, Nat.reduceAdd, Nat.reduceMul, Nat.reduceLeDiff, Nat.reduceSub, Nat.reduceLT, Nat.reduceGT, Int.reduceBEq, Int.reduceLT, Int.reduceLE, bne, ↓reduceIte, ty26, ty38, ty42, ty5, ty3, ty4, ty36, codeL_len, c1, c2]
    exact leave_kept rfl rfl
  have ct : (f.thread && decide (f.params > 0)) = true ∨ (f.thread = false ∨ (f.thread = true ∧ ¬ f.params > 0)) := by
    cases f.thread
    · exact .inr (.inl rfl)
    · by_cases c3 : f.params > 0
      · left; simp [c3]
      · exact .inr (.inr ⟨rfl, c3⟩)
  rcases ct with ct | ct
  · have ht : f.thread = true := by simp at ct; exact ct.1
    have c3 : f.params > 0 := by simp at ct; exact ct.2
    have hB : mayFunB p f = false := by simp [mayFunB, c1, c2, ht, c3]
    rw [hB]
    simp only [SProg.cells, SFun.cells, k30, Tryz.f30, regEnd_nrm (lv30 _), pu30, x30_0, a30_0, im30_2, im30_3, x30_1, a30_1, x30_2, a30_2, sx_guardO g30_2_3, sx_guardO g30_2_8, sx_guardO g30_2_11, sx_guardO g30_2_17, sx_guardO g30_2_24, sx_guardO g30_2_29, sx_guardO g30_2_33, x30_3, a30_3, x30_4, a30_4, x30_5, a30_5, sx_guardO g30_5_2, x30_6, a30_6, x30_7, a30_7, sxAll, arithA, Nat.reduceEqDiff, Env.keep, qt_eq, isAlloc, resultsA, packA, storeA, indexAddrA, fieldA, indexA, unA, fieldAddrA, loadA, Rv.part, cellsAt, TD.isAgg, convH, convA, buildA, fillA, setCells, copies, lenA, optA, boundA, mapO, ↓Option.bind_some, ↓Option.bind_none, Nat.reduceBEq, Nat.reduceAdd, Nat.reduceMul, Nat.reduceLeDiff, Nat.reduceSub, Nat.reduceLT, Nat.reduceGT, Int.reduceBEq, Int.reduceLT, Int.reduceLE, bne, ↓reduceIte, ty26, ty38, ty42, ty5, ty3, ty4, ty36, codeL_len, c1, c2, ht, c3]
    exact leave_kept rfl rfl
  have h3 : (f.thread && decide (f.params > 0)) = false := by
    rcases ct with ct | ⟨_, ct⟩
    · rw [ct]; rfl
    · simp only [ct, decide_false, Bool.and_false]
  rcases ct with ht | ⟨ht, c3⟩
  · by_cases c4 : f.regs < f.params
    · have hB : mayFunB p f = false := by simp [mayFunB, c1, c2, ht, c4]
      rw [hB]
      simp only [SProg.cells, SFun.cells, k30, Tryz.f30, regEnd_nrm (lv30 _), pu30, x30_0, a30_0, im30_2, im30_3, x30_1, a30_1, x30_2, a30_2, sx_guardO g30_2_3, sx_guardO g30_2_8, sx_guardO g30_2_11, sx_guardO g30_2_17, sx_guardO g30_2_24, sx_guardO g30_2_29, sx_guardO g30_2_33, x30_3, a30_3, x30_4, a30_4, x30_5, a30_5, sx_guardO g30_5_2, x30_6, a30_6, x30_7, a30_7, sxAll, arithA, Nat.reduceEqDiff, Env.keep, qt_eq, isAlloc, resultsA, packA, storeA, indexAddrA, fieldA, indexA, unA, fieldAddrA, loadA, Rv.part, cellsAt, TD.isAgg, convH, convA, buildA, fillA, setCells, copies, lenA, optA, boundA, mapO, ↓Option.bind_some, ↓Option.bind_none, Nat.reduceBEq, Nat.reduceAdd, Nat.reduceMul, Nat.reduceLeDiff, Nat.reduceSub, Nat.reduceLT, Nat.reduceGT, Int.reduceBEq, Int.reduceLT, Int.reduceLE, bne, ↓reduceIte, ty26, ty38, ty42, ty5, ty3, ty4, ty36, codeL_len, c1, c2, ht, c4]
      exact leave_kept rfl rfl
    by_cases c5 : f.regs > 4096
    · have hB : mayFunB p f = false := by simp [mayFunB, c1, c2, ht, c4, c5]
      rw [hB]
      simp only [SProg.cells, SFun.cells, k30, Tryz.f30, regEnd_nrm (lv30 _), pu30, x30_0, a30_0, im30_2, im30_3, x30_1, a30_1, x30_2, a30_2, sx_guardO g30_2_3, sx_guardO g30_2_8, sx_guardO g30_2_11, sx_guardO g30_2_17, sx_guardO g30_2_24, sx_guardO g30_2_29, sx_guardO g30_2_33, x30_3, a30_3, x30_4, a30_4, x30_5, a30_5, sx_guardO g30_5_2, x30_6, a30_6, x30_7, a30_7, sxAll, arithA, Nat.reduceEqDiff, Env.keep, qt_eq, isAlloc, resultsA, packA, storeA, indexAddrA, fieldA, indexA, unA, fieldAddrA, loadA, Rv.part, cellsAt, TD.isAgg, convH, convA, buildA, fillA, setCells, copies, lenA, optA, boundA, mapO, ↓Option.bind_some, ↓Option.bind_none, Nat.reduceBEq, Nat.reduceAdd, Nat.reduceMul, Nat.reduceLeDiff, Nat.reduceSub, Nat.reduceLT, Nat.reduceGT, Int.reduceBEq, Int.reduceLT, Int.reduceLE, bne, ↓reduceIte, ty26, ty38, ty42, ty5, ty3, ty4, ty36, codeL_len, c1, c2, ht, c4, c5]
      exact leave_kept rfl rfl
    by_cases c6 : (f.code.length : Int) < 1
    · have hB : mayFunB p f = false := by simp [mayFunB, c1, c2, ht, c4, c5, c6]
      rw [hB]
      simp only [SProg.cells, SFun.cells, k30, Tryz.f30, regEnd_nrm (lv30 _), pu30, x30_0, a30_0, im30_2, im30_3, x30_1, a30_1, x30_2, a30_2, sx_guardO g30_2_3, sx_guardO g30_2_8, sx_guardO g30_2_11, sx_guardO g30_2_17, sx_guardO g30_2_24, sx_guardO g30_2_29, sx_guardO g30_2_33, x30_3, a30_3, x30_4, a30_4, x30_5, a30_5, sx_guardO g30_5_2, x30_6, a30_6, x30_7, a30_7, sxAll, arithA, Nat.reduceEqDiff, Env.keep, qt_eq, isAlloc, resultsA, packA, storeA, indexAddrA, fieldA, indexA, unA, fieldAddrA, loadA, Rv.part, cellsAt, TD.isAgg, convH, convA, buildA, fillA, setCells, copies, lenA, optA, boundA, mapO, ↓Option.bind_some, ↓Option.bind_none, Nat.reduceBEq, Nat.reduceAdd, Nat.reduceMul, Nat.reduceLeDiff, Nat.reduceSub, Nat.reduceLT, Nat.reduceGT, Int.reduceBEq, Int.reduceLT, Int.reduceLE, bne, ↓reduceIte, ty26, ty38, ty42, ty5, ty3, ty4, ty36, codeL_len, c1, c2, ht, c4, c5, c6]
      exact leave_kept rfl rfl
    by_cases c7 : (f.code.length : Int) > 16384
    · have hB : mayFunB p f = false := by simp [mayFunB, c1, c2, ht, c4, c5, c6, c7]
      rw [hB]
      simp only [SProg.cells, SFun.cells, k30, Tryz.f30, regEnd_nrm (lv30 _), pu30, x30_0, a30_0, im30_2, im30_3, x30_1, a30_1, x30_2, a30_2, sx_guardO g30_2_3, sx_guardO g30_2_8, sx_guardO g30_2_11, sx_guardO g30_2_17, sx_guardO g30_2_24, sx_guardO g30_2_29, sx_guardO g30_2_33, x30_3, a30_3, x30_4, a30_4, x30_5, a30_5, sx_guardO g30_5_2, x30_6, a30_6, x30_7, a30_7, sxAll, arithA, Nat.reduceEqDiff, Env.keep, qt_eq, isAlloc, resultsA, packA, storeA, indexAddrA, fieldA, indexA, unA, fieldAddrA, loadA, Rv.part, cellsAt, TD.isAgg, convH, convA, buildA, fillA, setCells, copies, lenA, optA, boundA, mapO, ↓Option.bind_some, ↓Option.bind_none, Nat.reduceBEq, Nat.reduceAdd, Nat.reduceMul, Nat.reduceLeDiff, Nat.reduceSub, Nat.reduceLT, Nat.reduceGT, Int.reduceBEq, Int.reduceLT, Int.reduceLE, bne, ↓reduceIte, ty26, ty38, ty42, ty5, ty3, ty4, ty36, codeL_len, c1, c2, ht, c4, c5, c6, c7]
      exact leave_kept rfl rfl
    obtain ⟨x, hx⟩ : ∃ x, f.code[f.code.length - 1]? = some x := ⟨_, List.getElem?_eq_getElem (by omega)⟩
    have hlast : lastOp f = x.op := by
      unfold lastOp
      rw [List.getLast?_eq_getElem?, hx]; rfl
    have hget := codeL_get hx
    have hw : IntKind.i64.wrap ((f.code.length : Int) - 1) = ((f.code.length - 1 : Nat) : Int) := by rw [wrap_id (by omega) (by omega)]; omega
    have hcf : ∀ h, call cfg 48 [.lst (codeL f.code) f.cz f.room, .clo 49 [.ref p.cells, .ref f.cells]] h = some (.ret (.bool (f.code.any fun i => !mayInsB p f i)), h) := fun h => containsFIns_eq f.code SIns.cells _ 49 [.ref p.cells, .ref f.cells] f.cz f.room h (by omega) (fun _ _ => rfl) (fun i hi => mayFunx_eq p f i h (hf.2.2 i hi))
    simp only [SProg.cells, SFun.cells, ht] at hcf
    have hB : mayFunB p f = ((x.op == 11 || x.op == 13) && !(f.code.any fun i => !mayInsB p f i)) := by
      rw [← hlast]
      simp [mayFunB, h3, c1, c2, ht, c4, c5, c6, c7, List.not_any_eq_all_not]
    rw [hB]
    by_cases e11 : x.op = 11
    · have b11 : (x.op == 11) = true := by simp [e11]
      simp only [SProg.cells, SFun.cells, k30, Tryz.f30, regEnd_nrm (lv30 _), pu30, x30_0, a30_0, im30_2, im30_3, x30_1, a30_1, x30_2, a30_2, sx_guardO g30_2_3, sx_guardO g30_2_8, sx_guardO g30_2_11, sx_guardO g30_2_17, sx_guardO g30_2_24, sx_guardO g30_2_29, sx_guardO g30_2_33, x30_3, a30_3, x30_4, a30_4, x30_5, a30_5, sx_guardO g30_5_2, x30_6, a30_6, x30_7, a30_7, sxAll, arithA, Nat.reduceEqDiff, Env.keep, qt_eq, isAlloc, resultsA, packA, storeA, indexAddrA, fieldA, indexA, unA, fieldAddrA, loadA, Rv.part, cellsAt, TD.isAgg, convH, convA, buildA, fillA, setCells, copies, lenA, optA, boundA, mapO, ↓Option.bind_some, ↓Option.bind_none, Nat.reduceBEq, Nat.reduceAdd, Nat.reduceMul, Nat.reduceLeDiff, Nat.reduceSub, Nat.reduceLT, Nat.reduceGT, Int.reduceBEq, Int.reduceLT, Int.reduceLE, bne, ↓reduceIte, ty26, ty38, ty42, ty5, ty3, ty4, ty36, codeL_len, c1, c2, ht, c4, c5, c6, c7, hw, hget, SIns.cells, b11, pu48, hcf]
      exact leave_kept rfl rfl
    · have b11 : (x.op == 11) = false := by simp [e11]
      by_cases e13 : x.op = 13
      · have b13 : (x.op == 13) = true := by simp [e13]
        simp only [SProg.cells, SFun.cells, k30, Tryz.f30, regEnd_nrm (lv30 _), pu30, x30_0, a30_0, im30_2, im30_3, x30_1, a30_1, x30_2, a30_2, sx_guardO g30_2_3, sx_guardO g30_2_8, sx_guardO g30_2_11, sx_guardO g30_2_17, sx_guardO g30_2_24, sx_guardO g30_2_29, sx_guardO g30_2_33, x30_3, a30_3, x30_4, a30_4, x30_5, a30_5, sx_guardO g30_5_2, x30_6, a30_6, x30_7, a30_7, sxAll, arithA, Nat.reduceEqDiff, Env.keep, qt_eq, isAlloc, resultsA, packA, storeA, indexAddrA, fieldA, indexA, unA, fieldAddrA, loadA, Rv.part, cellsAt, TD.isAgg, convH, convA, buildA, fillA, setCells, copies, lenA, optA, boundA, mapO, ↓Option.bind_some, ↓Option.bind_none, Nat.reduceBEq, Nat.reduceAdd, Nat.reduceMul, Nat.reduceLeDiff, Nat.reduceSub, Nat.reduceLT, Nat.reduceGT, Int.reduceBEq, Int.reduceLT, Int.reduceLE, bne, ↓reduceIte, ty26, ty38, ty42, ty5, ty3, ty4, ty36, codeL_len, c1, c2, ht, c4, c5, c6, c7, hw, hget, SIns.cells, b11, b13, pu48, hcf]
        exact leave_kept rfl rfl
      · have b13 : (x.op == 13) = false := by simp [e13]
        simp only [SProg.cells, SFun.cells, k30, Tryz.f30, regEnd_nrm (lv30 _), pu30, x30_0, a30_0, im30_2, im30_3, x30_1, a30_1, x30_2, a30_2, sx_guardO g30_2_3, sx_guardO g30_2_8, sx_guardO g30_2_11, sx_guardO g30_2_17, sx_guardO g30_2_24, sx_guardO g30_2_29, sx_guardO g30_2_33, x30_3, a30_3, x30_4, a30_4, x30_5, a30_5, sx_guardO g30_5_2, x30_6, a30_6, x30_7, a30_7, sxAll, arithA, Nat.reduceEqDiff, Env.keep, qt_eq, isAlloc, resultsA, packA, storeA, indexAddrA, fieldA, indexA, unA, fieldAddrA, loadA, Rv.part, cellsAt, TD.isAgg, convH, convA, buildA, fillA, setCells, copies, lenA, optA, boundA, mapO, ↓Option.bind_some, ↓Option.bind_none, Nat.reduceBEq, Nat.reduceAdd, Nat.reduceMul, Nat.reduceLeDiff, Nat.reduceSub, Nat.reduceLT, Nat.reduceGT, Int.reduceBEq, Int.reduceLT, Int.reduceLE, bne, ↓reduceIte, ty26, ty38, ty42, ty5, ty3, ty4, ty36, codeL_len, c1, c2, ht, c4, c5, c6, c7, hw, hget, SIns.cells, b11, b13]
        exact leave_kept rfl rfl
  · by_cases c4 : f.regs < f.params
    · have hB : mayFunB p f = false := by simp [mayFunB, c1, c2, ht, c3, c4]
      rw [hB]
      simp only [SProg.cells, SFun.cells, k30, Tryz.f30, regEnd_nrm (lv30 _), pu30, x30_0, a30_0, im30_2, im30_3, x30_1, a30_1, x30_2, a30_2, sx_guardO g30_2_3, sx_guardO g30_2_8, sx_guardO g30_2_11, sx_guardO g30_2_17, sx_guardO g30_2_24, sx_guardO g30_2_29, sx_guardO g30_2_33, x30_3, a30_3, x30_4, a30_4, x30_5, a30_5, sx_guardO g30_5_2, x30_6, a30_6, x30_7, a30_7, sxAll, arithA, Nat.reduceEqDiff, Env.keep, qt_eq, isAlloc, resultsA, packA, storeA, indexAddrA, fieldA, indexA, unA, fieldAddrA, loadA, Rv.part, cellsAt, TD.isAgg, convH, convA, buildA, fillA, setCells, copies, lenA, optA, boundA, mapO, ↓Option.bind_some, ↓Option.bind_none, Nat.reduceBEq, Nat.reduceAdd, Nat.reduceMul, Nat.reduceLeDiff, Nat.reduceSub, Nat.reduceLT, Nat.reduceGT, Int.reduceBEq, Int.reduceLT, Int.reduceLE, bne, ↓reduceIte, ty26, ty38, ty42, ty5, ty3, ty4, ty36, codeL_len, c1, c2, ht, c3, c4]
      exact leave_kept rfl rfl
    by_cases c5 : f.regs > 4096
    · have hB : mayFunB p f = false := by simp [mayFunB, c1, c2, ht, c3, c4, c5]
      rw [hB]
      simp only [SProg.cells, SFun.cells, k30, Tryz.f30, regEnd_nrm (lv30 _), pu30, x30_0, a30_0, im30_2, im30_3, x30_1, a30_1, x30_2, a30_2, sx_guardO g30_2_3, sx_guardO g30_2_8, sx_guardO g30_2_11, sx_guardO g30_2_17, sx_guardO g30_2_24, sx_guardO g30_2_29, sx_guardO g30_2_33, x30_3, a30_3, x30_4, a30_4, x30_5, a30_5, sx_guardO g30_5_2, x30_6, a30_6, x30_7, a30_7, sxAll, arithA, Nat.reduceEqDiff, Env.keep, qt_eq, isAlloc, resultsA, packA, storeA, indexAddrA, fieldA, indexA, unA, fieldAddrA, loadA, Rv.part, cellsAt, TD.isAgg, convH, convA, buildA, fillA, setCells, copies, lenA, optA, boundA, mapO, ↓Option.bind_some, ↓Option.bind_none, Nat.reduceBEq, Nat.reduceAdd, Nat.reduceMul, Nat.reduceLeDiff, Nat.reduceSub, Nat.reduceLT, Nat.reduceGT, Int.reduceBEq, Int.reduceLT, Int.reduceLE, bne, ↓reduceIte, ty26, ty38, ty42, ty5, ty3, ty4, ty36, codeL_len, c1, c2, ht, c3, c4, c5]
      exact leave_kept rfl rfl
    by_cases c6 : (f.code.length : Int) < 1
    · have hB : mayFunB p f = false := by simp [mayFunB, c1, c2, ht, c3, c4, c5, c6]
      rw [hB]
      simp only [SProg.cells, SFun.cells, k30, Tryz.f30, regEnd_nrm (lv30 _), pu30, x30_0, a30_0, im30_2, im30_3, x30_1, a30_1, x30_2, a30_2, sx_guardO g30_2_3, sx_guardO g30_2_8, sx_guardO g30_2_11, sx_guardO g30_2_17, sx_guardO g30_2_24, sx_guardO g30_2_29, sx_guardO g30_2_33, x30_3, a30_3, x30_4, a30_4, x30_5, a30_5, sx_guardO g30_5_2, x30_6, a30_6, x30_7, a30_7, sxAll, arithA, Nat.reduceEqDiff, Env.keep, qt_eq, isAlloc, resultsA, packA, storeA, indexAddrA, fieldA, indexA, unA, fieldAddrA, loadA, Rv.part, cellsAt, TD.isAgg, convH, convA, buildA, fillA, setCells, copies, lenA, optA, boundA, mapO, ↓Option.bind_some, ↓Option.bind_none, Nat.reduceBEq, Nat.reduceAdd, Nat.reduceMul, Nat.reduceLeDiff, Nat.reduceSub, Nat.reduceLT, Nat.reduceGT, Int.reduceBEq, Int.reduceLT, Int.reduceLE, bne, ↓reduceIte, ty26, ty38, ty42, ty5, ty3, ty4, ty36, codeL_len, c1, c2, ht, c3, c4, c5, c6]
      exact leave_kept rfl rfl
    by_cases c7 : (f.code.length : Int) > 16384
    · have hB : mayFunB p f = false := by simp [mayFunB, c1, c2, ht, c3, c4, c5, c6, c7]
      rw [hB]
      simp only [SProg.cells, SFun.cells, k30, Tryz.f30, regEnd_nrm (lv30 _), pu30, x30_0, a30_0, im30_2, im30_3, x30_1, a30_1, x30_2, a30_2, sx_guardO g30_2_3, sx_guardO g30_2_8, sx_guardO g30_2_11, sx_guardO g30_2_17, sx_guardO g30_2_24, sx_guardO g30_2_29, sx_guardO g30_2_33, x30_3, a30_3, x30_4, a30_4, x30_5, a30_5, sx_guardO g30_5_2, x30_6, a30_6, x30_7, a30_7, sxAll, arithA, Nat.reduceEqDiff, Env.keep, qt_eq, isAlloc, resultsA, packA, storeA, indexAddrA, fieldA, indexA, unA, fieldAddrA, loadA, Rv.part, cellsAt, TD.isAgg, convH, convA, buildA, fillA, setCells, copies, lenA, optA, boundA, mapO, ↓Option.bind_some, ↓Option.bind_none, Nat.reduceBEq, Nat.reduceAdd, Nat.reduceMul, Nat.reduceLeDiff, Nat.reduceSub, Nat.reduceLT, Nat.reduceGT, Int.reduceBEq, Int.reduceLT, Int.reduceLE, bne, ↓reduceIte, ty26, ty38, ty42, ty5, ty3, ty4, ty36, codeL_len, c1, c2, ht, c3, c4, c5, c6, c7]
      exact leave_kept rfl rfl
    obtain ⟨x, hx⟩ : ∃ x, f.code[f.code.length - 1]? = some x := ⟨_, List.getElem?_eq_getElem (by omega)⟩
    have hlast : lastOp f = x.op := by
      unfold lastOp
      rw [List.getLast?_eq_getElem?, hx]; rfl
    have hget := codeL_get hx
    have hw : IntKind.i64.wrap ((f.code.length : Int) - 1) = ((f.code.length - 1 : Nat) : Int) := by rw [wrap_id (by omega) (by omega)]; omega
    have hcf : ∀ h, call cfg 48 [.lst (codeL f.code) f.cz f.room, .clo 49 [.ref p.cells, .ref f.cells]] h = some (.ret (.bool (f.code.any fun i => !mayInsB p f i)), h) := fun h => containsFIns_eq f.code SIns.cells _ 49 [.ref p.cells, .ref f.cells] f.cz f.room h (by omega) (fun _ _ => rfl) (fun i hi => mayFunx_eq p f i h (hf.2.2 i hi))
    simp only [SProg.cells, SFun.cells, ht] at hcf
    have hB : mayFunB p f = ((x.op == 11 || x.op == 13) && !(f.code.any fun i => !mayInsB p f i)) := by
      rw [← hlast]
      simp [mayFunB, h3, c1, c2, ht, c3, c4, c5, c6, c7, List.not_any_eq_all_not]
    rw [hB]
    by_cases e11 : x.op = 11
    · have b11 : (x.op == 11) = true := by simp [e11]
      simp only [SProg.cells, SFun.cells, k30, Tryz.f30, regEnd_nrm (lv30 _), pu30, x30_0, a30_0, im30_2, im30_3, x30_1, a30_1, x30_2, a30_2, sx_guardO g30_2_3, sx_guardO g30_2_8, sx_guardO g30_2_11, sx_guardO g30_2_17, sx_guardO g30_2_24, sx_guardO g30_2_29, sx_guardO g30_2_33, x30_3, a30_3, x30_4, a30_4, x30_5, a30_5, sx_guardO g30_5_2, x30_6, a30_6, x30_7, a30_7, sxAll, arithA, Nat.reduceEqDiff, Env.keep, qt_eq, isAlloc, resultsA, packA, storeA, indexAddrA, fieldA, indexA, unA, fieldAddrA, loadA, Rv.part, cellsAt, TD.isAgg, convH, convA, buildA, fillA, setCells, copies, lenA, optA, boundA, mapO, ↓Option.bind_some, ↓Option.bind_none, Nat.reduceBEq, Nat.reduceAdd, Nat.reduceMul, Nat.reduceLeDiff, Nat.reduceSub, Nat.reduceLT, Nat.reduceGT, Int.reduceBEq, Int.reduceLT, Int.reduceLE, bne, ↓reduceIte, ty26, ty38, ty42, ty5, ty3, ty4, ty36, codeL_len, c1, c2, ht, c3, c4, c5, c6, c7, hw, hget, SIns.cells, b11, pu48, hcf]
      exact leave_kept rfl rfl
    · have b11 : (x.op == 11) = false := by simp [e11]
      by_cases e13 : x.op = 13
      · have b13 : (x.op == 13) = true := by simp [e13]
        simp only [SProg.cells, SFun.cells, k30, Tryz.f30, regEnd_nrm (lv30 _), pu30, x30_0, a30_0, im30_2, im30_3, x30_1, a30_1, x30_2, a30_2, sx_guardO g30_2_3, sx_guardO g30_2_8, sx_guardO g30_2_11, sx_guardO g30_2_17, sx_guardO g30_2_24, sx_guardO g30_2_29, sx_guardO g30_2_33, x30_3, a30_3, x30_4, a30_4, x30_5, a30_5, sx_guardO g30_5_2, x30_6, a30_6, x30_7, a30_7, sxAll, arithA, Nat.reduceEqDiff, Env.keep, qt_eq, isAlloc, resultsA, packA, storeA, indexAddrA, fieldA, indexA, unA, fieldAddrA, loadA, Rv.part, cellsAt, TD.isAgg, convH, convA, buildA, fillA, setCells, copies, lenA, optA, boundA, mapO, ↓Option.bind_some, ↓Option.bind_none, Nat.reduceBEq, Nat.reduceAdd, Nat.reduceMul, Nat.reduceLeDiff, Nat.reduceSub, Nat.reduceLT, Nat.reduceGT, Int.reduceBEq, Int.reduceLT, Int.reduceLE, bne, ↓reduceIte, ty26, ty38, ty42, ty5, ty3, ty4, ty36, codeL_len, c1, c2, ht, c3, c4, c5, c6, c7, hw, hget, SIns.cells, b11, b13, pu48, hcf]
        exact leave_kept rfl rfl
      · have b13 : (x.op == 13) = false := by simp [e13]
        simp only [SProg.cells, SFun.cells, k30, Tryz.f30, regEnd_nrm (lv30 _), pu30, x30_0, a30_0, im30_2, im30_3, x30_1, a30_1, x30_2, a30_2, sx_guardO g30_2_3, sx_guardO g30_2_8, sx_guardO g30_2_11, sx_guardO g30_2_17, sx_guardO g30_2_24, sx_guardO g30_2_29, sx_guardO g30_2_33, x30_3, a30_3, x30_4, a30_4, x30_5, a30_5, sx_guardO g30_5_2, x30_6, a30_6, x30_7, a30_7, sxAll, arithA, Nat.reduceEqDiff, Env.keep, qt_eq, isAlloc, resultsA, packA, storeA, indexAddrA, fieldA, indexA, unA, fieldAddrA, loadA, Rv.part, cellsAt, TD.isAgg, convH, convA, buildA, fillA, setCells, copies, lenA, optA, boundA, mapO, ↓Option.bind_some, ↓Option.bind_none, Nat.reduceBEq, Nat.reduceAdd, Nat.reduceMul, Nat.reduceLeDiff, Nat.reduceSub, Nat.reduceLT, Nat.reduceGT, Int.reduceBEq, Int.reduceLT, Int.reduceLE, bne, ↓reduceIte, ty26, ty38, ty42, ty5, ty3, ty4, ty36, codeL_len, c1, c2, ht, c3, c4, c5, c6, c7, hw, hget, SIns.cells, b11, b13]
        exact leave_kept rfl rfl
end
end Go.Proofs.Sx
