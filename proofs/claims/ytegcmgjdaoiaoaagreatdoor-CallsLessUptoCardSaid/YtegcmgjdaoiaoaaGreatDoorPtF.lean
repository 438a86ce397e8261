/-
  slices.DeleteFunc at []int: in place; the closure of calls.Of.
-/
import Derived.Test.YtegcmgjdaoiaoaaGreatDoorPtE
import Derived.Test.YtegcmgjdaoiaoaaGreatDoorPtC
import Derived.Test.YtegcmgjdaoiaoaaGreatDoorRows
import Derived.Test.YtegcmgjdaoiaoaaGreatDoorTie
import Derived.Test.YtegcmgjdaoiaoaaGreatDoorCards
import Derived.ProofKit
import Derived.LaidMore
import Derived.Lay
import Derived.SevenTiedAt
import Derived.Stop.Joined
import Derived.Deep.DeepHandedRow
set_option linter.unusedSectionVars false
set_option linter.unusedSimpArgs false
set_option linter.unusedVariables false
set_option linter.defProp false
set_option linter.unusedSimpArgs false
set_option linter.unusedVariables false
set_option maxRecDepth 100000
set_option maxHeartbeats 4000000
namespace Go.Proofs.Sx
open Go.Rv Go.Proofs
attribute [local congr] bind_left got_left
noncomputable section

theorem indexFI_loopR (xs : List Int) (p : Int → Bool) (g : Nat) (caps : List AV) (v : AV) (h : Heap) (hn : xs.length < 1000000000) (R : Rd cfg h 29 3 v (intL xs))
    (hg : ∀ a ∈ xs, call cfg g (.int .i64 a :: caps) h = some (.ret (.bool (p a)), h)) : ∀ (ys : List Int) (i : Nat), xs.drop i = ys → i ≤ xs.length → ∀ c d t e,
    Got (exec cfg 34 (.loop l34_0) [(0, v), (1, .clo g caps), (4, c), (5, d), (7, .int .i64 xs.length), (8, .int .i64 i), (9, t), (16, e)] h) (fun q => q.2.2 = h ∧
      ((q.1 = .exit 0 ∧ idxP p ys i = -1) ∨ (q.1 = .ret ∧ q.2.1.get 4 = .int .i64 (idxP p ys i)))) := by
  intro ys
  induction ys with
  | nil =>
    intro i hd hi c d t e
    rw [got_loop]
    simp only [l34_0, k34, Tryz.f34, regEnd_nrm (lv34 _), pu34, x34_0, a34_0, x34_1, a34_1, x34_2, a34_2, x34_3, a34_3, x34_4, a34_4, x34_5, a34_5, x34_6, a34_6, x34_7, a34_7, sxAll, arithA, Nat.reduceEqDiff, Env.keep, qt_eq, isAlloc, resultsA, packA, storeA, fieldA, indexA, unA, fieldAddrA, Rv.part, cellsAt, TD.isAgg, convH, convA, buildA, fillA, setCells, copies, optA, boundA, mapO, ↓Option.bind_some, ↓Option.bind_none, Nat.reduceBEq, Nat.reduceAdd, Nat.reduceMul, Nat.reduceLeDiff, Nat.reduceSub, Nat.reduceLT, Nat.reduceGT, Int.reduceBEq, Int.reduceLT, Int.reduceLE, bne, ↓reduceIte, at_end hd]
    exact ⟨trivial, .inl ⟨trivial, rfl⟩⟩
  | cons y r ih =>
    intro i hd hi c d t e
    obtain ⟨hlt, hget, hd'⟩ := at_drop hd
    obtain ⟨a, h1, h2, h3⟩ := R.get i (.int .i64 y) (by simp [intL, hget])
    have hmem : y ∈ xs := List.mem_of_getElem? hget
    have hw := wrap_succ (i := i) (by omega)
    have hc := hg y hmem
    have hk := R.kn
    rw [got_loop]
    cases he : p y with
    | true =>
      rw [he] at hc
      simp only [l34_0, k34, Tryz.f34, regEnd_nrm (lv34 _), pu34, x34_0, a34_0, x34_1, a34_1, x34_2, a34_2, x34_3, a34_3, x34_4, a34_4, x34_5, a34_5, x34_6, a34_6, x34_7, a34_7, sxAll, arithA, Nat.reduceEqDiff, Env.keep, qt_eq, isAlloc, resultsA, packA, storeA, fieldA, indexA, unA, fieldAddrA, Rv.part, cellsAt, TD.isAgg, convH, convA, buildA, fillA, setCells, copies, optA, boundA, mapO, ↓Option.bind_some, ↓Option.bind_none, Nat.reduceBEq, Nat.reduceAdd, Nat.reduceMul, Nat.reduceLeDiff, Nat.reduceSub, Nat.reduceLT, Nat.reduceGT, Int.reduceBEq, Int.reduceLT, Int.reduceLE, bne, ↓reduceIte, hlt, hc, hk, h1, h2, h3]
      exact ⟨trivial, .inr ⟨trivial, by simp [Env.get_cons, idxP, he]⟩⟩
    | false =>
      rw [he] at hc
      have := ih (i + 1) hd' (by simp at hlt; omega)
      simp only [l34_0] at this ⊢
      simp only [k34, Tryz.f34, regEnd_nrm (lv34 _), pu34, x34_0, a34_0, x34_1, a34_1, x34_2, a34_2, x34_3, a34_3, x34_4, a34_4, x34_5, a34_5, x34_6, a34_6, x34_7, a34_7, sxAll, arithA, Nat.reduceEqDiff, Env.keep, qt_eq, isAlloc, resultsA, packA, storeA, fieldA, indexA, unA, fieldAddrA, Rv.part, cellsAt, TD.isAgg, convH, convA, buildA, fillA, setCells, copies, optA, boundA, mapO, ↓Option.bind_some, ↓Option.bind_none, Nat.reduceBEq, Nat.reduceAdd, Nat.reduceMul, Nat.reduceLeDiff, Nat.reduceSub, Nat.reduceLT, Nat.reduceGT, Int.reduceBEq, Int.reduceLT, Int.reduceLE, bne, ↓reduceIte, hlt, hw, hc, hk, h1, h2, h3, idxP, he] at this ⊢
      exact this _ _ _ _
theorem indexFI_eqR (xs : List Int) (p : Int → Bool) (g : Nat) (caps : List AV) (v : AV) (h : Heap) (hn : xs.length < 1000000000) (R : Rd cfg h 29 3 v (intL xs))
    (hg : ∀ a ∈ xs, call cfg g (.int .i64 a :: caps) h = some (.ret (.bool (p a)), h)) : call cfg 34 [v, .clo g caps] h = some (.ret (.int .i64 (idxP p xs 0)), h) := by
  obtain ⟨⟨o, e', h'⟩, hx, hh, hq⟩ := indexFI_loopR xs p g caps v h hn R hg xs 0 (by simp) (by omega) (.int .i64 0) .junk .junk .junk
  simp only [Int.natCast_zero] at hx hh hq
  subst hh
  have hk := R.kn
  have hlen := R.len
  rw [intL_len] at hlen
  rw [call34]
  rcases hq with ⟨rfl, h1⟩ | ⟨rfl, h1⟩
  · simp only [k34, Tryz.f34, regEnd_nrm (lv34 _), pu34, x34_0, a34_0, x34_1, a34_1, x34_2, a34_2, x34_3, a34_3, x34_4, a34_4, x34_5, a34_5, x34_6, a34_6, x34_7, a34_7, sxAll, arithA, Nat.reduceEqDiff, Env.keep, qt_eq, isAlloc, resultsA, packA, storeA, fieldA, indexA, unA, fieldAddrA, Rv.part, cellsAt, TD.isAgg, convH, convA, buildA, fillA, setCells, copies, optA, boundA, mapO, ↓Option.bind_some, ↓Option.bind_none, Nat.reduceBEq, Nat.reduceAdd, Nat.reduceMul, Nat.reduceLeDiff, Nat.reduceSub, Nat.reduceLT, Nat.reduceGT, Int.reduceBEq, Int.reduceLT, Int.reduceLE, bne, ↓reduceIte, ty29, hk, hlen, hx, h1]
    exact leave_kept rfl rfl
  · simp only [k34, Tryz.f34, regEnd_nrm (lv34 _), pu34, x34_0, a34_0, x34_1, a34_1, x34_2, a34_2, x34_3, a34_3, x34_4, a34_4, x34_5, a34_5, x34_6, a34_6, x34_7, a34_7, sxAll, arithA, Nat.reduceEqDiff, Env.keep, qt_eq, isAlloc, resultsA, packA, storeA, fieldA, indexA, unA, fieldAddrA, Rv.part, cellsAt, TD.isAgg, convH, convA, buildA, fillA, setCells, copies, optA, boundA, mapO, ↓Option.bind_some, ↓Option.bind_none, Nat.reduceBEq, Nat.reduceAdd, Nat.reduceMul, Nat.reduceLeDiff, Nat.reduceSub, Nat.reduceLT, Nat.reduceGT, Int.reduceBEq, Int.reduceLT, Int.reduceLE, bne, ↓reduceIte, ty29, hk, hlen, hx, h1]
    exact leave_kept rfl rfl


theorem lv19 (r : Nat) : cfg.live 19 r = some [0, 1, 4, 5, 6, 7, 12, 19, 29] := rfl
theorem ok19 : okB cfg0 19 Tryz.f19 (Tryz.f19.body.getD .skip) = true := by kernel_rfl
theorem pu19 : cfg.pure 19 = false := rfl
instance tight19 {d : Option Nat} : TightD cfg 19 d := ⟨fun _ _ => rfl⟩
def a19_0 : Array Oper := codeOps (codeAt [false] (Tryz.f19.body.getD .skip))
def b19_0 : Array Oper := a19_0
def r19_0 : Code := .region 0 a19_0 false
theorem x19_0 (e : Env) (h : Heap) : exec cfg 19 r19_0 e h = (ops cfg 19 b19_0 (a19_0.toList) e h).bind (regEnd cfg 19 0 false) := region_at _ _ _ _ _ _ _
def a19_1 : Array Oper := codeOps (codeAt [true, false] (Tryz.f19.body.getD .skip))
def b19_1 : Array Oper := a19_1
def r19_1 : Code := .region 1 a19_1 false
theorem x19_1 (e : Env) (h : Heap) : exec cfg 19 r19_1 e h = (ops cfg 19 b19_1 (a19_1.toList) e h).bind (regEnd cfg 19 1 false) := region_at _ _ _ _ _ _ _
def a19_2 : Array Oper := codeOps (codeAt [true, true, false, false] (Tryz.f19.body.getD .skip))
def b19_2 : Array Oper := a19_2
def r19_2 : Code := .region 2 a19_2 false
theorem x19_2 (e : Env) (h : Heap) : exec cfg 19 r19_2 e h = (ops cfg 19 b19_2 (a19_2.toList) e h).bind (regEnd cfg 19 2 false) := region_at _ _ _ _ _ _ _
def a19_3 : Array Oper := codeOps (codeAt [true, true, false, true, false, false] (Tryz.f19.body.getD .skip))
def b19_3 : Array Oper := a19_3
def r19_3 : Code := .region 3 a19_3 false
theorem x19_3 (e : Env) (h : Heap) : exec cfg 19 r19_3 e h = (ops cfg 19 b19_3 (a19_3.toList) e h).bind (regEnd cfg 19 3 false) := region_at _ _ _ _ _ _ _
def a19_4 : Array Oper := codeOps (codeAt [true, true, true, false, false] (Tryz.f19.body.getD .skip))
def b19_4 : Array Oper := a19_4
def r19_4 : Code := .region 4 a19_4 false
theorem x19_4 (e : Env) (h : Heap) : exec cfg 19 r19_4 e h = (ops cfg 19 b19_4 (a19_4.toList) e h).bind (regEnd cfg 19 4 false) := region_at _ _ _ _ _ _ _
def a19_5 : Array Oper := codeOps (codeAt [true, true, true, false, true, false, false, false, false] (Tryz.f19.body.getD .skip))
def b19_5 : Array Oper := a19_5
def r19_5 : Code := .region 5 a19_5 false
theorem x19_5 (e : Env) (h : Heap) : exec cfg 19 r19_5 e h = (ops cfg 19 b19_5 (a19_5.toList) e h).bind (regEnd cfg 19 5 false) := region_at _ _ _ _ _ _ _
def a19_7 : Array Oper := codeOps (codeAt [true, true, true, false, true, false, false, true, false, false, false] (Tryz.f19.body.getD .skip))
def b19_7 : Array Oper := a19_7
def r19_7 : Code := .region 7 a19_7 false
theorem x19_7 (e : Env) (h : Heap) : exec cfg 19 r19_7 e h = (ops cfg 19 b19_7 (a19_7.toList) e h).bind (regEnd cfg 19 7 false) := region_at _ _ _ _ _ _ _
def a19_8 : Array Oper := codeOps (codeAt [true, true, true, false, true, false, false, true, false, false, true, false] (Tryz.f19.body.getD .skip))
def b19_8 : Array Oper := a19_8
def r19_8 : Code := .region 8 a19_8 false
theorem x19_8 (e : Env) (h : Heap) : exec cfg 19 r19_8 e h = (ops cfg 19 b19_8 (a19_8.toList) e h).bind (regEnd cfg 19 8 false) := region_at _ _ _ _ _ _ _
def a19_9 : Array Oper := codeOps (codeAt [true, true, true, false, true, false, false, true, false, false, true, true, false, false] (Tryz.f19.body.getD .skip))
def b19_9 : Array Oper := a19_9
def r19_9 : Code := .region 9 a19_9 false
theorem x19_9 (e : Env) (h : Heap) : exec cfg 19 r19_9 e h = (ops cfg 19 b19_9 (a19_9.toList) e h).bind (regEnd cfg 19 9 false) := region_at _ _ _ _ _ _ _
def a19_10 : Array Oper := codeOps (codeAt [true, true, true, false, true, false, false, true, false, false, true, true, false, true] (Tryz.f19.body.getD .skip))
def b19_10 : Array Oper := a19_10
def r19_10 : Code := .region 10 a19_10 false
theorem x19_10 (e : Env) (h : Heap) : exec cfg 19 r19_10 e h = (ops cfg 19 b19_10 (a19_10.toList) e h).bind (regEnd cfg 19 10 false) := region_at _ _ _ _ _ _ _
def a19_6 : Array Oper := codeOps (codeAt [true, true, true, false, true, false, false, true, true] (Tryz.f19.body.getD .skip))
def b19_6 : Array Oper := a19_6
def r19_6 : Code := .region 6 a19_6 false
theorem x19_6 (e : Env) (h : Heap) : exec cfg 19 r19_6 e h = (ops cfg 19 b19_6 (a19_6.toList) e h).bind (regEnd cfg 19 6 false) := region_at _ _ _ _ _ _ _
def a19_11 : Array Oper := codeOps (codeAt [true, true, true, true, false] (Tryz.f19.body.getD .skip))
def b19_11 : Array Oper := a19_11
def r19_11 : Code := .region 11 a19_11 false
theorem x19_11 (e : Env) (h : Heap) : exec cfg 19 r19_11 e h = (ops cfg 19 b19_11 (a19_11.toList) e h).bind (regEnd cfg 19 11 false) := region_at _ _ _ _ _ _ _
def a19_12 : Array Oper := codeOps (codeAt [true, true, true, true, true, false] (Tryz.f19.body.getD .skip))
def b19_12 : Array Oper := a19_12
def r19_12 : Code := .region 12 a19_12 false
theorem x19_12 (e : Env) (h : Heap) : exec cfg 19 r19_12 e h = (ops cfg 19 b19_12 (a19_12.toList) e h).bind (regEnd cfg 19 12 false) := region_at _ _ _ _ _ _ _
def l19_0 : Code := (.seq (.seq r19_5 (.cond (.tmp 19) .skip (.exit 0))) (.seq (.block 1 (.seq r19_7 (.seq r19_8 (.cond (.tmp 29) (.seq r19_9 r19_10) .skip)))) r19_6))
def k19 : Code := (.seq r19_0 (.seq r19_1 (.seq (.seq r19_2 (.cond (.tmp 12) (.seq r19_3 .ret) .skip)) (.seq (.seq r19_4 (.block 0 (.loop l19_0))) (.seq r19_11 (.seq r19_12 .ret))))))
theorem body19 : Tryz.f19.body = some k19 := by kernel_rfl
theorem call19 (x0 x1 : AV) (h : Heap) : call cfg 19 [x0, x1] h = (exec cfg 19 k19 [(0, x0), (1, x1)] h).bind (callEnd cfg 19 h [.tmp 4]) := call_at2 (fnat Tryz.func19 body19 (by rw [← ok19]; kernel_rfl)) rfl rfl
theorem lv20 (r : Nat) : cfg.live 20 r = some [0, 1, 3] := rfl
theorem ok20 : okB cfg0 20 Tryz.f20 (Tryz.f20.body.getD .skip) = true := by kernel_rfl
theorem pu20 : cfg.pure 20 = true := rfl
instance tight20 {d : Option Nat} : TightD cfg 20 d := ⟨fun _ _ => rfl⟩
def a20_0 : Array Oper := codeOps (codeAt [false] (Tryz.f20.body.getD .skip))
def b20_0 : Array Oper := a20_0
def r20_0 : Code := .region 0 a20_0 false
theorem x20_0 (e : Env) (h : Heap) : exec cfg 20 r20_0 e h = (ops cfg 20 b20_0 (a20_0.toList) e h).bind (regEnd cfg 20 0 false) := region_at _ _ _ _ _ _ _
def a20_1 : Array Oper := codeOps (codeAt [true, false] (Tryz.f20.body.getD .skip))
def b20_1 : Array Oper := a20_1
def r20_1 : Code := .region 1 a20_1 false
theorem x20_1 (e : Env) (h : Heap) : exec cfg 20 r20_1 e h = (ops cfg 20 b20_1 (a20_1.toList) e h).bind (regEnd cfg 20 1 false) := region_at _ _ _ _ _ _ _
def k20 : Code := (.seq r20_0 (.seq r20_1 .ret))
theorem body20 : Tryz.f20.body = some k20 := by kernel_rfl
theorem call20 (x0 x1 : AV) (h : Heap) : call cfg 20 [x0, x1] h = (exec cfg 20 k20 [(0, x0), (1, x1)] h).bind (callEnd cfg 20 h [.tmp 3]) := call_at2 (fnat Tryz.func20 body20 (by rw [← ok20]; kernel_rfl)) rfl rfl

/-- An object of numbers is written anew. -/
def Dh (h : Heap) (o g : Nat) (ws : List Int) : Heap := h.set o (.cells (intL ws) g)
theorem Dh_obj {h : Heap} {o g : Nat} {cs : List AV} (H : h.obj o g = some cs) (ws : List Int) : (Dh h o g ws).obj o g = some (intL ws) := by
  have := obj_some H
  simp [Dh, Heap.obj, List.getElem?_set_self this]
theorem Dh_set (h : Heap) (o g : Nat) (ws us : List Int) : (Dh h o g ws).set o (.cells (intL us) g) = Dh h o g us := by simp [Dh]
theorem Dh_self {h : Heap} {o g : Nat} {xs : List Int} (H : h.obj o g = some (intL xs)) : Dh h o g xs = h := by
  have hl := obj_some H
  unfold Heap.obj at H
  unfold Dh
  apply List.ext_getElem?
  intro i
  by_cases hi : i = o
  · subst hi
    rw [List.getElem?_set_self hl]
    split at H
    · rename_i cs g' he
      split at H
      · rename_i hg
        rw [he]
        injection H with H
        subst H
        rw [beq_iff_eq.1 hg]
      · cases H
    · cases H
  · rw [List.getElem?_set_ne (Ne.symm hi)]

theorem intL_set (ws : List Int) (i : Nat) (y : Int) : (intL ws).set i (.int .i64 y) = intL (ws.set i y) := by simp [intL, List.map_set]
theorem intL_get {ws : List Int} {i : Nat} {y : Int} (h : ws[i]? = some y) : (intL ws)[i]? = some (.int .i64 y) := by simp [intL, h]

theorem idxP_split {α : Type} (p : α → Bool) : ∀ (l : List α) (i : Nat), (idxP p l i = -1 ∧ l.filter (fun y => !p y) = l) ∨ ∃ pre y post, l = pre ++ y :: post ∧ p y = true ∧ (∀ a ∈ pre, p a = false) ∧ idxP p l i = ((i + pre.length : Nat) : Int)
  | [], i => .inl ⟨rfl, rfl⟩
  | y :: r, i => by
    unfold idxP
    cases hp : p y
    · simp only [Bool.false_eq_true, if_false]
      rcases idxP_split p r (i + 1) with ⟨h1, h2⟩ | ⟨pre, z, post, h1, h2, h3, h4⟩
      · exact .inl ⟨h1, by simp [hp, h2]⟩
      · refine .inr ⟨y :: pre, z, post, by rw [h1]; rfl, h2, fun a ha => ?_, by rw [h4]; simp; omega⟩
        rcases List.mem_cons.1 ha with rfl | ha
        · exact hp
        · exact h3 a ha
    · exact .inr ⟨[], y, r, rfl, hp, fun a ha => by simp at ha, by simp⟩

section
variable (xs : List Int) (p : Int → Bool) (g : Nat) (caps : List AV) (h : Heap) (o gg : Nat) (cap : Option Nat) (hob : h.obj o gg = some (intL xs)) (hn : xs.length < 1000000)
  (hg : ∀ ws a, a ∈ xs → call cfg g (.int .i64 a :: caps) (Dh h o gg ws) = some (.ret (.bool (p a)), Dh h o gg ws))
include hob hn hg in
theorem delI_loop : ∀ (ys : List Int) (j : Nat), xs.drop j = ys → j ≤ xs.length → ∀ (ws done : List Int), ws.length = xs.length → ws.drop j = ys → done.length < j → ws.take done.length = done → ∀ a t7 t12 t19 t29,
    Got (exec cfg 19 (.loop l19_0) [(0, .msl o 0 xs.length 1 gg cap), (1, .clo g caps), (4, a), (5, .int .i64 done.length), (6, .int .i64 j), (7, t7), (12, t12), (19, t19), (29, t29)] (Dh h o gg ws))
      (fun q => q.1 = .exit 0 ∧ (∃ t6 t7 t19 t29, q.2.1 = [(0, .msl o 0 xs.length 1 gg cap), (1, .clo g caps), (4, a), (5, .int .i64 (done ++ ys.filter fun y => !p y).length), (6, t6), (7, t7), (12, t12), (19, t19), (29, t29)]) ∧
        ∃ ws', q.2.2 = Dh h o gg ws' ∧ ws'.length = xs.length ∧ ws'.take (done ++ ys.filter fun y => !p y).length = done ++ ys.filter fun y => !p y) := by
  intro ys
  induction ys with
  | nil =>
    intro j hd hj ws done hwl hwd hdl hwt a t7 t12 t19 t29
    have hob' := Dh_obj hob ws
    have hlive := live_of hob'
    rw [got_loop]
    simp only [l19_0, k19, Tryz.f19, regEnd_nrm (lv19 _), pu19, x19_0, a19_0, x19_1, a19_1, x19_2, a19_2, x19_3, a19_3, x19_4, a19_4, x19_5, a19_5, x19_7, a19_7, x19_8, a19_8, x19_9, a19_9, x19_10, a19_10, x19_6, a19_6, x19_11, a19_11, x19_12, a19_12, sxAll, arithA, Nat.reduceEqDiff, Env.keep, qt_eq, isAlloc, resultsA, packA, storeA, indexAddrA, fieldA, indexA, unA, fieldAddrA, loadA, Rv.part, cellsAt, TD.isAgg, convH, convA, buildA, fillA, setCells, copies, lenA, optA, boundA, mapO, ↓Option.bind_some, ↓Option.bind_none, Nat.reduceBEq, Nat.reduceAdd, Nat.reduceMul, Nat.reduceLeDiff, Nat.reduceSub, Nat.reduceLT, Nat.reduceGT, Int.reduceBEq, Int.reduceLT, Int.reduceLE, bne, ↓reduceIte, ty29, hlive, at_end hd, List.filter_nil]
    exact ⟨trivial, ⟨_, _, _, _, rfl⟩, ws, rfl, hwl, hwt⟩
  | cons y s ih =>
    intro j hd hj ws done hwl hwd hdl hwt a t7 t12 t19 t29
    obtain ⟨hlt, hget, hd'⟩ := at_drop hd
    obtain ⟨_, hwget, hwd'⟩ := at_drop hwd
    have hlt' : j < xs.length := by simpa using hlt
    have hmem : y ∈ xs := List.mem_of_getElem? hget
    have hw := wrap_succ (i := j) (by omega)
    have hob' := Dh_obj hob ws
    have hlive := live_of hob'
    have hc := hg ws y hmem
    have hh := head_drop (intL_get hwget)
    rw [got_loop]
    cases he : p y with
    | true =>
      rw [he] at hc
      have hf : (y :: s).filter (fun y => !p y) = s.filter fun y => !p y := by simp [he]
      have := ih (j + 1) hd' (by omega) ws done hwl hwd' (by omega) hwt
      rw [hf]
      simp only [l19_0] at this ⊢
      simp only [k19, Tryz.f19, regEnd_nrm (lv19 _), pu19, x19_0, a19_0, x19_1, a19_1, x19_2, a19_2, x19_3, a19_3, x19_4, a19_4, x19_5, a19_5, x19_7, a19_7, x19_8, a19_8, x19_9, a19_9, x19_10, a19_10, x19_6, a19_6, x19_11, a19_11, x19_12, a19_12, sxAll, arithA, Nat.reduceEqDiff, Env.keep, qt_eq, isAlloc, resultsA, packA, storeA, indexAddrA, fieldA, indexA, unA, fieldAddrA, loadA, Rv.part, cellsAt, TD.isAgg, convH, convA, buildA, fillA, setCells, copies, lenA, optA, boundA, mapO, ↓Option.bind_some, ↓Option.bind_none, Nat.reduceBEq, Nat.reduceAdd, Nat.reduceMul, Nat.reduceLeDiff, Nat.reduceSub, Nat.reduceLT, Nat.reduceGT, Int.reduceBEq, Int.reduceLT, Int.reduceLE, bne, ↓reduceIte, ty29, ty3, Nat.mul_one, Nat.zero_add, hlive, hob', hh, hlt, hw, hc] at this ⊢
      exact this _ _ _ _ _
    | false =>
      rw [he] at hc
      have hf : (y :: s).filter (fun y => !p y) = y :: s.filter fun y => !p y := by simp [he]
      have hw2 := wrap_succ (i := done.length) (by omega)
      have hdx : (done.length < xs.length) = True := by simp; omega
      have hdc : (done.length + 1 ≤ (intL ws).length) = True := by rw [intL_len]; simp; omega
      have hle : (done ++ [y]).length = done.length + 1 := by simp
      have := ih (j + 1) hd' (by omega) (ws.set done.length y) (done ++ [y]) (by simp [hwl]) (by
        rw [List.drop_set_of_lt (by omega)]; exact hwd') (by rw [hle]; omega) (by
        rw [hle, List.take_add_one, List.take_set_of_le (Nat.le_refl _), hwt, List.getElem?_set_self (by omega)]; rfl)
      rw [hf, show done ++ y :: s.filter (fun y => !p y) = (done ++ [y]) ++ s.filter (fun y => !p y) by simp]
      rw [hle] at this
      simp only [l19_0] at this ⊢
      simp only [k19, Tryz.f19, regEnd_nrm (lv19 _), pu19, x19_0, a19_0, x19_1, a19_1, x19_2, a19_2, x19_3, a19_3, x19_4, a19_4, x19_5, a19_5, x19_7, a19_7, x19_8, a19_8, x19_9, a19_9, x19_10, a19_10, x19_6, a19_6, x19_11, a19_11, x19_12, a19_12, sxAll, arithA, Nat.reduceEqDiff, Env.keep, qt_eq, isAlloc, resultsA, packA, storeA, indexAddrA, fieldA, indexA, unA, fieldAddrA, loadA, Rv.part, cellsAt, TD.isAgg, convH, convA, buildA, fillA, setCells, copies, lenA, optA, boundA, mapO, ↓Option.bind_some, ↓Option.bind_none, Nat.reduceBEq, Nat.reduceAdd, Nat.reduceMul, Nat.reduceLeDiff, Nat.reduceSub, Nat.reduceLT, Nat.reduceGT, Int.reduceBEq, Int.reduceLT, Int.reduceLE, bne, ↓reduceIte, ty29, ty3, Nat.mul_one, Nat.zero_add, hlive, hob', hh, hlt, hw, hw2, hc, hdx, hdc, intL_set, Dh_set] at this ⊢
      exact this _ _ _ _ _

include hob hn hg in
theorem delI_eq (hcap : cap = none ∨ cap = some xs.length) : ∃ ws cap', call cfg 19 [.msl o 0 xs.length 1 gg cap, .clo g caps] h = some (.ret (.msl o 0 (xs.filter fun y => !p y).length 1 gg cap'), Dh h o gg ws) ∧ ws.take (xs.filter fun y => !p y).length = xs.filter fun y => !p y := by
  have R : Rd cfg h 29 3 (.msl o 0 xs.length 1 gg cap) (intL xs) := rd_built ty29 rfl ty3 rfl rfl (.inr ⟨o, gg, cap, by rw [intL_len], by rw [show flatC (intL xs) = intL xs from flatC_plain (plain_ints xs)]; exact hob, by rw [intL_len]; exact hcap⟩) (plain_ints xs)
  have hh := Dh_self hob
  have hi := indexFI_eqR xs p g caps _ h (by omega) R (fun a ha => by have := hg xs a ha; rwa [hh] at this)
  rcases idxP_split p xs 0 with ⟨h1, h2⟩ | ⟨pre, y, post, h1, h2, h3, h4⟩
  · rw [h1] at hi
    refine ⟨xs, cap, ?_, by rw [h2, List.take_length]⟩
    rw [h2, hh, call19]
    simp only [k19, Tryz.f19, regEnd_nrm (lv19 _), pu19, x19_0, a19_0, x19_1, a19_1, x19_2, a19_2, x19_3, a19_3, x19_4, a19_4, x19_5, a19_5, x19_7, a19_7, x19_8, a19_8, x19_9, a19_9, x19_10, a19_10, x19_6, a19_6, x19_11, a19_11, x19_12, a19_12, sxAll, arithA, Nat.reduceEqDiff, Env.keep, qt_eq, isAlloc, resultsA, packA, storeA, fieldA, indexA, unA, fieldAddrA, Rv.part, cellsAt, TD.isAgg, convH, convA, buildA, fillA, setCells, copies, optA, boundA, mapO, ↓Option.bind_some, ↓Option.bind_none, Nat.reduceBEq, Nat.reduceAdd, Nat.reduceMul, Nat.reduceLeDiff, Nat.reduceSub, Nat.reduceLT, Nat.reduceGT, Int.reduceBEq, Int.reduceLT, Int.reduceLE, bne, ↓reduceIte, hi, pu34]
    exact leave_impure rfl
  · subst h1
    simp only [Nat.zero_add] at h4
    rw [h4] at hi
    obtain ⟨⟨out, e', H'⟩, hx, ho, ⟨u6, u7, u19, u29, he⟩, ws, hH, hwl, hwt⟩ := delI_loop (pre ++ y :: post) p g caps h o gg cap hob hn hg post (pre.length + 1) (by simp) (by simp) (pre ++ y :: post) pre rfl (by simp) (by omega) (by simp) (.lst [] 0 .nil) .junk (.bool false) .junk .junk
    simp only at ho he hH hwl hwt hx
    subst ho he hH
    rw [hh] at hx
    have hfl : (pre ++ y :: post).filter (fun y => !p y) = pre ++ post.filter (fun y => !p y) := by
      rw [List.filter_append, List.filter_cons]
      simp only [h2, Bool.not_true, Bool.false_eq_true, if_false]
      congr 1
      exact List.filter_eq_self.2 fun a ha => by simp [h3 a ha]
    have hne : ((pre.length : Int) == -1) = false := by simp
    have hw := wrap_succ (i := pre.length) (by simp at hn; omega)
    rw [hfl]
    obtain ⟨k, hk⟩ : ∃ k, k = (pre ++ post.filter fun y => !p y).length := ⟨_, rfl⟩
    have hkn : k ≤ (pre ++ y :: post).length := by
      have := List.length_filter_le (fun y => !p y) post
      rw [hk]; simp; omega
    rw [← hk] at hwt hx ⊢
    generalize hN : (pre ++ y :: post).length = N at hkn hwl hx hi hcap hn
    have hob' := Dh_obj hob ws
    have hms : (match cap with | some c => c | none => if (1 == 0) = true then N else ((intL ws).length - 0) / 1) = N := by
      rcases hcap with rfl | rfl <;> simp [intL_len, hwl]
    have hs1 : sliceA cfg (Dh h o gg ws) 29 (.msl o 0 N 1 gg cap) (some (.int .i64 k)) none none = some (.msl o k (N - k) 1 gg (cap.map (· - k))) := by
      simp only [sliceA, ty29, ty3, hob', Option.bind_eq_bind, Option.bind_some, Option.isSome_none, bne_self_eq_false, Bool.or_self, Bool.false_eq_true, if_false, boundA]
      simp [hkn]
    obtain ⟨ws2, hs2, hwt2⟩ : ∃ ws2, moreA cfg (Dh h o gg ws) .clear [29] [.msl o k (N - k) 1 gg (cap.map (· - k))] = some (.tup [], Dh h o gg ws2) ∧ ws2.take k = ws.take k ∧ ws2.length = ws.length := by
      by_cases h0 : N - k = 0
      · refine ⟨ws, ?_, rfl, rfl⟩
        simp [moreA, ty29, ty3, hob', h0]
      · refine ⟨ws.take k ++ List.replicate (N - k) 0, ?_, ?_, ?_⟩
        · have e1 : setCells (intL ws) k (copies (N - k) [AV.int .i64 0]) = intL (ws.take k ++ List.replicate (N - k) 0) := by
            apply List.ext_getElem?
            intro i
            have hcl : (copies (N - k) [AV.int .i64 0]).length = N - k := by rw [copies_rep]; simp
            rw [setCells_at _ _ _ (by rw [hcl, intL_len]; omega) i, hcl, copies_rep]
            simp only [intL, List.map_append, List.map_take, List.map_replicate]
            by_cases c1 : i < k
            · rw [if_neg (by omega), List.getElem?_append_left (by simp; omega), List.getElem?_take_of_lt c1]
            · rw [List.getElem?_append_right (by simp; omega)]
              by_cases c2 : i < k + (N - k)
              · rw [if_pos (by omega)]
                congr 1
                simp; omega
              · rw [if_neg (by omega), List.getElem?_eq_none (by simp; omega), List.getElem?_eq_none (by simp; omega)]
          have h3 : k + (N - k) ≤ ws.length := by omega
          simp [moreA, ty29, ty3, hob', h0, intL_len, h3, e1, Dh_set, AV.leaf]
        · rw [List.take_append_of_le_length (by simp; omega), List.take_take, Nat.min_self]
        · simp; omega
    have hob2 := Dh_obj hob ws2
    have hs3 : sliceA cfg (Dh h o gg ws2) 29 (.msl o 0 N 1 gg cap) none (some (.int .i64 k)) none = some (.msl o 0 k 1 gg (cap.map (· - 0))) := by
      have hms2 : (match cap with | some c => c | none => if (1 == 0) = true then N else ((intL ws2).length - 0) / 1) = N := by
        rcases hcap with rfl | rfl <;> simp [intL_len, hwl, hwt2.2]
      simp only [sliceA, ty29, ty3, hob2, Option.bind_eq_bind, Option.bind_some, Option.isSome_none, bne_self_eq_false, Bool.or_self, Bool.false_eq_true, if_false, boundA]
      rcases hcap with rfl | rfl <;> simp [intL_len, hwl, hwt2.2, hkn]
    refine ⟨ws2, cap.map (· - 0), ?_, by rw [hwt2.1]; exact hwt⟩
    rw [call19]
    simp only [k19, Tryz.f19, regEnd_nrm (lv19 _), pu19, x19_0, a19_0, x19_1, a19_1, x19_2, a19_2, x19_3, a19_3, x19_4, a19_4, x19_5, a19_5, x19_7, a19_7, x19_8, a19_8, x19_9, a19_9, x19_10, a19_10, x19_6, a19_6, x19_11, a19_11, x19_12, a19_12, sxAll, arithA, Nat.reduceEqDiff, Env.keep, qt_eq, isAlloc, resultsA, packA, storeA, fieldA, indexA, unA, fieldAddrA, Rv.part, cellsAt, TD.isAgg, convH, convA, buildA, fillA, setCells, copies, optA, boundA, mapO, ↓Option.bind_some, ↓Option.bind_none, Nat.reduceBEq, Nat.reduceAdd, Nat.reduceMul, Nat.reduceLeDiff, Nat.reduceSub, Nat.reduceLT, Nat.reduceGT, Int.reduceBEq, Int.reduceLT, Int.reduceLE, bne, ↓reduceIte, hi, pu34, hne, hw, hx, hs1, hs2, hs3]
    exact leave_impure rfl
end
/-- The closure of calls.Of: not a Thread. -/
theorem callsOf1_eq (p : SProg) (n : Int) (f : SFun) (hn : 0 ≤ n) (hf : p.funs[n.toNat]? = some f) (h : Heap) : call cfg 20 [.int .i64 n, .ref p.cells] h = some (.ret (.bool (!f.thread)), h) := by
  have hneg : (n < 0) = False := by simp; omega
  have hg := funsL_get hf
  rw [call20]
  simp only [SProg.cells, SFun.cells] at hg ⊢
  simp only [SProg.cells, SFun.cells, k20, Tryz.f20, regEnd_nrm (lv20 _), pu20, x20_0, a20_0, x20_1, a20_1, sxAll, arithA, Nat.reduceEqDiff, Env.keep, qt_eq, isAlloc, resultsA, packA, storeA, indexAddrA, fieldA, indexA, unA, fieldAddrA, loadA, Rv.part, cellsAt, TD.isAgg, convH, convA, buildA, fillA, setCells, copies, lenA, optA, boundA, mapO, ↓Option.bind_some, ↓Option.bind_none, Nat.reduceBEq, Nat.reduceAdd, Nat.reduceMul, Nat.reduceLeDiff, Nat.reduceSub, Nat.reduceLT, Nat.reduceGT, Int.reduceBEq, Int.reduceLT, Int.reduceLE, bne, ↓reduceIte, ty26, ty38, ty24, ty22, ty23, ty9, ty4, hneg, hg]
  exact leave_kept rfl rfl
end
end Go.Proofs.Sx

/-
  package calls: 'Of', the callees.
-/
set_option linter.unusedSimpArgs false
set_option linter.unusedVariables false
set_option maxRecDepth 100000
set_option maxHeartbeats 8000000
namespace Go.Rv
/-- Elements of one cell each that can be stored. -/
def Leaf1 (xs : List AV) : Prop := ∀ x ∈ xs, x.cells = [x] ∧ one x = x ∧ x.leaf = true
theorem Leaf1.app {xs ys : List AV} (H : Leaf1 xs) (K : Leaf1 ys) : Leaf1 (xs ++ ys) := fun x hx => (List.mem_append.1 hx).elim (H x) (K x)
theorem Leaf1.size {xs : List AV} (H : Leaf1 xs) : ∀ x ∈ xs, x.cells.length = 1 := fun x hx => by rw [(H x hx).1]; rfl
theorem Leaf1.leafs {xs : List AV} (H : Leaf1 xs) : ∀ x ∈ xs, x.cells.length = 1 ∧ x.cells.all AV.leaf = true := fun x hx => by rw [(H x hx).1]; simp [(H x hx).2.2]
theorem flatC_leaf {xs : List AV} (H : Leaf1 xs) : flatC xs = xs := by
  induction xs with
  | nil => rfl
  | cons x r ih =>
    have := ih (fun y hy => H y (List.mem_cons_of_mem _ hy))
    simp only [flatC, List.map_cons, List.flatten_cons] at this ⊢
    rw [this, (H x (List.mem_cons_self ..)).1]; rfl
theorem group_leaf {xs : List AV} (H : Leaf1 xs) : group xs.length xs 1 = xs := by
  induction xs with
  | nil => rfl
  | cons x r ih =>
    have := ih (fun y hy => H y (List.mem_cons_of_mem _ hy))
    simp only [List.length_cons, group, beq_self_eq_true, if_true, List.headD_cons, List.drop_succ_cons, List.drop_zero, this, (H x (List.mem_cons_self ..)).2.1]
theorem rd_leaf {C : Cfg} {h : Heap} {ts te : Nat} {v : AV} {xs : List AV} {ti tei : TI} (hts : C.ty ts = some ti) (hti : ti.td = .slice te) (hte : C.ty te = some tei) (h1 : tei.size = 1) (ha : tei.td.isAgg = false) (B : Built h v xs 1) (H : Leaf1 xs) : Rd C h ts te v xs where
  kn := known_built B
  len := len_built B
  get i x hx := by
    have hi : i < xs.length := (List.getElem?_eq_some_iff.1 hx).1
    rcases B with ⟨rfl, rfl⟩ | ⟨o, g, cap, rfl, hob, _⟩
    · simp at hx
    · refine ⟨.ptr o i g, ?_, rfl, ?_⟩
      · simp only [indexAddrA, hts, hti, hte, Option.bind_eq_bind, Option.bind_some, natneg, if_false, Int.toNat_natCast, h1, live_of hob]
        simp [hi]
      · rw [flatC_leaf H] at hob
        simp only [loadA, hte, cellsAt, hob, Option.bind_eq_bind, Option.bind_some, Option.map_some, Rv.part, ha]
        simp [List.head?_drop, hx]

/-- In a phase of a call, one field of the call's one object is a slice that is built; nothing that is older is changed. -/
structure Ph (q : Nat) (H0 H : Heap) (c : List AV) (k : Nat) (v : AV) (xs : List AV) : Prop where
  same : ∀ o, o < H0.length → o ≠ q → H[o]? = H0[o]?
  le : H0.length ≤ H.length
  cell : H.obj q 0 = some c
  at_ : c[k]? = some v
  b : Built H v xs 1
  own : ∀ o, objOf v = some o → H0.length ≤ o
  lt : q < H0.length
theorem Ph.app {q : Nat} {H0 H : Heap} {c : List AV} {k : Nat} {v : AV} {xs : List AV} (O : Ph q H0 H c k v xs) (X : Heap) : Ph q H0 (H ++ X) c k v xs where
  same o ho hq := by rw [List.getElem?_append_left (by have := O.le; omega)]; exact O.same o ho hq
  le := by have := O.le; simp; omega
  cell := obj_leftS X O.cell
  at_ := O.at_
  b := O.b.app X
  own := O.own
  lt := O.lt
theorem Ph.push {q : Nat} {H0 H : Heap} {c : List AV} {k : Nat} {v : AV} {xs : List AV} (O : Ph q H0 H c k v xs) (hx : Leaf1 xs) {y : AV} (hy : y.cells = [y] ∧ one y = y ∧ y.leaf = true) (hl : xs.length < 1000000) :
    ∃ v' H', appendA H 1 v [y] = some (v', H') ∧ known v' = some v' ∧ v'.cells = [v'] ∧ v'.leaf = true ∧ H'.obj q 0 = some c ∧ Ph q H0 (H'.set q (.cells (c.set k v') 0)) (c.set k v') k v' (xs ++ [y]) := by
  have hy1 : Leaf1 [y] := fun z hz => by rw [List.mem_singleton.1 hz]; exact hy
  obtain ⟨v', H', h1, h2, h4, h5, h6⟩ := append_built (ys := [y]) O.b hx.size hy1.leafs (by omega) (by simp [mostLen]; omega)
  have hq : q < H.length := obj_some O.cell
  have hqv : objOf v ≠ some q := fun hc => by have := O.own _ hc; have := O.lt; omega
  have hcell : H'.obj q 0 = some c := Go.Proofs.Sx.obj_keep O.cell (h5 _ hq hqv)
  have hlt' := obj_some hcell
  have hle := O.le
  have hlt := O.lt
  have hown : ∀ o, objOf v' = some o → H0.length ≤ o := fun o ho => by
    rcases h6 with h6 | h6
    · exact O.own o (h6 ▸ ho)
    · rw [h6] at ho; simp only [Option.some.injEq] at ho; omega
  refine ⟨v', H', h1, known_built h2, built_cells h2, built_leaf h2, hcell, ⟨fun o ho hoq => ?_, by simp; omega, by simp [Heap.obj, List.getElem?_set_self hlt'], ?_, ?_, hown, hlt⟩⟩
  · rw [List.getElem?_set_ne (Ne.symm hoq), h5 o (by omega) (fun hc => by have := O.own _ hc; omega)]
    exact O.same o ho hoq
  · rw [List.getElem?_set_self (List.getElem?_eq_some_iff.1 O.at_).1]
  · exact h2.other fun o ho => by rw [List.getElem?_set_ne]; have := hown o ho; omega
end Go.Rv
namespace Go.Proofs.Sx
open Go.Rv Go.Proofs
attribute [local congr] bind_left got_left
noncomputable section

theorem lv7 (r : Nat) : cfg.live 7 r = some [0, 1, 2, 3, 4, 6, 7, 8, 11, 14, 15, 16, 17, 34, 35, 36, 52, 61, 62, 63, 81] := rfl
theorem ok7 : okB cfg0 7 Tryz.f7 (Tryz.f7.body.getD .skip) = true := by kernel_rfl
theorem pu7 : cfg.pure 7 = true := rfl
instance tight7_1 : TightD cfg 7 (some 1) := ⟨fun t h => by cases h; rfl⟩
instance tight7_2 : TightD cfg 7 (some 2) := ⟨fun t h => by cases h; rfl⟩
instance tight7_3 : TightD cfg 7 (some 3) := ⟨fun t h => by cases h; rfl⟩
instance tight7_4 : TightD cfg 7 (some 4) := ⟨fun t h => by cases h; rfl⟩
instance tight7_6 : TightD cfg 7 (some 6) := ⟨fun t h => by cases h; rfl⟩
instance tight7_7 : TightD cfg 7 (some 7) := ⟨fun t h => by cases h; rfl⟩
instance tight7_8 : TightD cfg 7 (some 8) := ⟨fun t h => by cases h; rfl⟩
instance tight7_9 : TightD cfg 7 (some 9) := ⟨fun t h => by cases h; rfl⟩
instance tight7_10 : TightD cfg 7 (some 10) := ⟨fun t h => by cases h; rfl⟩
instance tight7_11 : TightD cfg 7 (some 11) := ⟨fun t h => by cases h; rfl⟩
instance tight7_12 : TightD cfg 7 (some 12) := ⟨fun t h => by cases h; rfl⟩
instance tight7_13 : TightD cfg 7 (some 13) := ⟨fun t h => by cases h; rfl⟩
instance tight7_14 : TightD cfg 7 (some 14) := ⟨fun t h => by cases h; rfl⟩
instance tight7_15 : TightD cfg 7 (some 15) := ⟨fun t h => by cases h; rfl⟩
instance tight7_16 : TightD cfg 7 (some 16) := ⟨fun t h => by cases h; rfl⟩
instance tight7_17 : TightD cfg 7 (some 17) := ⟨fun t h => by cases h; rfl⟩
instance tight7_18 : TightD cfg 7 (some 18) := ⟨fun t h => by cases h; rfl⟩
instance tight7_19 : TightD cfg 7 (some 19) := ⟨fun t h => by cases h; rfl⟩
instance tight7_20 : TightD cfg 7 (some 20) := ⟨fun t h => by cases h; rfl⟩
instance tight7_21 : TightD cfg 7 (some 21) := ⟨fun t h => by cases h; rfl⟩
instance tight7_22 : TightD cfg 7 (some 22) := ⟨fun t h => by cases h; rfl⟩
instance tight7_23 : TightD cfg 7 (some 23) := ⟨fun t h => by cases h; rfl⟩
instance tight7_24 : TightD cfg 7 (some 24) := ⟨fun t h => by cases h; rfl⟩
instance tight7_25 : TightD cfg 7 (some 25) := ⟨fun t h => by cases h; rfl⟩
instance tight7_26 : TightD cfg 7 (some 26) := ⟨fun t h => by cases h; rfl⟩
instance tight7_27 : TightD cfg 7 (some 27) := ⟨fun t h => by cases h; rfl⟩
instance tight7_28 : TightD cfg 7 (some 28) := ⟨fun t h => by cases h; rfl⟩
instance tight7_29 : TightD cfg 7 (some 29) := ⟨fun t h => by cases h; rfl⟩
instance tight7_30 : TightD cfg 7 (some 30) := ⟨fun t h => by cases h; rfl⟩
instance tight7_31 : TightD cfg 7 (some 31) := ⟨fun t h => by cases h; rfl⟩
instance tight7_32 : TightD cfg 7 (some 32) := ⟨fun t h => by cases h; rfl⟩
instance tight7_33 : TightD cfg 7 (some 33) := ⟨fun t h => by cases h; rfl⟩
instance tight7_34 : TightD cfg 7 (some 34) := ⟨fun t h => by cases h; rfl⟩
instance tight7_35 : TightD cfg 7 (some 35) := ⟨fun t h => by cases h; rfl⟩
instance tight7_36 : TightD cfg 7 (some 36) := ⟨fun t h => by cases h; rfl⟩
instance tight7_37 : TightD cfg 7 (some 37) := ⟨fun t h => by cases h; rfl⟩
instance tight7_38 : TightD cfg 7 (some 38) := ⟨fun t h => by cases h; rfl⟩
instance tight7_39 : TightD cfg 7 (some 39) := ⟨fun t h => by cases h; rfl⟩
instance tight7_40 : TightD cfg 7 (some 40) := ⟨fun t h => by cases h; rfl⟩
instance tight7_41 : TightD cfg 7 (some 41) := ⟨fun t h => by cases h; rfl⟩
instance tight7_42 : TightD cfg 7 (some 42) := ⟨fun t h => by cases h; rfl⟩
instance tight7_43 : TightD cfg 7 (some 43) := ⟨fun t h => by cases h; rfl⟩
instance tight7_44 : TightD cfg 7 (some 44) := ⟨fun t h => by cases h; rfl⟩
instance tight7_45 : TightD cfg 7 (some 45) := ⟨fun t h => by cases h; rfl⟩
instance tight7_46 : TightD cfg 7 (some 46) := ⟨fun t h => by cases h; rfl⟩
instance tight7_47 : TightD cfg 7 (some 47) := ⟨fun t h => by cases h; rfl⟩
instance tight7_48 : TightD cfg 7 (some 48) := ⟨fun t h => by cases h; rfl⟩
instance tight7_49 : TightD cfg 7 (some 49) := ⟨fun t h => by cases h; rfl⟩
instance tight7_50 : TightD cfg 7 (some 50) := ⟨fun t h => by cases h; rfl⟩
instance tight7_51 : TightD cfg 7 (some 51) := ⟨fun t h => by cases h; rfl⟩
instance tight7_52 : TightD cfg 7 (some 52) := ⟨fun t h => by cases h; rfl⟩
instance tight7_53 : TightD cfg 7 (some 53) := ⟨fun t h => by cases h; rfl⟩
instance tight7_54 : TightD cfg 7 (some 54) := ⟨fun t h => by cases h; rfl⟩
instance tight7_55 : TightD cfg 7 (some 55) := ⟨fun t h => by cases h; rfl⟩
instance tight7_56 : TightD cfg 7 (some 56) := ⟨fun t h => by cases h; rfl⟩
instance tight7_57 : TightD cfg 7 (some 57) := ⟨fun t h => by cases h; rfl⟩
instance tight7_58 : TightD cfg 7 (some 58) := ⟨fun t h => by cases h; rfl⟩
instance tight7_59 : TightD cfg 7 (some 59) := ⟨fun t h => by cases h; rfl⟩
instance tight7_60 : TightD cfg 7 (some 60) := ⟨fun t h => by cases h; rfl⟩
instance tight7_61 : TightD cfg 7 (some 61) := ⟨fun t h => by cases h; rfl⟩
instance tight7_62 : TightD cfg 7 (some 62) := ⟨fun t h => by cases h; rfl⟩
instance tight7_63 : TightD cfg 7 (some 63) := ⟨fun t h => by cases h; rfl⟩
instance tight7_64 : TightD cfg 7 (some 64) := ⟨fun t h => by cases h; rfl⟩
instance tight7_65 : TightD cfg 7 (some 65) := ⟨fun t h => by cases h; rfl⟩
instance tight7_66 : TightD cfg 7 (some 66) := ⟨fun t h => by cases h; rfl⟩
instance tight7_67 : TightD cfg 7 (some 67) := ⟨fun t h => by cases h; rfl⟩
instance tight7_68 : TightD cfg 7 (some 68) := ⟨fun t h => by cases h; rfl⟩
instance tight7_69 : TightD cfg 7 (some 69) := ⟨fun t h => by cases h; rfl⟩
instance tight7_70 : TightD cfg 7 (some 70) := ⟨fun t h => by cases h; rfl⟩
instance tight7_71 : TightD cfg 7 (some 71) := ⟨fun t h => by cases h; rfl⟩
instance tight7_72 : TightD cfg 7 (some 72) := ⟨fun t h => by cases h; rfl⟩
instance tight7_73 : TightD cfg 7 (some 73) := ⟨fun t h => by cases h; rfl⟩
instance tight7_75 : TightD cfg 7 (some 75) := ⟨fun t h => by cases h; rfl⟩
instance tight7_76 : TightD cfg 7 (some 76) := ⟨fun t h => by cases h; rfl⟩
instance tight7_77 : TightD cfg 7 (some 77) := ⟨fun t h => by cases h; rfl⟩
instance tight7_78 : TightD cfg 7 (some 78) := ⟨fun t h => by cases h; rfl⟩
instance tight7_79 : TightD cfg 7 (some 79) := ⟨fun t h => by cases h; rfl⟩
instance tight7_80 : TightD cfg 7 (some 80) := ⟨fun t h => by cases h; rfl⟩
instance tight7_81 : TightD cfg 7 (some 81) := ⟨fun t h => by cases h; rfl⟩
instance tight7_82 : TightD cfg 7 (some 82) := ⟨fun t h => by cases h; rfl⟩
instance tight7_83 : TightD cfg 7 (some 83) := ⟨fun t h => by cases h; rfl⟩
instance tight7_84 : TightD cfg 7 (some 84) := ⟨fun t h => by cases h; rfl⟩
instance tight7_85 : TightD cfg 7 (some 85) := ⟨fun t h => by cases h; rfl⟩
instance tight7_86 : TightD cfg 7 (some 86) := ⟨fun t h => by cases h; rfl⟩
instance tight7_87 : TightD cfg 7 (some 87) := ⟨fun t h => by cases h; rfl⟩
instance tight7_88 : TightD cfg 7 (some 88) := ⟨fun t h => by cases h; rfl⟩
instance tight7_89 : TightD cfg 7 (some 89) := ⟨fun t h => by cases h; rfl⟩
instance tight7_90 : TightD cfg 7 (some 90) := ⟨fun t h => by cases h; rfl⟩
instance tight7_91 : TightD cfg 7 (some 91) := ⟨fun t h => by cases h; rfl⟩
instance tight7_92 : TightD cfg 7 (some 92) := ⟨fun t h => by cases h; rfl⟩
instance tight7_n : TightD cfg 7 none := ⟨fun t h => by cases h⟩
theorem lo7_74 : cfg.loose 7 74 = lo 7 74 := rfl
def a7_0 : Array Oper := codeOps (codeAt [false] (Tryz.f7.body.getD .skip))
def b7_0 : Array Oper := a7_0
def r7_0 : Code := .region 0 a7_0 false
theorem im7_1 : cfg.imm 7 1 = true := by kernel_rfl
theorem x7_0 (e : Env) (h : Heap) : exec cfg 7 r7_0 e h = (ops cfg 7 b7_0 (a7_0.toList) e h).bind (regEnd cfg 7 0 false) := region_at _ _ _ _ _ _ _
def a7_1 : Array Oper := codeOps (codeAt [true, false, false] (Tryz.f7.body.getD .skip))
def b7_1 : Array Oper := a7_1
def r7_1 : Code := .region 1 a7_1 false
theorem x7_1 (e : Env) (h : Heap) : exec cfg 7 r7_1 e h = (ops cfg 7 b7_1 (a7_1.toList) e h).bind (regEnd cfg 7 1 false) := region_at _ _ _ _ _ _ _
def a7_2 : Array Oper := codeOps (codeAt [true, false, true, false, false] (Tryz.f7.body.getD .skip))
def b7_2 : Array Oper := a7_2
def r7_2 : Code := .region 2 a7_2 false
theorem x7_2 (e : Env) (h : Heap) : exec cfg 7 r7_2 e h = (ops cfg 7 b7_2 (a7_2.toList) e h).bind (regEnd cfg 7 2 false) := region_at _ _ _ _ _ _ _
def a7_3 : Array Oper := codeOps (codeAt [true, true, false] (Tryz.f7.body.getD .skip))
def b7_3 : Array Oper := a7_3
def r7_3 : Code := .region 3 a7_3 false
theorem x7_3 (e : Env) (h : Heap) : exec cfg 7 r7_3 e h = (ops cfg 7 b7_3 (a7_3.toList) e h).bind (regEnd cfg 7 3 false) := region_at _ _ _ _ _ _ _
def a7_4 : Array Oper := codeOps (codeAt [true, true, true, false, false] (Tryz.f7.body.getD .skip))
def b7_4 : Array Oper := a7_4
def r7_4 : Code := .region 4 a7_4 false
theorem x7_4 (e : Env) (h : Heap) : exec cfg 7 r7_4 e h = (ops cfg 7 b7_4 (a7_4.toList) e h).bind (regEnd cfg 7 4 false) := region_at _ _ _ _ _ _ _
def a7_5 : Array Oper := codeOps (codeAt [true, true, true, false, true, false, false, false] (Tryz.f7.body.getD .skip))
def b7_5 : Array Oper := a7_5
def r7_5 : Code := .region 5 a7_5 false
theorem x7_5 (e : Env) (h : Heap) : exec cfg 7 r7_5 e h = (ops cfg 7 b7_5 (a7_5.toList) e h).bind (regEnd cfg 7 5 false) := region_at _ _ _ _ _ _ _
def a7_6 : Array Oper := codeOps (codeAt [true, true, true, false, true, false, false, true, true, false, false, false] (Tryz.f7.body.getD .skip))
def b7_6 : Array Oper := a7_6
def r7_6 : Code := .region 6 a7_6 false
theorem x7_6 (e : Env) (h : Heap) : exec cfg 7 r7_6 e h = (ops cfg 7 b7_6 (a7_6.toList) e h).bind (regEnd cfg 7 6 false) := region_at _ _ _ _ _ _ _
def a7_7 : Array Oper := codeOps (codeAt [true, true, true, false, true, false, false, true, true, false, false, true] (Tryz.f7.body.getD .skip))
def b7_7 : Array Oper := a7_7
def r7_7 : Code := .region 7 a7_7 true
theorem im7_24 : cfg.imm 7 24 = true := by kernel_rfl
theorem s7_7 : sched a7_7 true = a7_7.toList := by kernel_rfl
theorem x7_7 (e : Env) (h : Heap) : exec cfg 7 r7_7 e h = (ops cfg 7 b7_7 (a7_7.toList) e h).bind (regEnd cfg 7 7 true) := (region_at _ _ _ _ _ _ _).trans (by rw [s7_7]; rfl)
def a7_8 : Array Oper := codeOps (codeAt [true, true, true, false, true, false, false, true, true, true] (Tryz.f7.body.getD .skip))
def b7_8 : Array Oper := a7_8
def r7_8 : Code := .region 8 a7_8 false
theorem x7_8 (e : Env) (h : Heap) : exec cfg 7 r7_8 e h = (ops cfg 7 b7_8 (a7_8.toList) e h).bind (regEnd cfg 7 8 false) := region_at _ _ _ _ _ _ _
def a7_9 : Array Oper := codeOps (codeAt [true, true, true, true, false] (Tryz.f7.body.getD .skip))
def b7_9 : Array Oper := a7_9
def r7_9 : Code := .region 9 a7_9 false
theorem x7_9 (e : Env) (h : Heap) : exec cfg 7 r7_9 e h = (ops cfg 7 b7_9 (a7_9.toList) e h).bind (regEnd cfg 7 9 false) := region_at _ _ _ _ _ _ _
def a7_10 : Array Oper := codeOps (codeAt [true, true, true, true, true, false, false] (Tryz.f7.body.getD .skip))
def b7_10 : Array Oper := a7_10
def r7_10 : Code := .region 10 a7_10 false
theorem x7_10 (e : Env) (h : Heap) : exec cfg 7 r7_10 e h = (ops cfg 7 b7_10 (a7_10.toList) e h).bind (regEnd cfg 7 10 false) := region_at _ _ _ _ _ _ _
def a7_11 : Array Oper := codeOps (codeAt [true, true, true, true, true, false, true, false, false, false] (Tryz.f7.body.getD .skip))
def b7_11 : Array Oper := a7_11
def r7_11 : Code := .region 11 a7_11 false
theorem x7_11 (e : Env) (h : Heap) : exec cfg 7 r7_11 e h = (ops cfg 7 b7_11 (a7_11.toList) e h).bind (regEnd cfg 7 11 false) := region_at _ _ _ _ _ _ _
def a7_12 : Array Oper := codeOps (codeAt [true, true, true, true, true, false, true, false, false, true, true, false, false, false] (Tryz.f7.body.getD .skip))
def b7_12 : Array Oper := a7_12
def r7_12 : Code := .region 12 a7_12 false
theorem x7_12 (e : Env) (h : Heap) : exec cfg 7 r7_12 e h = (ops cfg 7 b7_12 (a7_12.toList) e h).bind (regEnd cfg 7 12 false) := region_at _ _ _ _ _ _ _
def a7_13 : Array Oper := codeOps (codeAt [true, true, true, true, true, false, true, false, false, true, true, false, false, true, false] (Tryz.f7.body.getD .skip))
def b7_13 : Array Oper := a7_13
def r7_13 : Code := .region 13 a7_13 true
theorem im7_43 : cfg.imm 7 43 = true := by kernel_rfl
theorem s7_13 : sched a7_13 true = a7_13.toList := by kernel_rfl
theorem x7_13 (e : Env) (h : Heap) : exec cfg 7 r7_13 e h = (ops cfg 7 b7_13 (a7_13.toList) e h).bind (regEnd cfg 7 13 true) := (region_at _ _ _ _ _ _ _).trans (by rw [s7_13]; rfl)
def a7_14 : Array Oper := codeOps (codeAt [true, true, true, true, true, false, true, false, false, true, true, false, false, true, true, false] (Tryz.f7.body.getD .skip))
def b7_14 : Array Oper := a7_14
def r7_14 : Code := .region 14 a7_14 false
theorem x7_14 (e : Env) (h : Heap) : exec cfg 7 r7_14 e h = (ops cfg 7 b7_14 (a7_14.toList) e h).bind (regEnd cfg 7 14 false) := region_at _ _ _ _ _ _ _
def a7_15 : Array Oper := codeOps (codeAt [true, true, true, true, true, false, true, false, false, true, true, false, false, true, true, true, false, false] (Tryz.f7.body.getD .skip))
def b7_15 : Array Oper := a7_15
def r7_15 : Code := .region 15 a7_15 false
theorem x7_15 (e : Env) (h : Heap) : exec cfg 7 r7_15 e h = (ops cfg 7 b7_15 (a7_15.toList) e h).bind (regEnd cfg 7 15 false) := region_at _ _ _ _ _ _ _
def a7_16 : Array Oper := codeOps (codeAt [true, true, true, true, true, false, true, false, false, true, true, true] (Tryz.f7.body.getD .skip))
def b7_16 : Array Oper := a7_16
def r7_16 : Code := .region 16 a7_16 false
theorem x7_16 (e : Env) (h : Heap) : exec cfg 7 r7_16 e h = (ops cfg 7 b7_16 (a7_16.toList) e h).bind (regEnd cfg 7 16 false) := region_at _ _ _ _ _ _ _
def a7_17 : Array Oper := codeOps (codeAt [true, true, true, true, true, true, false] (Tryz.f7.body.getD .skip))
def b7_17 : Array Oper := a7_17
def r7_17 : Code := .region 17 a7_17 false
theorem x7_17 (e : Env) (h : Heap) : exec cfg 7 r7_17 e h = (ops cfg 7 b7_17 (a7_17.toList) e h).bind (regEnd cfg 7 17 false) := region_at _ _ _ _ _ _ _
def a7_18 : Array Oper := codeOps (codeAt [true, true, true, true, true, true, true, false, false] (Tryz.f7.body.getD .skip))
def b7_18 : Array Oper := a7_18
def r7_18 : Code := .region 18 a7_18 false
theorem x7_18 (e : Env) (h : Heap) : exec cfg 7 r7_18 e h = (ops cfg 7 b7_18 (a7_18.toList) e h).bind (regEnd cfg 7 18 false) := region_at _ _ _ _ _ _ _
def a7_19 : Array Oper := codeOps (codeAt [true, true, true, true, true, true, true, false, true, false, false, false] (Tryz.f7.body.getD .skip))
def b7_19 : Array Oper := a7_19
def r7_19 : Code := .region 19 a7_19 false
theorem x7_19 (e : Env) (h : Heap) : exec cfg 7 r7_19 e h = (ops cfg 7 b7_19 (a7_19.toList) e h).bind (regEnd cfg 7 19 false) := region_at _ _ _ _ _ _ _
def a7_20 : Array Oper := codeOps (codeAt [true, true, true, true, true, true, true, false, true, false, false, true, true, false, false, false] (Tryz.f7.body.getD .skip))
def b7_20 : Array Oper := a7_20
def r7_20 : Code := .region 20 a7_20 false
theorem x7_20 (e : Env) (h : Heap) : exec cfg 7 r7_20 e h = (ops cfg 7 b7_20 (a7_20.toList) e h).bind (regEnd cfg 7 20 false) := region_at _ _ _ _ _ _ _
def a7_21 : Array Oper := codeOps (codeAt [true, true, true, true, true, true, true, false, true, false, false, true, true, false, false, true, false] (Tryz.f7.body.getD .skip))
def b7_21 : Array Oper := a7_21
def r7_21 : Code := .region 21 a7_21 true
theorem s7_21 : sched a7_21 true = a7_21.toList := by kernel_rfl
theorem x7_21 (e : Env) (h : Heap) : exec cfg 7 r7_21 e h = (ops cfg 7 b7_21 (a7_21.toList) e h).bind (regEnd cfg 7 21 true) := (region_at _ _ _ _ _ _ _).trans (by rw [s7_21]; rfl)
def a7_22 : Array Oper := codeOps (codeAt [true, true, true, true, true, true, true, false, true, false, false, true, true, false, false, true, true, false] (Tryz.f7.body.getD .skip))
def b7_22 : Array Oper := a7_22
def r7_22 : Code := .region 22 a7_22 false
theorem x7_22 (e : Env) (h : Heap) : exec cfg 7 r7_22 e h = (ops cfg 7 b7_22 (a7_22.toList) e h).bind (regEnd cfg 7 22 false) := region_at _ _ _ _ _ _ _
def a7_23 : Array Oper := codeOps (codeAt [true, true, true, true, true, true, true, false, true, false, false, true, true, false, false, true, true, true, false] (Tryz.f7.body.getD .skip))
def b7_23 : Array Oper := a7_23
def r7_23 : Code := .region 23 a7_23 false
theorem im7_86 : cfg.imm 7 86 = false := by kernel_rfl
theorem x7_23 (e : Env) (h : Heap) : exec cfg 7 r7_23 e h = (ops cfg 7 b7_23 (a7_23.toList) e h).bind (regEnd cfg 7 23 false) := region_at _ _ _ _ _ _ _
def a7_24 : Array Oper := codeOps (codeAt [true, true, true, true, true, true, true, false, true, false, false, true, true, true] (Tryz.f7.body.getD .skip))
def b7_24 : Array Oper := a7_24
def r7_24 : Code := .region 24 a7_24 false
theorem x7_24 (e : Env) (h : Heap) : exec cfg 7 r7_24 e h = (ops cfg 7 b7_24 (a7_24.toList) e h).bind (regEnd cfg 7 24 false) := region_at _ _ _ _ _ _ _
def a7_25 : Array Oper := codeOps (codeAt [true, true, true, true, true, true, true, true, false] (Tryz.f7.body.getD .skip))
def b7_25 : Array Oper := a7_25
def r7_25 : Code := .region 25 a7_25 false
theorem x7_25 (e : Env) (h : Heap) : exec cfg 7 r7_25 e h = (ops cfg 7 b7_25 (a7_25.toList) e h).bind (regEnd cfg 7 25 false) := region_at _ _ _ _ _ _ _
def a7_26 : Array Oper := codeOps (codeAt [true, true, true, true, true, true, true, true, true, false] (Tryz.f7.body.getD .skip))
def b7_26 : Array Oper := a7_26
def r7_26 : Code := .region 26 a7_26 false
theorem x7_26 (e : Env) (h : Heap) : exec cfg 7 r7_26 e h = (ops cfg 7 b7_26 (a7_26.toList) e h).bind (regEnd cfg 7 26 false) := region_at _ _ _ _ _ _ _
def l7_2 : Code := (.seq r7_19 (.seq (.cond (.tmp 63) .skip (.exit 4)) (.seq (.block 5 (.seq r7_20 (.seq r7_21 (.seq r7_22 (.cond (.tmp 81) r7_23 .skip))))) r7_24)))
def l7_1 : Code := (.seq r7_11 (.seq (.cond (.tmp 36) .skip (.exit 2)) (.seq (.block 3 (.seq r7_12 (.seq r7_13 (.seq r7_14 (.cond (.tmp 52) (.seq r7_15 .ret) .skip))))) r7_16)))
def l7_0 : Code := (.seq r7_5 (.seq (.cond (.tmp 17) .skip (.exit 0)) (.seq (.block 1 (.seq r7_6 r7_7)) r7_8)))
def k7 : Code := (.seq r7_0 (.seq (.seq r7_1 (.cond (.tmp 11) (.seq r7_2 .ret) .skip)) (.seq r7_3 (.seq (.seq r7_4 (.block 0 (.loop l7_0))) (.seq r7_9 (.seq (.seq r7_10 (.block 2 (.loop l7_1))) (.seq r7_17 (.seq (.seq r7_18 (.block 4 (.loop l7_2))) (.seq r7_25 (.seq r7_26 .ret))))))))))
theorem body7 : Tryz.f7.body = some k7 := by kernel_rfl
theorem call7 (x0 : AV) (h : Heap) : call cfg 7 [x0] h = (exec cfg 7 k7 [(0, x0)] h).bind (callEnd cfg 7 h [.cell 2 31, .tmp 3]) := call_at2 (fnat Tryz.func7 body7 (by rw [← ok7]; kernel_rfl)) rfl rfl
theorem leaf_outs {α : Type} (xs : List α) (f : α → List Int) : Leaf1 (xs.map fun a => outL (f a)) := fun x hx => by
  obtain ⟨a, _, rfl⟩ := List.mem_map.1 hx
  exact ⟨rfl, rfl, rfl⟩

abbrev nl : AV := .lst [] 0 .nil
theorem of_loop0 (p : SProg) (hN : p.funs.length ≤ 300) (hc : ∀ f ∈ p.funs, f.code.length ≤ 1000000 ∧ ∀ i ∈ f.code, i.op = 10 → 0 ≤ i.n ∧ i.n < p.funs.length) (H0 : Heap) (q0 q : Nat) :
    ∀ (fs : List SFun) (i : Nat), p.funs.drop i = fs → i ≤ p.funs.length → ∀ H v, Ph q H0 H [v, .lst [] 0 .nil, .lst [] 0 .nil, .lst [] 0 .nil, .lst [] 0 .nil] 0 v ((p.funs.take i).map fun f => outL (calleesOf f)) → ∀ a t3 t6 t7 t8 t11 t17 t34 t35 t36 t52 t61 t62 t63 t81,
      Got (exec cfg 7 (.loop l7_0) [(0, a), (1, .ref p.cells), (2, .ptr q0 0 0), (3, t3), (4, .ptr q 0 0), (6, t6), (7, t7), (8, t8), (11, t11), (14, .lst (funsL p.funs) p.fz p.froom), (15, .int .i64 p.funs.length), (16, .int .i64 i), (17, t17), (34, t34), (35, t35), (36, t36), (52, t52), (61, t61), (62, t62), (63, t63), (81, t81)] H)
        (fun r => r.1 = .exit 0 ∧ (∃ t6 t16 t17, r.2.1 = [(0, a), (1, .ref p.cells), (2, .ptr q0 0 0), (3, t3), (4, .ptr q 0 0), (6, t6), (7, t7), (8, t8), (11, t11), (14, .lst (funsL p.funs) p.fz p.froom), (15, .int .i64 p.funs.length), (16, t16), (17, t17), (34, t34), (35, t35), (36, t36), (52, t52), (61, t61), (62, t62), (63, t63), (81, t81)]) ∧
          ∃ v, Ph q H0 r.2.2 [v, .lst [] 0 .nil, .lst [] 0 .nil, .lst [] 0 .nil, .lst [] 0 .nil] 0 v (p.funs.map fun f => outL (calleesOf f))) := by
  intro fs
  induction fs with
  | nil =>
    intro i hd hi H v O a t3 t6 t7 t8 t11 t17 t34 t35 t36 t52 t61 t62 t63 t81
    have hle := List.drop_eq_nil_iff.1 hd
    have : i = p.funs.length := by omega
    subst this
    rw [List.take_length] at O
    rw [got_loop]
    simp only [l7_0, k7, Tryz.f7, regEnd_nrm (lv7 _), pu7, x7_0, a7_0, im7_1, x7_1, a7_1, x7_2, a7_2, x7_3, a7_3, x7_4, a7_4, x7_5, a7_5, x7_6, a7_6, x7_7, a7_7, im7_24, x7_8, a7_8, x7_9, a7_9, x7_10, a7_10, x7_11, a7_11, x7_12, a7_12, x7_13, a7_13, im7_43, x7_14, a7_14, x7_15, a7_15, x7_16, a7_16, x7_17, a7_17, x7_18, a7_18, x7_19, a7_19, x7_20, a7_20, x7_21, a7_21, x7_22, a7_22, x7_23, a7_23, im7_86, x7_24, a7_24, x7_25, a7_25, x7_26, a7_26, sxAll, arithA, Nat.reduceEqDiff, Env.keep, qt_eq, isAlloc, resultsA, packA, storeA, indexAddrA, fieldA, indexA, unA, fieldAddrA, loadA, Rv.part, cellsAt, TD.isAgg, convH, convA, buildA, fillA, setCells, copies, lenA, optA, boundA, mapO, ↓Option.bind_some, ↓Option.bind_none, Nat.reduceBEq, Nat.reduceAdd, Nat.reduceMul, Nat.reduceLeDiff, Nat.reduceSub, Nat.reduceLT, Nat.reduceGT, Int.reduceBEq, Int.reduceLT, Int.reduceLE, bne, ↓reduceIte, at_end hd]
    exact ⟨trivial, ⟨_, _, _, rfl⟩, v, O⟩
  | cons f s ih =>
    intro i hd hi H v O a t3 t6 t7 t8 t11 t17 t34 t35 t36 t52 t61 t62 t63 t81
    obtain ⟨hlt, hget, hd'⟩ := at_drop hd
    have hlt' : i < p.funs.length := by simpa using hlt
    have hx := funsL_get hget
    have hmem := List.mem_of_getElem? hget
    obtain ⟨hc1, hc2⟩ := hc f hmem
    have hw := wrap_succ (i := i) (by omega)
    have O1 := O.app [.cells f.cells 0]
    have hce := callees_eq f (H ++ [.cells f.cells 0]) hc1 (fun i hi ho => by have := hc2 i hi ho; exact wf_small (by omega) (by omega))
    have hko : known (outL (calleesOf f)) = some (outL (calleesOf f)) := rfl
    have hlo : (outL (calleesOf f)).cells = [outL (calleesOf f)] := rfl
    have ho1 : Rv.one (outL (calleesOf f)) = outL (calleesOf f) := rfl
    have hll : (outL (calleesOf f)).leaf = true := rfl
    obtain ⟨v', H', ha, p1, p2, p3, p4, O'⟩ := O1.push (leaf_outs (p.funs.take i) calleesOf) (y := outL (calleesOf f)) ⟨rfl, rfl, rfl⟩ (by simp; omega)
    have htk : (p.funs.take (i + 1)).map (fun f => outL (calleesOf f)) = (p.funs.take i).map (fun f => outL (calleesOf f)) ++ [outL (calleesOf f)] := by rw [List.take_add_one, hget]; simp
    have hkv := known_built O.b
    have hq : q < H.length := obj_some O.cell
    have c1 := O1.cell
    have := ih (i + 1) hd' (by omega) (H'.set q (.cells [v', .lst [] 0 .nil, .lst [] 0 .nil, .lst [] 0 .nil, .lst [] 0 .nil] 0)) v' (by rw [htk]; exact O')
    have hlive := live_of c1
    have hlive' := live_of p4
    rw [got_loop]
    simp only [SFun.cells] at hce ha c1 hx hlive p4
    simp only [l7_0] at this ⊢
    simp only [SProg.cells, SFun.cells, k7, Tryz.f7, regEnd_nrm (lv7 _), pu7, x7_0, a7_0, im7_1, x7_1, a7_1, x7_2, a7_2, x7_3, a7_3, x7_4, a7_4, x7_5, a7_5, x7_6, a7_6, x7_7, a7_7, im7_24, x7_8, a7_8, x7_9, a7_9, x7_10, a7_10, x7_11, a7_11, x7_12, a7_12, x7_13, a7_13, im7_43, x7_14, a7_14, x7_15, a7_15, x7_16, a7_16, x7_17, a7_17, x7_18, a7_18, x7_19, a7_19, x7_20, a7_20, x7_21, a7_21, x7_22, a7_22, x7_23, a7_23, im7_86, x7_24, a7_24, x7_25, a7_25, x7_26, a7_26, sxAll, arithA, Nat.reduceEqDiff, Env.keep, qt_eq, isAlloc, resultsA, packA, storeA, indexAddrA, fieldA, indexA, unA, fieldAddrA, loadA, Rv.part, cellsAt, TD.isAgg, convH, convA, buildA, fillA, setCells, copies, lenA, optA, boundA, mapO, ↓Option.bind_some, ↓Option.bind_none, Nat.reduceBEq, Nat.reduceAdd, Nat.reduceMul, Nat.reduceLeDiff, Nat.reduceSub, Nat.reduceLT, Nat.reduceGT, Int.reduceBEq, Int.reduceLT, Int.reduceLE, bne, ↓reduceIte, s7_7, ty24, ty38, ty9, ty4, ty3, ty36, ty28, ty29, ty31, hlt, hx, hw, c1, hce, hko, hlo, ho1, hll, hkv, ha, p1, p2, p3, p4, hlive, hlive', pu15, elems, group] at this ⊢
    exact this _ _ _ _ _ _ _ _ _ _ _ _ _ _ _
end
end Go.Proofs.Sx

/-
  package calls: 'Of', what is come to.
-/
set_option linter.unusedSimpArgs false
set_option linter.unusedVariables false
set_option maxRecDepth 100000
set_option maxHeartbeats 8000000
namespace Go.Proofs.Sx
open Go.Rv Go.Proofs
attribute [local congr] bind_left got_left
noncomputable section

/-- Nothing but that one object is changed. -/
def Same (q : Nat) (H H' : Heap) : Prop := ∀ o, o < H.length → o ≠ q → H'[o]? = H[o]?
theorem Same.trans {q : Nat} {A B D : Heap} (h : Same q A B) (hl : A.length ≤ B.length) (k : Same q B D) : Same q A D := fun o ho hq => by
  rw [k o (by omega) hq, h o ho hq]
theorem same_take {q : Nat} {H H' : Heap} (h : H'.take H.length = H) : Same q H H' := fun o ho hq => by
  have := congrArg (·[o]?) h
  simp only [List.getElem?_take_of_lt ho] at this
  exact this
theorem built_same {q : Nat} {H H' : Heap} {v : AV} {xs : List AV} (B : Built H v xs 1) (ho : ∀ o, objOf v = some o → o ≠ q) (S : Same q H H') : Built H' v xs 1 :=
  B.other fun o hv => S o (built_lt B hv) (ho o hv)

def reachLs (CS : List (List Int)) (N : Nat) : List (List Int) := (List.range N).map fun k : Nat => reachOf CS N (k : Int)

theorem of_loop1 (p : SProg) (CS : List (List Int)) (N : Nat) (hN : CS.length = N) (hpN : p.funs.length = N) (hNb : N ≤ 300) (hrng : ∀ k j, j ∈ csOf CS k → 0 ≤ j ∧ j < (N : Int)) (hlen : ∀ l ∈ CS, l.length ≤ 1000)
    (H0 : Heap) (q0 q : Nat) (v0 v1 : AV) (hv1 : known v1 = some v1) (hb0 : ∀ H', Same q H0 H' → Built H' v0 (CS.map outL) 1) (hq0 : H0.obj q0 0 = some [.lst [] 0 .nil, .lst [] 0 .nil, .lst [] 0 .nil, .lst [] 0 .nil, .lst [] 0 .nil]) (hqq : q0 < q) :
    ∀ (d i : Nat), i + d = N → ∀ H v, Ph q H0 H [v0, v1, v, .lst [] 0 .nil, .lst [] 0 .nil] 2 v (((List.range i).map fun k : Nat => outL (reachOf CS N (k : Int)))) → (∀ k : Nat, k < i → (k : Int) ∉ reachOf CS N (k : Int)) → ∀ a t3 t6 t7 t8 t11 t14 t15 t16 t17 t36 t52 t61 t62 t63 t81,
      Got (exec cfg 7 (.loop l7_1) [(0, a), (1, .ref p.cells), (2, .ptr q0 0 0), (3, t3), (4, .ptr q 0 0), (6, t6), (7, t7), (8, t8), (11, t11), (14, t14), (15, t15), (16, t16), (17, t17), (34, .int .i64 N), (35, .int .i64 i), (36, t36), (52, t52), (61, t61), (62, t62), (63, t63), (81, t81)] H)
        (fun r => (r.1 = .exit 2 ∧ (∃ t7 t35 t36 t52, r.2.1 = [(0, a), (1, .ref p.cells), (2, .ptr q0 0 0), (3, t3), (4, .ptr q 0 0), (6, t6), (7, t7), (8, t8), (11, t11), (14, t14), (15, t15), (16, t16), (17, t17), (34, .int .i64 N), (35, t35), (36, t36), (52, t52), (61, t61), (62, t62), (63, t63), (81, t81)]) ∧
            (∀ k : Nat, k < N → (k : Int) ∉ reachOf CS N (k : Int)) ∧ ∃ v, Ph q H0 r.2.2 [v0, v1, v, .lst [] 0 .nil, .lst [] 0 .nil] 2 v ((reachLs CS N).map outL)) ∨
          (r.1 = .ret ∧ r.2.1.get 2 = .ptr q0 0 0 ∧ r.2.1.get 3 = .int .i64 67 ∧ (∃ k : Nat, k < N ∧ (k : Int) ∈ reachOf CS N (k : Int)) ∧ r.2.2.obj q0 0 = some [.lst [] 0 .nil, .lst [] 0 .nil, .lst [] 0 .nil, .lst [] 0 .nil, .lst [] 0 .nil] ∧ ∀ o, o < q0 → r.2.2[o]? = H0[o]?)) := by
  intro d
  induction d with
  | zero =>
    intro i hi H v O hno a t3 t6 t7 t8 t11 t14 t15 t16 t17 t36 t52 t61 t62 t63 t81
    have : i = N := by omega
    subst this
    have hlt : (i < i) = False := by simp
    rw [got_loop]
    simp only [l7_1, k7, Tryz.f7, regEnd_nrm (lv7 _), pu7, x7_0, a7_0, im7_1, x7_1, a7_1, x7_2, a7_2, x7_3, a7_3, x7_4, a7_4, x7_5, a7_5, x7_6, a7_6, x7_7, a7_7, im7_24, x7_8, a7_8, x7_9, a7_9, x7_10, a7_10, x7_11, a7_11, x7_12, a7_12, x7_13, a7_13, im7_43, x7_14, a7_14, x7_15, a7_15, x7_16, a7_16, x7_17, a7_17, x7_18, a7_18, x7_19, a7_19, x7_20, a7_20, x7_21, a7_21, x7_22, a7_22, x7_23, a7_23, im7_86, x7_24, a7_24, x7_25, a7_25, x7_26, a7_26, sxAll, arithA, Nat.reduceEqDiff, Env.keep, qt_eq, isAlloc, resultsA, packA, storeA, fieldA, indexA, unA, fieldAddrA, Rv.part, cellsAt, TD.isAgg, convH, convA, buildA, fillA, setCells, copies, optA, boundA, mapO, ↓Option.bind_some, ↓Option.bind_none, Nat.reduceBEq, Nat.reduceAdd, Nat.reduceMul, Nat.reduceLeDiff, Nat.reduceSub, Nat.reduceLT, Nat.reduceGT, Int.reduceBEq, Int.reduceLT, Int.reduceLE, bne, ↓reduceIte, hlt]
    refine .inl ⟨trivial, ⟨_, _, _, _, rfl⟩, hno, v, ?_⟩
    rw [reachLs, List.map_map]
    exact O
  | succ d ih =>
    intro i hi H v O hno a t3 t6 t7 t8 t11 t14 t15 t16 t17 t36 t52 t61 t62 t63 t81
    have hlt : (i < N) = True := by simp; omega
    have hlt' : i < N := by omega
    have hw := wrap_succ (i := i) (by omega)
    have hlf : Leaf1 (CS.map outL) := leaf_outs CS (fun x => x)
    have hrd : ∀ H', H'.take H.length = H → Rd cfg H' 28 29 v0 (CS.map outL) := fun H' ht =>
      rd_leaf ty28 rfl ty29 rfl rfl (hb0 H' (Same.trans (q := q) O.same O.le (same_take ht))) hlf
    have hre := reach_eq CS N hN H v0 [v1, v, .lst [] 0 .nil, .lst [] 0 .nil] hrd hrng hlen (by omega) rfl i hlt'
    obtain ⟨ro, hro⟩ : ∃ ro, ro = reachOf CS N (i : Int) := ⟨_, rfl⟩
    rw [← hro] at hre
    have hko : known (outL ro) = some (outL ro) := rfl
    have hlo : (outL ro).cells = [outL ro] := rfl
    have ho1 : Rv.one (outL ro) = outL ro := rfl
    have hll : (outL ro).leaf = true := rfl
    obtain ⟨v', H', ha, p1, p2, p3, p4, O'⟩ := O.push (leaf_outs (List.range i) fun k : Nat => reachOf CS N (k : Int)) (y := outL ro) ⟨rfl, rfl, rfl⟩ (by simp; omega)
    have hrs : ((List.range i).map fun k : Nat => outL (reachOf CS N (k : Int))) ++ [outL ro] = (List.range (i + 1)).map fun k : Nat => outL (reachOf CS N (k : Int)) := by
      rw [List.range_succ, List.map_append, hro]; rfl
    rw [hrs] at O'
    have O2 : Ph q H0 (H'.set q (.cells [v0, v1, v', .lst [] 0 .nil, .lst [] 0 .nil] 0)) [v0, v1, v', .lst [] 0 .nil, .lst [] 0 .nil] 2 v' ((List.range (i + 1)).map fun k : Nat => outL (reachOf CS N (k : Int))) := O'
    have R2 : Rd cfg (H'.set q (.cells [v0, v1, v', .lst [] 0 .nil, .lst [] 0 .nil] 0)) 28 29 v' _ := rd_leaf ty28 rfl ty29 rfl rfl O2.b (leaf_outs (List.range (i + 1)) fun k : Nat => reachOf CS N (k : Int))
    obtain ⟨ad, g1, g2, g3⟩ := R2.get i (outL ro) (by rw [hro, List.getElem?_map, List.getElem?_range (by omega)]; rfl)
    have hrl : ro.length < 1000000000 := by
      have h1 : ro.Nodup := by
        rw [hro, List.nodup_iff_pairwise_ne]
        exact (reachOf_lt CS N (i : Int)).imp fun h => by omega
      have := nodup_len h1 (N := N) (fun x hx => by
        rw [hro] at hx
        have := (List.mem_filter.1 hx).1
        obtain ⟨y, hy, rfl⟩ := List.mem_map.1 this
        have := List.mem_range.1 hy
        constructor
        · exact Int.natCast_nonneg y
        · show ((y : Nat) : Int) < N
          omega)
      omega
    have hct := containsI_eq ro (i : Int) 1 (if ro = [] then .nil else .open) (H'.set q (.cells [v0, v1, v', .lst [] 0 .nil, .lst [] 0 .nil] 0)) hrl
    have hkv := known_built O.b
    have hkv0 := (hrd H (by simp)).kn
    have c1 := O.cell
    have c2 := O2.cell
    have hlive := live_of c1
    have hlive' := live_of p4
    have hlive3 := live_of c2
    rw [got_loop]
    by_cases hm : (i : Int) ∈ ro
    · have hdm : decide ((i : Int) ∈ ro) = true := by simp [hm]
      rw [hdm] at hct
      have hq2 : Heap.obj (H'.set q (.cells [v0, v1, v', .lst [] 0 .nil, .lst [] 0 .nil] 0)) q0 0 = some [.lst [] 0 .nil, .lst [] 0 .nil, .lst [] 0 .nil, .lst [] 0 .nil, .lst [] 0 .nil] := obj_keep hq0 (O2.same q0 (obj_some hq0) (by omega))
      have hlive2 := live_of hq2
      have hq2l := obj_some hq2
      have hfin : Heap.obj (List.set (H'.set q (.cells [v0, v1, v', .lst [] 0 .nil, .lst [] 0 .nil] 0)) q0 (.cells [.lst [] 0 .nil, .lst [] 0 .nil, .lst [] 0 .nil, .lst [] 0 .nil, .lst [] 0 .nil] 0)) q0 0 = some [.lst [] 0 .nil, .lst [] 0 .nil, .lst [] 0 .nil, .lst [] 0 .nil, .lst [] 0 .nil] := by
        simp only [Heap.obj, List.getElem?_set_self hq2l]; rfl
      have hold : ∀ o, o < q0 → (List.set (H'.set q (.cells [v0, v1, v', .lst [] 0 .nil, .lst [] 0 .nil] 0)) q0 (.cells [.lst [] 0 .nil, .lst [] 0 .nil, .lst [] 0 .nil, .lst [] 0 .nil, .lst [] 0 .nil] 0))[o]? = H0[o]? := fun o ho => by
        rw [List.getElem?_set_ne (by omega)]
        exact O2.same o (by have := obj_some hq0; omega) (by omega)
      have hex : ∃ k : Nat, k < N ∧ (k : Int) ∈ reachOf CS N (k : Int) := ⟨i, hlt', by rw [← hro]; exact hm⟩
      simp only [outL] at hre ha hko hlo ho1 hll g3 hct
      simp only [l7_1, SProg.cells, outL, k7, Tryz.f7, regEnd_nrm (lv7 _), pu7, x7_0, a7_0, im7_1, x7_1, a7_1, x7_2, a7_2, x7_3, a7_3, x7_4, a7_4, x7_5, a7_5, x7_6, a7_6, x7_7, a7_7, im7_24, x7_8, a7_8, x7_9, a7_9, x7_10, a7_10, x7_11, a7_11, x7_12, a7_12, x7_13, a7_13, im7_43, x7_14, a7_14, x7_15, a7_15, x7_16, a7_16, x7_17, a7_17, x7_18, a7_18, x7_19, a7_19, x7_20, a7_20, x7_21, a7_21, x7_22, a7_22, x7_23, a7_23, im7_86, x7_24, a7_24, x7_25, a7_25, x7_26, a7_26, sxAll, arithA, Nat.reduceEqDiff, Env.keep, qt_eq, isAlloc, resultsA, packA, storeA, fieldA, indexA, unA, fieldAddrA, Rv.part, cellsAt, TD.isAgg, convH, convA, buildA, fillA, setCells, copies, optA, boundA, mapO, ↓Option.bind_some, ↓Option.bind_none, Nat.reduceBEq, Nat.reduceAdd, Nat.reduceMul, Nat.reduceLeDiff, Nat.reduceSub, Nat.reduceLT, Nat.reduceGT, Int.reduceBEq, Int.reduceLT, Int.reduceLE, bne, ↓reduceIte, s7_13, load_ptr, ty28, ty29, ty31, hlt, hw, c1, c2, hre, hko, hlo, ho1, hll, hkv, hkv0, hv1, ha, p1, p2, p3, p4, hlive, hlive', hlive3, hlive2, hq2, g1, g2, g3, hct, pu17, pu18, elems, group]
      exact .inr ⟨trivial, trivial, trivial, hex, hfin, hold⟩
    · have hdm : decide ((i : Int) ∈ ro) = false := by simp [hm]
      rw [hdm] at hct
      have := ih (i + 1) (by omega) _ v' O2 (fun k hk => by
        by_cases hki : k = i
        · subst hki; rw [← hro]; exact hm
        · exact hno k (by omega))
      simp only [outL] at hre ha hko hlo ho1 hll g3 hct
      simp only [l7_1] at this ⊢
      simp only [SProg.cells, k7, Tryz.f7, regEnd_nrm (lv7 _), pu7, x7_0, a7_0, im7_1, x7_1, a7_1, x7_2, a7_2, x7_3, a7_3, x7_4, a7_4, x7_5, a7_5, x7_6, a7_6, x7_7, a7_7, im7_24, x7_8, a7_8, x7_9, a7_9, x7_10, a7_10, x7_11, a7_11, x7_12, a7_12, x7_13, a7_13, im7_43, x7_14, a7_14, x7_15, a7_15, x7_16, a7_16, x7_17, a7_17, x7_18, a7_18, x7_19, a7_19, x7_20, a7_20, x7_21, a7_21, x7_22, a7_22, x7_23, a7_23, im7_86, x7_24, a7_24, x7_25, a7_25, x7_26, a7_26, sxAll, arithA, Nat.reduceEqDiff, Env.keep, qt_eq, isAlloc, resultsA, packA, storeA, fieldA, indexA, unA, fieldAddrA, Rv.part, cellsAt, TD.isAgg, convH, convA, buildA, fillA, setCells, copies, optA, boundA, mapO, ↓Option.bind_some, ↓Option.bind_none, Nat.reduceBEq, Nat.reduceAdd, Nat.reduceMul, Nat.reduceLeDiff, Nat.reduceSub, Nat.reduceLT, Nat.reduceGT, Int.reduceBEq, Int.reduceLT, Int.reduceLE, bne, ↓reduceIte, s7_13, load_ptr, ty28, ty29, ty31, hlt, hw, c1, c2, hre, hko, hlo, ho1, hll, hkv, hkv0, hv1, ha, p1, p2, p3, p4, hlive, hlive', hlive3, g1, g2, g3, hct, pu17, pu18, elems, group] at this ⊢
      exact this _ _ _ _ _ _ _ _ _ _ _ _ _ _ _ _
end
end Go.Proofs.Sx

/-
  package calls: 'Of', the Roots.
-/
set_option linter.unusedSimpArgs false
set_option linter.unusedVariables false
set_option maxRecDepth 100000
set_option maxHeartbeats 8000000
namespace Go.Proofs.Sx
open Go.Rv Go.Proofs
attribute [local congr] bind_left got_left
noncomputable section

/-- A slice of numbers, of which only the first ones of an object are seen. -/
def View (H : Heap) (v : AV) (xs : List Int) : Prop := (v = .lst [] 0 .nil ∧ xs = []) ∨ ∃ o g cap ws, v = .msl o 0 xs.length 1 g cap ∧ H.obj o g = some (intL ws) ∧ ws.take xs.length = xs
theorem Built.view {H : Heap} {v : AV} {xs : List Int} (B : Built H v (intL xs) 1) : View H v xs := by
  rcases B with ⟨h1, h2⟩ | ⟨o, g, cap, h1, h2, _⟩
  · exact .inl ⟨h1, List.map_eq_nil_iff.1 h2⟩
  · refine .inr ⟨o, g, cap, xs, by rw [h1, intL_len], ?_, List.take_length⟩
    rw [show flatC (intL xs) = intL xs from flatC_plain (plain_ints xs)] at h2
    exact h2
theorem View.other {H H' : Heap} {v : AV} {xs : List Int} (V : View H v xs) (K : ∀ o, objOf v = some o → H'[o]? = H[o]?) : View H' v xs := by
  rcases V with h | ⟨o, g, cap, ws, rfl, h2, h3⟩
  · exact .inl h
  · exact .inr ⟨o, g, cap, ws, rfl, obj_keep h2 (K o rfl), h3⟩
theorem View.lt {H : Heap} {v : AV} {xs : List Int} {o : Nat} (V : View H v xs) (ho : objOf v = some o) : o < H.length := by
  rcases V with ⟨rfl, _⟩ | ⟨o', g, cap, ws, rfl, h2, h3⟩
  · cases ho
  · simp only [objOf, Option.some.injEq] at ho; subst ho; exact obj_some h2
theorem View.kn {H : Heap} {v : AV} {xs : List Int} (V : View H v xs) : known v = some v ∧ v.cells = [v] ∧ v.leaf = true := by
  rcases V with ⟨rfl, _⟩ | ⟨o', g, cap, ws, rfl, h2, h3⟩ <;> exact ⟨rfl, rfl, rfl⟩
theorem View.freeze {H : Heap} {v : AV} {xs : List Int} {n d : Nat} (V : View H v xs) (ho : ∀ o, objOf v = some o → n ≤ o) : ∃ z r, freezeV H n (d + 2) v = some (.lst (intL xs) z r) := by
  rcases V with ⟨rfl, rfl⟩ | ⟨o, g, cap, ws, rfl, h2, h3⟩
  · exact ⟨0, .nil, rfl⟩
  · refine ⟨1, .open, ?_⟩
    have hn := ho o rfl
    have hl : xs.length ≤ ws.length := by have := congrArg List.length h3; simp at this; omega
    have htk : (intL ws).take xs.length = intL xs := by rw [← h3]; simp [intL, List.map_take]
    unfold freezeV
    simp only
    rw [if_neg (by omega), h2]
    simp only [Option.bind_eq_bind, Option.bind_some, Nat.zero_add, Nat.mul_one, List.drop_zero, intL_len, hl, if_true, htk, freeze_ints]
    congr 2
    have := group_plain (plain_ints xs)
    simp only [List.length_map] at this
    exact this

/-- Slices of slices, of which from a on each is still whole. -/
structure VV (Hb H : Heap) (a : Nat) (cells : List AV) (ls : List (List Int)) : Prop where
  cell : H.obj Hb.length 0 = some cells
  len : cells.length = ls.length
  each : ∀ (k : Nat) v xs, cells[k]? = some v → ls[k]? = some xs → View H v xs
  whole : ∀ (k : Nat) v xs, a ≤ k → cells[k]? = some v → ls[k]? = some xs → Built H v (intL xs) 1
  own : ∀ (k : Nat) v o, cells[k]? = some v → objOf v = some o → Hb.length < o
  sep : ∀ (k k' : Nat) v v' o, cells[k]? = some v → cells[k']? = some v' → objOf v = some o → objOf v' = some o → k = k'
  old : H.take Hb.length = Hb
theorem VV.le {Hb H : Heap} {a : Nat} {cells : List AV} {ls : List (List Int)} (O : VV Hb H a cells ls) : Hb.length < H.length := obj_some O.cell

theorem VV.upd {Hb H H' : Heap} {a a' k : Nat} {cells : List AV} {ls : List (List Int)} {v v' : AV} {xs xs' : List Int} (O : VV Hb H a cells ls) (hv : cells[k]? = some v) (hx : ls[k]? = some xs)
    (ha : a ≤ a') (hk : k < a') (hl : H.length ≤ H'.length) (hs : ∀ o, o < H.length → objOf v ≠ some o → H'[o]? = H[o]?) (hV : View H' v' xs') (ho : objOf v' = objOf v ∨ objOf v' = some H.length ∨ objOf v' = none) :
    H'.obj Hb.length 0 = some cells ∧ VV Hb (H'.set Hb.length (.cells (cells.set k v') 0)) a' (cells.set k v') (ls.set k xs') := by
  have hlt := O.le
  have hkl : k < cells.length := (List.getElem?_eq_some_iff.1 hv).1
  have hcell : H'.obj Hb.length 0 = some cells := obj_keep O.cell (hs _ hlt fun hc => by have := O.own k v _ hv hc; omega)
  have hlt' := obj_some hcell
  have hownv : ∀ o, objOf v' = some o → Hb.length < o := fun o ho' => by
    rcases ho with h6 | h6 | h6
    · exact O.own k v o hv (h6 ▸ ho')
    · rw [h6] at ho'; simp only [Option.some.injEq] at ho'; omega
    · rw [h6] at ho'; cases ho'
  have hother : ∀ (j : Nat) w o, j ≠ k → cells[j]? = some w → objOf w = some o → o < H.length ∧ objOf v ≠ some o ∧ objOf v' ≠ some o := by
    intro j w o hj hw how
    have hjl : j < ls.length := by rw [← O.len]; exact (List.getElem?_eq_some_iff.1 hw).1
    have hlo := View.lt (O.each j w _ hw (List.getElem?_eq_getElem hjl)) how
    have hne : objOf v ≠ some o := fun hc => hj (O.sep j k w v o hw hv how hc)
    refine ⟨hlo, hne, fun hc => ?_⟩
    rcases ho with h6 | h6 | h6
    · exact hne (h6 ▸ hc)
    · rw [h6] at hc; simp only [Option.some.injEq] at hc; omega
    · rw [h6] at hc; cases hc
  have hkeep : ∀ (j : Nat) w o, j ≠ k → cells[j]? = some w → objOf w = some o → (H'.set Hb.length (.cells (cells.set k v') 0))[o]? = H[o]? := fun j w o hj hw how => by
    obtain ⟨q1, q2, _⟩ := hother j w o hj hw how
    rw [List.getElem?_set_ne (by have := O.own j w o hw how; omega), hs o q1 q2]
  refine ⟨hcell, ⟨by simp [Heap.obj, List.getElem?_set_self hlt'], by simp [O.len], ?_, ?_, ?_, ?_, ?_⟩⟩
  · intro j w ys hw hys
    by_cases hj : j = k
    · subst hj
      rw [List.getElem?_set_self hkl] at hw
      rw [List.getElem?_set_self (by rw [← O.len]; exact hkl)] at hys
      injection hw with hw; injection hys with hys
      subst hw hys
      exact hV.other fun o ho => by rw [List.getElem?_set_ne]; have := hownv o ho; omega
    · rw [List.getElem?_set_ne (Ne.symm hj)] at hw hys
      exact (O.each j w ys hw hys).other fun o ho => hkeep j w o hj hw ho
  · intro j w ys haj hw hys
    have hj : j ≠ k := by omega
    rw [List.getElem?_set_ne (Ne.symm hj)] at hw hys
    exact (O.whole j w ys (by omega) hw hys).other fun o ho => hkeep j w o hj hw ho
  · intro j w o hw ho
    by_cases hj : j = k
    · subst hj
      rw [List.getElem?_set_self hkl] at hw
      injection hw with hw; subst hw
      exact hownv o ho
    · rw [List.getElem?_set_ne (Ne.symm hj)] at hw
      exact O.own j w o hw ho
  · intro j j' w w' o hw hw' ho ho'
    by_cases hj : j = k
    · by_cases hj' : j' = k
      · omega
      · subst hj
        rw [List.getElem?_set_self hkl] at hw
        rw [List.getElem?_set_ne (Ne.symm hj')] at hw'
        injection hw with hw; subst hw
        exact absurd ho (hother j' w' o hj' hw' ho').2.2
    · rw [List.getElem?_set_ne (Ne.symm hj)] at hw
      by_cases hj' : j' = k
      · subst hj'
        rw [List.getElem?_set_self hkl] at hw'
        injection hw' with hw'; subst hw'
        exact absurd ho' (hother j w o hj hw ho).2.2
      · rw [List.getElem?_set_ne (Ne.symm hj')] at hw'
        exact O.sep j j' w w' o hw hw' ho ho'
  · rw [List.take_set_of_le (Nat.le_refl _), ← O.old]
    apply List.ext_getElem?
    intro i
    by_cases hi : i < Hb.length
    · rw [O.old, List.getElem?_take_of_lt hi, hs i (by omega) (fun hc => by have := O.own k v _ hv hc; omega)]
      have := congrArg (·[i]?) O.old
      simp only [List.getElem?_take_of_lt hi] at this
      exact this
    · rw [O.old, List.getElem?_eq_none (by simp; omega), List.getElem?_eq_none (by omega)]

/-- Another object, older than all of that, is written. -/
theorem LL.vv {H1 H2 : Heap} {cells : List AV} {ls : List (List Int)} (O : LL H1 H2 cells ls) {q : Nat} (hq : q < H1.length) (X : AObj) : VV (H1.set q X) (H2.set q X) 0 cells ls where
  cell := by rw [List.length_set]; exact obj_keep O.cell (by rw [List.getElem?_set_ne (by omega)])
  len := O.len
  each k v xs hv hx := Built.view ((O.each k v xs hv hx).other fun o ho => by rw [List.getElem?_set_ne]; have := O.own k v o hv ho; omega)
  whole k v xs _ hv hx := (O.each k v xs hv hx).other fun o ho => by rw [List.getElem?_set_ne]; have := O.own k v o hv ho; omega
  own k v o hv ho := by rw [List.length_set]; exact O.own k v o hv ho
  sep := O.sep
  old := by rw [List.length_set, List.take_set, O.old]

theorem delI_nil (g : Nat) (caps : List AV) (H : Heap) (hg : True) : call cfg 19 [.lst [] 0 .nil, .clo g caps] H = some (.ret (.lst [] 0 .nil), H) := by
  have hi := indexFI_eqR [] (fun _ => false) g caps (.lst [] 0 .nil) H (by simp) (rd_built ty29 rfl ty3 rfl rfl (.inl ⟨rfl, rfl⟩) (plain_ints [])) (fun a ha => by simp at ha)
  simp only [idxP] at hi
  rw [call19]
  simp only [k19, Tryz.f19, regEnd_nrm (lv19 _), pu19, x19_0, a19_0, x19_1, a19_1, x19_2, a19_2, x19_3, a19_3, x19_4, a19_4, x19_5, a19_5, x19_7, a19_7, x19_8, a19_8, x19_9, a19_9, x19_10, a19_10, x19_6, a19_6, x19_11, a19_11, x19_12, a19_12, sxAll, arithA, Nat.reduceEqDiff, Env.keep, qt_eq, isAlloc, resultsA, packA, storeA, fieldA, indexA, unA, fieldAddrA, Rv.part, cellsAt, TD.isAgg, convH, convA, buildA, fillA, setCells, copies, optA, boundA, mapO, ↓Option.bind_some, ↓Option.bind_none, Nat.reduceBEq, Nat.reduceAdd, Nat.reduceMul, Nat.reduceLeDiff, Nat.reduceSub, Nat.reduceLT, Nat.reduceGT, Int.reduceBEq, Int.reduceLT, Int.reduceLE, bne, ↓reduceIte, hi, pu34]
  exact leave_impure rfl

theorem VV.del {Hb H : Heap} {i : Nat} {cells : List AV} {ls : List (List Int)} {v : AV} {xs : List Int} (O : VV Hb H i cells ls) (hv : cells[i]? = some v) (hx : ls[i]? = some xs) (hn : xs.length < 1000000) (p : Int → Bool) (g : Nat) (caps : List AV)
    (hg : ∀ a ∈ xs, ∀ H, call cfg g (.int .i64 a :: caps) H = some (.ret (.bool (p a)), H)) :
    ∃ v' H', call cfg 19 [v, .clo g caps] H = some (.ret v', H') ∧ known v' = some v' ∧ v'.cells = [v'] ∧ v'.leaf = true ∧ H'.obj Hb.length 0 = some cells ∧ (∀ o, o < Hb.length → H'[o]? = H[o]?) ∧
      VV Hb (H'.set Hb.length (.cells (cells.set i v') 0)) (i + 1) (cells.set i v') (ls.set i (xs.filter fun y => !p y)) := by
  have B := O.whole i v xs (Nat.le_refl _) hv hx
  have hB := B
  rcases B with ⟨h1, h2⟩ | ⟨o, gg, cap, h1, h2, h3⟩
  · subst h1
    have hxs : xs = [] := List.map_eq_nil_iff.1 h2
    subst hxs
    obtain ⟨c1, c2⟩ := O.upd (H' := H) (a' := i + 1) (v' := .lst [] 0 .nil) (xs' := []) hv hx (by omega) (by omega) (Nat.le_refl _) (fun o _ _ => rfl) (.inl ⟨rfl, rfl⟩) (.inl rfl)
    exact ⟨_, H, delI_nil g caps H trivial, rfl, rfl, rfl, c1, fun _ _ => rfl, c2⟩
  · rw [show flatC (intL xs) = intL xs from flatC_plain (plain_ints xs)] at h2
    rw [intL_len] at h1 h3
    subst h1
    obtain ⟨ws, cap', k1, k2⟩ := delI_eq xs p g caps H o gg cap h2 hn (fun ws a ha => hg a ha _) h3
    have hol := obj_some h2
    have hoo := O.own i _ o hv rfl
    obtain ⟨c1, c2⟩ := O.upd (H' := Dh H o gg ws) (a' := i + 1) (v' := .msl o 0 (xs.filter fun y => !p y).length 1 gg cap') (xs' := xs.filter fun y => !p y) hv hx (by omega) (by omega) (by simp [Dh])
      (fun o' _ ho' => by
        have : o ≠ o' := fun h => ho' (by rw [← h]; rfl)
        simp only [Dh]
        rw [List.getElem?_set_ne this])
      (.inr ⟨o, gg, cap', ws, rfl, Dh_obj h2 ws, k2⟩) (.inl rfl)
    refine ⟨_, _, k1, rfl, rfl, rfl, c1, fun o' ho' => ?_, c2⟩
    simp only [Dh]
    rw [List.getElem?_set_ne (by omega)]

theorem VV.put {Hb H : Heap} {a i : Nat} {cells : List AV} {ls : List (List Int)} {v : AV} {xs : List Int} (O : VV Hb H a cells ls) (hv : cells[i]? = some v) (hx : ls[i]? = some xs) (ha : i < a) (n : Int) :
    VV Hb ((H ++ [AObj.cells [.int .i64 n] 0]).set Hb.length (.cells (cells.set i (.msl H.length 0 1 1 0 (some 1))) 0)) a (cells.set i (.msl H.length 0 1 1 0 (some 1))) (ls.set i [n]) :=
  (O.upd (H' := H ++ [AObj.cells [.int .i64 n] 0]) (a' := a) (v' := .msl H.length 0 1 1 0 (some 1)) (xs' := [n]) hv hx (Nat.le_refl _) ha (by simp) (fun o ho _ => List.getElem?_append_left ho)
    (.inr ⟨H.length, 0, some 1, [n], rfl, by simp [Heap.obj, intL], rfl⟩) (.inr (.inl rfl))).2

theorem addTo_mem (n : Int) (P : Int → Prop) (hn : P n) : ∀ (x : List Int) (ls : List (List Int)), (∀ l ∈ ls, ∀ j ∈ l, P j) → ∀ l ∈ addTo ls n x, ∀ j ∈ l, P j
  | [], ls, h => h
  | k :: r, ls, h => by
    rw [addTo]
    refine addTo_mem n P hn r _ fun l hl j hj => ?_
    rcases List.mem_or_eq_of_mem_set hl with h1 | h1
    · exact h l h1 j hj
    · subst h1
      rcases List.mem_append.1 hj with hj | hj
      · by_cases hk : k.toNat < ls.length
        · rw [List.getD_eq_getElem?_getD, List.getElem?_eq_getElem hk] at hj
          exact h _ (List.getElem_mem hk) j hj
        · rw [List.getD_eq_getElem?_getD, List.getElem?_eq_none (by omega)] at hj
          simp at hj
      · rw [List.mem_singleton.1 hj]; exact hn
theorem addTo_bound (n : Int) : ∀ (x : List Int) (ls : List (List Int)) (B : Nat), (∀ l ∈ ls, l.length ≤ B) → ∀ l ∈ addTo ls n x, l.length ≤ B + x.length
  | [], ls, B, h => fun l hl => by have := h l hl; simp; omega
  | k :: r, ls, B, h => by
    rw [addTo]
    intro l hl
    have := addTo_bound n r (ls.set k.toNat (ls.getD k.toNat [] ++ [n])) (B + 1) (fun l hl => by
      rcases List.mem_or_eq_of_mem_set hl with h1 | h1
      · have := h l h1; omega
      · subst h1
        rw [List.length_append, List.getD_eq_getElem?_getD]
        cases hk : ls[k.toNat]? with
        | none => simp
        | some y => have := h y (List.mem_of_getElem? hk); simp; omega) l hl
    simp only [List.length_cons]; omega
theorem turnGo_mem (P : Int → Prop) : ∀ (CS : List (List Int)) (i : Nat) (ls : List (List Int)), (∀ k : Nat, i ≤ k → k < i + CS.length → P k) → (∀ l ∈ ls, ∀ j ∈ l, P j) → ∀ l ∈ turnGo CS i ls, ∀ j ∈ l, P j
  | [], i, ls, _, h => h
  | x :: r, i, ls, hp, h => by
    rw [turnGo]
    exact turnGo_mem P r (i + 1) _ (fun k h1 h2 => hp k (by omega) (by simp; omega)) (addTo_mem _ P (hp i (Nat.le_refl _) (by simp)) x ls h)
theorem turnGo_bound : ∀ (CS : List (List Int)) (i : Nat) (ls : List (List Int)) (B : Nat), (∀ x ∈ CS, x.length ≤ 1000) → (∀ l ∈ ls, l.length ≤ B) → ∀ l ∈ turnGo CS i ls, l.length ≤ B + 1000 * CS.length
  | [], i, ls, B, _, h => fun l hl => by have := h l hl; simp; omega
  | x :: r, i, ls, B, hc, h => by
    rw [turnGo]
    intro l hl
    have := turnGo_bound r (i + 1) _ (B + 1000) (fun y hy => hc y (List.mem_cons_of_mem _ hy)) (fun l hl => by
      have := addTo_bound (i : Int) x ls B h l hl
      have := hc x (List.mem_cons_self ..)
      omega) l hl
    simp only [List.length_cons]; omega
theorem turnGo_len : ∀ (CS : List (List Int)) (i : Nat) (ls : List (List Int)), (turnGo CS i ls).length = ls.length
  | [], i, ls => rfl
  | x :: r, i, ls => by rw [turnGo, turnGo_len r, addTo_len]
theorem turnedL_len (CS : List (List Int)) : (turnedL CS).length = CS.length := by rw [turnedL, turnGo_len]; simp
theorem turnedL_mem (CS : List (List Int)) {l : List Int} (hl : l ∈ turnedL CS) {j : Int} (hj : j ∈ l) : 0 ≤ j ∧ j < (CS.length : Int) :=
  turnGo_mem (fun j => 0 ≤ j ∧ j < (CS.length : Int)) CS 0 _ (fun k _ hk => ⟨by omega, by omega⟩) (fun l hl j hj => by rw [(List.mem_replicate.1 hl).2] at hj; simp at hj) l hl j hj
theorem turnedL_bound (CS : List (List Int)) (hc : ∀ x ∈ CS, x.length ≤ 1000) {l : List Int} (hl : l ∈ turnedL CS) : l.length ≤ 1000 * CS.length := by
  have := turnGo_bound CS 0 _ 0 hc (fun l hl => by rw [(List.mem_replicate.1 hl).2]; simp) l hl
  omega
end
end Go.Proofs.Sx

/-
  package calls: 'Of': the loose call; the loop that makes Roots.
-/
set_option linter.unusedSimpArgs false
set_option linter.unusedVariables false
set_option maxRecDepth 100000
set_option maxHeartbeats 8000000
namespace Go.Proofs.Sx
open Go.Rv Go.Proofs
attribute [local congr] bind_left got_left
noncomputable section

theorem lb0 (e : Env) (h : Heap) : looseB cfg 7 b7_21 e h 0 = (((known (e.get 4)).bind fun x => fieldAddrA cfg h 31 x 3).map fun v => AV.eqb v (e.get 65)).getD false := by
  simp only [looseB, b7_21, a7_21, Tryz.f7, codeAt_nil, codeAt_seq0, codeAt_seq1, codeAt_cond0, codeAt_cond1, codeAt_block, codeAt_loop, codeOps_region, Option.getD_some, List.getElem?_toArray, List.getElem?_cons_zero]
  simp only [wantA, opA, evalA_tmp, Option.bind_eq_bind]
  cases known (e.get 4) with
  | none => rfl
  | some x =>
    simp only [Option.bind_some]
    cases fieldAddrA cfg h 31 x 3 <;> rfl
theorem lb1 (e : Env) (h : Heap) : looseB cfg 7 b7_21 e h 1 = (((known (e.get 65)).bind fun x => loadA cfg h 28 x).map fun v => AV.eqb v (e.get 66)).getD false := by
  simp only [looseB, b7_21, a7_21, Tryz.f7, codeAt_nil, codeAt_seq0, codeAt_seq1, codeAt_cond0, codeAt_cond1, codeAt_block, codeAt_loop, codeOps_region, Option.getD_some, List.getElem?_toArray, List.getElem?_cons_zero, List.getElem?_cons_succ]
  simp only [wantA, opA, evalA_tmp, Option.bind_eq_bind, qt_eq]
  cases known (e.get 65) with
  | none => rfl
  | some x =>
    simp only [Option.bind_some]
    cases loadA cfg h 28 x <;> rfl
theorem sx_74 {ty : TypeId} {ps : String} {af : Array Edge} {r : List Oper} {e : Env} {h : Heap} (g : Nat) (args : Array Operand) (ct : Array TypeId) :
    ops cfg 7 b7_21 (⟨some 74, .call { callee := .value (.func g), args := args, argTypes := ct }, ty, ps, af, none⟩ :: r) e h = (mapO (evalA cfg e) args.toList).bind fun vs => (call cfg g vs h).bind fun x => match x.1 with
    | .ret v => if (((known (e.get 4)).bind fun y => fieldAddrA cfg x.2 31 y 3).map fun v => AV.eqb v (e.get 65)).getD false && (((known (e.get 65)).bind fun y => loadA cfg x.2 28 y).map fun v => AV.eqb v (e.get 66)).getD false then ops cfg 7 b7_21 r (e.put 74 v) x.2 else none
    | .pan v => some (.pan v, e, x.2) := by
  rw [ops_cons]
  have hl : ∀ h, looseAll cfg 7 b7_21 (some 74) e h = ((((known (e.get 4)).bind fun y => fieldAddrA cfg h 31 y 3).map fun v => AV.eqb v (e.get 65)).getD false && (((known (e.get 65)).bind fun y => loadA cfg h 28 y).map fun v => AV.eqb v (e.get 66)).getD false) := fun h => by
    simp only [looseAll, lo7_74, lo, List.all_cons, List.all_nil, Bool.and_true, lb0, lb1]
  simp only [hl, wantA, callee, Option.bind_some, evalA, callv_clo, pureV, List.append_nil, qt_eq]
  rfl
/-- Is a number one of a Thread? -/
def thrB (p : SProg) (j : Int) : Bool := match p.funs[j.toNat]? with
  | some f => f.thread
  | none => false
def rootsGo (p : SProg) : List SFun → Nat → List (List Int) → List (List Int)
  | [], _, ls => ls
  | f :: r, i, ls => rootsGo p r (i + 1) (ls.set i (if f.thread then [(i : Int)] else (ls.getD i []).filter (thrB p)))

theorem of_loop2 (p : SProg) (N : Nat) (hN : p.funs.length = N) (hNb : N ≤ 300) (Hb : Heap) (q0 q : Nat) (c : List AV) (v0 v1 v2 v4 : AV) (hq : Hb.obj q 0 = some [v0, v1, v2, .msl Hb.length 0 N 1 0 (some N), v4]) :
    ∀ (fs : List SFun) (i : Nat), p.funs.drop i = fs → i ≤ N → ∀ H cells ls, VV Hb H i cells ls → ls.length = N → (∀ k xs, i ≤ k → ls[k]? = some xs → xs.length < 1000000 ∧ ∀ j ∈ xs, 0 ≤ j ∧ j < (N : Int)) → ∀ a t3 t6 t7 t8 t11 t14 t15 t16 t17 t34 t35 t36 t52 t63 t81,
      Got (exec cfg 7 (.loop l7_2) [(0, a), (1, .ref p.cells), (2, .ptr q0 0 0), (3, t3), (4, .ptr q 0 0), (6, t6), (7, t7), (8, t8), (11, t11), (14, t14), (15, t15), (16, t16), (17, t17), (34, t34), (35, t35), (36, t36), (52, t52), (61, .int .i64 N), (62, .int .i64 i), (63, t63), (81, t81)] H)
        (fun r => r.1 = .exit 4 ∧ (∃ t8 t62 t63 t81, r.2.1 = [(0, a), (1, .ref p.cells), (2, .ptr q0 0 0), (3, t3), (4, .ptr q 0 0), (6, t6), (7, t7), (8, t8), (11, t11), (14, t14), (15, t15), (16, t16), (17, t17), (34, t34), (35, t35), (36, t36), (52, t52), (61, .int .i64 N), (62, t62), (63, t63), (81, t81)]) ∧
          ∃ cells', VV Hb r.2.2 N cells' (rootsGo p fs i ls)) := by
  have hqm := obj_some hq
  intro fs
  induction fs with
  | nil =>
    intro i hd hi H cells ls O hls hb a t3 t6 t7 t8 t11 t14 t15 t16 t17 t34 t35 t36 t52 t63 t81
    have hle := List.drop_eq_nil_iff.1 hd
    have : i = N := by omega
    subst this
    have hlt : (i < i) = False := by simp
    rw [got_loop]
    simp only [l7_2, k7, Tryz.f7, regEnd_nrm (lv7 _), pu7, x7_0, a7_0, im7_1, x7_1, a7_1, x7_2, a7_2, x7_3, a7_3, x7_4, a7_4, x7_5, a7_5, x7_6, a7_6, x7_7, a7_7, im7_24, x7_8, a7_8, x7_9, a7_9, x7_10, a7_10, x7_11, a7_11, x7_12, a7_12, x7_13, a7_13, im7_43, x7_14, a7_14, x7_15, a7_15, x7_16, a7_16, x7_17, a7_17, x7_18, a7_18, x7_19, a7_19, x7_20, a7_20, x7_21, a7_21, x7_22, a7_22, x7_23, a7_23, im7_86, x7_24, a7_24, x7_25, a7_25, x7_26, a7_26, sxAll, arithA, Nat.reduceEqDiff, Env.keep, qt_eq, isAlloc, resultsA, packA, storeA, indexAddrA, fieldA, indexA, unA, fieldAddrA, loadA, Rv.part, cellsAt, TD.isAgg, convH, convA, buildA, fillA, setCells, copies, lenA, optA, boundA, mapO, ↓Option.bind_some, ↓Option.bind_none, Nat.reduceBEq, Nat.reduceAdd, Nat.reduceMul, Nat.reduceLeDiff, Nat.reduceSub, Nat.reduceLT, Nat.reduceGT, Int.reduceBEq, Int.reduceLT, Int.reduceLE, bne, ↓reduceIte, hlt]
    exact ⟨trivial, ⟨_, _, _, _, rfl⟩, cells, O⟩
  | cons f s ih =>
    intro i hd hi H cells ls O hls hb a t3 t6 t7 t8 t11 t14 t15 t16 t17 t34 t35 t36 t52 t63 t81
    obtain ⟨hlt, hget, hd'⟩ := at_drop hd
    rw [hN] at hlt
    have hlt' : i < N := by simpa using hlt
    have hx := funsL_get hget
    have hw := wrap_succ (i := i) (by omega)
    obtain ⟨xs, hxs⟩ : ∃ xs, ls[i]? = some xs := ⟨_, List.getElem?_eq_getElem (by omega)⟩
    obtain ⟨v, hv⟩ : ∃ v, cells[i]? = some v := ⟨_, List.getElem?_eq_getElem (by rw [O.len]; omega)⟩
    obtain ⟨hxl, hxr⟩ := hb i xs (Nat.le_refl _) hxs
    obtain ⟨k1, k2, k3⟩ := View.kn (O.each i v xs hv hxs)
    obtain ⟨v', H', hdel, p1, p2, p3, p4, p5, O'⟩ := O.del hv hxs hxl (fun j => !thrB p j) 20 [.ref p.cells] (fun j hj H => by
      obtain ⟨h1, h2⟩ := hxr j hj
      obtain ⟨g, hg⟩ : ∃ g, p.funs[j.toNat]? = some g := ⟨_, List.getElem?_eq_getElem (by omega)⟩
      rw [callsOf1_eq p j g h1 hg H]
      simp only [thrB, hg])
    have hfl : (xs.filter fun y => !(!thrB p y)) = xs.filter (thrB p) := by simp
    rw [hfl] at O'
    have c1 : H.obj q 0 = some [v0, v1, v2, .msl Hb.length 0 N 1 0 (some N), v4] := obj_keep hq (same_take (q := H.length + 1) O.old q hqm (by have := O.le; omega))
    have c2 : H'.obj q 0 = some [v0, v1, v2, .msl Hb.length 0 N 1 0 (some N), v4] := obj_keep c1 (p5 q hqm)
    have c3 : Heap.obj (H'.set Hb.length (.cells (cells.set i v') 0)) q 0 = some [v0, v1, v2, .msl Hb.length 0 N 1 0 (some N), v4] := obj_keep c2 (by rw [List.getElem?_set_ne (by omega)])
    have hl1 := live_of c1
    have hl2 := live_of c2
    have hl3 := live_of c3
    have hm1 := O.cell
    have hlm1 := live_of hm1
    have hlm2 := live_of p4
    have hm3 := O'.cell
    have hlm3 := live_of hm3
    have hkc : (i + 1 ≤ cells.length) = True := by rw [O.len]; simp; omega
    have hh := head_drop hv
    have hgd : ls.getD i [] = xs := by simp [hxs]
    have hb' : ∀ (y : List Int) k zs, i + 1 ≤ k → (ls.set i y)[k]? = some zs → zs.length < 1000000 ∧ ∀ j ∈ zs, 0 ≤ j ∧ j < (N : Int) := fun y k zs hk hz => by
      rw [List.getElem?_set_ne (by omega)] at hz
      exact hb k zs (by omega) hz
    rw [got_loop]
    simp only [SProg.cells, SFun.cells] at hx hdel
    cases ht : f.thread with
    | false =>
      rw [ht] at hx
      have := ih (i + 1) hd' (by omega) _ _ _ O' (by simp [hls]) (hb' _)
      have hr : rootsGo p (f :: s) i ls = rootsGo p s (i + 1) (ls.set i (xs.filter (thrB p))) := by rw [rootsGo, ht, hgd]; rfl
      rw [hr]
      simp only [l7_2] at this ⊢
      simp only [SProg.cells, SFun.cells, k7, Tryz.f7, regEnd_nrm (lv7 _), pu7, x7_0, a7_0, im7_1, x7_1, a7_1, x7_2, a7_2, x7_3, a7_3, x7_4, a7_4, x7_5, a7_5, x7_6, a7_6, x7_7, a7_7, im7_24, x7_8, a7_8, x7_9, a7_9, x7_10, a7_10, x7_11, a7_11, x7_12, a7_12, x7_13, a7_13, im7_43, x7_14, a7_14, x7_15, a7_15, x7_16, a7_16, x7_17, a7_17, x7_18, a7_18, x7_19, a7_19, x7_20, a7_20, x7_21, a7_21, x7_22, a7_22, x7_23, a7_23, im7_86, x7_24, a7_24, x7_25, a7_25, x7_26, a7_26, sx_74, sxAll, arithA, Nat.reduceEqDiff, Env.keep, qt_eq, isAlloc, resultsA, packA, storeA, indexAddrA, fieldA, indexA, unA, fieldAddrA, loadA, Rv.part, cellsAt, TD.isAgg, convH, convA, buildA, fillA, setCells, copies, lenA, optA, boundA, mapO, ↓Option.bind_some, ↓Option.bind_none, Nat.reduceBEq, Nat.reduceAdd, Nat.reduceMul, Nat.reduceLeDiff, Nat.reduceSub, Nat.reduceLT, Nat.reduceGT, Int.reduceBEq, Int.reduceLT, Int.reduceLE, bne, ↓reduceIte, s7_21, ty24, ty38, ty26, ty22, ty23, ty9, ty4, ty3, ty36, ty28, ty29, ty31, hlt, hw, hx, ht, c1, c2, c3, hl1, hl2, hl3, hm1, hlm1, p4, hlm2, hm3, hlm3, hkc, hh, k1, k2, k3, p1, p2, p3, hdel, Nat.mul_one, Nat.zero_add, AV.eqb, Nat.beq_refl] at this ⊢
      exact this _ _ _ _ _ _ _ _ _ _ _ _ _ _ _ _
    | true =>
      rw [ht] at hx
      have hset : (cells.set i v')[i]? = some v' := List.getElem?_set_self (by rw [O.len]; omega)
      have O2 := O'.put (i := i) (v := v') (xs := xs.filter (thrB p)) hset (List.getElem?_set_self (by omega)) (by omega) (i : Int)
      rw [List.set_set, List.set_set] at O2
      have := ih (i + 1) hd' (by omega) _ _ _ O2 (by simp [hls]) (hb' _)
      have hr : rootsGo p (f :: s) i ls = rootsGo p s (i + 1) (ls.set i [(i : Int)]) := by rw [rootsGo, ht]; rfl
      have hm4 := obj_leftS [AObj.cells [.int .i64 (i : Int)] 0] hm3
      have hlm4 := live_of hm4
      have hkc' : (i + 1 ≤ (cells.set i v').length) = True := by rw [List.length_set]; exact hkc
      rw [hr]
      simp only [l7_2] at this ⊢
      simp only [SProg.cells, SFun.cells, k7, Tryz.f7, regEnd_nrm (lv7 _), pu7, x7_0, a7_0, im7_1, x7_1, a7_1, x7_2, a7_2, x7_3, a7_3, x7_4, a7_4, x7_5, a7_5, x7_6, a7_6, x7_7, a7_7, im7_24, x7_8, a7_8, x7_9, a7_9, x7_10, a7_10, x7_11, a7_11, x7_12, a7_12, x7_13, a7_13, im7_43, x7_14, a7_14, x7_15, a7_15, x7_16, a7_16, x7_17, a7_17, x7_18, a7_18, x7_19, a7_19, x7_20, a7_20, x7_21, a7_21, x7_22, a7_22, x7_23, a7_23, im7_86, x7_24, a7_24, x7_25, a7_25, x7_26, a7_26, sx_74, sxAll, arithA, Nat.reduceEqDiff, Env.keep, qt_eq, isAlloc, resultsA, packA, storeA, indexAddrA, fieldA, indexA, unA, fieldAddrA, loadA, Rv.part, cellsAt, TD.isAgg, convH, convA, buildA, fillA, setCells, copies, lenA, optA, boundA, mapO, ↓Option.bind_some, ↓Option.bind_none, Nat.reduceBEq, Nat.reduceAdd, Nat.reduceMul, Nat.reduceLeDiff, Nat.reduceSub, Nat.reduceLT, Nat.reduceGT, Int.reduceBEq, Int.reduceLT, Int.reduceLE, bne, ↓reduceIte, s7_21, ty24, ty38, ty26, ty22, ty23, ty9, ty4, ty3, ty36, ty28, ty29, ty31, hlt, hw, hx, ht, c1, c2, c3, hl1, hl2, hl3, hm1, hlm1, p4, hlm2, hm3, hlm3, hm4, hlm4, hkc, hkc', hh, k1, k2, k3, p1, p2, p3, hdel, Nat.mul_one, Nat.zero_add, AV.eqb, Nat.beq_refl, List.set_set, cells_msl, leaf_msl] at this ⊢
      exact this _ _ _ _ _ _ _ _ _ _ _ _ _ _ _ _
end
end Go.Proofs.Sx

/-
  package calls: 'Of': a row there is; what is frozen.
-/
set_option linter.unusedSimpArgs false
set_option linter.unusedVariables false
set_option maxRecDepth 100000
set_option maxHeartbeats 8000000
namespace Go.Proofs.Sx
open Go.Rv Go.Proofs
attribute [local congr] bind_left got_left
noncomputable section

theorem pickN_some (CS : List (List Int)) (out : List Int) : ∀ l : List Nat, (∃ n ∈ l, ready CS out n = true) → ∃ m, pickN CS out l = some m ∧ m ∈ l ∧ ready CS out m = true
  | [], ⟨n, h, _⟩ => by simp at h
  | a :: r, ⟨n, h, hr⟩ => by
    rw [pickN]
    by_cases ha : ready CS out a = true
    · rw [if_pos ha]; exact ⟨a, rfl, by simp, ha⟩
    · rw [if_neg ha]
      obtain ⟨m, h1, h2, h3⟩ := pickN_some CS out r ⟨n, (List.mem_cons.1 h).resolve_left (fun e => ha (e ▸ hr)), hr⟩
      exact ⟨m, h1, List.mem_cons_of_mem _ h2, h3⟩
theorem nodup_sub_len : ∀ (a b : List Int), a.Nodup → (∀ x ∈ a, x ∈ b) → a.length ≤ b.length
  | [], b, _, _ => by simp
  | x :: r, b, hn, hs => by
    have hn' := List.nodup_cons.1 hn
    have hx := hs x (List.mem_cons_self ..)
    have h := nodup_sub_len r (b.erase x) hn'.2 fun y hy => by
      have hne : y ≠ x := fun e => hn'.1 (e ▸ hy)
      exact (List.mem_erase_of_ne hne).2 (hs y (List.mem_cons_of_mem _ hy))
    rw [List.length_erase_of_mem hx] at h
    have := List.length_pos_of_mem hx
    simp only [List.length_cons]; omega
theorem reachOf_nodup (CS : List (List Int)) (N : Nat) (k : Int) : (reachOf CS N k).Nodup := by
  rw [List.nodup_iff_pairwise_ne]
  exact (reachOf_lt CS N k).imp fun h => by omega
theorem pick_ex (CS : List (List Int)) (N : Nat) (hrng : ∀ k j, j ∈ csOf CS k → 0 ≤ j ∧ j < (N : Int)) (hno : ∀ k : Nat, k < N → (k : Int) ∉ reachOf CS N (k : Int)) (out : List Int) (hl : out.length < N) :
    ∃ n ∈ List.range N, ready CS out n = true := by
  obtain ⟨n0, h0, h1⟩ : ∃ n : Nat, n < N ∧ (n : Int) ∉ out := by
    apply Classical.byContradiction
    intro hc
    have h2 : ∀ x ∈ (List.range N).map Int.ofNat, x ∈ out := fun x hx => by
      obtain ⟨n, hn, rfl⟩ := List.mem_map.1 hx
      exact Classical.byContradiction fun h => hc ⟨n, List.mem_range.1 hn, h⟩
    have := nodup_sub_len ((List.range N).map Int.ofNat) out (by
      rw [List.nodup_iff_pairwise_ne]
      exact (range_lt N).imp fun h => by omega) h2
    simp at this; omega
  have key : ∀ (d n : Nat), (reachOf CS N (n : Int)).length ≤ d → n < N → (n : Int) ∉ out → ∃ m ∈ List.range N, ready CS out m = true := by
    intro d
    induction d with
    | zero =>
      intro n hd hn ho
      refine ⟨n, List.mem_range.2 hn, ?_⟩
      have hnone : csOf CS (n : Int) = [] := by
        apply List.eq_nil_iff_forall_not_mem.2
        intro j hj
        have := (reachOf_mem CS N (n : Int) j hrng).2 (.one hj)
        have := List.length_pos_of_mem this
        omega
      simp [ready, ho, hnone]
    | succ d ih =>
      intro n hd hn ho
      by_cases hr : ready CS out n = true
      · exact ⟨n, List.mem_range.2 hn, hr⟩
      · have hcs : ∃ j ∈ csOf CS (n : Int), j ∉ out := by
          apply Classical.byContradiction
          intro hc
          apply hr
          have : (csOf CS (n : Int)).any (fun k => !decide (k ∈ out)) = false := by
            rw [List.any_eq_false]
            intro j hj
            have : j ∈ out := Classical.byContradiction fun h => hc ⟨j, hj, h⟩
            simp [this]
          simp [ready, ho, this]
        obtain ⟨j, hj, hjo⟩ := hcs
        obtain ⟨hj0, hjN⟩ := hrng _ j hj
        have hjn : ((j.toNat : Nat) : Int) = j := by omega
        refine ih j.toNat ?_ (by omega) (by rw [hjn]; exact hjo)
        have hsub : ∀ x ∈ reachOf CS N j, x ∈ (reachOf CS N (n : Int)).erase j := fun x hx => by
          have hxr := (reachOf_mem CS N j x hrng).1 hx
          have hne : x ≠ j := fun e => by
            subst e
            have := hno x.toNat (by omega)
            rw [hjn] at this
            exact this hx
          exact (List.mem_erase_of_ne hne).2 ((reachOf_mem CS N (n : Int) x hrng).2 (.step hj hxr))
        have hle := nodup_sub_len _ _ (reachOf_nodup CS N j) hsub
        have hjm : j ∈ reachOf CS N (n : Int) := (reachOf_mem CS N (n : Int) j hrng).2 (.one hj)
        rw [List.length_erase_of_mem hjm] at hle
        rw [hjn]; omega
  exact key _ n0 (Nat.le_refl _) h0 h1

def IsLL (a : AV) (ls : List (List Int)) : Prop := ∃ es z r, a = .lst es z r ∧ es.length = ls.length ∧ ∀ (k : Nat) xs, ls[k]? = some xs → ∃ z r, es[k]? = some (.lst (intL xs) z r)
theorem mapO_len {α β : Type} {f : α → Option β} : ∀ {l : List α} {m : List β}, mapO f l = some m → m.length = l.length
  | [], m, h => by cases h; rfl
  | a :: r, m, h => by
    rw [mapO_cons] at h
    obtain ⟨b, _, h⟩ := Option.bind_eq_some_iff.1 h
    obtain ⟨bs, hb, h⟩ := Option.bind_eq_some_iff.1 h
    cases h
    simp [mapO_len hb]
theorem mapO_all {α β : Type} {f : α → Option β} (P : Nat → β → Prop) : ∀ {l : List α}, (∀ (k : Nat) a, l[k]? = some a → ∃ b, f a = some b ∧ P k b) → ∃ m, mapO f l = some m ∧ m.length = l.length ∧ ∀ (k : Nat) b, m[k]? = some b → P k b
  | [], _ => ⟨[], rfl, rfl, fun k b h => by simp at h⟩
  | a :: r, h => by
    obtain ⟨b, hb, hp⟩ := h 0 a rfl
    obtain ⟨bs, h1, h2, h3⟩ := mapO_all (fun k b => P (k + 1) b) (l := r) (fun k x hx => h (k + 1) x (by simpa using hx))
    refine ⟨b :: bs, by rw [mapO_cons, hb, h1]; rfl, by simp [h2], fun k y hy => ?_⟩
    cases k with
    | zero => simp at hy; subst hy; exact hp
    | succ k => exact h3 k y (by simpa using hy)
theorem group_ones : ∀ {es : List AV}, (∀ e ∈ es, Rv.one e = e) → group es.length es 1 = es
  | [], _ => rfl
  | e :: r, h => by
    have := group_ones (es := r) fun x hx => h x (List.mem_cons_of_mem _ hx)
    simp only [List.length_cons, group, beq_self_eq_true, if_true, List.headD_cons, List.drop_succ_cons, List.drop_zero, this, h e (List.mem_cons_self ..)]

theorem freeze_vv {H : Heap} {o n d N : Nat} {cap : Option Nat} {cells : List AV} {ls : List (List Int)} (hc : H.obj o 0 = some cells) (hl : cells.length = ls.length) (hN : ls.length = N) (hno : n ≤ o)
    (he : ∀ (k : Nat) v xs, cells[k]? = some v → ls[k]? = some xs → ∃ z r, freezeV H n (d + 2) v = some (.lst (intL xs) z r)) : ∃ a, freezeV H n (d + 3) (.msl o 0 N 1 0 cap) = some a ∧ IsLL a ls := by
  obtain ⟨es, h1, h2, h3⟩ := mapO_all (f := freezeV H n (d + 2)) (l := cells) (fun k b => ∀ xs, ls[k]? = some xs → ∃ z r, b = .lst (intL xs) z r) (fun k v hv => by
    have hk : k < ls.length := by rw [← hl]; exact (List.getElem?_eq_some_iff.1 hv).1
    obtain ⟨z, r, h⟩ := he k v _ hv (List.getElem?_eq_getElem hk)
    refine ⟨_, h, fun xs hx => ?_⟩
    rw [List.getElem?_eq_getElem hk] at hx
    injection hx with hx
    subst hx
    exact ⟨z, r, rfl⟩)
  refine ⟨.lst es 1 .open, ?_, es, 1, .open, rfl, by omega, fun k xs hx => ?_⟩
  · unfold freezeV
    simp only
    rw [if_neg (by omega), hc]
    have hlen : cells.length = N := by omega
    have hg : group N es 1 = es := by
      have := group_ones (es := es) fun e hm => by
        obtain ⟨k, hk, rfl⟩ := List.getElem_of_mem hm
        obtain ⟨z, r, h⟩ := h3 k _ (List.getElem?_eq_getElem hk) _ (List.getElem?_eq_getElem (by omega))
        rw [h]; rfl
      rw [show es.length = N from by omega] at this
      exact this
    simp only [Option.bind_eq_bind, Option.bind_some, Nat.zero_add, Nat.mul_one, List.drop_zero, hlen, Nat.le_refl, if_true, List.take_of_length_le (Nat.le_of_eq hlen), h1, hg]
  · have hk : k < es.length := by have := (List.getElem?_eq_some_iff.1 hx).1; omega
    obtain ⟨z, r, h⟩ := h3 k _ (List.getElem?_eq_getElem hk) xs hx
    exact ⟨z, r, by rw [List.getElem?_eq_getElem hk, h]⟩

theorem freeze_outs (h : Heap) (n d : Nat) : ∀ ls : List (List Int), mapO (freezeV h n (d + 2)) (ls.map outL) = some (ls.map outL)
  | [] => rfl
  | l :: r => by
    rw [List.map_cons, mapO_cons, freeze_outs h n d r, outL, freeze_lint]; rfl
theorem isLL_outs (ls : List (List Int)) (z : Nat) (r : Room) : IsLL (.lst (ls.map outL) z r) ls := ⟨_, z, r, rfl, by simp, fun k xs hx => ⟨_, _, by rw [List.getElem?_map, hx]; rfl⟩⟩
theorem freeze_built_outs {H : Heap} {v : AV} {ls : List (List Int)} {n d : Nat} (B : Built H v (ls.map outL) 1) (ho : ∀ o, objOf v = some o → n ≤ o) : ∃ a, freezeV H n (d + 3) v = some a ∧ IsLL a ls := by
  have hlf : Leaf1 (ls.map outL) := leaf_outs ls (fun x => x)
  rcases B with ⟨rfl, h2⟩ | ⟨o, g, cap, rfl, hob, _⟩
  · have : ls = [] := List.map_eq_nil_iff.1 h2
    subst this
    exact ⟨.lst [] 0 .nil, rfl, [], 0, .nil, rfl, rfl, fun k xs hx => by simp at hx⟩
  · refine ⟨.lst (ls.map outL) 1 .open, ?_, isLL_outs ls 1 .open⟩
    have hn := ho o rfl
    unfold freezeV
    simp only
    rw [if_neg (by omega), hob]
    have hg := group_leaf hlf
    simp only [Option.bind_eq_bind, Option.bind_some, Nat.zero_add, Nat.mul_one, flatC_leaf hlf, List.drop_zero, Nat.le_refl, if_true, List.take_length, freeze_outs, hg]
end
end Go.Proofs.Sx

/-
  package calls: what 'Of' answers.
-/
set_option linter.unusedSimpArgs false
set_option linter.unusedVariables false
set_option maxRecDepth 100000
set_option maxHeartbeats 16000000
namespace Go.Proofs.Sx
open Go.Rv Go.Proofs
attribute [local congr] bind_left got_left
noncomputable section

def csP (p : SProg) : List (List Int) := p.funs.map calleesOf
def selfR (p : SProg) : Prop := ∃ k : Nat, k < p.funs.length ∧ (k : Int) ∈ reachOf (csP p) p.funs.length (k : Int)
abbrev nils : List AV := [.lst [] 0 .nil, .lst [] 0 .nil, .lst [] 0 .nil, .lst [] 0 .nil, .lst [] 0 .nil]
/-- What calls.Of answers. -/
def OfAns (p : SProg) (v : AV) : Prop :=
  (mayP p = false ∧ v = .tup [.agg nils, .int .i64 4]) ∨ (mayP p = true ∧ selfR p ∧ v = .tup [.agg nils, .int .i64 67]) ∨
  (mayP p = true ∧ ¬ selfR p ∧ ∃ a0 a1 a2 a3 z r, v = .tup [.agg [a0, a1, a2, a3, .lst (intL (rowGo (csP p) p.funs.length p.funs.length [])) z r], .int .i64 0] ∧
    IsLL a0 (csP p) ∧ IsLL a1 (turnedL (csP p)) ∧ IsLL a2 (reachLs (csP p) p.funs.length) ∧ IsLL a3 (rootsGo p p.funs 0 (turnedL (reachLs (csP p) p.funs.length))))

/-- What is asked of a program that may be. -/
def Fits (p : SProg) : Prop := p.funs.length ≤ 300 ∧ ∀ f ∈ p.funs, f.code.length ≤ 1000000 ∧ ∀ i ∈ f.code, i.op = 10 → 0 ≤ i.n ∧ i.n < p.funs.length

theorem isort_mem {l : List Int} {x : Int} : x ∈ isort l ↔ x ∈ l := (isort_perm l).mem_iff
theorem calleesOf_rng {p : SProg} (hF : Fits p) {f : SFun} (hf : f ∈ p.funs) {j : Int} (hj : j ∈ calleesOf f) : 0 ≤ j ∧ j < (p.funs.length : Int) := by
  have := isort_mem.1 hj
  exact calleeKeys_wf (P := fun j => 0 ≤ j ∧ j < (p.funs.length : Int)) f.code [] (fun i hi ho => (hF.2 f hf).2 i hi ho) (fun k hk => by simp at hk) j this
theorem calleeKeys_nodup : ∀ (l : List SIns) (ks : List Int), ks.Nodup → (calleeKeys l ks).Nodup
  | [], ks, h => h
  | i :: r, ks, h => by
    have e : calleeKeys (i :: r) ks = calleeKeys r (if i.op == 10 then addKey ks i.n else ks) := rfl
    rw [e]
    refine calleeKeys_nodup r _ ?_
    split
    · unfold addKey
      split
      · exact h
      · rename_i hn
        rw [List.nodup_append]
        refine ⟨h, by simp, fun a ha b hb => ?_⟩
        rw [List.mem_singleton.1 hb]; intro e; exact hn (e ▸ ha)
    · exact h
theorem calleesOf_nodup (f : SFun) : (calleesOf f).Nodup := (isort_perm _).nodup_iff.2 (calleeKeys_nodup f.code [] (by simp))
theorem calleesOf_len {p : SProg} (hF : Fits p) {f : SFun} (hf : f ∈ p.funs) : (calleesOf f).length ≤ p.funs.length :=
  nodup_len (calleesOf_nodup f) fun x hx => calleesOf_rng hF hf hx
theorem csP_rng {p : SProg} (hF : Fits p) (k j : Int) (hj : j ∈ csOf (csP p) k) : 0 ≤ j ∧ j < (p.funs.length : Int) := by
  rw [csOf, csP, List.getD_eq_getElem?_getD, List.getElem?_map] at hj
  cases hg : p.funs[k.toNat]? with
  | none => rw [hg] at hj; simp at hj
  | some f => rw [hg] at hj; exact calleesOf_rng hF (List.mem_of_getElem? hg) hj
theorem csP_len {p : SProg} (hF : Fits p) : ∀ l ∈ csP p, l.length ≤ 1000 := fun l hl => by
  obtain ⟨f, hf, rfl⟩ := List.mem_map.1 hl
  have := calleesOf_len hF hf
  have := hF.1
  omega
theorem reachLs_rng {CS : List (List Int)} {N : Nat} : ∀ l ∈ reachLs CS N, (∀ j ∈ l, 0 ≤ j ∧ j < (N : Int)) ∧ l.length ≤ N := fun l hl => by
  obtain ⟨k, _, rfl⟩ := List.mem_map.1 hl
  have h : ∀ j ∈ reachOf CS N (k : Int), 0 ≤ j ∧ j < (N : Int) := fun j hj => by
    obtain ⟨y, hy, rfl⟩ := List.mem_map.1 (List.mem_filter.1 hj).1
    have := List.mem_range.1 hy
    constructor
    · exact Int.natCast_nonneg y
    · show ((y : Nat) : Int) < N
      omega
  exact ⟨h, nodup_len (reachOf_nodup CS N k) h⟩

theorem rootsGo_len (p : SProg) : ∀ (fs : List SFun) (i : Nat) (ls : List (List Int)), (rootsGo p fs i ls).length = ls.length
  | [], i, ls => rfl
  | f :: r, i, ls => by rw [rootsGo, rootsGo_len p r]; simp
theorem freeze_calls (H : Heap) (n : Nat) {v0 v1 v2 v3 v4 a0 a1 a2 a3 a4 : AV} (h0 : freezeV H n 38 v0 = some a0) (h1 : freezeV H n 38 v1 = some a1) (h2 : freezeV H n 38 v2 = some a2) (h3 : freezeV H n 38 v3 = some a3) (h4 : freezeV H n 38 v4 = some a4) :
    freezeV H n 40 (.tup [.agg [v0, v1, v2, v3, v4], .int .i64 0]) = some (.tup [.agg [a0, a1, a2, a3, a4], .int .i64 0]) := by
  show freezeV H n (38 + 1 + 1) _ = _
  simp only [freeze_tup, freeze_aggv, mapO_cons, mapO_nil, h0, h1, h2, h3, h4, Option.bind_some, Option.map_some]
  rfl

theorem of_eq (p : SProg) (h : Heap) (hp : p.wf) (hF : mayP p = true → Fits p) : ∃ v, call cfg 7 [.agg p.cells] h = some (.ret v, h) ∧ OfAns p v := by
  have hmay : ∀ H, call cfg 14 [.agg p.cells] H = some (.ret (.bool (mayP p)), H) := fun H => may_eq p H hp
  cases hm : mayP p with
  | false =>
    refine ⟨_, ?_, .inl ⟨hm, rfl⟩⟩
    rw [hm] at hmay
    simp only [SProg.cells] at hmay
    rw [call7]
    simp only [SProg.cells, k7, Tryz.f7, regEnd_nrm (lv7 _), pu7, x7_0, a7_0, im7_1, x7_1, a7_1, x7_2, a7_2, x7_3, a7_3, x7_4, a7_4, x7_5, a7_5, x7_6, a7_6, x7_7, a7_7, im7_24, x7_8, a7_8, x7_9, a7_9, x7_10, a7_10, x7_11, a7_11, x7_12, a7_12, x7_13, a7_13, im7_43, x7_14, a7_14, x7_15, a7_15, x7_16, a7_16, x7_17, a7_17, x7_18, a7_18, x7_19, a7_19, x7_20, a7_20, x7_21, a7_21, x7_22, a7_22, x7_23, a7_23, im7_86, x7_24, a7_24, x7_25, a7_25, x7_26, a7_26, sxAll, arithA, Nat.reduceEqDiff, Env.keep, qt_eq, isAlloc, resultsA, packA, storeA, indexAddrA, fieldA, indexA, unA, fieldAddrA, loadA, Rv.part, cellsAt, TD.isAgg, convH, convA, buildA, fillA, setCells, copies, lenA, optA, boundA, mapO, ↓Option.bind_some, ↓Option.bind_none, Nat.reduceBEq, Nat.reduceAdd, Nat.reduceMul, Nat.reduceLeDiff, Nat.reduceSub, Nat.reduceLT, Nat.reduceGT, Int.reduceBEq, Int.reduceLT, Int.reduceLE, bne, ↓reduceIte, ty26, ty31, hmay, pu14]
    exact leave_pure rfl (by simp) rfl
  | true =>
    have F := hF hm
    obtain ⟨N, hN⟩ : ∃ N, N = p.funs.length := ⟨_, rfl⟩
    obtain ⟨CS, hCS⟩ : ∃ CS, CS = csP p := ⟨_, rfl⟩
    have hCN : CS.length = N := by rw [hCS, hN, csP, List.length_map]
    have hNb : N ≤ 300 := by rw [hN]; exact F.1
    have hrng : ∀ k j, j ∈ csOf CS k → 0 ≤ j ∧ j < (N : Int) := by rw [hCS, hN]; exact csP_rng F
    have hlen : ∀ l ∈ CS, l.length ≤ 1000 := by rw [hCS]; exact csP_len F
    have hrngl : ∀ l ∈ CS, ∀ j ∈ l, 0 ≤ j ∧ j < (N : Int) := by
      rw [hCS, hN]; intro l hl j hj
      obtain ⟨f, hf, rfl⟩ := List.mem_map.1 hl
      exact calleesOf_rng F hf hj
    have hmapC : (p.funs.map fun f => outL (calleesOf f)) = CS.map outL := by rw [hCS, csP, List.map_map]; rfl
    rw [hm] at hmay
    -- the two objects
    obtain ⟨H0, hH0⟩ : ∃ H0 : Heap, H0 = h ++ [.cells nils 0, .cells nils 0] := ⟨_, rfl⟩
    have hq00 : H0.obj h.length 0 = some nils := by rw [hH0]; simp [Heap.obj]
    have hq10 : H0.obj (h.length + 1) 0 = some nils := by rw [hH0]; simp [Heap.obj]
    have hH0l : H0.length = h.length + 2 := by rw [hH0]; simp
    have hH0t : ∀ o, o < h.length → H0[o]? = h[o]? := fun o ho => by rw [hH0, List.getElem?_append_left ho]
    -- callees
    have O0 : Ph (h.length + 1) H0 H0 [.lst [] 0 .nil, .lst [] 0 .nil, .lst [] 0 .nil, .lst [] 0 .nil, .lst [] 0 .nil] 0 (.lst [] 0 .nil) ((p.funs.take 0).map fun f => outL (calleesOf f)) :=
      ⟨fun _ _ _ => rfl, Nat.le_refl _, hq10, rfl, .inl ⟨rfl, by simp⟩, fun o ho => (by cases ho), by omega⟩
    obtain ⟨⟨o1, e1, H1⟩, hx1, ho1, ⟨a6, a16, a17, he1⟩, v0, O1⟩ := of_loop0 p (by omega) F.2 H0 h.length (h.length + 1) p.funs 0 (by simp) (by omega) H0 _ O0 (.agg p.cells) (.int .i64 0) .junk .junk .junk (.bool false) .junk .junk .junk .junk .junk .junk .junk .junk .junk
    simp only [Int.natCast_zero] at hx1 ho1 he1 O1
    subst ho1 he1
    rw [hmapC] at O1
    have hlf : Leaf1 (CS.map outL) := leaf_outs CS (fun x => x)
    have hb0 : ∀ H', Same (h.length + 1) H1 H' → Built H' v0 (CS.map outL) 1 := fun H' S => built_same O1.b (fun o ho => by have := O1.own o ho; omega) S
    have hrd0 : ∀ H', H'.take H1.length = H1 → Rd cfg H' 28 29 v0 (CS.map outL) := fun H' ht => rd_leaf ty28 rfl ty29 rfl rfl (hb0 H' (same_take ht)) hlf
    have hkv0 := known_built O1.b
    have hcv0 := built_cells O1.b
    have hlv0 := built_leaf O1.b
    have hl1 := O1.le
    have hq01 : H1.obj h.length 0 = some nils := obj_keep hq00 (O1.same _ (by omega) (by omega))
    -- turned
    obtain ⟨H2, c1, ht1, L1⟩ := turned_eq CS N hCN H1 v0 hrd0 hNb hrngl hlen
    have hq12 : H2.obj (h.length + 1) 0 = some [v0, .lst [] 0 .nil, .lst [] 0 .nil, .lst [] 0 .nil, .lst [] 0 .nil] := obj_keep O1.cell (same_take (q := H2.length) L1.old _ (by omega) (by have := L1.le; omega))
    obtain ⟨v1, hv1⟩ : ∃ v1, v1 = AV.msl H1.length 0 N 1 0 (some N) := ⟨_, rfl⟩
    rw [← hv1] at ht1
    have hkv1 : known v1 = some v1 := by rw [hv1]; rfl
    have hcv1 : v1.cells = [v1] := by rw [hv1]; rfl
    have hlv1 : v1.leaf = true := by rw [hv1]; rfl
    obtain ⟨H3, hH3⟩ : ∃ H3 : Heap, H3 = H2.set (h.length + 1) (.cells [v0, v1, .lst [] 0 .nil, .lst [] 0 .nil, .lst [] 0 .nil] 0) := ⟨_, rfl⟩
    have hH2l := L1.le
    have hH3l : H3.length = H2.length := by rw [hH3]; simp
    have hq13 : H3.obj (h.length + 1) 0 = some [v0, v1, .lst [] 0 .nil, .lst [] 0 .nil, .lst [] 0 .nil] := by rw [hH3]; simp [Heap.obj, List.getElem?_set_self (obj_some hq12)]
    have hS13 : Same (h.length + 1) H1 H3 := fun o ho hq => by
      rw [hH3, List.getElem?_set_ne (Ne.symm hq)]
      exact same_take (q := h.length + 1) L1.old o ho hq
    have hq03 : H3.obj h.length 0 = some nils := obj_keep hq01 (hS13 _ (by omega) (by omega))
    have hb3 : ∀ H', Same (h.length + 1) H3 H' → Built H' v0 (CS.map outL) 1 := fun H' S => hb0 H' (hS13.trans (by omega) S)
    -- what is come to
    have O3 : Ph (h.length + 1) H3 H3 [v0, v1, .lst [] 0 .nil, .lst [] 0 .nil, .lst [] 0 .nil] 2 (.lst [] 0 .nil) ((List.range 0).map fun k : Nat => outL (reachOf CS N (k : Int))) :=
      ⟨fun _ _ _ => rfl, Nat.le_refl _, hq13, rfl, .inl ⟨rfl, by simp⟩, fun o ho => (by cases ho), by omega⟩
    obtain ⟨⟨o4, e4, H4⟩, hx4, hq4⟩ := of_loop1 p CS N hCN hN.symm hNb hrng hlen H3 h.length (h.length + 1) v0 v1 hkv1 hb3 hq03 (by omega) N 0 (by omega) H3 _ O3 (fun k hk => by omega) (.agg p.cells) (.int .i64 0) a6 .junk .junk (.bool false) (.lst (funsL p.funs) p.fz p.froom) (.int .i64 N) a16 a17 .junk .junk .junk .junk .junk .junk
    simp only [Int.natCast_zero] at hx4 hq4
    have hH3o : ∀ o, o < h.length → H3[o]? = h[o]? := fun o ho => by
      rw [hS13 o (by omega) (by omega), O1.same o (by omega) (by omega), hH0t o ho]
    rw [hH0] at hx1
    rw [hH3] at hx4
    simp only [SProg.cells, nils] at hmay hx1 hx4 hq01 hq03
    simp only [← hN] at hx1
    have hlq12 := live_of hq12
    have hlq11 := live_of O1.cell
    have hc11 := O1.cell
    have hc13 := hq13
    rw [hH3] at hc13
    have hlq13 := live_of hc13
    have hlen0 : lenA (h ++ [AObj.cells [.lst [] 0 .nil, .lst [] 0 .nil, .lst [] 0 .nil, .lst [] 0 .nil, .lst [] 0 .nil] 0, AObj.cells [.lst [] 0 .nil, .lst [] 0 .nil, .lst [] 0 .nil, .lst [] 0 .nil, .lst [] 0 .nil] 0]) (.slice 38) (.lst (funsL p.funs) p.fz p.froom) = some N := by rw [lenA_lst, funsL_len, hN]
    rcases hq4 with ⟨ho4, ⟨b7, b35, b36, b52, he4⟩, hno, v2, O4⟩ | ⟨ho4, hg2, hg3, ⟨k, hk1, hk2⟩, hobj4, hold4⟩
    · subst ho4 he4
      -- turned, of what is come to
      obtain ⟨RS, hRS⟩ : ∃ RS, RS = reachLs CS N := ⟨_, rfl⟩
      rw [← hRS] at O4
      have hRN : RS.length = N := by rw [hRS, reachLs, List.length_map, List.length_range]
      have hRr : ∀ l ∈ RS, ∀ j ∈ l, 0 ≤ j ∧ j < (N : Int) := by rw [hRS]; exact fun l hl => (reachLs_rng l hl).1
      have hRl : ∀ l ∈ RS, l.length ≤ 1000 := by rw [hRS]; intro l hl; have := (reachLs_rng l hl).2; omega
      have hb2 : ∀ H', Same (h.length + 1) H4 H' → Built H' v2 (RS.map outL) 1 := fun H' S => built_same O4.b (fun o ho => by have := O4.own o ho; omega) S
      have hrd2 : ∀ H', H'.take H4.length = H4 → Rd cfg H' 28 29 v2 (RS.map outL) := fun H' ht => rd_leaf ty28 rfl ty29 rfl rfl (hb2 H' (same_take ht)) (leaf_outs RS (fun x => x))
      have hkv2 := known_built O4.b
      have hcv2 := built_cells O4.b
      have hlv2 := built_leaf O4.b
      have hl4 := O4.le
      obtain ⟨H5, c5, ht5, L5⟩ := turned_eq RS N hRN H4 v2 hrd2 hNb hRr hRl
      have hH5l := L5.le
      have hq15 : H5.obj (h.length + 1) 0 = some [v0, v1, v2, .lst [] 0 .nil, .lst [] 0 .nil] := obj_keep O4.cell (same_take (q := H5.length) L5.old _ (by omega) (by omega))
      obtain ⟨m, hmm⟩ : ∃ m, m = H4.length := ⟨_, rfl⟩
      obtain ⟨v3, hv3⟩ : ∃ v3, v3 = AV.msl m 0 N 1 0 (some N) := ⟨_, rfl⟩
      rw [← hmm, ← hv3] at ht5
      have hkv3 : known v3 = some v3 := by rw [hv3]; rfl
      have hcv3 : v3.cells = [v3] := by rw [hv3]; rfl
      have hlv3 : v3.leaf = true := by rw [hv3]; rfl
      have V0 := L5.vv (q := h.length + 1) (by omega) (.cells [v0, v1, v2, v3, .lst [] 0 .nil] 0)
      obtain ⟨Hb, hHb⟩ : ∃ Hb : Heap, Hb = H4.set (h.length + 1) (.cells [v0, v1, v2, v3, .lst [] 0 .nil] 0) := ⟨_, rfl⟩
      have hbl : Hb.length = m := by rw [hHb, List.length_set, hmm]
      have hqb : Hb.obj (h.length + 1) 0 = some [v0, v1, v2, .msl Hb.length 0 N 1 0 (some N), .lst [] 0 .nil] := by
        rw [hbl, ← hv3, hHb]; simp [Heap.obj, List.getElem?_set_self (obj_some O4.cell)]
      rw [← hHb] at V0
      have hbig : ∀ k xs, 0 ≤ k → (turnedL RS)[k]? = some xs → xs.length < 1000000 ∧ ∀ j ∈ xs, 0 ≤ j ∧ j < (N : Int) := fun k xs _ hx => by
        have hm' := List.mem_of_getElem? hx
        have h1 := turnedL_bound RS hRl hm'
        rw [hRN] at h1
        refine ⟨by omega, fun j hj => ?_⟩
        have := turnedL_mem RS hm' hj
        rwa [hRN] at this
      obtain ⟨⟨o7, e7, H7⟩, hx7, ho7, ⟨b8, b62, b63, b81, he7⟩, c7, V7⟩ := of_loop2 p N hN.symm hNb Hb h.length (h.length + 1) [] v0 v1 v2 (.lst [] 0 .nil) hqb p.funs 0 (by simp) (by omega) _ c5 (turnedL RS) V0 (by rw [turnedL_len, hRN]) hbig (.agg p.cells) (.int .i64 0) a6 b7 .junk (.bool false) (.lst (funsL p.funs) p.fz p.froom) (.int .i64 N) a16 a17 (.int .i64 N) b35 b36 b52 .junk .junk
      simp only [Int.natCast_zero] at hx7 ho7 he7 V7
      subst ho7 he7
      have hl7 := V7.le
      have hq17 : H7.obj (h.length + 1) 0 = some [v0, v1, v2, v3, .lst [] 0 .nil] := by
        rw [hv3, ← hbl]
        exact obj_keep hqb (same_take (q := H7.length) V7.old _ (by omega) (by omega))
      -- what stands at the end
      have hSA : ∀ o, o < h.length ∨ h.length + 2 ≤ o → o < m → H7[o]? = H4[o]? := fun o ho hlt => by
        rw [same_take (q := H7.length) V7.old o (by omega) (by omega), hHb, List.getElem?_set_ne (by omega)]
      have hS34 : ∀ o, o < H3.length → o ≠ h.length + 1 → H4[o]? = H3[o]? := O4.same
      have hq07 : H7.obj h.length 0 = some nils := by
        refine obj_keep (obj_keep hq03 (hS34 _ (by omega) (by omega))) ?_
        rw [same_take (q := H7.length) V7.old _ (by omega) (by omega), hHb, List.getElem?_set_ne (by omega)]
      have hB7 : ∀ H', Same (h.length + 1) H7 H' → Same (h.length + 1) H1 H' := fun H' S o ho hq => by
        rw [S o (by omega) hq]
        rw [same_take (q := H7.length) V7.old _ (by omega) (by omega), hHb, List.getElem?_set_ne (Ne.symm hq), hS34 o (by omega) hq, hS13 o ho hq]
      have hrd7 : ∀ H', H'.take H7.length = H7 → Rd cfg H' 28 29 v0 (CS.map outL) := fun H' ht => rd_leaf ty28 rfl ty29 rfl rfl (hb0 H' (hB7 H' (same_take ht))) hlf
      obtain ⟨z4, r4, hrow⟩ := row_eq CS N hCN H7 v0 [v1, v2, v3, .lst [] 0 .nil] hrd7 (by omega) hlen rfl (fun out => out.Nodup ∧ ∀ x ∈ out, 0 ≤ x ∧ x < (N : Int)) ⟨by simp, by simp⟩ (fun out hg hl => by
        obtain ⟨n, h1, h2, h3⟩ := pickN_some CS out (List.range N) (pick_ex CS N hrng hno out hl)
        refine ⟨n, h1, ?_, ?_⟩
        · rw [List.nodup_append]
          refine ⟨hg.1, by simp, fun a ha b hb => ?_⟩
          rw [List.mem_singleton.1 hb]; intro e; subst e
          simp [ready, ha] at h3
        · intro x hx
          rcases List.mem_append.1 hx with hx | hx
          · exact hg.2 x hx
          · rw [List.mem_singleton.1 hx]
            have := List.mem_range.1 h2
            omega)
      obtain ⟨ro, hro⟩ : ∃ ro, ro = rowGo CS N N [] := ⟨_, rfl⟩
      rw [← hro] at hrow
      obtain ⟨v4, hv4⟩ : ∃ v4, v4 = AV.lst (intL ro) z4 r4 := ⟨_, rfl⟩
      rw [← hv4] at hrow
      have hkv4 : known v4 = some v4 := by rw [hv4]; rfl
      have hcv4 : v4.cells = [v4] := by rw [hv4]; rfl
      have hlv4 : v4.leaf = true := by rw [hv4]; rfl
      obtain ⟨H8, hH8⟩ : ∃ H8 : Heap, H8 = H7.set (h.length + 1) (.cells [v0, v1, v2, v3, v4] 0) := ⟨_, rfl⟩
      obtain ⟨H9, hH9⟩ : ∃ H9 : Heap, H9 = H8.set h.length (.cells [v0, v1, v2, v3, v4] 0) := ⟨_, rfl⟩
      have hq18 : H8.obj (h.length + 1) 0 = some [v0, v1, v2, v3, v4] := by rw [hH8]; simp [Heap.obj, List.getElem?_set_self (obj_some hq17)]
      have hq08 : H8.obj h.length 0 = some nils := by rw [hH8]; exact obj_keep hq07 (by rw [List.getElem?_set_ne (by omega)])
      have hq09 : H9.obj h.length 0 = some [v0, v1, v2, v3, v4] := by rw [hH9]; simp [Heap.obj, List.getElem?_set_self (obj_some hq08)]
      -- the walk
      have key : call cfg 7 [.agg p.cells] h = leaveA cfg 7 h (.tup [.agg [v0, v1, v2, v3, v4], .int .i64 0]) H9 := by
        have hlq14 := live_of O4.cell
        have hc14 := O4.cell
        have hlq15 := live_of hq15
        have hc56 : Heap.obj (H5.set (h.length + 1) (.cells [v0, v1, v2, v3, .lst [] 0 .nil] 0)) (h.length + 1) 0 = some [v0, v1, v2, v3, .lst [] 0 .nil] := by simp [Heap.obj, List.getElem?_set_self (obj_some hq15)]
        have hlq56 := live_of hc56
        have hlen3 : lenA (H5.set (h.length + 1) (.cells [v0, v1, v2, v3, .lst [] 0 .nil] 0)) (.slice 29) v3 = some N := by
          have := live_of V0.cell
          rw [hbl] at this
          rw [hv3]
          rw [hv3] at this
          simp only [lenA, this, if_true]
        have hlq17 := live_of hq17
        rw [hH8] at hq18 hq08 hH9
        have hlq18 := live_of hq18
        have hlq08 := live_of hq08
        rw [hH9] at hq09 ⊢
        simp only [SProg.cells] at hx7
        simp only [nils] at hq08
        rw [call7]
        simp only [SProg.cells, k7, Tryz.f7, regEnd_nrm (lv7 _), pu7, x7_0, a7_0, im7_1, x7_1, a7_1, x7_2, a7_2, x7_3, a7_3, x7_4, a7_4, x7_5, a7_5, x7_6, a7_6, x7_7, a7_7, im7_24, x7_8, a7_8, x7_9, a7_9, x7_10, a7_10, x7_11, a7_11, x7_12, a7_12, x7_13, a7_13, im7_43, x7_14, a7_14, x7_15, a7_15, x7_16, a7_16, x7_17, a7_17, x7_18, a7_18, x7_19, a7_19, x7_20, a7_20, x7_21, a7_21, x7_22, a7_22, x7_23, a7_23, im7_86, x7_24, a7_24, x7_25, a7_25, x7_26, a7_26, sxAll, arithA, Nat.reduceEqDiff, Env.keep, qt_eq, isAlloc, resultsA, packA, storeA, fieldA, indexA, unA, fieldAddrA, Rv.part, cellsAt, TD.isAgg, convH, convA, buildA, fillA, setCells, copies, optA, boundA, mapO, ↓Option.bind_some, ↓Option.bind_none, Nat.reduceBEq, Nat.reduceAdd, Nat.reduceMul, Nat.reduceLeDiff, Nat.reduceSub, Nat.reduceLT, Nat.reduceGT, Int.reduceBEq, Int.reduceLT, Int.reduceLE, bne, ↓reduceIte, load_ptr, load_ref, lenA_lst, funsL_len, ty26, ty38, ty22, ty23, ty24, ty28, ty29, ty31, ← hN, hmay, pu14, hx1, hc11, hlq11, hkv0, hcv0, hlv0, ht1, hkv1, hcv1, hlv1, hq12, hlq12, hx4, hc14, hlq14, ht5, hkv2, hcv2, hlv2, hkv3, hcv3, hlv3, hq15, hlq15, hc56, hlq56, hlen3, hx7, hq17, hlq17, hrow, pu21, hkv4, hcv4, hlv4, hq18, hlq18, hq08, hlq08, hq09]
      -- what is frozen
      have hS9 : ∀ o, h.length + 2 ≤ o → H9[o]? = H7[o]? := fun o ho => by
        rw [hH9, List.getElem?_set_ne (by omega), hH8, List.getElem?_set_ne (by omega)]
      have hS47 : ∀ o, h.length + 2 ≤ o → o < H4.length → H9[o]? = H4[o]? := fun o ho hlt => by
        rw [hS9 o ho, hSA o (.inr ho) (by omega)]
      have hS39 : ∀ o, h.length + 2 ≤ o → o < H3.length → H9[o]? = H3[o]? := fun o ho hlt => by
        rw [hS47 o ho (by omega), hS34 o hlt (by omega)]
      have hS29 : ∀ o, h.length + 2 ≤ o → o < H2.length → H9[o]? = H2[o]? := fun o ho hlt => by
        rw [hS39 o ho (by omega), hH3, List.getElem?_set_ne (by omega)]
      obtain ⟨b0, f0, g0⟩ : ∃ a, freezeV H9 h.length 38 v0 = some a ∧ IsLL a CS :=
        freeze_built_outs (d := 35) (O1.b.other fun o ho => by
          have h1 := O1.own o ho
          have h2 := built_lt O1.b ho
          rw [hS39 o (by omega) (by omega), hS13 o h2 (by omega)]) (fun o ho => by have := O1.own o ho; omega)
      obtain ⟨b1, f1, g1⟩ : ∃ a, freezeV H9 h.length 38 v1 = some a ∧ IsLL a (turnedL CS) := by
        rw [hv1]
        refine freeze_vv (d := 35) (cells := c1) (obj_keep L1.cell (hS29 _ (by omega) (by omega))) L1.len (by rw [turnedL_len, hCN]) (by omega) fun k v xs hv hx => ?_
        refine View.freeze (d := 35) (Built.view ((L1.each k v xs hv hx).other fun o ho => ?_)) (fun o ho => by have := L1.own k v o hv ho; omega)
        have h1 := L1.own k v o hv ho
        have h2 := built_lt (L1.each k v xs hv hx) ho
        exact hS29 o (by omega) h2
      obtain ⟨b2, f2, g2⟩ : ∃ a, freezeV H9 h.length 38 v2 = some a ∧ IsLL a RS :=
        freeze_built_outs (d := 35) (O4.b.other fun o ho => by
          have h1 := O4.own o ho
          have h2 := built_lt O4.b ho
          exact hS47 o (by omega) h2) (fun o ho => by have := O4.own o ho; omega)
      obtain ⟨b3, f3, g3⟩ : ∃ a, freezeV H9 h.length 38 v3 = some a ∧ IsLL a (rootsGo p p.funs 0 (turnedL RS)) := by
        rw [hv3, ← hbl]
        have hrl : (rootsGo p p.funs 0 (turnedL RS)).length = N := by
          rw [rootsGo_len, turnedL_len, hRN]
        refine freeze_vv (d := 35) (cells := c7) (obj_keep V7.cell (hS9 _ (by omega))) V7.len hrl (by omega) fun k v xs hv hx => ?_
        refine View.freeze (d := 35) ((V7.each k v xs hv hx).other fun o ho => ?_) (fun o ho => by have := V7.own k v o hv ho; omega)
        have h1 := V7.own k v o hv ho
        exact hS9 o (by omega)
      have f4 : freezeV H9 h.length 38 v4 = some v4 := by rw [hv4]; exact freeze_lint H9 h.length 36 ro z4 r4
      refine ⟨_, ?_, .inr (.inr ⟨hm, ?_, b0, b1, b2, b3, z4, r4, rfl, ?_, ?_, ?_, ?_⟩)⟩
      · rw [key]
        refine leave_pure rfl ?_ ?_
        · apply List.ext_getElem?
          intro o
          by_cases ho : o < h.length
          · rw [List.getElem?_take_of_lt ho, hH9, List.getElem?_set_ne (by omega), hH8, List.getElem?_set_ne (by omega), hSA o (.inl ho) (by omega), hS34 o (by omega) (by omega), hH3o o ho]
          · rw [List.getElem?_eq_none (by simp; omega), List.getElem?_eq_none (by omega)]
        · rw [freeze_calls H9 h.length f0 f1 f2 f3 f4, hv4, hro, hCS, hN]
      · rintro ⟨k, hk1, hk2⟩
        rw [← hN] at hk1 hk2
        rw [← hCS] at hk2
        exact hno k hk1 hk2
      · rw [← hCS]; exact g0
      · rw [← hCS]; exact g1
      · rw [← hCS, ← hN, ← hRS]; exact g2
      · rw [← hCS, ← hN, ← hRS]; exact g3
    · refine ⟨_, ?_, .inr (.inl ⟨hm, ⟨k, by rw [← hN]; exact hk1, by rw [← hCS, ← hN]; exact hk2⟩, rfl⟩)⟩
      subst ho4
      rw [call7]
      simp only [SProg.cells, k7, Tryz.f7, regEnd_nrm (lv7 _), pu7, x7_0, a7_0, im7_1, x7_1, a7_1, x7_2, a7_2, x7_3, a7_3, x7_4, a7_4, x7_5, a7_5, x7_6, a7_6, x7_7, a7_7, im7_24, x7_8, a7_8, x7_9, a7_9, x7_10, a7_10, x7_11, a7_11, x7_12, a7_12, x7_13, a7_13, im7_43, x7_14, a7_14, x7_15, a7_15, x7_16, a7_16, x7_17, a7_17, x7_18, a7_18, x7_19, a7_19, x7_20, a7_20, x7_21, a7_21, x7_22, a7_22, x7_23, a7_23, im7_86, x7_24, a7_24, x7_25, a7_25, x7_26, a7_26, sxAll, arithA, Nat.reduceEqDiff, Env.keep, qt_eq, isAlloc, resultsA, packA, storeA, fieldA, indexA, unA, fieldAddrA, Rv.part, cellsAt, TD.isAgg, convH, convA, buildA, fillA, setCells, copies, optA, boundA, mapO, ↓Option.bind_some, ↓Option.bind_none, Nat.reduceBEq, Nat.reduceAdd, Nat.reduceMul, Nat.reduceLeDiff, Nat.reduceSub, Nat.reduceLT, Nat.reduceGT, Int.reduceBEq, Int.reduceLT, Int.reduceLE, bne, ↓reduceIte, load_ptr, load_ref, lenA_lst, funsL_len, ty26, ty38, ty22, ty23, ty24, ty28, ty29, ty31, ← hN, hmay, pu14, hx1, hc11, hlq11, hkv0, hcv0, hlv0, ht1, hkv1, hcv1, hlv1, hq12, hlq12, hx4, hg2, hg3, hobj4]
      exact leave_pure rfl (by
        apply List.ext_getElem?
        intro o
        by_cases ho : o < h.length
        · rw [List.getElem?_take_of_lt ho, hold4 o ho, hH3o o ho]
        · rw [List.getElem?_eq_none (by simp; omega), List.getElem?_eq_none (by omega)]) rfl
end
end Go.Proofs.Sx

/-
  A program that may be is small.
-/
set_option linter.unusedSimpArgs false
set_option linter.unusedVariables false
namespace Go.Proofs.Sx
open Go.Rv Go.Proofs
noncomputable section
theorem mayIns_call {p : SProg} {f : SFun} {i : SIns} (h : mayInsB p f i = true) (ho : i.op = 10) : 0 ≤ i.n ∧ i.n < p.funs.length ∧ thrB p i.n = false := by
  unfold mayInsB at h
  rw [Bool.and_eq_true, Bool.and_eq_true] at h
  have h1 := h.1.2
  rw [ho] at h1
  have h2 : (decide (0 ≤ i.n) && (match p.funs[i.n.toNat]? with
    | some g => !g.thread && decide ((i.args.length : Int) = g.params)
    | none => false)) = true := h1
  rw [Bool.and_eq_true, decide_eq_true_eq] at h2
  obtain ⟨h2, h3⟩ := h2
  cases hg : p.funs[i.n.toNat]? with
  | none => rw [hg] at h3; cases h3
  | some g =>
    rw [hg] at h3
    have := (List.getElem?_eq_some_iff.1 hg).1
    simp only [Bool.and_eq_true, Bool.not_eq_true'] at h3
    exact ⟨h2, by omega, by simp only [thrB, hg, h3.1]⟩
theorem mayFun_code {p : SProg} {f : SFun} (h : mayFunB p f = true) : f.code.length ≤ 16384 ∧ ∀ i ∈ f.code, mayInsB p f i = true := by
  unfold mayFunB at h
  simp only [Bool.and_eq_true, Bool.not_eq_true', decide_eq_false_iff_not, List.all_eq_true] at h
  obtain ⟨_, _, _, _, _, _, h7, _, h9⟩ := h
  exact ⟨by omega, h9⟩
theorem may_funs {p : SProg} (h : mayP p = true) : p.funs.length ≤ 256 ∧ ∀ f ∈ p.funs, mayFunB p f = true := by
  unfold mayP at h
  simp only [Bool.and_eq_true, List.all_eq_true] at h
  obtain ⟨h1, _, _, h4⟩ := h
  refine ⟨?_, h4⟩
  unfold namedB at h1
  simp only [Bool.and_eq_true, decide_eq_true_eq] at h1
  have := h1.1
  simp only [namesOf, List.length_append, List.length_map] at this
  omega
theorem fits_may {p : SProg} (h : mayP p = true) : Fits p := by
  obtain ⟨h1, h2⟩ := may_funs h
  refine ⟨by omega, fun f hf => ?_⟩
  obtain ⟨h3, h4⟩ := mayFun_code (h2 f hf)
  exact ⟨by omega, fun i hi ho => by have := mayIns_call (h4 i hi) ho; exact ⟨this.1, this.2.1⟩⟩
theorem callsOf_eq (p : SProg) (h : Heap) (hp : p.wf) : ∃ v, call cfg 7 [.agg p.cells] h = some (.ret v, h) ∧ OfAns p v := of_eq p h hp fits_may
end
end Go.Proofs.Sx

/-
  The plain law of calls: who is among whose callers, roots, callees.
-/
set_option linter.unusedSimpArgs false
set_option linter.unusedVariables false
namespace Go.Proofs.Sx
open Go.Rv Go.Proofs
noncomputable section

theorem getD_set_self {ls : List (List Int)} {k : Nat} (hk : k < ls.length) (v : List Int) : (ls.set k v).getD k [] = v := by
  rw [List.getD_eq_getElem?_getD, List.getElem?_set_self hk]; rfl
theorem getD_set_ne {ls : List (List Int)} {k b : Nat} (h : k ≠ b) (v : List Int) : (ls.set k v).getD b [] = ls.getD b [] := by
  rw [List.getD_eq_getElem?_getD, List.getElem?_set_ne h, List.getD_eq_getElem?_getD]

theorem addTo_get (n : Int) (b : Nat) (j : Int) : ∀ (x : List Int) (ls : List (List Int)), (∀ k ∈ x, 0 ≤ k) → b < ls.length → (j ∈ (addTo ls n x).getD b [] ↔ j ∈ ls.getD b [] ∨ (j = n ∧ (b : Int) ∈ x))
  | [], ls, _, hb => by simp [addTo]
  | k :: r, ls, hx, hb => by
    have hk := hx k (List.mem_cons_self ..)
    rw [addTo, addTo_get n b j r _ (fun y hy => hx y (List.mem_cons_of_mem _ hy)) (by simpa using hb)]
    by_cases he : k.toNat = b
    · subst he
      rw [getD_set_self hb]
      have e1 : ((k.toNat : Nat) : Int) = k := by omega
      rw [e1]
      constructor
      · rintro (h | ⟨h1, h2⟩)
        · rcases List.mem_append.1 h with h | h
          · exact .inl h
          · exact .inr ⟨List.mem_singleton.1 h, List.mem_cons_self ..⟩
        · exact .inr ⟨h1, List.mem_cons_of_mem _ h2⟩
      · rintro (h | ⟨h1, h2⟩)
        · exact .inl (List.mem_append_left _ h)
        · exact .inl (List.mem_append_right _ (List.mem_singleton.2 h1))
    · rw [getD_set_ne he]
      constructor
      · rintro (h | ⟨h1, h2⟩)
        · exact .inl h
        · exact .inr ⟨h1, List.mem_cons_of_mem _ h2⟩
      · rintro (h | ⟨h1, h2⟩)
        · exact .inl h
        · rcases List.mem_cons.1 h2 with h2 | h2
          · exact absurd (by rw [← h2]; simp) he
          · exact .inr ⟨h1, h2⟩
theorem turnGo_get (b : Nat) (j : Int) : ∀ (CS : List (List Int)) (i : Nat) (ls : List (List Int)), (∀ x ∈ CS, ∀ k ∈ x, 0 ≤ k) → b < ls.length → (j ∈ (turnGo CS i ls).getD b [] ↔ j ∈ ls.getD b [] ∨ ∃ (m : Nat) (x : List Int), CS[m]? = some x ∧ j = ((i + m : Nat) : Int) ∧ (b : Int) ∈ x)
  | [], i, ls, _, hb => by simp [turnGo]
  | x :: r, i, ls, hx, hb => by
    rw [turnGo, turnGo_get b j r (i + 1) _ (fun y hy => hx y (List.mem_cons_of_mem _ hy)) (by rw [addTo_len]; exact hb), addTo_get (i : Int) b j x ls (hx x (List.mem_cons_self ..)) hb]
    constructor
    · rintro ((h | ⟨h1, h2⟩) | ⟨m, y, h1, h2, h3⟩)
      · exact .inl h
      · exact .inr ⟨0, x, rfl, h1, h2⟩
      · exact .inr ⟨m + 1, y, by simpa using h1, by rw [h2]; omega, h3⟩
    · rintro (h | ⟨m, y, h1, h2, h3⟩)
      · exact .inl (.inl h)
      · cases m with
        | zero =>
          simp at h1; subst h1
          exact .inl (.inr ⟨h2, h3⟩)
        | succ m => exact .inr ⟨m, y, by simpa using h1, by rw [h2]; omega, h3⟩
theorem turnedL_get (CS : List (List Int)) (hx : ∀ x ∈ CS, ∀ k ∈ x, 0 ≤ k) {b : Nat} (hb : b < CS.length) (j : Int) : j ∈ (turnedL CS).getD b [] ↔ ∃ (m : Nat) (x : List Int), CS[m]? = some x ∧ j = (m : Int) ∧ (b : Int) ∈ x := by
  rw [turnedL, turnGo_get b j CS 0 _ hx (by simpa using hb)]
  have h0 : (List.replicate CS.length ([] : List Int)).getD b [] = [] := by
    rw [List.getD_eq_getElem?_getD, List.getElem?_replicate]; split <;> rfl
  rw [h0]
  constructor
  · rintro (h | ⟨m, x, h1, h2, h3⟩)
    · simp at h
    · exact ⟨m, x, h1, by simpa using h2, h3⟩
  · rintro ⟨m, x, h1, h2, h3⟩
    exact .inr ⟨m, x, h1, by simpa using h2, h3⟩

theorem rootsGo_low (p : SProg) : ∀ (fs : List SFun) (i : Nat) (ls : List (List Int)) (a : Nat), a < i → (rootsGo p fs i ls).getD a [] = ls.getD a []
  | [], i, ls, a, _ => rfl
  | f :: r, i, ls, a, h => by rw [rootsGo, rootsGo_low p r (i + 1) _ a (by omega), getD_set_ne (by omega)]
theorem rootsGo_get (p : SProg) : ∀ (fs : List SFun) (i : Nat) (ls : List (List Int)) (a : Nat) (f : SFun), fs[a]? = some f → i + fs.length ≤ ls.length → (rootsGo p fs i ls).getD (i + a) [] = if f.thread then [((i + a : Nat) : Int)] else (ls.getD (i + a) []).filter (thrB p)
  | [], i, ls, a, f, h, _ => by simp at h
  | g :: r, i, ls, a, f, h, hl => by
    rw [rootsGo]
    simp only [List.length_cons] at hl
    cases a with
    | zero =>
      simp at h; subst h
      show (rootsGo p r (i + 1) (ls.set i (if g.thread then [(i : Int)] else (ls.getD i []).filter (thrB p)))).getD i [] = if g.thread then [(i : Int)] else (ls.getD i []).filter (thrB p)
      rw [rootsGo_low p r (i + 1) _ i (by omega), getD_set_self (by omega)]
    | succ a =>
      have := rootsGo_get p r (i + 1) (ls.set i (if g.thread then [(i : Int)] else (ls.getD i []).filter (thrB p))) a f (by simpa using h) (by simp; omega)
      rw [show i + (a + 1) = i + 1 + a from by omega, this, getD_set_ne (by omega)]

theorem rowGo_len (CS : List (List Int)) (N : Nat) (Good : List Int → Prop) (hp : ∀ out, Good out → out.length < N → ∃ n, pickN CS out (List.range N) = some n ∧ Good (out ++ [(n : Int)])) : ∀ (d : Nat) (out : List Int), Good out → out.length + d ≤ N → (rowGo CS N d out).length = out.length + d
  | 0, out, _, _ => rfl
  | d + 1, out, hg, hl => by
    obtain ⟨n, h1, h2⟩ := hp out hg (by omega)
    rw [rowGo, h1]
    simp only
    rw [rowGo_len CS N Good hp d _ h2 (by simp; omega)]
    simp; omega
theorem row_len (CS : List (List Int)) (N : Nat) (hrng : ∀ k j, j ∈ csOf CS k → 0 ≤ j ∧ j < (N : Int)) (hno : ∀ k : Nat, k < N → (k : Int) ∉ reachOf CS N (k : Int)) : (rowGo CS N N []).length = N := by
  have := rowGo_len CS N (fun out => True) (fun out _ hl => by
    obtain ⟨n, h1, h2, h3⟩ := pickN_some CS out (List.range N) (pick_ex CS N hrng hno out hl)
    exact ⟨n, h1, trivial⟩) N [] trivial (by simp)
  simpa using this

theorem csOf_get (p : SProg) (a : Nat) : csOf (csP p) (a : Int) = (csP p).getD a [] := by rw [csOf, Int.toNat_natCast]
theorem csP_nonneg {p : SProg} (F : Fits p) : ∀ x ∈ csP p, ∀ k ∈ x, 0 ≤ k := fun x hx k hk => by
  obtain ⟨f, hf, rfl⟩ := List.mem_map.1 hx
  exact (calleesOf_rng F hf hk).1
theorem back_callers {p : SProg} (F : Fits p) {a b : Nat} (ha : a < p.funs.length) (hb : b < p.funs.length) : (a : Int) ∈ (turnedL (csP p)).getD b [] ↔ (b : Int) ∈ (csP p).getD a [] := by
  have hl : (csP p).length = p.funs.length := by rw [csP, List.length_map]
  rw [turnedL_get (csP p) (csP_nonneg F) (by omega)]
  constructor
  · rintro ⟨m, x, h1, h2, h3⟩
    have : m = a := by omega
    subst this
    rw [List.getD_eq_getElem?_getD, h1]; exact h3
  · intro h
    refine ⟨a, (csP p).getD a [], ?_, rfl, h⟩
    rw [List.getD_eq_getElem?_getD, List.getElem?_eq_getElem (by omega)]; rfl
theorem reachLs_get (CS : List (List Int)) (N : Nat) {a : Nat} (ha : a < N) : (reachLs CS N).getD a [] = reachOf CS N (a : Int) := by
  rw [reachLs, List.getD_eq_getElem?_getD, List.getElem?_map, List.getElem?_range ha]; rfl
theorem back_reach {p : SProg} (F : Fits p) {a b : Nat} (h : (b : Int) ∈ (csP p).getD a []) : (b : Int) ∈ reachOf (csP p) p.funs.length (a : Int) :=
  (reachOf_mem _ _ _ _ (csP_rng F)).2 (.one (by rw [csOf_get]; exact h))
/-- Nobody calls a Thread. -/
theorem csP_thr {p : SProg} (hm : mayP p = true) {k j : Int} (hj : j ∈ csOf (csP p) k) : thrB p j = false := by
  rw [csOf, csP, List.getD_eq_getElem?_getD, List.getElem?_map] at hj
  cases hg : p.funs[k.toNat]? with
  | none => rw [hg] at hj; simp at hj
  | some f =>
    rw [hg] at hj
    have hf := List.mem_of_getElem? hg
    have h4 := (mayFun_code ((may_funs hm).2 f hf)).2
    exact calleeKeys_wf (P := fun j => thrB p j = false) f.code [] (fun i hi ho => (mayIns_call (h4 i hi) ho).2.2) (fun k hk => by simp at hk) j (isort_mem.1 hj)
theorem rch_thr {p : SProg} (hm : mayP p = true) {k j : Int} (h : Rch (csP p) k j) : thrB p j = false := by
  induction h with
  | one h => exact csP_thr hm h
  | step _ _ ih => exact ih
theorem back_roots {p : SProg} (hm : mayP p = true) {a b : Nat} (ha : a < p.funs.length) (hb : b < p.funs.length) :
    (b : Int) ∈ (rootsGo p p.funs 0 (turnedL (reachLs (csP p) p.funs.length))).getD a [] ↔ thrB p (b : Int) = true ∧ (a = b ∨ (a : Int) ∈ reachOf (csP p) p.funs.length (b : Int)) := by
  have F := fits_may hm
  have hget : p.funs[a]? = some p.funs[a] := List.getElem?_eq_getElem ha
  have hRl : (reachLs (csP p) p.funs.length).length = p.funs.length := by rw [reachLs, List.length_map, List.length_range]
  have h := rootsGo_get p p.funs 0 (turnedL (reachLs (csP p) p.funs.length)) a _ hget (by rw [turnedL_len, hRl]; omega)
  rw [Nat.zero_add] at h
  rw [h]
  have hta : thrB p (a : Int) = p.funs[a].thread := by rw [thrB, Int.toNat_natCast, hget]
  cases ht : p.funs[a].thread with
  | true =>
    simp only [if_true, List.mem_singleton]
    constructor
    · intro e
      have : b = a := by omega
      subst this
      exact ⟨by rw [hta, ht], .inl rfl⟩
    · rintro ⟨_, h | h⟩
      · omega
      · have := rch_thr hm ((reachOf_mem _ _ _ _ (csP_rng F)).1 h)
        rw [hta, ht] at this
        cases this
  | false =>
    simp only [Bool.false_eq_true, if_false, List.mem_filter]
    rw [turnedL_get _ (fun x hx k hk => ((reachLs_rng x hx).1 k hk).1) (by omega)]
    constructor
    · rintro ⟨⟨m, x, h1, h2, h3⟩, h4⟩
      have : m = b := by omega
      subst this
      refine ⟨h4, .inr ?_⟩
      have := reachLs_get (csP p) p.funs.length hb
      rw [List.getD_eq_getElem?_getD, h1] at this
      rw [← this]; exact h3
    · rintro ⟨h1, h2 | h2⟩
      · subst h2
        rw [hta, ht] at h1; cases h1
      · refine ⟨⟨b, reachOf (csP p) p.funs.length (b : Int), ?_, rfl, h2⟩, h1⟩
        rw [reachLs, List.getElem?_map, List.getElem?_range hb]; rfl
theorem back_none {p : SProg} (F : Fits p) {a : Nat} (h : (csP p).getD a [] = []) : reachOf (csP p) p.funs.length (a : Int) = [] := by
  apply List.eq_nil_iff_forall_not_mem.2
  intro x hx
  have hr := (reachOf_mem _ _ _ _ (csP_rng F)).1 hx
  have hc : csOf (csP p) (a : Int) = [] := by rw [csOf_get, h]
  cases hr with
  | one h1 => rw [hc] at h1; simp at h1
  | step h1 _ => rw [hc] at h1; simp at h1
end
end Go.Proofs.Sx

/-
  The steps that the interpreter takes at once (slices.Sorted at a map's keys, slices.Sort at []string) are what the program's calls come to.
-/
set_option linter.unusedSimpArgs false
set_option linter.unusedVariables false
set_option maxRecDepth 100000
namespace Go.Proofs.Sx
open Go.Rv Go.Proofs

theorem strSays : StrSortSays Tryz.prog 40 :=
  ⟨fun blk off cap ss w hH hb hs => AnyM.slices_Sort_string Tryz.sortT blk off cap ss w hH hb hs, fun p cap w => AnyM.slices_Sort_string_none Tryz.sortT p cap w⟩

theorem sortedKeys_heap {clo : Nat} {args : List AV} {h : Heap} {v : AV} {h' : Heap} (hc : sortedKeys clo args h = some (.ret v, h')) : h' = h := by
  unfold sortedKeys at hc
  split at hc <;> first | cases hc | skip
  split at hc <;> first | cases hc | skip
  obtain ⟨cs, _, hc⟩ := Option.bind_eq_some_iff.1 hc
  split at hc <;> first | cases hc | skip
  obtain ⟨es, _, hc⟩ := Option.bind_eq_some_iff.1 hc
  obtain ⟨ks, _, hc⟩ := Option.bind_eq_some_iff.1 hc
  split at hc <;> cases hc
  rfl

theorem sx_prim : PrimOk Tryz.prog cfg := fun f p hp => by
  have hp : prm f = some p := hp
  unfold prm at hp
  split at hp
  · injection hp with hp; subst hp
    refine ⟨⟨_, _, Tryz.func51, rfl, by kernel_rfl⟩, fun _ args h v h' hc => ?_, fun args h res h' hc s w vs R G H => (sortedKeys_ok Tryz.sortedSays (by kernel_rfl) hc R H).2⟩
    exact sortedKeys_heap hc
  · injection hp with hp; subst hp
    refine ⟨⟨_, _, Tryz.func40, rfl, by kernel_rfl⟩, fun hpure => ?_, fun args h res h' hc s w vs R G H => sortStr_ok strSays hc R H⟩
    exact absurd hpure (by decide)
  · cases hp
end Go.Proofs.Sx

/-
  has; lists of lists, read.
-/
set_option linter.unusedSimpArgs false
set_option linter.unusedVariables false
set_option maxRecDepth 100000
set_option maxHeartbeats 8000000
namespace Go.Proofs.Sx
open Go.Rv Go.Proofs
attribute [local congr] bind_left got_left
noncomputable section

theorem lv8 (r : Nat) : cfg.live 8 r = some [0, 1, 4, 5, 9, 17] := rfl
theorem ok8 : okB cfg0 8 Tryz.f8 (Tryz.f8.body.getD .skip) = true := by kernel_rfl
theorem pu8 : cfg.pure 8 = true := rfl
instance tight8 {d : Option Nat} : TightD cfg 8 d := ⟨fun _ _ => rfl⟩
def a8_0 : Array Oper := codeOps (codeAt [false] (Tryz.f8.body.getD .skip))
def b8_0 : Array Oper := a8_0
def r8_0 : Code := .region 0 a8_0 false
theorem x8_0 (e : Env) (h : Heap) : exec cfg 8 r8_0 e h = (ops cfg 8 b8_0 (a8_0.toList) e h).bind (regEnd cfg 8 0 false) := region_at _ _ _ _ _ _ _
def a8_1 : Array Oper := codeOps (codeAt [true, false, false] (Tryz.f8.body.getD .skip))
def b8_1 : Array Oper := a8_1
def r8_1 : Code := .region 1 a8_1 false
theorem x8_1 (e : Env) (h : Heap) : exec cfg 8 r8_1 e h = (ops cfg 8 b8_1 (a8_1.toList) e h).bind (regEnd cfg 8 1 false) := region_at _ _ _ _ _ _ _
def a8_2 : Array Oper := codeOps (codeAt [true, false, true, false, false, false, false] (Tryz.f8.body.getD .skip))
def b8_2 : Array Oper := a8_2
def r8_2 : Code := .region 2 a8_2 false
theorem x8_2 (e : Env) (h : Heap) : exec cfg 8 r8_2 e h = (ops cfg 8 b8_2 (a8_2.toList) e h).bind (regEnd cfg 8 2 false) := region_at _ _ _ _ _ _ _
def a8_4 : Array Oper := codeOps (codeAt [true, false, true, false, false, true, false, false, false] (Tryz.f8.body.getD .skip))
def b8_4 : Array Oper := a8_4
def r8_4 : Code := .region 4 a8_4 false
theorem x8_4 (e : Env) (h : Heap) : exec cfg 8 r8_4 e h = (ops cfg 8 b8_4 (a8_4.toList) e h).bind (regEnd cfg 8 4 false) := region_at _ _ _ _ _ _ _
def a8_5 : Array Oper := codeOps (codeAt [true, false, true, false, false, true, false, false, true, false, false] (Tryz.f8.body.getD .skip))
def b8_5 : Array Oper := a8_5
def r8_5 : Code := .region 5 a8_5 false
theorem x8_5 (e : Env) (h : Heap) : exec cfg 8 r8_5 e h = (ops cfg 8 b8_5 (a8_5.toList) e h).bind (regEnd cfg 8 5 false) := region_at _ _ _ _ _ _ _
def a8_3 : Array Oper := codeOps (codeAt [true, false, true, false, false, true, true] (Tryz.f8.body.getD .skip))
def b8_3 : Array Oper := a8_3
def r8_3 : Code := .region 3 a8_3 false
theorem x8_3 (e : Env) (h : Heap) : exec cfg 8 r8_3 e h = (ops cfg 8 b8_3 (a8_3.toList) e h).bind (regEnd cfg 8 3 false) := region_at _ _ _ _ _ _ _
def a8_6 : Array Oper := codeOps (codeAt [true, true, false] (Tryz.f8.body.getD .skip))
def b8_6 : Array Oper := a8_6
def r8_6 : Code := .region 6 a8_6 false
theorem x8_6 (e : Env) (h : Heap) : exec cfg 8 r8_6 e h = (ops cfg 8 b8_6 (a8_6.toList) e h).bind (regEnd cfg 8 6 false) := region_at _ _ _ _ _ _ _
def l8_0 : Code := (.seq (.seq r8_2 (.cond (.tmp 9) .skip (.exit 0))) (.seq (.block 1 (.seq r8_4 (.cond (.tmp 17) (.seq r8_5 .ret) .skip))) r8_3))
def k8 : Code := (.seq r8_0 (.seq (.seq r8_1 (.block 0 (.loop l8_0))) (.seq r8_6 .ret)))
theorem body8 : Tryz.f8.body = some k8 := by kernel_rfl
theorem call8 (x0 x1 : AV) (h : Heap) : call cfg 8 [x0, x1] h = (exec cfg 8 k8 [(0, x0), (1, x1)] h).bind (callEnd cfg 8 h [.tmp 4]) := call_at2 (fnat Tryz.func8 body8 (by rw [← ok8]; kernel_rfl)) rfl rfl
theorem has_loop (xs : List Int) (x : Int) (z : Nat) (r : Room) (h : Heap) (hn : xs.length < 1000000000) : ∀ (ys : List Int) (i : Nat), xs.drop i = ys → i ≤ xs.length → ∀ c t9 t17,
    Got (exec cfg 8 (.loop l8_0) [(0, .lst (intL xs) z r), (1, .int .i64 x), (4, c), (5, .int .i64 i), (9, t9), (17, t17)] h) (fun q => q.2.2 = h ∧
      ((q.1 = .exit 0 ∧ x ∉ ys) ∨ (q.1 = .ret ∧ q.2.1.get 4 = .bool true ∧ x ∈ ys))) := by
  intro ys
  induction ys with
  | nil =>
    intro i hd hi c t9 t17
    rw [got_loop]
    simp only [l8_0, k8, Tryz.f8, regEnd_nrm (lv8 _), pu8, x8_0, a8_0, x8_1, a8_1, x8_2, a8_2, x8_4, a8_4, x8_5, a8_5, x8_3, a8_3, x8_6, a8_6, sxAll, arithA, Nat.reduceEqDiff, Env.keep, qt_eq, isAlloc, resultsA, packA, storeA, fieldA, indexA, unA, fieldAddrA, Rv.part, cellsAt, TD.isAgg, convH, convA, buildA, fillA, setCells, copies, optA, boundA, mapO, ↓Option.bind_some, ↓Option.bind_none, Nat.reduceBEq, Nat.reduceAdd, Nat.reduceMul, Nat.reduceLeDiff, Nat.reduceSub, Nat.reduceLT, Nat.reduceGT, Int.reduceBEq, Int.reduceLT, Int.reduceLE, bne, ↓reduceIte, lenA_lst, ty29, intL_len, at_end hd]
    exact ⟨trivial, .inl ⟨trivial, by simp⟩⟩
  | cons y s ih =>
    intro i hd hi c t9 t17
    obtain ⟨hlt, hget, hd'⟩ := at_drop hd
    have hix := fun H => idx_ints H xs z r i y hget
    have hw := wrap_succ (i := i) (by omega)
    rw [got_loop]
    by_cases he : y = x
    · subst he
      have hlo : (y == y) = true := by simp
      simp only [l8_0, k8, Tryz.f8, regEnd_nrm (lv8 _), pu8, x8_0, a8_0, x8_1, a8_1, x8_2, a8_2, x8_4, a8_4, x8_5, a8_5, x8_3, a8_3, x8_6, a8_6, sxAll, arithA, Nat.reduceEqDiff, Env.keep, qt_eq, isAlloc, resultsA, packA, storeA, fieldA, indexA, unA, fieldAddrA, Rv.part, cellsAt, TD.isAgg, convH, convA, buildA, fillA, setCells, copies, optA, boundA, mapO, ↓Option.bind_some, ↓Option.bind_none, Nat.reduceBEq, Nat.reduceAdd, Nat.reduceMul, Nat.reduceLeDiff, Nat.reduceSub, Nat.reduceLT, Nat.reduceGT, Int.reduceBEq, Int.reduceLT, Int.reduceLE, bne, ↓reduceIte, lenA_lst, ty29, intL_len, hlt, hix, load_ints, hlo]
      exact ⟨trivial, .inr ⟨trivial, by simp [Env.get_cons], List.mem_cons_self ..⟩⟩
    · have hne : (y == x) = false := by simp [he]
      have := ih (i + 1) hd' (by simp at hlt; omega)
      simp only [l8_0] at this ⊢
      simp only [k8, Tryz.f8, regEnd_nrm (lv8 _), pu8, x8_0, a8_0, x8_1, a8_1, x8_2, a8_2, x8_4, a8_4, x8_5, a8_5, x8_3, a8_3, x8_6, a8_6, sxAll, arithA, Nat.reduceEqDiff, Env.keep, qt_eq, isAlloc, resultsA, packA, storeA, fieldA, indexA, unA, fieldAddrA, Rv.part, cellsAt, TD.isAgg, convH, convA, buildA, fillA, setCells, copies, optA, boundA, mapO, ↓Option.bind_some, ↓Option.bind_none, Nat.reduceBEq, Nat.reduceAdd, Nat.reduceMul, Nat.reduceLeDiff, Nat.reduceSub, Nat.reduceLT, Nat.reduceGT, Int.reduceBEq, Int.reduceLT, Int.reduceLE, bne, ↓reduceIte, lenA_lst, ty29, intL_len, hlt, hix, load_ints, hne, hw] at this ⊢
      refine Got.mono (this _ _ _) fun q hq => ?_
      refine ⟨hq.1, ?_⟩
      rcases hq.2 with ⟨h1, h2⟩ | ⟨h1, h2, h3⟩
      · exact .inl ⟨h1, fun hc => (List.mem_cons.1 hc).elim (fun e => he e.symm) h2⟩
      · exact .inr ⟨h1, h2, List.mem_cons_of_mem _ h3⟩
theorem has_eq (xs : List Int) (x : Int) (z : Nat) (r : Room) (h : Heap) (hn : xs.length < 1000000000) : call cfg 8 [.lst (intL xs) z r, .int .i64 x] h = some (.ret (.bool (decide (x ∈ xs))), h) := by
  obtain ⟨⟨o, e', h'⟩, hx, hh, hq⟩ := has_loop xs x z r h hn xs 0 (by simp) (by omega) (.bool false) .junk .junk
  simp only [Int.natCast_zero] at hx hh hq
  subst hh
  rw [call8]
  rcases hq with ⟨rfl, h1⟩ | ⟨rfl, h1, h2⟩
  · simp only [k8, Tryz.f8, regEnd_nrm (lv8 _), pu8, x8_0, a8_0, x8_1, a8_1, x8_2, a8_2, x8_4, a8_4, x8_5, a8_5, x8_3, a8_3, x8_6, a8_6, sxAll, arithA, Nat.reduceEqDiff, Env.keep, qt_eq, isAlloc, resultsA, packA, storeA, fieldA, indexA, unA, fieldAddrA, Rv.part, cellsAt, TD.isAgg, convH, convA, buildA, fillA, setCells, copies, optA, boundA, mapO, ↓Option.bind_some, ↓Option.bind_none, Nat.reduceBEq, Nat.reduceAdd, Nat.reduceMul, Nat.reduceLeDiff, Nat.reduceSub, Nat.reduceLT, Nat.reduceGT, Int.reduceBEq, Int.reduceLT, Int.reduceLE, bne, ↓reduceIte, hx, h1, decide_false]
    exact leave_kept rfl rfl
  · simp only [k8, Tryz.f8, regEnd_nrm (lv8 _), pu8, x8_0, a8_0, x8_1, a8_1, x8_2, a8_2, x8_4, a8_4, x8_5, a8_5, x8_3, a8_3, x8_6, a8_6, sxAll, arithA, Nat.reduceEqDiff, Env.keep, qt_eq, isAlloc, resultsA, packA, storeA, fieldA, indexA, unA, fieldAddrA, Rv.part, cellsAt, TD.isAgg, convH, convA, buildA, fillA, setCells, copies, optA, boundA, mapO, ↓Option.bind_some, ↓Option.bind_none, Nat.reduceBEq, Nat.reduceAdd, Nat.reduceMul, Nat.reduceLeDiff, Nat.reduceSub, Nat.reduceLT, Nat.reduceGT, Int.reduceBEq, Int.reduceLT, Int.reduceLE, bne, ↓reduceIte, hx, h1, h2, decide_true]
    exact leave_kept rfl rfl

theorem binA_bool_neq (h : Heap) (a b : Bool) : binA cfg h .neq 4 (.bool a) (.bool b) = some (.bool (!(a == b))) := by
  simp [binA, ty4, eqA]
theorem bnq_ff (h : Heap) : binA cfg h .neq 4 (.bool false) (.bool false) = some (.bool false) := binA_bool_neq h _ _
theorem bnq_ft (h : Heap) : binA cfg h .neq 4 (.bool false) (.bool true) = some (.bool true) := binA_bool_neq h _ _
theorem bnq_tf (h : Heap) : binA cfg h .neq 4 (.bool true) (.bool false) = some (.bool true) := binA_bool_neq h _ _
theorem bnq_tt (h : Heap) : binA cfg h .neq 4 (.bool true) (.bool true) = some (.bool false) := binA_bool_neq h _ _
theorem idx_ll (H : Heap) {es : List AV} {z : Nat} {r : Room} {i : Nat} {xs : List Int} {z' : Nat} {r' : Room} (h : es[i]? = some (.lst (intL xs) z' r')) : indexAddrA cfg H 28 (.lst es z r) (.int .i64 i) = some (.ref [.lst (intL xs) z' r']) := by
  simp [indexAddrA, ty28, ty29, h, AV.cells]
theorem load_ll (H : Heap) (xs : List Int) (z : Nat) (r : Room) : loadA cfg H 29 (.ref [.lst (intL xs) z r]) = some (.lst (intL xs) z r) := by
  simp [load_ref, ty29, Rv.part, TD.isAgg]
theorem idx_fun (H : Heap) (p : SProg) {b : Nat} {f : SFun} (h : p.funs[b]? = some f) : indexAddrA cfg H 24 (.lst (funsL p.funs) p.fz p.froom) (.int .i64 b) = some (.ref f.cells) := by
  have h1 := funsL_get h
  have h2 : f.cells.length = 5 := rfl
  simp [indexAddrA, ty24, ty38, h1, AV.cells, h2]

theorem getD_get {ls : List (List Int)} {k : Nat} (h : k < ls.length) : ls[k]? = some (ls.getD k []) := by
  rw [List.getD_eq_getElem?_getD, List.getElem?_eq_getElem h]; rfl
end
end Go.Proofs.Sx

/-
  An argument of the type api.Prog, read: it is the picture of a program.
-/
set_option linter.unusedSimpArgs false
set_option linter.unusedVariables false
set_option maxRecDepth 100000
namespace Go.Proofs.Sx
open Go.Rv Go.Proofs
noncomputable section
abbrev PP : Program := Tryz.prog
variable {H : Type} {enc : TypeId × Value → H}

/-- The rows' own measure. -/
abbrev bk (H : Type) : DataW H → Nat := YtegcmgjdaoiaoaaGreatDoor.Rows.uptoBulk
theorem bulkOk {H : Type} : Bulk (bk H) (YtegcmgjdaoiaoaaGreatDoor.Rows.uptoBulkAll) where
  str l := by simp [YtegcmgjdaoiaoaaGreatDoor.Rows.uptoBulk]
  slice e s := by simp only [YtegcmgjdaoiaoaaGreatDoor.Rows.uptoBulk]; omega
  agg e := by simp only [YtegcmgjdaoiaoaaGreatDoor.Rows.uptoBulk]; omega
  cons d r := by simp only [YtegcmgjdaoiaoaaGreatDoor.Rows.uptoBulkAll]
  pos d := by
    cases d with
    | lit l => cases l <;> simp [YtegcmgjdaoiaoaaGreatDoor.Rows.uptoBulk]
    | nil => simp [YtegcmgjdaoiaoaaGreatDoor.Rows.uptoBulk]
    | ptr d => simp [YtegcmgjdaoiaoaaGreatDoor.Rows.uptoBulk]
    | slice elems spare => simp [YtegcmgjdaoiaoaaGreatDoor.Rows.uptoBulk]
    | agg parts => simp [YtegcmgjdaoiaoaaGreatDoor.Rows.uptoBulk]
    | iface t d => simp [YtegcmgjdaoiaoaaGreatDoor.Rows.uptoBulk]
    | map entries => simp [YtegcmgjdaoiaoaaGreatDoor.Rows.uptoBulk]
    | held h => simp [YtegcmgjdaoiaoaaGreatDoor.Rows.uptoBulk]

abbrev OP (t : TypeId) {α : Type} (pic : α → List AV) (ok : α → Prop) : Prop := ∀ (H : Type) (enc : TypeId × Value → H), Opens enc PP (bk H) 1048576 t pic ok
abbrev wf64 (n : Int) : Prop := (Lit.int .i64 n).wf = true
theorem oInt : OP 3 (fun n : Int => [.int .i64 n]) wf64 := fun H enc => opens_int Tryz.underlying3
theorem oInts : OP 29 (GS.pic (fun n : Int => .int .i64 n) 1) (GS.ok 1048576 wf64) :=
  fun H enc => opens_slice bulkOk Tryz.underlying29 (oInt H enc) (by kernel_rfl) (by omega) _ (fun _ => rfl) (fun _ => rfl)
theorem oStr : OP 9 (fun l : List UInt8 => [.str l]) (fun l => l.length ≤ 1048576) := fun H enc => opens_string bulkOk Tryz.underlying9
theorem oStrs : OP 23 (GS.pic (fun l : List UInt8 => .str l) 1) (GS.ok 1048576 fun l => l.length ≤ 1048576) :=
  fun H enc => opens_slice bulkOk Tryz.underlying23 (oStr H enc) (by kernel_rfl) (by omega) _ (fun _ => rfl) (fun _ => rfl)
theorem oI64 : OP 2 (fun n : Int => [.int .i64 n]) wf64 := fun H enc => opens_int Tryz.underlying2
theorem oU8 : OP 5 (fun n : Int => [.int .u8 n]) (fun n => (Lit.int .u8 n).wf = true) := fun H enc => opens_int Tryz.underlying5
theorem oBool : OP 4 (fun b : Bool => [.bool b]) (fun _ => True) := fun H enc => opens_bool Tryz.underlying4

/-- A global: its name, size, first. -/
abbrev MemD := List UInt8 × Int × Int × Unit
def memPic (p : MemD) : List AV := [.str p.1] ++ ([.int .i64 p.2.1] ++ ([.int .i64 p.2.2.1] ++ []))
def memOk (p : MemD) : Prop := p.1.length ≤ 1048576 ∧ wf64 p.2.1 ∧ wf64 p.2.2.1 ∧ True
theorem oMem : OP 63 memPic memOk := fun H enc => by
  have F := opens_struct (enc := enc) bulkOk Tryz.underlying63 (opensF_cons (oStr H enc) (opensF_cons (oInt H enc) (opensF_cons (oI64 H enc) opensF_nil))) (by kernel_rfl)
  exact F
theorem oMems : OP 22 (GS.pic (fun p => .agg (memPic p)) 3) (GS.ok 1048576 memOk) :=
  fun H enc => opens_slice bulkOk Tryz.underlying22 (oMem H enc) (by kernel_rfl) (by omega) _ (fun _ => rfl) (fun _ => rfl)

abbrev InsD := Int × Int × Int × Int × Int × GS Int × Unit
def insPic (p : InsD) : List AV := [.int .u8 p.1] ++ ([.int .i64 p.2.1] ++ ([.int .i64 p.2.2.1] ++ ([.int .i64 p.2.2.2.1] ++ ([.int .i64 p.2.2.2.2.1] ++ (GS.pic (fun n : Int => .int .i64 n) 1 p.2.2.2.2.2.1 ++ [])))))
def insOk (p : InsD) : Prop := (Lit.int .u8 p.1).wf = true ∧ wf64 p.2.1 ∧ wf64 p.2.2.1 ∧ wf64 p.2.2.2.1 ∧ wf64 p.2.2.2.2.1 ∧ GS.ok 1048576 wf64 p.2.2.2.2.2.1 ∧ True
theorem oIns : OP 42 insPic insOk := fun H enc => by
  have F := opens_struct (enc := enc) bulkOk Tryz.underlying42 (opensF_cons (oU8 H enc) (opensF_cons (oInt H enc) (opensF_cons (oInt H enc) (opensF_cons (oInt H enc) (opensF_cons (oI64 H enc) (opensF_cons (oInts H enc) opensF_nil)))))) (by kernel_rfl)
  exact F
theorem insPic_len (p : InsD) : (insPic p).length = 6 := by unfold insPic; cases p.2.2.2.2.2.1 <;> rfl
theorem oCode : OP 36 (GS.pic (fun p => .agg (insPic p)) 6) (GS.ok 1048576 insOk) :=
  fun H enc => opens_slice bulkOk Tryz.underlying36 (oIns H enc) (by kernel_rfl) (by omega) _ (fun _ => rfl) insPic_len

abbrev FunD := List UInt8 × Bool × Int × Int × GS InsD × Unit
def funPic (p : FunD) : List AV := [.str p.1] ++ ([.bool p.2.1] ++ ([.int .i64 p.2.2.1] ++ ([.int .i64 p.2.2.2.1] ++ (GS.pic (fun q => .agg (insPic q)) 6 p.2.2.2.2.1 ++ []))))
def funOk (p : FunD) : Prop := p.1.length ≤ 1048576 ∧ True ∧ wf64 p.2.2.1 ∧ wf64 p.2.2.2.1 ∧ GS.ok 1048576 insOk p.2.2.2.2.1 ∧ True
theorem oFun : OP 38 funPic funOk := fun H enc => by
  have F := opens_struct (enc := enc) bulkOk Tryz.underlying38 (opensF_cons (oStr H enc) (opensF_cons (oBool H enc) (opensF_cons (oInt H enc) (opensF_cons (oInt H enc) (opensF_cons (oCode H enc) opensF_nil))))) (by kernel_rfl)
  exact F
theorem funPic_len (p : FunD) : (funPic p).length = 5 := by unfold funPic; cases p.2.2.2.2.1 <;> rfl
theorem oFuns : OP 24 (GS.pic (fun p => .agg (funPic p)) 5) (GS.ok 1048576 funOk) :=
  fun H enc => opens_slice bulkOk Tryz.underlying24 (oFun H enc) (by kernel_rfl) (by omega) _ (fun _ => rfl) funPic_len

abbrev ProgD := GS MemD × GS (List UInt8) × GS FunD × Unit
def progPic (p : ProgD) : List AV := GS.pic (fun q => .agg (memPic q)) 3 p.1 ++ (GS.pic (fun l : List UInt8 => .str l) 1 p.2.1 ++ (GS.pic (fun q => .agg (funPic q)) 5 p.2.2.1 ++ []))
def progOk (p : ProgD) : Prop := GS.ok 1048576 memOk p.1 ∧ GS.ok 1048576 (fun l => l.length ≤ 1048576) p.2.1 ∧ GS.ok 1048576 funOk p.2.2.1 ∧ True
theorem oProgD : OP 26 progPic progOk := fun H enc => by
  have F := opens_struct (enc := enc) bulkOk Tryz.underlying26 (opensF_cons (oMems H enc) (opensF_cons (oStrs H enc) (opensF_cons (oFuns H enc) opensF_nil))) (by kernel_rfl)
  exact F

def GS.list {α : Type} : GS α → List α
  | .nil => []
  | .mk l _ => l
def GS.room {α : Type} : GS α → Room
  | .nil => .nil
  | .mk _ c => .exact c
theorem GS.pic_eq {α : Type} (el : α → AV) (z : Nat) (g : GS α) : GS.pic el z g = [.lst ((GS.list g).map el) z (GS.room g)] := by cases g <;> rfl
theorem GS.ok_all {α : Type} {B : Nat} {ok : α → Prop} {g : GS α} (h : GS.ok B ok g) : (GS.list g).length ≤ B ∧ ∀ a ∈ GS.list g, ok a := by
  cases g with
  | nil => exact ⟨by simp [GS.list], fun a ha => by simp [GS.list] at ha⟩
  | mk l c => exact h
def memOf (p : MemD) : SMem := ⟨p.1, p.2.1, p.2.2.1⟩
def insOf (p : InsD) : SIns := ⟨p.1, p.2.1, p.2.2.1, p.2.2.2.1, p.2.2.2.2.1, GS.list p.2.2.2.2.2.1, 1, GS.room p.2.2.2.2.2.1⟩
def funOf (p : FunD) : SFun := ⟨p.1, p.2.1, p.2.2.1, p.2.2.2.1, (GS.list p.2.2.2.2.1).map insOf, 6, GS.room p.2.2.2.2.1⟩
def progOf (p : ProgD) : SProg := ⟨(GS.list p.1).map memOf, 3, GS.room p.1, GS.list p.2.1, 1, GS.room p.2.1, (GS.list p.2.2.1).map funOf, 5, GS.room p.2.2.1⟩
theorem insPic_eq (p : InsD) : insPic p = (insOf p).cells := by
  unfold insPic
  rw [GS.pic_eq]
  rfl
theorem funPic_eq (p : FunD) : funPic p = (funOf p).cells := by
  unfold funPic
  rw [GS.pic_eq]
  simp only [SFun.cells, funOf, codeL, List.map_map, Function.comp_def, insPic_eq]
  rfl
theorem progPic_eq (p : ProgD) : progPic p = (progOf p).cells := by
  unfold progPic
  rw [GS.pic_eq, GS.pic_eq, GS.pic_eq]
  simp only [SProg.cells, progOf, memsL, strL, funsL, List.map_map, Function.comp_def, funPic_eq]
  rfl
theorem insOf_wf {p : InsD} (h : insOk p) : (insOf p).wf := by
  obtain ⟨h1, _, _, _, _, h6, _⟩ := h
  have h1' := h1
  have e1 : IntKind.u8.min = 0 := rfl
  have e2 : IntKind.u8.max = 255 := rfl
  simp only [Lit.wf, decide_eq_true_eq, Bool.and_eq_true, e1, e2] at h1'
  refine ⟨?_, ?_, ?_⟩
  · show 0 ≤ p.1; omega
  · show p.1 < 256; omega
  · have := (GS.ok_all h6).1
    show (GS.list p.2.2.2.2.2.1).length < 100000000
    omega
theorem funOf_wf {p : FunD} (h : funOk p) : (funOf p).wf := by
  obtain ⟨h1, _, _, _, h5, _⟩ := h
  obtain ⟨h6, h7⟩ := GS.ok_all h5
  refine ⟨?_, ?_, ?_⟩
  · simp only [funOf, List.length_map]; omega
  · show p.1.length < _; omega
  · intro i hi
    obtain ⟨q, hq, rfl⟩ := List.mem_map.1 hi
    exact insOf_wf (h7 q hq)
theorem progOf_wf {p : ProgD} (h : progOk p) : (progOf p).wf := by
  obtain ⟨h1, h2, h3, _⟩ := h
  obtain ⟨a1, a2⟩ := GS.ok_all h1
  obtain ⟨b1, b2⟩ := GS.ok_all h2
  obtain ⟨c1, c2⟩ := GS.ok_all h3
  refine ⟨?_, ?_, ?_, ?_, ?_, ?_⟩
  · simp only [progOf, List.length_map]; omega
  · show (GS.list p.2.1).length < _; omega
  · simp only [progOf, List.length_map]; omega
  · intro m hm
    obtain ⟨q, hq, rfl⟩ := List.mem_map.1 hm
    have := (a2 q hq).1
    show q.1.length < _; omega
  · intro l hl
    have := b2 l hl
    omega
  · intro f hf
    obtain ⟨q, hq, rfl⟩ := List.mem_map.1 hf
    exact funOf_wf (c2 q hq)
/-- A program that is an argument. -/
theorem oProg : OP 26 SProg.cells SProg.wf := fun H enc w n cs x h1 h2 h3 => by
  obtain ⟨a, ha, hv⟩ := oProgD H enc w n cs x h1 h2 h3
  exact ⟨progOf a, progOf_wf ha, by rw [← progPic_eq]; exact hv⟩
end
end Go.Proofs.Sx

/-
  bobbinref12.Ints, bobbinlaw17.lists: what their calls answer.
-/
set_option linter.unusedSimpArgs false
set_option linter.unusedVariables false
set_option maxRecDepth 100000
set_option maxHeartbeats 8000000
namespace Go.Proofs.Sx
open Go.Rv Go.Proofs
attribute [local congr] bind_left got_left
noncomputable section

theorem lv12 (r : Nat) : cfg.live 12 r = some [0, 1, 4, 5, 10, 14, 25] := rfl
theorem ok12 : okB cfg0 12 Tryz.f12 (Tryz.f12.body.getD .skip) = true := by kernel_rfl
theorem pu12 : cfg.pure 12 = true := rfl
instance tight12 {d : Option Nat} : TightD cfg 12 d := ⟨fun _ _ => rfl⟩
def a12_0 : Array Oper := codeOps (codeAt [false] (Tryz.f12.body.getD .skip))
def b12_0 : Array Oper := a12_0
def r12_0 : Code := .region 0 a12_0 false
theorem x12_0 (e : Env) (h : Heap) : exec cfg 12 r12_0 e h = (ops cfg 12 b12_0 (a12_0.toList) e h).bind (regEnd cfg 12 0 false) := region_at _ _ _ _ _ _ _
def a12_1 : Array Oper := codeOps (codeAt [true, false, false] (Tryz.f12.body.getD .skip))
def b12_1 : Array Oper := a12_1
def r12_1 : Code := .region 1 a12_1 false
theorem x12_1 (e : Env) (h : Heap) : exec cfg 12 r12_1 e h = (ops cfg 12 b12_1 (a12_1.toList) e h).bind (regEnd cfg 12 1 false) := region_at _ _ _ _ _ _ _
def a12_2 : Array Oper := codeOps (codeAt [true, false, true, false, false] (Tryz.f12.body.getD .skip))
def b12_2 : Array Oper := a12_2
def r12_2 : Code := .region 2 a12_2 false
theorem x12_2 (e : Env) (h : Heap) : exec cfg 12 r12_2 e h = (ops cfg 12 b12_2 (a12_2.toList) e h).bind (regEnd cfg 12 2 false) := region_at _ _ _ _ _ _ _
def a12_3 : Array Oper := codeOps (codeAt [true, true, false, false] (Tryz.f12.body.getD .skip))
def b12_3 : Array Oper := a12_3
def r12_3 : Code := .region 3 a12_3 false
theorem x12_3 (e : Env) (h : Heap) : exec cfg 12 r12_3 e h = (ops cfg 12 b12_3 (a12_3.toList) e h).bind (regEnd cfg 12 3 false) := region_at _ _ _ _ _ _ _
def a12_4 : Array Oper := codeOps (codeAt [true, true, false, true, false, false, false, false] (Tryz.f12.body.getD .skip))
def b12_4 : Array Oper := a12_4
def r12_4 : Code := .region 4 a12_4 false
theorem x12_4 (e : Env) (h : Heap) : exec cfg 12 r12_4 e h = (ops cfg 12 b12_4 (a12_4.toList) e h).bind (regEnd cfg 12 4 false) := region_at _ _ _ _ _ _ _
def a12_6 : Array Oper := codeOps (codeAt [true, true, false, true, false, false, true, false, false, false] (Tryz.f12.body.getD .skip))
def b12_6 : Array Oper := a12_6
def r12_6 : Code := .region 6 a12_6 true
theorem s12_6 : sched a12_6 true = a12_6.toList := by kernel_rfl
theorem x12_6 (e : Env) (h : Heap) : exec cfg 12 r12_6 e h = (ops cfg 12 b12_6 (a12_6.toList) e h).bind (regEnd cfg 12 6 true) := (region_at _ _ _ _ _ _ _).trans (by rw [s12_6]; rfl)
def a12_7 : Array Oper := codeOps (codeAt [true, true, false, true, false, false, true, false, false, true, false, false] (Tryz.f12.body.getD .skip))
def b12_7 : Array Oper := a12_7
def r12_7 : Code := .region 7 a12_7 false
theorem x12_7 (e : Env) (h : Heap) : exec cfg 12 r12_7 e h = (ops cfg 12 b12_7 (a12_7.toList) e h).bind (regEnd cfg 12 7 false) := region_at _ _ _ _ _ _ _
def a12_5 : Array Oper := codeOps (codeAt [true, true, false, true, false, false, true, true] (Tryz.f12.body.getD .skip))
def b12_5 : Array Oper := a12_5
def r12_5 : Code := .region 5 a12_5 false
theorem x12_5 (e : Env) (h : Heap) : exec cfg 12 r12_5 e h = (ops cfg 12 b12_5 (a12_5.toList) e h).bind (regEnd cfg 12 5 false) := region_at _ _ _ _ _ _ _
def a12_8 : Array Oper := codeOps (codeAt [true, true, true, false] (Tryz.f12.body.getD .skip))
def b12_8 : Array Oper := a12_8
def r12_8 : Code := .region 8 a12_8 false
theorem x12_8 (e : Env) (h : Heap) : exec cfg 12 r12_8 e h = (ops cfg 12 b12_8 (a12_8.toList) e h).bind (regEnd cfg 12 8 false) := region_at _ _ _ _ _ _ _
def l12_0 : Code := (.seq (.seq r12_4 (.cond (.tmp 14) .skip (.exit 0))) (.seq (.block 1 (.seq r12_6 (.cond (.tmp 25) (.seq r12_7 .ret) .skip))) r12_5))
def k12 : Code := (.seq r12_0 (.seq (.seq r12_1 (.cond (.tmp 10) (.seq r12_2 .ret) .skip)) (.seq (.seq r12_3 (.block 0 (.loop l12_0))) (.seq r12_8 .ret))))
theorem body12 : Tryz.f12.body = some k12 := by kernel_rfl
theorem call12 (x0 x1 : AV) (h : Heap) : call cfg 12 [x0, x1] h = (exec cfg 12 k12 [(0, x0), (1, x1)] h).bind (callEnd cfg 12 h [.tmp 4]) := call_at2 (fnat Tryz.func12 body12 (by rw [← ok12]; kernel_rfl)) rfl rfl
theorem ints_loop (xs ys : List Int) (z z' : Nat) (r r' : Room) (h : Heap) (hn : xs.length < 1000000000) : ∀ (s : List Int) (i : Nat), xs.drop i = s → i ≤ xs.length → ∀ t, ys.drop i = t → s.length = t.length → ∀ t4 t10 t14 t25,
    Got (exec cfg 12 (.loop l12_0) [(0, .lst (intL xs) z r), (1, .lst (intL ys) z' r'), (4, t4), (5, .int .i64 i), (10, t10), (14, t14), (25, t25)] h) (fun q => q.2.2 = h ∧
      ((q.1 = .exit 0 ∧ s = t) ∨ (q.1 = .ret ∧ q.2.1.get 4 = .bool false ∧ s ≠ t))) := by
  intro s
  induction s with
  | nil =>
    intro i hd hi t ht hl t4 t10 t14 t25
    have : t = [] := List.length_eq_zero_iff.1 hl.symm
    rw [got_loop]
    simp only [l12_0, k12, Tryz.f12, regEnd_nrm (lv12 _), pu12, x12_0, a12_0, x12_1, a12_1, x12_2, a12_2, x12_3, a12_3, x12_4, a12_4, x12_6, a12_6, x12_7, a12_7, x12_5, a12_5, x12_8, a12_8, sxAll, arithA, Nat.reduceEqDiff, Env.keep, qt_eq, isAlloc, resultsA, packA, storeA, fieldA, indexA, unA, fieldAddrA, Rv.part, cellsAt, TD.isAgg, convH, convA, buildA, fillA, setCells, copies, optA, boundA, mapO, ↓Option.bind_some, ↓Option.bind_none, Nat.reduceBEq, Nat.reduceAdd, Nat.reduceMul, Nat.reduceLeDiff, Nat.reduceSub, Nat.reduceLT, Nat.reduceGT, Int.reduceBEq, Int.reduceLT, Int.reduceLE, bne, ↓reduceIte, lenA_lst, ty29, intL_len, at_end hd]
    exact ⟨trivial, .inl ⟨trivial, this.symm⟩⟩
  | cons y s ih =>
    intro i hd hi t ht hl t4 t10 t14 t25
    cases t with
    | nil => simp at hl
    | cons w t =>
      obtain ⟨hlt, hget, hd'⟩ := at_drop hd
      obtain ⟨_, hget', ht'⟩ := at_drop ht
      have hix := fun H => idx_ints H xs z r i y hget
      have hiy := fun H => idx_ints H ys z' r' i w hget'
      have hw := wrap_succ (i := i) (by omega)
      rw [got_loop]
      by_cases he : y = w
      · subst he
        have hlo : (y == y) = true := by simp
        have := ih (i + 1) hd' (by simp at hlt; omega) t ht' (by simpa using hl)
        simp only [l12_0] at this ⊢
        simp only [k12, Tryz.f12, regEnd_nrm (lv12 _), pu12, x12_0, a12_0, x12_1, a12_1, x12_2, a12_2, x12_3, a12_3, x12_4, a12_4, x12_6, a12_6, x12_7, a12_7, x12_5, a12_5, x12_8, a12_8, sxAll, arithA, Nat.reduceEqDiff, Env.keep, qt_eq, isAlloc, resultsA, packA, storeA, fieldA, indexA, unA, fieldAddrA, Rv.part, cellsAt, TD.isAgg, convH, convA, buildA, fillA, setCells, copies, optA, boundA, mapO, ↓Option.bind_some, ↓Option.bind_none, Nat.reduceBEq, Nat.reduceAdd, Nat.reduceMul, Nat.reduceLeDiff, Nat.reduceSub, Nat.reduceLT, Nat.reduceGT, Int.reduceBEq, Int.reduceLT, Int.reduceLE, bne, ↓reduceIte, s12_6, lenA_lst, ty29, intL_len, hlt, hix, hiy, load_ints, hlo, hw] at this ⊢
        refine Got.mono (this _ _ _ _) fun q hq => ⟨hq.1, ?_⟩
        rcases hq.2 with ⟨h1, h2⟩ | ⟨h1, h2, h3⟩
        · exact .inl ⟨h1, by rw [h2]⟩
        · exact .inr ⟨h1, h2, fun e => h3 (List.cons.inj e).2⟩
      · have hne : (y == w) = false := by simp [he]
        simp only [l12_0, k12, Tryz.f12, regEnd_nrm (lv12 _), pu12, x12_0, a12_0, x12_1, a12_1, x12_2, a12_2, x12_3, a12_3, x12_4, a12_4, x12_6, a12_6, x12_7, a12_7, x12_5, a12_5, x12_8, a12_8, sxAll, arithA, Nat.reduceEqDiff, Env.keep, qt_eq, isAlloc, resultsA, packA, storeA, fieldA, indexA, unA, fieldAddrA, Rv.part, cellsAt, TD.isAgg, convH, convA, buildA, fillA, setCells, copies, optA, boundA, mapO, ↓Option.bind_some, ↓Option.bind_none, Nat.reduceBEq, Nat.reduceAdd, Nat.reduceMul, Nat.reduceLeDiff, Nat.reduceSub, Nat.reduceLT, Nat.reduceGT, Int.reduceBEq, Int.reduceLT, Int.reduceLE, bne, ↓reduceIte, s12_6, lenA_lst, ty29, intL_len, hlt, hix, hiy, load_ints, hne]
        exact ⟨trivial, .inr ⟨trivial, by simp [Env.get_cons], fun e => he (List.cons.inj e).1⟩⟩
theorem ints_eq (xs ys : List Int) (z z' : Nat) (r r' : Room) (h : Heap) (hn : xs.length < 1000000000) : call cfg 12 [.lst (intL xs) z r, .lst (intL ys) z' r'] h = some (.ret (.bool (decide (xs = ys))), h) := by
  rw [call12]
  by_cases hl : xs.length = ys.length
  · obtain ⟨⟨o, e', h'⟩, hx, hh, hq⟩ := ints_loop xs ys z z' r r' h hn xs 0 (by simp) (by omega) ys (by simp) hl (.bool false) (.bool false) .junk .junk
    simp only [Int.natCast_zero] at hx hh hq
    subst hh
    have hll : ((xs.length : Int) == (ys.length : Int)) = true := by simp [hl]
    rcases hq with ⟨rfl, h1⟩ | ⟨rfl, h1, h2⟩
    · simp only [k12, Tryz.f12, regEnd_nrm (lv12 _), pu12, x12_0, a12_0, x12_1, a12_1, x12_2, a12_2, x12_3, a12_3, x12_4, a12_4, x12_6, a12_6, x12_7, a12_7, x12_5, a12_5, x12_8, a12_8, sxAll, arithA, Nat.reduceEqDiff, Env.keep, qt_eq, isAlloc, resultsA, packA, storeA, fieldA, indexA, unA, fieldAddrA, Rv.part, cellsAt, TD.isAgg, convH, convA, buildA, fillA, setCells, copies, optA, boundA, mapO, ↓Option.bind_some, ↓Option.bind_none, Nat.reduceBEq, Nat.reduceAdd, Nat.reduceMul, Nat.reduceLeDiff, Nat.reduceSub, Nat.reduceLT, Nat.reduceGT, Int.reduceBEq, Int.reduceLT, Int.reduceLE, bne, ↓reduceIte, lenA_lst, ty29, intL_len, hll, hx, eq_true h1, decide_true]
      exact leave_kept rfl rfl
    · simp only [k12, Tryz.f12, regEnd_nrm (lv12 _), pu12, x12_0, a12_0, x12_1, a12_1, x12_2, a12_2, x12_3, a12_3, x12_4, a12_4, x12_6, a12_6, x12_7, a12_7, x12_5, a12_5, x12_8, a12_8, sxAll, arithA, Nat.reduceEqDiff, Env.keep, qt_eq, isAlloc, resultsA, packA, storeA, fieldA, indexA, unA, fieldAddrA, Rv.part, cellsAt, TD.isAgg, convH, convA, buildA, fillA, setCells, copies, optA, boundA, mapO, ↓Option.bind_some, ↓Option.bind_none, Nat.reduceBEq, Nat.reduceAdd, Nat.reduceMul, Nat.reduceLeDiff, Nat.reduceSub, Nat.reduceLT, Nat.reduceGT, Int.reduceBEq, Int.reduceLT, Int.reduceLE, bne, ↓reduceIte, lenA_lst, ty29, intL_len, hll, hx, h1, h2, decide_false]
      exact leave_kept rfl rfl
  · have hne : xs ≠ ys := fun e => hl (by rw [e])
    have hll : ((xs.length : Int) == (ys.length : Int)) = false := by simp; omega
    simp only [k12, Tryz.f12, regEnd_nrm (lv12 _), pu12, x12_0, a12_0, x12_1, a12_1, x12_2, a12_2, x12_3, a12_3, x12_4, a12_4, x12_6, a12_6, x12_7, a12_7, x12_5, a12_5, x12_8, a12_8, sxAll, arithA, Nat.reduceEqDiff, Env.keep, qt_eq, isAlloc, resultsA, packA, storeA, fieldA, indexA, unA, fieldAddrA, Rv.part, cellsAt, TD.isAgg, convH, convA, buildA, fillA, setCells, copies, optA, boundA, mapO, ↓Option.bind_some, ↓Option.bind_none, Nat.reduceBEq, Nat.reduceAdd, Nat.reduceMul, Nat.reduceLeDiff, Nat.reduceSub, Nat.reduceLT, Nat.reduceGT, Int.reduceBEq, Int.reduceLT, Int.reduceLE, bne, ↓reduceIte, lenA_lst, ty29, intL_len, hll, hne, decide_false]
    exact leave_kept rfl rfl

theorem lv11 (r : Nat) : cfg.live 11 r = some [0, 1, 4, 5, 10, 14, 26] := rfl
theorem ok11 : okB cfg0 11 Tryz.f11 (Tryz.f11.body.getD .skip) = true := by kernel_rfl
theorem pu11 : cfg.pure 11 = true := rfl
instance tight11 {d : Option Nat} : TightD cfg 11 d := ⟨fun _ _ => rfl⟩
def a11_0 : Array Oper := codeOps (codeAt [false] (Tryz.f11.body.getD .skip))
def b11_0 : Array Oper := a11_0
def r11_0 : Code := .region 0 a11_0 false
theorem x11_0 (e : Env) (h : Heap) : exec cfg 11 r11_0 e h = (ops cfg 11 b11_0 (a11_0.toList) e h).bind (regEnd cfg 11 0 false) := region_at _ _ _ _ _ _ _
def a11_1 : Array Oper := codeOps (codeAt [true, false, false] (Tryz.f11.body.getD .skip))
def b11_1 : Array Oper := a11_1
def r11_1 : Code := .region 1 a11_1 false
theorem x11_1 (e : Env) (h : Heap) : exec cfg 11 r11_1 e h = (ops cfg 11 b11_1 (a11_1.toList) e h).bind (regEnd cfg 11 1 false) := region_at _ _ _ _ _ _ _
def a11_2 : Array Oper := codeOps (codeAt [true, false, true, false, false] (Tryz.f11.body.getD .skip))
def b11_2 : Array Oper := a11_2
def r11_2 : Code := .region 2 a11_2 false
theorem x11_2 (e : Env) (h : Heap) : exec cfg 11 r11_2 e h = (ops cfg 11 b11_2 (a11_2.toList) e h).bind (regEnd cfg 11 2 false) := region_at _ _ _ _ _ _ _
def a11_3 : Array Oper := codeOps (codeAt [true, true, false, false] (Tryz.f11.body.getD .skip))
def b11_3 : Array Oper := a11_3
def r11_3 : Code := .region 3 a11_3 false
theorem x11_3 (e : Env) (h : Heap) : exec cfg 11 r11_3 e h = (ops cfg 11 b11_3 (a11_3.toList) e h).bind (regEnd cfg 11 3 false) := region_at _ _ _ _ _ _ _
def a11_4 : Array Oper := codeOps (codeAt [true, true, false, true, false, false, false, false] (Tryz.f11.body.getD .skip))
def b11_4 : Array Oper := a11_4
def r11_4 : Code := .region 4 a11_4 false
theorem x11_4 (e : Env) (h : Heap) : exec cfg 11 r11_4 e h = (ops cfg 11 b11_4 (a11_4.toList) e h).bind (regEnd cfg 11 4 false) := region_at _ _ _ _ _ _ _
def a11_6 : Array Oper := codeOps (codeAt [true, true, false, true, false, false, true, false, false, false] (Tryz.f11.body.getD .skip))
def b11_6 : Array Oper := a11_6
def r11_6 : Code := .region 6 a11_6 true
theorem s11_6 : sched a11_6 true = a11_6.toList := by kernel_rfl
theorem x11_6 (e : Env) (h : Heap) : exec cfg 11 r11_6 e h = (ops cfg 11 b11_6 (a11_6.toList) e h).bind (regEnd cfg 11 6 true) := (region_at _ _ _ _ _ _ _).trans (by rw [s11_6]; rfl)
def a11_7 : Array Oper := codeOps (codeAt [true, true, false, true, false, false, true, false, false, true, false, false] (Tryz.f11.body.getD .skip))
def b11_7 : Array Oper := a11_7
def r11_7 : Code := .region 7 a11_7 false
theorem x11_7 (e : Env) (h : Heap) : exec cfg 11 r11_7 e h = (ops cfg 11 b11_7 (a11_7.toList) e h).bind (regEnd cfg 11 7 false) := region_at _ _ _ _ _ _ _
def a11_5 : Array Oper := codeOps (codeAt [true, true, false, true, false, false, true, true] (Tryz.f11.body.getD .skip))
def b11_5 : Array Oper := a11_5
def r11_5 : Code := .region 5 a11_5 false
theorem x11_5 (e : Env) (h : Heap) : exec cfg 11 r11_5 e h = (ops cfg 11 b11_5 (a11_5.toList) e h).bind (regEnd cfg 11 5 false) := region_at _ _ _ _ _ _ _
def a11_8 : Array Oper := codeOps (codeAt [true, true, true, false] (Tryz.f11.body.getD .skip))
def b11_8 : Array Oper := a11_8
def r11_8 : Code := .region 8 a11_8 false
theorem x11_8 (e : Env) (h : Heap) : exec cfg 11 r11_8 e h = (ops cfg 11 b11_8 (a11_8.toList) e h).bind (regEnd cfg 11 8 false) := region_at _ _ _ _ _ _ _
def l11_0 : Code := (.seq (.seq r11_4 (.cond (.tmp 14) .skip (.exit 0))) (.seq (.block 1 (.seq r11_6 (.cond (.tmp 26) (.seq r11_7 .ret) .skip))) r11_5))
def k11 : Code := (.seq r11_0 (.seq (.seq r11_1 (.cond (.tmp 10) (.seq r11_2 .ret) .skip)) (.seq (.seq r11_3 (.block 0 (.loop l11_0))) (.seq r11_8 .ret))))
theorem body11 : Tryz.f11.body = some k11 := by kernel_rfl
theorem call11 (x0 x1 : AV) (h : Heap) : call cfg 11 [x0, x1] h = (exec cfg 11 k11 [(0, x0), (1, x1)] h).bind (callEnd cfg 11 h [.tmp 4]) := call_at2 (fnat Tryz.func11 body11 (by rw [← ok11]; kernel_rfl)) rfl rfl
section
variable (Xs Ys : List (List Int)) (es fs : List AV) (z z' : Nat) (r r' : Room) (h : Heap) (hes : es.length = Xs.length) (hfs : fs.length = Ys.length)
  (g : ∀ (k : Nat) xs, Xs[k]? = some xs → ∃ z r, es[k]? = some (.lst (intL xs) z r)) (g' : ∀ (k : Nat) xs, Ys[k]? = some xs → ∃ z r, fs[k]? = some (.lst (intL xs) z r))
  (hn : Xs.length < 1000000000) (hs : ∀ l ∈ Xs, l.length < 1000000000)
include hes g g' hn hs in
theorem lists_loop : ∀ (s : List (List Int)) (i : Nat), Xs.drop i = s → i ≤ Xs.length → ∀ t, Ys.drop i = t → s.length = t.length → ∀ t4 t10 t14 t26,
    Got (exec cfg 11 (.loop l11_0) [(0, .lst es z r), (1, .lst fs z' r'), (4, t4), (5, .int .i64 i), (10, t10), (14, t14), (26, t26)] h) (fun q => q.2.2 = h ∧
      ((q.1 = .exit 0 ∧ s = t) ∨ (q.1 = .ret ∧ q.2.1.get 4 = .bool false ∧ s ≠ t))) := by
  intro s
  induction s with
  | nil =>
    intro i hd hi t ht hl t4 t10 t14 t26
    have : t = [] := List.length_eq_zero_iff.1 hl.symm
    rw [got_loop]
    simp only [l11_0, k11, Tryz.f11, regEnd_nrm (lv11 _), pu11, x11_0, a11_0, x11_1, a11_1, x11_2, a11_2, x11_3, a11_3, x11_4, a11_4, x11_6, a11_6, x11_7, a11_7, x11_5, a11_5, x11_8, a11_8, sxAll, arithA, Nat.reduceEqDiff, Env.keep, qt_eq, isAlloc, resultsA, packA, storeA, fieldA, indexA, unA, fieldAddrA, Rv.part, cellsAt, TD.isAgg, convH, convA, buildA, fillA, setCells, copies, optA, boundA, mapO, ↓Option.bind_some, ↓Option.bind_none, Nat.reduceBEq, Nat.reduceAdd, Nat.reduceMul, Nat.reduceLeDiff, Nat.reduceSub, Nat.reduceLT, Nat.reduceGT, Int.reduceBEq, Int.reduceLT, Int.reduceLE, bne, ↓reduceIte, lenA_lst, ty28, hes, at_end hd]
    exact ⟨trivial, .inl ⟨trivial, this.symm⟩⟩
  | cons y s ih =>
    intro i hd hi t ht hl t4 t10 t14 t26
    cases t with
    | nil => simp at hl
    | cons w t =>
      obtain ⟨hlt, hget, hd'⟩ := at_drop hd
      obtain ⟨_, hget', ht'⟩ := at_drop ht
      obtain ⟨y1, y2, e1⟩ := g i y hget
      obtain ⟨w1, w2, e2⟩ := g' i w hget'
      have i1 := idx_ll h e1 (z := z) (r := r)
      have i2 := idx_ll h e2 (z := z') (r := r')
      have hw := wrap_succ (i := i) (by omega)
      have hi := ints_eq y w y1 w1 y2 w2 h (hs y (List.mem_of_getElem? hget))
      rw [got_loop]
      by_cases he : y = w
      · have hdm : decide (y = w) = true := by simp [he]
        rw [hdm] at hi
        have := ih (i + 1) hd' (by simp at hlt; omega) t ht' (by simpa using hl)
        simp only [l11_0] at this ⊢
        simp only [k11, Tryz.f11, regEnd_nrm (lv11 _), pu11, x11_0, a11_0, x11_1, a11_1, x11_2, a11_2, x11_3, a11_3, x11_4, a11_4, x11_6, a11_6, x11_7, a11_7, x11_5, a11_5, x11_8, a11_8, sxAll, arithA, Nat.reduceEqDiff, Env.keep, qt_eq, isAlloc, resultsA, packA, storeA, fieldA, indexA, unA, fieldAddrA, Rv.part, cellsAt, TD.isAgg, convH, convA, buildA, fillA, setCells, copies, optA, boundA, mapO, ↓Option.bind_some, ↓Option.bind_none, Nat.reduceBEq, Nat.reduceAdd, Nat.reduceMul, Nat.reduceLeDiff, Nat.reduceSub, Nat.reduceLT, Nat.reduceGT, Int.reduceBEq, Int.reduceLT, Int.reduceLE, bne, ↓reduceIte, s11_6, lenA_lst, ty28, ty29, hes, hlt, i1, i2, load_ll, hi, hw, pu12] at this ⊢
        refine Got.mono (this _ _ _ _) fun q hq => ⟨hq.1, ?_⟩
        rcases hq.2 with ⟨h1, h2⟩ | ⟨h1, h2, h3⟩
        · exact .inl ⟨h1, by rw [h2, he]⟩
        · exact .inr ⟨h1, h2, fun e => h3 (List.cons.inj e).2⟩
      · have hdm : decide (y = w) = false := by simp [he]
        rw [hdm] at hi
        simp only [l11_0, k11, Tryz.f11, regEnd_nrm (lv11 _), pu11, x11_0, a11_0, x11_1, a11_1, x11_2, a11_2, x11_3, a11_3, x11_4, a11_4, x11_6, a11_6, x11_7, a11_7, x11_5, a11_5, x11_8, a11_8, sxAll, arithA, Nat.reduceEqDiff, Env.keep, qt_eq, isAlloc, resultsA, packA, storeA, fieldA, indexA, unA, fieldAddrA, Rv.part, cellsAt, TD.isAgg, convH, convA, buildA, fillA, setCells, copies, optA, boundA, mapO, ↓Option.bind_some, ↓Option.bind_none, Nat.reduceBEq, Nat.reduceAdd, Nat.reduceMul, Nat.reduceLeDiff, Nat.reduceSub, Nat.reduceLT, Nat.reduceGT, Int.reduceBEq, Int.reduceLT, Int.reduceLE, bne, ↓reduceIte, s11_6, lenA_lst, ty28, ty29, hes, hlt, i1, i2, load_ll, hi, pu12]
        exact ⟨trivial, .inr ⟨trivial, by simp [Env.get_cons], fun e => he (List.cons.inj e).1⟩⟩
include hes hfs g g' hn hs in
theorem lists_eq : call cfg 11 [.lst es z r, .lst fs z' r'] h = some (.ret (.bool (decide (Xs = Ys))), h) := by
  rw [call11]
  by_cases hl : Xs.length = Ys.length
  · obtain ⟨⟨o, e', h'⟩, hx, hh, hq⟩ := lists_loop Xs Ys es fs z z' r r' h hes g g' hn hs Xs 0 (by simp) (by omega) Ys (by simp) hl (.bool false) (.bool false) .junk .junk
    simp only [Int.natCast_zero] at hx hh hq
    subst hh
    have hll : ((Xs.length : Int) == (Ys.length : Int)) = true := by simp [hl]
    rcases hq with ⟨rfl, h1⟩ | ⟨rfl, h1, h2⟩
    · simp only [k11, Tryz.f11, regEnd_nrm (lv11 _), pu11, x11_0, a11_0, x11_1, a11_1, x11_2, a11_2, x11_3, a11_3, x11_4, a11_4, x11_6, a11_6, x11_7, a11_7, x11_5, a11_5, x11_8, a11_8, sxAll, arithA, Nat.reduceEqDiff, Env.keep, qt_eq, isAlloc, resultsA, packA, storeA, fieldA, indexA, unA, fieldAddrA, Rv.part, cellsAt, TD.isAgg, convH, convA, buildA, fillA, setCells, copies, optA, boundA, mapO, ↓Option.bind_some, ↓Option.bind_none, Nat.reduceBEq, Nat.reduceAdd, Nat.reduceMul, Nat.reduceLeDiff, Nat.reduceSub, Nat.reduceLT, Nat.reduceGT, Int.reduceBEq, Int.reduceLT, Int.reduceLE, bne, ↓reduceIte, lenA_lst, ty28, hes, hfs, hll, hx, eq_true h1, decide_true]
      exact leave_kept rfl rfl
    · simp only [k11, Tryz.f11, regEnd_nrm (lv11 _), pu11, x11_0, a11_0, x11_1, a11_1, x11_2, a11_2, x11_3, a11_3, x11_4, a11_4, x11_6, a11_6, x11_7, a11_7, x11_5, a11_5, x11_8, a11_8, sxAll, arithA, Nat.reduceEqDiff, Env.keep, qt_eq, isAlloc, resultsA, packA, storeA, fieldA, indexA, unA, fieldAddrA, Rv.part, cellsAt, TD.isAgg, convH, convA, buildA, fillA, setCells, copies, optA, boundA, mapO, ↓Option.bind_some, ↓Option.bind_none, Nat.reduceBEq, Nat.reduceAdd, Nat.reduceMul, Nat.reduceLeDiff, Nat.reduceSub, Nat.reduceLT, Nat.reduceGT, Int.reduceBEq, Int.reduceLT, Int.reduceLE, bne, ↓reduceIte, lenA_lst, ty28, hes, hfs, hll, hx, h1, h2, decide_false]
      exact leave_kept rfl rfl
  · have hne : Xs ≠ Ys := fun e => hl (by rw [e])
    have hll : ((Xs.length : Int) == (Ys.length : Int)) = false := by simp; omega
    simp only [k11, Tryz.f11, regEnd_nrm (lv11 _), pu11, x11_0, a11_0, x11_1, a11_1, x11_2, a11_2, x11_3, a11_3, x11_4, a11_4, x11_6, a11_6, x11_7, a11_7, x11_5, a11_5, x11_8, a11_8, sxAll, arithA, Nat.reduceEqDiff, Env.keep, qt_eq, isAlloc, resultsA, packA, storeA, fieldA, indexA, unA, fieldAddrA, Rv.part, cellsAt, TD.isAgg, convH, convA, buildA, fillA, setCells, copies, optA, boundA, mapO, ↓Option.bind_some, ↓Option.bind_none, Nat.reduceBEq, Nat.reduceAdd, Nat.reduceMul, Nat.reduceLeDiff, Nat.reduceSub, Nat.reduceLT, Nat.reduceGT, Int.reduceBEq, Int.reduceLT, Int.reduceLE, bne, ↓reduceIte, lenA_lst, ty28, hes, hfs, hll, hne, decide_false]
    exact leave_kept rfl rfl
end
end
end Go.Proofs.Sx

/-
  bobbinlaw17.works answers true.
-/
set_option linter.unusedSimpArgs false
set_option linter.unusedVariables false
set_option maxRecDepth 100000
set_option maxHeartbeats 8000000
namespace Go.Rv
/-- How a pure call ends: its value made immutable, the heap cut off again. -/
noncomputable def endP (C : Cfg) (rs : List ResultVar) (n : Nat) : KR (Out × Env × Heap) → Option (AV × Heap)
  | .ok (.nrm, e, h) | .ok (.ret, e, h) => (resultsA C h e rs).bind fun vs => (freezeV h n 40 (packA vs)).map fun v => (v, h.take n)
  | _ => none
theorem pure_run {C : Cfg} {f k n : Nat} {c : Code} {e : Env} {h : Heap} {rs : List ResultVar} {v : AV} (hp : C.pure f = true) (hn : h.length = n) (hr : endP C rs n (execK C k f c e h) = some (v, h)) :
    (exec C f c e h).bind (callEnd C f h rs) = some (.ret v, h) := by
  cases hx : execK C k f c e h with
  | bad a b => rw [hx] at hr; simp [endP] at hr
  | ok x =>
    rw [exec_of_run C hx]
    rw [hx] at hr
    obtain ⟨o, e1, h1⟩ := x
    have key : ((resultsA C h1 e1 rs).bind fun vs => (freezeV h1 n 40 (packA vs)).map fun v => (v, h1.take n)) = some (v, h) → ((resultsA C h1 e1 rs).bind fun vs => leaveA C f h (packA vs) h1) = some (.ret v, h) := by
      intro H
      obtain ⟨vs, a1, a2⟩ := Option.bind_eq_some_iff.1 H
      obtain ⟨w, b1, b2⟩ := Option.map_eq_some_iff.1 a2
      simp only [Prod.mk.injEq] at b2
      rw [a1]
      exact leave_pure hp (by rw [hn]; exact b2.2) (by rw [hn, b1, b2.1])
    cases o with
    | nrm => exact key hr
    | ret => exact key hr
    | exit id => simp [endP] at hr
    | pan v => simp [endP] at hr
end Go.Rv
namespace Go.Proofs.Sx
open Go.Rv Go.Proofs
attribute [local congr] bind_left got_left
noncomputable section

theorem rch_trans {CS : List (List Int)} (ht : ∀ k j x, j ∈ csOf CS k → x ∈ csOf CS j → x ∈ csOf CS k) {k x : Int} (h : Rch CS k x) : x ∈ csOf CS k := by
  induction h with
  | one h => exact h
  | step h _ ih => exact ht _ _ _ h ih
theorem reachOf_trans (CS : List (List Int)) (N : Nat) (ht : ∀ k j x, j ∈ csOf CS k → x ∈ csOf CS j → x ∈ csOf CS k) (k : Int) : reachOf CS N k = ((List.range N).map Int.ofNat).filter fun x => decide (x ∈ csOf CS k) := by
  unfold reachOf
  exact List.filter_congr fun x _ => decide_eq_decide.2 ⟨rch_trans ht, .one⟩

def callI (j : Int) : SIns := ⟨10, 0, 0, 0, j, [], 0, .nil⟩
def retI : SIns := ⟨13, 0, 0, 0, 0, [], 0, .nil⟩
/-- The first example. -/
def P1 : SProg := ⟨[], 0, .nil, [], 0, .nil, [⟨[97], false, 0, 1, [callI 1, retI], 6, .open⟩, ⟨[98], false, 0, 1, [retI], 6, .open⟩, ⟨[99], true, 0, 1, [callI 0, callI 1, retI], 6, .open⟩], 5, .open⟩
/-- The second one. -/
def P2 : SProg := ⟨[], 0, .nil, [], 0, .nil, [⟨[97], false, 0, 1, [callI 0, retI], 6, .open⟩, ⟨[98], true, 0, 1, [retI], 6, .open⟩], 5, .open⟩
theorem ins_wf_of (j : Int) : (callI j).wf ∧ retI.wf := by simp [SIns.wf, callI, retI]
theorem P1_wf : P1.wf := by
  simp [SProg.wf, SFun.wf, SIns.wf, P1, callI, retI]
theorem P2_wf : P2.wf := by
  simp [SProg.wf, SFun.wf, SIns.wf, P2, callI, retI]
theorem P1_may : mayP P1 = true := by kernel_rfl
theorem P2_may : mayP P2 = true := by kernel_rfl
theorem P1_cs : csP P1 = [[1], [], [0, 1]] := by kernel_rfl
theorem P2_cs : csP P2 = [[0], []] := by kernel_rfl
theorem P1_trans : ∀ k j x : Int, j ∈ csOf [[1], [], [0, 1]] k → x ∈ csOf [[1], [], [0, 1]] j → x ∈ csOf [[1], [], [0, 1]] k := by
  intro k j x hj hx
  unfold csOf at *
  generalize k.toNat = m at hj ⊢
  rcases m with _ | _ | _ | n <;> simp at hj
  · subst hj; simp at hx
  · rcases hj with rfl | rfl <;> simp at hx
    subst hx; simp
theorem P1_reach : reachLs [[1], [], [0, 1]] 3 = [[1], [], [0, 1]] := by
  unfold reachLs
  simp only [reachOf_trans _ 3 P1_trans]
  kernel_rfl
theorem P1_self : ¬ selfR P1 := by
  rintro ⟨k, hk, hm⟩
  rw [P1_cs, reachOf_trans _ _ P1_trans] at hm
  have hk : k < 3 := hk
  have hm := (List.mem_filter.1 hm).2
  simp only [decide_eq_true_eq] at hm
  rcases k with _ | _ | _ | k
  · simp [csOf] at hm
  · simp [csOf] at hm
  · simp [csOf] at hm
  · omega
theorem P2_self : selfR P2 := by
  refine ⟨0, by decide, ?_⟩
  rw [reachOf_mem _ _ _ _ (csP_rng (fits_may P2_may)), P2_cs]
  exact .one (by simp [csOf])
theorem P1_row : rowGo [[1], [], [0, 1]] 3 3 [] = [1, 0, 2] := by kernel_rfl
theorem P1_turned : turnedL [[1], [], [0, 1]] = [[2], [0, 2], []] := by kernel_rfl
theorem P1_roots : rootsGo P1 P1.funs 0 [[2], [0, 2], []] = [[2], [2], [2]] := by kernel_rfl

abbrev intA (n : Int) : AV := .int .i64 n
def arg1 : AV := .lst [.lst [intA 1] 1 (.exact 1), .lst [] 0 .nil, .lst [intA 0, intA 1] 1 (.exact 2)] 1 (.exact 3)
def arg2 : AV := .lst [.lst [intA 0] 1 (.exact 1), .lst [] 0 .nil] 1 (.exact 2)
theorem lv13 (r : Nat) : cfg.live 13 r = some [0, 2, 3, 4, 5, 6, 10, 30] := rfl
theorem ok13 : okB cfg0 13 Tryz.f13 (Tryz.f13.body.getD .skip) = true := by kernel_rfl
theorem pu13 : cfg.pure 13 = true := rfl
instance tight13 {d : Option Nat} : TightD cfg 13 d := ⟨fun _ _ => rfl⟩
def a13_0 : Array Oper := codeOps (codeAt [false] (Tryz.f13.body.getD .skip))
def b13_0 : Array Oper := a13_0
def r13_0 : Code := .region 0 a13_0 false
theorem x13_0 (e : Env) (h : Heap) : exec cfg 13 r13_0 e h = (ops cfg 13 b13_0 (a13_0.toList) e h).bind (regEnd cfg 13 0 false) := region_at _ _ _ _ _ _ _
def a13_1 : Array Oper := codeOps (codeAt [true, false] (Tryz.f13.body.getD .skip))
def b13_1 : Array Oper := a13_1
def r13_1 : Code := .region 1 a13_1 false
theorem x13_1 (e : Env) (h : Heap) : exec cfg 13 r13_1 e h = (ops cfg 13 b13_1 (a13_1.toList) e h).bind (regEnd cfg 13 1 false) := region_at _ _ _ _ _ _ _
def a13_2 : Array Oper := codeOps (codeAt [true, true, false, false] (Tryz.f13.body.getD .skip))
def b13_2 : Array Oper := a13_2
def r13_2 : Code := .region 2 a13_2 false
theorem x13_2 (e : Env) (h : Heap) : exec cfg 13 r13_2 e h = (ops cfg 13 b13_2 (a13_2.toList) e h).bind (regEnd cfg 13 2 false) := region_at _ _ _ _ _ _ _
def a13_3 : Array Oper := codeOps (codeAt [true, true, false, true, false, false, false, false] (Tryz.f13.body.getD .skip))
def b13_3 : Array Oper := a13_3
def r13_3 : Code := .region 3 a13_3 false
theorem x13_3 (e : Env) (h : Heap) : exec cfg 13 r13_3 e h = (ops cfg 13 b13_3 (a13_3.toList) e h).bind (regEnd cfg 13 3 false) := region_at _ _ _ _ _ _ _
def a13_5 : Array Oper := codeOps (codeAt [true, true, false, true, false, false, true, false, false, false] (Tryz.f13.body.getD .skip))
def b13_5 : Array Oper := a13_5
def r13_5 : Code := .region 5 a13_5 false
theorem im13_16 : cfg.imm 13 16 = false := by kernel_rfl
theorem x13_5 (e : Env) (h : Heap) : exec cfg 13 r13_5 e h = (ops cfg 13 b13_5 (a13_5.toList) e h).bind (regEnd cfg 13 5 false) := region_at _ _ _ _ _ _ _
def a13_6 : Array Oper := codeOps (codeAt [true, true, false, true, false, false, true, false, false, true, false, false] (Tryz.f13.body.getD .skip))
def b13_6 : Array Oper := a13_6
def r13_6 : Code := .region 6 a13_6 false
theorem x13_6 (e : Env) (h : Heap) : exec cfg 13 r13_6 e h = (ops cfg 13 b13_6 (a13_6.toList) e h).bind (regEnd cfg 13 6 false) := region_at _ _ _ _ _ _ _
def a13_7 : Array Oper := codeOps (codeAt [true, true, false, true, false, false, true, false, false, true, false, true, false, false, false, false] (Tryz.f13.body.getD .skip))
def b13_7 : Array Oper := a13_7
def r13_7 : Code := .region 7 a13_7 false
theorem x13_7 (e : Env) (h : Heap) : exec cfg 13 r13_7 e h = (ops cfg 13 b13_7 (a13_7.toList) e h).bind (regEnd cfg 13 7 false) := region_at _ _ _ _ _ _ _
def a13_9 : Array Oper := codeOps (codeAt [true, true, false, true, false, false, true, false, false, true, false, true, false, false, true, false, false] (Tryz.f13.body.getD .skip))
def b13_9 : Array Oper := a13_9
def r13_9 : Code := .region 9 a13_9 true
theorem im13_43 : cfg.imm 13 43 = true := by kernel_rfl
theorem s13_9 : sched a13_9 true = a13_9.toList := by kernel_rfl
theorem x13_9 (e : Env) (h : Heap) : exec cfg 13 r13_9 e h = (ops cfg 13 b13_9 (a13_9.toList) e h).bind (regEnd cfg 13 9 true) := (region_at _ _ _ _ _ _ _).trans (by rw [s13_9]; rfl)
def a13_8 : Array Oper := codeOps (codeAt [true, true, false, true, false, false, true, false, false, true, false, true, false, false, true, true] (Tryz.f13.body.getD .skip))
def b13_8 : Array Oper := a13_8
def r13_8 : Code := .region 8 a13_8 false
theorem x13_8 (e : Env) (h : Heap) : exec cfg 13 r13_8 e h = (ops cfg 13 b13_8 (a13_8.toList) e h).bind (regEnd cfg 13 8 false) := region_at _ _ _ _ _ _ _
def a13_10 : Array Oper := codeOps (codeAt [true, true, false, true, false, false, true, false, false, true, true, false] (Tryz.f13.body.getD .skip))
def b13_10 : Array Oper := a13_10
def r13_10 : Code := .region 10 a13_10 false
theorem im13_49 : cfg.imm 13 49 = true := by kernel_rfl
theorem x13_10 (e : Env) (h : Heap) : exec cfg 13 r13_10 e h = (ops cfg 13 b13_10 (a13_10.toList) e h).bind (regEnd cfg 13 10 false) := region_at _ _ _ _ _ _ _
def a13_11 : Array Oper := codeOps (codeAt [true, true, false, true, false, false, true, false, false, true, true, true] (Tryz.f13.body.getD .skip))
def b13_11 : Array Oper := a13_11
def r13_11 : Code := .region 11 a13_11 false
theorem im13_55 : cfg.imm 13 55 = true := by kernel_rfl
theorem x13_11 (e : Env) (h : Heap) : exec cfg 13 r13_11 e h = (ops cfg 13 b13_11 (a13_11.toList) e h).bind (regEnd cfg 13 11 false) := region_at _ _ _ _ _ _ _
def a13_4 : Array Oper := codeOps (codeAt [true, true, false, true, false, false, true, true] (Tryz.f13.body.getD .skip))
def b13_4 : Array Oper := a13_4
def r13_4 : Code := .region 4 a13_4 false
theorem x13_4 (e : Env) (h : Heap) : exec cfg 13 r13_4 e h = (ops cfg 13 b13_4 (a13_4.toList) e h).bind (regEnd cfg 13 4 false) := region_at _ _ _ _ _ _ _
def a13_12 : Array Oper := codeOps (codeAt [true, true, true, false] (Tryz.f13.body.getD .skip))
def b13_12 : Array Oper := a13_12
def r13_12 : Code := .region 12 a13_12 false
theorem x13_12 (e : Env) (h : Heap) : exec cfg 13 r13_12 e h = (ops cfg 13 b13_12 (a13_12.toList) e h).bind (regEnd cfg 13 12 false) := region_at _ _ _ _ _ _ _
def l13_1 : Code := (.seq (.seq r13_7 (.cond (.tmp 30) .skip (.exit 2))) (.seq (.block 3 r13_9) r13_8))
def l13_0 : Code := (.seq (.seq r13_3 (.cond (.tmp 10) .skip (.exit 0))) (.seq (.block 1 (.seq r13_5 (.seq (.seq r13_6 (.block 2 (.loop l13_1))) (.seq r13_10 r13_11)))) r13_4))
def k13 : Code := (.seq r13_0 (.seq r13_1 (.seq (.seq r13_2 (.block 0 (.loop l13_0))) (.seq r13_12 .ret))))
theorem body13 : Tryz.f13.body = some k13 := by kernel_rfl
theorem call13 (x0 : AV) (h : Heap) : call cfg 13 [x0] h = (exec cfg 13 k13 [(0, x0)] h).bind (callEnd cfg 13 h [.cell 2 26]) := call_at2 (fnat Tryz.func13 body13 (by rw [← ok13]; kernel_rfl)) rfl rfl
theorem funs_run1 : call cfg 13 [arg1] [] = some (.ret (.agg P1.cells), []) := by
  rw [call13]
  exact pure_run (k := 400) (n := 0) rfl rfl (by kernel_rfl)
theorem funs_run2 (cs : List AV) : call cfg 13 [arg2] [.cells cs 0] = some (.ret (.agg P2.cells), [.cells cs 0]) := by
  rw [call13]
  exact pure_run (k := 400) (n := 1) rfl rfl (by kernel_rfl)

def lits (l : List (List Int)) : List AV := l.map fun x => if x = [] then .lst [] 0 .nil else .lst (intL x) 1 (.exact x.length)
theorem lits_get (l : List (List Int)) : ∀ (k : Nat) xs, l[k]? = some xs → ∃ z r, (lits l)[k]? = some (.lst (intL xs) z r) := by
  intro k xs h
  rw [lits, List.getElem?_map, h]
  by_cases hx : xs = []
  · subst hx; exact ⟨_, _, rfl⟩
  · exact ⟨1, .exact xs.length, by simp [hx]⟩
theorem lits_says (X : List (List Int)) (es : List AV) (z : Nat) (r : Room) (z' : Nat) (r' : Room) (h : Heap) (hes : es.length = X.length) (g : ∀ (k : Nat) xs, X[k]? = some xs → ∃ z r, es[k]? = some (.lst (intL xs) z r))
    (hX : X.length < 1000000000) (hs : ∀ l ∈ X, l.length < 1000000000) : call cfg 11 [.lst es z r, .lst (lits X) z' r'] h = some (.ret (.bool true), h) := by
  have := lists_eq X X es (lits X) z z' r r' h hes (by simp [lits]) g (lits_get X) hX hs
  simpa using this

theorem one_lst (xs : List AV) (z : Nat) (r : Room) : Rv.one (.lst xs z r) = .lst xs z r := rfl
theorem one_int (k : IntKind) (n : Int) : Rv.one (.int k n) = .int k n := rfl
theorem lv6 (r : Nat) : cfg.live 6 r = some [0, 1, 2, 4] := rfl
theorem ok6 : okB cfg0 6 Tryz.f6 (Tryz.f6.body.getD .skip) = true := by kernel_rfl
theorem pu6 : cfg.pure 6 = true := rfl
instance tight6 {d : Option Nat} : TightD cfg 6 d := ⟨fun _ _ => rfl⟩
def a6_0 : Array Oper := codeOps (codeAt [false] (Tryz.f6.body.getD .skip))
def b6_0 : Array Oper := a6_0
def r6_0 : Code := .region 0 a6_0 false
theorem x6_0 (e : Env) (h : Heap) : exec cfg 6 r6_0 e h = (ops cfg 6 b6_0 (a6_0.toList) e h).bind (regEnd cfg 6 0 false) := region_at _ _ _ _ _ _ _
def a6_1 : Array Oper := codeOps (codeAt [true, false] (Tryz.f6.body.getD .skip))
def b6_1 : Array Oper := a6_1
def r6_1 : Code := .region 1 a6_1 false
theorem im6_6 : cfg.imm 6 6 = true := by kernel_rfl
theorem im6_7 : cfg.imm 6 7 = true := by kernel_rfl
theorem im6_8 : cfg.imm 6 8 = true := by kernel_rfl
theorem x6_1 (e : Env) (h : Heap) : exec cfg 6 r6_1 e h = (ops cfg 6 b6_1 (a6_1.toList) e h).bind (regEnd cfg 6 1 false) := region_at _ _ _ _ _ _ _
def a6_2 : Array Oper := codeOps (codeAt [true, true, false] (Tryz.f6.body.getD .skip))
def b6_2 : Array Oper := a6_2
def r6_2 : Code := .region 2 a6_2 false
theorem im6_14 : cfg.imm 6 14 = true := by kernel_rfl
theorem im6_15 : cfg.imm 6 15 = true := by kernel_rfl
theorem x6_2 (e : Env) (h : Heap) : exec cfg 6 r6_2 e h = (ops cfg 6 b6_2 (a6_2.toList) e h).bind (regEnd cfg 6 2 false) := region_at _ _ _ _ _ _ _
def a6_3 : Array Oper := codeOps (codeAt [true, true, true, false] (Tryz.f6.body.getD .skip))
def b6_3 : Array Oper := a6_3
def r6_3 : Code := .region 3 a6_3 false
theorem im6_25 : cfg.imm 6 25 = true := by kernel_rfl
theorem im6_26 : cfg.imm 6 26 = true := by kernel_rfl
theorem im6_27 : cfg.imm 6 27 = true := by kernel_rfl
theorem im6_33 : cfg.imm 6 33 = true := by kernel_rfl
theorem im6_34 : cfg.imm 6 34 = true := by kernel_rfl
theorem im6_35 : cfg.imm 6 35 = true := by kernel_rfl
theorem im6_41 : cfg.imm 6 41 = true := by kernel_rfl
theorem im6_42 : cfg.imm 6 42 = true := by kernel_rfl
theorem im6_43 : cfg.imm 6 43 = true := by kernel_rfl
theorem im6_49 : cfg.imm 6 49 = true := by kernel_rfl
theorem im6_50 : cfg.imm 6 50 = true := by kernel_rfl
theorem im6_51 : cfg.imm 6 51 = true := by kernel_rfl
theorem im6_52 : cfg.imm 6 52 = true := by kernel_rfl
theorem im6_58 : cfg.imm 6 58 = true := by kernel_rfl
theorem x6_3 (e : Env) (h : Heap) : exec cfg 6 r6_3 e h = (ops cfg 6 b6_3 (a6_3.toList) e h).bind (regEnd cfg 6 3 false) := region_at _ _ _ _ _ _ _
theorem g6_3_2 : (b6_3[2]?).bind (·.dst) = some 22 := by kernel_rfl
theorem g6_3_10 : (b6_3[10]?).bind (·.dst) = some 30 := by kernel_rfl
theorem g6_3_18 : (b6_3[18]?).bind (·.dst) = some 38 := by kernel_rfl
theorem g6_3_26 : (b6_3[26]?).bind (·.dst) = some 46 := by kernel_rfl
theorem g6_3_35 : (b6_3[35]?).bind (·.dst) = some 55 := by kernel_rfl
theorem g6_3_41 : (b6_3[41]?).bind (·.dst) = some 61 := by kernel_rfl
def k6 : Code := (.seq r6_0 (.seq r6_1 (.seq r6_2 (.seq r6_3 .ret))))
theorem body6 : Tryz.f6.body = some k6 := by kernel_rfl
theorem call6 (h : Heap) : call cfg 6 [] h = (exec cfg 6 k6 [] h).bind (callEnd cfg 6 h [.tmp 0]) := call_at2 (fnat Tryz.func6 body6 (by rw [← ok6]; kernel_rfl)) rfl rfl
theorem works_eq : call cfg 6 [] [] = some (.ret (.bool true), []) := by
  obtain ⟨v, hv, hA⟩ := callsOf_eq P1 [] P1_wf
  rcases hA with ⟨hm, _⟩ | ⟨_, hs, _⟩ | ⟨_, _, a0, a1, a2, a3, z, r, rfl, ⟨es0, z0, r0, rfl, l0, g0⟩, ⟨es1, z1, r1, rfl, l1, g1⟩, ⟨es2, z2, r2, rfl, l2, g2⟩, ⟨es3, z3, r3, rfl, l3, g3⟩⟩
  · rw [P1_may] at hm; cases hm
  · exact absurd hs P1_self
  have hN : P1.funs.length = 3 := rfl
  rw [hN, P1_cs, P1_reach] at l2 g2 l3 g3
  rw [P1_turned, P1_roots] at l3 g3
  rw [P1_cs, P1_turned] at l1 g1
  rw [P1_cs] at l0 g0
  rw [hN, P1_cs, P1_row] at hv
  have hw : ∀ h, ∃ v, call cfg 7 [.agg P2.cells] h = some (.ret v, h) ∧ v = .tup [.agg nils, .int .i64 67] := fun h => by
    obtain ⟨w, hw, hB⟩ := callsOf_eq P2 h P2_wf
    rcases hB with ⟨hm, _⟩ | ⟨_, _, rfl⟩ | ⟨_, hno, _⟩
    · rw [P2_may] at hm; cases hm
    · exact ⟨_, hw, rfl⟩
    · exact absurd P2_self hno
  have hw2 : ∀ h, call cfg 7 [.agg P2.cells] h = some (.ret (.tup [.agg nils, .int .i64 67]), h) := fun h => by
    obtain ⟨v, h1, rfl⟩ := hw h; exact h1
  have L0 := fun h => lits_says _ es0 z0 r0 1 (.exact 3) h l0 g0 (by simp) (by simp)
  have L1 := fun h => lits_says _ es1 z1 r1 1 (.exact 3) h l1 g1 (by simp) (by simp)
  have L2 := fun h => lits_says _ es2 z2 r2 1 (.exact 3) h l2 g2 (by simp) (by simp)
  have L3 := fun h => lits_says _ es3 z3 r3 1 (.exact 3) h l3 g3 (by simp) (by simp)
  have L4 : ∀ h, call cfg 12 [.lst (intL [1, 0, 2]) z r, .lst (intL [1, 0, 2]) 1 (.exact 3)] h = some (.ret (.bool true), h) := fun h => by
    have := ints_eq [1, 0, 2] [1, 0, 2] z 1 r (.exact 3) h (by simp)
    simpa using this
  have f1 := funs_run1
  have f2 := funs_run2
  generalize P1.cells = p1 at f1 hv
  generalize P2.cells = p2 at f2 hw2
  simp only [arg1, arg2, intA] at f1 f2
  simp only [lits, intL, List.map_cons, List.map_nil, reduceCtorEq, if_false, if_true, List.length_cons, List.length_nil] at L0 L1 L2 L3 L4
  simp only [nils] at hw2
  rw [call6]
  simp only [intL, List.map_cons, List.map_nil] at hv
  simp only [k6, Tryz.f6, regEnd_nrm (lv6 _), pu6, x6_0, a6_0, x6_1, a6_1, im6_6, im6_7, im6_8, x6_2, a6_2, im6_14, im6_15, x6_3, a6_3, im6_25, im6_26, im6_27, im6_33, im6_34, im6_35, im6_41, im6_42, im6_43, im6_49, im6_50, im6_51, im6_52, im6_58, sx_guardO g6_3_2, sx_guardO g6_3_10, sx_guardO g6_3_18, sx_guardO g6_3_26, sx_guardO g6_3_35, sx_guardO g6_3_41, sxAll, arithA, Nat.reduceEqDiff, Env.keep, qt_eq, isAlloc, resultsA, packA, storeA, fieldA, indexA, unA, fieldAddrA, Rv.part, cellsAt, TD.isAgg, convH, convA, buildA, fillA, setCells, copies, optA, boundA, mapO, ↓Option.bind_some, ↓Option.bind_none, Nat.reduceBEq, Nat.reduceAdd, Nat.reduceMul, Nat.reduceLeDiff, Nat.reduceSub, Nat.reduceLT, Nat.reduceGT, Int.reduceBEq, Int.reduceLT, Int.reduceLE, bne, ↓reduceIte, load_ptr, ty26, ty28, ty29, ty3, ty31, ty32, ty4, f1, f2, hv, hw2, L0, L1, L2, L3, L4, pu13, pu7, pu11, pu12, group, one_lst, one_int]
  exact leave_pure rfl rfl rfl
end
end Go.Proofs.Sx

/-
  What closes a card of this family: the listed variables, the witness's world, an argument that reads as it did.
-/
set_option linter.unusedSimpArgs false
set_option linter.unusedVariables false
set_option maxRecDepth 100000
namespace Go.Proofs.Sx
open Go.Rv Go.Proofs Go.Proofs.YtegcmgjdaoiaoaaGreatDoor Go.ChangeShapes Go.WideShapes Go.ChangeAt Go.RowKit
noncomputable section
def lawLaid : List (String × DataW Unit) := Rows.callsBackUptoRow.laid
theorem lawOwn : ownKnob Tryz.prog.godebug = none := by kernel_rfl
theorem sx_close : ∀ g v, told.glob g = some v → ∀ h, freezeV h 0 40 v = some v := fun g v hg h => by
  have hg : glb g = some v := hg
  unfold glb at hg
  split at hg
  · injection hg with hg; subst hg; exact congrFun (show (fun h => freezeV h 0 40 (.ref wordCells)) = (fun h => some (.ref wordCells)) by kernel_rfl) h
  · injection hg with hg; subst hg; exact congrFun (show (fun h => freezeV h 0 40 (.ref opCells)) = (fun h => some (.ref opCells)) by kernel_rfl) h
  · cases hg
theorem sx_glob {w : World} (hL : laidMetH Tryz.prog lawLaid w) : ∀ g v, told.glob g = some v → v ≠ .junk ∧ VR (old w) [] w v (.pointer (some ⟨g, 0, none⟩)) := fun g v hg => by
  have hg : glb g = some v := hg
  rw [MakeChecks.laidMetH_plain _ _ _ (by kernel_rfl)] at hL
  obtain ⟨ps, ⟨_, _, _, _, _, _, _, _, _, _, ⟨g1, t1, cs1, fuel1, p1, q1, hg1, ht1, hv1, hd1, ⟨g2, t2, cs2, fuel2, p2, q2, hg2, ht2, hv2, hd2, _, _⟩, _⟩, _⟩, _, _⟩ := hL
  unfold glb at hg
  split at hg
  · injection hg with hg; subst hg
    obtain rfl := Option.some.inj ((show Tryz.prog.globalNamed (lawLaid.getD 1 default).1 = some 0 by kernel_rfl).symm.trans hg1)
    have := ht1
    exact glob_rel hg1 hv1 hd1 (by obtain rfl := Option.some.inj (ht1.symm.trans (show (Tryz.prog.globals[0]?).map (·.type) = some 97 by kernel_rfl)); kernel_rfl)
  · injection hg with hg; subst hg
    obtain rfl := Option.some.inj ((show Tryz.prog.globalNamed (lawLaid.getD 2 default).1 = some 1 by kernel_rfl).symm.trans hg2)
    exact glob_rel hg2 hv2 hd2 (by obtain rfl := Option.some.inj (ht2.symm.trans (show (Tryz.prog.globals[1]?).map (·.type) = some 128 by kernel_rfl)); kernel_rfl)
  · cases hg
def lawWorld (os : Os) : World := World.laidAll Tryz.prog os lawLaid
theorem law_met (os : Os) (args : Array Value) : laidMet Tryz.prog lawLaid ((lawWorld os).forCall (fun _ _ => 0) ⟨#[], args, []⟩).memory := laidMet_laidAll args (by kernel_rfl) (by kernel_rfl)
def noProg : Value := .agg #[.slice none 0 0, .slice none 0 0, .slice none 0 0]
/-- A program that was read reads the same behind the call. -/
theorem stays {H : Type} {enc : TypeId × Value → H} {W W' : World} {v : Value} {d : DataW H} {ps : List MemPlace} {sp : Nat → Bool} (h : DataW.Trod enc Tryz.prog W 0 (fun _ => true) true 26 v d ps) (hb : Below W.heap.size W W') (hlt : ∀ x ∈ ps, x.block < W.heap.size) (hsp : ∀ x ∈ ps, sp x.block = true) :
    DataW.Trod enc Tryz.prog W' 0 sp true 26 v d ps := WideElems.Trod_stays (by kernel_rfl) (by kernel_rfl) (by show 26 < Tryz.prog.types.size; decide +kernel) h (fun x hx => hb.same (hlt x hx)) hsp
end
end Go.Proofs.Sx

/-
  The plain law of calls: with one call less nobody calls, or reaches, more.
-/
set_option linter.unusedSimpArgs false
set_option linter.unusedVariables false
namespace Go.Proofs.Sx
open Go.Rv Go.Proofs
noncomputable section

theorem calleeKeys_mem : ∀ (l : List SIns) (ks : List Int) (j : Int), j ∈ calleeKeys l ks ↔ j ∈ ks ∨ ∃ i ∈ l, i.op = 10 ∧ i.n = j
  | [], ks, j => by simp [calleeKeys]
  | i :: r, ks, j => by
    have e : calleeKeys (i :: r) ks = calleeKeys r (if i.op == 10 then addKey ks i.n else ks) := rfl
    rw [e, calleeKeys_mem r _ j]
    have hk : j ∈ (if i.op == 10 then addKey ks i.n else ks) ↔ j ∈ ks ∨ (i.op = 10 ∧ i.n = j) := by
      by_cases ho : i.op = 10
      · simp only [ho, beq_self_eq_true, if_true, addKey, true_and]
        split
        · rename_i h
          constructor
          · exact .inl
          · rintro (h' | h')
            · exact h'
            · rw [← h']; exact h
        · simp [eq_comm]
      · have : (i.op == 10) = false := by simp [ho]
        simp [this, ho]
    rw [hk]
    constructor
    · rintro ((h | h) | ⟨x, h1, h2⟩)
      · exact .inl h
      · exact .inr ⟨i, List.mem_cons_self .., h⟩
      · exact .inr ⟨x, List.mem_cons_of_mem _ h1, h2⟩
    · rintro (h | ⟨x, h1, h2⟩)
      · exact .inl (.inl h)
      · rcases List.mem_cons.1 h1 with h1 | h1
        · subst h1; exact .inl (.inr h2)
        · exact .inr ⟨x, h1, h2⟩
theorem calleesOf_mem (f : SFun) (j : Int) : j ∈ calleesOf f ↔ ∃ i ∈ f.code, i.op = 10 ∧ i.n = j := by
  rw [calleesOf, isort_mem, calleeKeys_mem]; simp

/-- An instruction that calls nobody. -/
def setIns (r : Int) : SIns := ⟨1, r, 0, 0, 0, [], 0, .nil⟩
def lessF (f : SFun) (n : Nat) (r : Int) (room : Room) : SFun := { f with code := f.code.set n (setIns r), cz := 6, room := room }
def lessP (p : SProg) (k n : Nat) (f : SFun) (r : Int) (room froom : Room) : SProg := { p with funs := p.funs.set k (lessF f n r room), fz := 5, froom := froom }

section
variable {p : SProg} {k n : Nat} {f : SFun} {i : SIns} (hf : p.funs[k]? = some f) (hi : f.code[n]? = some i) (ho : i.op = 10) (room froom : Room)
include hf in
theorem less_get (a : Nat) : (lessP p k n f i.r room froom).funs[a]? = if a = k then some (lessF f n i.r room) else p.funs[a]? := by
  have hk := (List.getElem?_eq_some_iff.1 hf).1
  by_cases h : a = k
  · subst h; simp [lessP, List.getElem?_set_self hk]
  · rw [if_neg h]; simp only [lessP]; rw [List.getElem?_set_ne (Ne.symm h)]
include hf in
/-- What of a Fun is looked at from without is the same. -/
theorem less_seen {α : Type} (g : SFun → α) (hg : g (lessF f n i.r room) = g f) (a : Nat) : ((lessP p k n f i.r room froom).funs[a]?).map g = (p.funs[a]?).map g := by
  rw [less_get hf room froom]
  by_cases h : a = k
  · subst h; rw [if_pos rfl, hf]; simp [hg]
  · rw [if_neg h]
include hf in
theorem less_map {α : Type} (g : SFun → α) (hg : g (lessF f n i.r room) = g f) : (lessP p k n f i.r room froom).funs.map g = p.funs.map g := by
  apply List.ext_getElem?
  intro a
  rw [List.getElem?_map, List.getElem?_map]
  exact less_seen hf room froom g hg a
include hf in
theorem less_thr (j : Int) : thrB (lessP p k n f i.r room froom) j = thrB p j := by
  have := less_seen (n := n) (i := i) hf room froom SFun.thread rfl j.toNat
  unfold thrB
  cases h1 : (lessP p k n f i.r room froom).funs[j.toNat]? <;> cases h2 : p.funs[j.toNat]? <;> rw [h1, h2] at this <;> simp at this ⊢
  exact this
theorem thr_map : ∀ (l m : List SFun) (i : Nat), l.map SFun.thread = m.map SFun.thread → thr l i = thr m i
  | [], [], i, _ => rfl
  | [], _ :: _, i, h => by simp at h
  | _ :: _, [], i, h => by simp at h
  | a :: r, b :: s, i, h => by
    simp only [List.map_cons, List.cons.injEq] at h
    rw [thr, thr, h.1, thr_map r s (i + 1) h.2]
include hf in
theorem less_number (g : SFun) (g' : SFun) (hl : g'.code.length = g.code.length) (q : Row) (x : SIns) : numberB (lessP p k n f i.r room froom) g' q x = numberB p g q x := by
  have h1 := less_seen (n := n) (i := i) hf room froom (fun f => (f.thread, f.params)) rfl x.n.toNat
  unfold numberB
  rw [hl]
  have e1 : (lessP p k n f i.r room froom).mems = p.mems := rfl
  have e2 : (lessP p k n f i.r room froom).locks = p.locks := rfl
  rw [e1, e2]
  cases h2 : (lessP p k n f i.r room froom).funs[x.n.toNat]? with
  | none =>
    cases h3 : p.funs[x.n.toNat]? with
    | none => rfl
    | some b => rw [h2, h3] at h1; simp at h1
  | some a =>
    cases h3 : p.funs[x.n.toNat]? with
    | none => rw [h2, h3] at h1; simp at h1
    | some b =>
      rw [h2, h3] at h1
      simp only [Option.map_some, Option.some.injEq, Prod.mk.injEq] at h1
      simp only [h1.1, h1.2]
include hf in
theorem less_ins (g : SFun) (g' : SFun) (hl : g'.code.length = g.code.length) (hr : g'.regs = g.regs) (x : SIns) : mayInsB (lessP p k n f i.r room froom) g' x = mayInsB p g x := by
  unfold mayInsB
  rw [less_number hf room froom g g' hl, hr]
include hf hi ho in
theorem less_may (hm : mayP p = true) : mayP (lessP p k n f i.r room froom) = true := by
  obtain ⟨h1, h2⟩ := may_funs hm
  have hmf := h2 f (List.mem_of_getElem? hf)
  obtain ⟨h3, h4⟩ := mayFun_code hmf
  have hlen : (lessF f n i.r room).code.length = f.code.length := by simp [lessF]
  have hn := (List.getElem?_eq_some_iff.1 hi).1
  -- the new instruction
  have hnew : mayInsB p f (setIns i.r) = true := by
    have h5 := h4 i (List.mem_of_getElem? hi)
    unfold mayInsB at h5 ⊢
    have e1 : writesOf (setIns i.r) = (i.r, true) := rfl
    have e2 : writesOf i = (i.r, true) := by
      unfold writesOf
      rw [ho]; rfl
    rw [e2] at h5
    rw [e1]
    simp only [Bool.and_eq_true] at h5 ⊢
    refine ⟨⟨⟨rfl, rfl⟩, rfl⟩, rfl, h5.2.2⟩
  have hcode : ∀ x ∈ (lessF f n i.r room).code, mayInsB (lessP p k n f i.r room froom) (lessF f n i.r room) x = true := fun x hx => by
    rw [less_ins hf room froom f (lessF f n i.r room) hlen rfl x]
    rcases List.mem_or_eq_of_mem_set hx with h | h
    · exact h4 x h
    · rw [h]; exact hnew
  have hlast : lastOp (lessF f n i.r room) = lastOp f := by
    have hlo : lastOp f = 11 ∨ lastOp f = 13 := by
      unfold mayFunB at hmf
      simp only [Bool.and_eq_true, Bool.or_eq_true, beq_iff_eq] at hmf
      exact hmf.2.2.2.2.2.2.2.1
    have hne : n ≠ f.code.length - 1 := fun e => by
      have : f.code.getLast? = some i := by rw [List.getLast?_eq_getElem?, ← e, hi]
      unfold lastOp at hlo
      rw [this] at hlo
      simp [ho] at hlo
    unfold lastOp
    rw [List.getLast?_eq_getElem?, List.getLast?_eq_getElem?, hlen]
    simp only [lessF]
    rw [List.getElem?_set_ne hne]
  have hfun : mayFunB (lessP p k n f i.r room froom) (lessF f n i.r room) = true := by
    unfold mayFunB at hmf ⊢
    rw [hlast, hlen]
    simp only [Bool.and_eq_true] at hmf ⊢
    obtain ⟨a1, a2, a3, a4, a5, a6, a7, a8, a9⟩ := hmf
    exact ⟨a1, a2, a3, a4, a5, a6, a7, a8, List.all_eq_true.2 hcode⟩
  have hother : ∀ g ∈ (lessP p k n f i.r room froom).funs, mayFunB (lessP p k n f i.r room froom) g = true := fun g hg => by
    rcases List.mem_or_eq_of_mem_set hg with h | h
    · have := h2 g h
      unfold mayFunB at this ⊢
      rw [show (g.code.all (mayInsB (lessP p k n f i.r room froom) g)) = g.code.all (mayInsB p g) from by
        congr 1; funext x; exact less_ins hf room froom g g rfl rfl x]
      exact this
    · rw [h]; exact hfun
  have hnames : namesOf (lessP p k n f i.r room froom) = namesOf p := by
    unfold namesOf
    rw [less_map hf room froom SFun.name rfl]
    rfl
  unfold mayP at hm ⊢
  have hnamed : namedB (lessP p k n f i.r room froom) = namedB p := by unfold namedB; rw [hnames]
  rw [hnamed, thr_map _ p.funs 0 (less_map hf room froom SFun.thread rfl)]
  simp only [Bool.and_eq_true] at hm ⊢
  exact ⟨hm.1, hm.2.1, hm.2.2.1, List.all_eq_true.2 hother⟩

include hf ho in
theorem less_cs (a : Int) (j : Int) (h : j ∈ csOf (csP (lessP p k n f i.r room froom)) a) : j ∈ csOf (csP p) a := by
  rw [csOf, csP, List.getD_eq_getElem?_getD, List.getElem?_map] at h ⊢
  rw [less_get hf room froom] at h
  by_cases e : a.toNat = k
  · rw [if_pos e] at h
    rw [e, hf]
    simp only [Option.map_some, Option.getD_some] at h ⊢
    rw [calleesOf_mem] at h ⊢
    obtain ⟨x, h1, h2, h3⟩ := h
    rcases List.mem_or_eq_of_mem_set h1 with h4 | h4
    · exact ⟨x, h4, h2, h3⟩
    · rw [h4] at h2; simp [setIns] at h2
  · rw [if_neg e] at h; exact h
include hf ho in
theorem less_rch {a j : Int} (h : Rch (csP (lessP p k n f i.r room froom)) a j) : Rch (csP p) a j := by
  induction h with
  | one h => exact .one (less_cs hf ho room froom _ _ h)
  | step h _ ih => exact .step (less_cs hf ho room froom _ _ h) ih
end
end
end Go.Proofs.Sx
