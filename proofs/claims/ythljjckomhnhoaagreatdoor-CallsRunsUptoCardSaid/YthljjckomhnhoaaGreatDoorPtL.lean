/-
  slices.IndexFunc, ContainsFunc at []string, whatever slice can be read; the closures of code.May.
-/
import Derived.Test.YthljjckomhnhoaaGreatDoorPtK
import Derived.Test.YthljjckomhnhoaaGreatDoorPtH
set_option linter.unusedSectionVars false
set_option linter.unusedSimpArgs false
set_option linter.unusedVariables false
set_option linter.defProp false
set_option maxHeartbeats 4000000
set_option maxRecDepth 100000
namespace Go.Proofs.Sx
open Go.Rv Go.Proofs
attribute [local congr] bind_left got_left
noncomputable section
theorem indexFS_loopR (xs : List (List UInt8)) (p : List UInt8 -> Bool) (g : Nat) (caps : List AV) (v : AV) (h : Heap) (hn : xs.length < 1000000000) (R : Rd cfg h 23 9 v (strL xs))
  (hg : ∀ a ∈ xs, call cfg g (.str a :: caps) h = some (.ret (.bool (p a)), h)) : ∀ (ys : List (List UInt8)) (i : Nat), xs.drop i = ys -> i <= xs.length -> ∀ c d t e,
  Got (exec cfg 86 (.loop l86_0) [(0, v), (1, .clo g caps), (4, c), (5, d), (7, .int .i64 xs.length), (8, .int .i64 i), (9, t), (16, e)] h) (fun q => q.2.2 = h /\
   ((q.1 = .exit 0 /\ idxP p ys i = -1) ∨ (q.1 = .ret /\ q.2.1.get 4 = .int .i64 (idxP p ys i)))) := by
 intro ys
 induction ys with
 | nil =>
  intro i hd hi c d t e
  rw [got_loop]
  simp only [l86_0, F86, Tryz.f86, sxAll, cA, arithA, Env.keep, ↓qAe, Nat.reduceBEq, ↓reduceIte, at_end hd]
  exact ⟨trivial, .inl ⟨trivial, rfl⟩⟩
 | cons y r ih =>
  intro i hd hi c d t e
  obtain ⟨hlt, hget, hd'⟩ := at_drop hd
  obtain ⟨a, h1, h2, h3⟩ := R.get i _ (strL_get hget)
  have hmem : y ∈ xs := qBj hget
  have hw := wrap_succ (i := i) (by omega)
  have hc := hg y hmem
  have hk := R.kn
  rw [got_loop]
  cases he : p y with
  | true =>
   rw [he] at hc
   simp only [l86_0, F86, Tryz.f86, sxAll, cA, arithA, Env.keep, qt_eq, mapO, ↓qAe, Nat.reduceBEq, ↓reduceIte, hlt, hc, hk, h1, h2, h3]
   exact ⟨trivial, .inr ⟨trivial, by simp [idxP, he]⟩⟩
  | false =>
   rw [he] at hc
   have := ih (i + 1) hd' (by simp at hlt; omega)
   simp only [l86_0] at this ⊢
   simp only [F86, Tryz.f86, sxAll, cA, arithA, Env.keep, qt_eq, mapO, ↓qAe, Nat.reduceBEq, ↓reduceIte, hlt, hw, hc, hk, h1, h2, h3, idxP, he] at this ⊢
   exact this _ _ _ _
theorem indexFS_eqR (xs : List (List UInt8)) (p : List UInt8 -> Bool) (g : Nat) (caps : List AV) (v : AV) (h : Heap) (hn : xs.length < 1000000000) (R : Rd cfg h 23 9 v (strL xs))
  (hg : ∀ a ∈ xs, call cfg g (.str a :: caps) h = some (.ret (.bool (p a)), h)) : call cfg 86 [v, .clo g caps] h = some (.ret (.int .i64 (idxP p xs 0)), h) := by
 obtain ⟨⟨o, e', h'⟩, hx, hh, hq⟩ := indexFS_loopR xs p g caps v h hn R hg xs 0 (by simp) (by omega) (.int .i64 0) .junk .junk .junk
 simp only [qBo] at hx hh hq
 subst hh
 have hk := R.kn
 have hlen := R.len
 rw [strL_len] at hlen
 rw [call86]
 rcases hq with ⟨rfl, h1⟩ | ⟨rfl, h1⟩
 ·simp only [F86, k86, Tryz.f86, sxAll, cA, Env.keep, resultsA, packA, ↓qAe, Nat.reduceBEq, ↓reduceIte, ty23, hk, hlen, hx, h1]
  exact leave_kept rfl rfl
 ·simp only [F86, k86, Tryz.f86, sxAll, cA, Env.keep, resultsA, packA, ↓qAe, Nat.reduceBEq, ↓reduceIte, ty23, hk, hlen, hx, h1]
  exact leave_kept rfl rfl
theorem containsFS_eqR (xs : List (List UInt8)) (p : List UInt8 -> Bool) (g : Nat) (caps : List AV) (v : AV) (h : Heap) (hn : xs.length < 1000000000) (R : Rd cfg h 23 9 v (strL xs))
  (hg : ∀ a ∈ xs, call cfg g (.str a :: caps) h = some (.ret (.bool (p a)), h)) : call cfg 58 [v, .clo g caps] h = some (.ret (.bool (xs.any p)), h) := by
 rw [call58]
 simp only [F58, k58, Tryz.f58, sxAll, cA, arithA, Env.keep, qt_eq, resultsA, packA, mapO, ↓qAe, Nat.reduceBEq, ↓reduceIte, R.kn, indexFS_eqR xs p g caps v h hn R hg, pu86, idxP_any]
 exact leave_kept rfl rfl
instance t59 {d : Option Nat} : TightD cfg 59 d := ⟨fun _ _ => rfl⟩
def B59 (p : List Bool) := cA p Tryz.f59.body
def R59 (p : List Bool) (i : Nat) := Code.region i (cA p Tryz.f59.body) false
theorem F59 : (∀ p i, XR cfg 59 (R59 p i) (B59 p) (cA p Tryz.f59.body).toList i false) /\ RE cfg 59 [0, 2] /\ cfg.pure 59 = true := ⟨fun _ _ => xr rfl rfl, rE fun _ => rfl, rfl⟩
def k59 : Code := (.seq (R59 [ff] 0) (.seq (R59 [tt, ff] 1) .ret))
theorem call59 (x0 : AV) (h : Heap) : call cfg 59 [x0] h = (exec cfg 59 k59 [(0, x0)] h).bind (callEnd cfg 59 h [.tmp 2]) := call_at2 (fnat Tryz.func59 (b := k59) (by kernel_rfl) (by kernel_rfl)) rfl rfl
instance t34 {d : Option Nat} : TightD cfg 34 d := ⟨fun _ _ => rfl⟩
def B34 (p : List Bool) := cA p Tryz.f34.body
def R34 (p : List Bool) (i : Nat) := Code.region i (cA p Tryz.f34.body) false
theorem F34 : (∀ p i, XR cfg 34 (R34 p i) (B34 p) (cA p Tryz.f34.body).toList i false) /\ cfg.imm 34 1 = true /\ GO cfg 34 (B34 [tt, ff]) 3 6 /\ RE cfg 34 [0, 1, 2] /\ cfg.pure 34 = true := ⟨fun _ _ => xr rfl rfl, by kernel_rfl, gO (by kernel_rfl), rE fun _ => rfl, rfl⟩
def k34 : Code := (.seq (R34 [ff] 0) (.seq (R34 [tt, ff] 1) .ret))
theorem call34 (x0 : AV) (h : Heap) : call cfg 34 [x0] h = (exec cfg 34 k34 [(0, x0)] h).bind (callEnd cfg 34 h [.tmp 2]) := call_at2 (fnat Tryz.func34 (b := k34) (by kernel_rfl) (by kernel_rfl)) rfl rfl
instance t36 {d : Option Nat} : TightD cfg 36 d := ⟨fun _ _ => rfl⟩
def B36 (p : List Bool) := cA p Tryz.f36.body
def R36 (p : List Bool) (i : Nat) := Code.region i (cA p Tryz.f36.body) false
theorem F36 : (∀ p i, XR cfg 36 (R36 p i) (B36 p) (cA p Tryz.f36.body).toList i false) /\ cfg.imm 36 2 = true /\ RE cfg 36 [0, 1, 2, 3] /\ cfg.pure 36 = true := ⟨fun _ _ => xr rfl rfl, by kernel_rfl, rE fun _ => rfl, rfl⟩
def k36 : Code := (.seq (R36 [ff] 0) (.seq (R36 [tt, ff] 1) .ret))
theorem call36 (x0 x1 : AV) (h : Heap) : call cfg 36 [x0, x1] h = (exec cfg 36 k36 [(0, x0), (1, x1)] h).bind (callEnd cfg 36 h [.tmp 3]) := call_at2 (fnat Tryz.func36 (b := k36) (by kernel_rfl) (by kernel_rfl)) rfl rfl
theorem namedx_eq (s : List UInt8) (h : Heap) (hs : s.length < 1000000000) : call cfg 59 [.str s] h = some (.ret (.bool (!isName s)), h) := by
 rw [call59]
 simp only [F59, k59, Tryz.f59, sxAll, cA, Env.keep, qt_eq, resultsA, packA, unA, mapO, ↓qAe, Nat.reduceBEq, ↓reduceIte, name_eq s h hs, pu60]
 exact leave_kept rfl rfl
def badSize (m : SMem) : Bool := decide (m.size < 1) || decide (m.size > 1024)
theorem mayA_eq (m : SMem) (h : Heap) : call cfg 34 [.agg m.cells] h = some (.ret (.bool (badSize m)), h) := by
 rw [call34]
 unfold badSize
 by_cases c1 : m.size < 1
 ·simp only [SMem.cells, F34, k34, Tryz.f34, sxAll, cA, arithA, Env.keep, qt_eq, resultsA, packA, fieldAddrA, loadA, Rv.part, cellsAt, TD.isAgg, ↓qAe, Nat.reduceBEq, Nat.reduceAdd, ↓reduceIte, ty81, ty3, c1]
  exact leave_kept rfl rfl
 ·simp only [SMem.cells, F34, k34, Tryz.f34, sxAll, cA, arithA, Env.keep, qt_eq, resultsA, packA, fieldAddrA, loadA, Rv.part, cellsAt, TD.isAgg, ↓qAe, Nat.reduceBEq, Nat.reduceAdd, ↓reduceIte, ty81, ty3, c1]
  exact leave_kept rfl rfl
theorem mayB_eq (p : SProg) (f : SFun) (h : Heap) (hf : f.wf) : call cfg 36 [.agg f.cells, .ref p.cells] h = some (.ret (.bool (!mayFunB p f)), h) := by
 rw [call36]
 have hm := fun h => mayFun_eq p f h hf
 simp only [SProg.cells, SFun.cells] at hm
 simp only [SProg.cells, SFun.cells, F36, k36, Tryz.f36, sxAll, cA, Env.keep, qt_eq, resultsA, packA, unA, loadA, Rv.part, cellsAt, TD.isAgg, mapO, ↓qAe, Nat.reduceBEq, Nat.reduceAdd, Nat.reduceLeDiff, ↓reduceIte, ty26, ty39, pu37, hm]
 exact leave_kept rfl rfl
end
end Go.Proofs.Sx
namespace Go.Proofs.Sx
open Go.Rv Go.Proofs
attribute [local congr] bind_left got_left
noncomputable section
def chg : List (List UInt8) -> Nat
 | a :: b :: r => (if a = b then 0 else 1) + chg (b :: r)
 | _ => 0
def cl (l : List (List UInt8)) : Nat := if l = [] then 0 else 1 + chg l
theorem drop_two {l : List (List UInt8)} {j : Nat} (h : j + 1 < l.length) : ∃ a b r, l.drop j = a :: b :: r /\ l.drop (j + 1) = b :: r /\ l[j]? = some a /\ l[j + 1]? = some b := by
 have h1 : l.drop j = l[j] :: l.drop (j + 1) := qBs (by omega)
 have h2 : l.drop (j + 1) = l[j + 1] :: l.drop (j + 1 + 1) := qBs h
 exact ⟨l[j], l[j + 1], l.drop (j + 1 + 1), by rw [h1, h2], h2, qAs _, qAs _⟩
theorem drop_one {l : List (List UInt8)} {j : Nat} (h : j + 1 = l.length) : ∃ a, l.drop j = [a] := by
 have h1 : l.drop j = l[j] :: l.drop (j + 1) := qBs (by omega)
 exact ⟨l[j], by rw [h1, List.drop_of_length_le (by omega)]⟩
instance t57 {d : Option Nat} : TightD cfg 57 d := ⟨fun _ _ => rfl⟩
def B57 (p : List Bool) := cA p Tryz.f57.body
def R57 (p : List Bool) (i : Nat) := Code.region i (cA p Tryz.f57.body) false
def D57 (p : List Bool) (i : Nat) := Code.region i (cA p Tryz.f57.body) true
theorem F57 : (∀ p i, XR cfg 57 (R57 p i) (B57 p) (cA p Tryz.f57.body).toList i false) /\ XR cfg 57 (D57 [tt, tt, ff, tt, ff, ff, tt, ff, ff, ff] 6) (B57 [tt, tt, ff, tt, ff, ff, tt, ff, ff, ff]) ((cA [tt, tt, ff, tt, ff, ff, tt, ff, ff, ff] Tryz.f57.body).toList) 6 true /\ XR cfg 57 (D57 [tt, tt, ff, tt, ff, ff, tt, ff, ff, tt, ff, tt, ff, tt, ff, ff, tt, ff, ff, ff] 11) (B57 [tt, tt, ff, tt, ff, ff, tt, ff, ff, tt, ff, tt, ff, tt, ff, ff, tt, ff, ff, ff]) ((cA [tt, tt, ff, tt, ff, ff, tt, ff, ff, tt, ff, tt, ff, tt, ff, ff, tt, ff, ff, ff] Tryz.f57.body).toList) 11 true /\ RE cfg 57 [0, 2, 3, 4, 5, 8, 13, 25, 32, 44] /\ cfg.pure 57 = false := ⟨fun _ _ => xr rfl rfl, xd (by kernel_rfl) rfl rfl, xd (by kernel_rfl) rfl rfl, rE fun _ => rfl, rfl⟩
def l57_1 : Code := (.seq (.seq (R57 [tt, tt, ff, tt, ff, ff, tt, ff, ff, tt, ff, tt, ff, tt, ff, ff, ff, ff] 9) (.cond (.tmp 32) .skip (.exit 2))) (.seq (.block 3 (.seq (D57 [tt, tt, ff, tt, ff, ff, tt, ff, ff, tt, ff, tt, ff, tt, ff, ff, tt, ff, ff, ff] 11) (.cond (.tmp 44) (.seq (R57 [tt, tt, ff, tt, ff, ff, tt, ff, ff, tt, ff, tt, ff, tt, ff, ff, tt, ff, ff, tt, ff, ff] 12) (R57 [tt, tt, ff, tt, ff, ff, tt, ff, ff, tt, ff, tt, ff, tt, ff, ff, tt, ff, ff, tt, ff, tt] 13)) .skip))) (R57 [tt, tt, ff, tt, ff, ff, tt, ff, ff, tt, ff, tt, ff, tt, ff, ff, tt, tt] 10)))
def l57_0 : Code := (.seq (.seq (R57 [tt, tt, ff, tt, ff, ff, ff, ff] 4) (.cond (.tmp 13) .skip (.exit 0))) (.seq (.block 1 (.seq (D57 [tt, tt, ff, tt, ff, ff, tt, ff, ff, ff] 6) (.cond (.tmp 25) (.seq (R57 [tt, tt, ff, tt, ff, ff, tt, ff, ff, tt, ff, ff] 7) (.seq (.seq (R57 [tt, tt, ff, tt, ff, ff, tt, ff, ff, tt, ff, tt, ff, ff] 8) (.block 2 (.loop l57_1))) (.seq (R57 [tt, tt, ff, tt, ff, ff, tt, ff, ff, tt, ff, tt, tt, ff] 14) (.seq (R57 [tt, tt, ff, tt, ff, ff, tt, ff, ff, tt, ff, tt, tt, tt, ff] 15) .ret)))) .skip))) (R57 [tt, tt, ff, tt, ff, ff, tt, tt] 5)))
def k57 : Code := (.seq (R57 [ff] 0) (.seq (.seq (R57 [tt, ff, ff] 1) (.cond (.tmp 8) (.seq (R57 [tt, ff, tt, ff, ff] 2) .ret) .skip)) (.seq (.seq (R57 [tt, tt, ff, ff] 3) (.block 0 (.loop l57_0))) (.seq (R57 [tt, tt, tt, ff] 16) .ret))))
theorem call57 (x0 : AV) (h : Heap) : call cfg 57 [x0] h = (exec cfg 57 k57 [(0, x0)] h).bind (callEnd cfg 57 h [.tmp 2]) := call_at2 (fnat Tryz.func57 (b := k57) (by kernel_rfl) (by kernel_rfl)) rfl rfl
theorem head_drop {cs : List AV} {k : Nat} {x : AV} (h : cs[k]? = some x) : (cs.drop k).head? = some x := by rw [List.head?_drop, h]
theorem compact_inner (xs : List (List UInt8)) (hn : xs.length < 100000000) (o g : Nat) (cap c4 : Option Nat) (k0 : Nat) : ∀ (d j k k2 : Nat), j + 1 + d = xs.length -> j = k0 + k2 - 1 -> 1 <= k2 -> 1 <= k -> k <= j -> k0 <= j -> chg xs = (k - 1) + chg (xs.drop j) -> ∀ (H : Heap) cs, H.obj o g = some cs -> cs.length = xs.length -> cs.drop j = (strL xs).drop j -> ∀ a t13 t25 t32 t44 t8,
  Got (exec cfg 57 (.loop l57_1) [(0, .msl o 0 xs.length 1 g cap), (2, a), (3, .int .i64 k), (4, .msl o k0 (xs.length - k0) 1 g c4), (5, .int .i64 k2), (8, t8), (13, t13), (25, t25), (32, t32), (44, t44)] H)
   (fun q => q.1 = .exit 2 /\ ∃ k' cs', 1 <= k' /\ k' < xs.length /\ cl xs = k' /\ q.2.1.get 3 = .int .i64 k' /\ q.2.1.get 0 = .msl o 0 xs.length 1 g cap /\ q.2.2 = H.set o (.cells cs' g) /\ cs'.length = xs.length) := by
 intro d
 induction d with
 | zero =>
  intro j k k2 hj hk2 h1 hk hkj hk0 hchg H cs hob hcl hdr a t13 t25 t32 t44 t8
  have hlive := live_of hob
  have hlt : (k2 < xs.length - k0) = False := by simp; omega
  obtain ⟨w, hw⟩ := drop_one (l := xs) (j := j) (by omega)
  rw [got_loop]
  simp only [l57_1, F57, Tryz.f57, sxAll, cA, arithA, Env.keep, lenA, ↓qAe, Nat.reduceBEq, ↓reduceIte, ty23, hlive, hlt]
  refine ⟨trivial, k, cs, hk, by omega, ?_, by first | rfl | trivial, by first | rfl | trivial, ?_, hcl⟩
  ·rw [hw] at hchg
   have hne : xs ≠ [] := by intro hc; rw [hc] at hj; simp at hj
   simp only [cl, hne, if_false, hchg, chg]
   omega
  ·have ho := obj_some hob
   apply qBk
   intro i
   by_cases hi : o = i
   ·subst hi
    rw [qAz ho]
    unfold Heap.obj at hob
    split at hob
    ·rename_i cs0 g0 hx
     split at hob
     ·rename_i hg
      simp only [beq_iff_eq] at hg
      simp only [qAf] at hob
      rw [hx, hob, hg]
     ·cases hob
    ·cases hob
   ·rw [qAw hi]
 | succ d ih =>
  intro j k k2 hj hk2 h1 hk hkj hk0 hchg H cs hob hcl hdr a t13 t25 t32 t44 t8
  have hlive := live_of hob
  have ho := obj_some hob
  have hlt : (k2 < xs.length - k0) = True := by simp; omega
  obtain ⟨x, y, r, hd2, hd1, gx, gy⟩ := drop_two (l := xs) (j := j) (by omega)
  have cx : cs[j]? = some (.str x) := by
   have := congrArg (·[0]?) hdr
   simp only [List.getElem?_drop, Nat.add_zero] at this
   rw [this]; exact strL_get gx
  have cy : cs[j + 1]? = some (.str y) := by
   have := congrArg (·[1]?) hdr
   simp only [List.getElem?_drop] at this
   rw [this]; exact strL_get gy
  have e1 : k0 + k2 = j + 1 := by omega
  have e2 : k0 + (k2 - 1) = j := by omega
  have hw1 : IntKind.i64.wrap ((k2 : Int) - 1) = ((k2 - 1 : Nat) : Int) := by rw [wrap_id (by omega) (by omega)]; omega
  have hlt1 : (k2 - 1 < xs.length - k0) = True := by simp; omega
  have hw2 := wrap_succ (i := k2) (by omega)
  have hw3 := wrap_succ (i := k) (by omega)
  have hkn : (k < xs.length) = True := by simp; omega
  have hkc : (k + 1 <= cs.length) = True := by simp; omega
  rw [got_loop]
  by_cases he : y = x
  ·have hb : (y == x) = true := by simp [he]
   have := ih (j + 1) k (k2 + 1) (by omega) (by omega) (by omega) hk (by omega) (by omega) (by rw [hd1]; rw [hd2] at hchg; simp only [chg, he, if_true] at hchg ⊢; omega) H cs hob hcl (by rw [← List.drop_drop, ← List.drop_drop, hdr])
   simp only [l57_1] at this ⊢
   simp only [F57, Tryz.f57, sxAll, cA, arithA, Env.keep, qt_eq, indexAddrA, loadA, Rv.part, cellsAt, TD.isAgg, lenA, ↓qAe, Nat.reduceBEq, ↓reduceIte, ty23, ty9, hlive, hlt, hlt1, hw1, hw2, Nat.mul_one, e1, e2, hob, head_drop cx, head_drop cy, binA_str_neq, hb] at this ⊢
   exact this _ _ _ _ _ _
  ·have hb : (y == x) = false := by simp [he]
   have hob' : Heap.obj (H.set o (.cells (cs.set k (.str y)) g)) o g = some (cs.set k (.str y)) := by simp [Heap.obj, qAz ho]
   have hchg' : chg xs = (k + 1 - 1) + chg (xs.drop (j + 1)) := by
    rw [hd1]; rw [hd2] at hchg
    simp only [chg, if_neg (show ¬ x = y from fun h => he h.symm)] at hchg ⊢
    omega
   have hdr' : (cs.set k (.str y)).drop (j + 1) = (strL xs).drop (j + 1) := by
    rw [List.drop_set_of_lt (by omega), ← List.drop_drop, hdr, List.drop_drop]
   have := ih (j + 1) (k + 1) (k2 + 1) (by omega) (by omega) (by omega) (by omega) (by omega) (by omega) hchg' (H.set o (.cells (cs.set k (.str y)) g)) _ hob' (by simpa using hcl) hdr'
   simp only [l57_1] at this ⊢
   simp only [F57, Tryz.f57, sxAll, cA, arithA, Env.keep, qt_eq, storeA, indexAddrA, loadA, Rv.part, cellsAt, TD.isAgg, setCells, lenA, ↓qAe, Nat.reduceBEq, ↓reduceIte, ty23, ty9, hlive, hlt, hlt1, hw1, hw2, hw3, Nat.mul_one, qBg, e1, e2, hob, head_drop cx, head_drop cy, binA_str_neq, hb, hkn, hkc, List.set_set] at this ⊢
   exact this _ _ _ _ _ _
theorem clear_fact (H : Heap) (o g k n : Nat) (cap : Option Nat) (cs : List AV) (hob : H.obj o g = some cs) (hcl : cs.length = n) (hk : k < n) :
  ∃ cs', moreA cfg H .clear [23] [.msl o k (n - k) 1 g cap] = some (.tup [], H.set o (.cells cs' g)) /\ cs'.length = n := by
 refine ⟨setCells cs k (copies (n - k) [.str []]), ?_, by rw [setCells_length]; exact hcl⟩
 have h0 : (n - k == 0) = false := by simp; omega
 have hle : k + (n - k) * 1 <= cs.length := by omega
 simp [moreA, ty23, ty9, hob, AV.leaf]
 rw [if_neg (by omega), if_pos (by omega)]
theorem slice_fact (H : Heap) (o g k n : Nat) (cap : Option Nat) (cs : List AV) (hob : H.obj o g = some cs) (hcl : cs.length = n) (hcap : cap = none ∨ cap = some n) (hk : k <= n) :
  sliceA cfg H 23 (.msl o 0 n 1 g cap) none (some (.int .i64 k)) none = some (.msl o 0 k 1 g (cap.map (· - 0))) /\ sliceA cfg H 23 (.msl o 0 n 1 g cap) (some (.int .i64 k)) none none = some (.msl o k (n - k) 1 g (cap.map (· - k))) := by
 constructor
 ·rcases hcap with rfl | rfl <;> simp [sliceA, ty23, ty9, hob, boundA, hcl, hk]
 ·rcases hcap with rfl | rfl <;> simp [sliceA, ty23, ty9, hob, boundA, hk]
theorem compact_outer (xs : List (List UInt8)) (hn : xs.length < 100000000) (o g : Nat) (cap : Option Nat) (hcap : cap = none ∨ cap = some xs.length) (H : Heap) (hob : H.obj o g = some (strL xs)) : ∀ (d k : Nat), k + d = xs.length -> 1 <= k -> chg xs = (k - 1) + chg (xs.drop (k - 1)) -> ∀ a c4 c5 t8 t13 t25 t32 t44,
  Got (exec cfg 57 (.loop l57_0) [(0, .msl o 0 xs.length 1 g cap), (2, a), (3, .int .i64 k), (4, c4), (5, c5), (8, t8), (13, t13), (25, t25), (32, t32), (44, t44)] H)
   (fun q => (q.1 = .exit 0 /\ q.2.2 = H /\ q.2.1.get 0 = .msl o 0 xs.length 1 g cap /\ cl xs = xs.length) ∨
    (q.1 = .ret /\ ∃ k' cs', k' <= xs.length /\ cl xs = k' /\ q.2.1.get 2 = .msl o 0 k' 1 g (cap.map (· - 0)) /\ q.2.2 = H.set o (.cells cs' g))) := by
 have hlive := live_of hob
 have ho := obj_some hob
 intro d
 induction d with
 | zero =>
  intro k hk h1 hchg a c4 c5 t8 t13 t25 t32 t44
  have hlt : (k < xs.length) = False := by simp; omega
  obtain ⟨w, hw⟩ := drop_one (l := xs) (j := k - 1) (by omega)
  rw [got_loop]
  simp only [l57_0, F57, Tryz.f57, sxAll, cA, arithA, Env.keep, lenA, ↓qAe, Nat.reduceBEq, ↓reduceIte, ty23, hlive, hlt]
  refine .inl ⟨trivial, trivial, trivial, ?_⟩
  rw [hw] at hchg
  have hne : xs ≠ [] := by intro hc; rw [hc] at hk; simp at hk; omega
  simp only [cl, hne, if_false, hchg, chg]
  omega
 | succ d ih =>
  intro k hk h1 hchg a c4 c5 t8 t13 t25 t32 t44
  have hlt : (k < xs.length) = True := by simp; omega
  obtain ⟨x, y, r, hd2, hd1, gx, gy⟩ := drop_two (l := xs) (j := k - 1) (by omega)
  rw [show k - 1 + 1 = k from by omega] at hd1 gy
  have cx := head_drop (strL_get gx)
  have cy := head_drop (strL_get gy)
  have hw1 : IntKind.i64.wrap ((k : Int) - 1) = ((k - 1 : Nat) : Int) := by rw [wrap_id (by omega) (by omega)]; omega
  have hlt1 : (k - 1 < xs.length) = True := by simp; omega
  have hw2 := wrap_succ (i := k) (by omega)
  rw [got_loop]
  by_cases he : y = x
  ·have hb : (y == x) = true := by simp [he]
   have hs1 := (slice_fact H o g k xs.length cap _ hob (strL_len xs) hcap (by omega)).2
   have hin := compact_inner xs hn o g cap (cap.map (· - k)) k (xs.length - k - 1) k k 1 (by omega) (by omega) (by omega) h1 (by omega) (by omega) (by rw [hd1]; rw [hd2] at hchg; simp only [chg, he, if_true] at hchg ⊢; omega) H _ hob (strL_len xs) rfl
   obtain ⟨⟨out, e', H'⟩, hx, ho', k', cs', p1, p2, p3, p4, p5, p6, p7⟩ := hin a (.bool true) (.bool true) t32 t44 t8
   simp only [Int.natCast_one] at hx ho' p3 p4 p5 p6
   subst ho'
   subst p6
   have hob' : Heap.obj (H.set o (.cells cs' g)) o g = some cs' := by simp [Heap.obj, qAz ho]
   obtain ⟨cs2, hcl2, hl2⟩ := clear_fact (H.set o (.cells cs' g)) o g k' xs.length (cap.map (· - k')) cs' hob' p7 p2
   have hob2 : Heap.obj (H.set o (.cells cs2 g)) o g = some cs2 := by simp [Heap.obj, qAz ho]
   rw [List.set_set] at hcl2
   have hs2 := (slice_fact (H.set o (.cells cs' g)) o g k' xs.length cap cs' hob' p7 hcap (by omega)).2
   have hs3 := (slice_fact (H.set o (.cells cs2 g)) o g k' xs.length cap cs2 hob2 hl2 hcap (by omega)).1
   simp only [l57_0, F57, Tryz.f57, sxAll, cA, arithA, Env.keep, qt_eq, indexAddrA, loadA, Rv.part, cellsAt, TD.isAgg, lenA, optA, ↓qAe, Nat.reduceBEq, ↓reduceIte, ty23, ty9, hlive, hlt, hlt1, hw1, hob, cx, cy, Nat.mul_one, qBg, binA_str_eql, hb, hs1, hx, p4, p5, hs2, hcl2, hs3]
   exact .inr ⟨trivial, k', cs2, by omega, p3, rfl, rfl⟩
  ·have hb : (y == x) = false := by simp [he]
   have := ih (k + 1) (by omega) (by omega) (by
    rw [show k + 1 - 1 = k from rfl, hd1]; rw [hd2] at hchg
    simp only [chg, if_neg (show ¬ x = y from fun h => he h.symm)] at hchg ⊢
    omega)
   simp only [l57_0] at this ⊢
   simp only [F57, Tryz.f57, sxAll, cA, arithA, Env.keep, qt_eq, indexAddrA, loadA, Rv.part, cellsAt, TD.isAgg, lenA, ↓qAe, Nat.reduceBEq, ↓reduceIte, ty23, ty9, hlive, hlt, hlt1, hw1, hw2, hob, cx, cy, Nat.mul_one, qBg, binA_str_eql, hb] at this ⊢
   exact this _ _ _ _ _ _ _ _
end
end Go.Proofs.Sx
namespace Go.Proofs.Sx
open Go.Rv Go.Proofs
attribute [local congr] bind_left got_left
noncomputable section
theorem compactS_eq (m : Nat) (h0 H : Heap) (v : AV) (xs : List (List UInt8)) (O : Own m h0 H v (strL xs)) (hn : xs.length < 100000000) :
  ∃ u H', call cfg 57 [v] H = some (.ret u, H') /\ known u = some u /\ lenA H' (.slice 9) u = some (cl xs) /\ m <= H'.length /\ H'.take m = h0.take m := by
 have hk := O.kn
 have hlen := len_built (e := 9) O.b
 rw [strL_len] at hlen
 by_cases h2 : xs.length < 2
 ·refine ⟨v, H, ?_, hk, ?_, O.le, O.old⟩
  ·have c1 : ((xs.length : Int) < 2) = True := by simp; omega
   rw [call57]
   simp only [F57, k57, Tryz.f57, sxAll, cA, arithA, Env.keep, resultsA, packA, ↓qAe, Nat.reduceBEq, ↓reduceIte, ty23, hk, hlen, c1]
   exact leave_impure rfl
  ·rw [hlen]
   match xs, h2 with
   | [], _ => rfl
   | [a], _ => rfl
 ·rcases O.b with ⟨_, hnil⟩ | ⟨o, g, cap, rfl, hob, hcap⟩
  ·exfalso
   have : xs.length = 0 := by rw [← strL_len, hnil]; rfl
   omega
  ·rw [show flatC (strL xs) = strL xs from flatC_plain (plain_strs xs)] at hob
   rw [strL_len] at hcap
   have hmo : m <= o := O.own o rfl
   have ho := obj_some hob
   have c1 : ((xs.length : Int) < 2) = False := by simp; omega
   obtain ⟨⟨out, e', H'⟩, hx, hq⟩ := compact_outer xs hn o g cap hcap H hob (xs.length - 1) 1 (by omega) (by omega) (by simp) (.lst [] 0 .nil) .junk .junk (.bool false) .junk .junk .junk .junk
   simp only [Int.natCast_one] at hx
   have hlive := live_of hob
   rcases hq with ⟨p1, p2, p3, p4⟩ | ⟨p1, k', cs', p2, p3, p4, p5⟩
   ·simp only at p1 p2 p3
    subst p1 p2
    refine ⟨.msl o 0 xs.length 1 g cap, H', ?_, rfl, by simp [lenA, hlive, p4], O.le, O.old⟩
    rw [strL_len, call57]
    simp only [F57, k57, Tryz.f57, sxAll, cA, arithA, Env.keep, resultsA, packA, lenA, ↓qAe, Nat.reduceBEq, ↓reduceIte, ty23, hlive, c1, hx, p3]
    exact leave_impure rfl
   ·simp only at p1 p4 p5
    subst p1 p5
    have hob' : Heap.obj (H.set o (.cells cs' g)) o g = some cs' := by simp [Heap.obj, qAz ho]
    refine ⟨.msl o 0 k' 1 g (cap.map (· - 0)), H.set o (.cells cs' g), ?_, rfl, by simp [lenA, live_of hob', p3], by simpa using O.le, ?_⟩
    ·rw [strL_len, call57]
     simp only [F57, k57, Tryz.f57, sxAll, cA, arithA, Env.keep, resultsA, packA, lenA, ↓qAe, Nat.reduceBEq, ↓reduceIte, ty23, hlive, c1, hx, p4]
     exact leave_impure rfl
    ·rw [List.take_set_of_le hmo]; exact O.old
theorem lenA_lst (h : Heap) (e : Nat) (xs : List AV) (z : Nat) (r : Room) : lenA h (.slice e) (.lst xs z r) = some xs.length := rfl
theorem load_ref {C : Cfg} (h : Heap) (t : Nat) (cs : List AV) : loadA C h t (.ref cs) = (C.ty t).bind fun ti => Rv.part ti cs := rfl
theorem load_ptr {C : Cfg} (h : Heap) (t o off g : Nat) : loadA C h t (.ptr o off g) = (C.ty t).bind fun ti => (h.obj o g).bind fun cs => Rv.part ti (cs.drop off) := by
 simp only [loadA, cellsAt, qAd, Option.bind_map]
 rfl
theorem call_sortS (args : List AV) (h : Heap) : call cfg 56 args h = sortStr args h := call_prim _ _ args _ rfl
theorem sortS_own {n : Nat} {h0 H : Heap} {v : AV} {xs : List (List UInt8)} (O : Own n h0 H v (strL xs)) (hmax : xs.length <= 1000000000) : ∃ H', call cfg 56 [v] H = some (.ret (.tup []), H') /\ Own n h0 H' v (strL (sortedS xs)) := by
 have hl : (sortedS xs).length = xs.length := (sortedS_perm xs).length_eq
 rcases O.b with ⟨rfl, hnil⟩ | ⟨o, g, cap, rfl, hob, hcap⟩
 ·have : xs = [] := by simpa [strL] using hnil
  subst this
  exact ⟨H, by rw [call_sortS]; rfl, by simpa [sortedS] using O⟩
 ·have ho := obj_some hob
  rw [show flatC (strL xs) = strL xs from flatC_plain (plain_strs xs)] at hob
  refine ⟨H.set o (.cells (strL (sortedS xs)) g), ?_, ⟨.inr ⟨o, g, cap, by simp [strL, hl], ?_, by simpa [strL, hl] using hcap⟩, O.own, by simpa using O.le, ?_⟩⟩
  ·rw [call_sortS]
   unfold sortStr
   simp only [hob, qAe, strL_len, hmax, and_self, if_true]
   rw [show strsOf (strL xs) = some xs from strsOf_map xs]
   rfl
  ·rw [show flatC (strL (sortedS xs)) = strL (sortedS xs) from flatC_plain (plain_strs _)]
   simp [Heap.obj, qAz ho, strL]
  ·rw [List.take_set_of_le (O.own o rfl)]; exact O.old
theorem pu32 : cfg.pure 32 = true := rfl
instance t32 {d : Option Nat} : TightD cfg 32 d := ⟨fun _ _ => rfl⟩
def B32 (p : List Bool) := cA p Tryz.f32.body
def R32 (p : List Bool) (i : Nat) := Code.region i (cA p Tryz.f32.body) false
theorem F32 : (∀ p i, XR cfg 32 (R32 p i) (B32 p) (cA p Tryz.f32.body).toList i false) /\ cfg.imm 32 1 = true /\ cfg.imm 32 18 = true /\ cfg.imm 32 35 = true /\ GO cfg 32 (B32 [tt, tt, tt, tt, tt, tt, ff]) 3 43 /\ GO cfg 32 (B32 [tt, tt, tt, tt, tt, tt, ff]) 12 52 /\ RE cfg 32 [0, 1, 2, 3, 5, 7, 9, 10, 11, 12, 26, 27, 28, 29] /\ cfg.pure 32 = true := ⟨fun _ _ => xr rfl rfl, by kernel_rfl, by kernel_rfl, by kernel_rfl, gO (by kernel_rfl), gO (by kernel_rfl), rE fun _ => rfl, rfl⟩
def l32_1 : Code := (.seq (R32 [tt, tt, tt, tt, ff, tt, ff, ff, ff] 9) (.seq (.cond (.tmp 29) .skip (.exit 2)) (.seq (.block 3 (.seq (R32 [tt, tt, tt, tt, ff, tt, ff, ff, tt, tt, ff, ff, ff] 10) (R32 [tt, tt, tt, tt, ff, tt, ff, ff, tt, tt, ff, ff, tt] 11))) (R32 [tt, tt, tt, tt, ff, tt, ff, ff, tt, tt, tt] 12))))
def l32_0 : Code := (.seq (R32 [tt, tt, ff, tt, ff, ff, ff] 3) (.seq (.cond (.tmp 12) .skip (.exit 0)) (.seq (.block 1 (.seq (R32 [tt, tt, ff, tt, ff, ff, tt, tt, ff, ff, ff] 4) (R32 [tt, tt, ff, tt, ff, ff, tt, tt, ff, ff, tt] 5))) (R32 [tt, tt, ff, tt, ff, ff, tt, tt, tt] 6))))
def k32 : Code := (.seq (R32 [ff] 0) (.seq (R32 [tt, ff] 1) (.seq (.seq (R32 [tt, tt, ff, ff] 2) (.block 0 (.loop l32_0))) (.seq (R32 [tt, tt, tt, ff] 7) (.seq (.seq (R32 [tt, tt, tt, tt, ff, ff] 8) (.block 2 (.loop l32_1))) (.seq (R32 [tt, tt, tt, tt, tt, ff] 13) (.seq (R32 [tt, tt, tt, tt, tt, tt, ff] 14) .ret)))))))
theorem call32 (x0 : AV) (h : Heap) : call cfg 32 [x0] h = (exec cfg 32 k32 [(0, x0)] h).bind (callEnd cfg 32 h [.tmp 2]) := call_at2 (fnat Tryz.func32 (b := k32) (by kernel_rfl) (by kernel_rfl)) rfl rfl
theorem named_mems (l : List SMem) (hn : l.length < 100000000) (n : Nat) (h0 : Heap) (z : Nat) (r : Room) : ∀ (ys : List SMem) (i : Nat), l.drop i = ys -> i <= l.length -> ∀ (acc : List (List UInt8)) v H, Own n h0 H v (strL acc) -> acc.length + ys.length <= 900000000 -> ∀ t0 t1 t2 t5 t7 t12 t26 t27 t28 t29,
  Got (exec cfg 32 (.loop l32_0) [(0, t0), (1, t1), (2, t2), (3, v), (5, t5), (7, t7), (9, .lst (memsL l) z r), (10, .int .i64 l.length), (11, .int .i64 i), (12, t12), (26, t26), (27, t27), (28, t28), (29, t29)] H)
   (fun q => q.1 = .exit 0 /\ Own n h0 q.2.2 (q.2.1.get 3) (strL (acc ++ ys.map SMem.name)) /\ q.2.1.get 0 = t0 /\ q.2.1.get 1 = t1 /\ q.2.1.get 2 = t2) := by
 intro ys
 induction ys with
 | nil =>
  intro i hd hi acc v H O hacc t0 t1 t2 t5 t7 t12 t26 t27 t28 t29
  rw [got_loop]
  simp only [l32_0, F32, Tryz.f32, sxAll, cA, arithA, Env.keep, ↓qAe, Nat.reduceBEq, ↓reduceIte, at_end hd]
  exact ⟨trivial, by simpa using O, trivial, trivial, trivial⟩
 | cons y s ih =>
  intro i hd hi acc v H O hacc t0 t1 t2 t5 t7 t12 t26 t27 t28 t29
  obtain ⟨hlt, hget, hd'⟩ := at_drop hd
  have hx := memsL_get hget
  have hlt' : i < l.length := by simpa using hlt
  have hw := wrap_succ (i := i) (by omega)
  have hk := O.kn
  simp only [qAv] at hacc
  rw [got_loop]
  obtain ⟨v', H', ha, O'⟩ := (O.app [.cells y.cells 0]).push (plain_strs acc) (ys := [.str y.name]) (plain_strs [y.name]) (by simp [mostLen, strL]; omega)
  have := ih (i + 1) hd' (by omega) (acc ++ [y.name]) v' H' (by simpa [strL] using O') (by simp; omega)
  simp only [SMem.cells] at ha
  simp only [l32_0] at this ⊢
  simp only [qAm, SMem.cells, F32, Tryz.f32, sxAll, cA, arithA, Env.keep, qt_eq, storeA, indexAddrA, fieldAddrA, loadA, Rv.part, cellsAt, TD.isAgg, fillA, setCells, copies, ↓qAe, Nat.reduceBEq, Nat.reduceAdd, Nat.reduceMul, Nat.reduceLeDiff, Nat.reduceGT, bne, ↓reduceIte, hlt, ty22, ty81, ty23, ty9, hx, hw, hk, O'.kn, ha, elems, group] at this ⊢
  exact this _ _ _ _ _ _ _ _ _ _
theorem named_funs (l : List SFun) (hn : l.length < 100000000) (n : Nat) (h0 : Heap) (z : Nat) (r : Room) : ∀ (ys : List SFun) (i : Nat), l.drop i = ys -> i <= l.length -> ∀ (acc : List (List UInt8)) v H, Own n h0 H v (strL acc) -> acc.length + ys.length <= 900000000 -> ∀ t0 t1 t2 t5 t7 t9 t10 t11 t12 t29,
  Got (exec cfg 32 (.loop l32_1) [(0, t0), (1, t1), (2, t2), (3, v), (5, t5), (7, t7), (9, t9), (10, t10), (11, t11), (12, t12), (26, .lst (funsL l) z r), (27, .int .i64 l.length), (28, .int .i64 i), (29, t29)] H)
   (fun q => q.1 = .exit 2 /\ Own n h0 q.2.2 (q.2.1.get 3) (strL (acc ++ ys.map SFun.name)) /\ q.2.1.get 0 = t0 /\ q.2.1.get 1 = t1 /\ q.2.1.get 2 = t2) := by
 intro ys
 induction ys with
 | nil =>
  intro i hd hi acc v H O hacc t0 t1 t2 t5 t7 t9 t10 t11 t12 t29
  rw [got_loop]
  simp only [l32_1, F32, Tryz.f32, sxAll, cA, arithA, Env.keep, ↓qAe, Nat.reduceBEq, ↓reduceIte, at_end hd]
  exact ⟨trivial, by simpa using O, trivial, trivial, trivial⟩
 | cons y s ih =>
  intro i hd hi acc v H O hacc t0 t1 t2 t5 t7 t9 t10 t11 t12 t29
  obtain ⟨hlt, hget, hd'⟩ := at_drop hd
  have hx := funsL_get hget
  have hlt' : i < l.length := by simpa using hlt
  have hw := wrap_succ (i := i) (by omega)
  have hk := O.kn
  simp only [qAv] at hacc
  rw [got_loop]
  obtain ⟨v', H', ha, O'⟩ := (O.app [.cells y.cells 0]).push (plain_strs acc) (ys := [.str y.name]) (plain_strs [y.name]) (by simp [mostLen, strL]; omega)
  have := ih (i + 1) hd' (by omega) (acc ++ [y.name]) v' H' (by simpa [strL] using O') (by simp; omega)
  simp only [SFun.cells] at ha
  simp only [l32_1] at this ⊢
  simp only [qAm, SFun.cells, F32, Tryz.f32, sxAll, cA, arithA, Env.keep, qt_eq, storeA, indexAddrA, fieldAddrA, loadA, Rv.part, cellsAt, TD.isAgg, fillA, setCells, copies, ↓qAe, Nat.reduceBEq, Nat.reduceAdd, Nat.reduceMul, Nat.reduceLeDiff, Nat.reduceGT, bne, ↓reduceIte, hlt, ty24, ty39, ty23, ty9, hx, hw, hk, O'.kn, ha, elems, group] at this ⊢
  exact this _ _ _ _ _ _ _ _ _ _
def namesOf (p : SProg) : List (List UInt8) := p.mems.map SMem.name ++ (p.locks ++ p.funs.map SFun.name)
def namedB (p : SProg) : Bool := decide ((namesOf p).length <= 256) && (cl (sortedS (namesOf p)) == (namesOf p).length && !((sortedS (namesOf p)).any fun s => !isName s))
theorem named_eq (p : SProg) (h : Heap) (hp : p.wf) : call cfg 32 [.agg p.cells] h = some (.ret (.bool (namedB p)), h) := by
 obtain ⟨⟨o1, e1, H1⟩, hx1, ho1, O1, g10, g11, g12⟩ := named_mems p.mems hp.1 h.length h p.mz p.mroom p.mems 0 (by simp) (by omega) [] (.lst [] 0 .nil) h (Own.nil h) (by have := hp.1; simp; omega) (.agg p.cells) (.ref p.cells) (.bool false) .junk .junk .junk .junk .junk .junk .junk
 simp only [qBo, qBq] at hx1 ho1 O1 g10 g11 g12
 subst ho1
 obtain ⟨v2, H2, ha2, O2⟩ := O1.push (plain_strs _) (ys := strL p.locks) (plain_strs _) (by have := hp.1; have := hp.2.1; simp [strL, mostLen]; omega)
 have O2' : Own h.length h H2 v2 (strL (p.mems.map SMem.name ++ p.locks)) := by simpa [strL] using O2
 obtain ⟨⟨o3, e3, H3⟩, hx3, ho3, O3, g30, g31, g32⟩ := named_funs p.funs hp.2.2.1 h.length h p.fz p.froom p.funs 0 (by simp) (by omega) (p.mems.map SMem.name ++ p.locks) v2 H2 O2' (by have := hp.1; have := hp.2.1; have := hp.2.2.1; simp; omega)
  (.agg p.cells) (.ref p.cells) (.bool false) (e1.get 5) (e1.get 7) (e1.get 9) (e1.get 10) (e1.get 11) (e1.get 12) (e1.get 29)
 simp only [qBo] at hx3 ho3 O3 g30 g31 g32
 subst ho3
 rw [show p.mems.map SMem.name ++ p.locks ++ p.funs.map SFun.name = namesOf p from by simp [namesOf]] at O3
 obtain ⟨H4, hs4, O4⟩ := sortS_own O3 (by have := hp.1; have := hp.2.1; have := hp.2.2.1; simp [namesOf]; omega)
 have hlen : (sortedS (namesOf p)).length = (namesOf p).length := (sortedS_perm _).length_eq
 have hl4 := len_built (e := 9) O4.b
 rw [strL_len, hlen] at hl4
 have hk3 := O4.kn
 have hn1 := hp.1
 have hn2 := hp.2.1
 have hn3 := hp.2.2.1
 have hnl : (namesOf p).length < 300000000 := by simp [namesOf]; omega
 generalize hv : e3.get 3 = v at *
 simp only [SProg.cells] at hx1 hx3 g10 g11 g30 g31
 rw [call32]
 by_cases hle : (namesOf p).length <= 256
 ·obtain ⟨v5, H5, hc5, O5⟩ := cloneS_eq H4 v _ O4.b (by simp [mostLen, hlen]; omega)
  obtain ⟨u6, H6, hc6, hk6, hl6, hm6, ht6⟩ := compactS_eq _ _ _ _ _ O5 (by omega)
  have hkeep : ∀ o, objOf v = some o -> H6[o]? = H4[o]? := fun o ho => by
   have hlt := built_lt O4.b ho
   have := congrArg (·[o]?) ht6
   simp only [qBa hlt] at this
   exact this
  have B6 := O4.b.other hkeep
  have hl6' := len_built (e := 9) B6
  rw [strL_len, hlen] at hl6'
  have hcf := containsFS_eqR (sortedS (namesOf p)) (fun s => !isName s) 59 [] v H6 (by omega) (rd_built ty23 rfl ty9 rfl rfl B6 (plain_strs _)) (fun a ha => namedx_eq a H6 (by
   have := (sortedS_perm (namesOf p)).mem_iff.1 ha
   simp only [namesOf, qAp, qBl] at this
   rcases this with ⟨m, hm, rfl⟩ | hl | ⟨f, hf, rfl⟩
   ·have := hp.2.2.2.1 m hm; omega
   ·have := hp.2.2.2.2.1 a hl; omega
   ·have := (hp.2.2.2.2.2 f hf).2.1; omega))
  have hold : H6.take h.length = h := by
   have h1 : h.length <= H4.length := O4.le
   have : H6.take h.length = H4.take h.length := by
    have := congrArg (List.take h.length) ht6
    rwa [List.take_take, List.take_take, Nat.min_eq_left h1] at this
   rw [this, O4.old]; simp
  have hle' : (((namesOf p).length : Int) <= 256) = True := by simp; omega
  unfold namedB
  cases hcl : cl (sortedS (namesOf p)) == (namesOf p).length with
  | false =>
   have hcl' : ((cl (sortedS (namesOf p)) : Int) == ((namesOf p).length : Int)) = false := by simp at hcl ⊢; omega
   simp only [SProg.cells, F32, k32, Tryz.f32, sxAll, cA, arithA, Env.keep, qt_eq, resultsA, packA, fieldAddrA, Rv.part, TD.isAgg, mapO, ↓qAe, Nat.reduceBEq, Nat.reduceAdd, ↓reduceIte, lenA_lst, load_ref, elems, ty26, ty22, ty23, ty9, ty24, memsL_len, funsL_len, hx1, g10, g11, g12, O1.kn, O2.kn, ha2, hx3, g30, g31, g32, hv, hk3, hs4, hl4, hle', hle, hc5, O5.kn, hc6, hk6, hl6, hl6', hcl']
   exact leave_pure rfl hold rfl
  | true =>
   have hcl' : ((cl (sortedS (namesOf p)) : Int) == ((namesOf p).length : Int)) = true := by simp at hcl ⊢; omega
   simp only [SProg.cells, F32, k32, Tryz.f32, sxAll, cA, arithA, Env.keep, qt_eq, resultsA, packA, unA, fieldAddrA, Rv.part, TD.isAgg, mapO, ↓qAe, Nat.reduceBEq, Nat.reduceAdd, ↓reduceIte, lenA_lst, load_ref, elems, ty26, ty22, ty23, ty9, ty24, memsL_len, funsL_len, hx1, g10, g11, g12, O1.kn, O2.kn, ha2, hx3, g30, g31, g32, hv, hk3, hs4, hl4, hle', hle, hc5, O5.kn, hc6, hk6, hl6, hl6', hcl', hcf, pu58]
   exact leave_pure rfl hold rfl
 ·have hle' : (((namesOf p).length : Int) <= 256) = False := by simp; omega
  have hB : namedB p = false := by simp [namedB, hle]
  rw [hB]
  have hold : H4.take h.length = h := by rw [O4.old]; simp
  simp only [SProg.cells, F32, k32, Tryz.f32, sxAll, cA, arithA, Env.keep, qt_eq, resultsA, packA, fieldAddrA, Rv.part, TD.isAgg, mapO, ↓qAe, Nat.reduceBEq, Nat.reduceAdd, ↓reduceIte, lenA_lst, load_ref, elems, ty26, ty22, ty23, ty9, ty24, memsL_len, funsL_len, hx1, g10, g11, g12, O1.kn, O2.kn, ha2, hx3, g30, g31, g32, hv, hk3, hs4, hl4, hle']
  exact leave_pure rfl hold rfl
end
end Go.Proofs.Sx
namespace Go.Proofs.Sx
open Go.Rv Go.Proofs
attribute [local congr] bind_left got_left
noncomputable section
def mayP (p : SProg) : Bool := namedB p && (!decide (((thr p.funs 0).length : Int) > 16) && (!(p.mems.any badSize) && p.funs.all (mayFunB p)))
theorem pu16 : cfg.pure 16 = true := rfl
instance t16 {d : Option Nat} : TightD cfg 16 d := ⟨fun _ _ => rfl⟩
def B16 (p : List Bool) := cA p Tryz.f16.body
def R16 (p : List Bool) (i : Nat) := Code.region i (cA p Tryz.f16.body) false
theorem F16 : (∀ p i, XR cfg 16 (R16 p i) (B16 p) (cA p Tryz.f16.body).toList i false) /\ cfg.imm 16 1 = true /\ GO cfg 16 (B16 [tt, ff, ff]) 3 6 /\ GO cfg 16 (B16 [tt, ff, ff]) 9 12 /\ RE cfg 16 [0, 1, 2, 16] /\ cfg.pure 16 = true := ⟨fun _ _ => xr rfl rfl, by kernel_rfl, gO (by kernel_rfl), gO (by kernel_rfl), rE fun _ => rfl, rfl⟩
def k16 : Code := (.seq (R16 [ff] 0) (.seq (.seq (R16 [tt, ff, ff] 1) (.cond (.tmp 16) (.seq (R16 [tt, ff, tt, ff, ff] 2) .ret) .skip)) (.seq (R16 [tt, tt, ff] 3) .ret)))
theorem call16 (x0 : AV) (h : Heap) : call cfg 16 [x0] h = (exec cfg 16 k16 [(0, x0)] h).bind (callEnd cfg 16 h [.tmp 2]) := call_at2 (fnat Tryz.func16 (b := k16) (by kernel_rfl) (by kernel_rfl)) rfl rfl
theorem may_eq (p : SProg) (h : Heap) (hp : p.wf) : call cfg 16 [.agg p.cells] h = some (.ret (.bool (mayP p)), h) := by
 rw [call16]
 have h1 := fun h => named_eq p h hp
 obtain ⟨z, r, h2⟩ := cthreads_eq p h hp
 have h3 : call cfg 33 [.lst (memsL p.mems) p.mz p.mroom, .clo 34 []] h = some (.ret (.bool (p.mems.any badSize)), h) :=
  containsFMem_eq p.mems SMem.cells badSize 34 [] p.mz p.mroom h (by have := hp.1; omega) (fun _ _ => rfl) (fun m _ => mayA_eq m h)
 have h4 : call cfg 35 [.lst (funsL p.funs) p.fz p.froom, .clo 36 [.ref p.cells]] h = some (.ret (.bool (p.funs.any fun f => !mayFunB p f)), h) :=
  containsFFun_eq p.funs SFun.cells (fun f => !mayFunB p f) 36 [.ref p.cells] p.fz p.froom h (by have := hp.2.2.1; omega) (fun _ _ => rfl) (fun f hf => mayB_eq p f h (hp.2.2.2.2.2 f hf))
 have h5 : p.funs.all (mayFunB p) = !(p.funs.any fun f => !mayFunB p f) := by simp [List.not_any_eq_all_not]
 unfold mayP
 rw [h5]
 simp only [SProg.cells] at h1 h2 h4
 cases c1 : namedB p with
 | false =>
  rw [c1] at h1
  simp only [SProg.cells, F16, k16, Tryz.f16, sxAll, cA, Env.keep, qt_eq, resultsA, packA, unA, loadA, Rv.part, cellsAt, TD.isAgg, mapO, ↓qAe, Nat.reduceBEq, Nat.reduceAdd, Nat.reduceLeDiff, ↓reduceIte, ty26, pu32, h1]
  exact leave_kept rfl rfl
 | true =>
  rw [c1] at h1
  by_cases c2 : ((thr p.funs 0).length : Int) > 16
  ·simp only [SProg.cells, F16, k16, Tryz.f16, sxAll, cA, arithA, Env.keep, qt_eq, resultsA, packA, unA, loadA, Rv.part, cellsAt, TD.isAgg, lenA, mapO, ↓qAe, Nat.reduceBEq, Nat.reduceAdd, Nat.reduceLeDiff, ↓reduceIte, ty26, ty27, pu32, pu26, h1, h2, intL_len, c2]
   exact leave_kept rfl rfl
  ·cases c3 : p.mems.any badSize with
   | true =>
    rw [c3] at h3
    simp only [SProg.cells, F16, k16, Tryz.f16, sxAll, cA, arithA, Env.keep, qt_eq, resultsA, packA, unA, fieldAddrA, loadA, Rv.part, cellsAt, TD.isAgg, lenA, mapO, ↓qAe, Nat.reduceBEq, Nat.reduceAdd, Nat.reduceLeDiff, ↓reduceIte, ty26, ty27, ty22, pu32, pu26, pu33, h1, h2, h3, intL_len, c2]
    exact leave_kept rfl rfl
   | false =>
    rw [c3] at h3
    simp only [SProg.cells, F16, k16, Tryz.f16, sxAll, cA, arithA, Env.keep, qt_eq, resultsA, packA, unA, fieldAddrA, loadA, Rv.part, cellsAt, TD.isAgg, lenA, mapO, ↓qAe, Nat.reduceBEq, Nat.reduceAdd, Nat.reduceLeDiff, ↓reduceIte, ty26, ty27, ty22, ty24, pu32, pu26, pu33, pu35, h1, h2, h3, h4, intL_len, c2]
    exact leave_kept rfl rfl
end
end Go.Proofs.Sx
namespace Go.Rv
noncomputable def nilA (h : Heap) : AV -> Option AV
 | .ptr o off g => if h.live o g then some (.ptr o off g) else none
 | .ref cs => some (.ref cs)
 | .clo f cs => some (.clo f cs)
 | .bnd f cs => some (.bnd f cs)
 | .yld l => some (.yld l)
 | _ => none
theorem nilA_ptr (h : Heap) (o off g : Nat) : nilA h (.ptr o off g) = if h.live o g then some (.ptr o off g) else none := rfl
mutual
theorem eqb_self : ∀ v : AV, AV.eqb v v = true
  | .bool _ | .int .. | .str _ => by simp [AV.eqb]
  | .nilPtr | .nilMap | .nilFunc | .nilIface | .junk => by simp [AV.eqb]
  | .ptr .. => by simp [AV.eqb]
  | .ref cs => by simp [AV.eqb, eqbs_self cs]
  | .lst xs z r => by simp [AV.eqb, eqbs_self xs]
  | .msl .. => by simp [AV.eqb]
  | .clo f cs => by simp [AV.eqb, eqbs_self cs]
  | .bnd f cs => by simp [AV.eqb, eqbs_self cs]
  | .yld _ => by simp [AV.eqb]
  | .map _ => by simp [AV.eqb]
  | .iface t v => by simp [AV.eqb, eqb_self v]
  | .agg cs => by simp [AV.eqb, eqbs_self cs]
  | .tup cs => by simp [AV.eqb, eqbs_self cs]
theorem eqbs_self : ∀ vs : List AV, AV.eqbs vs vs = true
  | [] => by simp [AV.eqbs]
  | v :: r => by simp [AV.eqbs, eqb_self v, eqbs_self r]
end
section
variable {C : Cfg} {f : Nat} {os : Array Oper} {e : Env} {h : Heap} {i x y t k d : Nat} {r : List Oper} {ty : TypeId} {ps : String} {af : Array Edge}
theorem lb_fieldAddr (ho : os[i]? = some ⟨some d, .fieldAddr t (.tmp x) k, ty, ps, af, none⟩) : looseB C f os e h i = (((known (e.get x)).bind fun x => fieldAddrA C h t x k).map fun v => AV.eqb v (e.get d)).getD false := by
 simp only [looseB, ho, wantA, opA, evalA_tmp, qAd]
 cases known (e.get x) with
 | none => rfl
 | some x =>
  simp only [qAe]
  cases fieldAddrA C h t x k <;> rfl
theorem lb_load (ho : os[i]? = some ⟨some d, .load t (.tmp x), ty, ps, af, none⟩) (hq : C.quiet f d = false) : looseB C f os e h i = (((known (e.get x)).bind fun x => loadA C h t x).map fun v => AV.eqb v (e.get d)).getD false := by
 simp only [looseB, ho, wantA, opA, evalA_tmp, qAd, qAo, Option.getD_some, hq, Bool.false_and, qAb, if_false]
 cases known (e.get x) with
 | none => rfl
 | some x =>
  simp only [qAe]
  cases loadA C h t x <;> rfl
theorem lb_nilCheck (ho : os[i]? = some ⟨some d, .nilCheck (.tmp x), ty, ps, af, none⟩) : looseB C f os e h i = (((known (e.get x)).bind fun x => nilA h x).map fun v => AV.eqb v (e.get d)).getD false := by
 simp only [looseB, ho, wantA, opA, evalA_tmp, qAd]
 cases known (e.get x) with
 | none => rfl
 | some x =>
  simp only [qAe]
  cases x <;> first | rfl | (rename_i o a g; cases hl : h.live o g <;> simp [nilA, hl])
theorem sx_append_l (x y : Operand) (t : TypeId) : ops C f os (⟨some d, .call { callee := .builtin .append, args := #[x, y], argTypes := #[t, t] }, ty, ps, af, none⟩ :: r) e h = (evalA C e x).bind fun x => (evalA C e y).bind fun y => (C.ty t).bind fun ti => match ti.td with
  | .slice el => (C.ty el).bind fun te => (elems h y).bind fun ys => (appendA h te.size x ys).bind fun v => if looseAll C f os (some d) e v.2 then ops C f os r (e.put d v.1) v.2 else none
  | _ => none := by
 rw [ops_cons]
 have hp : panO C e ⟨some d, .call { callee := .builtin .append, args := #[x, y], argTypes := #[t, t] }, ty, ps, af, none⟩ = none := rfl
 simp only [hp, wantA, callee, qAe, opA, mapO, qAd, qBm, bne_self_eq_false, qAb, if_false]
 congr 1
 funext x
 congr 1
 funext y
 congr 1
 funext ti
 cases ti.td <;> simp only [qAh, qBm] <;> rfl
theorem sx_buildSlice_l (t n : TypeId) (qs : Array (Nat × Operand)) : ops C f os (⟨some d, .buildSlice t n qs, ty, ps, af, none⟩ :: r) e h = (partsA C e qs.toList).bind fun ps => (C.ty t).bind fun ti => match ti.td with
  | .slice el => (C.ty el).bind fun ti => if ti.zero.length != ti.size || decide (n * ti.size > 16777216) then none else
   (fillA (fun i => some (i * ti.size, ti.size)) (copies n ti.zero) ps).bind fun cs => if C.imm f d then (if looseAll C f os (some d) e h then ops C f os r (e.put d (.lst (group n cs ti.size) ti.size (.exact n))) h else none) else (if looseAll C f os (some d) e (h ++ [.cells cs 0]) then ops C f os r (e.put d (.msl h.length 0 n ti.size 0 (some n))) (h ++ [.cells cs 0]) else none)
  | _ => none := by
 rw [ops_cons]
 have hp : panO C e ⟨some d, .buildSlice t n qs, ty, ps, af, none⟩ = none := rfl
 simp only [hp, wantA, callee, qAe, opA, parts_eq, qAd, qBm, qAo, Option.getD_some]
 cases partsA C e qs.toList <;> simp only [qAh, qAe]
 cases C.ty t <;> simp only [qAh, qAe]
 rename_i ti
 cases ti.td <;> simp only [qAh]
 rename_i el
 cases C.ty el <;> simp only [qAh, qAe]
 split
 ·rfl
 ·simp only [qBm]
  congr 1
  funext cs
  split <;> rfl
theorem sx_callf_l (g : Nat) (args : Array Operand) (ct : Array TypeId) : ops C f os (⟨some d, .call { callee := .value (.func g), args := args, argTypes := ct }, ty, ps, af, none⟩ :: r) e h = (mapO (evalA C e) args.toList).bind fun vs => if (some d |>.map (C.quiet f)).getD false && !C.pure g then none else (call C g vs h).bind fun x => match x.1 with
  | .ret v => if looseAll C f os (some d) e x.2 then ops C f os r (e.put d v) x.2 else none
  | .pan v => some (.pan v, e, x.2) := by
 rw [ops_cons]
 simp only [wantA, callee, qAe, evalA, callv_clo, pureV, List.append_nil]
 rfl
end
end Go.Rv
namespace Go.Proofs.Sx
open Go.Rv Go.Proofs
noncomputable section
structure SFrame where
 fn : Nat
 pc : Nat
 regs : List Int
structure SSt where
 cells : List (List Int)
 held : List (Int × Int)
 thr : List (List SFrame)
 last : Int
 out : List Int
 ending : Int
def SSt.top (σ : SSt) (t : Nat) : Option SFrame := (σ.thr[t]?).bind List.getLast?
def insAt (p : SProg) (f : SFrame) : Option SIns := (p.funs[f.fn]?).bind (·.code[f.pc]?)
def whoHas : List (Int × Int) -> Int -> Option Int
 | [], _ => none
 | x :: r, l => if l = x.1 then some x.2 else whoHas r l
def letGo : List (Int × Int) -> Int -> List (Int × Int)
 | [], _ => []
 | x :: r, l => if l = x.1 then r else x :: letGo r l
def canI (σ : SSt) (i : SIns) : Bool := !(i.op == 7) || (whoHas σ.held i.n).isNone
def canB (p : SProg) (σ : SSt) (t : Nat) : Bool := match σ.top t with
 | none => false
 | some f => match insAt p f with
  | none => false
  | some i => σ.ending == 0 && canI σ i
def ableL (p : SProg) (σ : SSt) : List Nat := (List.range σ.thr.length).filter (canB p σ)
def endS (p : SProg) (σ : SSt) : SSt :=
 if σ.ending ≠ 0 then σ else if σ.thr.all (·.isEmpty) then { σ with ending := 1 } else if ableL p σ = [] then { σ with ending := 3 } else σ
def truthI (b : Bool) : Int := if b then 1 else 0
def unaryF (k a : Int) : Option Int := if k = 5 then some (IntKind.i64.wrap (0 - a)) else if k = 6 then some (truthI (a == 0)) else none
def binaryF (k a b : Int) : Option Int :=
 if k = 7 then some (IntKind.i64.wrap (a + b)) else if k = 8 then some (IntKind.i64.wrap (a - b)) else if k = 9 then some (IntKind.i64.wrap (a * b))
 else if k = 10 then (if b = 0 then none else some (IntKind.i64.wrap (a.tdiv b))) else if k = 11 then (if b = 0 then none else some (a.tmod b))
 else if k = 12 then some (truthI (decide (a < b))) else if k = 13 then some (truthI (decide (a <= b))) else if k = 14 then some (truthI (a == b)) else if k = 15 then some (truthI (!(a == b)))
 else if k = 16 then some (truthI (!(a == 0) && !(b == 0))) else if k = 17 then some (truthI (!(a == 0) || !(b == 0))) else none
def regV (f : SFrame) (n : Int) : Int := f.regs.getD n.toNat 0
def setR (f : SFrame) (r v : Int) : SFrame := ⟨f.fn, f.pc + 1, f.regs.set r.toNat v⟩
def onward (f : SFrame) : SFrame := { f with pc := f.pc + 1 }
def setStk (σ : SSt) (t : Nat) (l : List SFrame) : SSt := { σ with thr := σ.thr.set t l }
def cellOf (σ : SSt) (m pl : Int) : Option Int := if 0 <= m /\ 0 <= pl then (σ.cells[m.toNat]?).bind (·[pl.toNat]?) else none
def setCell (σ : SSt) (m pl v : Int) : SSt := { σ with cells := σ.cells.set m.toNat ((σ.cells.getD m.toNat []).set pl.toNat v) }
def placeOf (f : SFrame) (i : SIns) : Int := if i.a = -1 then 0 else regV f i.a
def becomesS (σ : SSt) (t : Nat) (rest : List SFrame) (f : SFrame) (r : Int) : Option Int -> SSt × Bool
 | some v => (setStk σ t (rest ++ [setR f r v]), false)
 | none => (σ, true)
def newFrame (p : SProg) (n : Nat) (args : List Int) : SFrame := ⟨n, 0, args ++ List.replicate ((((p.funs[n]?).map SFun.regs).getD 0).toNat - args.length) 0⟩
def exeS (p : SProg) (σ : SSt) (t : Nat) (rest : List SFrame) (f : SFrame) (i : SIns) : SSt × Bool :=
 if i.op = 1 then becomesS σ t rest f i.r (some i.n)
 else if i.op = 2 then becomesS σ t rest f i.r (some (regV f i.a))
 else if i.op = 3 then becomesS σ t rest f i.r (unaryF i.n (regV f i.a))
 else if i.op = 4 then becomesS σ t rest f i.r (binaryF i.n (regV f i.a) (regV f i.b))
 else if i.op = 5 then becomesS σ t rest f i.r (cellOf σ i.n (placeOf f i))
 else if i.op = 6 then (if (cellOf σ i.n (placeOf f i)).isSome then (setStk (setCell σ i.n (placeOf f i) (regV f i.b)) t (rest ++ [onward f]), false) else (σ, true))
 else if i.op = 7 then (if (whoHas σ.held i.n).isNone then (setStk { σ with held := σ.held ++ [(i.n, (t : Int))] } t (rest ++ [onward f]), false) else (σ, true))
 else if i.op = 8 then (if whoHas σ.held i.n = some (t : Int) then (setStk { σ with held := letGo σ.held i.n } t (rest ++ [onward f]), false) else (σ, true))
 else if i.op = 9 then (setStk { σ with out := σ.out ++ [regV f i.a] } t (rest ++ [onward f]), false)
 else if i.op = 10 then (setStk σ t (rest ++ [f] ++ [newFrame p i.n.toNat (i.args.map (regV f))]), false)
 else if i.op = 11 then (setStk σ t (rest ++ [{ f with pc := i.n.toNat }]), false)
 else if i.op = 12 then (setStk σ t (rest ++ [if regV f i.a = 0 then { f with pc := i.n.toNat } else onward f]), false)
 else if i.op = 13 then (match rest.getLast? with
  | none => (setStk σ t rest, false)
  | some c => (setStk σ t (rest.dropLast ++ [setR c (((insAt p c).map (·.r)).getD 0) (regV f i.a)]), false))
 else (σ, false)
def stepS (p : SProg) (σ : SSt) (t : Nat) : SSt := match σ.top t with
 | none => σ
 | some f => match insAt p f with
  | none => σ
  | some i => let x := exeS p σ t (σ.thr.getD t []).dropLast f i
   endS p { x.1 with last := (t : Int), ending := if x.2 then 2 else x.1.ending }
def FrOk (p : SProg) (f : SFrame) : Prop := ∃ F i, p.funs[f.fn]? = some F /\ F.code[f.pc]? = some i /\ (f.regs.length : Int) = F.regs
def Calling (p : SProg) (f : SFrame) : Prop := ∃ i, insAt p f = some i /\ i.op = 10
structure SOk (p : SProg) (K : Nat) (σ : SSt) : Prop where
 fr : ∀ l ∈ σ.thr, ∀ f ∈ l, FrOk p f
 call : ∀ l ∈ σ.thr, ∀ f ∈ l.dropLast, Calling p f
 deep : ∀ l ∈ σ.thr, l.length <= K
 outs : σ.out.length <= K
 few : σ.thr.length <= 16
end
end Go.Proofs.Sx
namespace Go.Proofs.Sx
open Go.Rv Go.Proofs
noncomputable section
inductive Role where
 | other | st | mem | held | cArr | cell (i : Nat) | tArr | stack (t : Nat) | regs (t k : Nat) | out | work
 deriving DecidableEq
def Arr (h : Heap) (ρ : Nat -> Role) (r : Role) (v : AV) (xs : List AV) : Prop :=
 (v = .lst [] 0 .nil /\ xs = []) ∨ ∃ o g cap, v = .msl o 0 xs.length 1 g cap /\ h.obj o g = some xs /\ ρ o = r /\ (cap = none ∨ cap = some xs.length)
def frC (f : SFrame) (rv : AV) : List AV := [.int .i64 f.fn, .int .i64 f.pc, rv]
def frsC : List SFrame -> List AV -> List AV
 | f :: r, v :: s => frC f v ++ frsC r s
 | _, _ => []
def RegS (h : Heap) (ρ : Nat -> Role) (t k : Nat) (v : AV) (regs : List Int) : Prop := ∃ o g cap, v = .msl o 0 regs.length 1 g cap /\ h.obj o g = some (intL regs) /\ ρ o = .regs t k
structure Stk (h : Heap) (ρ : Nat -> Role) (t : Nat) (fs : List SFrame) (rvs : List AV) (o g : Nat) (cap : Option Nat) (cs : List AV) : Prop where
 obj : h.obj o g = some cs
 role : ρ o = .stack t
 len : rvs.length = fs.length
 room : ∃ c, cs.length = c * 3 /\ fs.length <= c /\ (cap = none ∨ cap = some c)
 pre : cs.take (fs.length * 3) = frsC fs rvs
 regs : ∀ (k : Nat) f rv, fs[k]? = some f -> rvs[k]? = some rv -> RegS h ρ t k rv f.regs
def heldA (l : List (Int × Int)) : List (AV × AV) := l.map fun x => (.int .i64 x.1, .int .i64 x.2)
structure Rep (p : SProg) (h : Heap) (ρ : Nat -> Role) (s : Nat) (σ : SSt) (m mp : Nat) (cv tv ov : AV) (cs ts : List AV) : Prop where
 st : h.obj s 0 = some (p.cells ++ [.ptr m 0 0, tv, .int .i64 σ.last, ov, .int .u8 σ.ending])
 stR : ρ s = .st
 mem : h.obj m 0 = some [cv, .int .i64 p.locks.length, .map mp]
 memR : ρ m = .mem
 held : h[mp]? = some (.map (heldA σ.held))
 heldR : ρ mp = .held
 cArr : Arr h ρ .cArr cv cs
 cLen : cs.length = σ.cells.length
 cell : ∀ (i : Nat) v l, cs[i]? = some v -> σ.cells[i]? = some l -> ∃ o g cap, v = .msl o 0 l.length 1 g cap /\ h.obj o g = some (intL l) /\ ρ o = .cell i
 tArr : Arr h ρ .tArr tv ts
 tLen : ts.length = σ.thr.length
 stk : ∀ (t : Nat) v fs, ts[t]? = some v -> σ.thr[t]? = some fs -> ∃ rvs o g cap c, v = .msl o 0 fs.length 3 g cap /\ Stk h ρ t fs rvs o g cap c
 out : (ov = .lst [] 0 .nil /\ σ.out = []) ∨ ∃ o g cap, ov = .msl o 0 σ.out.length 1 g cap /\ h.obj o g = some (intL σ.out) /\ ρ o = .out /\ (cap = none ∨ cap = some σ.out.length)
 fresh : ∀ o, h.length <= o -> ρ o = .other
def At (p : SProg) (h : Heap) (ρ : Nat -> Role) (s : Nat) (σ : SSt) : Prop := ∃ m mp cv tv ov cs ts, Rep p h ρ s σ m mp cv tv ov cs ts
structure Frm (h : Heap) (ρ : Nat -> Role) (h' : Heap) (ρ' : Nat -> Role) : Prop where
 le : h.length <= h'.length
 keep : ∀ o, o < h.length -> ρ o = .other -> h'[o]? = h[o]? /\ ρ' o = .other
theorem Frm.refl (h : Heap) (ρ : Nat -> Role) : Frm h ρ h ρ := ⟨qAr _, fun _ _ h => ⟨rfl, h⟩⟩
theorem Frm.trans {h h' h'' : Heap} {ρ ρ' ρ'' : Nat -> Role} (a : Frm h ρ h' ρ') (b : Frm h' ρ' h'' ρ'') : Frm h ρ h'' ρ'' :=
 ⟨Nat.le_trans a.le b.le, fun o ho hr => by
  obtain ⟨k1, r1⟩ := a.keep o ho hr
  obtain ⟨k2, r2⟩ := b.keep o (Nat.lt_of_lt_of_le ho a.le) r1
  exact ⟨k2.trans k1, r2⟩⟩
theorem obj_of {h h' : Heap} {o g : Nat} {cs : List AV} (H : h.obj o g = some cs) (K : h'[o]? = h[o]?) : h'.obj o g = some cs := by
 unfold Heap.obj at *
 rw [K]; exact H
theorem Arr.mono {h h' : Heap} {ρ ρ' : Nat -> Role} {r : Role} {v : AV} {xs : List AV} (A : Arr h ρ r v xs) (K : ∀ o, o < h.length -> ρ o = r -> h'[o]? = h[o]? /\ ρ' o = r) : Arr h' ρ' r v xs := by
 rcases A with A | ⟨o, g, cap, rfl, ho, hr, hc⟩
 ·exact .inl A
 ·have := K o (obj_some ho) hr
  exact .inr ⟨o, g, cap, rfl, obj_of ho this.1, this.2, hc⟩
theorem RegS.mono {h h' : Heap} {ρ ρ' : Nat -> Role} {t k : Nat} {v : AV} {regs : List Int} (A : RegS h ρ t k v regs) (K : ∀ o, o < h.length -> ρ o = .regs t k -> h'[o]? = h[o]? /\ ρ' o = .regs t k) : RegS h' ρ' t k v regs := by
 obtain ⟨o, g, cap, rfl, ho, hr⟩ := A
 have := K o (obj_some ho) hr
 exact ⟨o, g, cap, rfl, obj_of ho this.1, this.2⟩
theorem Stk.mono {h h' : Heap} {ρ ρ' : Nat -> Role} {t : Nat} {fs : List SFrame} {rvs : List AV} {o g : Nat} {cap : Option Nat} {cs : List AV} (A : Stk h ρ t fs rvs o g cap cs)
  (K : ∀ o, o < h.length -> (ρ o = .stack t ∨ ∃ k, ρ o = .regs t k) -> h'[o]? = h[o]? /\ ρ' o = ρ o) : Stk h' ρ' t fs rvs o g cap cs where
 obj := obj_of A.obj (K o (obj_some A.obj) (.inl A.role)).1
 role := (K o (obj_some A.obj) (.inl A.role)).2.trans A.role
 len := A.len
 room := A.room
 pre := A.pre
 regs := fun k f rv hf hv => (A.regs k f rv hf hv).mono fun o ho hr => by
  have := K o ho (.inr ⟨k, hr⟩)
  exact ⟨this.1, this.2.trans hr⟩
theorem Rep.mono {p : SProg} {h h' : Heap} {ρ ρ' : Nat -> Role} {s : Nat} {σ : SSt} {m mp : Nat} {cv tv ov : AV} {cs ts : List AV} (R : Rep p h ρ s σ m mp cv tv ov cs ts)
  (hl : h.length <= h'.length) (K : ∀ o, o < h.length -> ρ o ≠ .other -> ρ o ≠ .work -> h'[o]? = h[o]? /\ ρ' o = ρ o) (fr : ∀ o, h'.length <= o -> ρ' o = .other) : Rep p h' ρ' s σ m mp cv tv ov cs ts where
 st := obj_of R.st (K s (obj_some R.st) (by rw [R.stR]; simp) (by rw [R.stR]; simp)).1
 stR := (K s (obj_some R.st) (by rw [R.stR]; simp) (by rw [R.stR]; simp)).2.trans R.stR
 mem := obj_of R.mem (K m (obj_some R.mem) (by rw [R.memR]; simp) (by rw [R.memR]; simp)).1
 memR := (K m (obj_some R.mem) (by rw [R.memR]; simp) (by rw [R.memR]; simp)).2.trans R.memR
 held := (K mp (qAu.1 R.held).1 (by rw [R.heldR]; simp) (by rw [R.heldR]; simp)).1.trans R.held
 heldR := (K mp (qAu.1 R.held).1 (by rw [R.heldR]; simp) (by rw [R.heldR]; simp)).2.trans R.heldR
 cArr := R.cArr.mono fun o ho hr => by have := K o ho (by rw [hr]; simp) (by rw [hr]; simp); exact ⟨this.1, this.2.trans hr⟩
 cLen := R.cLen
 cell := fun i v l hv hl => by
  obtain ⟨o, g, cap, e, ho, hr⟩ := R.cell i v l hv hl
  have := K o (obj_some ho) (by rw [hr]; simp) (by rw [hr]; simp)
  exact ⟨o, g, cap, e, obj_of ho this.1, this.2.trans hr⟩
 tArr := R.tArr.mono fun o ho hr => by have := K o ho (by rw [hr]; simp) (by rw [hr]; simp); exact ⟨this.1, this.2.trans hr⟩
 tLen := R.tLen
 stk := fun t v fs hv hf => by
  obtain ⟨rvs, o, g, cap, c, e, S⟩ := R.stk t v fs hv hf
  exact ⟨rvs, o, g, cap, c, e, S.mono fun o ho hr => K o ho (by rcases hr with hr | ⟨k, hr⟩ <;> rw [hr] <;> simp) (by rcases hr with hr | ⟨k, hr⟩ <;> rw [hr] <;> simp)⟩
 out := by
  rcases R.out with A | ⟨o, g, cap, e, ho, hr, hc⟩
  ·exact .inl A
  ·have := K o (obj_some ho) (by rw [hr]; simp) (by rw [hr]; simp)
   exact .inr ⟨o, g, cap, e, obj_of ho this.1, this.2.trans hr, hc⟩
 fresh := fr
theorem Rep.app {p : SProg} {h : Heap} {ρ : Nat -> Role} {s : Nat} {σ : SSt} {m mp : Nat} {cv tv ov : AV} {cs ts : List AV} (R : Rep p h ρ s σ m mp cv tv ov cs ts) (X : Heap) : Rep p (h ++ X) ρ s σ m mp cv tv ov cs ts :=
 R.mono (by simp) (fun o ho _ _ => ⟨qAx ho, rfl⟩) (fun o ho => R.fresh o (by simp at ho; omega))
end
end Go.Proofs.Sx
namespace Go.Proofs.Sx
open Go.Rv Go.Proofs
noncomputable section
theorem frsC_len : ∀ {fs : List SFrame} {rvs : List AV}, rvs.length = fs.length -> (frsC fs rvs).length = fs.length * 3
 | [], [], _ => rfl
 | f :: r, v :: s, h => by
  have := frsC_len (fs := r) (rvs := s) (by simpa using h)
  simp only [frsC, frC, qBb, qAv, List.length_nil, this]; omega
 | [], v :: s, h => by simp at h
 | f :: r, [], h => by simp at h
theorem frsC_append : ∀ {fs : List SFrame} {rvs : List AV} (gs : List SFrame) (ws : List AV), rvs.length = fs.length -> frsC (fs ++ gs) (rvs ++ ws) = frsC fs rvs ++ frsC gs ws
 | [], [], _, _, _ => rfl
 | f :: r, v :: s, gs, ws, h => by
  have := frsC_append (fs := r) (rvs := s) gs ws (by simpa using h)
  simp only [qBr, frsC, this, List.append_assoc]
 | [], v :: s, _, _, h => by simp at h
 | f :: r, [], _, _, h => by simp at h
theorem Stk.last {h : Heap} {ρ : Nat -> Role} {t : Nat} {rest : List SFrame} {f : SFrame} {rvs : List AV} {o g : Nat} {cap : Option Nat} {cs : List AV} (S : Stk h ρ t (rest ++ [f]) rvs o g cap cs) :
  ∃ rr rv, rvs = rr ++ [rv] /\ rr.length = rest.length /\ RegS h ρ t rest.length rv f.regs /\ rest.length * 3 + 2 < cs.length /\
   cs[rest.length * 3]? = some (.int .i64 f.fn) /\ cs[rest.length * 3 + 1]? = some (.int .i64 f.pc) /\ cs[rest.length * 3 + 2]? = some rv /\ cs.drop (rest.length * 3) = (.int .i64 f.fn) :: (.int .i64 f.pc) :: rv :: cs.drop (rest.length * 3 + 3) := by
 have hl := S.len
 simp only [qBb, List.length_singleton] at hl
 obtain ⟨rr, rv, rfl⟩ : ∃ rr rv, rvs = rr ++ [rv] := ⟨rvs.dropLast, rvs.getLast (by intro hc; rw [hc] at hl; simp at hl), (List.dropLast_concat_getLast _).symm⟩
 have hrr : rr.length = rest.length := by simpa using hl
 have hp := S.pre
 rw [frsC_append _ _ hrr, qBb, List.length_singleton, Nat.add_mul] at hp
 obtain ⟨c, hc1, hc2, _⟩ := S.room
 simp only [qBb, List.length_singleton] at hc2
 have hcl : rest.length * 3 + 2 < cs.length := by omega
 have hfl := frsC_len hrr
 have key : ∀ j, j < 3 -> cs[rest.length * 3 + j]? = (frC f rv)[j]? := fun j hj => by
  have h1 : (cs.take (rest.length * 3 + 1 * 3))[rest.length * 3 + j]? = cs[rest.length * 3 + j]? := qBa (by omega)
  rw [← h1, hp, qAy (by omega), hfl]
  simp only [frsC, List.append_nil]
  congr 1; omega
 have k0 := key 0 (by omega); have k1 := key 1 (by omega); have k2 := key 2 (by omega)
 refine ⟨rr, rv, rfl, hrr, ?_, hcl, k0, k1, k2, ?_⟩
 ·exact S.regs rest.length f rv (by simp) (by rw [← hrr]; simp)
 ·rw [qBs (by omega), qBs (i := rest.length * 3 + 1) (by omega), qBs (i := rest.length * 3 + 2) (by omega)]
  have e0 := qAu.1 k0; have e1 := qAu.1 k1; have e2 := qAu.1 k2
  obtain ⟨_, e0⟩ := e0; obtain ⟨_, e1⟩ := e1; obtain ⟨_, e2⟩ := e2
  simp only [Nat.add_zero] at e0
  rw [e0, e1, e2]
theorem Rep.thr {p : SProg} {h h' : Heap} {ρ ρ' : Nat -> Role} {s : Nat} {σ : SSt} {m mp : Nat} {cv tv ov : AV} {cs ts : List AV} (R : Rep p h ρ s σ m mp cv tv ov cs ts)
  (t : Nat) (fs' : List SFrame) (v' : AV) (ht : t < ts.length)
  (K : ∀ o, o < h.length -> ρ o ≠ .other -> ρ o ≠ .work -> ρ o ≠ .stack t -> (∀ k, ρ o ≠ .regs t k) -> ρ o ≠ .tArr -> h'[o]? = h[o]? /\ ρ' o = ρ o)
  (A : Arr h' ρ' .tArr tv (ts.set t v')) (S : ∃ rvs o g cap c, v' = .msl o 0 fs'.length 3 g cap /\ Stk h' ρ' t fs' rvs o g cap c)
  (fr : ∀ o, h'.length <= o -> ρ' o = .other) : Rep p h' ρ' s (setStk σ t fs') m mp cv tv ov cs (ts.set t v') where
 st := obj_of R.st (K s (obj_some R.st) (by rw [R.stR]; simp) (by rw [R.stR]; simp) (by rw [R.stR]; simp) (by rw [R.stR]; simp) (by rw [R.stR]; simp)).1
 stR := (K s (obj_some R.st) (by rw [R.stR]; simp) (by rw [R.stR]; simp) (by rw [R.stR]; simp) (by rw [R.stR]; simp) (by rw [R.stR]; simp)).2.trans R.stR
 mem := obj_of R.mem (K m (obj_some R.mem) (by rw [R.memR]; simp) (by rw [R.memR]; simp) (by rw [R.memR]; simp) (by rw [R.memR]; simp) (by rw [R.memR]; simp)).1
 memR := (K m (obj_some R.mem) (by rw [R.memR]; simp) (by rw [R.memR]; simp) (by rw [R.memR]; simp) (by rw [R.memR]; simp) (by rw [R.memR]; simp)).2.trans R.memR
 held := (K mp (qAu.1 R.held).1 (by rw [R.heldR]; simp) (by rw [R.heldR]; simp) (by rw [R.heldR]; simp) (by rw [R.heldR]; simp) (by rw [R.heldR]; simp)).1.trans R.held
 heldR := (K mp (qAu.1 R.held).1 (by rw [R.heldR]; simp) (by rw [R.heldR]; simp) (by rw [R.heldR]; simp) (by rw [R.heldR]; simp) (by rw [R.heldR]; simp)).2.trans R.heldR
 cArr := R.cArr.mono fun o ho hr => by have := K o ho (by rw [hr]; simp) (by rw [hr]; simp) (by rw [hr]; simp) (by rw [hr]; simp) (by rw [hr]; simp); exact ⟨this.1, this.2.trans hr⟩
 cLen := R.cLen
 cell := fun i v l hv hl => by
  obtain ⟨o, g, cap, e, ho, hr⟩ := R.cell i v l hv hl
  have := K o (obj_some ho) (by rw [hr]; simp) (by rw [hr]; simp) (by rw [hr]; simp) (by rw [hr]; simp) (by rw [hr]; simp)
  exact ⟨o, g, cap, e, obj_of ho this.1, this.2.trans hr⟩
 tArr := A
 tLen := by simp [setStk, R.tLen]
 stk := fun j v fs hv hf => by
  simp only [setStk] at hf
  by_cases hj : j = t
  ·subst hj
   rw [qAz ht] at hv
   rw [qAz (by rw [← R.tLen]; exact ht)] at hf
   injection hv with hv; injection hf with hf; subst hv hf
   exact S
  ·rw [qAw (Ne.symm hj)] at hv hf
   obtain ⟨rvs, o, g, cap, c, e, S⟩ := R.stk j v fs hv hf
   refine ⟨rvs, o, g, cap, c, e, S.mono fun o ho hr => ?_⟩
   refine K o ho ?_ ?_ ?_ ?_ ?_ <;> rcases hr with hr | ⟨k, hr⟩ <;> rw [hr] <;> simp [hj]
 out := by
  rcases R.out with A | ⟨o, g, cap, e, ho, hr, hc⟩
  ·exact .inl A
  ·have := K o (obj_some ho) (by rw [hr]; simp) (by rw [hr]; simp) (by rw [hr]; simp) (by rw [hr]; simp) (by rw [hr]; simp)
   exact .inr ⟨o, g, cap, e, obj_of ho this.1, this.2.trans hr, hc⟩
 fresh := fr
theorem set_get_same {α : Type} {l : List α} {i : Nat} {x : α} (h : l[i]? = some x) : l.set i x = l := by
 apply qBk
 intro j
 by_cases hj : i = j
 ·subst hj; rw [qAz (qAu.1 h).1, h]
 ·rw [qAw hj]
theorem Rep.top {p : SProg} {h : Heap} {ρ : Nat -> Role} {s : Nat} {σ : SSt} {m mp : Nat} {cv tv ov : AV} {cs ts : List AV} (R : Rep p h ρ s σ m mp cv tv ov cs ts)
    {t : Nat} {rest : List SFrame} {f : SFrame} {o g : Nat} {cap : Option Nat} {v : AV} {rvs c : List AV} (hv : ts[t]? = some v) (hf : σ.thr[t]? = some (rest ++ [f])) (e : v = .msl o 0 (rest ++ [f]).length 3 g cap) (S : Stk h ρ t (rest ++ [f]) rvs o g cap c)
    {oR gR : Nat} {regs' : List Int} (hR : ∃ cs0, h.obj oR gR = some cs0) (hRr : ρ oR = .regs t rest.length) (hrv : ∃ cp, c[rest.length * 3 + 2]? = some (.msl oR 0 f.regs.length 1 gR cp)) (hl : regs'.length = f.regs.length) (pc' : Nat) :
    Rep p ((h.set oR (.cells (intL regs') gR)).set o (.cells (c.set (rest.length * 3 + 1) (.int .i64 pc')) g)) ρ s (setStk σ t (rest ++ [⟨f.fn, pc', regs'⟩])) m mp cv tv ov cs ts := by
  obtain ⟨rr, rv, rfl, hrr, hreg, hcl, k0, k1, k2, _⟩ := S.last
  have ht : t < ts.length := (qAu.1 hv).1
  have hne : oR ≠ o := fun hc => by rw [hc, S.role] at hRr; cases hRr
  have hoL := obj_some S.obj
  obtain ⟨cs0, hR⟩ := hR
  have hRL := obj_some hR
  obtain ⟨cp, hrv⟩ := hrv
  rw [k2] at hrv; injection hrv with hrv; subst hrv
  have hk : ∀ o', o' ≠ oR -> o' ≠ o -> ((h.set oR (.cells (intL regs') gR)).set o (.cells (c.set (rest.length * 3 + 1) (.int .i64 pc')) g))[o']? = h[o']? := fun o' h1 h2 => by
    rw [qAw (Ne.symm h2), qAw (Ne.symm h1)]
  have hobj : Heap.obj ((h.set oR (.cells (intL regs') gR)).set o (.cells (c.set (rest.length * 3 + 1) (.int .i64 pc')) g)) o g = some (c.set (rest.length * 3 + 1) (.int .i64 pc')) := by simp [Heap.obj, hoL]
  have hobR : Heap.obj ((h.set oR (.cells (intL regs') gR)).set o (.cells (c.set (rest.length * 3 + 1) (.int .i64 pc')) g)) oR gR = some (intL regs') := by
    unfold Heap.obj
    rw [qAw (fun hc => hne hc.symm), qAz hRL]
    simp
  have := R.thr t (rest ++ [⟨f.fn, pc', regs'⟩]) v ht (h' := (h.set oR (.cells (intL regs') gR)).set o (.cells (c.set (rest.length * 3 + 1) (.int .i64 pc')) g)) (ρ' := ρ)
    (fun o' _ _ _ h1 h2 _ => ⟨hk o' (fun hc => h2 rest.length (hc ▸ hRr)) (fun hc => h1 (hc ▸ S.role)), rfl⟩)
    (by rw [set_get_same hv]
        exact R.tArr.mono fun o' _ hr => ⟨hk o' (fun hc => by rw [hc, hRr] at hr; cases hr) (fun hc => by rw [hc, S.role] at hr; cases hr), hr⟩)
    ⟨rr ++ [.msl oR 0 f.regs.length 1 gR cp], o, g, cap, c.set (rest.length * 3 + 1) (.int .i64 pc'), by rw [e]; simp, ⟨hobj, S.role, by simp [hrr], by
      obtain ⟨q, q1, q2, q3⟩ := S.room
      exact ⟨q, by simpa using q1, by simpa using q2, q3⟩, by
      have hp := S.pre
      rw [show (rest ++ [(⟨f.fn, pc', regs'⟩ : SFrame)]).length = (rest ++ [f]).length by simp, List.take_set, hp]
      rw [frsC_append _ _ hrr, frsC_append _ _ hrr, List.set_append_right _ _ (by rw [frsC_len hrr]; omega), frsC_len hrr]
      simp only [qBb, List.length_singleton] at *
      simp [frsC, frC], fun k f' rv' hf' hv' => by
      by_cases hkk : k = rest.length
      · subst hkk
        rw [qAy (by omega)] at hf'
        rw [qAy (by omega)] at hv'
        simp only [Nat.sub_self, qBe, hrr] at hf' hv'
        injection hf' with hf'; injection hv' with hv'; subst hf' hv'
        exact ⟨oR, gR, cp, by rw [hl], hobR, hRr⟩
      · have hk' : k < rest.length := by
          have := (qAu.1 hf').1
          simp at this; omega
        rw [qAx (by omega)] at hf' hv'
        obtain ⟨o', g', cap', e', ho', hr'⟩ := S.regs k f' rv' (by rw [qAx (by omega)]; exact hf') (by rw [qAx (by omega)]; exact hv')
        exact ⟨o', g', cap', e', obj_of ho' (hk o' (fun hc => by rw [hc, hRr] at hr'; injection hr' with _ q; exact hkk q.symm) (fun hc => by rw [hc, S.role] at hr'; cases hr')), hr'⟩⟩⟩
    (fun o' ho' => R.fresh o' (by simpa using ho'))
  rw [set_get_same hv] at this
  exact this
end
end Go.Proofs.Sx
namespace Go.Proofs.Sx
open Go.Rv Go.Proofs
noncomputable section
def upd (ρ : Nat -> Role) (o : Nat) (r : Role) : Nat -> Role := fun x => if x = o then r else ρ x
theorem upd_self (ρ : Nat -> Role) (o : Nat) (r : Role) : upd ρ o r o = r := by simp [upd]
theorem upd_ne {ρ : Nat -> Role} {o x : Nat} {r : Role} (h : x ≠ o) : upd ρ o r x = ρ x := by simp [upd, h]
theorem Rep.own {p : SProg} {h : Heap} {ρ : Nat -> Role} {s : Nat} {σ : SSt} {m mp : Nat} {cv tv ov : AV} {cs ts : List AV} (R : Rep p h ρ s σ m mp cv tv ov cs ts) (last ending : Int) :
    Rep p (h.set s (.cells (p.cells ++ [.ptr m 0 0, tv, .int .i64 last, ov, .int .u8 ending]) 0)) ρ s { σ with last := last, ending := ending } m mp cv tv ov cs ts := by
  have hs := obj_some R.st
  have k : ∀ o, ρ o ≠ .st -> (h.set s (.cells (p.cells ++ [.ptr m 0 0, tv, .int .i64 last, ov, .int .u8 ending]) 0))[o]? = h[o]? := fun o ho => by
    rw [qAw]; intro hc; exact ho (hc ▸ R.stR)
  exact {
    st := by simp [Heap.obj, hs]
    stR := R.stR
    mem := obj_of R.mem (k m (by rw [R.memR]; simp))
    memR := R.memR
    held := (k mp (by rw [R.heldR]; simp)).trans R.held
    heldR := R.heldR
    cArr := R.cArr.mono fun o _ hr => ⟨k o (by rw [hr]; simp), hr⟩
    cLen := R.cLen
    cell := fun i v l hv hl => by
      obtain ⟨o, g, cap, e, ho, hr⟩ := R.cell i v l hv hl
      exact ⟨o, g, cap, e, obj_of ho (k o (by rw [hr]; simp)), hr⟩
    tArr := R.tArr.mono fun o _ hr => ⟨k o (by rw [hr]; simp), hr⟩
    tLen := R.tLen
    stk := fun t v fs hv hf => by
      obtain ⟨rvs, o, g, cap, c, e, S⟩ := R.stk t v fs hv hf
      exact ⟨rvs, o, g, cap, c, e, S.mono fun o _ hr => ⟨k o (by rcases hr with hr | ⟨q, hr⟩ <;> rw [hr] <;> simp), rfl⟩⟩
    out := by
      rcases R.out with A | ⟨o, g, cap, e, ho, hr, hc⟩
      · exact .inl A
      · exact .inr ⟨o, g, cap, e, obj_of ho (k o (by rw [hr]; simp)), hr, hc⟩
    fresh := fun o ho => R.fresh o (by simpa using ho) }
theorem Rep.print {p : SProg} {h h' : Heap} {ρ ρ' : Nat -> Role} {s : Nat} {σ : SSt} {m mp : Nat} {cv tv ov ov' : AV} {cs ts : List AV} (R : Rep p h ρ s σ m mp cv tv ov cs ts) (out' : List Int)
    (hl : h.length <= h'.length) (K : ∀ o, o < h.length -> ρ o ≠ .other -> ρ o ≠ .work -> ρ o ≠ .out -> h'[o]? = h[o]? /\ ρ' o = ρ o)
    (O : (ov' = .lst [] 0 .nil /\ out' = []) ∨ ∃ o g cap, ov' = .msl o 0 out'.length 1 g cap /\ h'.obj o g = some (intL out') /\ ρ' o = .out /\ (cap = none ∨ cap = some out'.length))
    (fr : ∀ o, h'.length <= o -> ρ' o = .other) :
    Rep p (h'.set s (.cells (p.cells ++ [.ptr m 0 0, tv, .int .i64 σ.last, ov', .int .u8 σ.ending]) 0)) ρ' s { σ with out := out' } m mp cv tv ov' cs ts := by
  have hs0 := obj_some R.st
  have hs : s < h'.length := Nat.lt_of_lt_of_le hs0 hl
  have hsr : ρ' s = .st := (K s hs0 (by rw [R.stR]; simp) (by rw [R.stR]; simp) (by rw [R.stR]; simp)).2.trans R.stR
  have k : ∀ o, ρ' o ≠ .st -> (h'.set s (.cells (p.cells ++ [.ptr m 0 0, tv, .int .i64 σ.last, ov', .int .u8 σ.ending]) 0))[o]? = h'[o]? := fun o ho => by
    rw [qAw]; intro hc; exact ho (hc ▸ hsr)
  have kk : ∀ o, o < h.length -> ρ o ≠ .other -> ρ o ≠ .work -> ρ o ≠ .out -> ρ o ≠ .st -> (h'.set s (.cells (p.cells ++ [.ptr m 0 0, tv, .int .i64 σ.last, ov', .int .u8 σ.ending]) 0))[o]? = h[o]? /\ ρ' o = ρ o := fun o h1 h2 h3 h4 h5 => by
    obtain ⟨a, b⟩ := K o h1 h2 h3 h4
    exact ⟨(k o (b ▸ h5)).trans a, b⟩
  exact {
    st := by simp [Heap.obj, hs]
    stR := hsr
    mem := obj_of R.mem (kk m (obj_some R.mem) (by rw [R.memR]; simp) (by rw [R.memR]; simp) (by rw [R.memR]; simp) (by rw [R.memR]; simp)).1
    memR := (kk m (obj_some R.mem) (by rw [R.memR]; simp) (by rw [R.memR]; simp) (by rw [R.memR]; simp) (by rw [R.memR]; simp)).2.trans R.memR
    held := (kk mp (qAu.1 R.held).1 (by rw [R.heldR]; simp) (by rw [R.heldR]; simp) (by rw [R.heldR]; simp) (by rw [R.heldR]; simp)).1.trans R.held
    heldR := (kk mp (qAu.1 R.held).1 (by rw [R.heldR]; simp) (by rw [R.heldR]; simp) (by rw [R.heldR]; simp) (by rw [R.heldR]; simp)).2.trans R.heldR
    cArr := R.cArr.mono fun o ho hr => by have := kk o ho (by rw [hr]; simp) (by rw [hr]; simp) (by rw [hr]; simp) (by rw [hr]; simp); exact ⟨this.1, this.2.trans hr⟩
    cLen := R.cLen
    cell := fun i v l hv hl => by
      obtain ⟨o, g, cap, e, ho, hr⟩ := R.cell i v l hv hl
      have := kk o (obj_some ho) (by rw [hr]; simp) (by rw [hr]; simp) (by rw [hr]; simp) (by rw [hr]; simp)
      exact ⟨o, g, cap, e, obj_of ho this.1, this.2.trans hr⟩
    tArr := R.tArr.mono fun o ho hr => by have := kk o ho (by rw [hr]; simp) (by rw [hr]; simp) (by rw [hr]; simp) (by rw [hr]; simp); exact ⟨this.1, this.2.trans hr⟩
    tLen := R.tLen
    stk := fun t v fs hv hf => by
      obtain ⟨rvs, o, g, cap, c, e, S⟩ := R.stk t v fs hv hf
      exact ⟨rvs, o, g, cap, c, e, S.mono fun o ho hr => kk o ho (by rcases hr with hr | ⟨q, hr⟩ <;> rw [hr] <;> simp) (by rcases hr with hr | ⟨q, hr⟩ <;> rw [hr] <;> simp) (by rcases hr with hr | ⟨q, hr⟩ <;> rw [hr] <;> simp) (by rcases hr with hr | ⟨q, hr⟩ <;> rw [hr] <;> simp)⟩
    out := by
      rcases O with A | ⟨o, g, cap, e, ho, hr, hc⟩
      · exact .inl A
      · exact .inr ⟨o, g, cap, e, obj_of ho (k o (by rw [hr]; simp)), hr, hc⟩
    fresh := fun o ho => fr o (by simpa using ho) }
theorem Rep.locks {p : SProg} {h : Heap} {ρ : Nat -> Role} {s : Nat} {σ : SSt} {m mp : Nat} {cv tv ov : AV} {cs ts : List AV} (R : Rep p h ρ s σ m mp cv tv ov cs ts) (l : List (Int × Int)) :
    Rep p (h.set mp (.map (heldA l))) ρ s { σ with held := l } m mp cv tv ov cs ts := by
  have hs := (qAu.1 R.held).1
  have k : ∀ o, ρ o ≠ .held -> (h.set mp (.map (heldA l)))[o]? = h[o]? := fun o ho => by
    rw [qAw]; intro hc; exact ho (hc ▸ R.heldR)
  exact {
    st := obj_of R.st (k s (by rw [R.stR]; simp))
    stR := R.stR
    mem := obj_of R.mem (k m (by rw [R.memR]; simp))
    memR := R.memR
    held := by simp [hs]
    heldR := R.heldR
    cArr := R.cArr.mono fun o _ hr => ⟨k o (by rw [hr]; simp), hr⟩
    cLen := R.cLen
    cell := fun i v l hv hl => by
      obtain ⟨o, g, cap, e, ho, hr⟩ := R.cell i v l hv hl
      exact ⟨o, g, cap, e, obj_of ho (k o (by rw [hr]; simp)), hr⟩
    tArr := R.tArr.mono fun o _ hr => ⟨k o (by rw [hr]; simp), hr⟩
    tLen := R.tLen
    stk := fun t v fs hv hf => by
      obtain ⟨rvs, o, g, cap, c, e, S⟩ := R.stk t v fs hv hf
      exact ⟨rvs, o, g, cap, c, e, S.mono fun o _ hr => ⟨k o (by rcases hr with hr | ⟨q, hr⟩ <;> rw [hr] <;> simp), rfl⟩⟩
    out := by
      rcases R.out with A | ⟨o, g, cap, e, ho, hr, hc⟩
      · exact .inl A
      · exact .inr ⟨o, g, cap, e, obj_of ho (k o (by rw [hr]; simp)), hr, hc⟩
    fresh := fun o ho => R.fresh o (by simpa using ho) }
theorem Rep.setCell {p : SProg} {h : Heap} {ρ : Nat -> Role} {s : Nat} {σ : SSt} {m mp : Nat} {cv tv ov : AV} {cs ts : List AV} (R : Rep p h ρ s σ m mp cv tv ov cs ts) {i : Nat} {l : List Int} {o g n : Nat} {cap : Option Nat} (hi : cs[i]? = some (.msl o 0 n 1 g cap)) (hl : σ.cells[i]? = some l) (l' : List Int) (hl' : l'.length = l.length) :
    Rep p (h.set o (.cells (intL l') g)) ρ s { σ with cells := σ.cells.set i l' } m mp cv tv ov cs ts := by
  obtain ⟨o', g', cap', e, ho, hr⟩ := R.cell i _ l hi hl
  injection e with e1 _ e3 _ e5 e6; subst e1 e3 e5 e6
  have hs := obj_some ho
  have k : ∀ x, ρ x ≠ .cell i -> (h.set o (.cells (intL l') g))[x]? = h[x]? := fun x hx => by
    rw [qAw]; intro hc; exact hx (hc ▸ hr)
  exact {
    st := obj_of R.st (k s (by rw [R.stR]; simp))
    stR := R.stR
    mem := obj_of R.mem (k m (by rw [R.memR]; simp))
    memR := R.memR
    held := (k mp (by rw [R.heldR]; simp)).trans R.held
    heldR := R.heldR
    cArr := R.cArr.mono fun o _ hr => ⟨k o (by rw [hr]; simp), hr⟩
    cLen := by simp [R.cLen]
    cell := fun j v x hv hx => by
      simp only at hx
      by_cases hj : j = i
      · subst hj
        rw [qAz (by rw [← R.cLen]; exact (qAu.1 hi).1)] at hx
        injection hx with hx; subst hx
        rw [hi] at hv; injection hv with hv; subst hv
        exact ⟨o, g, cap, by rw [hl'], by simp [Heap.obj, hs], hr⟩
      · rw [qAw (Ne.symm hj)] at hx
        obtain ⟨o2, g2, cap2, e2, ho2, hr2⟩ := R.cell j v x hv hx
        exact ⟨o2, g2, cap2, e2, obj_of ho2 (k o2 (by rw [hr2]; simp [hj])), hr2⟩
    tArr := R.tArr.mono fun o _ hr => ⟨k o (by rw [hr]; simp), hr⟩
    tLen := R.tLen
    stk := fun t v fs hv hf => by
      obtain ⟨rvs, o, g, cap, c, e, S⟩ := R.stk t v fs hv hf
      exact ⟨rvs, o, g, cap, c, e, S.mono fun o _ hr => ⟨k o (by rcases hr with hr | ⟨q, hr⟩ <;> rw [hr] <;> simp), rfl⟩⟩
    out := by
      rcases R.out with A | ⟨o, g, cap, e, ho, hr, hc⟩
      · exact .inl A
      · exact .inr ⟨o, g, cap, e, obj_of ho (k o (by rw [hr]; simp)), hr, hc⟩
    fresh := fun o ho => R.fresh o (by simpa using ho) }
end
end Go.Proofs.Sx
namespace Go.Proofs.Sx
open Go.Rv Go.Proofs
noncomputable section
theorem setCells_three (cs : List AV) (i : Nat) (a b c : AV) : setCells cs i [a, b, c] = ((cs.set i a).set (i + 1) b).set (i + 1 + 1) c := rfl
theorem take_three {cs : List AV} {n : Nat} {xs : List AV} {a b c : AV} (h : cs.take n = xs) (hl : n + 3 <= cs.length) : (((cs.set n a).set (n + 1) b).set (n + 1 + 1) c).take (n + 3) = xs ++ [a, b, c] := by
 have hx : xs.length = n := by rw [← h, List.length_take]; omega
 apply qBk
 intro i
 by_cases hi : i < n
 ·rw [qBa (by omega), qAw (by omega), qAw (by omega), qAw (by omega), qAx (by omega), ← h, qBa hi]
 ·by_cases h3 : i < n + 3
  ·rw [qBa h3, qAy (by omega), hx]
   obtain ⟨j, rfl⟩ : ∃ j, i = n + j := ⟨i - n, by omega⟩
   rw [show n + j - n = j by omega]
   have : j = 0 ∨ j = 1 ∨ j = 2 := by omega
   rcases this with rfl | rfl | rfl
   ·rw [qAw (by omega), qAw (by omega), Nat.add_zero, qAz (by omega)]; rfl
   ·rw [qAw (by omega), qAz (by simp; omega)]; rfl
   ·rw [qAz (by simp; omega)]; rfl
  ·rw [qAt (by simp; omega), qAt (by simp; omega)]
theorem Stk.push {h : Heap} {ρ : Nat -> Role} {t : Nat} {fs : List SFrame} {rvs : List AV} {o g : Nat} {cap : Option Nat} {cs : List AV} (S : Stk h ρ t fs rvs o g cap cs) {f : SFrame} {rv : AV}
  (F : RegS h ρ t fs.length rv f.regs) (hl : fs.length < 1000000000) (fr : ∀ o, h.length <= o -> ρ o = .other) :
  ∃ v' h' ρ' o' g' cap' cs', appendA h 3 (.msl o 0 fs.length 3 g cap) [.agg [.int .i64 f.fn, .int .i64 f.pc, rv]] = some (v', h') /\ v' = .msl o' 0 (fs ++ [f]).length 3 g' cap' /\ Stk h' ρ' t (fs ++ [f]) (rvs ++ [rv]) o' g' cap' cs' /\
   h.length <= h'.length /\ (∀ x, x < h.length -> ρ' x = ρ x) /\ (∀ x, x < h.length -> ρ x ≠ .stack t -> h'[x]? = h[x]?) /\ ∀ o, h'.length <= o -> ρ' o = .other := by
 obtain ⟨c, hc1, hc2, hcap⟩ := S.room
 have ho := obj_some S.obj
 have hleaf : rv.leaf = true := by obtain ⟨_, _, _, rfl, _⟩ := F; rfl
 have hcells : (([AV.agg [.int .i64 f.fn, .int .i64 f.pc, rv]].map AV.cells).flatten) = [.int .i64 f.fn, .int .i64 f.pc, rv] := rfl
 have pre1 := S.pre
 have flen := frsC_len S.len
 have fapp := frsC_append [f] [rv] S.len
 have hregs : ∀ {h' : Heap} {ρ' : Nat -> Role}, (∀ x, x < h.length -> ρ x ≠ .stack t -> h'[x]? = h[x]?) -> (∀ x, x < h.length -> ρ' x = ρ x) -> ∀ (k : Nat) f' rv', (fs ++ [f])[k]? = some f' -> (rvs ++ [rv])[k]? = some rv' -> RegS h' ρ' t k rv' f'.regs := by
  intro h' ρ' k1 k2 k f' rv' hf' hv'
  have m : ∀ {k : Nat} {v : AV} {regs : List Int}, RegS h ρ t k v regs -> RegS h' ρ' t k v regs := fun A => A.mono fun x hx hr => ⟨k1 x hx (by rw [hr]; simp), (k2 x hx).trans hr⟩
  by_cases hk : k < fs.length
  ·rw [qAx hk] at hf'
   rw [qAx (by rw [S.len]; exact hk)] at hv'
   exact m (S.regs k f' rv' hf' hv')
  ·have hk' : k = fs.length := by have := (qAu.1 hf').1; simp at this; omega
   subst hk'
   rw [qAy (by omega)] at hf'
   rw [qAy (by rw [S.len]; omega)] at hv'
   simp only [Nat.sub_self, S.len, qBe] at hf' hv'
   injection hf' with hf'; injection hv' with hv'; subst hf' hv'
   exact m F
 by_cases hlt : fs.length < c
 ·
  have hok : capOk cap (fs.length + 1) = true := by
   rcases hcap with rfl | rfl
   ·rfl
   ·simp only [capOk, decide_eq_true_eq]; omega
  have hkeep : ∀ x, x < h.length -> ρ x ≠ .stack t -> (h.set o (.cells (((cs.set (fs.length * 3) (.int .i64 f.fn)).set (fs.length * 3 + 1) (.int .i64 f.pc)).set (fs.length * 3 + 1 + 1) rv) g))[x]? = h[x]? := fun x hx hr => by
   rw [qAw]; intro he; exact hr (he ▸ S.role)
  refine ⟨.msl o 0 (fs.length + 1) 3 g cap, h.set o (.cells (((cs.set (fs.length * 3) (.int .i64 f.fn)).set (fs.length * 3 + 1) (.int .i64 f.pc)).set (fs.length * 3 + 1 + 1) rv) g), ρ, o, g, cap, (((cs.set (fs.length * 3) (.int .i64 f.fn)).set (fs.length * 3 + 1) (.int .i64 f.pc)).set (fs.length * 3 + 1 + 1) rv), ?_, by simp, ⟨by simp [Heap.obj, ho], S.role, by simp [S.len], ⟨c, by simpa using hc1, by simp; omega, hcap⟩, ?_, hregs hkeep fun _ _ => rfl⟩, by simp, fun _ _ => rfl, hkeep, fun x hx => fr x (by simpa using hx)⟩
  ·have hle : fs.length * 3 + 3 <= cs.length := by omega
   simp only [appendA, hcells, S.obj, qAd, qAe, qAv, List.length_nil, List.all_cons, leaf_int, hleaf, List.all_nil, List.isEmpty_cons, qBg, setCells_three]
   simp [hle, hok]
  ·rw [qBb, List.length_singleton, Nat.add_mul, fapp, ← pre1]
   exact take_three rfl (by omega)
 ·
  have hfc : fs.length = c := by omega
  have hfull : cs.take (fs.length * 3) = cs := qBi (by omega)
  rw [hfull] at pre1
  have hnle : (fs.length * 3 + 3 <= cs.length) = False := by simp; omega
  have he : (fs.length * 3 == cs.length) = true := by simp; omega
  have hml : (fs.length + 1 <= mostLen) = True := by simp [mostLen]; omega
  rcases hcap with rfl | rfl
  ·have hkeep : ∀ x, x < h.length -> ρ x ≠ .stack t -> (h.set o (.cells (cs ++ [.int .i64 f.fn, .int .i64 f.pc, rv]) (g + 1)))[x]? = h[x]? := fun x hx hr => by
    rw [qAw]; intro he; exact hr (he ▸ S.role)
   refine ⟨.msl o 0 (fs.length + 1) 3 (g + 1) none, h.set o (.cells (cs ++ [.int .i64 f.fn, .int .i64 f.pc, rv]) (g + 1)), ρ, o, g + 1, none, cs ++ [.int .i64 f.fn, .int .i64 f.pc, rv], ?_, by simp, ⟨by simp [Heap.obj, ho], S.role, by simp [S.len], ⟨c + 1, by simp; omega, by simp; omega, .inl rfl⟩, ?_, hregs hkeep fun _ _ => rfl⟩, by simp, fun _ _ => rfl, hkeep, fun x hx => fr x (by simpa using hx)⟩
   ·simp only [appendA, growA, hcells, S.obj, qAd, qAe, qAv, List.length_nil, List.all_cons, leaf_int, hleaf, List.all_nil, List.isEmpty_cons, qBg, he, hml]
    simp [hnle]
   ·rw [fapp, ← pre1]
    rw [qBi (by simp; omega)]
    simp [frsC, frC]
  ·have hkeep : ∀ x, x < h.length -> ρ x ≠ .stack t -> (h ++ [.cells (cs ++ [.int .i64 f.fn, .int .i64 f.pc, rv]) 0] : Heap)[x]? = h[x]? := fun x hx hr => qAx hx
   have hup : ∀ x, x < h.length -> upd ρ h.length (.stack t) x = ρ x := fun x hx => upd_ne (by omega)
   refine ⟨.msl h.length 0 (fs.length + 1) 3 0 none, h ++ [.cells (cs ++ [.int .i64 f.fn, .int .i64 f.pc, rv]) 0], upd ρ h.length (.stack t), h.length, 0, none, cs ++ [.int .i64 f.fn, .int .i64 f.pc, rv], ?_, by simp, ⟨by simp [Heap.obj], upd_self _ _ _, by simp [S.len], ⟨c + 1, by simp; omega, by simp; omega, .inl rfl⟩, ?_, hregs hkeep hup⟩, by simp, hup, hkeep, fun x hx => by
    simp at hx
    rw [upd_ne (by omega)]; exact fr x (by omega)⟩
   ·have hck : capOk (some c) (fs.length + 1) = false := by simp only [capOk, decide_eq_false_iff_not]; omega
    simp only [appendA, growA, hcells, S.obj, qAd, qAe, qAv, List.length_nil, List.all_cons, leaf_int, hleaf, List.all_nil, List.isEmpty_cons, qBg, he, hml]
    simp [hfc]
    intro hx
    omega
   ·rw [fapp, ← pre1]
    rw [qBi (by simp; omega)]
    simp [frsC, frC]
theorem Stk.pop {h : Heap} {ρ : Nat -> Role} {t : Nat} {fs : List SFrame} {f : SFrame} {rvs : List AV} {o g : Nat} {cap : Option Nat} {cs : List AV} (S : Stk h ρ t (fs ++ [f]) rvs o g cap cs) : Stk h ρ t fs rvs.dropLast o g cap cs := by
  obtain ⟨rr, rv, rfl, hrr, _⟩ := S.last
  have hd : (rr ++ [rv]).dropLast = rr := by simp
  obtain ⟨c, q1, q2, q3⟩ := S.room
  simp only [qBb, List.length_singleton] at q2
  exact {
    obj := S.obj
    role := S.role
    len := by rw [hd, hrr]
    room := ⟨c, q1, by omega, q3⟩
    pre := by
      have hp := congrArg (List.take (fs.length * 3)) S.pre
      rw [List.take_take, qBb, List.length_singleton, show min (fs.length * 3) ((fs.length + 1) * 3) = fs.length * 3 by omega, frsC_append _ _ hrr, List.take_left' (frsC_len hrr)] at hp
      rw [hd]; exact hp
    regs := fun k f' rv' hf' hv' => by
      rw [hd] at hv'
      have k1 := (qAu.1 hf').1
      exact S.regs k f' rv' (by rw [qAx k1]; exact hf') (by rw [qAx (by omega)]; exact hv') }
end
end Go.Proofs.Sx
