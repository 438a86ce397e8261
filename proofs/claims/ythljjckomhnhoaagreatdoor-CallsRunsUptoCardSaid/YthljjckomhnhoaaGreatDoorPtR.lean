/-
  package calls: 'turned'.
-/
import Derived.Test.YthljjckomhnhoaaGreatDoorPtQ
import Derived.Test.YthljjckomhnhoaaGreatDoorPtL
set_option linter.unusedSectionVars false
set_option linter.unusedSimpArgs false
set_option linter.unusedVariables false
set_option linter.defProp false
set_option maxHeartbeats 4000000
set_option maxHeartbeats 8000000
set_option maxRecDepth 100000
namespace Go.Proofs.Sx
open Go.Rv Go.Proofs
attribute [local congr] bind_left got_left
noncomputable section
structure LL (h H : Heap) (cells : List AV) (ls : List (List Int)) : Prop where
 cell : H.obj h.length 0 = some cells
 len : cells.length = ls.length
 each : ∀ (k : Nat) v xs, cells[k]? = some v -> ls[k]? = some xs -> Built H v (intL xs) 1
 own : ∀ (k : Nat) v o, cells[k]? = some v -> objOf v = some o -> h.length < o
 sep : ∀ (k k' : Nat) v v' o, cells[k]? = some v -> cells[k']? = some v' -> objOf v = some o -> objOf v' = some o -> k = k'
 old : H.take h.length = h
theorem LL.le {h H : Heap} {cells : List AV} {ls : List (List Int)} (O : LL h H cells ls) : h.length < H.length := obj_some O.cell
theorem LL.push {h H : Heap} {cells : List AV} {ls : List (List Int)} (O : LL h H cells ls) {k : Nat} {v : AV} {xs : List Int} (hv : cells[k]? = some v) (hx : ls[k]? = some xs) (x : Int) (hl : xs.length < 1000000) :
  ∃ v' H', appendA H 1 v [.int .i64 x] = some (v', H') /\ known v' = some v' /\ v'.cells = [v'] /\ v'.leaf = true /\ H'.obj h.length 0 = some cells /\ LL h (H'.set h.length (.cells (cells.set k v') 0)) (cells.set k v') (ls.set k (xs ++ [x])) := by
 have B := O.each k v xs hv hx
 obtain ⟨v', H', h1, h2, h4, h5, h6⟩ := append_built (ys := [AV.int .i64 x]) B (plain_ints xs).size (fun y hy => (plain_ints [x]).leafs y hy) (by omega) (by simp [intL, mostLen]; omega)
 have hlt := O.le
 have hkl : k < cells.length := (qAu.1 hv).1
 have hcell : H'.obj h.length 0 = some cells := obj_keep O.cell (h5 _ hlt fun hc => by have := O.own k v _ hv hc; omega)
 have hlt' := obj_some hcell
 have hownv : ∀ o, objOf v' = some o -> h.length < o := fun o ho => by
  rcases h6 with h6 | h6
  ·exact O.own k v o hv (h6 ▸ ho)
  ·rw [h6] at ho; simp only [qAf] at ho; omega
 have hother : ∀ (j : Nat) w o, j ≠ k -> cells[j]? = some w -> objOf w = some o -> o < H.length /\ objOf v ≠ some o /\ objOf v' ≠ some o := by
  intro j w o hj hw ho
  have hjl : j < ls.length := by rw [← O.len]; exact (qAu.1 hw).1
  have hlo := built_lt (O.each j w _ hw (qAs hjl)) ho
  have hne : objOf v ≠ some o := fun hc => hj (O.sep j k w v o hw hv ho hc)
  refine ⟨hlo, hne, fun hc => ?_⟩
  rcases h6 with h6 | h6
  ·exact hne (h6 ▸ hc)
  ·rw [h6] at hc; simp only [qAf] at hc; omega
 refine ⟨v', H', h1, known_built h2, built_cells h2, built_leaf h2, hcell, ⟨by simp [Heap.obj, qAz hlt'], by simp [O.len], ?_, ?_, ?_, ?_⟩⟩
 ·intro j w ys hw hys
  by_cases hj : j = k
  ·subst hj
   rw [qAz hkl] at hw
   rw [qAz (by rw [← O.len]; exact hkl)] at hys
   injection hw with hw; injection hys with hys
   subst hw hys
   rw [show intL (xs ++ [x]) = intL xs ++ [AV.int .i64 x] by simp [intL]]
   exact h2.other fun o ho => by rw [qAw]; have := hownv o ho; omega
  ·rw [qAw (Ne.symm hj)] at hw hys
   refine (O.each j w ys hw hys).other fun o ho => ?_
   obtain ⟨q1, q2, _⟩ := hother j w o hj hw ho
   rw [qAw (by have := O.own j w o hw ho; omega), h5 o q1 q2]
 ·intro j w o hw ho
  by_cases hj : j = k
  ·subst hj
   rw [qAz hkl] at hw
   injection hw with hw; subst hw
   exact hownv o ho
  ·rw [qAw (Ne.symm hj)] at hw
   exact O.own j w o hw ho
 ·intro j j' w w' o hw hw' ho ho'
  by_cases hj : j = k
  ·by_cases hj' : j' = k
   ·omega
   ·subst hj
    rw [qAz hkl] at hw
    rw [qAw (Ne.symm hj')] at hw'
    injection hw with hw; subst hw
    exact absurd ho (hother j' w' o hj' hw' ho').2.2
  ·rw [qAw (Ne.symm hj)] at hw
   by_cases hj' : j' = k
   ·subst hj'
    rw [qAz hkl] at hw'
    injection hw' with hw'; subst hw'
    exact absurd ho' (hother j w o hj hw ho).2.2
   ·rw [qAw (Ne.symm hj')] at hw'
    exact O.sep j j' w w' o hw hw' ho ho'
 ·rw [List.take_set_of_le (qAr _), ← O.old]
  apply qBk
  intro i
  by_cases hi : i < h.length
  ·rw [O.old, qBa hi, h5 i (by omega) (fun hc => by have := O.own k v _ hv hc; omega)]
   have := congrArg (·[i]?) O.old
   simp only [qBa hi] at this
   exact this
  ·rw [O.old, qAt (by simp; omega), qAt (by omega)]
def addTo (ls : List (List Int)) (n : Int) : List Int -> List (List Int)
 | [] => ls
 | k :: r => addTo (ls.set k.toNat (ls.getD k.toNat [] ++ [n])) n r
def turnGo : List (List Int) -> Nat -> List (List Int) -> List (List Int)
 | [], _, ls => ls
 | x :: r, i, ls => turnGo r (i + 1) (addTo ls i x)
def turnedL (CS : List (List Int)) : List (List Int) := turnGo CS 0 (List.replicate CS.length [])
theorem addTo_len (n : Int) : ∀ (x : List Int) (ls : List (List Int)), (addTo ls n x).length = ls.length
 | [], ls => rfl
 | k :: r, ls => by rw [addTo, addTo_len n r]; simp
instance t18 {d : Option Nat} : TightD cfg 18 d := ⟨fun _ _ => rfl⟩
def B18 (p : List Bool) := cA p Tryz.f18.body
def R18 (p : List Bool) (i : Nat) := Code.region i (cA p Tryz.f18.body) false
theorem F18 : (∀ p i, XR cfg 18 (R18 p i) (B18 p) (cA p Tryz.f18.body).toList i false) /\ cfg.imm 18 31 = true /\ RE cfg 18 [0, 2, 3, 4, 5, 7, 11, 12, 13, 14, 18, 19, 20, 21] /\ cfg.pure 18 = false := ⟨fun _ _ => xr rfl rfl, by kernel_rfl, rE fun _ => rfl, rfl⟩
def l18_1 : Code := (.seq (R18 [tt, tt, ff, tt, ff, ff, tt, tt, ff, ff, tt, tt, ff, ff, ff] 6) (.seq (.cond (.tmp 21) .skip (.exit 2)) (.seq (.block 3 (.seq (R18 [tt, tt, ff, tt, ff, ff, tt, tt, ff, ff, tt, tt, ff, ff, tt, tt, ff, ff, ff] 7) (R18 [tt, tt, ff, tt, ff, ff, tt, tt, ff, ff, tt, tt, ff, ff, tt, tt, ff, ff, tt] 8))) (R18 [tt, tt, ff, tt, ff, ff, tt, tt, ff, ff, tt, tt, ff, ff, tt, tt, tt] 9))))
def l18_0 : Code := (.seq (R18 [tt, tt, ff, tt, ff, ff, ff] 3) (.seq (.cond (.tmp 14) .skip (.exit 0)) (.seq (.block 1 (.seq (R18 [tt, tt, ff, tt, ff, ff, tt, tt, ff, ff, ff] 4) (.seq (R18 [tt, tt, ff, tt, ff, ff, tt, tt, ff, ff, tt, ff] 5) (.block 2 (.loop l18_1))))) (R18 [tt, tt, ff, tt, ff, ff, tt, tt, tt] 10))))
def k18 : Code := (.seq (R18 [ff] 0) (.seq (R18 [tt, ff] 1) (.seq (.seq (R18 [tt, tt, ff, ff] 2) (.block 0 (.loop l18_0))) (.seq (R18 [tt, tt, tt, ff] 11) .ret))))
theorem call18 (x0 : AV) (h : Heap) : call cfg 18 [x0] h = (exec cfg 18 k18 [(0, x0)] h).bind (callEnd cfg 18 h [.tmp 2]) := call_at2 (fnat Tryz.func18 (b := k18) (by kernel_rfl) (by kernel_rfl)) rfl rfl
section
variable (CS : List (List Int)) (N : Nat) (hN : CS.length = N) (h : Heap) (v : AV)
theorem turned_inner (hNb : N <= 1000) (n : Nat) (xs : List Int) (hxs : xs.length <= 1000) (hrng : ∀ j ∈ xs, 0 <= j /\ j < (N : Int)) (z : Nat) (r : Room) (B : Nat) (hB : B <= 400000) :
  ∀ (ys : List Int) (i : Nat), xs.drop i = ys -> i <= xs.length -> ∀ H cells ls, LL h H cells ls -> ls.length = N -> (∀ l ∈ ls, l.length <= B + i) -> ∀ a b t5 t7 t11 t12 t13 t14 t21,
   Got (exec cfg 18 (.loop l18_1) [(0, a), (2, b), (3, .msl h.length 0 N 1 0 (some N)), (4, .int .i64 n), (5, t5), (7, t7), (11, t11), (12, t12), (13, t13), (14, t14), (18, .lst (intL xs) z r), (19, .int .i64 xs.length), (20, .int .i64 i), (21, t21)] H)
    (fun q => q.1 = .exit 2 /\ (∃ t7 t20 t21, q.2.1 = [(0, a), (2, b), (3, .msl h.length 0 N 1 0 (some N)), (4, .int .i64 n), (5, t5), (7, t7), (11, t11), (12, t12), (13, t13), (14, t14), (18, .lst (intL xs) z r), (19, .int .i64 xs.length), (20, t20), (21, t21)]) /\
     ∃ cells', LL h q.2.2 cells' (addTo ls n ys) /\ ∀ l ∈ addTo ls n ys, l.length <= B + xs.length) := by
 intro ys
 induction ys with
 | nil =>
  intro i hd hi H cells ls O hls hbd a b t5 t7 t11 t12 t13 t14 t21
  have hle := List.drop_eq_nil_iff.1 hd
  rw [got_loop]
  simp only [l18_1, F18, Tryz.f18, sxAll, cA, arithA, Env.keep, ↓qAe, Nat.reduceBEq, ↓reduceIte, at_end hd]
  exact ⟨trivial, ⟨_, _, _, rfl⟩, cells, O, fun l hl => by have := hbd l hl; omega⟩
 | cons k s ih =>
  intro i hd hi H cells ls O hls hbd a b t5 t7 t11 t12 t13 t14 t21
  obtain ⟨hlt, hget, hd'⟩ := at_drop hd
  have hlt' : i < xs.length := by simpa using hlt
  obtain ⟨hk0, hkN⟩ := hrng k (qBj hget)
  have hw := wrap_succ (i := i) (by omega)
  have hxi : (intL xs)[i]? = some (.int .i64 k) := by simp [intL, hget]
  obtain ⟨l, hl⟩ : ∃ l, ls[k.toNat]? = some l := ⟨_, qAs (by omega)⟩
  obtain ⟨vk, hvk⟩ : ∃ vk, cells[k.toNat]? = some vk := ⟨_, qAs (by rw [O.len]; omega)⟩
  have hll := hbd l (qBj hl)
  have hkvk := known_built (O.each _ _ _ hvk hl)
  obtain ⟨v', H', ha, p1, p2, p3, p4, O'⟩ := O.push hvk hl (n : Int) (by omega)
  have hls' : ls.getD k.toNat [] = l := by simp [hl]
  have hneg : (k < 0) = False := by simp; omega
  have hkl : (k.toNat < N) = True := by simp; omega
  have hkc : (k.toNat + 1 <= cells.length) = True := by rw [O.len]; simp; omega
  have hlive := live_of O.cell
  have hlive' := live_of p4
  have hadd : addTo ls n (k :: s) = addTo (ls.set k.toNat (l ++ [(n : Int)])) n s := by rw [addTo, hls']
  have := ih (i + 1) hd' (by omega) _ _ _ O' (by simp [hls]) (fun l' hl' => by
   rcases List.mem_or_eq_of_mem_set hl' with h1 | h1
   ·have := hbd l' h1; omega
   ·subst h1; simp; omega)
  rw [hadd, got_loop]
  simp only [l18_1] at this ⊢
  simp only [F18, Tryz.f18, sxAll, cA, arithA, Env.keep, qt_eq, storeA, indexAddrA, loadA, Rv.part, cellsAt, TD.isAgg, fillA, setCells, copies, ↓qAe, Nat.reduceBEq, Nat.reduceLeDiff, Nat.reduceGT, bne, ↓reduceIte, hlt, hxi, hw, ty30, ty27, ty3, hneg, hkl, hlive, hlive', O.cell, p4, Nat.mul_one, qBg, head_drop hvk, hkvk, elems, group, ha, p1, p2, p3, hkc] at this ⊢
  exact this _ _ _ _ _ _ _ _ _
include hN in
theorem turned_outer (hR : ∀ H', H'.take h.length = h -> Rd cfg H' 30 27 v (CS.map outL)) (hNb : N <= 300) (hrng : ∀ l ∈ CS, ∀ j ∈ l, 0 <= j /\ j < (N : Int)) (hlen : ∀ l ∈ CS, l.length <= 1000) :
  ∀ (ys : List (List Int)) (i : Nat), CS.drop i = ys -> i <= CS.length -> ∀ H cells ls, LL h H cells ls -> ls.length = N -> (∀ l ∈ ls, l.length <= 1000 * i) -> ∀ a b t4 t5 t7 t14 t18 t19 t20 t21,
   Got (exec cfg 18 (.loop l18_0) [(0, a), (2, b), (3, .msl h.length 0 N 1 0 (some N)), (4, t4), (5, t5), (7, t7), (11, v), (12, .int .i64 N), (13, .int .i64 i), (14, t14), (18, t18), (19, t19), (20, t20), (21, t21)] H)
    (fun q => q.1 = .exit 0 /\ q.2.1.get 3 = .msl h.length 0 N 1 0 (some N) /\ ∃ cells', LL h q.2.2 cells' (turnGo ys i ls)) := by
 intro ys
 induction ys with
 | nil =>
  intro i hd hi H cells ls O hls hbd a b t4 t5 t7 t14 t18 t19 t20 t21
  have hlt := at_end hd
  rw [hN] at hlt
  rw [got_loop]
  simp only [l18_0, F18, Tryz.f18, sxAll, cA, arithA, Env.keep, ↓qAe, Nat.reduceBEq, ↓reduceIte, hlt]
  exact ⟨trivial, trivial, cells, O⟩
 | cons x s ih =>
  intro i hd hi H cells ls O hls hbd a b t4 t5 t7 t14 t18 t19 t20 t21
  obtain ⟨hlt, hget, hd'⟩ := at_drop hd
  rw [hN] at hlt
  have hlt' : i < N := by simpa using hlt
  have hw := wrap_succ (i := i) (by omega)
  have R := hR H O.old
  obtain ⟨ad, g1, g2, g3⟩ := R.get i (outL x) (by simp [hget])
  have hkv := R.kn
  have hxm := qBj hget
  have hxl := hlen x hxm
  obtain ⟨⟨o, e', H'⟩, hx, ho, ⟨u7, u20, u21, he⟩, cells', O', hbd'⟩ := turned_inner N h (by omega) i x hxl (hrng x hxm) 1 (if x = [] then .nil else .open) (1000 * i) (by omega) x 0 (by simp) (by omega) H cells ls O hls (fun l hl => by have := hbd l hl; omega) a b (outL x) t7 v (.int .i64 N) (.int .i64 i) (.bool true) t21
  simp only [qBo] at hx ho he O' hbd'
  subst ho he
  have hko : known (outL x) = some (outL x) := rfl
  have := ih (i + 1) hd' (by omega) H' cells' (addTo ls i x) O' (by rw [addTo_len]; exact hls) (fun l hl => by have := hbd' l hl; omega)
  rw [got_loop]
  simp only [outL] at hx g3 hko this ⊢
  simp only [turnGo, l18_0] at this ⊢
  simp only [F18, Tryz.f18, sxAll, cA, arithA, Env.keep, qt_eq, ↓qAe, Nat.reduceBEq, ↓reduceIte, hlt, hkv, g1, g2, g3, hko, lenA_lst, intL_len, ty27, hx, hw] at this ⊢
  exact this _ _ _ _ _ _ _ _ _ _
theorem copies_rep (z : AV) : ∀ n, copies n [z] = List.replicate n z
 | 0 => rfl
 | n + 1 => by rw [copies, copies_rep z n, List.replicate_succ]; rfl
include hN in
theorem turned_eq (hR : ∀ H', H'.take h.length = h -> Rd cfg H' 30 27 v (CS.map outL)) (hNb : N <= 300) (hrng : ∀ l ∈ CS, ∀ j ∈ l, 0 <= j /\ j < (N : Int)) (hlen : ∀ l ∈ CS, l.length <= 1000) :
  ∃ H' cells, call cfg 18 [v] h = some (.ret (.msl h.length 0 N 1 0 (some N)), H') /\ LL h H' cells (turnedL CS) := by
 have O0 : LL h (h ++ [.cells (copies N [.lst [] 0 .nil]) 0]) (copies N [.lst [] 0 .nil]) (List.replicate N []) := by
  have hv : ∀ (k : Nat) w, (List.replicate N (AV.lst [] 0 .nil))[k]? = some w -> w = .lst [] 0 .nil := fun k w hw => by
   have := qBj hw
   exact (List.mem_replicate.1 this).2
  rw [copies_rep]
  refine ⟨by simp [Heap.obj], by simp, ?_, ?_, ?_, by simp⟩
  ·intro k w xs hw hxs
   have := qBj hxs
   rw [(List.mem_replicate.1 this).2, hv k w hw]
   exact .inl ⟨rfl, rfl⟩
  ·intro k w o hw ho; rw [hv k w hw] at ho; cases ho
  ·intro k k' w w' o hw _ ho _; rw [hv k w hw] at ho; cases ho
 obtain ⟨⟨o, e', H'⟩, hx, ho, h3, cells', O⟩ := turned_outer CS N hN h v hR hNb hrng hlen CS 0 (by simp) (by omega) _ _ _ O0 (by simp) (fun l hl => by rw [(List.mem_replicate.1 hl).2]; simp) v (.lst [] 0 .nil) .junk .junk .junk .junk .junk .junk .junk .junk
 simp only [qBo] at hx ho h3 O
 subst ho
 have R := hR h (by simp)
 have hl := R.len
 rw [qBn, hN] at hl
 have hkv := R.kn
 have hms : makeSliceA cfg h 30 (.int .i64 N) (.int .i64 N) = some (.msl h.length 0 N 1 0 (some N), h ++ [.cells (copies N [.lst [] 0 .nil]) 0]) := by
  have h1 : (N : Int) <= mostLen := by simp [mostLen]; omega
  simp [makeSliceA, ty30, ty27, h1]
 have R' := hR (h ++ [.cells (copies N [.lst [] 0 .nil]) 0]) (by simp)
 have hl' := R'.len
 rw [qBn, hN] at hl'
 refine ⟨H', cells', ?_, by rw [turnedL, hN]; exact O⟩
 rw [call18]
 simp only [F18, k18, Tryz.f18, sxAll, cA, Env.keep, resultsA, packA, ↓qAe, Nat.reduceBEq, ↓reduceIte, hkv, hl, hl', hms, ty30, hx, h3]
 exact leave_impure rfl
end
end
end Go.Proofs.Sx
namespace Go.Proofs.Sx
open Go.Rv Go.Proofs
attribute [local congr] bind_left got_left
noncomputable section
theorem indexFI_loopR (xs : List Int) (p : Int -> Bool) (g : Nat) (caps : List AV) (v : AV) (h : Heap) (hn : xs.length < 1000000000) (R : Rd cfg h 27 3 v (intL xs))
  (hg : ∀ a ∈ xs, call cfg g (.int .i64 a :: caps) h = some (.ret (.bool (p a)), h)) : ∀ (ys : List Int) (i : Nat), xs.drop i = ys -> i <= xs.length -> ∀ c d t e,
  Got (exec cfg 41 (.loop l41_0) [(0, v), (1, .clo g caps), (4, c), (5, d), (7, .int .i64 xs.length), (8, .int .i64 i), (9, t), (16, e)] h) (fun q => q.2.2 = h /\
   ((q.1 = .exit 0 /\ idxP p ys i = -1) ∨ (q.1 = .ret /\ q.2.1.get 4 = .int .i64 (idxP p ys i)))) := by
 intro ys
 induction ys with
 | nil =>
  intro i hd hi c d t e
  rw [got_loop]
  simp only [l41_0, F41, Tryz.f41, sxAll, cA, arithA, Env.keep, ↓qAe, Nat.reduceBEq, ↓reduceIte, at_end hd]
  exact ⟨trivial, .inl ⟨trivial, rfl⟩⟩
 | cons y r ih =>
  intro i hd hi c d t e
  obtain ⟨hlt, hget, hd'⟩ := at_drop hd
  obtain ⟨a, h1, h2, h3⟩ := R.get i (.int .i64 y) (by simp [intL, hget])
  have hmem : y ∈ xs := qBj hget
  have hw := wrap_succ (i := i) (by omega)
  have hc := hg y hmem
  have hk := R.kn
  rw [got_loop]
  cases he : p y with
  | true =>
   rw [he] at hc
   simp only [l41_0, F41, Tryz.f41, sxAll, cA, arithA, Env.keep, qt_eq, mapO, ↓qAe, Nat.reduceBEq, ↓reduceIte, hlt, hc, hk, h1, h2, h3]
   exact ⟨trivial, .inr ⟨trivial, by simp [idxP, he]⟩⟩
  | false =>
   rw [he] at hc
   have := ih (i + 1) hd' (by simp at hlt; omega)
   simp only [l41_0] at this ⊢
   simp only [F41, Tryz.f41, sxAll, cA, arithA, Env.keep, qt_eq, mapO, ↓qAe, Nat.reduceBEq, ↓reduceIte, hlt, hw, hc, hk, h1, h2, h3, idxP, he] at this ⊢
   exact this _ _ _ _
theorem indexFI_eqR (xs : List Int) (p : Int -> Bool) (g : Nat) (caps : List AV) (v : AV) (h : Heap) (hn : xs.length < 1000000000) (R : Rd cfg h 27 3 v (intL xs))
  (hg : ∀ a ∈ xs, call cfg g (.int .i64 a :: caps) h = some (.ret (.bool (p a)), h)) : call cfg 41 [v, .clo g caps] h = some (.ret (.int .i64 (idxP p xs 0)), h) := by
 obtain ⟨⟨o, e', h'⟩, hx, hh, hq⟩ := indexFI_loopR xs p g caps v h hn R hg xs 0 (by simp) (by omega) (.int .i64 0) .junk .junk .junk
 simp only [qBo] at hx hh hq
 subst hh
 have hk := R.kn
 have hlen := R.len
 rw [intL_len] at hlen
 rw [call41]
 rcases hq with ⟨rfl, h1⟩ | ⟨rfl, h1⟩
 ·simp only [F41, k41, Tryz.f41, sxAll, cA, Env.keep, resultsA, packA, ↓qAe, Nat.reduceBEq, ↓reduceIte, ty27, hk, hlen, hx, h1]
  exact leave_kept rfl rfl
 ·simp only [F41, k41, Tryz.f41, sxAll, cA, Env.keep, resultsA, packA, ↓qAe, Nat.reduceBEq, ↓reduceIte, ty27, hk, hlen, hx, h1]
  exact leave_kept rfl rfl
instance t21 {d : Option Nat} : TightD cfg 21 d := ⟨fun _ _ => rfl⟩
def B21 (p : List Bool) := cA p Tryz.f21.body
def R21 (p : List Bool) (i : Nat) := Code.region i (cA p Tryz.f21.body) false
theorem F21 : (∀ p i, XR cfg 21 (R21 p i) (B21 p) (cA p Tryz.f21.body).toList i false) /\ RE cfg 21 [0, 1, 4, 5, 6, 7, 12, 19, 29] /\ cfg.pure 21 = false := ⟨fun _ _ => xr rfl rfl, rE fun _ => rfl, rfl⟩
def l21_0 : Code := (.seq (.seq (R21 [tt, tt, tt, ff, tt, ff, ff, ff, ff] 5) (.cond (.tmp 19) .skip (.exit 0))) (.seq (.block 1 (.seq (R21 [tt, tt, tt, ff, tt, ff, ff, tt, ff, ff, ff] 7) (.seq (R21 [tt, tt, tt, ff, tt, ff, ff, tt, ff, ff, tt, ff] 8) (.cond (.tmp 29) (.seq (R21 [tt, tt, tt, ff, tt, ff, ff, tt, ff, ff, tt, tt, ff, ff] 9) (R21 [tt, tt, tt, ff, tt, ff, ff, tt, ff, ff, tt, tt, ff, tt] 10)) .skip)))) (R21 [tt, tt, tt, ff, tt, ff, ff, tt, tt] 6)))
def k21 : Code := (.seq (R21 [ff] 0) (.seq (R21 [tt, ff] 1) (.seq (.seq (R21 [tt, tt, ff, ff] 2) (.cond (.tmp 12) (.seq (R21 [tt, tt, ff, tt, ff, ff] 3) .ret) .skip)) (.seq (.seq (R21 [tt, tt, tt, ff, ff] 4) (.block 0 (.loop l21_0))) (.seq (R21 [tt, tt, tt, tt, ff] 11) (.seq (R21 [tt, tt, tt, tt, tt, ff] 12) .ret))))))
theorem call21 (x0 x1 : AV) (h : Heap) : call cfg 21 [x0, x1] h = (exec cfg 21 k21 [(0, x0), (1, x1)] h).bind (callEnd cfg 21 h [.tmp 4]) := call_at2 (fnat Tryz.func21 (b := k21) (by kernel_rfl) (by kernel_rfl)) rfl rfl
instance t22 {d : Option Nat} : TightD cfg 22 d := ⟨fun _ _ => rfl⟩
def B22 (p : List Bool) := cA p Tryz.f22.body
def R22 (p : List Bool) (i : Nat) := Code.region i (cA p Tryz.f22.body) false
theorem F22 : (∀ p i, XR cfg 22 (R22 p i) (B22 p) (cA p Tryz.f22.body).toList i false) /\ RE cfg 22 [0, 1, 3] /\ cfg.pure 22 = true := ⟨fun _ _ => xr rfl rfl, rE fun _ => rfl, rfl⟩
def k22 : Code := (.seq (R22 [ff] 0) (.seq (R22 [tt, ff] 1) .ret))
theorem call22 (x0 x1 : AV) (h : Heap) : call cfg 22 [x0, x1] h = (exec cfg 22 k22 [(0, x0), (1, x1)] h).bind (callEnd cfg 22 h [.tmp 3]) := call_at2 (fnat Tryz.func22 (b := k22) (by kernel_rfl) (by kernel_rfl)) rfl rfl
def Dh (h : Heap) (o g : Nat) (ws : List Int) : Heap := h.set o (.cells (intL ws) g)
theorem Dh_obj {h : Heap} {o g : Nat} {cs : List AV} (H : h.obj o g = some cs) (ws : List Int) : (Dh h o g ws).obj o g = some (intL ws) := by
 have := obj_some H
 simp [Dh, Heap.obj, qAz this]
theorem Dh_set (h : Heap) (o g : Nat) (ws us : List Int) : (Dh h o g ws).set o (.cells (intL us) g) = Dh h o g us := by simp [Dh]
theorem Dh_self {h : Heap} {o g : Nat} {xs : List Int} (H : h.obj o g = some (intL xs)) : Dh h o g xs = h := by
 have hl := obj_some H
 unfold Heap.obj at H
 unfold Dh
 apply qBk
 intro i
 by_cases hi : i = o
 ·subst hi
  rw [qAz hl]
  split at H
  ·rename_i cs g' he
   split at H
   ·rename_i hg
    rw [he]
    injection H with H
    subst H
    rw [beq_iff_eq.1 hg]
   ·cases H
  ·cases H
 ·rw [qAw (Ne.symm hi)]
theorem intL_set (ws : List Int) (i : Nat) (y : Int) : (intL ws).set i (.int .i64 y) = intL (ws.set i y) := by simp [intL, List.map_set]
theorem intL_get {ws : List Int} {i : Nat} {y : Int} (h : ws[i]? = some y) : (intL ws)[i]? = some (.int .i64 y) := by simp [intL, h]
theorem idxP_split {α : Type} (p : α -> Bool) : ∀ (l : List α) (i : Nat), (idxP p l i = -1 /\ l.filter (fun y => !p y) = l) ∨ ∃ pre y post, l = pre ++ y :: post /\ p y = true /\ (∀ a ∈ pre, p a = false) /\ idxP p l i = ((i + pre.length : Nat) : Int)
 | [], i => .inl ⟨rfl, rfl⟩
 | y :: r, i => by
  unfold idxP
  cases hp : p y
  ·simp only [qAb, if_false]
   rcases idxP_split p r (i + 1) with ⟨h1, h2⟩ | ⟨pre, z, post, h1, h2, h3, h4⟩
   ·exact .inl ⟨h1, by simp [hp, h2]⟩
   ·refine .inr ⟨y :: pre, z, post, by rw [h1]; rfl, h2, fun a ha => ?_, by rw [h4]; simp; omega⟩
    rcases qAj.1 ha with rfl | ha
    ·exact hp
    ·exact h3 a ha
  ·exact .inr ⟨[], y, r, rfl, hp, fun a ha => by simp at ha, by simp⟩
section
variable (xs : List Int) (p : Int -> Bool) (g : Nat) (caps : List AV) (h : Heap) (o gg : Nat) (cap : Option Nat) (hob : h.obj o gg = some (intL xs)) (hn : xs.length < 1000000)
 (hg : ∀ ws a, a ∈ xs -> call cfg g (.int .i64 a :: caps) (Dh h o gg ws) = some (.ret (.bool (p a)), Dh h o gg ws))
include hob hn hg in
theorem delI_loop : ∀ (ys : List Int) (j : Nat), xs.drop j = ys -> j <= xs.length -> ∀ (ws done : List Int), ws.length = xs.length -> ws.drop j = ys -> done.length < j -> ws.take done.length = done -> ∀ a t7 t12 t19 t29,
  Got (exec cfg 21 (.loop l21_0) [(0, .msl o 0 xs.length 1 gg cap), (1, .clo g caps), (4, a), (5, .int .i64 done.length), (6, .int .i64 j), (7, t7), (12, t12), (19, t19), (29, t29)] (Dh h o gg ws))
   (fun q => q.1 = .exit 0 /\ (∃ t6 t7 t19 t29, q.2.1 = [(0, .msl o 0 xs.length 1 gg cap), (1, .clo g caps), (4, a), (5, .int .i64 (done ++ ys.filter fun y => !p y).length), (6, t6), (7, t7), (12, t12), (19, t19), (29, t29)]) /\
    ∃ ws', q.2.2 = Dh h o gg ws' /\ ws'.length = xs.length /\ ws'.take (done ++ ys.filter fun y => !p y).length = done ++ ys.filter fun y => !p y) := by
 intro ys
 induction ys with
 | nil =>
  intro j hd hj ws done hwl hwd hdl hwt a t7 t12 t19 t29
  have hob' := Dh_obj hob ws
  have hlive := live_of hob'
  rw [got_loop]
  simp only [l21_0, F21, Tryz.f21, sxAll, cA, arithA, Env.keep, lenA, ↓qAe, Nat.reduceBEq, ↓reduceIte, ty27, hlive, at_end hd]
  exact ⟨trivial, ⟨_, _, _, _, rfl⟩, ws, rfl, hwl, hwt⟩
 | cons y s ih =>
  intro j hd hj ws done hwl hwd hdl hwt a t7 t12 t19 t29
  obtain ⟨hlt, hget, hd'⟩ := at_drop hd
  obtain ⟨_, hwget, hwd'⟩ := at_drop hwd
  have hlt' : j < xs.length := by simpa using hlt
  have hmem : y ∈ xs := qBj hget
  have hw := wrap_succ (i := j) (by omega)
  have hob' := Dh_obj hob ws
  have hlive := live_of hob'
  have hc := hg ws y hmem
  have hh := head_drop (intL_get hwget)
  rw [got_loop]
  cases he : p y with
  | true =>
   rw [he] at hc
   have hf : (y :: s).filter (fun y => !p y) = s.filter fun y => !p y := by simp [he]
   have := ih (j + 1) hd' (by omega) ws done hwl hwd' (by omega) hwt
   rw [hf]
   simp only [l21_0] at this ⊢
   simp only [F21, Tryz.f21, sxAll, cA, arithA, Env.keep, qt_eq, indexAddrA, unA, loadA, Rv.part, cellsAt, TD.isAgg, lenA, mapO, ↓qAe, Nat.reduceBEq, ↓reduceIte, ty27, ty3, Nat.mul_one, qBg, hlive, hob', hh, hlt, hw, hc] at this ⊢
   exact this _ _ _ _ _
  | false =>
   rw [he] at hc
   have hf : (y :: s).filter (fun y => !p y) = y :: s.filter fun y => !p y := by simp [he]
   have hw2 := wrap_succ (i := done.length) (by omega)
   have hdx : (done.length < xs.length) = True := by simp; omega
   have hdc : (done.length + 1 <= (intL ws).length) = True := by rw [intL_len]; simp; omega
   have hle : (done ++ [y]).length = done.length + 1 := by simp
   have := ih (j + 1) hd' (by omega) (ws.set done.length y) (done ++ [y]) (by simp [hwl]) (by
    rw [List.drop_set_of_lt (by omega)]; exact hwd') (by rw [hle]; omega) (by
    rw [hle, List.take_add_one, List.take_set_of_le (qAr _), hwt, qAz (by omega)]; rfl)
   rw [hf, show done ++ y :: s.filter (fun y => !p y) = (done ++ [y]) ++ s.filter (fun y => !p y) by simp]
   rw [hle] at this
   simp only [l21_0] at this ⊢
   simp only [F21, Tryz.f21, sxAll, cA, arithA, Env.keep, qt_eq, storeA, indexAddrA, unA, loadA, Rv.part, cellsAt, TD.isAgg, setCells, lenA, mapO, ↓qAe, Nat.reduceBEq, ↓reduceIte, ty27, ty3, Nat.mul_one, qBg, hlive, hob', hh, hlt, hw, hw2, hc, hdx, hdc, intL_set, Dh_set] at this ⊢
   exact this _ _ _ _ _
include hob hn hg in
theorem delI_eq (hcap : cap = none ∨ cap = some xs.length) : ∃ ws cap', call cfg 21 [.msl o 0 xs.length 1 gg cap, .clo g caps] h = some (.ret (.msl o 0 (xs.filter fun y => !p y).length 1 gg cap'), Dh h o gg ws) /\ ws.take (xs.filter fun y => !p y).length = xs.filter fun y => !p y := by
 have R : Rd cfg h 27 3 (.msl o 0 xs.length 1 gg cap) (intL xs) := rd_built ty27 rfl ty3 rfl rfl (.inr ⟨o, gg, cap, by rw [intL_len], by rw [show flatC (intL xs) = intL xs from flatC_plain (plain_ints xs)]; exact hob, by rw [intL_len]; exact hcap⟩) (plain_ints xs)
 have hh := Dh_self hob
 have hi := indexFI_eqR xs p g caps _ h (by omega) R (fun a ha => by have := hg xs a ha; rwa [hh] at this)
 rcases idxP_split p xs 0 with ⟨h1, h2⟩ | ⟨pre, y, post, h1, h2, h3, h4⟩
 ·rw [h1] at hi
  refine ⟨xs, cap, ?_, by rw [h2, List.take_length]⟩
  rw [h2, hh, call21]
  simp only [F21, k21, Tryz.f21, sxAll, cA, arithA, Env.keep, qt_eq, resultsA, packA, mapO, ↓qAe, Nat.reduceBEq, ↓reduceIte, hi, pu41]
  exact leave_impure rfl
 ·subst h1
  simp only [qBg] at h4
  rw [h4] at hi
  obtain ⟨⟨out, e', H'⟩, hx, ho, ⟨u6, u7, u19, u29, he⟩, ws, hH, hwl, hwt⟩ := delI_loop (pre ++ y :: post) p g caps h o gg cap hob hn hg post (pre.length + 1) (by simp) (by simp) (pre ++ y :: post) pre rfl (by simp) (by omega) (by simp) (.lst [] 0 .nil) .junk (.bool false) .junk .junk
  simp only at ho he hH hwl hwt hx
  subst ho he hH
  rw [hh] at hx
  have hfl : (pre ++ y :: post).filter (fun y => !p y) = pre ++ post.filter (fun y => !p y) := by
   rw [List.filter_append, List.filter_cons]
   simp only [h2, Bool.not_true, qAb, if_false]
   congr 1
   exact List.filter_eq_self.2 fun a ha => by simp [h3 a ha]
  have hne : ((pre.length : Int) == -1) = false := by simp
  have hw := wrap_succ (i := pre.length) (by simp at hn; omega)
  rw [hfl]
  obtain ⟨k, hk⟩ : ∃ k, k = (pre ++ post.filter fun y => !p y).length := ⟨_, rfl⟩
  have hkn : k <= (pre ++ y :: post).length := by
   have := List.length_filter_le (fun y => !p y) post
   rw [hk]; simp; omega
  rw [← hk] at hwt hx ⊢
  generalize hN : (pre ++ y :: post).length = N at hkn hwl hx hi hcap hn
  have hob' := Dh_obj hob ws
  have hms : (match cap with | some c => c | none => if (1 == 0) = true then N else ((intL ws).length - 0) / 1) = N := by
   rcases hcap with rfl | rfl <;> simp [intL_len, hwl]
  have hs1 : sliceA cfg (Dh h o gg ws) 27 (.msl o 0 N 1 gg cap) (some (.int .i64 k)) none none = some (.msl o k (N - k) 1 gg (cap.map (· - k))) := by
   simp only [sliceA, ty27, ty3, hob', qAd, qAe, Option.isSome_none, bne_self_eq_false, Bool.or_self, qAb, if_false, boundA]
   simp [hkn]
  obtain ⟨ws2, hs2, hwt2⟩ : ∃ ws2, moreA cfg (Dh h o gg ws) .clear [27] [.msl o k (N - k) 1 gg (cap.map (· - k))] = some (.tup [], Dh h o gg ws2) /\ ws2.take k = ws.take k /\ ws2.length = ws.length := by
   by_cases h0 : N - k = 0
   ·refine ⟨ws, ?_, rfl, rfl⟩
    simp [moreA, ty27, ty3, hob', h0]
   ·refine ⟨ws.take k ++ List.replicate (N - k) 0, ?_, ?_, ?_⟩
    ·have e1 : setCells (intL ws) k (copies (N - k) [AV.int .i64 0]) = intL (ws.take k ++ List.replicate (N - k) 0) := by
      apply qBk
      intro i
      have hcl : (copies (N - k) [AV.int .i64 0]).length = N - k := by rw [copies_rep]; simp
      rw [setCells_at _ _ _ (by rw [hcl, intL_len]; omega) i, hcl, copies_rep]
      simp only [intL, List.map_append, List.map_take, List.map_replicate]
      by_cases c1 : i < k
      ·rw [if_neg (by omega), qAx (by simp; omega), qBa c1]
      ·rw [qAy (by simp; omega)]
       by_cases c2 : i < k + (N - k)
       ·rw [if_pos (by omega)]
        congr 1
        simp; omega
       ·rw [if_neg (by omega), qAt (by simp; omega), qAt (by simp; omega)]
     have h3 : k + (N - k) <= ws.length := by omega
     simp [moreA, ty27, ty3, hob', h0, intL_len, h3, e1, Dh_set, AV.leaf]
    ·rw [List.take_append_of_le_length (by simp; omega), List.take_take, Nat.min_self]
    ·simp; omega
  have hob2 := Dh_obj hob ws2
  have hs3 : sliceA cfg (Dh h o gg ws2) 27 (.msl o 0 N 1 gg cap) none (some (.int .i64 k)) none = some (.msl o 0 k 1 gg (cap.map (· - 0))) := by
   have hms2 : (match cap with | some c => c | none => if (1 == 0) = true then N else ((intL ws2).length - 0) / 1) = N := by
    rcases hcap with rfl | rfl <;> simp [intL_len, hwl, hwt2.2]
   simp only [sliceA, ty27, ty3, hob2, qAd, qAe, Option.isSome_none, bne_self_eq_false, Bool.or_self, qAb, if_false, boundA]
   rcases hcap with rfl | rfl <;> simp [intL_len, hwl, hwt2.2, hkn]
  refine ⟨ws2, cap.map (· - 0), ?_, by rw [hwt2.1]; exact hwt⟩
  rw [call21]
  simp only [F21, k21, Tryz.f21, sxAll, cA, arithA, Env.keep, qt_eq, resultsA, packA, optA, mapO, ↓qAe, Nat.reduceBEq, ↓reduceIte, hi, pu41, hne, hw, hx, hs1, hs2, hs3]
  exact leave_impure rfl
end
theorem callsOf1_eq (p : SProg) (n : Int) (f : SFun) (hn : 0 <= n) (hf : p.funs[n.toNat]? = some f) (h : Heap) : call cfg 22 [.int .i64 n, .ref p.cells] h = some (.ret (.bool (!f.thread)), h) := by
 have hneg : (n < 0) = False := by simp; omega
 have hg := funsL_get hf
 rw [call22]
 simp only [SProg.cells, SFun.cells] at hg ⊢
 simp only [F22, k22, Tryz.f22, sxAll, cA, Env.keep, qt_eq, resultsA, packA, indexAddrA, unA, fieldAddrA, loadA, Rv.part, cellsAt, TD.isAgg, ↓qAe, Nat.reduceBEq, Nat.reduceAdd, ↓reduceIte, ty26, ty39, ty24, ty4, hneg, hg]
 exact leave_kept rfl rfl
end
end Go.Proofs.Sx
namespace Go.Rv
def Leaf1 (xs : List AV) : Prop := ∀ x ∈ xs, x.cells = [x] /\ one x = x /\ x.leaf = true
theorem Leaf1.app {xs ys : List AV} (H : Leaf1 xs) (K : Leaf1 ys) : Leaf1 (xs ++ ys) := fun x hx => (qAp.1 hx).elim (H x) (K x)
theorem Leaf1.size {xs : List AV} (H : Leaf1 xs) : ∀ x ∈ xs, x.cells.length = 1 := fun x hx => by rw [(H x hx).1]; rfl
theorem Leaf1.leafs {xs : List AV} (H : Leaf1 xs) : ∀ x ∈ xs, x.cells.length = 1 /\ x.cells.all AV.leaf = true := fun x hx => by rw [(H x hx).1]; simp [(H x hx).2.2]
theorem flatC_leaf {xs : List AV} (H : Leaf1 xs) : flatC xs = xs := by
 induction xs with
 | nil => rfl
 | cons x r ih =>
  have := ih (fun y hy => H y (qAk _ hy))
  simp only [flatC, qAm, List.flatten_cons] at this ⊢
  rw [this, (H x (qAi ..)).1]; rfl
theorem group_leaf {xs : List AV} (H : Leaf1 xs) : group xs.length xs 1 = xs := by
 induction xs with
 | nil => rfl
 | cons x r ih =>
  have := ih (fun y hy => H y (qAk _ hy))
  simp only [qAv, group, beq_self_eq_true, if_true, List.headD_cons, List.drop_succ_cons, qBf, this, (H x (qAi ..)).2.1]
theorem rd_leaf {C : Cfg} {h : Heap} {ts te : Nat} {v : AV} {xs : List AV} {ti tei : TI} (hts : C.ty ts = some ti) (hti : ti.td = .slice te) (hte : C.ty te = some tei) (h1 : tei.size = 1) (ha : tei.td.isAgg = false) (B : Built h v xs 1) (H : Leaf1 xs) : Rd C h ts te v xs where
 kn := known_built B
 len := len_built B
 get i x hx := by
  have hi : i < xs.length := (qAu.1 hx).1
  rcases B with ⟨rfl, rfl⟩ | ⟨o, g, cap, rfl, hob, _⟩
  ·simp at hx
  ·refine ⟨.ptr o i g, ?_, rfl, ?_⟩
   ·simp only [indexAddrA, hts, hti, hte, qAd, qAe, natneg, if_false, Int.toNat_natCast, h1, live_of hob]
    simp [hi]
   ·rw [flatC_leaf H] at hob
    simp only [loadA, hte, cellsAt, hob, qAd, qAe, qAo, Rv.part, ha]
    simp [List.head?_drop, hx]
structure Ph (q : Nat) (H0 H : Heap) (c : List AV) (k : Nat) (v : AV) (xs : List AV) : Prop where
 same : ∀ o, o < H0.length -> o ≠ q -> H[o]? = H0[o]?
 le : H0.length <= H.length
 cell : H.obj q 0 = some c
 at_ : c[k]? = some v
 b : Built H v xs 1
 own : ∀ o, objOf v = some o -> H0.length <= o
 lt : q < H0.length
theorem Ph.app {q : Nat} {H0 H : Heap} {c : List AV} {k : Nat} {v : AV} {xs : List AV} (O : Ph q H0 H c k v xs) (X : Heap) : Ph q H0 (H ++ X) c k v xs where
 same o ho hq := by rw [qAx (by have := O.le; omega)]; exact O.same o ho hq
 le := by have := O.le; simp; omega
 cell := obj_leftS X O.cell
 at_ := O.at_
 b := O.b.app X
 own := O.own
 lt := O.lt
theorem Ph.push {q : Nat} {H0 H : Heap} {c : List AV} {k : Nat} {v : AV} {xs : List AV} (O : Ph q H0 H c k v xs) (hx : Leaf1 xs) {y : AV} (hy : y.cells = [y] /\ one y = y /\ y.leaf = true) (hl : xs.length < 1000000) :
  ∃ v' H', appendA H 1 v [y] = some (v', H') /\ known v' = some v' /\ v'.cells = [v'] /\ v'.leaf = true /\ H'.obj q 0 = some c /\ Ph q H0 (H'.set q (.cells (c.set k v') 0)) (c.set k v') k v' (xs ++ [y]) := by
 have hy1 : Leaf1 [y] := fun z hz => by rw [qAn.1 hz]; exact hy
 obtain ⟨v', H', h1, h2, h4, h5, h6⟩ := append_built (ys := [y]) O.b hx.size hy1.leafs (by omega) (by simp [mostLen]; omega)
 have hq : q < H.length := obj_some O.cell
 have hqv : objOf v ≠ some q := fun hc => by have := O.own _ hc; have := O.lt; omega
 have hcell : H'.obj q 0 = some c := Go.Proofs.Sx.obj_keep O.cell (h5 _ hq hqv)
 have hlt' := obj_some hcell
 have hle := O.le
 have hlt := O.lt
 have hown : ∀ o, objOf v' = some o -> H0.length <= o := fun o ho => by
  rcases h6 with h6 | h6
  ·exact O.own o (h6 ▸ ho)
  ·rw [h6] at ho; simp only [qAf] at ho; omega
 refine ⟨v', H', h1, known_built h2, built_cells h2, built_leaf h2, hcell, ⟨fun o ho hoq => ?_, by simp; omega, by simp [Heap.obj, qAz hlt'], ?_, ?_, hown, hlt⟩⟩
 ·rw [qAw (Ne.symm hoq), h5 o (by omega) (fun hc => by have := O.own _ hc; omega)]
  exact O.same o ho hoq
 ·rw [qAz (qAu.1 O.at_).1]
 ·exact h2.other fun o ho => by rw [qAw]; have := hown o ho; omega
end Go.Rv
namespace Go.Proofs.Sx
open Go.Rv Go.Proofs
attribute [local congr] bind_left got_left
noncomputable section
theorem pu6 : cfg.pure 6 = true := rfl
instance t6_1 : Tg cfg 6 1 := tgS rfl
instance t6_2 : Tg cfg 6 2 := tgS rfl
instance t6_3 : Tg cfg 6 3 := tgS rfl
instance t6_4 : Tg cfg 6 4 := tgS rfl
instance t6_6 : Tg cfg 6 6 := tgS rfl
instance t6_7 : Tg cfg 6 7 := tgS rfl
instance t6_8 : Tg cfg 6 8 := tgS rfl
instance t6_9 : Tg cfg 6 9 := tgS rfl
instance t6_10 : Tg cfg 6 10 := tgS rfl
instance t6_11 : Tg cfg 6 11 := tgS rfl
instance t6_12 : Tg cfg 6 12 := tgS rfl
instance t6_13 : Tg cfg 6 13 := tgS rfl
instance t6_14 : Tg cfg 6 14 := tgS rfl
instance t6_15 : Tg cfg 6 15 := tgS rfl
instance t6_16 : Tg cfg 6 16 := tgS rfl
instance t6_17 : Tg cfg 6 17 := tgS rfl
instance t6_18 : Tg cfg 6 18 := tgS rfl
instance t6_19 : Tg cfg 6 19 := tgS rfl
instance t6_20 : Tg cfg 6 20 := tgS rfl
instance t6_21 : Tg cfg 6 21 := tgS rfl
instance t6_22 : Tg cfg 6 22 := tgS rfl
instance t6_23 : Tg cfg 6 23 := tgS rfl
instance t6_24 : Tg cfg 6 24 := tgS rfl
instance t6_25 : Tg cfg 6 25 := tgS rfl
instance t6_26 : Tg cfg 6 26 := tgS rfl
instance t6_27 : Tg cfg 6 27 := tgS rfl
instance t6_28 : Tg cfg 6 28 := tgS rfl
instance t6_29 : Tg cfg 6 29 := tgS rfl
instance t6_30 : Tg cfg 6 30 := tgS rfl
instance t6_31 : Tg cfg 6 31 := tgS rfl
instance t6_32 : Tg cfg 6 32 := tgS rfl
instance t6_33 : Tg cfg 6 33 := tgS rfl
instance t6_34 : Tg cfg 6 34 := tgS rfl
instance t6_35 : Tg cfg 6 35 := tgS rfl
instance t6_36 : Tg cfg 6 36 := tgS rfl
instance t6_37 : Tg cfg 6 37 := tgS rfl
instance t6_38 : Tg cfg 6 38 := tgS rfl
instance t6_39 : Tg cfg 6 39 := tgS rfl
instance t6_40 : Tg cfg 6 40 := tgS rfl
instance t6_41 : Tg cfg 6 41 := tgS rfl
instance t6_42 : Tg cfg 6 42 := tgS rfl
instance t6_43 : Tg cfg 6 43 := tgS rfl
instance t6_44 : Tg cfg 6 44 := tgS rfl
instance t6_45 : Tg cfg 6 45 := tgS rfl
instance t6_46 : Tg cfg 6 46 := tgS rfl
instance t6_47 : Tg cfg 6 47 := tgS rfl
instance t6_48 : Tg cfg 6 48 := tgS rfl
instance t6_49 : Tg cfg 6 49 := tgS rfl
instance t6_50 : Tg cfg 6 50 := tgS rfl
instance t6_51 : Tg cfg 6 51 := tgS rfl
instance t6_52 : Tg cfg 6 52 := tgS rfl
instance t6_53 : Tg cfg 6 53 := tgS rfl
instance t6_54 : Tg cfg 6 54 := tgS rfl
instance t6_55 : Tg cfg 6 55 := tgS rfl
instance t6_56 : Tg cfg 6 56 := tgS rfl
instance t6_57 : Tg cfg 6 57 := tgS rfl
instance t6_58 : Tg cfg 6 58 := tgS rfl
instance t6_59 : Tg cfg 6 59 := tgS rfl
instance t6_60 : Tg cfg 6 60 := tgS rfl
instance t6_61 : Tg cfg 6 61 := tgS rfl
instance t6_62 : Tg cfg 6 62 := tgS rfl
instance t6_63 : Tg cfg 6 63 := tgS rfl
instance t6_64 : Tg cfg 6 64 := tgS rfl
instance t6_65 : Tg cfg 6 65 := tgS rfl
instance t6_66 : Tg cfg 6 66 := tgS rfl
instance t6_67 : Tg cfg 6 67 := tgS rfl
instance t6_68 : Tg cfg 6 68 := tgS rfl
instance t6_69 : Tg cfg 6 69 := tgS rfl
instance t6_70 : Tg cfg 6 70 := tgS rfl
instance t6_71 : Tg cfg 6 71 := tgS rfl
instance t6_72 : Tg cfg 6 72 := tgS rfl
instance t6_73 : Tg cfg 6 73 := tgS rfl
instance t6_75 : Tg cfg 6 75 := tgS rfl
instance t6_76 : Tg cfg 6 76 := tgS rfl
instance t6_77 : Tg cfg 6 77 := tgS rfl
instance t6_78 : Tg cfg 6 78 := tgS rfl
instance t6_79 : Tg cfg 6 79 := tgS rfl
instance t6_80 : Tg cfg 6 80 := tgS rfl
instance t6_81 : Tg cfg 6 81 := tgS rfl
instance t6_82 : Tg cfg 6 82 := tgS rfl
instance t6_83 : Tg cfg 6 83 := tgS rfl
instance t6_84 : Tg cfg 6 84 := tgS rfl
instance t6_85 : Tg cfg 6 85 := tgS rfl
instance t6_86 : Tg cfg 6 86 := tgS rfl
instance t6_87 : Tg cfg 6 87 := tgS rfl
instance t6_88 : Tg cfg 6 88 := tgS rfl
instance t6_89 : Tg cfg 6 89 := tgS rfl
instance t6_90 : Tg cfg 6 90 := tgS rfl
instance t6_91 : Tg cfg 6 91 := tgS rfl
instance t6_92 : Tg cfg 6 92 := tgS rfl
instance t6_2000_12 : TightD cfg 6 (some (2000 + 12)) := tgS rfl
instance t6_2000_19 : TightD cfg 6 (some (2000 + 19)) := tgS rfl
instance t6_2000_25 : TightD cfg 6 (some (2000 + 25)) := tgS rfl
instance t6_2000_30 : TightD cfg 6 (some (2000 + 30)) := tgS rfl
instance t6_2000_44 : TightD cfg 6 (some (2000 + 44)) := tgS rfl
instance t6_2000_53 : TightD cfg 6 (some (2000 + 53)) := tgS rfl
instance t6_2000_57 : TightD cfg 6 (some (2000 + 57)) := tgS rfl
instance t6_2000_74 : TightD cfg 6 (some (2000 + 74)) := tgS rfl
instance t6_2000_86 : TightD cfg 6 (some (2000 + 86)) := tgS rfl
instance t6_2000_90 : TightD cfg 6 (some (2000 + 90)) := tgS rfl
instance t6_2000_92 : TightD cfg 6 (some (2000 + 92)) := tgS rfl
instance t6_n : TightD cfg 6 none := tgN
def B6 (p : List Bool) := cA p Tryz.f6.body
def R6 (p : List Bool) (i : Nat) := Code.region i (cA p Tryz.f6.body) false
def D6 (p : List Bool) (i : Nat) := Code.region i (cA p Tryz.f6.body) true
theorem F6 : (∀ p i, XR cfg 6 (R6 p i) (B6 p) (cA p Tryz.f6.body).toList i false) /\ cfg.imm 6 1 = true /\ XR cfg 6 (D6 [tt, tt, tt, ff, tt, ff, ff, tt, tt, ff, ff, tt] 7) (B6 [tt, tt, tt, ff, tt, ff, ff, tt, tt, ff, ff, tt]) ((cA [tt, tt, tt, ff, tt, ff, ff, tt, tt, ff, ff, tt] Tryz.f6.body).toList) 7 true /\ cfg.imm 6 24 = true /\ XR cfg 6 (D6 [tt, tt, tt, tt, tt, ff, tt, ff, ff, tt, tt, ff, ff, tt, ff] 13) (B6 [tt, tt, tt, tt, tt, ff, tt, ff, ff, tt, tt, ff, ff, tt, ff]) ((cA [tt, tt, tt, tt, tt, ff, tt, ff, ff, tt, tt, ff, ff, tt, ff] Tryz.f6.body).toList) 13 true /\ cfg.imm 6 43 = true /\ XR cfg 6 (D6 [tt, tt, tt, tt, tt, tt, tt, ff, tt, ff, ff, tt, tt, ff, ff, tt, ff] 21) (B6 [tt, tt, tt, tt, tt, tt, tt, ff, tt, ff, ff, tt, tt, ff, ff, tt, ff]) ((cA [tt, tt, tt, tt, tt, tt, tt, ff, tt, ff, ff, tt, tt, ff, ff, tt, ff] Tryz.f6.body).toList) 21 true /\ cfg.imm 6 86 = false /\ RE cfg 6 [0, 1, 2, 3, 4, 6, 7, 8, 11, 14, 15, 16, 17, 34, 35, 36, 52, 61, 62, 63, 81] /\ cfg.pure 6 = true := ⟨fun _ _ => xr rfl rfl, by kernel_rfl, xd (by kernel_rfl) rfl rfl, by kernel_rfl, xd (by kernel_rfl) rfl rfl, by kernel_rfl, xd (by kernel_rfl) rfl rfl, by kernel_rfl, rE fun _ => rfl, rfl⟩
theorem lo6_74 : cfg.loose 6 74 = lo 6 74 := rfl
theorem lb6_21_74_0 (e : Env) (h : Heap) : looseB cfg 6 (B6 [tt, tt, tt, tt, tt, tt, tt, ff, tt, ff, ff, tt, tt, ff, ff, tt, ff]) e h 0 = (((known (e.get 4)).bind fun x => fieldAddrA cfg h 32 x 3).map fun v => AV.eqb v (e.get 65)).getD false := lb_fieldAddr rfl
theorem lb6_21_74_1 (e : Env) (h : Heap) : looseB cfg 6 (B6 [tt, tt, tt, tt, tt, tt, tt, ff, tt, ff, ff, tt, tt, ff, ff, tt, ff]) e h 1 = (((known (e.get 65)).bind fun x => loadA cfg h 30 x).map fun v => AV.eqb v (e.get 66)).getD false := lb_load rfl rfl
theorem la6_74 (e : Env) (h : Heap) : looseAll cfg 6 (B6 [tt, tt, tt, tt, tt, tt, tt, ff, tt, ff, ff, tt, tt, ff, ff, tt, ff]) (some 74) e h = (((((known (e.get 4)).bind fun x => fieldAddrA cfg h 32 x 3).map fun v => AV.eqb v (e.get 65)).getD false) && (((((known (e.get 65)).bind fun x => loadA cfg h 30 x).map fun v => AV.eqb v (e.get 66)).getD false))) := by simp only [looseAll, lo6_74, lo, List.all_cons, List.all_nil, Bool.and_true, lb6_21_74_0, lb6_21_74_1]
def l6_2 : Code := (.seq (R6 [tt, tt, tt, tt, tt, tt, tt, ff, tt, ff, ff, ff] 19) (.seq (.cond (.tmp 63) .skip (.exit 4)) (.seq (.block 5 (.seq (R6 [tt, tt, tt, tt, tt, tt, tt, ff, tt, ff, ff, tt, tt, ff, ff, ff] 20) (.seq (D6 [tt, tt, tt, tt, tt, tt, tt, ff, tt, ff, ff, tt, tt, ff, ff, tt, ff] 21) (.seq (R6 [tt, tt, tt, tt, tt, tt, tt, ff, tt, ff, ff, tt, tt, ff, ff, tt, tt, ff] 22) (.cond (.tmp 81) (R6 [tt, tt, tt, tt, tt, tt, tt, ff, tt, ff, ff, tt, tt, ff, ff, tt, tt, tt, ff] 23) .skip))))) (R6 [tt, tt, tt, tt, tt, tt, tt, ff, tt, ff, ff, tt, tt, tt] 24))))
def l6_1 : Code := (.seq (R6 [tt, tt, tt, tt, tt, ff, tt, ff, ff, ff] 11) (.seq (.cond (.tmp 36) .skip (.exit 2)) (.seq (.block 3 (.seq (R6 [tt, tt, tt, tt, tt, ff, tt, ff, ff, tt, tt, ff, ff, ff] 12) (.seq (D6 [tt, tt, tt, tt, tt, ff, tt, ff, ff, tt, tt, ff, ff, tt, ff] 13) (.seq (R6 [tt, tt, tt, tt, tt, ff, tt, ff, ff, tt, tt, ff, ff, tt, tt, ff] 14) (.cond (.tmp 52) (.seq (R6 [tt, tt, tt, tt, tt, ff, tt, ff, ff, tt, tt, ff, ff, tt, tt, tt, ff, ff] 15) .ret) .skip))))) (R6 [tt, tt, tt, tt, tt, ff, tt, ff, ff, tt, tt, tt] 16))))
def l6_0 : Code := (.seq (R6 [tt, tt, tt, ff, tt, ff, ff, ff] 5) (.seq (.cond (.tmp 17) .skip (.exit 0)) (.seq (.block 1 (.seq (R6 [tt, tt, tt, ff, tt, ff, ff, tt, tt, ff, ff, ff] 6) (D6 [tt, tt, tt, ff, tt, ff, ff, tt, tt, ff, ff, tt] 7))) (R6 [tt, tt, tt, ff, tt, ff, ff, tt, tt, tt] 8))))
def k6 : Code := (.seq (R6 [ff] 0) (.seq (.seq (R6 [tt, ff, ff] 1) (.cond (.tmp 11) (.seq (R6 [tt, ff, tt, ff, ff] 2) .ret) .skip)) (.seq (R6 [tt, tt, ff] 3) (.seq (.seq (R6 [tt, tt, tt, ff, ff] 4) (.block 0 (.loop l6_0))) (.seq (R6 [tt, tt, tt, tt, ff] 9) (.seq (.seq (R6 [tt, tt, tt, tt, tt, ff, ff] 10) (.block 2 (.loop l6_1))) (.seq (R6 [tt, tt, tt, tt, tt, tt, ff] 17) (.seq (.seq (R6 [tt, tt, tt, tt, tt, tt, tt, ff, ff] 18) (.block 4 (.loop l6_2))) (.seq (R6 [tt, tt, tt, tt, tt, tt, tt, tt, ff] 25) (.seq (R6 [tt, tt, tt, tt, tt, tt, tt, tt, tt, ff] 26) .ret))))))))))
theorem call6 (x0 : AV) (h : Heap) : call cfg 6 [x0] h = (exec cfg 6 k6 [(0, x0)] h).bind (callEnd cfg 6 h [.cell 2 32, .tmp 3]) := call_at2 (fnat Tryz.func6 (b := k6) (by kernel_rfl) (by kernel_rfl)) rfl rfl
theorem leaf_outs {α : Type} (xs : List α) (f : α -> List Int) : Leaf1 (xs.map fun a => outL (f a)) := fun x hx => by
 obtain ⟨a, _, rfl⟩ := qBl.1 hx
 exact ⟨rfl, rfl, rfl⟩
theorem of_loop0 (p : SProg) (hN : p.funs.length <= 300) (hc : ∀ f ∈ p.funs, f.code.length <= 1000000 /\ ∀ i ∈ f.code, i.op = 10 -> 0 <= i.n /\ i.n < p.funs.length) (H0 : Heap) (q0 q : Nat) :
  ∀ (fs : List SFun) (i : Nat), p.funs.drop i = fs -> i <= p.funs.length -> ∀ H v, Ph q H0 H [v, .lst [] 0 .nil, .lst [] 0 .nil, .lst [] 0 .nil, .lst [] 0 .nil] 0 v ((p.funs.take i).map fun f => outL (calleesOf f)) -> ∀ a t3 t6 t7 t8 t11 t17 t34 t35 t36 t52 t61 t62 t63 t81,
   Got (exec cfg 6 (.loop l6_0) [(0, a), (1, .ref p.cells), (2, .ptr q0 0 0), (3, t3), (4, .ptr q 0 0), (6, t6), (7, t7), (8, t8), (11, t11), (14, .lst (funsL p.funs) p.fz p.froom), (15, .int .i64 p.funs.length), (16, .int .i64 i), (17, t17), (34, t34), (35, t35), (36, t36), (52, t52), (61, t61), (62, t62), (63, t63), (81, t81)] H)
    (fun r => r.1 = .exit 0 /\ (∃ t6 t16 t17, r.2.1 = [(0, a), (1, .ref p.cells), (2, .ptr q0 0 0), (3, t3), (4, .ptr q 0 0), (6, t6), (7, t7), (8, t8), (11, t11), (14, .lst (funsL p.funs) p.fz p.froom), (15, .int .i64 p.funs.length), (16, t16), (17, t17), (34, t34), (35, t35), (36, t36), (52, t52), (61, t61), (62, t62), (63, t63), (81, t81)]) /\
     ∃ v, Ph q H0 r.2.2 [v, .lst [] 0 .nil, .lst [] 0 .nil, .lst [] 0 .nil, .lst [] 0 .nil] 0 v (p.funs.map fun f => outL (calleesOf f))) := by
 intro fs
 induction fs with
 | nil =>
  intro i hd hi H v O a t3 t6 t7 t8 t11 t17 t34 t35 t36 t52 t61 t62 t63 t81
  have hle := List.drop_eq_nil_iff.1 hd
  have : i = p.funs.length := by omega
  subst this
  rw [List.take_length] at O
  rw [got_loop]
  simp only [l6_0, F6, Tryz.f6, sxAll, cA, arithA, Env.keep, ↓qAe, Nat.reduceBEq, ↓reduceIte, at_end hd]
  exact ⟨trivial, ⟨_, _, _, rfl⟩, v, O⟩
 | cons f s ih =>
  intro i hd hi H v O a t3 t6 t7 t8 t11 t17 t34 t35 t36 t52 t61 t62 t63 t81
  obtain ⟨hlt, hget, hd'⟩ := at_drop hd
  have hlt' : i < p.funs.length := by simpa using hlt
  have hx := funsL_get hget
  have hmem := qBj hget
  obtain ⟨hc1, hc2⟩ := hc f hmem
  have hw := wrap_succ (i := i) (by omega)
  have O1 := O.app [.cells f.cells 0]
  have hce := callees_eq f (H ++ [.cells f.cells 0]) hc1 (fun i hi ho => by have := hc2 i hi ho; exact wf_small (by omega) (by omega))
  have hko : known (outL (calleesOf f)) = some (outL (calleesOf f)) := rfl
  have hlo : (outL (calleesOf f)).cells = [outL (calleesOf f)] := rfl
  have ho1 : Rv.one (outL (calleesOf f)) = outL (calleesOf f) := rfl
  have hll : (outL (calleesOf f)).leaf = true := rfl
  obtain ⟨v', H', ha, p1, p2, p3, p4, O'⟩ := O1.push (leaf_outs (p.funs.take i) calleesOf) (y := outL (calleesOf f)) ⟨rfl, rfl, rfl⟩ (by simp; omega)
  have htk : (p.funs.take (i + 1)).map (fun f => outL (calleesOf f)) = (p.funs.take i).map (fun f => outL (calleesOf f)) ++ [outL (calleesOf f)] := by rw [List.take_add_one, hget]; simp
  have hkv := known_built O.b
  have hq : q < H.length := obj_some O.cell
  have c1 := O1.cell
  have := ih (i + 1) hd' (by omega) (H'.set q (.cells [v', .lst [] 0 .nil, .lst [] 0 .nil, .lst [] 0 .nil, .lst [] 0 .nil] 0)) v' (by rw [htk]; exact O')
  have hlive := live_of c1
  have hlive' := live_of p4
  rw [got_loop]
  simp only [SFun.cells] at hce ha c1 hx hlive p4
  simp only [l6_0] at this ⊢
  simp only [SProg.cells, F6, Tryz.f6, sxAll, cA, arithA, Env.keep, qt_eq, storeA, indexAddrA, fieldAddrA, loadA, Rv.part, cellsAt, TD.isAgg, fillA, setCells, copies, mapO, ↓qAe, Nat.reduceBEq, Nat.reduceAdd, Nat.reduceMul, Nat.reduceLeDiff, Nat.reduceGT, bne, ↓reduceIte, ty24, ty39, ty30, ty27, ty32, hlt, hx, hw, c1, hce, hko, hlo, ho1, hkv, ha, p1, p2, p3, p4, hlive, hlive', pu17, elems, group] at this ⊢
  exact this _ _ _ _ _ _ _ _ _ _ _ _ _ _ _
end
end Go.Proofs.Sx
namespace Go.Proofs.Sx
open Go.Rv Go.Proofs
attribute [local congr] bind_left got_left
noncomputable section
def Same (q : Nat) (H H' : Heap) : Prop := ∀ o, o < H.length -> o ≠ q -> H'[o]? = H[o]?
theorem Same.trans {q : Nat} {A B D : Heap} (h : Same q A B) (hl : A.length <= B.length) (k : Same q B D) : Same q A D := fun o ho hq => by
 rw [k o (by omega) hq, h o ho hq]
theorem same_take {q : Nat} {H H' : Heap} (h : H'.take H.length = H) : Same q H H' := fun o ho hq => by
 have := congrArg (·[o]?) h
 simp only [qBa ho] at this
 exact this
theorem built_same {q : Nat} {H H' : Heap} {v : AV} {xs : List AV} (B : Built H v xs 1) (ho : ∀ o, objOf v = some o -> o ≠ q) (S : Same q H H') : Built H' v xs 1 :=
 B.other fun o hv => S o (built_lt B hv) (ho o hv)
def reachLs (CS : List (List Int)) (N : Nat) : List (List Int) := (List.range N).map fun k : Nat => reachOf CS N (k : Int)
theorem of_loop1 (p : SProg) (CS : List (List Int)) (N : Nat) (hN : CS.length = N) (hpN : p.funs.length = N) (hNb : N <= 300) (hrng : ∀ k j, j ∈ csOf CS k -> 0 <= j /\ j < (N : Int)) (hlen : ∀ l ∈ CS, l.length <= 1000)
  (H0 : Heap) (q0 q : Nat) (v0 v1 : AV) (hv1 : known v1 = some v1) (hb0 : ∀ H', Same q H0 H' -> Built H' v0 (CS.map outL) 1) (hq0 : H0.obj q0 0 = some [.lst [] 0 .nil, .lst [] 0 .nil, .lst [] 0 .nil, .lst [] 0 .nil, .lst [] 0 .nil]) (hqq : q0 < q) :
  ∀ (d i : Nat), i + d = N -> ∀ H v, Ph q H0 H [v0, v1, v, .lst [] 0 .nil, .lst [] 0 .nil] 2 v (((List.range i).map fun k : Nat => outL (reachOf CS N (k : Int)))) -> (∀ k : Nat, k < i -> (k : Int) ∉ reachOf CS N (k : Int)) -> ∀ a t3 t6 t7 t8 t11 t14 t15 t16 t17 t36 t52 t61 t62 t63 t81,
   Got (exec cfg 6 (.loop l6_1) [(0, a), (1, .ref p.cells), (2, .ptr q0 0 0), (3, t3), (4, .ptr q 0 0), (6, t6), (7, t7), (8, t8), (11, t11), (14, t14), (15, t15), (16, t16), (17, t17), (34, .int .i64 N), (35, .int .i64 i), (36, t36), (52, t52), (61, t61), (62, t62), (63, t63), (81, t81)] H)
    (fun r => (r.1 = .exit 2 /\ (∃ t7 t35 t36 t52, r.2.1 = [(0, a), (1, .ref p.cells), (2, .ptr q0 0 0), (3, t3), (4, .ptr q 0 0), (6, t6), (7, t7), (8, t8), (11, t11), (14, t14), (15, t15), (16, t16), (17, t17), (34, .int .i64 N), (35, t35), (36, t36), (52, t52), (61, t61), (62, t62), (63, t63), (81, t81)]) /\
      (∀ k : Nat, k < N -> (k : Int) ∉ reachOf CS N (k : Int)) /\ ∃ v, Ph q H0 r.2.2 [v0, v1, v, .lst [] 0 .nil, .lst [] 0 .nil] 2 v ((reachLs CS N).map outL)) ∨
     (r.1 = .ret /\ r.2.1.get 2 = .ptr q0 0 0 /\ r.2.1.get 3 = .int .i64 67 /\ (∃ k : Nat, k < N /\ (k : Int) ∈ reachOf CS N (k : Int)) /\ r.2.2.obj q0 0 = some [.lst [] 0 .nil, .lst [] 0 .nil, .lst [] 0 .nil, .lst [] 0 .nil, .lst [] 0 .nil] /\ ∀ o, o < q0 -> r.2.2[o]? = H0[o]?)) := by
 intro d
 induction d with
 | zero =>
  intro i hi H v O hno a t3 t6 t7 t8 t11 t14 t15 t16 t17 t36 t52 t61 t62 t63 t81
  have : i = N := by omega
  subst this
  have hlt : (i < i) = False := by simp
  rw [got_loop]
  simp only [l6_1, F6, Tryz.f6, sxAll, cA, arithA, Env.keep, ↓qAe, Nat.reduceBEq, ↓reduceIte, hlt]
  refine .inl ⟨trivial, ⟨_, _, _, _, rfl⟩, hno, v, ?_⟩
  rw [reachLs, List.map_map]
  exact O
 | succ d ih =>
  intro i hi H v O hno a t3 t6 t7 t8 t11 t14 t15 t16 t17 t36 t52 t61 t62 t63 t81
  have hlt : (i < N) = True := by simp; omega
  have hlt' : i < N := by omega
  have hw := wrap_succ (i := i) (by omega)
  have hlf : Leaf1 (CS.map outL) := leaf_outs CS (fun x => x)
  have hrd : ∀ H', H'.take H.length = H -> Rd cfg H' 30 27 v0 (CS.map outL) := fun H' ht =>
   rd_leaf ty30 rfl ty27 rfl rfl (hb0 H' (Same.trans (q := q) O.same O.le (same_take ht))) hlf
  have hre := reach_eq CS N hN H v0 [v1, v, .lst [] 0 .nil, .lst [] 0 .nil] hrd hrng hlen (by omega) rfl i hlt'
  obtain ⟨ro, hro⟩ : ∃ ro, ro = reachOf CS N (i : Int) := ⟨_, rfl⟩
  rw [← hro] at hre
  have hko : known (outL ro) = some (outL ro) := rfl
  have hlo : (outL ro).cells = [outL ro] := rfl
  have ho1 : Rv.one (outL ro) = outL ro := rfl
  have hll : (outL ro).leaf = true := rfl
  obtain ⟨v', H', ha, p1, p2, p3, p4, O'⟩ := O.push (leaf_outs (List.range i) fun k : Nat => reachOf CS N (k : Int)) (y := outL ro) ⟨rfl, rfl, rfl⟩ (by simp; omega)
  have hrs : ((List.range i).map fun k : Nat => outL (reachOf CS N (k : Int))) ++ [outL ro] = (List.range (i + 1)).map fun k : Nat => outL (reachOf CS N (k : Int)) := by
   rw [List.range_succ, List.map_append, hro]; rfl
  rw [hrs] at O'
  have O2 : Ph q H0 (H'.set q (.cells [v0, v1, v', .lst [] 0 .nil, .lst [] 0 .nil] 0)) [v0, v1, v', .lst [] 0 .nil, .lst [] 0 .nil] 2 v' ((List.range (i + 1)).map fun k : Nat => outL (reachOf CS N (k : Int))) := O'
  have R2 : Rd cfg (H'.set q (.cells [v0, v1, v', .lst [] 0 .nil, .lst [] 0 .nil] 0)) 30 27 v' _ := rd_leaf ty30 rfl ty27 rfl rfl O2.b (leaf_outs (List.range (i + 1)) fun k : Nat => reachOf CS N (k : Int))
  obtain ⟨ad, g1, g2, g3⟩ := R2.get i (outL ro) (by rw [hro, qBc, List.getElem?_range (by omega)]; rfl)
  have hrl : ro.length < 1000000000 := by
   have h1 : ro.Nodup := by
    rw [hro, List.nodup_iff_pairwise_ne]
    exact (reachOf_lt CS N (i : Int)).imp fun h => by omega
   have := nodup_len h1 (N := N) (fun x hx => by
    rw [hro] at hx
    have := (List.mem_filter.1 hx).1
    obtain ⟨y, hy, rfl⟩ := qBl.1 this
    have := List.mem_range.1 hy
    constructor
    ·exact Int.natCast_nonneg y
    ·show ((y : Nat) : Int) < N
     omega)
   omega
  have hct := containsI_eq ro (i : Int) 1 (if ro = [] then .nil else .open) (H'.set q (.cells [v0, v1, v', .lst [] 0 .nil, .lst [] 0 .nil] 0)) hrl
  have hkv := known_built O.b
  have hkv0 := (hrd H (by simp)).kn
  have c1 := O.cell
  have c2 := O2.cell
  have hlive := live_of c1
  have hlive' := live_of p4
  have hlive3 := live_of c2
  rw [got_loop]
  by_cases hm : (i : Int) ∈ ro
  ·have hdm : decide ((i : Int) ∈ ro) = true := by simp [hm]
   rw [hdm] at hct
   have hq2 : Heap.obj (H'.set q (.cells [v0, v1, v', .lst [] 0 .nil, .lst [] 0 .nil] 0)) q0 0 = some [.lst [] 0 .nil, .lst [] 0 .nil, .lst [] 0 .nil, .lst [] 0 .nil, .lst [] 0 .nil] := obj_keep hq0 (O2.same q0 (obj_some hq0) (by omega))
   have hlive2 := live_of hq2
   have hq2l := obj_some hq2
   have hfin : Heap.obj (List.set (H'.set q (.cells [v0, v1, v', .lst [] 0 .nil, .lst [] 0 .nil] 0)) q0 (.cells [.lst [] 0 .nil, .lst [] 0 .nil, .lst [] 0 .nil, .lst [] 0 .nil, .lst [] 0 .nil] 0)) q0 0 = some [.lst [] 0 .nil, .lst [] 0 .nil, .lst [] 0 .nil, .lst [] 0 .nil, .lst [] 0 .nil] := by
    simp only [Heap.obj, qAz hq2l]; rfl
   have hold : ∀ o, o < q0 -> (List.set (H'.set q (.cells [v0, v1, v', .lst [] 0 .nil, .lst [] 0 .nil] 0)) q0 (.cells [.lst [] 0 .nil, .lst [] 0 .nil, .lst [] 0 .nil, .lst [] 0 .nil, .lst [] 0 .nil] 0))[o]? = H0[o]? := fun o ho => by
    rw [qAw (by omega)]
    exact O2.same o (by have := obj_some hq0; omega) (by omega)
   have hex : ∃ k : Nat, k < N /\ (k : Int) ∈ reachOf CS N (k : Int) := ⟨i, hlt', by rw [← hro]; exact hm⟩
   simp only [outL] at hre ha hko hlo ho1 hll g3 hct
   simp only [l6_1, SProg.cells, F6, Tryz.f6, sxAll, cA, arithA, Env.keep, qt_eq, storeA, fieldAddrA, Rv.part, TD.isAgg, buildA, fillA, setCells, copies, mapO, ↓qAe, Nat.reduceBEq, Nat.reduceAdd, Nat.reduceMul, Nat.reduceLeDiff, Nat.reduceGT, bne, ↓reduceIte, load_ptr, ty30, ty27, ty32, hlt, c1, c2, hre, hko, hlo, ho1, hkv, ha, p1, p2, p3, p4, hlive, hlive', hlive3, hq2, g1, g2, g3, hct, pu19, pu20, elems, group]
   exact .inr ⟨trivial, trivial, trivial, hex, hfin, hold⟩
  ·have hdm : decide ((i : Int) ∈ ro) = false := by simp [hm]
   rw [hdm] at hct
   have := ih (i + 1) (by omega) _ v' O2 (fun k hk => by
    by_cases hki : k = i
    ·subst hki; rw [← hro]; exact hm
    ·exact hno k (by omega))
   simp only [outL] at hre ha hko hlo ho1 hll g3 hct
   simp only [l6_1] at this ⊢
   simp only [SProg.cells, F6, Tryz.f6, sxAll, cA, arithA, Env.keep, qt_eq, storeA, fieldAddrA, Rv.part, TD.isAgg, fillA, setCells, copies, mapO, ↓qAe, Nat.reduceBEq, Nat.reduceAdd, Nat.reduceMul, Nat.reduceLeDiff, Nat.reduceGT, bne, ↓reduceIte, load_ptr, ty30, ty27, ty32, hlt, hw, c1, c2, hre, hko, hlo, ho1, hkv, ha, p1, p2, p3, p4, hlive, hlive', hlive3, g1, g2, g3, hct, pu19, pu20, elems, group] at this ⊢
   exact this _ _ _ _ _ _ _ _ _ _ _ _ _ _ _ _
end
end Go.Proofs.Sx
namespace Go.Proofs.Sx
open Go.Rv Go.Proofs
attribute [local congr] bind_left got_left
noncomputable section
def View (H : Heap) (v : AV) (xs : List Int) : Prop := (v = .lst [] 0 .nil /\ xs = []) ∨ ∃ o g cap ws, v = .msl o 0 xs.length 1 g cap /\ H.obj o g = some (intL ws) /\ ws.take xs.length = xs
theorem Built.view {H : Heap} {v : AV} {xs : List Int} (B : Built H v (intL xs) 1) : View H v xs := by
 rcases B with ⟨h1, h2⟩ | ⟨o, g, cap, h1, h2, _⟩
 ·exact .inl ⟨h1, List.map_eq_nil_iff.1 h2⟩
 ·refine .inr ⟨o, g, cap, xs, by rw [h1, intL_len], ?_, List.take_length⟩
  rw [show flatC (intL xs) = intL xs from flatC_plain (plain_ints xs)] at h2
  exact h2
theorem View.other {H H' : Heap} {v : AV} {xs : List Int} (V : View H v xs) (K : ∀ o, objOf v = some o -> H'[o]? = H[o]?) : View H' v xs := by
 rcases V with h | ⟨o, g, cap, ws, rfl, h2, h3⟩
 ·exact .inl h
 ·exact .inr ⟨o, g, cap, ws, rfl, obj_keep h2 (K o rfl), h3⟩
theorem View.lt {H : Heap} {v : AV} {xs : List Int} {o : Nat} (V : View H v xs) (ho : objOf v = some o) : o < H.length := by
 rcases V with ⟨rfl, _⟩ | ⟨o', g, cap, ws, rfl, h2, h3⟩
 ·cases ho
 ·simp only [objOf, qAf] at ho; subst ho; exact obj_some h2
theorem View.kn {H : Heap} {v : AV} {xs : List Int} (V : View H v xs) : known v = some v /\ v.cells = [v] /\ v.leaf = true := by
 rcases V with ⟨rfl, _⟩ | ⟨o', g, cap, ws, rfl, h2, h3⟩ <;> exact ⟨rfl, rfl, rfl⟩
theorem View.freeze {H : Heap} {v : AV} {xs : List Int} {n d : Nat} (V : View H v xs) (ho : ∀ o, objOf v = some o -> n <= o) : ∃ z r, freezeV H n (d + 2) v = some (.lst (intL xs) z r) := by
 rcases V with ⟨rfl, rfl⟩ | ⟨o, g, cap, ws, rfl, h2, h3⟩
 ·exact ⟨0, .nil, rfl⟩
 ·refine ⟨1, .open, ?_⟩
  have hn := ho o rfl
  have hl : xs.length <= ws.length := by have := congrArg List.length h3; simp at this; omega
  have htk : (intL ws).take xs.length = intL xs := by rw [← h3]; simp [intL, List.map_take]
  unfold freezeV
  simp only
  rw [if_neg (by omega), h2]
  simp only [qAd, qAe, qBg, Nat.mul_one, qBf, intL_len, hl, if_true, htk, freeze_ints]
  congr 2
  have := group_plain (plain_ints xs)
  simp only [qBn] at this
  exact this
structure VV (Hb H : Heap) (a : Nat) (cells : List AV) (ls : List (List Int)) : Prop where
 cell : H.obj Hb.length 0 = some cells
 len : cells.length = ls.length
 each : ∀ (k : Nat) v xs, cells[k]? = some v -> ls[k]? = some xs -> View H v xs
 whole : ∀ (k : Nat) v xs, a <= k -> cells[k]? = some v -> ls[k]? = some xs -> Built H v (intL xs) 1
 own : ∀ (k : Nat) v o, cells[k]? = some v -> objOf v = some o -> Hb.length < o
 sep : ∀ (k k' : Nat) v v' o, cells[k]? = some v -> cells[k']? = some v' -> objOf v = some o -> objOf v' = some o -> k = k'
 old : H.take Hb.length = Hb
theorem VV.le {Hb H : Heap} {a : Nat} {cells : List AV} {ls : List (List Int)} (O : VV Hb H a cells ls) : Hb.length < H.length := obj_some O.cell
theorem VV.upd {Hb H H' : Heap} {a a' k : Nat} {cells : List AV} {ls : List (List Int)} {v v' : AV} {xs xs' : List Int} (O : VV Hb H a cells ls) (hv : cells[k]? = some v) (hx : ls[k]? = some xs)
  (ha : a <= a') (hk : k < a') (hl : H.length <= H'.length) (hs : ∀ o, o < H.length -> objOf v ≠ some o -> H'[o]? = H[o]?) (hV : View H' v' xs') (ho : objOf v' = objOf v ∨ objOf v' = some H.length ∨ objOf v' = none) :
  H'.obj Hb.length 0 = some cells /\ VV Hb (H'.set Hb.length (.cells (cells.set k v') 0)) a' (cells.set k v') (ls.set k xs') := by
 have hlt := O.le
 have hkl : k < cells.length := (qAu.1 hv).1
 have hcell : H'.obj Hb.length 0 = some cells := obj_keep O.cell (hs _ hlt fun hc => by have := O.own k v _ hv hc; omega)
 have hlt' := obj_some hcell
 have hownv : ∀ o, objOf v' = some o -> Hb.length < o := fun o ho' => by
  rcases ho with h6 | h6 | h6
  ·exact O.own k v o hv (h6 ▸ ho')
  ·rw [h6] at ho'; simp only [qAf] at ho'; omega
  ·rw [h6] at ho'; cases ho'
 have hother : ∀ (j : Nat) w o, j ≠ k -> cells[j]? = some w -> objOf w = some o -> o < H.length /\ objOf v ≠ some o /\ objOf v' ≠ some o := by
  intro j w o hj hw how
  have hjl : j < ls.length := by rw [← O.len]; exact (qAu.1 hw).1
  have hlo := View.lt (O.each j w _ hw (qAs hjl)) how
  have hne : objOf v ≠ some o := fun hc => hj (O.sep j k w v o hw hv how hc)
  refine ⟨hlo, hne, fun hc => ?_⟩
  rcases ho with h6 | h6 | h6
  ·exact hne (h6 ▸ hc)
  ·rw [h6] at hc; simp only [qAf] at hc; omega
  ·rw [h6] at hc; cases hc
 have hkeep : ∀ (j : Nat) w o, j ≠ k -> cells[j]? = some w -> objOf w = some o -> (H'.set Hb.length (.cells (cells.set k v') 0))[o]? = H[o]? := fun j w o hj hw how => by
  obtain ⟨q1, q2, _⟩ := hother j w o hj hw how
  rw [qAw (by have := O.own j w o hw how; omega), hs o q1 q2]
 refine ⟨hcell, ⟨by simp [Heap.obj, qAz hlt'], by simp [O.len], ?_, ?_, ?_, ?_, ?_⟩⟩
 ·intro j w ys hw hys
  by_cases hj : j = k
  ·subst hj
   rw [qAz hkl] at hw
   rw [qAz (by rw [← O.len]; exact hkl)] at hys
   injection hw with hw; injection hys with hys
   subst hw hys
   exact hV.other fun o ho => by rw [qAw]; have := hownv o ho; omega
  ·rw [qAw (Ne.symm hj)] at hw hys
   exact (O.each j w ys hw hys).other fun o ho => hkeep j w o hj hw ho
 ·intro j w ys haj hw hys
  have hj : j ≠ k := by omega
  rw [qAw (Ne.symm hj)] at hw hys
  exact (O.whole j w ys (by omega) hw hys).other fun o ho => hkeep j w o hj hw ho
 ·intro j w o hw ho
  by_cases hj : j = k
  ·subst hj
   rw [qAz hkl] at hw
   injection hw with hw; subst hw
   exact hownv o ho
  ·rw [qAw (Ne.symm hj)] at hw
   exact O.own j w o hw ho
 ·intro j j' w w' o hw hw' ho ho'
  by_cases hj : j = k
  ·by_cases hj' : j' = k
   ·omega
   ·subst hj
    rw [qAz hkl] at hw
    rw [qAw (Ne.symm hj')] at hw'
    injection hw with hw; subst hw
    exact absurd ho (hother j' w' o hj' hw' ho').2.2
  ·rw [qAw (Ne.symm hj)] at hw
   by_cases hj' : j' = k
   ·subst hj'
    rw [qAz hkl] at hw'
    injection hw' with hw'; subst hw'
    exact absurd ho' (hother j w o hj hw ho).2.2
   ·rw [qAw (Ne.symm hj')] at hw'
    exact O.sep j j' w w' o hw hw' ho ho'
 ·rw [List.take_set_of_le (qAr _), ← O.old]
  apply qBk
  intro i
  by_cases hi : i < Hb.length
  ·rw [O.old, qBa hi, hs i (by omega) (fun hc => by have := O.own k v _ hv hc; omega)]
   have := congrArg (·[i]?) O.old
   simp only [qBa hi] at this
   exact this
  ·rw [O.old, qAt (by simp; omega), qAt (by omega)]
theorem LL.vv {H1 H2 : Heap} {cells : List AV} {ls : List (List Int)} (O : LL H1 H2 cells ls) {q : Nat} (hq : q < H1.length) (X : AObj) : VV (H1.set q X) (H2.set q X) 0 cells ls where
 cell := by rw [List.length_set]; exact obj_keep O.cell (by rw [qAw (by omega)])
 len := O.len
 each k v xs hv hx := Built.view ((O.each k v xs hv hx).other fun o ho => by rw [qAw]; have := O.own k v o hv ho; omega)
 whole k v xs _ hv hx := (O.each k v xs hv hx).other fun o ho => by rw [qAw]; have := O.own k v o hv ho; omega
 own k v o hv ho := by rw [List.length_set]; exact O.own k v o hv ho
 sep := O.sep
 old := by rw [List.length_set, List.take_set, O.old]
theorem delI_nil (g : Nat) (caps : List AV) (H : Heap) (hg : True) : call cfg 21 [.lst [] 0 .nil, .clo g caps] H = some (.ret (.lst [] 0 .nil), H) := by
 have hi := indexFI_eqR [] (fun _ => false) g caps (.lst [] 0 .nil) H (by simp) (rd_built ty27 rfl ty3 rfl rfl (.inl ⟨rfl, rfl⟩) (plain_ints [])) (fun a ha => by simp at ha)
 simp only [idxP] at hi
 rw [call21]
 simp only [F21, k21, Tryz.f21, sxAll, cA, arithA, Env.keep, qt_eq, resultsA, packA, mapO, ↓qAe, Nat.reduceBEq, ↓reduceIte, hi, pu41]
 exact leave_impure rfl
theorem VV.del {Hb H : Heap} {i : Nat} {cells : List AV} {ls : List (List Int)} {v : AV} {xs : List Int} (O : VV Hb H i cells ls) (hv : cells[i]? = some v) (hx : ls[i]? = some xs) (hn : xs.length < 1000000) (p : Int -> Bool) (g : Nat) (caps : List AV)
  (hg : ∀ a ∈ xs, ∀ H, call cfg g (.int .i64 a :: caps) H = some (.ret (.bool (p a)), H)) :
  ∃ v' H', call cfg 21 [v, .clo g caps] H = some (.ret v', H') /\ known v' = some v' /\ v'.cells = [v'] /\ v'.leaf = true /\ H'.obj Hb.length 0 = some cells /\ (∀ o, o < Hb.length -> H'[o]? = H[o]?) /\
   VV Hb (H'.set Hb.length (.cells (cells.set i v') 0)) (i + 1) (cells.set i v') (ls.set i (xs.filter fun y => !p y)) := by
 have B := O.whole i v xs (qAr _) hv hx
 have hB := B
 rcases B with ⟨h1, h2⟩ | ⟨o, gg, cap, h1, h2, h3⟩
 ·subst h1
  have hxs : xs = [] := List.map_eq_nil_iff.1 h2
  subst hxs
  obtain ⟨c1, c2⟩ := O.upd (H' := H) (a' := i + 1) (v' := .lst [] 0 .nil) (xs' := []) hv hx (by omega) (by omega) (qAr _) (fun o _ _ => rfl) (.inl ⟨rfl, rfl⟩) (.inl rfl)
  exact ⟨_, H, delI_nil g caps H trivial, rfl, rfl, rfl, c1, fun _ _ => rfl, c2⟩
 ·rw [show flatC (intL xs) = intL xs from flatC_plain (plain_ints xs)] at h2
  rw [intL_len] at h1 h3
  subst h1
  obtain ⟨ws, cap', k1, k2⟩ := delI_eq xs p g caps H o gg cap h2 hn (fun ws a ha => hg a ha _) h3
  have hol := obj_some h2
  have hoo := O.own i _ o hv rfl
  obtain ⟨c1, c2⟩ := O.upd (H' := Dh H o gg ws) (a' := i + 1) (v' := .msl o 0 (xs.filter fun y => !p y).length 1 gg cap') (xs' := xs.filter fun y => !p y) hv hx (by omega) (by omega) (by simp [Dh])
   (fun o' _ ho' => by
    have : o ≠ o' := fun h => ho' (by rw [← h]; rfl)
    simp only [Dh]
    rw [qAw this])
   (.inr ⟨o, gg, cap', ws, rfl, Dh_obj h2 ws, k2⟩) (.inl rfl)
  refine ⟨_, _, k1, rfl, rfl, rfl, c1, fun o' ho' => ?_, c2⟩
  simp only [Dh]
  rw [qAw (by omega)]
theorem VV.put {Hb H : Heap} {a i : Nat} {cells : List AV} {ls : List (List Int)} {v : AV} {xs : List Int} (O : VV Hb H a cells ls) (hv : cells[i]? = some v) (hx : ls[i]? = some xs) (ha : i < a) (n : Int) :
  VV Hb ((H ++ [AObj.cells [.int .i64 n] 0]).set Hb.length (.cells (cells.set i (.msl H.length 0 1 1 0 (some 1))) 0)) a (cells.set i (.msl H.length 0 1 1 0 (some 1))) (ls.set i [n]) :=
 (O.upd (H' := H ++ [AObj.cells [.int .i64 n] 0]) (a' := a) (v' := .msl H.length 0 1 1 0 (some 1)) (xs' := [n]) hv hx (qAr _) ha (by simp) (fun o ho _ => qAx ho)
  (.inr ⟨H.length, 0, some 1, [n], rfl, by simp [Heap.obj, intL], rfl⟩) (.inr (.inl rfl))).2
theorem addTo_mem (n : Int) (P : Int -> Prop) (hn : P n) : ∀ (x : List Int) (ls : List (List Int)), (∀ l ∈ ls, ∀ j ∈ l, P j) -> ∀ l ∈ addTo ls n x, ∀ j ∈ l, P j
 | [], ls, h => h
 | k :: r, ls, h => by
  rw [addTo]
  refine addTo_mem n P hn r _ fun l hl j hj => ?_
  rcases List.mem_or_eq_of_mem_set hl with h1 | h1
  ·exact h l h1 j hj
  ·subst h1
   rcases qAp.1 hj with hj | hj
   ·by_cases hk : k.toNat < ls.length
    ·rw [qBp, qAs hk] at hj
     exact h _ (List.getElem_mem hk) j hj
    ·rw [qBp, qAt (by omega)] at hj
     simp at hj
   ·rw [qAn.1 hj]; exact hn
theorem addTo_bound (n : Int) : ∀ (x : List Int) (ls : List (List Int)) (B : Nat), (∀ l ∈ ls, l.length <= B) -> ∀ l ∈ addTo ls n x, l.length <= B + x.length
 | [], ls, B, h => fun l hl => by have := h l hl; simp; omega
 | k :: r, ls, B, h => by
  rw [addTo]
  intro l hl
  have := addTo_bound n r (ls.set k.toNat (ls.getD k.toNat [] ++ [n])) (B + 1) (fun l hl => by
   rcases List.mem_or_eq_of_mem_set hl with h1 | h1
   ·have := h l h1; omega
   ·subst h1
    rw [qBb, qBp]
    cases hk : ls[k.toNat]? with
    | none => simp
    | some y => have := h y (qBj hk); simp; omega) l hl
  simp only [qAv]; omega
theorem turnGo_mem (P : Int -> Prop) : ∀ (CS : List (List Int)) (i : Nat) (ls : List (List Int)), (∀ k : Nat, i <= k -> k < i + CS.length -> P k) -> (∀ l ∈ ls, ∀ j ∈ l, P j) -> ∀ l ∈ turnGo CS i ls, ∀ j ∈ l, P j
 | [], i, ls, _, h => h
 | x :: r, i, ls, hp, h => by
  rw [turnGo]
  exact turnGo_mem P r (i + 1) _ (fun k h1 h2 => hp k (by omega) (by simp; omega)) (addTo_mem _ P (hp i (qAr _) (by simp)) x ls h)
theorem turnGo_bound : ∀ (CS : List (List Int)) (i : Nat) (ls : List (List Int)) (B : Nat), (∀ x ∈ CS, x.length <= 1000) -> (∀ l ∈ ls, l.length <= B) -> ∀ l ∈ turnGo CS i ls, l.length <= B + 1000 * CS.length
 | [], i, ls, B, _, h => fun l hl => by have := h l hl; simp; omega
 | x :: r, i, ls, B, hc, h => by
  rw [turnGo]
  intro l hl
  have := turnGo_bound r (i + 1) _ (B + 1000) (fun y hy => hc y (qAk _ hy)) (fun l hl => by
   have := addTo_bound (i : Int) x ls B h l hl
   have := hc x (qAi ..)
   omega) l hl
  simp only [qAv]; omega
theorem turnGo_len : ∀ (CS : List (List Int)) (i : Nat) (ls : List (List Int)), (turnGo CS i ls).length = ls.length
 | [], i, ls => rfl
 | x :: r, i, ls => by rw [turnGo, turnGo_len r, addTo_len]
theorem turnedL_len (CS : List (List Int)) : (turnedL CS).length = CS.length := by rw [turnedL, turnGo_len]; simp
theorem turnedL_mem (CS : List (List Int)) {l : List Int} (hl : l ∈ turnedL CS) {j : Int} (hj : j ∈ l) : 0 <= j /\ j < (CS.length : Int) :=
 turnGo_mem (fun j => 0 <= j /\ j < (CS.length : Int)) CS 0 _ (fun k _ hk => ⟨by omega, by omega⟩) (fun l hl j hj => by rw [(List.mem_replicate.1 hl).2] at hj; simp at hj) l hl j hj
theorem turnedL_bound (CS : List (List Int)) (hc : ∀ x ∈ CS, x.length <= 1000) {l : List Int} (hl : l ∈ turnedL CS) : l.length <= 1000 * CS.length := by
 have := turnGo_bound CS 0 _ 0 hc (fun l hl => by rw [(List.mem_replicate.1 hl).2]; simp) l hl
 omega
end
end Go.Proofs.Sx
namespace Go.Proofs.Sx
open Go.Rv Go.Proofs
attribute [local congr] bind_left got_left
noncomputable section
def thrB (p : SProg) (j : Int) : Bool := match p.funs[j.toNat]? with
 | some f => f.thread
 | none => false
def rootsGo (p : SProg) : List SFun -> Nat -> List (List Int) -> List (List Int)
 | [], _, ls => ls
 | f :: r, i, ls => rootsGo p r (i + 1) (ls.set i (if f.thread then [(i : Int)] else (ls.getD i []).filter (thrB p)))
theorem of_loop2 (p : SProg) (N : Nat) (hN : p.funs.length = N) (hNb : N <= 300) (Hb : Heap) (q0 q : Nat) (c : List AV) (v0 v1 v2 v4 : AV) (hq : Hb.obj q 0 = some [v0, v1, v2, .msl Hb.length 0 N 1 0 (some N), v4]) :
  ∀ (fs : List SFun) (i : Nat), p.funs.drop i = fs -> i <= N -> ∀ H cells ls, VV Hb H i cells ls -> ls.length = N -> (∀ k xs, i <= k -> ls[k]? = some xs -> xs.length < 1000000 /\ ∀ j ∈ xs, 0 <= j /\ j < (N : Int)) -> ∀ a t3 t6 t7 t8 t11 t14 t15 t16 t17 t34 t35 t36 t52 t63 t81,
   Got (exec cfg 6 (.loop l6_2) [(0, a), (1, .ref p.cells), (2, .ptr q0 0 0), (3, t3), (4, .ptr q 0 0), (6, t6), (7, t7), (8, t8), (11, t11), (14, t14), (15, t15), (16, t16), (17, t17), (34, t34), (35, t35), (36, t36), (52, t52), (61, .int .i64 N), (62, .int .i64 i), (63, t63), (81, t81)] H)
    (fun r => r.1 = .exit 4 /\ (∃ t8 t62 t63 t81, r.2.1 = [(0, a), (1, .ref p.cells), (2, .ptr q0 0 0), (3, t3), (4, .ptr q 0 0), (6, t6), (7, t7), (8, t8), (11, t11), (14, t14), (15, t15), (16, t16), (17, t17), (34, t34), (35, t35), (36, t36), (52, t52), (61, .int .i64 N), (62, t62), (63, t63), (81, t81)]) /\
     ∃ cells', VV Hb r.2.2 N cells' (rootsGo p fs i ls)) := by
 have hqm := obj_some hq
 intro fs
 induction fs with
 | nil =>
  intro i hd hi H cells ls O hls hb a t3 t6 t7 t8 t11 t14 t15 t16 t17 t34 t35 t36 t52 t63 t81
  have hle := List.drop_eq_nil_iff.1 hd
  have : i = N := by omega
  subst this
  have hlt : (i < i) = False := by simp
  rw [got_loop]
  simp only [l6_2, F6, Tryz.f6, sxAll, cA, arithA, Env.keep, ↓qAe, Nat.reduceBEq, ↓reduceIte, hlt]
  exact ⟨trivial, ⟨_, _, _, _, rfl⟩, cells, O⟩
 | cons f s ih =>
  intro i hd hi H cells ls O hls hb a t3 t6 t7 t8 t11 t14 t15 t16 t17 t34 t35 t36 t52 t63 t81
  obtain ⟨hlt, hget, hd'⟩ := at_drop hd
  rw [hN] at hlt
  have hlt' : i < N := by simpa using hlt
  have hx := funsL_get hget
  have hw := wrap_succ (i := i) (by omega)
  obtain ⟨xs, hxs⟩ : ∃ xs, ls[i]? = some xs := ⟨_, qAs (by omega)⟩
  obtain ⟨v, hv⟩ : ∃ v, cells[i]? = some v := ⟨_, qAs (by rw [O.len]; omega)⟩
  obtain ⟨hxl, hxr⟩ := hb i xs (qAr _) hxs
  obtain ⟨k1, k2, k3⟩ := View.kn (O.each i v xs hv hxs)
  obtain ⟨v', H', hdel, p1, p2, p3, p4, p5, O'⟩ := O.del hv hxs hxl (fun j => !thrB p j) 22 [.ref p.cells] (fun j hj H => by
   obtain ⟨h1, h2⟩ := hxr j hj
   obtain ⟨g, hg⟩ : ∃ g, p.funs[j.toNat]? = some g := ⟨_, qAs (by omega)⟩
   rw [callsOf1_eq p j g h1 hg H]
   simp only [thrB, hg])
  have hfl : (xs.filter fun y => !(!thrB p y)) = xs.filter (thrB p) := by simp
  rw [hfl] at O'
  have c1 : H.obj q 0 = some [v0, v1, v2, .msl Hb.length 0 N 1 0 (some N), v4] := obj_keep hq (same_take (q := H.length + 1) O.old q hqm (by have := O.le; omega))
  have c2 : H'.obj q 0 = some [v0, v1, v2, .msl Hb.length 0 N 1 0 (some N), v4] := obj_keep c1 (p5 q hqm)
  have c3 : Heap.obj (H'.set Hb.length (.cells (cells.set i v') 0)) q 0 = some [v0, v1, v2, .msl Hb.length 0 N 1 0 (some N), v4] := obj_keep c2 (by rw [qAw (by omega)])
  have hl1 := live_of c1
  have hl2 := live_of c2
  have hl3 := live_of c3
  have hm1 := O.cell
  have hlm1 := live_of hm1
  have hlm2 := live_of p4
  have hm3 := O'.cell
  have hlm3 := live_of hm3
  have hkc : (i + 1 <= cells.length) = True := by rw [O.len]; simp; omega
  have hh := head_drop hv
  have hgd : ls.getD i [] = xs := by simp [hxs]
  have hb' : ∀ (y : List Int) k zs, i + 1 <= k -> (ls.set i y)[k]? = some zs -> zs.length < 1000000 /\ ∀ j ∈ zs, 0 <= j /\ j < (N : Int) := fun y k zs hk hz => by
   rw [qAw (by omega)] at hz
   exact hb k zs (by omega) hz
  rw [got_loop]
  simp only [SProg.cells, SFun.cells] at hx hdel
  cases ht : f.thread with
  | false =>
   rw [ht] at hx
   have := ih (i + 1) hd' (by omega) _ _ _ O' (by simp [hls]) (hb' _)
   have hr : rootsGo p (f :: s) i ls = rootsGo p s (i + 1) (ls.set i (xs.filter (thrB p))) := by rw [rootsGo, ht, hgd]; rfl
   rw [hr]
   simp only [l6_2] at this ⊢
   simp only [SProg.cells, F6, Tryz.f6, sxAll, cA, arithA, Env.keep, qt_eq, storeA, indexAddrA, fieldAddrA, loadA, Rv.part, cellsAt, TD.isAgg, setCells, mapO, ↓qAe, Nat.reduceBEq, Nat.reduceAdd, ↓reduceIte, sx_callf_l, la6_74, ty24, ty39, ty26, ty4, ty30, ty27, ty32, hlt, hw, hx, c1, c2, hl1, hl2, hm1, hlm1, p4, hlm2, hkc, hh, k1, p1, p2, p3, hdel, Nat.mul_one, qBg, AV.eqb, Nat.beq_refl] at this ⊢
   exact this _ _ _ _ _ _ _ _ _ _ _ _ _ _ _ _
  | true =>
   rw [ht] at hx
   have hset : (cells.set i v')[i]? = some v' := qAz (by rw [O.len]; omega)
   have O2 := O'.put (i := i) (v := v') (xs := xs.filter (thrB p)) hset (qAz (by omega)) (by omega) (i : Int)
   rw [List.set_set, List.set_set] at O2
   have := ih (i + 1) hd' (by omega) _ _ _ O2 (by simp [hls]) (hb' _)
   have hr : rootsGo p (f :: s) i ls = rootsGo p s (i + 1) (ls.set i [(i : Int)]) := by rw [rootsGo, ht]; rfl
   have hm4 := obj_leftS [AObj.cells [.int .i64 (i : Int)] 0] hm3
   have hlm4 := live_of hm4
   have hkc' : (i + 1 <= (cells.set i v').length) = True := by rw [List.length_set]; exact hkc
   rw [hr]
   simp only [l6_2] at this ⊢
   simp only [SProg.cells, F6, Tryz.f6, sxAll, cA, arithA, Env.keep, qt_eq, storeA, indexAddrA, fieldAddrA, loadA, Rv.part, cellsAt, TD.isAgg, fillA, setCells, copies, mapO, ↓qAe, Nat.reduceBEq, Nat.reduceAdd, Nat.reduceLeDiff, Nat.reduceGT, bne, ↓reduceIte, sx_callf_l, la6_74, ty24, ty39, ty26, ty4, ty3, ty30, ty27, ty32, hlt, hw, hx, c1, c2, c3, hl1, hl2, hl3, hm1, hlm1, p4, hlm2, hm4, hlm4, hkc, hkc', hh, k1, p1, p2, p3, hdel, Nat.mul_one, qBg, AV.eqb, Nat.beq_refl, List.set_set, cells_msl, leaf_msl] at this ⊢
   exact this _ _ _ _ _ _ _ _ _ _ _ _ _ _ _ _
end
end Go.Proofs.Sx
namespace Go.Proofs.Sx
open Go.Rv Go.Proofs
attribute [local congr] bind_left got_left
noncomputable section
theorem pickR_some (CS : List (List Int)) (out : List Int) : ∀ l : List Nat, (∃ n ∈ l, ready CS out n = true) -> ∃ m, pickR CS out l = some m /\ m ∈ l /\ ready CS out m = true
 | [], ⟨n, h, _⟩ => by simp at h
 | a :: r, ⟨n, h, hr⟩ => by
  rw [pickR]
  by_cases ha : ready CS out a = true
  ·rw [if_pos ha]; exact ⟨a, rfl, by simp, ha⟩
  ·rw [if_neg ha]
   obtain ⟨m, h1, h2, h3⟩ := pickR_some CS out r ⟨n, (qAj.1 h).resolve_left (fun e => ha (e ▸ hr)), hr⟩
   exact ⟨m, h1, qAk _ h2, h3⟩
theorem nodup_sub_len : ∀ (a b : List Int), a.Nodup -> (∀ x ∈ a, x ∈ b) -> a.length <= b.length
 | [], b, _, _ => by simp
 | x :: r, b, hn, hs => by
  have hn' := List.nodup_cons.1 hn
  have hx := hs x (qAi ..)
  have h := nodup_sub_len r (b.erase x) hn'.2 fun y hy => by
   have hne : y ≠ x := fun e => hn'.1 (e ▸ hy)
   exact (List.mem_erase_of_ne hne).2 (hs y (qAk _ hy))
  rw [List.length_erase_of_mem hx] at h
  have := List.length_pos_of_mem hx
  simp only [qAv]; omega
theorem reachOf_nodup (CS : List (List Int)) (N : Nat) (k : Int) : (reachOf CS N k).Nodup := by
 rw [List.nodup_iff_pairwise_ne]
 exact (reachOf_lt CS N k).imp fun h => by omega
theorem pick_ex (CS : List (List Int)) (N : Nat) (hrng : ∀ k j, j ∈ csOf CS k -> 0 <= j /\ j < (N : Int)) (hno : ∀ k : Nat, k < N -> (k : Int) ∉ reachOf CS N (k : Int)) (out : List Int) (hl : out.length < N) :
  ∃ n ∈ List.range N, ready CS out n = true := by
 obtain ⟨n0, h0, h1⟩ : ∃ n : Nat, n < N /\ (n : Int) ∉ out := by
  apply Classical.byContradiction
  intro hc
  have h2 : ∀ x ∈ (List.range N).map Int.ofNat, x ∈ out := fun x hx => by
   obtain ⟨n, hn, rfl⟩ := qBl.1 hx
   exact Classical.byContradiction fun h => hc ⟨n, List.mem_range.1 hn, h⟩
  have := nodup_sub_len ((List.range N).map Int.ofNat) out (by
   rw [List.nodup_iff_pairwise_ne]
   exact (range_lt N).imp fun h => by omega) h2
  simp at this; omega
 have key : ∀ (d n : Nat), (reachOf CS N (n : Int)).length <= d -> n < N -> (n : Int) ∉ out -> ∃ m ∈ List.range N, ready CS out m = true := by
  intro d
  induction d with
  | zero =>
   intro n hd hn ho
   refine ⟨n, List.mem_range.2 hn, ?_⟩
   have hnone : csOf CS (n : Int) = [] := by
    apply List.eq_nil_iff_forall_not_mem.2
    intro j hj
    have := (reachOf_mem CS N (n : Int) j hrng).2 (.one hj)
    have := List.length_pos_of_mem this
    omega
   simp [ready, ho, hnone]
  | succ d ih =>
   intro n hd hn ho
   by_cases hr : ready CS out n = true
   ·exact ⟨n, List.mem_range.2 hn, hr⟩
   ·have hcs : ∃ j ∈ csOf CS (n : Int), j ∉ out := by
     apply Classical.byContradiction
     intro hc
     apply hr
     have : (csOf CS (n : Int)).any (fun k => !decide (k ∈ out)) = false := by
      rw [List.any_eq_false]
      intro j hj
      have : j ∈ out := Classical.byContradiction fun h => hc ⟨j, hj, h⟩
      simp [this]
     simp [ready, ho, this]
    obtain ⟨j, hj, hjo⟩ := hcs
    obtain ⟨hj0, hjN⟩ := hrng _ j hj
    have hjn : ((j.toNat : Nat) : Int) = j := by omega
    refine ih j.toNat ?_ (by omega) (by rw [hjn]; exact hjo)
    have hsub : ∀ x ∈ reachOf CS N j, x ∈ (reachOf CS N (n : Int)).erase j := fun x hx => by
     have hxr := (reachOf_mem CS N j x hrng).1 hx
     have hne : x ≠ j := fun e => by
      subst e
      have := hno x.toNat (by omega)
      rw [hjn] at this
      exact this hx
     exact (List.mem_erase_of_ne hne).2 ((reachOf_mem CS N (n : Int) x hrng).2 (.step hj hxr))
    have hle := nodup_sub_len _ _ (reachOf_nodup CS N j) hsub
    have hjm : j ∈ reachOf CS N (n : Int) := (reachOf_mem CS N (n : Int) j hrng).2 (.one hj)
    rw [List.length_erase_of_mem hjm] at hle
    rw [hjn]; omega
 exact key _ n0 (qAr _) h0 h1
def IsLL (a : AV) (ls : List (List Int)) : Prop := ∃ es z r, a = .lst es z r /\ es.length = ls.length /\ ∀ (k : Nat) xs, ls[k]? = some xs -> ∃ z r, es[k]? = some (.lst (intL xs) z r)
theorem mapO_all {α β : Type} {f : α -> Option β} (P : Nat -> β -> Prop) : ∀ {l : List α}, (∀ (k : Nat) a, l[k]? = some a -> ∃ b, f a = some b /\ P k b) -> ∃ m, mapO f l = some m /\ m.length = l.length /\ ∀ (k : Nat) b, m[k]? = some b -> P k b
 | [], _ => ⟨[], rfl, rfl, fun k b h => by simp at h⟩
 | a :: r, h => by
  obtain ⟨b, hb, hp⟩ := h 0 a rfl
  obtain ⟨bs, h1, h2, h3⟩ := mapO_all (fun k b => P (k + 1) b) (l := r) (fun k x hx => h (k + 1) x (by simpa using hx))
  refine ⟨b :: bs, by rw [mapO_cons, hb, h1]; rfl, by simp [h2], fun k y hy => ?_⟩
  cases k with
  | zero => simp at hy; subst hy; exact hp
  | succ k => exact h3 k y (by simpa using hy)
theorem group_ones : ∀ {es : List AV}, (∀ e ∈ es, Rv.one e = e) -> group es.length es 1 = es
 | [], _ => rfl
 | e :: r, h => by
  have := group_ones (es := r) fun x hx => h x (qAk _ hx)
  simp only [qAv, group, beq_self_eq_true, if_true, List.headD_cons, List.drop_succ_cons, qBf, this, h e (qAi ..)]
theorem freeze_vv {H : Heap} {o n d N : Nat} {cap : Option Nat} {cells : List AV} {ls : List (List Int)} (hc : H.obj o 0 = some cells) (hl : cells.length = ls.length) (hN : ls.length = N) (hno : n <= o)
  (he : ∀ (k : Nat) v xs, cells[k]? = some v -> ls[k]? = some xs -> ∃ z r, freezeV H n (d + 2) v = some (.lst (intL xs) z r)) : ∃ a, freezeV H n (d + 3) (.msl o 0 N 1 0 cap) = some a /\ IsLL a ls := by
 obtain ⟨es, h1, h2, h3⟩ := mapO_all (f := freezeV H n (d + 2)) (l := cells) (fun k b => ∀ xs, ls[k]? = some xs -> ∃ z r, b = .lst (intL xs) z r) (fun k v hv => by
  have hk : k < ls.length := by rw [← hl]; exact (qAu.1 hv).1
  obtain ⟨z, r, h⟩ := he k v _ hv (qAs hk)
  refine ⟨_, h, fun xs hx => ?_⟩
  rw [qAs hk] at hx
  injection hx with hx
  subst hx
  exact ⟨z, r, rfl⟩)
 refine ⟨.lst es 1 .open, ?_, es, 1, .open, rfl, by omega, fun k xs hx => ?_⟩
 ·unfold freezeV
  simp only
  rw [if_neg (by omega), hc]
  have hlen : cells.length = N := by omega
  have hg : group N es 1 = es := by
   have := group_ones (es := es) fun e hm => by
    obtain ⟨k, hk, rfl⟩ := List.getElem_of_mem hm
    obtain ⟨z, r, h⟩ := h3 k _ (qAs hk) _ (qAs (by omega))
    rw [h]; rfl
   rw [show es.length = N from by omega] at this
   exact this
  simp only [qAd, qAe, qBg, Nat.mul_one, qBf, hlen, qAr, if_true, qBi (Nat.le_of_eq hlen), h1, hg]
 ·have hk : k < es.length := by have := (qAu.1 hx).1; omega
  obtain ⟨z, r, h⟩ := h3 k _ (qAs hk) xs hx
  exact ⟨z, r, by rw [qAs hk, h]⟩
theorem freeze_outs (h : Heap) (n d : Nat) : ∀ ls : List (List Int), mapO (freezeV h n (d + 2)) (ls.map outL) = some (ls.map outL)
 | [] => rfl
 | l :: r => by
  rw [qAm, mapO_cons, freeze_outs h n d r, outL, freeze_lint]; rfl
theorem isLL_outs (ls : List (List Int)) (z : Nat) (r : Room) : IsLL (.lst (ls.map outL) z r) ls := ⟨_, z, r, rfl, by simp, fun k xs hx => ⟨_, _, by rw [qBc, hx]; rfl⟩⟩
theorem freeze_built_outs {H : Heap} {v : AV} {ls : List (List Int)} {n d : Nat} (B : Built H v (ls.map outL) 1) (ho : ∀ o, objOf v = some o -> n <= o) : ∃ a, freezeV H n (d + 3) v = some a /\ IsLL a ls := by
 have hlf : Leaf1 (ls.map outL) := leaf_outs ls (fun x => x)
 rcases B with ⟨rfl, h2⟩ | ⟨o, g, cap, rfl, hob, _⟩
 ·have : ls = [] := List.map_eq_nil_iff.1 h2
  subst this
  exact ⟨.lst [] 0 .nil, rfl, [], 0, .nil, rfl, rfl, fun k xs hx => by simp at hx⟩
 ·refine ⟨.lst (ls.map outL) 1 .open, ?_, isLL_outs ls 1 .open⟩
  have hn := ho o rfl
  unfold freezeV
  simp only
  rw [if_neg (by omega), hob]
  have hg := group_leaf hlf
  simp only [qAd, qAe, qBg, Nat.mul_one, flatC_leaf hlf, qBf, qAr, if_true, List.take_length, freeze_outs, hg]
end
end Go.Proofs.Sx
