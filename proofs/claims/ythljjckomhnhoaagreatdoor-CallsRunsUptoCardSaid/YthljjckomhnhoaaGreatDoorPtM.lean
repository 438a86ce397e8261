/-
  package step: a step's registers ('reg', 'place', 'becomes', 'done').
-/
import Derived.Test.YthljjckomhnhoaaGreatDoorPtL
set_option linter.unusedSectionVars false
set_option linter.unusedSimpArgs false
set_option linter.unusedVariables false
set_option linter.defProp false
set_option maxHeartbeats 4000000
set_option maxHeartbeats 8000000
set_option maxRecDepth 100000
namespace Go.Proofs.Sx
open Go.Rv Go.Proofs
attribute [local congr] bind_left got_left
noncomputable section
def workC (s t o k g : Nat) (i : SIns) (tr : Bool) : List AV := [.ptr s 0 0, .int .i64 t, .ptr o k g, .int .u8 i.op, .int .i64 i.r, .int .i64 i.a, .int .i64 i.b, .int .i64 i.n, .lst (intL i.args) i.z i.room, .bool tr]
structure WV (H : Heap) (w s t : Nat) (f : SFrame) (i : SIns) (o k g oR gR : Nat) (cp : Option Nat) (c : List AV) : Prop where
 hw : H.obj w 0 = some (workC s t o k g i false)
 ho : H.obj o g = some c
 d1 : c.drop (k + 1) = .int .i64 f.pc :: c.drop (k + 2)
 d2 : c.drop (k + 2) = .msl oR 0 f.regs.length 1 gR cp :: c.drop (k + 3)
 hr : H.obj oR gR = some (intL f.regs)
 wo : w ≠ o
 wr : w ≠ oR
 ro : oR ≠ o
theorem WV.lw {H : Heap} {w s t : Nat} {f : SFrame} {i : SIns} {o k g oR gR : Nat} {cp : Option Nat} {c : List AV} (V : WV H w s t f i o k g oR gR cp c) : H.live w 0 = true := live_of V.hw
theorem WV.lo {H : Heap} {w s t : Nat} {f : SFrame} {i : SIns} {o k g oR gR : Nat} {cp : Option Nat} {c : List AV} (V : WV H w s t f i o k g oR gR cp c) : H.live o g = true := live_of V.ho
theorem WV.len {H : Heap} {w s t : Nat} {f : SFrame} {i : SIns} {o k g oR gR : Nat} {cp : Option Nat} {c : List AV} (V : WV H w s t f i o k g oR gR cp c) : k + 2 < c.length := by
 have := congrArg List.length V.d2
 simp only [List.length_drop, qAv] at this
 omega
theorem regs_drop {f : SFrame} {a : Int} (h0 : 0 <= a) (h1 : a < f.regs.length) : (intL f.regs).drop a.toNat = .int .i64 (regV f a) :: (intL f.regs).drop (a.toNat + 1) := by
 have : a.toNat < f.regs.length := by omega
 rw [qBs (by simp [intL]; exact this)]
 simp [intL, regV, this]
theorem regs_idx {H : Heap} {oR gR n : Nat} {cp : Option Nat} {cs : List AV} (h : H.obj oR gR = some cs) {a : Int} (h0 : 0 <= a) (h1 : a < n) : indexAddrA cfg H 66 (.msl oR 0 n 1 gR cp) (.int .i64 a) = some (.ptr oR a.toNat gR) := by
 have : ¬ a < 0 := by omega
 simp [indexAddrA, ty66, ty2, live_of h, this]
 omega
theorem obj_sets {H : Heap} {o g : Nat} {cs cs' : List AV} (ho : H.obj o g = some cs) (g' : Nat) : Heap.obj (List.set H o (.cells cs' g')) o g' = some cs' := by
 have := obj_some ho
 simp [Heap.obj, this]
theorem obj_setn {H : Heap} {o p g : Nat} (x : AObj) (hn : o ≠ p) : Heap.obj (List.set H p x) o g = Heap.obj H o g := by
 simp [Heap.obj, qAw (Ne.symm hn)]
theorem live_setn {H : Heap} {o p g : Nat} (x : AObj) (hn : o ≠ p) : Heap.live (List.set H p x) o g = Heap.live H o g := by
 simp [Heap.live, obj_setn x hn]
theorem store1 {H : Heap} {ty : Nat} {td : TD} {b : Nat} {z : List AV} {o off g : Nat} {cs : List AV} {v : AV} (ht : cfg.ty ty = some ⟨td, 1, b, z⟩) (ho : H.obj o g = some cs) (hl : off < cs.length) (hv : v.cells = [v]) (hf : v.leaf = true) :
  storeA cfg H ty (.ptr o off g) v = some (H.set o (.cells (cs.set off v) g)) := by
 have : off + 1 <= cs.length := hl
 simp [storeA, ht, ho, hv, hf, setCells, this]
theorem pu102 : cfg.pure 102 = true := rfl
instance t102 {d : Option Nat} : TightD cfg 102 d := ⟨fun _ _ => rfl⟩
def B102 (p : List Bool) := cA p Tryz.f102.body
def R102 (p : List Bool) (i : Nat) := Code.region i (cA p Tryz.f102.body) false
theorem F102 : (∀ p i, XR cfg 102 (R102 p i) (B102 p) (cA p Tryz.f102.body).toList i false) /\ RE cfg 102 [0, 1, 4] /\ cfg.pure 102 = true := ⟨fun _ _ => xr rfl rfl, rE fun _ => rfl, rfl⟩
def k102 : Code := (.seq (R102 [ff] 0) (.seq (R102 [tt, ff] 1) .ret))
theorem call102 (x0 x1 : AV) (h : Heap) : call cfg 102 [x0, x1] h = (exec cfg 102 k102 [(0, x0), (1, x1)] h).bind (callEnd cfg 102 h [.tmp 4]) := call_at2 (fnat Tryz.func102 (b := k102) (by kernel_rfl) (by kernel_rfl)) rfl rfl
theorem pu106 : cfg.pure 106 = true := rfl
instance t106 {d : Option Nat} : TightD cfg 106 d := ⟨fun _ _ => rfl⟩
def B106 (p : List Bool) := cA p Tryz.f106.body
def R106 (p : List Bool) (i : Nat) := Code.region i (cA p Tryz.f106.body) false
theorem F106 : (∀ p i, XR cfg 106 (R106 p i) (B106 p) (cA p Tryz.f106.body).toList i false) /\ RE cfg 106 [0, 2, 8] /\ cfg.pure 106 = true := ⟨fun _ _ => xr rfl rfl, rE fun _ => rfl, rfl⟩
def k106 : Code := (.seq (R106 [ff] 0) (.seq (.seq (R106 [tt, ff, ff] 1) (.cond (.tmp 8) (.seq (R106 [tt, ff, tt, ff, ff] 2) .ret) .skip)) (.seq (R106 [tt, tt, ff] 3) .ret)))
theorem call106 (x0 : AV) (h : Heap) : call cfg 106 [x0] h = (exec cfg 106 k106 [(0, x0)] h).bind (callEnd cfg 106 h [.tmp 2]) := call_at2 (fnat Tryz.func106 (b := k106) (by kernel_rfl) (by kernel_rfl)) rfl rfl
theorem pu101 : cfg.pure 101 = false := rfl
instance t101 {d : Option Nat} : TightD cfg 101 d := ⟨fun _ _ => rfl⟩
def B101 (p : List Bool) := cA p Tryz.f101.body
def R101 (p : List Bool) (i : Nat) := Code.region i (cA p Tryz.f101.body) false
def D101 (p : List Bool) (i : Nat) := Code.region i (cA p Tryz.f101.body) true
theorem F101 : (∀ p i, XR cfg 101 (R101 p i) (B101 p) (cA p Tryz.f101.body).toList i false) /\ XR cfg 101 (D101 [tt, ff] 2) (B101 [tt, ff]) ((cA [tt, ff] Tryz.f101.body).toList) 2 true /\ RE cfg 101 [0, 1, 2, 7] /\ cfg.pure 101 = false := ⟨fun _ _ => xr rfl rfl, xd (by kernel_rfl) rfl rfl, rE fun _ => rfl, rfl⟩
def k101 : Code := (.seq (.seq (R101 [ff, ff] 0) (.cond (.tmp 7) (.seq (R101 [ff, tt, ff, ff] 1) .ret) .skip)) (.seq (D101 [tt, ff] 2) (R101 [tt, tt] 3)))
theorem call101 (x0 x1 x2 : AV) (h : Heap) : call cfg 101 [x0, x1, x2] h = (exec cfg 101 k101 [(0, x0), (1, x1), (2, x2)] h).bind (callEnd cfg 101 h []) := call_at2 (fnat Tryz.func101 (b := k101) (by kernel_rfl) (by kernel_rfl)) rfl rfl
theorem pu107 : cfg.pure 107 = false := rfl
instance t107 {d : Option Nat} : TightD cfg 107 d := ⟨fun _ _ => rfl⟩
def B107 (p : List Bool) := cA p Tryz.f107.body
def R107 (p : List Bool) (i : Nat) := Code.region i (cA p Tryz.f107.body) false
theorem F107 : (∀ p i, XR cfg 107 (R107 p i) (B107 p) (cA p Tryz.f107.body).toList i false) /\ RE cfg 107 [0, 1, 5] /\ cfg.pure 107 = false := ⟨fun _ _ => xr rfl rfl, rE fun _ => rfl, rfl⟩
def k107 : Code := (.seq (.seq (R107 [ff, ff] 0) (.cond (.tmp 5) (.seq (R107 [ff, tt, ff, ff] 1) .ret) .skip)) (R107 [tt] 2))
theorem call107 (x0 x1 : AV) (h : Heap) : call cfg 107 [x0, x1] h = (exec cfg 107 k107 [(0, x0), (1, x1)] h).bind (callEnd cfg 107 h []) := call_at2 (fnat Tryz.func107 (b := k107) (by kernel_rfl) (by kernel_rfl)) rfl rfl
section
variable {H : Heap} {w s t : Nat} {f : SFrame} {i : SIns} {o k g oR gR : Nat} {cp : Option Nat} {c : List AV} (V : WV H w s t f i o k g oR gR cp c)
include V
theorem reg_eq {a : Int} (h0 : 0 <= a) (h1 : a < f.regs.length) : call cfg 102 [.ptr w 0 0, .int .i64 a] H = some (.ret (.int .i64 (regV f a)), H) := by
 rw [call102]
 have hw := V.hw
 have hlw := V.lw
 have hlo := V.lo
 simp only [workC] at hw
 simp only [F102, k102, Tryz.f102, sxAll, cA, Env.keep, qt_eq, resultsA, packA, fieldAddrA, Rv.part, TD.isAgg, ↓qAe, ↓qAh, Nat.reduceBEq, Nat.reduceAdd, ↓reduceIte, load_ptr, hw, hlw, hlo, V.ho, V.d2, V.hr, regs_idx V.hr h0 h1, regs_drop h0 h1, ty106, ty71, ty74, ty66, ty2]
 exact leave_kept rfl rfl
theorem place_eq (h0 : i.a = -1 ∨ 0 <= i.a /\ i.a < f.regs.length) : call cfg 106 [.ptr w 0 0] H = some (.ret (.int .i64 (placeOf f i)), H) := by
 rw [call106]
 have hw := V.hw
 have hlw := V.lw
 simp only [workC] at hw
 by_cases h1 : i.a = -1
 ·have e1 : (i.a == -1) = true := by simp [h1]
  simp only [F106, k106, Tryz.f106, sxAll, cA, arithA, Env.keep, qt_eq, resultsA, packA, fieldAddrA, Rv.part, TD.isAgg, ↓qAe, Nat.reduceBEq, Nat.reduceAdd, ↓reduceIte, load_ptr, hw, hlw, ty106, ty41, ty3, placeOf, h1]
  exact leave_kept rfl rfl
 ·obtain ⟨h2, h3⟩ := h0.resolve_left h1
  have e1 : (i.a == -1) = false := by simp [h1]
  simp only [F106, k106, Tryz.f106, sxAll, cA, arithA, Env.keep, qt_eq, resultsA, packA, fieldAddrA, Rv.part, TD.isAgg, mapO, ↓qAe, Nat.reduceBEq, Nat.reduceAdd, ↓reduceIte, load_ptr, hw, hlw, e1, ty106, ty41, ty3, placeOf, h1, reg_eq V h2 h3, pu102]
  exact leave_kept rfl rfl
theorem becomes_eq {v : Int} (h0 : 0 <= i.r) (h1 : i.r < f.regs.length) (hpc : f.pc < 1000000) : call cfg 101 [.ptr w 0 0, .int .i64 v, .bool true] H =
  some (.ret (.tup []), (H.set oR (.cells (intL (f.regs.set i.r.toNat v)) gR)).set o (.cells (c.set (k + 1) (.int .i64 ((f.pc + 1 : Nat) : Int))) g)) := by
 rw [call101]
 have hw := V.hw
 have hlw := V.lw
 have hlo := V.lo
 simp only [workC] at hw
 have hL := V.len
 have hst := store1 (v := .int .i64 v) ty2 V.hr (off := i.r.toNat) (by simp [intL]; omega) rfl rfl
 rw [show (intL f.regs).set i.r.toNat (.int .i64 v) = intL (f.regs.set i.r.toNat v) by simp [intL]] at hst
 have hw1 := obj_setn (H := H) (g := 0) (.cells (intL (f.regs.set i.r.toNat v)) gR) V.wr
 have ho1 := obj_setn (H := H) (g := g) (.cells (intL (f.regs.set i.r.toNat v)) gR) (Ne.symm V.ro)
 have hlw1 := live_setn (H := H) (g := 0) (.cells (intL (f.regs.set i.r.toNat v)) gR) V.wr
 have hlo1 := live_setn (H := H) (g := g) (.cells (intL (f.regs.set i.r.toNat v)) gR) (Ne.symm V.ro)
 have hst2 := store1 (v := .int .i64 ((f.pc + 1 : Nat) : Int)) ty3 (ho1.trans V.ho) (off := k + 1) (by omega) rfl rfl
 have hwr := wrap_succ (i := f.pc) (by omega)
 simp only [F101, k101, Tryz.f101, sxAll, cA, arithA, Env.keep, qt_eq, resultsA, packA, unA, fieldAddrA, Rv.part, TD.isAgg, ↓qAe, ↓qAh, Nat.reduceBEq, Nat.reduceAdd, ↓reduceIte, load_ptr, hw, hlw, hlo, V.ho, V.d1, V.d2, regs_idx V.hr h0 h1, hst, hw1, ho1, hlw1, hlo1, hwr, hst2, ty106, ty41, ty71, ty74, ty66, ty3]
 exact leave_impure pu101
theorem becomes_no {v : Int} : call cfg 101 [.ptr w 0 0, .int .i64 v, .bool false] H = some (.ret (.tup []), H.set w (.cells (workC s t o k g i true) 0)) := by
 rw [call101]
 have hw := V.hw
 have hlw := V.lw
 simp only [workC] at hw ⊢
 simp only [F101, k101, Tryz.f101, sxAll, cA, Env.keep, resultsA, packA, storeA, unA, fieldAddrA, setCells, ↓qAe, Nat.reduceBEq, Nat.reduceAdd, Nat.reduceLeDiff, ↓reduceIte, hw, hlw, ty106, ty4]
 exact leave_impure pu101
theorem done_eq (hpc : f.pc < 1000000) : call cfg 107 [.ptr w 0 0, .int .i64 0] H = some (.ret (.tup []), H.set o (.cells (c.set (k + 1) (.int .i64 ((f.pc + 1 : Nat) : Int))) g)) := by
 rw [call107]
 have hw := V.hw
 have hlw := V.lw
 have hlo := V.lo
 simp only [workC] at hw
 have hL := V.len
 have hst2 := store1 (v := .int .i64 ((f.pc + 1 : Nat) : Int)) ty3 V.ho (off := k + 1) (by omega) rfl rfl
 have hwr := wrap_succ (i := f.pc) (by omega)
 simp only [F107, k107, Tryz.f107, sxAll, cA, arithA, Env.keep, qt_eq, resultsA, packA, fieldAddrA, Rv.part, TD.isAgg, ↓qAe, ↓qAh, Nat.reduceBEq, Nat.reduceAdd, bne, ↓reduceIte, load_ptr, hw, hlw, hlo, V.ho, V.d1, hwr, hst2, ty106, ty71, ty74, ty3]
 exact leave_impure pu107
theorem done_no {e : Int} (he : e ≠ 0) : call cfg 107 [.ptr w 0 0, .int .i64 e] H = some (.ret (.tup []), H.set w (.cells (workC s t o k g i true) 0)) := by
 rw [call107]
 have hw := V.hw
 have hlw := V.lw
 have e1 : (e == 0) = false := by simp [he]
 simp only [workC] at hw ⊢
 simp only [F107, k107, Tryz.f107, sxAll, cA, arithA, Env.keep, resultsA, packA, storeA, fieldAddrA, setCells, ↓qAe, Nat.reduceBEq, Nat.reduceAdd, Nat.reduceLeDiff, bne, ↓reduceIte, hw, hlw, e1, ty106, ty4]
 exact leave_impure pu107
end
end
end Go.Proofs.Sx
namespace Go.Proofs.Sx
open Go.Rv Go.Proofs
attribute [local congr] bind_left got_left
noncomputable section
theorem ptr_eq_nil {H : Heap} {t n b : Nat} {z : List AV} {o k g : Nat} (ht : cfg.ty t = some ⟨.ptr, n, b, z⟩) (hl : H.live o g = true) : binA cfg H .eql t (.ptr o k g) .nilPtr = some (.bool false) := by
 simp [binA, ht, eqC, eqA, hl]
theorem ptr_ne_nil {H : Heap} {t n b : Nat} {z : List AV} {o k g : Nat} (ht : cfg.ty t = some ⟨.ptr, n, b, z⟩) (hl : H.live o g = true) : binA cfg H .neq t (.ptr o k g) .nilPtr = some (.bool true) := by
 simp [binA, ht, eqC, eqA, hl]
theorem nil_eq_nil {H : Heap} {t n b : Nat} {z : List AV} (ht : cfg.ty t = some ⟨.ptr, n, b, z⟩) : binA cfg H .eql t .nilPtr .nilPtr = some (.bool true) := by
 simp [binA, ht, eqC, eqA]
theorem nil_ne_nil {H : Heap} {t n b : Nat} {z : List AV} (ht : cfg.ty t = some ⟨.ptr, n, b, z⟩) : binA cfg H .neq t .nilPtr .nilPtr = some (.bool false) := by
 simp [binA, ht, eqC, eqA]
theorem findA_held (l : Int) : ∀ hs : List (Int × Int), findA (.int .i64 l) (heldA hs) = some ((whoHas hs l).map (AV.int .i64))
 | [] => rfl
 | x :: r => by
  have := findA_held l r
  simp only [heldA] at this
  simp only [heldA, qAm, findA, sameK, sameKey, beq_self_eq_true, if_true, qAd, qAe, whoHas, this]
  by_cases h : l = x.1
  ·simp [h]
  ·simp [h]
theorem putA_held (l w : Int) : ∀ hs : List (Int × Int), whoHas hs l = none -> putA (.int .i64 l) (.int .i64 w) (heldA hs) = some (heldA (hs ++ [(l, w)]))
 | [], _ => rfl
 | x :: r, h => by
  by_cases hx : l = x.1
  ·simp [whoHas, hx] at h
  ·simp only [whoHas, if_neg hx] at h
   have := putA_held l w r h
   simp only [heldA] at this
   have e : (l == x.1) = false := by simp [hx]
   simp only [heldA, qAm, qBr, putA, sameK, sameKey, beq_self_eq_true, if_true, qAd, qAe, this, e, qAb, if_false, qAo]
theorem eraseA_held (l : Int) : ∀ hs : List (Int × Int), eraseA (.int .i64 l) (heldA hs) = some (heldA (letGo hs l))
 | [] => rfl
 | x :: r => by
  have := eraseA_held l r
  simp only [heldA] at this
  by_cases hx : l = x.1
  ·simp [heldA, eraseA, sameK, sameKey, letGo, hx]
  ·have e : (l == x.1) = false := by simp [hx]
   simp only [heldA, qAm, eraseA, sameK, sameKey, beq_self_eq_true, if_true, qAd, qAe, this, e, qAb, if_false, qAo, letGo, if_neg hx]
theorem lookup_held {H : Heap} {mp : Nat} {hs : List (Int × Int)} (h : H[mp]? = some (.map (heldA hs))) (l : Int) : lookupA cfg H 86 (.map mp) (.int .i64 l) true = some (.tup [.int .i64 ((whoHas hs l).getD 0), .bool (whoHas hs l).isSome]) := by
 simp only [lookupA, ty86, ty3, keyTd, Bool.not_true, qAb, if_false, Heap.ents, Heap.mapAt, h, findA_held, qAd, qAe, Rv.part, TD.isAgg, List.head?_cons]
 cases whoHas hs l <;> rfl
theorem update_held {H : Heap} {mp : Nat} {hs : List (Int × Int)} (h : H[mp]? = some (.map (heldA hs))) {l : Int} (hn : whoHas hs l = none) (w : Int) : updateA cfg H 86 (.map mp) (.int .i64 l) (.int .i64 w) = some (H.set mp (.map (heldA (hs ++ [(l, w)])))) := by
 simp only [updateA, ty86, ty3, keyTd, Bool.not_true, qAb, if_false, Heap.mapAt, h, putA_held l w hs hn, qAd, qAe]
theorem delete_held {H : Heap} {mp : Nat} {hs : List (Int × Int)} (h : H[mp]? = some (.map (heldA hs))) (l : Int) (u : Nat) : moreA cfg H .delete [86, u] [.map mp, .int .i64 l] = some (.tup [], H.set mp (.map (heldA (letGo hs l)))) := by
 simp only [moreA, ty86, ty3, keyTd, Bool.not_true, qAb, if_false, Heap.mapAt, h, eraseA_held, qAd, qAe]
theorem pu70 : cfg.pure 70 = true := rfl
instance t70 {d : Option Nat} : TightD cfg 70 d := ⟨fun _ _ => rfl⟩
def B70 (p : List Bool) := cA p Tryz.f70.body
def R70 (p : List Bool) (i : Nat) := Code.region i (cA p Tryz.f70.body) false
theorem F70 : (∀ p i, XR cfg 70 (R70 p i) (B70 p) (cA p Tryz.f70.body).toList i false) /\ RE cfg 70 [0, 1, 4, 5, 6, 7, 9] /\ cfg.pure 70 = true := ⟨fun _ _ => xr rfl rfl, rE fun _ => rfl, rfl⟩
def k70 : Code := (.seq (R70 [ff] 0) (.seq (.seq (R70 [tt, ff, ff] 1) (.cond (.tmp 9) (.seq (R70 [tt, ff, tt, ff, ff] 2) .ret) .skip)) (.seq (R70 [tt, tt, ff] 3) (.seq (R70 [tt, tt, tt, ff] 4) .ret))))
theorem call70 (x0 x1 : AV) (h : Heap) : call cfg 70 [x0, x1] h = (exec cfg 70 k70 [(0, x0), (1, x1)] h).bind (callEnd cfg 70 h [.tmp 4, .tmp 5]) := call_at2 (fnat Tryz.func70 (b := k70) (by kernel_rfl) (by kernel_rfl)) rfl rfl
theorem pu137 : cfg.pure 137 = true := rfl
instance t137 {d : Option Nat} : TightD cfg 137 d := ⟨fun _ _ => rfl⟩
def B137 (p : List Bool) := cA p Tryz.f137.body
def R137 (p : List Bool) (i : Nat) := Code.region i (cA p Tryz.f137.body) false
theorem F137 : (∀ p i, XR cfg 137 (R137 p i) (B137 p) (cA p Tryz.f137.body).toList i false) /\ GO cfg 137 (B137 [tt, ff, ff, tt, tt, ff]) 2 11 /\ RE cfg 137 [0, 1, 4, 5, 8] /\ cfg.pure 137 = true := ⟨fun _ _ => xr rfl rfl, gO (by kernel_rfl), rE fun _ => rfl, rfl⟩
def k137 : Code := (.seq (R137 [ff] 0) (.seq (.block 0 (.seq (R137 [tt, ff, ff, ff] 1) (.cond (.tmp 5) (.seq (R137 [tt, ff, ff, tt, ff, ff] 2) .ret) (.seq (R137 [tt, ff, ff, tt, tt, ff] 3) (.cond (.tmp 8) (.seq (R137 [tt, ff, ff, tt, tt, tt, ff, ff] 4) .ret) .skip))))) (.seq (R137 [tt, tt, ff] 5) .ret)))
theorem call137 (x0 x1 : AV) (h : Heap) : call cfg 137 [x0, x1] h = (exec cfg 137 k137 [(0, x0), (1, x1)] h).bind (callEnd cfg 137 h [.tmp 4]) := call_at2 (fnat Tryz.func137 (b := k137) (by kernel_rfl) (by kernel_rfl)) rfl rfl
theorem pu109 : cfg.pure 109 = false := rfl
instance t109 {d : Option Nat} : TightD cfg 109 d := ⟨fun _ _ => rfl⟩
def B109 (p : List Bool) := cA p Tryz.f109.body
def R109 (p : List Bool) (i : Nat) := Code.region i (cA p Tryz.f109.body) false
theorem F109 : (∀ p i, XR cfg 109 (R109 p i) (B109 p) (cA p Tryz.f109.body).toList i false) /\ RE cfg 109 [0, 1, 2, 6, 7, 9, 14, 25] /\ cfg.pure 109 = false := ⟨fun _ _ => xr rfl rfl, rE fun _ => rfl, rfl⟩
def k109 : Code := (.seq (R109 [ff] 0) (.seq (.seq (R109 [tt, ff, ff] 1) (.seq (R109 [tt, ff, tt, ff] 2) (.cond (.tmp 14) (.seq (R109 [tt, ff, tt, tt, ff, ff] 3) .ret) .skip))) (.seq (.seq (R109 [tt, tt, ff, ff] 4) (.seq (R109 [tt, tt, ff, tt, ff] 5) (.cond (.tmp 25) (.seq (R109 [tt, tt, ff, tt, tt, ff, ff] 6) .ret) .skip))) (.seq (R109 [tt, tt, tt, ff] 7) (.seq (R109 [tt, tt, tt, tt, ff] 8) .ret)))))
theorem call109 (x0 x1 x2 : AV) (h : Heap) : call cfg 109 [x0, x1, x2] h = (exec cfg 109 k109 [(0, x0), (1, x1), (2, x2)] h).bind (callEnd cfg 109 h [.tmp 6]) := call_at2 (fnat Tryz.func109 (b := k109) (by kernel_rfl) (by kernel_rfl)) rfl rfl
theorem pu110 : cfg.pure 110 = false := rfl
instance t110 {d : Option Nat} : TightD cfg 110 d := ⟨fun _ _ => rfl⟩
def B110 (p : List Bool) := cA p Tryz.f110.body
def R110 (p : List Bool) (i : Nat) := Code.region i (cA p Tryz.f110.body) false
theorem F110 : (∀ p i, XR cfg 110 (R110 p i) (B110 p) (cA p Tryz.f110.body).toList i false) /\ GO cfg 110 (B110 [tt, tt, ff, tt, ff]) 2 27 /\ RE cfg 110 [0, 1, 2, 6, 7, 8, 9, 14, 31] /\ cfg.pure 110 = false := ⟨fun _ _ => xr rfl rfl, gO (by kernel_rfl), rE fun _ => rfl, rfl⟩
def k110 : Code := (.seq (R110 [ff] 0) (.seq (.seq (R110 [tt, ff, ff] 1) (.seq (R110 [tt, ff, tt, ff] 2) (.cond (.tmp 14) (.seq (R110 [tt, ff, tt, tt, ff, ff] 3) .ret) .skip))) (.seq (.seq (R110 [tt, tt, ff, ff] 4) (.seq (R110 [tt, tt, ff, tt, ff] 5) (.cond (.tmp 31) (.seq (R110 [tt, tt, ff, tt, tt, ff, ff] 6) .ret) .skip))) (.seq (R110 [tt, tt, tt, ff] 7) (.seq (R110 [tt, tt, tt, tt, ff] 8) .ret)))))
theorem call110 (x0 x1 x2 : AV) (h : Heap) : call cfg 110 [x0, x1, x2] h = (exec cfg 110 k110 [(0, x0), (1, x1), (2, x2)] h).bind (callEnd cfg 110 h [.tmp 6]) := call_at2 (fnat Tryz.func110 (b := k110) (by kernel_rfl) (by kernel_rfl)) rfl rfl
theorem pu136 : cfg.pure 136 = true := rfl
instance t136 {d : Option Nat} : TightD cfg 136 d := ⟨fun _ _ => rfl⟩
def B136 (p : List Bool) := cA p Tryz.f136.body
def R136 (p : List Bool) (i : Nat) := Code.region i (cA p Tryz.f136.body) false
theorem F136 : (∀ p i, XR cfg 136 (R136 p i) (B136 p) (cA p Tryz.f136.body).toList i false) /\ GO cfg 136 (B136 [tt, ff, ff, tt, tt, ff]) 2 14 /\ GO cfg 136 (B136 [tt, ff, ff, tt, tt, tt, tt, ff]) 2 26 /\ RE cfg 136 [0, 1, 2, 6, 7, 8, 11, 23] /\ cfg.pure 136 = true := ⟨fun _ _ => xr rfl rfl, gO (by kernel_rfl), gO (by kernel_rfl), rE fun _ => rfl, rfl⟩
def k136 : Code := (.seq (R136 [ff] 0) (.seq (.block 0 (.seq (R136 [tt, ff, ff, ff] 1) (.cond (.tmp 8) (.seq (R136 [tt, ff, ff, tt, ff, ff] 2) .ret) (.seq (R136 [tt, ff, ff, tt, tt, ff] 3) (.cond (.tmp 11) (.seq (R136 [tt, ff, ff, tt, tt, tt, ff, ff] 4) .ret) (.seq (R136 [tt, ff, ff, tt, tt, tt, tt, ff] 5) (.cond (.tmp 23) (.seq (R136 [tt, ff, ff, tt, tt, tt, tt, tt, ff, ff] 6) .ret) .skip))))))) (.seq (R136 [tt, tt, ff] 7) .ret)))
theorem call136 (x0 x1 x2 : AV) (h : Heap) : call cfg 136 [x0, x1, x2] h = (exec cfg 136 k136 [(0, x0), (1, x1), (2, x2)] h).bind (callEnd cfg 136 h [.tmp 6, .tmp 7]) := call_at2 (fnat Tryz.func136 (b := k136) (by kernel_rfl) (by kernel_rfl)) rfl rfl
theorem pu105 : cfg.pure 105 = true := rfl
instance t105 {d : Option Nat} : TightD cfg 105 d := ⟨fun _ _ => rfl⟩
def B105 (p : List Bool) := cA p Tryz.f105.body
def R105 (p : List Bool) (i : Nat) := Code.region i (cA p Tryz.f105.body) false
theorem F105 : (∀ p i, XR cfg 105 (R105 p i) (B105 p) (cA p Tryz.f105.body).toList i false) /\ RE cfg 105 [0, 1, 2, 6, 7, 8, 9, 18] /\ cfg.pure 105 = true := ⟨fun _ _ => xr rfl rfl, rE fun _ => rfl, rfl⟩
def k105 : Code := (.seq (R105 [ff] 0) (.seq (R105 [tt, ff] 1) (.seq (.seq (R105 [tt, tt, ff, ff] 2) (.cond (.tmp 18) (.seq (R105 [tt, tt, ff, tt, ff, ff] 3) .ret) .skip)) (.seq (R105 [tt, tt, tt, ff] 4) .ret))))
theorem call105 (x0 x1 x2 : AV) (h : Heap) : call cfg 105 [x0, x1, x2] h = (exec cfg 105 k105 [(0, x0), (1, x1), (2, x2)] h).bind (callEnd cfg 105 h [.tmp 6, .tmp 7]) := call_at2 (fnat Tryz.func105 (b := k105) (by kernel_rfl) (by kernel_rfl)) rfl rfl
theorem pu108 : cfg.pure 108 = false := rfl
instance t108 {d : Option Nat} : TightD cfg 108 d := ⟨fun _ _ => rfl⟩
def B108 (p : List Bool) := cA p Tryz.f108.body
def R108 (p : List Bool) (i : Nat) := Code.region i (cA p Tryz.f108.body) false
theorem F108 : (∀ p i, XR cfg 108 (R108 p i) (B108 p) (cA p Tryz.f108.body).toList i false) /\ RE cfg 108 [0, 1, 2, 3, 8, 9, 10, 19] /\ cfg.pure 108 = false := ⟨fun _ _ => xr rfl rfl, rE fun _ => rfl, rfl⟩
def k108 : Code := (.seq (R108 [ff] 0) (.seq (R108 [tt, ff] 1) (.seq (.seq (R108 [tt, tt, ff, ff] 2) (.cond (.tmp 19) (R108 [tt, tt, ff, tt, ff] 3) .skip)) (.seq (R108 [tt, tt, tt, ff] 4) .ret))))
theorem call108 (x0 x1 x2 x3 : AV) (h : Heap) : call cfg 108 [x0, x1, x2, x3] h = (exec cfg 108 k108 [(0, x0), (1, x1), (2, x2), (3, x3)] h).bind (callEnd cfg 108 h [.tmp 8]) := call_at2 (fnat Tryz.func108 (b := k108) (by kernel_rfl) (by kernel_rfl)) rfl rfl
section
variable {H : Heap} {m mp : Nat} {cv : AV} {n : Int} {hs : List (Int × Int)} (hm : H.obj m 0 = some [cv, .int .i64 n, .map mp]) (hh : H[mp]? = some (.map (heldA hs)))
include hm
theorem memLock_eq (l : Int) : call cfg 137 [.ptr m 0 0, .int .i64 l] H = some (.ret (.int .i64 (if l < 0 ∨ n <= l then 1 else 0)), H) := by
 rw [call137]
 have hl := live_of hm
 have e0 := ptr_eq_nil (H := H) (k := 0) ty61 hl
 by_cases h1 : l < 0
 ·have e1 : (if l < 0 ∨ n <= l then (1 : Int) else 0) = 1 := by simp [h1]
  simp only [F137, k137, Tryz.f137, sxAll, cA, arithA, Env.keep, resultsA, packA, ↓qAe, Nat.reduceBEq, ↓reduceIte, e0, h1]
  exact leave_kept rfl rfl
 ·by_cases h2 : l >= n
  ·have e1 : (if l < 0 ∨ n <= l then (1 : Int) else 0) = 1 := by simp [show n <= l from h2]
   simp only [F137, k137, Tryz.f137, sxAll, cA, arithA, Env.keep, qt_eq, resultsA, packA, fieldAddrA, Rv.part, TD.isAgg, ↓qAe, Nat.reduceBEq, Nat.reduceAdd, ↓reduceIte, load_ptr, hm, hl, e0, h1, h2, ty94, ty3]
   exact leave_kept rfl rfl
  ·have e1 : (if l < 0 ∨ n <= l then (1 : Int) else 0) = 0 := by simp only [ge_iff_le] at h2; simp [h1, h2]
   simp only [F137, k137, Tryz.f137, sxAll, cA, arithA, Env.keep, qt_eq, resultsA, packA, fieldAddrA, Rv.part, TD.isAgg, ↓qAe, Nat.reduceBEq, Nat.reduceAdd, ↓reduceIte, load_ptr, hm, hl, e0, h1, h2, ty94, ty3]
   exact leave_kept rfl rfl
include hh
theorem memHolder_eq (l : Int) : call cfg 70 [.ptr m 0 0, .int .i64 l] H = some (.ret (.tup [.int .i64 ((whoHas hs l).getD 0), .bool (whoHas hs l).isSome]), H) := by
 rw [call70]
 have hl := live_of hm
 have e0 := ptr_eq_nil (H := H) (k := 0) ty61 hl
 have e2 := lookup_held hh l
 simp only [F70, k70, Tryz.f70, sxAll, cA, Env.keep, qt_eq, resultsA, packA, fieldAddrA, Rv.part, TD.isAgg, ↓qAe, Nat.reduceBEq, Nat.reduceAdd, ↓reduceIte, load_ptr, hm, hl, e0, e2, ty94, ty86, known_map]
 exact leave_kept rfl rfl
theorem memTake_eq {l : Int} (h0 : 0 <= l) (h1 : l < n) (w : Int) : call cfg 109 [.ptr m 0 0, .int .i64 l, .int .i64 w] H =
  if (whoHas hs l).isNone then some (.ret (.int .i64 0), H.set mp (.map (heldA (hs ++ [(l, w)])))) else some (.ret (.int .i64 6), H) := by
 rw [call109]
 have hl := live_of hm
 have e1 : (if l < 0 ∨ n <= l then (1 : Int) else 0) = 0 := by rw [if_neg (by omega)]
 have e3 := memLock_eq hm l
 rw [e1] at e3
 have e2 := lookup_held hh l
 cases hw : whoHas hs l with
 | none =>
  rw [hw] at e2
  have e4 := update_held hh hw w
  simp only [F109, k109, Tryz.f109, sxAll, cA, arithA, Env.keep, qt_eq, resultsA, packA, fieldAddrA, Rv.part, TD.isAgg, mapO, ↓qAe, Nat.reduceBEq, Nat.reduceAdd, bne, ↓reduceIte, load_ptr, hm, hl, e2, e3, e4, pu137, ty94, ty86, known_map, Option.isNone_none]
  exact leave_impure pu109
 | some x =>
  rw [hw] at e2
  simp only [F109, k109, Tryz.f109, sxAll, cA, arithA, Env.keep, qt_eq, resultsA, packA, fieldAddrA, Rv.part, TD.isAgg, mapO, ↓qAe, Nat.reduceBEq, Nat.reduceAdd, bne, ↓reduceIte, load_ptr, hm, hl, e2, e3, pu137, ty94, ty86, known_map, Option.isNone_some]
  exact leave_impure pu109
theorem memGive_eq {l : Int} (h0 : 0 <= l) (h1 : l < n) (w : Int) : call cfg 110 [.ptr m 0 0, .int .i64 l, .int .i64 w] H =
  if whoHas hs l = some w then some (.ret (.int .i64 0), H.set mp (.map (heldA (letGo hs l)))) else some (.ret (.int .i64 69), H) := by
 rw [call110]
 have hl := live_of hm
 have e1 : (if l < 0 ∨ n <= l then (1 : Int) else 0) = 0 := by rw [if_neg (by omega)]
 have e3 := memLock_eq hm l
 rw [e1] at e3
 have e2 := lookup_held hh l
 cases hw : whoHas hs l with
 | none =>
  rw [hw] at e2
  simp only [F110, k110, Tryz.f110, sxAll, cA, arithA, Env.keep, qt_eq, resultsA, packA, unA, fieldAddrA, Rv.part, TD.isAgg, mapO, ↓qAe, Nat.reduceBEq, Nat.reduceAdd, bne, ↓reduceIte, load_ptr, hm, hl, e2, e3, pu137, ty94, ty86, known_map, reduceCtorEq]
  exact leave_impure pu110
 | some x =>
  rw [hw] at e2
  by_cases hx : x = w
  ·subst hx
   have e4 := delete_held hh l 3
   simp only [F110, k110, Tryz.f110, sxAll, cA, arithA, Env.keep, qt_eq, resultsA, packA, unA, fieldAddrA, Rv.part, TD.isAgg, mapO, ↓qAe, Nat.reduceBEq, Nat.reduceAdd, bne, ↓reduceIte, load_ptr, hm, hl, e2, e3, e4, pu137, ty94, ty86, known_map]
   exact leave_impure pu110
  ·have hx' : (x == w) = false := by simp [hx]
   simp only [F110, k110, Tryz.f110, sxAll, cA, arithA, Env.keep, qt_eq, resultsA, packA, unA, fieldAddrA, Rv.part, TD.isAgg, mapO, ↓qAe, Nat.reduceBEq, Nat.reduceAdd, bne, ↓reduceIte, load_ptr, hm, hl, e2, e3, pu137, ty94, ty86, known_map, hx', qAf, hx]
   exact leave_impure pu110
end
section
variable {H : Heap} {ρ : Nat -> Role} {m mp : Nat} {cv : AV} {cs : List AV} {n : Int} {L : List (List Int)} (hm : H.obj m 0 = some [cv, .int .i64 n, .map mp]) (hA : Arr H ρ .cArr cv cs) (hl : cs.length = L.length)
 (hc : ∀ (i : Nat) v l, cs[i]? = some v -> L[i]? = some l -> ∃ o g cap, v = .msl o 0 l.length 1 g cap /\ H.obj o g = some (intL l) /\ ρ o = .cell i)
theorem Arr.len {H : Heap} {ρ : Nat -> Role} {r : Role} {v : AV} {xs : List AV} (A : Arr H ρ r v xs) (e : Nat) : lenA H (.slice e) v = some xs.length := by
 rcases A with ⟨rfl, rfl⟩ | ⟨o, g, cap, rfl, ho, _⟩
 ·rfl
 ·simp [lenA, Heap.live, ho]
theorem Arr.known {H : Heap} {ρ : Nat -> Role} {r : Role} {v : AV} {xs : List AV} (A : Arr H ρ r v xs) : known v = some v := by
 rcases A with ⟨rfl, rfl⟩ | ⟨o, g, cap, rfl, ho, _⟩ <;> rfl
theorem Arr.cells {H : Heap} {ρ : Nat -> Role} {r : Role} {v : AV} {xs : List AV} (A : Arr H ρ r v xs) : v.cells = [v] := by
 rcases A with ⟨rfl, rfl⟩ | ⟨o, g, cap, rfl, ho, _⟩ <;> rfl
theorem Arr.leaf {H : Heap} {ρ : Nat -> Role} {r : Role} {v : AV} {xs : List AV} (A : Arr H ρ r v xs) : v.leaf = true := by
 rcases A with ⟨rfl, rfl⟩ | ⟨o, g, cap, rfl, ho, _⟩ <;> rfl
theorem Arr.at {H : Heap} {ρ : Nat -> Role} {r : Role} {v x : AV} {xs : List AV} (A : Arr H ρ r v xs) {i : Int} (h0 : 0 <= i) (hx : xs[i.toNat]? = some x) {st et a b b' : Nat} {z z' : List AV} {td : TD} (hs : cfg.ty st = some ⟨.slice et, a, b, z⟩) (he : cfg.ty et = some ⟨td, 1, b', z'⟩) :
  ∃ o g, indexAddrA cfg H st v (.int .i64 i) = some (.ptr o i.toNat g) /\ H.obj o g = some xs /\ ρ o = r /\ xs.drop i.toNat = x :: xs.drop (i.toNat + 1) := by
 rcases A with ⟨rfl, rfl⟩ | ⟨o, g, cap, rfl, ho, hr, _⟩
 ·simp at hx
 ·have hi := (qAu.1 hx)
  obtain ⟨hi, hx⟩ := hi
  refine ⟨o, g, ?_, ho, hr, ?_⟩
  ·have : ¬ i < 0 := by omega
   simp [indexAddrA, hs, he, live_of ho, this]
   omega
  ·rw [qBs hi, hx]
inductive CellAt (H : Heap) (ρ : Nat -> Role) (cs : List AV) (L : List (List Int)) (a b : Int) : AV -> Int -> Prop where
 | arg : (a < 0 ∨ (L.length : Int) <= a) -> CellAt H ρ cs L a b .nilPtr 1
 | none : 0 <= a -> (∃ l, L[a.toNat]? = some l /\ (b < 0 ∨ (l.length : Int) <= b)) -> CellAt H ρ cs L a b .nilPtr 5
 | ok {l o g cap} : 0 <= a -> 0 <= b -> L[a.toNat]? = some l -> b < l.length -> cs[a.toNat]? = some (.msl o 0 l.length 1 g cap) -> H.obj o g = some (intL l) -> ρ o = .cell a.toNat -> CellAt H ρ cs L a b (.ptr o b.toNat g) 0
include hm hA hl hc
theorem memCell_eq (a b : Int) : ∃ v e, call cfg 136 [.ptr m 0 0, .int .i64 a, .int .i64 b] H = some (.ret (.tup [v, .int .i64 e]), H) /\ CellAt H ρ cs L a b v e := by
 have hl0 := live_of hm
 have e0 := ptr_eq_nil (H := H) (k := 0) ty61 hl0
 have kc := hA.known
 have kl := hA.len 66
 by_cases h1 : a < 0
 ·refine ⟨.nilPtr, 1, ?_, .arg (.inl h1)⟩
  rw [call136]
  simp only [F136, k136, Tryz.f136, sxAll, cA, arithA, Env.keep, resultsA, packA, ↓qAe, Nat.reduceBEq, ↓reduceIte, e0, h1]
  exact leave_kept rfl rfl
 by_cases h2 : a >= L.length
 ·refine ⟨.nilPtr, 1, ?_, .arg (.inr h2)⟩
  rw [call136]
  rw [← hl] at h2
  simp only [F136, k136, Tryz.f136, sxAll, cA, arithA, Env.keep, qt_eq, resultsA, packA, fieldAddrA, Rv.part, TD.isAgg, ↓qAe, Nat.reduceBEq, Nat.reduceAdd, ↓reduceIte, load_ptr, hm, hl0, e0, h1, h2, ty94, ty92, kc, kl]
  exact leave_kept rfl rfl
 obtain ⟨l, hL⟩ : ∃ l, L[a.toNat]? = some l := ⟨_, qAs (by omega)⟩
 obtain ⟨v, hv⟩ : ∃ v, cs[a.toNat]? = some v := ⟨_, qAs (by omega)⟩
 obtain ⟨o, g, cap, rfl, ho, hr⟩ := hc a.toNat v l hv hL
 obtain ⟨o1, g1, i1, i2, i3, i4⟩ := hA.at (i := a) (by omega) hv ty92 ty66
 have lo := live_of ho
 have h2' : (a >= cs.length) = False := by simp; omega
 have kv : known (.msl o 0 l.length 1 g cap) = some (.msl o 0 l.length 1 g cap) := rfl
 have kl2 : lenA H (.slice 2) (.msl o 0 l.length 1 g cap) = some l.length := by simp [lenA, lo]
 by_cases h3 : b < 0
 ·refine ⟨.nilPtr, 5, ?_, .none (by omega) ⟨l, hL, .inl h3⟩⟩
  rw [call136]
  simp only [F136, k136, Tryz.f136, sxAll, cA, arithA, Env.keep, qt_eq, resultsA, packA, fieldAddrA, Rv.part, TD.isAgg, ↓qAe, Nat.reduceBEq, Nat.reduceAdd, ↓reduceIte, load_ptr, hm, hl0, e0, h1, h2', h3, ty94, ty92, kc, kl]
  exact leave_kept rfl rfl
 by_cases h4 : b >= l.length
 ·refine ⟨.nilPtr, 5, ?_, .none (by omega) ⟨l, hL, .inr h4⟩⟩
  rw [call136]
  simp only [F136, k136, Tryz.f136, sxAll, cA, arithA, Env.keep, qt_eq, resultsA, packA, fieldAddrA, Rv.part, TD.isAgg, ↓qAe, Nat.reduceBEq, Nat.reduceAdd, ↓reduceIte, load_ptr, hm, hl0, e0, h1, h2', h3, h4, ty94, ty92, ty66, kc, kl, i1, i2, i4, kl2]
  exact leave_kept rfl rfl
 have i5 := regs_idx (cp := cap) ho (a := b) (n := l.length) (by omega) (by omega)
 refine ⟨.ptr o b.toNat g, 0, ?_, .ok (by omega) (by omega) hL (by omega) hv ho hr⟩
 rw [call136]
 simp only [F136, k136, Tryz.f136, sxAll, cA, arithA, Env.keep, qt_eq, resultsA, packA, fieldAddrA, Rv.part, TD.isAgg, ↓qAe, Nat.reduceBEq, Nat.reduceAdd, ↓reduceIte, load_ptr, hm, hl0, e0, h1, h2', h3, h4, ty94, ty92, ty66, kc, kl, i1, i2, i4, i5, kl2]
 have := obj_some ho
 exact leave_kept rfl (by simp [freezeV, mapO, this])
theorem memGet_eq (a b : Int) {σ : SSt} (hσ : σ.cells = L) : ∃ e, call cfg 105 [.ptr m 0 0, .int .i64 a, .int .i64 b] H = some (.ret (.tup [.int .i64 ((cellOf σ a b).getD 0), .int .i64 e]), H) /\ (e = 0 ↔ (cellOf σ a b).isSome = true) := by
 obtain ⟨v, e, h1, h2⟩ := memCell_eq hm hA hl hc a b
 refine ⟨e, ?_, ?_⟩
 ·rw [call105]
  cases h2 with
  | arg h =>
   have : cellOf σ a b = none := by
    unfold cellOf
    split
    ·rw [hσ, qAt (by omega)]; rfl
    ·rfl
   simp only [F105, k105, Tryz.f105, sxAll, cA, arithA, Env.keep, qt_eq, resultsA, packA, mapO, ↓qAe, Nat.reduceBEq, Int.reduceBEq, bne, ↓reduceIte, h1, pu136, known_nilPtr, this]
   exact leave_kept rfl rfl
  | none h h' =>
   obtain ⟨l, h3, h4⟩ := h'
   have : cellOf σ a b = none := by
    unfold cellOf
    split
    ·rw [hσ, h3, qAe, qAt (by omega)]
    ·rfl
   simp only [F105, k105, Tryz.f105, sxAll, cA, arithA, Env.keep, qt_eq, resultsA, packA, mapO, ↓qAe, Nat.reduceBEq, Int.reduceBEq, bne, ↓reduceIte, h1, pu136, known_nilPtr, this]
   exact leave_kept rfl rfl
  | @ok l o g cap h3 h4 h5 h6 h7 h8 h9 =>
   have hlo := live_of h8
   have hb : b.toNat < l.length := by omega
   have : cellOf σ a b = some (l[b.toNat]) := by
    unfold cellOf
    rw [if_pos ⟨h3, h4⟩, hσ, h5, qAe, qAs hb]
   have hd : (intL l).drop b.toNat = .int .i64 (l[b.toNat]) :: (intL l).drop (b.toNat + 1) := by
    rw [qBs (by simp [intL]; exact hb)]
    simp [intL]
   simp only [F105, k105, Tryz.f105, sxAll, cA, arithA, Env.keep, qt_eq, resultsA, packA, Rv.part, TD.isAgg, mapO, ↓qAe, Nat.reduceBEq, bne, ↓reduceIte, h1, pu136, this, load_ptr, hlo, h8, hd, ty2]
   exact leave_kept rfl rfl
 ·cases h2 with
  | arg h =>
   have : cellOf σ a b = none := by
    unfold cellOf
    split
    ·rw [hσ, qAt (by omega)]; rfl
    ·rfl
   simp [this]
  | none h h' =>
   obtain ⟨l, h3, h4⟩ := h'
   have : cellOf σ a b = none := by
    unfold cellOf
    split
    ·rw [hσ, h3, qAe, qAt (by omega)]
    ·rfl
   simp [this]
  | @ok l o g cap h3 h4 h5 h6 h7 h8 h9 =>
   have hb : b.toNat < l.length := by omega
   have : cellOf σ a b = some (l[b.toNat]) := by
    unfold cellOf
    rw [if_pos ⟨h3, h4⟩, hσ, h5, qAe, qAs hb]
   simp [this]
theorem memSet_eq (a b v : Int) {σ : SSt} (hσ : σ.cells = L) : (cellOf σ a b = none /\ ∃ e, e ≠ 0 /\ call cfg 108 [.ptr m 0 0, .int .i64 a, .int .i64 b, .int .i64 v] H = some (.ret (.int .i64 e), H)) ∨
  ((cellOf σ a b).isSome = true /\ ∃ l o g cap, L[a.toNat]? = some l /\ cs[a.toNat]? = some (.msl o 0 l.length 1 g cap) /\ call cfg 108 [.ptr m 0 0, .int .i64 a, .int .i64 b, .int .i64 v] H = some (.ret (.int .i64 0), H.set o (.cells (intL (l.set b.toNat v)) g))) := by
 obtain ⟨w, e, h1, h2⟩ := memCell_eq hm hA hl hc a b
 cases h2 with
 | arg h =>
  left
  have : cellOf σ a b = none := by
   unfold cellOf
   split
   ·rw [hσ, qAt (by omega)]; rfl
   ·rfl
  refine ⟨this, 1, by decide, ?_⟩
  rw [call108]
  simp only [F108, k108, Tryz.f108, sxAll, cA, arithA, Env.keep, qt_eq, resultsA, packA, mapO, ↓qAe, Nat.reduceBEq, Int.reduceBEq, ↓reduceIte, h1, pu136, known_nilPtr]
  exact leave_impure pu108
 | none h h' =>
  left
  obtain ⟨l, h3, h4⟩ := h'
  have : cellOf σ a b = none := by
   unfold cellOf
   split
   ·rw [hσ, h3, qAe, qAt (by omega)]
   ·rfl
  refine ⟨this, 5, by decide, ?_⟩
  rw [call108]
  simp only [F108, k108, Tryz.f108, sxAll, cA, arithA, Env.keep, qt_eq, resultsA, packA, mapO, ↓qAe, Nat.reduceBEq, Int.reduceBEq, ↓reduceIte, h1, pu136, known_nilPtr]
  exact leave_impure pu108
 | @ok l o g cap h3 h4 h5 h6 h7 h8 h9 =>
  right
  have hlo := live_of h8
  have hb : b.toNat < l.length := by omega
  have : cellOf σ a b = some (l[b.toNat]) := by
   unfold cellOf
   rw [if_pos ⟨h3, h4⟩, hσ, h5, qAe, qAs hb]
  refine ⟨by rw [this]; rfl, l, o, g, cap, h5, h7, ?_⟩
  have hst := store1 (v := .int .i64 v) ty2 h8 (off := b.toNat) (by simp [intL]; omega) rfl rfl
  rw [show (intL l).set b.toNat (.int .i64 v) = intL (l.set b.toNat v) by simp [intL]] at hst
  rw [call108]
  simp only [F108, k108, Tryz.f108, sxAll, cA, arithA, Env.keep, qt_eq, resultsA, packA, mapO, ↓qAe, Nat.reduceBEq, ↓reduceIte, h1, pu136, hlo, hst]
  exact leave_impure pu108
end
end
end Go.Proofs.Sx
namespace Go.Proofs.Sx
open Go.Rv Go.Proofs
attribute [local congr] bind_left got_left
noncomputable section
structure Ctx (p : SProg) (H : Heap) (ρ : Nat -> Role) (s : Nat) (σ : SSt) (t : Nat) (rest : List SFrame) (f : SFrame) (i : SIns) (w m mp : Nat) (cv tv ov : AV) (cs ts : List AV) (o g : Nat) (cap : Option Nat) (rvs c : List AV) : Prop where
 rep : Rep p H ρ s σ m mp cv tv ov cs ts
 hv : ts[t]? = some (.msl o 0 (rest ++ [f]).length 3 g cap)
 hf : σ.thr[t]? = some (rest ++ [f])
 stk : Stk H ρ t (rest ++ [f]) rvs o g cap c
 hw : H.obj w 0 = some (workC s t o (rest.length * 3) g i false)
 wR : ρ w = .work
def Did (p : SProg) (H : Heap) (ρ : Nat -> Role) (s t w : Nat) (i : SIns) (x : SSt × Bool) (H' : Heap) : Prop :=
 ∃ ρ' o k g, At p H' ρ' s x.1 /\ H'.obj w 0 = some (workC s t o k g i x.2) /\ ρ' w = .work /\ Frm H ρ H' ρ'
section
variable {p : SProg} {H : Heap} {ρ : Nat -> Role} {s : Nat} {σ : SSt} {t : Nat} {rest : List SFrame} {f : SFrame} {i : SIns} {w m mp : Nat} {cv tv ov : AV} {cs ts : List AV} {o g : Nat} {cap : Option Nat} {rvs c : List AV} (X : Ctx p H ρ s σ t rest f i w m mp cv tv ov cs ts o g cap rvs c)
include X
theorem Ctx.view : ∃ oR gR cp, WV H w s t f i o (rest.length * 3) g oR gR cp c /\ ρ oR = .regs t rest.length /\ c[rest.length * 3 + 2]? = some (.msl oR 0 f.regs.length 1 gR cp) := by
 obtain ⟨rr, rv, rfl, hrr, ⟨oR, gR, cp, rfl, hR, hRr⟩, hcl, k0, k1, k2, hd⟩ := X.stk.last
 refine ⟨oR, gR, cp, ⟨X.hw, X.stk.obj, ?_, ?_, hR, ?_, ?_, ?_⟩, hRr, k2⟩
 ·have := congrArg (List.drop 1) hd
  simp only [List.drop_drop, List.drop_succ_cons, qBf] at this
  rw [this]
  congr 1
  have := congrArg (List.drop 2) hd
  simp only [List.drop_drop, List.drop_succ_cons, qBf] at this
  exact this.symm
 ·have := congrArg (List.drop 2) hd
  simp only [List.drop_drop, List.drop_succ_cons, qBf] at this
  exact this
 ·intro hc; have := X.wR; rw [hc, X.stk.role] at this; cases this
 ·intro hc; have := X.wR; rw [hc, hRr] at this; cases this
 ·intro hc; rw [hc, X.stk.role] at hRr; cases hRr
theorem Ctx.wL : w < H.length := obj_some X.hw
theorem Ctx.topped {oR gR : Nat} {cp : Option Nat} (V : WV H w s t f i o (rest.length * 3) g oR gR cp c) (hRr : ρ oR = .regs t rest.length) (k2 : c[rest.length * 3 + 2]? = some (.msl oR 0 f.regs.length 1 gR cp)) {regs' : List Int} (hl : regs'.length = f.regs.length) (pc' : Nat) :
  Did p H ρ s t w i (setStk σ t (rest ++ [⟨f.fn, pc', regs'⟩]), false) ((H.set oR (.cells (intL regs') gR)).set o (.cells (c.set (rest.length * 3 + 1) (.int .i64 pc')) g)) := by
 have R := X.rep.top X.hv X.hf rfl X.stk ⟨_, V.hr⟩ hRr ⟨_, k2⟩ hl pc'
 refine ⟨ρ, o, rest.length * 3, g, ⟨_, _, _, _, _, _, _, R⟩, ?_, X.wR, ⟨by simp, fun x hx hr => ⟨?_, hr⟩⟩⟩
 ·rw [obj_setn _ V.wo, obj_setn _ V.wr]; exact V.hw
 ·rw [qAw (by intro hc; rw [← hc, X.stk.role] at hr; cases hr), qAw (by intro hc; rw [← hc, hRr] at hr; cases hr)]
theorem Ctx.placed {oR gR : Nat} {cp : Option Nat} (V : WV H w s t f i o (rest.length * 3) g oR gR cp c) (hRr : ρ oR = .regs t rest.length) (k2 : c[rest.length * 3 + 2]? = some (.msl oR 0 f.regs.length 1 gR cp)) (pc' : Nat) :
  Did p H ρ s t w i (setStk σ t (rest ++ [⟨f.fn, pc', f.regs⟩]), false) (H.set o (.cells (c.set (rest.length * 3 + 1) (.int .i64 pc')) g)) := by
 have := X.topped V hRr k2 rfl pc'
 rwa [show H.set oR (.cells (intL f.regs) gR) = H from set_get_same (by
  have := V.hr
  unfold Heap.obj at this
  split at this
  ·rename_i h1
   split at this
   ·rename_i h2
    injection this with this; subst this
    have := beq_iff_eq.1 h2; subst this
    exact h1
   ·cases this
  ·cases this)] at this
theorem Ctx.trapped : Did p H ρ s t w i (σ, true) (H.set w (.cells (workC s t o (rest.length * 3) g i true) 0)) := by
 have hw := X.wL
 have k : ∀ x, ρ x ≠ .work -> (H.set w (.cells (workC s t o (rest.length * 3) g i true) 0))[x]? = H[x]? := fun x hx => by
  rw [qAw]; intro hc; exact hx (hc ▸ X.wR)
 refine ⟨ρ, o, rest.length * 3, g, ⟨_, _, _, _, _, _, _, X.rep.mono (by simp) (fun x _ _ h2 => ⟨k x h2, rfl⟩) (fun x hx => X.rep.fresh x (by simpa using hx))⟩, by simp [Heap.obj, hw], X.wR, ⟨by simp, fun x hx hr => ⟨k x (by rw [hr]; simp), hr⟩⟩⟩
omit X in
def RegOk (f : SFrame) (n : Int) : Prop := 0 <= n /\ n < f.regs.length
end
theorem pu71 : cfg.pure 71 = false := rfl
instance t71 {d : Option Nat} : TightD cfg 71 d := ⟨fun _ _ => rfl⟩
def B71 (p : List Bool) := cA p Tryz.f71.body
def R71 (p : List Bool) (i : Nat) := Code.region i (cA p Tryz.f71.body) false
theorem F71 : (∀ p i, XR cfg 71 (R71 p i) (B71 p) (cA p Tryz.f71.body).toList i false) /\ RE cfg 71 [0] /\ cfg.pure 71 = false := ⟨fun _ _ => xr rfl rfl, rE fun _ => rfl, rfl⟩
def k71 : Code := (R71 [] 0)
theorem call71 (x0 : AV) (h : Heap) : call cfg 71 [x0] h = (exec cfg 71 k71 [(0, x0)] h).bind (callEnd cfg 71 h []) := call_at2 (fnat Tryz.func71 (b := k71) (by kernel_rfl) (by kernel_rfl)) rfl rfl
theorem pu72 : cfg.pure 72 = false := rfl
instance t72 {d : Option Nat} : TightD cfg 72 d := ⟨fun _ _ => rfl⟩
def B72 (p : List Bool) := cA p Tryz.f72.body
def R72 (p : List Bool) (i : Nat) := Code.region i (cA p Tryz.f72.body) false
theorem F72 : (∀ p i, XR cfg 72 (R72 p i) (B72 p) (cA p Tryz.f72.body).toList i false) /\ RE cfg 72 [0] /\ cfg.pure 72 = false := ⟨fun _ _ => xr rfl rfl, rE fun _ => rfl, rfl⟩
def k72 : Code := (R72 [] 0)
theorem call72 (x0 : AV) (h : Heap) : call cfg 72 [x0] h = (exec cfg 72 k72 [(0, x0)] h).bind (callEnd cfg 72 h []) := call_at2 (fnat Tryz.func72 (b := k72) (by kernel_rfl) (by kernel_rfl)) rfl rfl
theorem pu73 : cfg.pure 73 = false := rfl
instance t73 {d : Option Nat} : TightD cfg 73 d := ⟨fun _ _ => rfl⟩
def B73 (p : List Bool) := cA p Tryz.f73.body
def D73 (p : List Bool) (i : Nat) := Code.region i (cA p Tryz.f73.body) true
theorem F73 : XR cfg 73 (D73 [] 0) (B73 []) ((cA [] Tryz.f73.body).toList) 0 true /\ RE cfg 73 [0] /\ cfg.pure 73 = false := ⟨xd (by kernel_rfl) rfl rfl, rE fun _ => rfl, rfl⟩
def k73 : Code := (D73 [] 0)
theorem call73 (x0 : AV) (h : Heap) : call cfg 73 [x0] h = (exec cfg 73 k73 [(0, x0)] h).bind (callEnd cfg 73 h []) := call_at2 (fnat Tryz.func73 (b := k73) (by kernel_rfl) (by kernel_rfl)) rfl rfl
theorem pu74 : cfg.pure 74 = false := rfl
instance t74 {d : Option Nat} : TightD cfg 74 d := ⟨fun _ _ => rfl⟩
def B74 (p : List Bool) := cA p Tryz.f74.body
def D74 (p : List Bool) (i : Nat) := Code.region i (cA p Tryz.f74.body) true
theorem F74 : XR cfg 74 (D74 [] 0) (B74 []) (pickL (cA [] Tryz.f74.body).toList [0, 1, 2, 3, 4, 5, 6, 7, 8, 9, 10, 11, 12, 14, 15, 16, 17, 18, 19, 13, 20, 21, 22, 23, 24]) 0 true /\ RE cfg 74 [0] /\ cfg.pure 74 = false := ⟨xd (by kernel_rfl) rfl rfl, rE fun _ => rfl, rfl⟩
def k74 : Code := (D74 [] 0)
theorem call74 (x0 : AV) (h : Heap) : call cfg 74 [x0] h = (exec cfg 74 k74 [(0, x0)] h).bind (callEnd cfg 74 h []) := call_at2 (fnat Tryz.func74 (b := k74) (by kernel_rfl) (by kernel_rfl)) rfl rfl
theorem pu75 : cfg.pure 75 = false := rfl
instance t75 {d : Option Nat} : TightD cfg 75 d := ⟨fun _ _ => rfl⟩
def B75 (p : List Bool) := cA p Tryz.f75.body
def R75 (p : List Bool) (i : Nat) := Code.region i (cA p Tryz.f75.body) false
def D75 (p : List Bool) (i : Nat) := Code.region i (cA p Tryz.f75.body) true
theorem F75 : (∀ p i, XR cfg 75 (R75 p i) (B75 p) (cA p Tryz.f75.body).toList i false) /\ XR cfg 75 (D75 [ff] 0) (B75 [ff]) ((cA [ff] Tryz.f75.body).toList) 0 true /\ RE cfg 75 [0, 2, 3] /\ cfg.pure 75 = false := ⟨fun _ _ => xr rfl rfl, xd (by kernel_rfl) rfl rfl, rE fun _ => rfl, rfl⟩
def k75 : Code := (.seq (D75 [ff] 0) (R75 [tt] 1))
theorem call75 (x0 : AV) (h : Heap) : call cfg 75 [x0] h = (exec cfg 75 k75 [(0, x0)] h).bind (callEnd cfg 75 h []) := call_at2 (fnat Tryz.func75 (b := k75) (by kernel_rfl) (by kernel_rfl)) rfl rfl
theorem pu76 : cfg.pure 76 = false := rfl
instance t76 {d : Option Nat} : TightD cfg 76 d := ⟨fun _ _ => rfl⟩
def B76 (p : List Bool) := cA p Tryz.f76.body
def D76 (p : List Bool) (i : Nat) := Code.region i (cA p Tryz.f76.body) true
theorem F76 : XR cfg 76 (D76 [] 0) (B76 []) (pickL (cA [] Tryz.f76.body).toList [0, 1, 2, 3, 4, 5, 6, 7, 8, 9, 10, 11, 12, 13, 15, 16, 17, 18, 19, 20, 14, 21, 22, 23]) 0 true /\ RE cfg 76 [0] /\ cfg.pure 76 = false := ⟨xd (by kernel_rfl) rfl rfl, rE fun _ => rfl, rfl⟩
def k76 : Code := (D76 [] 0)
theorem call76 (x0 : AV) (h : Heap) : call cfg 76 [x0] h = (exec cfg 76 k76 [(0, x0)] h).bind (callEnd cfg 76 h []) := call_at2 (fnat Tryz.func76 (b := k76) (by kernel_rfl) (by kernel_rfl)) rfl rfl
theorem pu77 : cfg.pure 77 = false := rfl
instance t77 {d : Option Nat} : TightD cfg 77 d := ⟨fun _ _ => rfl⟩
def B77 (p : List Bool) := cA p Tryz.f77.body
def D77 (p : List Bool) (i : Nat) := Code.region i (cA p Tryz.f77.body) true
theorem F77 : XR cfg 77 (D77 [] 0) (B77 []) ((cA [] Tryz.f77.body).toList) 0 true /\ RE cfg 77 [0] /\ cfg.pure 77 = false := ⟨xd (by kernel_rfl) rfl rfl, rE fun _ => rfl, rfl⟩
def k77 : Code := (D77 [] 0)
theorem call77 (x0 : AV) (h : Heap) : call cfg 77 [x0] h = (exec cfg 77 k77 [(0, x0)] h).bind (callEnd cfg 77 h []) := call_at2 (fnat Tryz.func77 (b := k77) (by kernel_rfl) (by kernel_rfl)) rfl rfl
theorem pu78 : cfg.pure 78 = false := rfl
instance t78 {d : Option Nat} : TightD cfg 78 d := ⟨fun _ _ => rfl⟩
def B78 (p : List Bool) := cA p Tryz.f78.body
def D78 (p : List Bool) (i : Nat) := Code.region i (cA p Tryz.f78.body) true
theorem F78 : XR cfg 78 (D78 [] 0) (B78 []) ((cA [] Tryz.f78.body).toList) 0 true /\ RE cfg 78 [0] /\ cfg.pure 78 = false := ⟨xd (by kernel_rfl) rfl rfl, rE fun _ => rfl, rfl⟩
def k78 : Code := (D78 [] 0)
theorem call78 (x0 : AV) (h : Heap) : call cfg 78 [x0] h = (exec cfg 78 k78 [(0, x0)] h).bind (callEnd cfg 78 h []) := call_at2 (fnat Tryz.func78 (b := k78) (by kernel_rfl) (by kernel_rfl)) rfl rfl
theorem pu79 : cfg.pure 79 = false := rfl
instance t79_2 : Tg cfg 79 2 := tgS rfl
instance t79_3 : Tg cfg 79 3 := tgS rfl
instance t79_4 : Tg cfg 79 4 := tgS rfl
instance t79_5 : Tg cfg 79 5 := tgS rfl
instance t79_6 : Tg cfg 79 6 := tgS rfl
instance t79_7 : Tg cfg 79 7 := tgS rfl
instance t79_8 : Tg cfg 79 8 := tgS rfl
instance t79_9 : Tg cfg 79 9 := tgS rfl
instance t79_10 : Tg cfg 79 10 := tgS rfl
instance t79_11 : Tg cfg 79 11 := tgS rfl
instance t79_12 : Tg cfg 79 12 := tgS rfl
instance t79_13 : Tg cfg 79 13 := tgS rfl
instance t79_14 : Tg cfg 79 14 := tgS rfl
instance t79_15 : Tg cfg 79 15 := tgS rfl
instance t79_16 : Tg cfg 79 16 := tgS rfl
instance t79_17 : Tg cfg 79 17 := tgS rfl
instance t79_18 : Tg cfg 79 18 := tgS rfl
instance t79_19 : Tg cfg 79 19 := tgS rfl
instance t79_20 : Tg cfg 79 20 := tgS rfl
instance t79_22 : Tg cfg 79 22 := tgS rfl
instance t79_23 : Tg cfg 79 23 := tgS rfl
instance t79_24 : Tg cfg 79 24 := tgS rfl
instance t79_25 : Tg cfg 79 25 := tgS rfl
instance t79_26 : Tg cfg 79 26 := tgS rfl
instance t79_27 : Tg cfg 79 27 := tgS rfl
instance t79_28 : Tg cfg 79 28 := tgS rfl
instance t79_29 : Tg cfg 79 29 := tgS rfl
instance t79_30 : Tg cfg 79 30 := tgS rfl
instance t79_31 : Tg cfg 79 31 := tgS rfl
instance t79_32 : Tg cfg 79 32 := tgS rfl
instance t79_33 : Tg cfg 79 33 := tgS rfl
instance t79_2000_21 : TightD cfg 79 (some (2000 + 21)) := tgS rfl
instance t79_2000_31 : TightD cfg 79 (some (2000 + 31)) := tgS rfl
instance t79_n : TightD cfg 79 none := tgN
def B79 (p : List Bool) := cA p Tryz.f79.body
def R79 (p : List Bool) (i : Nat) := Code.region i (cA p Tryz.f79.body) false
def D79 (p : List Bool) (i : Nat) := Code.region i (cA p Tryz.f79.body) true
theorem F79 : (∀ p i, XR cfg 79 (R79 p i) (B79 p) (cA p Tryz.f79.body).toList i false) /\ XR cfg 79 (D79 [ff] 0) (B79 [ff]) ((cA [ff] Tryz.f79.body).toList) 0 true /\ cfg.imm 79 20 = true /\ RE cfg 79 [0] /\ cfg.pure 79 = false := ⟨fun _ _ => xr rfl rfl, xd (by kernel_rfl) rfl rfl, by kernel_rfl, rE fun _ => rfl, rfl⟩
theorem lo79_21 : cfg.loose 79 21 = lo 79 21 := rfl
theorem lb79_0_21_1 (e : Env) (h : Heap) : looseB cfg 79 (B79 [ff]) e h 1 = (((known (e.get 2)).bind fun x => nilA h x).map fun v => AV.eqb v (e.get 3)).getD false := lb_nilCheck rfl
theorem lb79_0_21_2 (e : Env) (h : Heap) : looseB cfg 79 (B79 [ff]) e h 2 = (((known (e.get 3)).bind fun x => fieldAddrA cfg h 106 x 0).map fun v => AV.eqb v (e.get 4)).getD false := lb_fieldAddr rfl
theorem lb79_0_21_3 (e : Env) (h : Heap) : looseB cfg 79 (B79 [ff]) e h 3 = (((known (e.get 4)).bind fun x => loadA cfg h 42 x).map fun v => AV.eqb v (e.get 5)).getD false := lb_load rfl rfl
theorem la79_21 (e : Env) (h : Heap) : looseAll cfg 79 (B79 [ff]) (some 21) e h = (((((known (e.get 2)).bind fun x => nilA h x).map fun v => AV.eqb v (e.get 3)).getD false) && (((((known (e.get 3)).bind fun x => fieldAddrA cfg h 106 x 0).map fun v => AV.eqb v (e.get 4)).getD false) && (((((known (e.get 4)).bind fun x => loadA cfg h 42 x).map fun v => AV.eqb v (e.get 5)).getD false)))) := by simp only [looseAll, lo79_21, lo, List.all_cons, List.all_nil, Bool.and_true, lb79_0_21_1, lb79_0_21_2, lb79_0_21_3]
def k79 : Code := (.seq (D79 [ff] 0) (R79 [tt] 1))
theorem call79 (x0 : AV) (h : Heap) : call cfg 79 [x0] h = (exec cfg 79 k79 [(0, x0)] h).bind (callEnd cfg 79 h []) := call_at2 (fnat Tryz.func79 (b := k79) (by kernel_rfl) (by kernel_rfl)) rfl rfl
theorem pu81 : cfg.pure 81 = false := rfl
instance t81 {d : Option Nat} : TightD cfg 81 d := ⟨fun _ _ => rfl⟩
def B81 (p : List Bool) := cA p Tryz.f81.body
def D81 (p : List Bool) (i : Nat) := Code.region i (cA p Tryz.f81.body) true
theorem F81 : XR cfg 81 (D81 [] 0) (B81 []) ((cA [] Tryz.f81.body).toList) 0 true /\ RE cfg 81 [0] /\ cfg.pure 81 = false := ⟨xd (by kernel_rfl) rfl rfl, rE fun _ => rfl, rfl⟩
def k81 : Code := (D81 [] 0)
theorem call81 (x0 : AV) (h : Heap) : call cfg 81 [x0] h = (exec cfg 81 k81 [(0, x0)] h).bind (callEnd cfg 81 h []) := call_at2 (fnat Tryz.func81 (b := k81) (by kernel_rfl) (by kernel_rfl)) rfl rfl
theorem pu82 : cfg.pure 82 = false := rfl
instance t82 {d : Option Nat} : TightD cfg 82 d := ⟨fun _ _ => rfl⟩
def B82 (p : List Bool) := cA p Tryz.f82.body
def R82 (p : List Bool) (i : Nat) := Code.region i (cA p Tryz.f82.body) false
def D82 (p : List Bool) (i : Nat) := Code.region i (cA p Tryz.f82.body) true
theorem F82 : (∀ p i, XR cfg 82 (R82 p i) (B82 p) (cA p Tryz.f82.body).toList i false) /\ XR cfg 82 (D82 [tt, ff] 1) (B82 [tt, ff]) ((cA [tt, ff] Tryz.f82.body).toList) 1 true /\ RE cfg 82 [0, 9] /\ cfg.pure 82 = false := ⟨fun _ _ => xr rfl rfl, xd (by kernel_rfl) rfl rfl, rE fun _ => rfl, rfl⟩
def k82 : Code := (.seq (R82 [ff] 0) (.cond (.tmp 9) (D82 [tt, ff] 1) (R82 [tt, tt] 2)))
theorem call82 (x0 : AV) (h : Heap) : call cfg 82 [x0] h = (exec cfg 82 k82 [(0, x0)] h).bind (callEnd cfg 82 h []) := call_at2 (fnat Tryz.func82 (b := k82) (by kernel_rfl) (by kernel_rfl)) rfl rfl
section
variable {p : SProg} {H : Heap} {ρ : Nat -> Role} {s : Nat} {σ : SSt} {t : Nat} {rest : List SFrame} {f : SFrame} {i : SIns} {w m mp : Nat} {cv tv ov : AV} {cs ts : List AV} {o g : Nat} {cap : Option Nat} {rvs c : List AV} (X : Ctx p H ρ s σ t rest f i w m mp cv tv ov cs ts o g cap rvs c) (hpc : f.pc < 1000000)
include X hpc
theorem constant_eq (hr : RegOk f i.r) (h1 : i.op = 1) : ∃ H', call cfg 71 [.ptr w 0 0] H = some (.ret (.tup []), H') /\ Did p H ρ s t w i (exeS p σ t rest f i) H' := by
 obtain ⟨oR, gR, cp, V, hRr, k2⟩ := X.view
 refine ⟨_, ?_, by rw [exeS, if_pos h1]; exact X.topped V hRr k2 (regs' := f.regs.set i.r.toNat i.n) (by simp) (f.pc + 1)⟩
 rw [call71]
 have hw := V.hw
 have hlw := V.lw
 have hb := becomes_eq V (v := i.n) hr.1 hr.2 hpc
 simp only [workC] at hw
 simp only [F71, k71, Tryz.f71, sxAll, cA, Env.keep, qt_eq, resultsA, packA, fieldAddrA, Rv.part, TD.isAgg, mapO, ↓qAe, Nat.reduceBEq, Nat.reduceAdd, ↓reduceIte, load_ptr, hw, hlw, hb, ty106, ty41, ty2]
 exact leave_impure pu71
theorem move_eq (hr : RegOk f i.r) (ha : RegOk f i.a) (h1 : i.op = 2) : ∃ H', call cfg 72 [.ptr w 0 0] H = some (.ret (.tup []), H') /\ Did p H ρ s t w i (exeS p σ t rest f i) H' := by
 obtain ⟨oR, gR, cp, V, hRr, k2⟩ := X.view
 refine ⟨_, ?_, by rw [exeS, if_neg (by omega), if_pos h1]; exact X.topped V hRr k2 (regs' := f.regs.set i.r.toNat (regV f i.a)) (by simp) (f.pc + 1)⟩
 rw [call72]
 have hw := V.hw
 have hlw := V.lw
 have hb := becomes_eq V (v := regV f i.a) hr.1 hr.2 hpc
 have hg := reg_eq V ha.1 ha.2
 simp only [workC] at hw
 simp only [F72, k72, Tryz.f72, sxAll, cA, Env.keep, qt_eq, resultsA, packA, fieldAddrA, Rv.part, TD.isAgg, mapO, ↓qAe, Nat.reduceBEq, Nat.reduceAdd, ↓reduceIte, load_ptr, hw, hlw, hb, hg, pu102, ty106, ty41, ty3]
 exact leave_impure pu72
theorem jump_eq (h0 : 0 <= i.n) (h1 : i.op = 11) : ∃ H', call cfg 81 [.ptr w 0 0] H = some (.ret (.tup []), H') /\ Did p H ρ s t w i (exeS p σ t rest f i) H' := by
 obtain ⟨oR, gR, cp, V, hRr, k2⟩ := X.view
 refine ⟨_, ?_, by rw [exeS]; simp only [h1]; exact X.placed V hRr k2 i.n.toNat⟩
 rw [call81]
 have hw := V.hw
 have hlw := V.lw
 have hlo := V.lo
 have hL := V.len
 have hst2 := store1 (v := .int .i64 (i.n.toNat : Int)) ty3 V.ho (off := rest.length * 3 + 1) (by omega) rfl rfl
 rw [show ((i.n.toNat : Nat) : Int) = i.n by omega] at hst2 ⊢
 simp only [workC] at hw
 simp only [F81, k81, Tryz.f81, sxAll, cA, Env.keep, qt_eq, resultsA, packA, fieldAddrA, Rv.part, TD.isAgg, ↓qAe, ↓qAh, Nat.reduceBEq, Nat.reduceAdd, ↓reduceIte, load_ptr, hw, hlw, hlo, hst2, ty106, ty41, ty71, ty74, ty3, ty2]
 exact leave_impure pu81
theorem branch_eq (h0 : 0 <= i.n) (ha : RegOk f i.a) (h1 : i.op = 12) : ∃ H', call cfg 82 [.ptr w 0 0] H = some (.ret (.tup []), H') /\ Did p H ρ s t w i (exeS p σ t rest f i) H' := by
 obtain ⟨oR, gR, cp, V, hRr, k2⟩ := X.view
 have hw := V.hw
 have hlw := V.lw
 have hlo := V.lo
 have hL := V.len
 have hg := reg_eq V ha.1 ha.2
 simp only [workC] at hw
 by_cases hz : regV f i.a = 0
 ·refine ⟨_, ?_, by rw [exeS]; simp only [h1]; rw [if_pos hz]; exact X.placed V hRr k2 i.n.toNat⟩
  rw [call82]
  have hst2 := store1 (v := .int .i64 (i.n.toNat : Int)) ty3 V.ho (off := rest.length * 3 + 1) (by omega) rfl rfl
  rw [show ((i.n.toNat : Nat) : Int) = i.n by omega] at hst2 ⊢
  have hz' : (regV f i.a == 0) = true := by simp [hz]
  simp only [F82, k82, Tryz.f82, sxAll, cA, arithA, Env.keep, qt_eq, resultsA, packA, fieldAddrA, Rv.part, TD.isAgg, mapO, ↓qAe, ↓qAh, Nat.reduceBEq, Nat.reduceAdd, ↓reduceIte, load_ptr, hw, hlw, hlo, hst2, hg, hz', pu102, ty106, ty41, ty71, ty74, ty3, ty2]
  exact leave_impure pu82
 ·refine ⟨_, ?_, by rw [exeS]; simp only [h1]; rw [if_neg hz]; exact X.placed V hRr k2 (f.pc + 1)⟩
  rw [call82]
  have hst2 := store1 (v := .int .i64 ((f.pc + 1 : Nat) : Int)) ty3 V.ho (off := rest.length * 3 + 1) (by omega) rfl rfl
  have hwr := wrap_succ (i := f.pc) (by omega)
  have hz' : (regV f i.a == 0) = false := by simp [hz]
  simp only [F82, k82, Tryz.f82, sxAll, cA, arithA, Env.keep, qt_eq, resultsA, packA, fieldAddrA, Rv.part, TD.isAgg, mapO, ↓qAe, ↓qAh, Nat.reduceBEq, Nat.reduceAdd, ↓reduceIte, load_ptr, hw, hlw, hlo, V.ho, V.d1, hwr, hst2, hg, hz', pu102, ty106, ty41, ty71, ty74, ty3]
  exact leave_impure pu82
theorem load_eq (hr : RegOk f i.r) (ha : i.a = -1 ∨ RegOk f i.a) (h1 : i.op = 5) : ∃ H', call cfg 75 [.ptr w 0 0] H = some (.ret (.tup []), H') /\ Did p H ρ s t w i (exeS p σ t rest f i) H' := by
 obtain ⟨oR, gR, cp, V, hRr, k2⟩ := X.view
 have hw := V.hw
 have hlw := V.lw
 have hs := X.rep.st
 have hls := live_of hs
 have hlm := live_of X.rep.mem
 have hp := place_eq V ha
 obtain ⟨e, hg, hE⟩ := memGet_eq X.rep.mem X.rep.cArr X.rep.cLen X.rep.cell i.n (placeOf f i) (σ := σ) rfl
 simp only [workC] at hw
 simp only [SProg.cells, qBr, qBq] at hs
 have hx : exeS p σ t rest f i = becomesS σ t rest f i.r (cellOf σ i.n (placeOf f i)) := by rw [exeS]; simp only [h1]; rfl
 rw [hx]
 cases hc : cellOf σ i.n (placeOf f i) with
 | none =>
  rw [hc] at hE hg
  have he : (e == 0) = false := by
   have : ¬ e = 0 := fun h => by have := hE.1 h; simp at this
   simp [this]
  refine ⟨_, ?_, X.trapped⟩
  have hb := becomes_no V (v := 0)
  rw [call75]
  simp only [Option.getD_none] at hg
  simp only [F75, k75, Tryz.f75, sxAll, cA, arithA, Env.keep, qt_eq, resultsA, packA, fieldAddrA, Rv.part, TD.isAgg, mapO, ↓qAe, ↓qAh, Nat.reduceBEq, Nat.reduceAdd, ↓reduceIte, load_ptr, hw, hlw, hs, hls, hg, hp, he, hb, pu105, pu106, ty106, ty41, ty42, ty68, ty61, ty2]
  exact leave_impure pu75
 | some v =>
  rw [hc] at hE hg
  have he : (e == 0) = true := by simp [hE.2 rfl]
  refine ⟨_, ?_, X.topped V hRr k2 (regs' := f.regs.set i.r.toNat v) (by simp) (f.pc + 1)⟩
  have hb := becomes_eq V (v := v) hr.1 hr.2 hpc
  rw [call75]
  simp only [Option.getD_some] at hg
  simp only [F75, k75, Tryz.f75, sxAll, cA, arithA, Env.keep, qt_eq, resultsA, packA, fieldAddrA, Rv.part, TD.isAgg, mapO, ↓qAe, ↓qAh, Nat.reduceBEq, Nat.reduceAdd, ↓reduceIte, load_ptr, hw, hlw, hs, hls, hg, hp, he, hb, pu105, pu106, ty106, ty41, ty42, ty68, ty61, ty2]
  exact leave_impure pu75
end
end
end Go.Proofs.Sx
namespace Go.Proofs.Sx
open Go.Rv Go.Proofs
attribute [local congr] bind_left got_left
noncomputable section
theorem pu134 : cfg.pure 134 = true := rfl
instance t134 {d : Option Nat} : TightD cfg 134 d := ⟨fun _ _ => rfl⟩
def B134 (p : List Bool) := cA p Tryz.f134.body
def R134 (p : List Bool) (i : Nat) := Code.region i (cA p Tryz.f134.body) false
theorem F134 : (∀ p i, XR cfg 134 (R134 p i) (B134 p) (cA p Tryz.f134.body).toList i false) /\ RE cfg 134 [0, 2, 3] /\ cfg.pure 134 = true := ⟨fun _ _ => xr rfl rfl, rE fun _ => rfl, rfl⟩
def k134 : Code := (.seq (R134 [ff] 0) (.seq (.seq (R134 [tt, ff, ff] 1) (.cond (.tmp 3) (.seq (R134 [tt, ff, tt, ff, ff] 2) .ret) .skip)) (.seq (R134 [tt, tt, ff] 3) .ret)))
theorem call134 (x0 : AV) (h : Heap) : call cfg 134 [x0] h = (exec cfg 134 k134 [(0, x0)] h).bind (callEnd cfg 134 h [.tmp 2]) := call_at2 (fnat Tryz.func134 (b := k134) (by kernel_rfl) (by kernel_rfl)) rfl rfl
theorem pu103 : cfg.pure 103 = true := rfl
instance t103 {d : Option Nat} : TightD cfg 103 d := ⟨fun _ _ => rfl⟩
def B103 (p : List Bool) := cA p Tryz.f103.body
def R103 (p : List Bool) (i : Nat) := Code.region i (cA p Tryz.f103.body) false
theorem F103 : (∀ p i, XR cfg 103 (R103 p i) (B103 p) (cA p Tryz.f103.body).toList i false) /\ RE cfg 103 [0, 1, 4, 5, 6, 7, 11] /\ cfg.pure 103 = true := ⟨fun _ _ => xr rfl rfl, rE fun _ => rfl, rfl⟩
def k103 : Code := (.seq (R103 [ff] 0) (.seq (.seq (R103 [tt, ff, ff] 1) (.block 0 (.seq (R103 [tt, ff, tt, ff, ff] 2) (.cond (.tmp 7) (.seq (R103 [tt, ff, tt, ff, tt, ff, ff] 3) .ret) (.seq (R103 [tt, ff, tt, ff, tt, tt, ff] 4) (.cond (.tmp 11) (.seq (R103 [tt, ff, tt, ff, tt, tt, tt, ff, ff] 5) .ret) .skip)))))) (.seq (R103 [tt, tt, ff] 6) .ret)))
theorem call103 (x0 x1 : AV) (h : Heap) : call cfg 103 [x0, x1] h = (exec cfg 103 k103 [(0, x0), (1, x1)] h).bind (callEnd cfg 103 h [.tmp 4, .tmp 5]) := call_at2 (fnat Tryz.func103 (b := k103) (by kernel_rfl) (by kernel_rfl)) rfl rfl
theorem pu135 : cfg.pure 135 = false := rfl
instance t135 {d : Option Nat} : TightD cfg 135 d := ⟨fun _ _ => rfl⟩
def B135 (p : List Bool) := cA p Tryz.f135.body
def R135 (p : List Bool) (i : Nat) := Code.region i (cA p Tryz.f135.body) false
theorem F135 : (∀ p i, XR cfg 135 (R135 p i) (B135 p) (cA p Tryz.f135.body).toList i false) /\ RE cfg 135 [0, 1] /\ cfg.pure 135 = false := ⟨fun _ _ => xr rfl rfl, rE fun _ => rfl, rfl⟩
def k135 : Code := (.seq (R135 [ff] 0) (.seq (R135 [tt, ff] 1) (.seq (R135 [tt, tt, ff] 2) .ret)))
theorem call135 (h : Heap) : call cfg 135 [] h = (exec cfg 135 k135 [] h).bind (callEnd cfg 135 h [.tmp 0]) := call_at2 (fnat Tryz.func135 (b := k135) (by kernel_rfl) (by kernel_rfl)) rfl rfl
instance t158 {d : Option Nat} : TightD cfg 158 d := ⟨fun _ _ => rfl⟩
def B158 (p : List Bool) := cA p Tryz.f158.body
def R158 (p : List Bool) (i : Nat) := Code.region i (cA p Tryz.f158.body) false
theorem F158 : (∀ p i, XR cfg 158 (R158 p i) (B158 p) (cA p Tryz.f158.body).toList i false) /\ cfg.imm 158 1 = true /\ RE cfg 158 [0, 1, 2] /\ cfg.pure 158 = true := ⟨fun _ _ => xr rfl rfl, by kernel_rfl, rE fun _ => rfl, rfl⟩
def k158 : Code := (.seq (R158 [ff] 0) (.seq (R158 [tt, ff] 1) .ret))
theorem call158 (x0 : AV) (h : Heap) : call cfg 158 [x0] h = (exec cfg 158 k158 [(0, x0)] h).bind (callEnd cfg 158 h [.tmp 2]) := call_at2 (fnat Tryz.func158 (b := k158) (by kernel_rfl) (by kernel_rfl)) rfl rfl
instance t159 {d : Option Nat} : TightD cfg 159 d := ⟨fun _ _ => rfl⟩
def B159 (p : List Bool) := cA p Tryz.f159.body
def R159 (p : List Bool) (i : Nat) := Code.region i (cA p Tryz.f159.body) false
theorem F159 : (∀ p i, XR cfg 159 (R159 p i) (B159 p) (cA p Tryz.f159.body).toList i false) /\ RE cfg 159 [0, 1, 2, 5] /\ cfg.pure 159 = true := ⟨fun _ _ => xr rfl rfl, rE fun _ => rfl, rfl⟩
def k159 : Code := (.seq (R159 [ff] 0) (.seq (R159 [tt, ff] 1) .ret))
theorem call159 (x0 x1 x2 : AV) (h : Heap) : call cfg 159 [x0, x1, x2] h = (exec cfg 159 k159 [(0, x0), (1, x1), (2, x2)] h).bind (callEnd cfg 159 h [.tmp 5]) := call_at2 (fnat Tryz.func159 (b := k159) (by kernel_rfl) (by kernel_rfl)) rfl rfl
instance t160 {d : Option Nat} : TightD cfg 160 d := ⟨fun _ _ => rfl⟩
def B160 (p : List Bool) := cA p Tryz.f160.body
def R160 (p : List Bool) (i : Nat) := Code.region i (cA p Tryz.f160.body) false
theorem F160 : (∀ p i, XR cfg 160 (R160 p i) (B160 p) (cA p Tryz.f160.body).toList i false) /\ RE cfg 160 [0, 1, 4] /\ cfg.pure 160 = true := ⟨fun _ _ => xr rfl rfl, rE fun _ => rfl, rfl⟩
def k160 : Code := (.seq (R160 [ff] 0) (.seq (R160 [tt, ff] 1) .ret))
theorem call160 (x0 x1 : AV) (h : Heap) : call cfg 160 [x0, x1] h = (exec cfg 160 k160 [(0, x0), (1, x1)] h).bind (callEnd cfg 160 h [.tmp 4]) := call_at2 (fnat Tryz.func160 (b := k160) (by kernel_rfl) (by kernel_rfl)) rfl rfl
instance t161 {d : Option Nat} : TightD cfg 161 d := ⟨fun _ _ => rfl⟩
def B161 (p : List Bool) := cA p Tryz.f161.body
def R161 (p : List Bool) (i : Nat) := Code.region i (cA p Tryz.f161.body) false
theorem F161 : (∀ p i, XR cfg 161 (R161 p i) (B161 p) (cA p Tryz.f161.body).toList i false) /\ RE cfg 161 [0, 1, 4] /\ cfg.pure 161 = true := ⟨fun _ _ => xr rfl rfl, rE fun _ => rfl, rfl⟩
def k161 : Code := (.seq (R161 [ff] 0) (.seq (R161 [tt, ff] 1) .ret))
theorem call161 (x0 x1 : AV) (h : Heap) : call cfg 161 [x0, x1] h = (exec cfg 161 k161 [(0, x0), (1, x1)] h).bind (callEnd cfg 161 h [.tmp 4]) := call_at2 (fnat Tryz.func161 (b := k161) (by kernel_rfl) (by kernel_rfl)) rfl rfl
instance t162 {d : Option Nat} : TightD cfg 162 d := ⟨fun _ _ => rfl⟩
def B162 (p : List Bool) := cA p Tryz.f162.body
def R162 (p : List Bool) (i : Nat) := Code.region i (cA p Tryz.f162.body) false
theorem F162 : (∀ p i, XR cfg 162 (R162 p i) (B162 p) (cA p Tryz.f162.body).toList i false) /\ RE cfg 162 [0, 1, 4] /\ cfg.pure 162 = true := ⟨fun _ _ => xr rfl rfl, rE fun _ => rfl, rfl⟩
def k162 : Code := (.seq (R162 [ff] 0) (.seq (R162 [tt, ff] 1) .ret))
theorem call162 (x0 x1 : AV) (h : Heap) : call cfg 162 [x0, x1] h = (exec cfg 162 k162 [(0, x0), (1, x1)] h).bind (callEnd cfg 162 h [.tmp 4]) := call_at2 (fnat Tryz.func162 (b := k162) (by kernel_rfl) (by kernel_rfl)) rfl rfl
instance t163 {d : Option Nat} : TightD cfg 163 d := ⟨fun _ _ => rfl⟩
def B163 (p : List Bool) := cA p Tryz.f163.body
def R163 (p : List Bool) (i : Nat) := Code.region i (cA p Tryz.f163.body) false
theorem F163 : (∀ p i, XR cfg 163 (R163 p i) (B163 p) (cA p Tryz.f163.body).toList i false) /\ RE cfg 163 [0, 1, 4] /\ cfg.pure 163 = true := ⟨fun _ _ => xr rfl rfl, rE fun _ => rfl, rfl⟩
def k163 : Code := (.seq (R163 [ff] 0) (.seq (R163 [tt, ff] 1) .ret))
theorem call163 (x0 x1 : AV) (h : Heap) : call cfg 163 [x0, x1] h = (exec cfg 163 k163 [(0, x0), (1, x1)] h).bind (callEnd cfg 163 h [.tmp 4]) := call_at2 (fnat Tryz.func163 (b := k163) (by kernel_rfl) (by kernel_rfl)) rfl rfl
instance t164 {d : Option Nat} : TightD cfg 164 d := ⟨fun _ _ => rfl⟩
def B164 (p : List Bool) := cA p Tryz.f164.body
def R164 (p : List Bool) (i : Nat) := Code.region i (cA p Tryz.f164.body) false
theorem F164 : (∀ p i, XR cfg 164 (R164 p i) (B164 p) (cA p Tryz.f164.body).toList i false) /\ RE cfg 164 [0, 1, 4] /\ cfg.pure 164 = true := ⟨fun _ _ => xr rfl rfl, rE fun _ => rfl, rfl⟩
def k164 : Code := (.seq (R164 [ff] 0) (.seq (R164 [tt, ff] 1) .ret))
theorem call164 (x0 x1 : AV) (h : Heap) : call cfg 164 [x0, x1] h = (exec cfg 164 k164 [(0, x0), (1, x1)] h).bind (callEnd cfg 164 h [.tmp 4]) := call_at2 (fnat Tryz.func164 (b := k164) (by kernel_rfl) (by kernel_rfl)) rfl rfl
instance t165 {d : Option Nat} : TightD cfg 165 d := ⟨fun _ _ => rfl⟩
def B165 (p : List Bool) := cA p Tryz.f165.body
def R165 (p : List Bool) (i : Nat) := Code.region i (cA p Tryz.f165.body) false
theorem F165 : (∀ p i, XR cfg 165 (R165 p i) (B165 p) (cA p Tryz.f165.body).toList i false) /\ RE cfg 165 [0, 1, 4] /\ cfg.pure 165 = true := ⟨fun _ _ => xr rfl rfl, rE fun _ => rfl, rfl⟩
def k165 : Code := (.seq (R165 [ff] 0) (.seq (R165 [tt, ff] 1) .ret))
theorem call165 (x0 x1 : AV) (h : Heap) : call cfg 165 [x0, x1] h = (exec cfg 165 k165 [(0, x0), (1, x1)] h).bind (callEnd cfg 165 h [.tmp 4]) := call_at2 (fnat Tryz.func165 (b := k165) (by kernel_rfl) (by kernel_rfl)) rfl rfl
instance t166 {d : Option Nat} : TightD cfg 166 d := ⟨fun _ _ => rfl⟩
def B166 (p : List Bool) := cA p Tryz.f166.body
def R166 (p : List Bool) (i : Nat) := Code.region i (cA p Tryz.f166.body) false
theorem F166 : (∀ p i, XR cfg 166 (R166 p i) (B166 p) (cA p Tryz.f166.body).toList i false) /\ RE cfg 166 [0, 1, 4] /\ cfg.pure 166 = true := ⟨fun _ _ => xr rfl rfl, rE fun _ => rfl, rfl⟩
def k166 : Code := (.seq (R166 [ff] 0) (.seq (R166 [tt, ff] 1) .ret))
theorem call166 (x0 x1 : AV) (h : Heap) : call cfg 166 [x0, x1] h = (exec cfg 166 k166 [(0, x0), (1, x1)] h).bind (callEnd cfg 166 h [.tmp 4]) := call_at2 (fnat Tryz.func166 (b := k166) (by kernel_rfl) (by kernel_rfl)) rfl rfl
instance t167 {d : Option Nat} : TightD cfg 167 d := ⟨fun _ _ => rfl⟩
def B167 (p : List Bool) := cA p Tryz.f167.body
def R167 (p : List Bool) (i : Nat) := Code.region i (cA p Tryz.f167.body) false
theorem F167 : (∀ p i, XR cfg 167 (R167 p i) (B167 p) (cA p Tryz.f167.body).toList i false) /\ RE cfg 167 [0, 1, 4] /\ cfg.pure 167 = true := ⟨fun _ _ => xr rfl rfl, rE fun _ => rfl, rfl⟩
def k167 : Code := (.seq (R167 [ff] 0) (.seq (R167 [tt, ff] 1) .ret))
theorem call167 (x0 x1 : AV) (h : Heap) : call cfg 167 [x0, x1] h = (exec cfg 167 k167 [(0, x0), (1, x1)] h).bind (callEnd cfg 167 h [.tmp 4]) := call_at2 (fnat Tryz.func167 (b := k167) (by kernel_rfl) (by kernel_rfl)) rfl rfl
instance t168 {d : Option Nat} : TightD cfg 168 d := ⟨fun _ _ => rfl⟩
def B168 (p : List Bool) := cA p Tryz.f168.body
def R168 (p : List Bool) (i : Nat) := Code.region i (cA p Tryz.f168.body) false
theorem F168 : (∀ p i, XR cfg 168 (R168 p i) (B168 p) (cA p Tryz.f168.body).toList i false) /\ RE cfg 168 [0, 1, 4] /\ cfg.pure 168 = true := ⟨fun _ _ => xr rfl rfl, rE fun _ => rfl, rfl⟩
def k168 : Code := (.seq (R168 [ff] 0) (.seq (R168 [tt, ff] 1) .ret))
theorem call168 (x0 x1 : AV) (h : Heap) : call cfg 168 [x0, x1] h = (exec cfg 168 k168 [(0, x0), (1, x1)] h).bind (callEnd cfg 168 h [.tmp 4]) := call_at2 (fnat Tryz.func168 (b := k168) (by kernel_rfl) (by kernel_rfl)) rfl rfl
instance t169 {d : Option Nat} : TightD cfg 169 d := ⟨fun _ _ => rfl⟩
def B169 (p : List Bool) := cA p Tryz.f169.body
def R169 (p : List Bool) (i : Nat) := Code.region i (cA p Tryz.f169.body) false
theorem F169 : (∀ p i, XR cfg 169 (R169 p i) (B169 p) (cA p Tryz.f169.body).toList i false) /\ GO cfg 169 (B169 [tt, ff]) 2 7 /\ RE cfg 169 [0, 1, 4] /\ cfg.pure 169 = true := ⟨fun _ _ => xr rfl rfl, gO (by kernel_rfl), rE fun _ => rfl, rfl⟩
def k169 : Code := (.seq (R169 [ff] 0) (.seq (R169 [tt, ff] 1) .ret))
theorem call169 (x0 x1 : AV) (h : Heap) : call cfg 169 [x0, x1] h = (exec cfg 169 k169 [(0, x0), (1, x1)] h).bind (callEnd cfg 169 h [.tmp 4]) := call_at2 (fnat Tryz.func169 (b := k169) (by kernel_rfl) (by kernel_rfl)) rfl rfl
instance t170 {d : Option Nat} : TightD cfg 170 d := ⟨fun _ _ => rfl⟩
def B170 (p : List Bool) := cA p Tryz.f170.body
def R170 (p : List Bool) (i : Nat) := Code.region i (cA p Tryz.f170.body) false
theorem F170 : (∀ p i, XR cfg 170 (R170 p i) (B170 p) (cA p Tryz.f170.body).toList i false) /\ GO cfg 170 (B170 [tt, ff]) 2 7 /\ RE cfg 170 [0, 1, 4] /\ cfg.pure 170 = true := ⟨fun _ _ => xr rfl rfl, gO (by kernel_rfl), rE fun _ => rfl, rfl⟩
def k170 : Code := (.seq (R170 [ff] 0) (.seq (R170 [tt, ff] 1) .ret))
theorem call170 (x0 x1 : AV) (h : Heap) : call cfg 170 [x0, x1] h = (exec cfg 170 k170 [(0, x0), (1, x1)] h).bind (callEnd cfg 170 h [.tmp 4]) := call_at2 (fnat Tryz.func170 (b := k170) (by kernel_rfl) (by kernel_rfl)) rfl rfl
theorem pu104 : cfg.pure 104 = true := rfl
instance t104 {d : Option Nat} : TightD cfg 104 d := ⟨fun _ _ => rfl⟩
def B104 (p : List Bool) := cA p Tryz.f104.body
def R104 (p : List Bool) (i : Nat) := Code.region i (cA p Tryz.f104.body) false
theorem F104 : (∀ p i, XR cfg 104 (R104 p i) (B104 p) (cA p Tryz.f104.body).toList i false) /\ GO cfg 104 (B104 [tt, tt, ff, ff]) 2 18 /\ GO cfg 104 (B104 [tt, tt, ff, ff]) 5 21 /\ GO cfg 104 (B104 [tt, tt, ff, ff]) 8 24 /\ RE cfg 104 [0, 1, 2, 6, 7, 8, 9, 29] /\ cfg.pure 104 = true := ⟨fun _ _ => xr rfl rfl, gO (by kernel_rfl), gO (by kernel_rfl), gO (by kernel_rfl), rE fun _ => rfl, rfl⟩
def k104 : Code := (.seq (R104 [ff] 0) (.seq (R104 [tt, ff] 1) (.seq (.seq (R104 [tt, tt, ff, ff] 2) (.cond (.tmp 29) (.seq (R104 [tt, tt, ff, tt, ff, ff] 3) .ret) .skip)) (.seq (R104 [tt, tt, tt, ff] 4) .ret))))
theorem call104 (x0 x1 x2 : AV) (h : Heap) : call cfg 104 [x0, x1, x2] h = (exec cfg 104 k104 [(0, x0), (1, x1), (2, x2)] h).bind (callEnd cfg 104 h [.tmp 6, .tmp 7]) := call_at2 (fnat Tryz.func104 (b := k104) (by kernel_rfl) (by kernel_rfl)) rfl rfl
theorem truth_eq (b : Bool) (h : Heap) : call cfg 134 [.bool b] h = some (.ret (.int .i64 (truthI b)), h) := by
 rw [call134]
 cases b <;> simp only [F134, k134, Tryz.f134, sxAll, cA, Env.keep, resultsA, packA, ↓qAe, Nat.reduceBEq, ↓reduceIte, truthI] <;> exact leave_kept rfl rfl
theorem unary_eq (k a : Int) (hk : k = 5 ∨ k = 6) (h : Heap) : call cfg 103 [.int .u8 k, .int .i64 a] h = some (.ret (.tup [.int .i64 ((unaryF k a).getD 0), .bool true]), h) /\ (unaryF k a).isSome = true := by
 rw [call103]
 rcases hk with rfl | rfl
 ·refine ⟨?_, rfl⟩
  simp only [F103, k103, Tryz.f103, sxAll, cA, arithA, Env.keep, resultsA, packA, unA, ↓qAe, Nat.reduceBEq, ↓reduceIte, unaryF]
  exact leave_kept rfl rfl
 ·refine ⟨?_, rfl⟩
  simp only [F103, k103, Tryz.f103, sxAll, cA, arithA, Env.keep, qt_eq, resultsA, packA, mapO, ↓qAe, Nat.reduceBEq, Int.reduceBEq, ↓reduceIte, unaryF, truth_eq, pu134, show ((6 : Int) = 5) = False by simp]
  exact leave_kept rfl rfl
theorem opB_eq (a b : Int) (h : Heap) : call cfg 160 [.int .i64 a, .int .i64 b] h = some (.ret (.int .i64 (IntKind.i64.wrap (a + b))), h) := by
 rw [call160]; simp only [F160, k160, Tryz.f160, sxAll, cA, arithA, Env.keep, resultsA, packA, ↓qAe, Nat.reduceBEq, ↓reduceIte]; exact leave_kept rfl rfl
theorem opC_eq (a b : Int) (h : Heap) : call cfg 161 [.int .i64 a, .int .i64 b] h = some (.ret (.int .i64 (IntKind.i64.wrap (a - b))), h) := by
 rw [call161]; simp only [F161, k161, Tryz.f161, sxAll, cA, arithA, Env.keep, resultsA, packA, ↓qAe, Nat.reduceBEq, ↓reduceIte]; exact leave_kept rfl rfl
theorem opD_eq (a b : Int) (h : Heap) : call cfg 162 [.int .i64 a, .int .i64 b] h = some (.ret (.int .i64 (IntKind.i64.wrap (a * b))), h) := by
 rw [call162]; simp only [F162, k162, Tryz.f162, sxAll, cA, arithA, Env.keep, resultsA, packA, ↓qAe, Nat.reduceBEq, ↓reduceIte]; exact leave_kept rfl rfl
theorem opE_eq (a b : Int) (hb : (b == 0) = false) (h : Heap) : call cfg 163 [.int .i64 a, .int .i64 b] h = some (.ret (.int .i64 (IntKind.i64.wrap (a.tdiv b))), h) := by
 rw [call163]; simp only [F163, k163, Tryz.f163, sxAll, cA, arithA, Env.keep, resultsA, packA, ↓qAe, Nat.reduceBEq, ↓reduceIte, hb]; exact leave_kept rfl rfl
theorem opF_eq' (a b : Int) (hb : (b == 0) = false) (h : Heap) : call cfg 164 [.int .i64 a, .int .i64 b] h = some (.ret (.int .i64 (a.tmod b)), h) := by
 rw [call164]; simp only [F164, k164, Tryz.f164, sxAll, cA, arithA, Env.keep, resultsA, packA, ↓qAe, Nat.reduceBEq, ↓reduceIte, hb]; exact leave_kept rfl rfl
theorem opG_eq (a b : Int) (h : Heap) : call cfg 165 [.int .i64 a, .int .i64 b] h = some (.ret (.bool (decide (a < b))), h) := by
 rw [call165]; simp only [F165, k165, Tryz.f165, sxAll, cA, arithA, Env.keep, resultsA, packA, ↓qAe, Nat.reduceBEq, ↓reduceIte]; exact leave_kept rfl rfl
theorem opH_eq (a b : Int) (h : Heap) : call cfg 166 [.int .i64 a, .int .i64 b] h = some (.ret (.bool (decide (a <= b))), h) := by
 rw [call166]; simp only [F166, k166, Tryz.f166, sxAll, cA, arithA, Env.keep, resultsA, packA, ↓qAe, Nat.reduceBEq, ↓reduceIte]; exact leave_kept rfl rfl
theorem opI_eq (a b : Int) (h : Heap) : call cfg 167 [.int .i64 a, .int .i64 b] h = some (.ret (.bool (a == b)), h) := by
 rw [call167]; simp only [F167, k167, Tryz.f167, sxAll, cA, arithA, Env.keep, resultsA, packA, ↓qAe, Nat.reduceBEq, ↓reduceIte]; exact leave_kept rfl rfl
theorem opJ_eq (a b : Int) (h : Heap) : call cfg 168 [.int .i64 a, .int .i64 b] h = some (.ret (.bool (!(a == b))), h) := by
 rw [call168]; simp only [F168, k168, Tryz.f168, sxAll, cA, arithA, Env.keep, resultsA, packA, ↓qAe, Nat.reduceBEq, bne, ↓reduceIte]; exact leave_kept rfl rfl
theorem opK_eq (a b : Int) (h : Heap) : call cfg 169 [.int .i64 a, .int .i64 b] h = some (.ret (.bool (!(a == 0) && !(b == 0))), h) := by
 rw [call169]
 cases ha : a == 0 <;> simp only [F169, k169, Tryz.f169, sxAll, cA, arithA, Env.keep, resultsA, packA, ↓qAe, Nat.reduceBEq, bne, ↓reduceIte, ha] <;> exact leave_kept rfl rfl
theorem opL_eq (a b : Int) (h : Heap) : call cfg 170 [.int .i64 a, .int .i64 b] h = some (.ret (.bool (!(a == 0) || !(b == 0))), h) := by
 rw [call170]
 cases ha : a == 0 <;> simp only [F170, k170, Tryz.f170, sxAll, cA, arithA, Env.keep, resultsA, packA, ↓qAe, Nat.reduceBEq, bne, ↓reduceIte, ha] <;> exact leave_kept rfl rfl
theorem opAA_eq (a b : Int) (g : Nat) (v : Bool) (h : Heap) (hg : call cfg g [.int .i64 a, .int .i64 b] h = some (.ret (.bool v), h)) : call cfg 159 [.int .i64 a, .int .i64 b, .ref [.clo g []]] h = some (.ret (.int .i64 (truthI v)), h) := by
 rw [call159]
 simp only [F159, k159, Tryz.f159, sxAll, cA, Env.keep, qt_eq, resultsA, packA, loadA, Rv.part, cellsAt, TD.isAgg, mapO, ↓qAe, Nat.reduceBEq, Nat.reduceAdd, ↓reduceIte, hg, truth_eq, pu134, ty207]
 exact leave_kept rfl rfl
theorem opA_eq (g : Nat) (h : Heap) : call cfg 158 [.clo g []] h = some (.ret (.clo 159 [.ref [.clo g []]]), h) := by
 rw [call158]
 simp only [F158, k158, Tryz.f158, sxAll, cA, Env.keep, resultsA, packA, mapO, ↓qAe, Nat.reduceBEq, Nat.reduceAdd, ↓reduceIte, cells_clo, ty207]
 exact leave_kept rfl rfl
theorem mapAt_app0 (h : Heap) (es : List (AV × AV)) (X : Heap) : Heap.mapAt (h ++ .map es :: X) h.length = some es := by simp [Heap.mapAt]
theorem key_u8 (a : Int) : keyTd cfg 5 (.int .u8) (.int .u8 a) = true := rfl
theorem sameK_u8 (a b : Int) : sameK (.int .u8 a) (.int .u8 b) = some (a == b) := rfl
def opsE : List (AV × AV) := [(.int .u8 7, .clo 160 []), (.int .u8 8, .clo 161 []), (.int .u8 9, .clo 162 []), (.int .u8 10, .clo 163 []), (.int .u8 11, .clo 164 []), (.int .u8 12, .clo 159 [.ref [.clo 165 []]]),
 (.int .u8 13, .clo 159 [.ref [.clo 166 []]]), (.int .u8 14, .clo 159 [.ref [.clo 167 []]]), (.int .u8 15, .clo 159 [.ref [.clo 168 []]]), (.int .u8 16, .clo 159 [.ref [.clo 169 []]]), (.int .u8 17, .clo 159 [.ref [.clo 170 []]])]
theorem ops_eq (h : Heap) : call cfg 135 [] h = some (.ret (.map h.length), h ++ [.map opsE]) := by
 rw [call135]
 simp only [F135, k135, Tryz.f135, sxAll, cA, Env.keep, qt_eq, resultsA, packA, mapO, ↓qAe, Nat.reduceBEq, Int.reduceBEq, ↓reduceIte, ty186, ty5, known_map, opA_eq, updateA, key_u8, mapAt_app0, sameK_u8, putA, opsE]
 exact leave_impure pu135
theorem take_one (h : Heap) (x : AObj) : (h ++ [x]).take h.length = h := by simp
theorem binary_eq (k a b : Int) (h7 : 7 <= k) (h17 : k <= 17) (h : Heap) : call cfg 104 [.int .u8 k, .int .i64 a, .int .i64 b] h = some (.ret (.tup [.int .i64 ((binaryF k a b).getD 0), .bool (binaryF k a b).isSome]), h) := by
  rw [call104]
  have hk : k = 7 ∨ k = 8 ∨ k = 9 ∨ k = 10 ∨ k = 11 ∨ k = 12 ∨ k = 13 ∨ k = 14 ∨ k = 15 ∨ k = 16 ∨ k = 17 := by omega
  cases hb : b == 0 with
  | true =>
    have hb' : b = 0 := by simpa using hb
    have e1 : (0 : Int) == 0 := rfl
    rcases hk with rfl | rfl | rfl | rfl | rfl | rfl | rfl | rfl | rfl | rfl | rfl <;>
    (simp only [F104, k104, Tryz.f104, sxAll, cA, arithA, Env.keep, qt_eq, resultsA, packA, unA, Rv.part, TD.isAgg, mapO, ↓qAe, Nat.reduceBEq, Int.reduceBEq, ↓reduceIte, hb', ops_eq, pu135, lookupA, ty186, ty5, ty184, key_u8, Heap.ents, mapAt_app0, findA, opsE, sameK_u8, known_map, opB_eq, opC_eq, opD_eq, opAA_eq _ _ _ _ _ (opG_eq _ _ _), opAA_eq _ _ _ _ _ (opH_eq _ _ _), opAA_eq _ _ _ _ _ (opI_eq _ _ _), opAA_eq _ _ _ _ _ (opJ_eq _ _ _), opAA_eq _ _ _ _ _ (opK_eq _ _ _), opAA_eq _ _ _ _ _ (opL_eq _ _ _), binaryF, Int.reduceEq]
     exact leave_pure rfl (take_one _ _) rfl)
  | false =>
    have hb' : ¬ b = 0 := by simpa using hb
    rcases hk with rfl | rfl | rfl | rfl | rfl | rfl | rfl | rfl | rfl | rfl | rfl <;>
    (simp only [F104, k104, Tryz.f104, sxAll, cA, arithA, Env.keep, qt_eq, resultsA, packA, unA, Rv.part, TD.isAgg, mapO, ↓qAe, Nat.reduceBEq, Int.reduceBEq, ↓reduceIte, hb, hb', ops_eq, pu135, lookupA, ty186, ty5, ty184, key_u8, Heap.ents, mapAt_app0, findA, opsE, sameK_u8, known_map, opB_eq, opC_eq, opD_eq, opE_eq _ _ hb, opF_eq' _ _ hb, opAA_eq _ _ _ _ _ (opG_eq _ _ _), opAA_eq _ _ _ _ _ (opH_eq _ _ _), opAA_eq _ _ _ _ _ (opI_eq _ _ _), opAA_eq _ _ _ _ _ (opJ_eq _ _ _), opAA_eq _ _ _ _ _ (opK_eq _ _ _), opAA_eq _ _ _ _ _ (opL_eq _ _ _), binaryF, Int.reduceEq]
     exact leave_pure rfl (take_one _ _) rfl)
end
end Go.Proofs.Sx
