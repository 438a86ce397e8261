/-
  package step: numbers, stores, locks, prints.
-/
import Derived.Test.YthljjckomhnhoaaGreatDoorPtM
import Derived.Test.YthljjckomhnhoaaGreatDoorPtG
import Derived.Test.YthljjckomhnhoaaGreatDoorPtH
set_option linter.unusedSectionVars false
set_option linter.unusedSimpArgs false
set_option linter.unusedVariables false
set_option linter.defProp false
set_option maxHeartbeats 8000000
set_option maxRecDepth 100000
namespace Go.Proofs.Sx
open Go.Rv Go.Proofs
attribute [local congr] bind_left got_left
noncomputable section
theorem flatC_intL (xs : List Int) : flatC (intL xs) = intL xs := flatC_plain (plain_ints xs)
theorem storeA_out {H : Heap} {p : SProg} {s m : Nat} {tv ov ov' : AV} {l e : Int} (h : H.obj s 0 = some (p.cells ++ [.ptr m 0 0, tv, .int .i64 l, ov, .int .u8 e])) (hc : ov'.cells = [ov']) (hf : ov'.leaf = true) :
  storeA cfg H 66 (.ptr s 6 0) ov' = some (H.set s (.cells (p.cells ++ [.ptr m 0 0, tv, .int .i64 l, ov', .int .u8 e]) 0)) := by
 have := store1 (v := ov') ty66 h (off := 6) (by simp [SProg.cells]) hc hf
 rw [this]
 rfl
section
variable {p : SProg} {H : Heap} {ρ : Nat -> Role} {s : Nat} {σ : SSt} {t : Nat} {rest : List SFrame} {f : SFrame} {i : SIns} {w m mp : Nat} {cv tv ov : AV} {cs ts : List AV} {o g : Nat} {cap : Option Nat} {rvs c : List AV} (X : Ctx p H ρ s σ t rest f i w m mp cv tv ov cs ts o g cap rvs c) (hpc : f.pc < 1000000)
include X
theorem Ctx.other {H' : Heap} {ρ' : Nat -> Role} {σ' : SSt} {ov' : AV} (R : Rep p H' ρ' s σ' m mp cv tv ov' cs ts) (ht : σ'.thr = σ.thr) (hl : H.length <= H'.length)
  (K : ∀ x, x < H.length -> (ρ x = .work ∨ ρ x = .stack t ∨ ∃ k, ρ x = .regs t k) -> H'[x]? = H[x]? /\ ρ' x = ρ x) : Ctx p H' ρ' s σ' t rest f i w m mp cv tv ov' cs ts o g cap rvs c where
 rep := R
 hv := X.hv
 hf := by rw [ht]; exact X.hf
 stk := X.stk.mono fun x hx hr => K x hx (.inr hr)
 hw := obj_of X.hw (K w X.wL (.inl X.wR)).1
 wR := (K w X.wL (.inl X.wR)).2.trans X.wR
theorem Did.of {H' H'' : Heap} {ρ' : Nat -> Role} {x : SSt × Bool} (F : Frm H ρ H' ρ') (D : Did p H' ρ' s t w i x H'') : Did p H ρ s t w i x H'' := by
 obtain ⟨ρ2, o2, k2, g2, a, b, d, e⟩ := D
 exact ⟨ρ2, o2, k2, g2, a, b, d, F.trans e⟩
include hpc
theorem unaryW_eq (hr : RegOk f i.r) (ha : RegOk f i.a) (hn : i.n = 5 ∨ i.n = 6) (h1 : i.op = 3) : ∃ H', call cfg 73 [.ptr w 0 0] H = some (.ret (.tup []), H') /\ Did p H ρ s t w i (exeS p σ t rest f i) H' := by
 obtain ⟨oR, gR, cp, V, hRr, k2⟩ := X.view
 obtain ⟨hu, hs⟩ := unary_eq i.n (regV f i.a) hn H
 obtain ⟨v, hv⟩ := Option.isSome_iff_exists.1 hs
 rw [hv] at hu
 refine ⟨_, ?_, by rw [exeS]; simp only [h1]; rw [show (3 : Int) = 3 from rfl]; simp only [if_pos, hv, Int.reduceEq, if_false]; exact X.topped V hRr k2 (regs' := f.regs.set i.r.toNat v) (by simp) (f.pc + 1)⟩
 rw [call73]
 have hw := V.hw
 have hlw := V.lw
 have hb := becomes_eq V (v := v) hr.1 hr.2 hpc
 have hg := reg_eq V ha.1 ha.2
 have hwr : IntKind.u8.wrap i.n = i.n := by rcases hn with h | h <;> rw [h] <;> rfl
 simp only [workC] at hw
 simp only [Option.getD_some] at hu
 simp only [F73, k73, Tryz.f73, sxAll, cA, Env.keep, qt_eq, resultsA, packA, fieldAddrA, Rv.part, TD.isAgg, convH, convA, mapO, ↓qAe, Nat.reduceBEq, Nat.reduceAdd, ↓reduceIte, load_ptr, hw, hlw, hb, hg, hu, hwr, pu102, pu103, ty106, ty41, ty3, ty2, ty5]
 exact leave_impure pu73
theorem binaryW_eq (hr : RegOk f i.r) (ha : RegOk f i.a) (hb : RegOk f i.b) (h7 : 7 <= i.n) (h17 : i.n <= 17) (h1 : i.op = 4) : ∃ H', call cfg 74 [.ptr w 0 0] H = some (.ret (.tup []), H') /\ Did p H ρ s t w i (exeS p σ t rest f i) H' := by
 obtain ⟨oR, gR, cp, V, hRr, k2⟩ := X.view
 have hu := binary_eq i.n (regV f i.a) (regV f i.b) h7 h17 H
 have hw := V.hw
 have hlw := V.lw
 have hg := reg_eq V ha.1 ha.2
 have hg2 := reg_eq V hb.1 hb.2
 have hwr : IntKind.u8.wrap i.n = i.n := by
  have hk : i.n = 7 ∨ i.n = 8 ∨ i.n = 9 ∨ i.n = 10 ∨ i.n = 11 ∨ i.n = 12 ∨ i.n = 13 ∨ i.n = 14 ∨ i.n = 15 ∨ i.n = 16 ∨ i.n = 17 := by omega
  rcases hk with h | h | h | h | h | h | h | h | h | h | h <;> rw [h] <;> rfl
 simp only [workC] at hw
 have hx : exeS p σ t rest f i = becomesS σ t rest f i.r (binaryF i.n (regV f i.a) (regV f i.b)) := by rw [exeS]; simp only [h1]; rfl
 rw [hx]
 cases hv : binaryF i.n (regV f i.a) (regV f i.b) with
 | none =>
  rw [hv] at hu
  refine ⟨_, ?_, X.trapped⟩
  rw [call74]
  have hbn := becomes_no V (v := 0)
  simp only [Option.getD_none, Option.isSome_none] at hu
  simp only [F74, k74, Tryz.f74, sxAll, cA, Env.keep, qt_eq, resultsA, packA, fieldAddrA, Rv.part, TD.isAgg, convH, convA, mapO, ↓qAe, Nat.reduceBEq, Nat.reduceAdd, ↓reduceIte, load_ptr, hw, hlw, hbn, hg, hg2, hu, hwr, pu102, pu104, ty106, ty41, ty3, ty2, ty5]
  exact leave_impure pu74
 | some v =>
  rw [hv] at hu
  refine ⟨_, ?_, X.topped V hRr k2 (regs' := f.regs.set i.r.toNat v) (by simp) (f.pc + 1)⟩
  rw [call74]
  have hbn := becomes_eq V (v := v) hr.1 hr.2 hpc
  simp only [Option.getD_some, Option.isSome_some] at hu
  simp only [F74, k74, Tryz.f74, sxAll, cA, Env.keep, qt_eq, resultsA, packA, fieldAddrA, Rv.part, TD.isAgg, convH, convA, mapO, ↓qAe, Nat.reduceBEq, Nat.reduceAdd, ↓reduceIte, load_ptr, hw, hlw, hbn, hg, hg2, hu, hwr, pu102, pu104, ty106, ty41, ty3, ty2, ty5]
  exact leave_impure pu74
theorem acquire_eq (h0 : 0 <= i.n) (hn : i.n < p.locks.length) (h1 : i.op = 7) : ∃ H', call cfg 77 [.ptr w 0 0] H = some (.ret (.tup []), H') /\ Did p H ρ s t w i (exeS p σ t rest f i) H' := by
 obtain ⟨oR, gR, cp, V, hRr, k2⟩ := X.view
 have hw := V.hw
 have hlw := V.lw
 have hs := X.rep.st
 have hls := live_of hs
 have ht := memTake_eq X.rep.mem X.rep.held h0 hn (t : Int)
 simp only [workC] at hw
 simp only [SProg.cells, qBr, qBq] at hs
 have hx : exeS p σ t rest f i = if (whoHas σ.held i.n).isNone then (setStk { σ with held := σ.held ++ [(i.n, (t : Int))] } t (rest ++ [onward f]), false) else (σ, true) := by rw [exeS]; simp only [h1]; rfl
 rw [hx]
 cases hv : (whoHas σ.held i.n).isNone with
 | true =>
  rw [hv] at ht
  simp only [if_true] at ht ⊢
  have k : ∀ x, ρ x ≠ .held -> (H.set mp (.map (heldA (σ.held ++ [(i.n, (t : Int))]))))[x]? = H[x]? := fun x hx => by rw [qAw]; intro hc; exact hx (hc ▸ X.rep.heldR)
  have X1 := X.other (X.rep.locks (σ.held ++ [(i.n, (t : Int))])) rfl (by simp) fun x _ hr => ⟨k x (by rcases hr with hr | hr | ⟨q, hr⟩ <;> rw [hr] <;> simp), rfl⟩
  obtain ⟨oR, gR, cp, V1, hRr, k2⟩ := X1.view
  refine ⟨_, ?_, Did.of X ⟨by simp, fun x hx hr => ⟨k x (by rw [hr]; simp), hr⟩⟩ (X1.placed V1 hRr k2 (f.pc + 1))⟩
  have hd := done_eq V1 hpc
  rw [call77]
  simp only [F77, k77, Tryz.f77, sxAll, cA, Env.keep, qt_eq, resultsA, packA, fieldAddrA, Rv.part, TD.isAgg, mapO, ↓qAe, ↓qAh, Nat.reduceBEq, Nat.reduceAdd, ↓reduceIte, load_ptr, hw, hlw, hs, hls, ht, hd, pu109, pu107, ty106, ty41, ty42, ty68, ty61, ty3, ty2]
  exact leave_impure pu77
 | false =>
  rw [hv] at ht
  simp only [qAb, if_false] at ht ⊢
  refine ⟨_, ?_, X.trapped⟩
  have hd := done_no V (e := 6) (by decide)
  rw [call77]
  simp only [F77, k77, Tryz.f77, sxAll, cA, Env.keep, qt_eq, resultsA, packA, fieldAddrA, Rv.part, TD.isAgg, mapO, ↓qAe, ↓qAh, Nat.reduceBEq, Nat.reduceAdd, ↓reduceIte, load_ptr, hw, hlw, hs, hls, ht, hd, pu109, pu107, ty106, ty41, ty42, ty68, ty61, ty3, ty2]
  exact leave_impure pu77
theorem release_eq (h0 : 0 <= i.n) (hn : i.n < p.locks.length) (h1 : i.op = 8) : ∃ H', call cfg 78 [.ptr w 0 0] H = some (.ret (.tup []), H') /\ Did p H ρ s t w i (exeS p σ t rest f i) H' := by
 obtain ⟨oR, gR, cp, V, hRr, k2⟩ := X.view
 have hw := V.hw
 have hlw := V.lw
 have hs := X.rep.st
 have hls := live_of hs
 have ht := memGive_eq X.rep.mem X.rep.held h0 hn (t : Int)
 simp only [workC] at hw
 simp only [SProg.cells, qBr, qBq] at hs
 have hx : exeS p σ t rest f i = if whoHas σ.held i.n = some (t : Int) then (setStk { σ with held := letGo σ.held i.n } t (rest ++ [onward f]), false) else (σ, true) := by rw [exeS]; simp only [h1]; rfl
 rw [hx]
 by_cases hv : whoHas σ.held i.n = some (t : Int)
 ·rw [if_pos hv] at ht
  rw [if_pos hv]
  have k : ∀ x, ρ x ≠ .held -> (H.set mp (.map (heldA (letGo σ.held i.n))))[x]? = H[x]? := fun x hx => by rw [qAw]; intro hc; exact hx (hc ▸ X.rep.heldR)
  have X1 := X.other (X.rep.locks (letGo σ.held i.n)) rfl (by simp) fun x _ hr => ⟨k x (by rcases hr with hr | hr | ⟨q, hr⟩ <;> rw [hr] <;> simp), rfl⟩
  obtain ⟨oR, gR, cp, V1, hRr, k2⟩ := X1.view
  refine ⟨_, ?_, Did.of X ⟨by simp, fun x hx hr => ⟨k x (by rw [hr]; simp), hr⟩⟩ (X1.placed V1 hRr k2 (f.pc + 1))⟩
  have hd := done_eq V1 hpc
  rw [call78]
  simp only [F78, k78, Tryz.f78, sxAll, cA, Env.keep, qt_eq, resultsA, packA, fieldAddrA, Rv.part, TD.isAgg, mapO, ↓qAe, ↓qAh, Nat.reduceBEq, Nat.reduceAdd, ↓reduceIte, load_ptr, hw, hlw, hs, hls, ht, hd, pu110, pu107, ty106, ty41, ty42, ty68, ty61, ty3, ty2]
  exact leave_impure pu78
 ·rw [if_neg hv] at ht
  rw [if_neg hv]
  refine ⟨_, ?_, X.trapped⟩
  have hd := done_no V (e := 69) (by decide)
  rw [call78]
  simp only [F78, k78, Tryz.f78, sxAll, cA, Env.keep, qt_eq, resultsA, packA, fieldAddrA, Rv.part, TD.isAgg, mapO, ↓qAe, ↓qAh, Nat.reduceBEq, Nat.reduceAdd, ↓reduceIte, load_ptr, hw, hlw, hs, hls, ht, hd, pu110, pu107, ty106, ty41, ty42, ty68, ty61, ty3, ty2]
  exact leave_impure pu78
theorem store_eq (ha : i.a = -1 ∨ RegOk f i.a) (hb : RegOk f i.b) (h1 : i.op = 6) : ∃ H', call cfg 76 [.ptr w 0 0] H = some (.ret (.tup []), H') /\ Did p H ρ s t w i (exeS p σ t rest f i) H' := by
 obtain ⟨oR, gR, cp, V, hRr, k2⟩ := X.view
 have hw := V.hw
 have hlw := V.lw
 have hs := X.rep.st
 have hls := live_of hs
 have hp := place_eq V ha
 have hg := reg_eq V hb.1 hb.2
 simp only [workC] at hw
 simp only [SProg.cells, qBr, qBq] at hs
 have hx : exeS p σ t rest f i = if (cellOf σ i.n (placeOf f i)).isSome then (setStk (setCell σ i.n (placeOf f i) (regV f i.b)) t (rest ++ [onward f]), false) else (σ, true) := by rw [exeS]; simp only [h1]; rfl
 rw [hx]
 rcases memSet_eq X.rep.mem X.rep.cArr X.rep.cLen X.rep.cell i.n (placeOf f i) (regV f i.b) (σ := σ) rfl with ⟨hc, e, he, ht⟩ | ⟨hc, l, o2, g2, cap2, hl, hcs, ht⟩
 ·rw [hc]
  simp only [Option.isSome_none, qAb, if_false]
  refine ⟨_, ?_, X.trapped⟩
  have hd := done_no V he
  rw [call76]
  simp only [F76, k76, Tryz.f76, sxAll, cA, Env.keep, qt_eq, resultsA, packA, fieldAddrA, Rv.part, TD.isAgg, mapO, ↓qAe, ↓qAh, Nat.reduceBEq, Nat.reduceAdd, ↓reduceIte, load_ptr, hw, hlw, hs, hls, hp, hg, ht, hd, pu108, pu107, pu102, pu106, ty106, ty41, ty42, ty68, ty61, ty3, ty2]
  exact leave_impure pu76
 ·rw [hc]
  simp only [if_true]
  obtain ⟨o3, g3, cap3, e3, ho3, hr3⟩ := X.rep.cell _ _ _ hcs hl
  injection e3 with e31 _ _ _ e35; subst e31 e35
  have k : ∀ x, ρ x ≠ .cell i.n.toNat -> (H.set o2 (.cells (intL (l.set (placeOf f i).toNat (regV f i.b))) g2))[x]? = H[x]? := fun x hx => by rw [qAw]; intro hc; exact hx (hc ▸ hr3)
  have R1 := X.rep.setCell hcs hl (l.set (placeOf f i).toNat (regV f i.b)) (by simp)
  rw [show ({ σ with cells := σ.cells.set i.n.toNat (l.set (placeOf f i).toNat (regV f i.b)) } : SSt) = setCell σ i.n (placeOf f i) (regV f i.b) by
   unfold setCell
   rw [qBp, hl]; rfl] at R1
  have X1 := X.other R1 rfl (by simp) fun x _ hr => ⟨k x (by rcases hr with hr | hr | ⟨q, hr⟩ <;> rw [hr] <;> simp), rfl⟩
  obtain ⟨oR, gR, cp, V1, hRr, k2⟩ := X1.view
  refine ⟨_, ?_, Did.of X ⟨by simp, fun x hx hr => ⟨k x (by rw [hr]; simp), hr⟩⟩ (X1.placed V1 hRr k2 (f.pc + 1))⟩
  have hd := done_eq V1 hpc
  rw [call76]
  simp only [F76, k76, Tryz.f76, sxAll, cA, Env.keep, qt_eq, resultsA, packA, fieldAddrA, Rv.part, TD.isAgg, mapO, ↓qAe, ↓qAh, Nat.reduceBEq, Nat.reduceAdd, ↓reduceIte, load_ptr, hw, hlw, hs, hls, hp, hg, ht, hd, pu108, pu107, pu102, pu106, ty106, ty41, ty42, ty68, ty61, ty3, ty2]
  exact leave_impure pu76
theorem out_built (R : Rep p H ρ s σ m mp cv tv ov cs ts) : Built H ov (intL σ.out) 1 := by
 rcases R.out with ⟨h1, h2⟩ | ⟨o, g, cap, h1, h2, _, h4⟩
 ·exact .inl ⟨h1, by rw [h2]; rfl⟩
 ·exact .inr ⟨o, g, cap, by rw [h1]; simp [intL], by rw [flatC_intL]; exact h2, by simpa [intL] using h4⟩
theorem print_eq (ha : RegOk f i.a) (hl : σ.out.length < 1000000000) (h1 : i.op = 9) : ∃ H', call cfg 79 [.ptr w 0 0] H = some (.ret (.tup []), H') /\ Did p H ρ s t w i (exeS p σ t rest f i) H' := by
 obtain ⟨oR, gR, cp, V, hRr, k2⟩ := X.view
 have hw := V.hw
 have hlw := V.lw
 have hs := X.rep.st
 have hls := live_of hs
 have hg := reg_eq V ha.1 ha.2
 have hx : exeS p σ t rest f i = (setStk { σ with out := σ.out ++ [regV f i.a] } t (rest ++ [onward f]), false) := by rw [exeS]; simp only [h1]; rfl
 rw [hx]
 have B := out_built X hpc X.rep
 obtain ⟨v', H', q1, q2, q3, q4, q5⟩ := append_built (ys := [AV.int .i64 (regV f i.a)]) B (plain_ints _).size (fun y hy => (plain_ints [regV f i.a]).leafs y hy) (by omega) (by simp [intL, mostLen]; omega)
 have kv := known_built B
 have kv' := known_built q2
 have cv' := built_cells q2
 have lv' := built_leaf q2
 obtain ⟨ρ', hρ, hfr, hnew⟩ : ∃ ρ' : Nat -> Role, (∀ x, x < H.length -> ρ' x = ρ x) /\ (∀ o, H'.length <= o -> ρ' o = .other) /\ ∀ o, objOf v' = some o -> ρ' o = .out := by
  rcases q5 with q5 | q5
  ·refine ⟨ρ, fun _ _ => rfl, fun o ho => X.rep.fresh o (by omega), fun o ho => ?_⟩
   rw [q5] at ho
   rcases X.rep.out with ⟨h1, h2⟩ | ⟨o', g', cap', h1, _, h3, _⟩
   ·rw [h1] at ho; cases ho
   ·rw [h1] at ho; injection ho with ho; subst ho; exact h3
  ·refine ⟨upd ρ H.length .out, fun x hx => upd_ne (by omega), fun o ho => ?_, fun o ho => ?_⟩
   ·have := built_lt q2 q5
    rw [upd_ne (by omega)]; exact X.rep.fresh o (by omega)
   ·rw [q5] at ho; injection ho with ho; subst ho; exact upd_self _ _ _
 have hkeep : ∀ x, x < H.length -> ρ x ≠ .out -> H'[x]? = H[x]? := fun x hx hr => q4 x hx fun hc => by
  rcases X.rep.out with ⟨h1, h2⟩ | ⟨o', g', cap', h1, _, h3, _⟩
  ·rw [h1] at hc; cases hc
  ·rw [h1] at hc; injection hc with hc; subst hc; exact hr h3
 have O : (v' = .lst [] 0 .nil /\ σ.out ++ [regV f i.a] = []) ∨ ∃ o g cap, v' = .msl o 0 (σ.out ++ [regV f i.a]).length 1 g cap /\ H'.obj o g = some (intL (σ.out ++ [regV f i.a])) /\ ρ' o = .out /\ (cap = none ∨ cap = some (σ.out ++ [regV f i.a]).length) := by
  rcases q2 with ⟨_, h2⟩ | ⟨o, g, cap, h1, h2, h3⟩
  ·simp [intL] at h2
  ·right
   refine ⟨o, g, cap, by rw [h1]; simp [intL], ?_, hnew o (by rw [h1]; rfl), by simpa [intL] using h3⟩
   rw [show intL σ.out ++ [AV.int .i64 (regV f i.a)] = intL (σ.out ++ [regV f i.a]) by simp [intL], flatC_intL] at h2
   exact h2
 have hsL := obj_some hs
 have R1 := X.rep.print (σ.out ++ [regV f i.a]) q3 (fun o ho _ _ h3 => ⟨hkeep o ho h3, hρ o ho⟩) O hfr
 have hs' : H'.obj s 0 = some (p.cells ++ [.ptr m 0 0, tv, .int .i64 σ.last, ov, .int .u8 σ.ending]) := obj_of hs (hkeep s hsL (by rw [X.rep.stR]; simp))
 have hls' := live_of hs'
 have hw' := obj_of V.hw (hkeep w X.wL (by rw [X.wR]; simp))
 have hlw' := live_of hw'
 have X1 := X.other R1 rfl (by simpa using q3) fun x hx hr => ⟨by
  rw [qAw (by intro hc; rw [← hc, X.rep.stR] at hr; rcases hr with hr | hr | ⟨q, hr⟩ <;> cases hr)]
  exact hkeep x hx (by rcases hr with hr | hr | ⟨q, hr⟩ <;> rw [hr] <;> simp), hρ x hx⟩
 obtain ⟨oR, gR, cp, V1, hRr, k2⟩ := X1.view
 refine ⟨_, ?_, Did.of X ⟨by simpa using q3, fun x hx hr => ⟨?_, (hρ x hx).trans hr⟩⟩ (X1.placed V1 hRr k2 (f.pc + 1))⟩
 ·have hst := storeA_out (ov' := v') hs' cv' lv'
  have hw1 := V1.hw
  have hlw1 := V1.lw
  have hlo1 := V1.lo
  have hL := V1.len
  have hst2 := store1 (v := .int .i64 ((f.pc + 1 : Nat) : Int)) ty3 V1.ho (off := rest.length * 3 + 1) (by omega) rfl rfl
  have hwr := wrap_succ (i := f.pc) (by omega)
  simp only [workC] at hw hw' hw1
  simp only [SProg.cells, qBr, qBq] at hs hs' hst hw1 hlw1 hlo1 hst2
  have d1 := V1.d1
  have ho1 := V1.ho
  simp only [SProg.cells, qBr, qBq] at ho1
  have hgr : elems H (.lst [AV.int .i64 (regV f i.a)] 1 (.exact 1)) = some [AV.int .i64 (regV f i.a)] := rfl
  rw [call79]
  simp (config := { maxSteps := 2000000 }) only [F79, k79, Tryz.f79, sxAll, cA, arithA, Env.keep, qt_eq, resultsA, packA, fieldAddrA, Rv.part, TD.isAgg, fillA, setCells, copies, mapO, ↓qAe, ↓qAh, Nat.reduceBEq, Nat.reduceAdd, Nat.reduceMul, Nat.reduceLeDiff, Nat.reduceGT, bne, ↓reduceIte, load_ptr, hw, hlw, hw', hlw', hs, hls, hls', hg, kv, kv', sx_append_l, la79_21, nilA_ptr, eqb_self, group, elems, q1, hst, hw1, hlw1, hlo1, ho1, d1, hst2, hwr, pu102, ty106, ty71, ty74, ty41, ty42, ty68, ty66, ty3, ty2]
  exact leave_impure pu79
 ·rw [qAw (by intro hc; rw [← hc, X.rep.stR] at hr; cases hr)]
  exact hkeep x hx (by rw [hr]; simp)
end
end
end Go.Proofs.Sx
namespace Go.Proofs.Sx
open Go.Rv Go.Proofs
attribute [local congr] bind_left got_left
noncomputable section
theorem pu54 : cfg.pure 54 = true := rfl
instance t54 {d : Option Nat} : TightD cfg 54 d := ⟨fun _ _ => rfl⟩
def B54 (p : List Bool) := cA p Tryz.f54.body
def R54 (p : List Bool) (i : Nat) := Code.region i (cA p Tryz.f54.body) false
def D54 (p : List Bool) (i : Nat) := Code.region i (cA p Tryz.f54.body) true
theorem F54 : (∀ p i, XR cfg 54 (R54 p i) (B54 p) (cA p Tryz.f54.body).toList i false) /\ XR cfg 54 (D54 [tt, ff] 1) (B54 [tt, ff]) ((cA [tt, ff] Tryz.f54.body).toList) 1 true /\ RE cfg 54 [0, 1, 4] /\ cfg.pure 54 = true := ⟨fun _ _ => xr rfl rfl, xd (by kernel_rfl) rfl rfl, rE fun _ => rfl, rfl⟩
def k54 : Code := (.seq (R54 [ff] 0) (.seq (D54 [tt, ff] 1) .ret))
theorem call54 (x0 x1 : AV) (h : Heap) : call cfg 54 [x0, x1] h = (exec cfg 54 k54 [(0, x0), (1, x1)] h).bind (callEnd cfg 54 h [.cell 4 41]) := call_at2 (fnat Tryz.func54 (b := k54) (by kernel_rfl) (by kernel_rfl)) rfl rfl
theorem pu29 : cfg.pure 29 = true := rfl
instance t29 {d : Option Nat} : TightD cfg 29 d := ⟨fun _ _ => rfl⟩
def B29 (p : List Bool) := cA p Tryz.f29.body
def R29 (p : List Bool) (i : Nat) := Code.region i (cA p Tryz.f29.body) false
def D29 (p : List Bool) (i : Nat) := Code.region i (cA p Tryz.f29.body) true
theorem F29 : (∀ p i, XR cfg 29 (R29 p i) (B29 p) (cA p Tryz.f29.body).toList i false) /\ GO cfg 29 (B29 [tt, ff, ff]) 2 7 /\ GO cfg 29 (B29 [tt, ff, ff]) 6 11 /\ GO cfg 29 (B29 [tt, ff, ff]) 15 20 /\ XR cfg 29 (D29 [tt, tt, ff] 3) (B29 [tt, tt, ff]) ((cA [tt, tt, ff] Tryz.f29.body).toList) 3 true /\ RE cfg 29 [0, 1, 4, 30] /\ cfg.pure 29 = true := ⟨fun _ _ => xr rfl rfl, gO (by kernel_rfl), gO (by kernel_rfl), gO (by kernel_rfl), xd (by kernel_rfl) rfl rfl, rE fun _ => rfl, rfl⟩
def k29 : Code := (.seq (R29 [ff] 0) (.seq (.seq (R29 [tt, ff, ff] 1) (.cond (.tmp 30) (.seq (R29 [tt, ff, tt, ff, ff] 2) .ret) .skip)) (.seq (D29 [tt, tt, ff] 3) .ret)))
theorem call29 (x0 x1 : AV) (h : Heap) : call cfg 29 [x0, x1] h = (exec cfg 29 k29 [(0, x0), (1, x1)] h).bind (callEnd cfg 29 h [.tmp 4]) := call_at2 (fnat Tryz.func29 (b := k29) (by kernel_rfl) (by kernel_rfl)) rfl rfl
theorem pu27 : cfg.pure 27 = false := rfl
instance t27 {d : Option Nat} : TightD cfg 27 d := ⟨fun _ _ => rfl⟩
def B27 (p : List Bool) := cA p Tryz.f27.body
def R27 (p : List Bool) (i : Nat) := Code.region i (cA p Tryz.f27.body) false
theorem F27 : (∀ p i, XR cfg 27 (R27 p i) (B27 p) (cA p Tryz.f27.body).toList i false) /\ RE cfg 27 [0, 1, 2, 6, 7] /\ cfg.pure 27 = false := ⟨fun _ _ => xr rfl rfl, rE fun _ => rfl, rfl⟩
def k27 : Code := (.seq (R27 [ff] 0) (.seq (R27 [tt, ff] 1) (.seq (R27 [tt, tt, ff] 2) (.seq (R27 [tt, tt, tt, ff] 3) .ret))))
theorem call27 (x0 x1 x2 : AV) (h : Heap) : call cfg 27 [x0, x1, x2] h = (exec cfg 27 k27 [(0, x0), (1, x1), (2, x2)] h).bind (callEnd cfg 27 h [.cell 6 71]) := call_at2 (fnat Tryz.func27 (b := k27) (by kernel_rfl) (by kernel_rfl)) rfl rfl
theorem insAt_some {p : SProg} {f : SFrame} {i : SIns} (h : insAt p f = some i) : ∃ F, p.funs[f.fn]? = some F /\ F.code[f.pc]? = some i := by
 unfold insAt at h
 obtain ⟨F, h1, h2⟩ := qAc.1 h
 exact ⟨F, h1, h2⟩
theorem ins_eq {p : SProg} {H : Heap} {s o g k : Nat} {tl c : List AV} {f : SFrame} {i : SIns} (hs : H.obj s 0 = some (p.cells ++ tl)) (ho : H.obj o g = some c) (d0 : c.drop k = .int .i64 f.fn :: c.drop (k + 1)) (d1 : c.drop (k + 1) = .int .i64 f.pc :: c.drop (k + 2)) (hi : insAt p f = some i) :
  call cfg 54 [.ptr s 0 0, .ptr o k g] H = some (.ret (.agg i.cells), H) := by
 obtain ⟨F, hF, hc⟩ := insAt_some hi
 have hls := live_of hs
 have hlo := live_of ho
 have e1 := funsL_get hF
 have e2 := codeL_get hc
 have os := obj_leftS [AObj.cells [.int .u8 0, .int .i64 0, .int .i64 0, .int .i64 0, .int .i64 0, .lst [] 0 .nil] 0] hs
 have oo := obj_leftS [AObj.cells [.int .u8 0, .int .i64 0, .int .i64 0, .int .i64 0, .int .i64 0, .lst [] 0 .nil] 0] ho
 have ls := live_of os
 have lo := live_of oo
 rw [call54]
 simp only [SProg.cells, qBr, qBq] at os
 simp only [SIns.cells, SFun.cells] at e1 e2 ⊢
 simp only [F54, k54, Tryz.f54, sxAll, cA, Env.keep, qt_eq, resultsA, packA, storeA, indexAddrA, fieldAddrA, loadA, Rv.part, cellsAt, TD.isAgg, setCells, ↓qAe, Nat.reduceBEq, Nat.reduceAdd, Nat.reduceLeDiff, ↓reduceIte, os, oo, ls, lo, d0, d1, e1, e2, Nat.add_zero, ty68, ty26, ty39, ty24, ty37, ty41, ty71, ty3]
 exact leave_pure rfl (take_one _ _) (freeze_ins _ _ 37 i)
section
variable {p : SProg} {H : Heap} {ρ : Nat -> Role} {s : Nat} {σ : SSt} {m mp : Nat} {cv tv ov : AV} {cs ts : List AV} (R : Rep p H ρ s σ m mp cv tv ov cs ts)
include R
theorem top_some {t : Nat} {rest : List SFrame} {f : SFrame} {o g : Nat} {cap : Option Nat} {rvs c : List AV} (hv : ts[t]? = some (.msl o 0 (rest ++ [f]).length 3 g cap)) (S : Stk H ρ t (rest ++ [f]) rvs o g cap c) (hr : rest.length < 1000000000) :
  call cfg 29 [.ptr s 0 0, .int .i64 t] H = some (.ret (.ptr o (rest.length * 3) g), H) := by
 have hs := R.st
 have hls := live_of hs
 have e0 := ptr_eq_nil (H := H) (k := 0) ty42 hls
 have kt := R.tArr.known
 have lt := R.tArr.len 73
 have htl := (qAu.1 hv).1
 obtain ⟨oT, gT, i1, i2, i3, i4⟩ := R.tArr.at (i := (t : Int)) (by omega) hv ty65 ty73
 simp only [Int.toNat_natCast] at i1 i4
 have hlo := live_of S.obj
 have h1 : ((t : Int) >= (ts.length : Int)) = False := by simp; omega
 have l2 : lenA H (.slice 71) (.msl o 0 (rest ++ [f]).length 3 g cap) = some (rest ++ [f]).length := by simp [lenA, hlo]
 have h2 : (((rest ++ [f]).length : Nat) : Int) = (rest.length : Int) + 1 := by simp
 have h3 : ((rest.length : Int) + 1 == 0) = false := by simp; omega
 have h4 : IntKind.i64.wrap ((rest.length : Int) + 1 - 1) = rest.length := by rw [wrap_id (by omega) (by omega)]; omega
 have i5 : indexAddrA cfg H 73 (.msl o 0 (rest ++ [f]).length 3 g cap) (.int .i64 rest.length) = some (.ptr o (rest.length * 3) g) := by
  have : ¬ (rest.length : Int) < 0 := by omega
  simp [indexAddrA, ty73, ty71, hlo, this]
 have hoL := obj_some S.obj
 rw [call29]
 simp only [SProg.cells, qBr, qBq] at hs
 generalize hN : (rest ++ [f]).length = N at *
 simp only [F29, k29, Tryz.f29, sxAll, cA, arithA, Env.keep, qt_eq, resultsA, packA, fieldAddrA, Rv.part, TD.isAgg, ↓qAe, Nat.reduceBEq, Nat.reduceAdd, ↓reduceIte, load_ptr, hs, hls, e0, kt, lt, h1, i1, i2, i4, l2, h2, h3, h4, i5, ty68, ty65, ty73]
 exact leave_kept rfl (by simp [freezeV, hoL])
theorem top_none {t : Int} (hn : t < 0 ∨ (σ.thr.length : Int) <= t ∨ (0 <= t /\ σ.thr[t.toNat]? = some [])) : call cfg 29 [.ptr s 0 0, .int .i64 t] H = some (.ret .nilPtr, H) := by
 have hs := R.st
 have hls := live_of hs
 have e0 := ptr_eq_nil (H := H) (k := 0) ty42 hls
 have kt := R.tArr.known
 have lt := R.tArr.len 73
 simp only [SProg.cells, qBr, qBq] at hs
 rw [call29]
 by_cases h1 : t < 0
 ·simp only [F29, k29, Tryz.f29, sxAll, cA, arithA, Env.keep, resultsA, packA, ↓qAe, Nat.reduceBEq, ↓reduceIte, e0, h1]
  exact leave_kept rfl rfl
 by_cases h2 : t >= (ts.length : Int)
 ·simp only [F29, k29, Tryz.f29, sxAll, cA, arithA, Env.keep, qt_eq, resultsA, packA, fieldAddrA, Rv.part, TD.isAgg, ↓qAe, Nat.reduceBEq, Nat.reduceAdd, ↓reduceIte, load_ptr, hs, hls, e0, kt, lt, h1, h2, ty68, ty65]
  exact leave_kept rfl rfl
 have hn' : σ.thr[t.toNat]? = some [] := by
  rcases hn with h | h | h
  ·exact absurd h h1
  ·rw [← R.tLen] at h; exact absurd h h2
  ·exact h.2
 obtain ⟨v, hv⟩ : ∃ v, ts[t.toNat]? = some v := ⟨_, qAs (by omega)⟩
 obtain ⟨rvs, o, g, cap, c, rfl, S⟩ := R.stk _ _ _ hv hn'
 obtain ⟨oT, gT, i1, i2, i3, i4⟩ := R.tArr.at (i := t) (by omega) hv ty65 ty73
 have hlo := live_of S.obj
 have l2 : lenA H (.slice 71) (.msl o 0 ([] : List SFrame).length 3 g cap) = some 0 := by simp [lenA, hlo]
 simp only [List.length_nil] at l2 i4
 simp only [F29, k29, Tryz.f29, sxAll, cA, arithA, Env.keep, qt_eq, resultsA, packA, fieldAddrA, Rv.part, TD.isAgg, ↓qAe, Nat.reduceBEq, Nat.reduceAdd, ↓reduceIte, load_ptr, hs, hls, e0, kt, lt, h1, h2, i1, i2, i4, l2, qBo, ty68, ty65, ty73]
 exact leave_kept rfl rfl
end
theorem copies_int : ∀ n : Nat, copies n [AV.int .i64 0] = intL (List.replicate n 0)
 | 0 => rfl
 | n + 1 => by
  have := copies_int n
  simp only [copies, this, List.replicate_succ, intL, qAm, qBr, qBq]
theorem setCells_pre : ∀ (ds cs : List AV), ds.length <= cs.length -> setCells cs 0 ds = ds ++ cs.drop ds.length := fun ds cs h => by
 apply qBk
 intro i
 rw [setCells_at ds cs 0 (by omega)]
 by_cases hi : i < ds.length
 ·rw [if_pos ⟨by omega, by omega⟩, qAx hi]; simp
 ·rw [if_neg (by omega), qAy (by omega), List.getElem?_drop]
  congr 1; omega
theorem copy_new {H : Heap} {oR N : Nat} {u : Nat} {args : List Int} {av : AV} (ho : H.obj oR 0 = some (copies N [AV.int .i64 0])) (hl : args.length <= N) (he : elems H av = some (intL args)) :
  moreA cfg H .copy [66, u] [.msl oR 0 N 1 0 (some N), av] = some (.int .i64 args.length, H.set oR (.cells (intL (args ++ List.replicate (N - args.length) 0)) 0)) := by
 have hoL := obj_some ho
 have hlen : (copies N [AV.int .i64 0]).length = N := by rw [copies_int]; simp [intL]
 have hfl : ((intL args).map AV.cells).flatten = intL args := flatC_intL args
 have hset : setCells (copies N [AV.int .i64 0]) 0 (intL args) = intL (args ++ List.replicate (N - args.length) 0) := by
  rw [setCells_pre _ _ (by rw [hlen]; simp [intL]; exact hl), copies_int]
  simp [intL]
 cases args with
 | nil =>
  have : H.set oR (.cells (intL (List.replicate N 0)) 0) = H := by
   apply set_get_same
   rw [copies_int] at ho
   unfold Heap.obj at ho
   split at ho
   ·rename_i h1
    split at ho
    ·rename_i h2
     injection ho with ho; subst ho
     have := beq_iff_eq.1 h2; subst this
     exact h1
    ·cases ho
   ·cases ho
  simp [moreA, ty66, ty2, he, ho, intL]
  simpa [intL] using this.symm
 | cons a r =>
  have hm : Nat.min (intL (a :: r)).length N = (a :: r).length := by
   have : (intL (a :: r)).length = (a :: r).length := by simp [intL]
   rw [this]; exact Nat.min_eq_left hl
  have hz : ((a :: r).length == 0) = false := rfl
  have htk : (intL (a :: r)).take ((a :: r).length * 1) = intL (a :: r) := qBi (by simp [intL])
  have hall : (intL (a :: r)).all AV.leaf = true := by simp [intL, AV.leaf]
  have hl0 : ((intL (a :: r)).length == (a :: r).length * 1) = true := by simp [intL]
  have hle : (0 + N * 1 <= (copies N [AV.int .i64 0]).length) = True := by rw [hlen]; simp
  simp only [moreA, ty66, ty2, he, ho, hm, hz, hfl, htk, hall, hl0, hle, hset, qAd, qAe, qAb, if_false, beq_self_eq_true, decide_true, Bool.and_true, Bool.and_self, if_true]
theorem frame_eq {p : SProg} {H : Heap} {s n : Nat} {tl : List AV} {F : SFun} {args : List Int} {av : AV} (hs : H.obj s 0 = some (p.cells ++ tl)) (hF : p.funs[n]? = some F) (h0 : 0 <= F.regs) (h4 : F.regs <= 4096) (hl : (args.length : Int) <= F.regs) (kv : known av = some av) (he : ∀ X, elems (H ++ X) av = some (intL args)) :
  ∃ X oR, call cfg 27 [.ptr s 0 0, .int .i64 n, av] H = some (.ret (.agg [.int .i64 n, .int .i64 0, .msl oR 0 F.regs.toNat 1 0 (some F.regs.toNat)]), H ++ X) /\ (H ++ X).obj oR 0 = some (intL (newFrame p n args).regs) /\ H.length <= oR := by
 have hls := live_of hs
 have e1 := funsL_get hF
 obtain ⟨N, hN⟩ : ∃ N : Nat, F.regs = N := ⟨F.regs.toNat, by omega⟩
 have hNt : F.regs.toNat = N := by omega
 have hnew : (newFrame p n args).regs = args ++ List.replicate (N - args.length) 0 := by simp [newFrame, hF, hNt]
 rw [hNt, hnew]
 refine ⟨[.cells [.int .i64 n, .int .i64 0, .msl (H.length + 1) 0 N 1 0 (some N)] 0, .cells (intL (args ++ List.replicate (N - args.length) 0)) 0, .cells [.int .i64 n, .int .i64 0, .msl (H.length + 1) 0 N 1 0 (some N)] 0], H.length + 1, ?_, by rw [obj_app]; rfl, by omega⟩
 have hX : ∀ X, Heap.obj (H ++ X) s 0 = some (p.cells ++ tl) := fun X => obj_leftS X hs
 have hlX : ∀ X, Heap.live (H ++ X) s 0 = true := fun X => live_of (hX X)
 have hcp : ∀ x y, moreA cfg (H ++ [x, .cells (copies N [AV.int .i64 0]) 0, y]) .copy [66, 66] [.msl (H.length + 1) 0 N 1 0 (some N), av] = some (.int .i64 args.length, H ++ [x, .cells (intL (args ++ List.replicate (N - args.length) 0)) 0, y]) := fun x y => by
  rw [copy_new (by rw [obj_app]; rfl) (by omega) (he _)]
  rw [set_app]; rfl
 have hms : ∀ X, makeSliceA cfg (H ++ X) 66 (.int .i64 N) (.int .i64 N) = some (.msl (H ++ X).length 0 N 1 0 (some N), (H ++ X) ++ [.cells (copies N [AV.int .i64 0]) 0]) := fun X => by
  have hm : (N : Int) <= (mostLen : Int) := by simp [mostLen]; omega
  simp [makeSliceA, ty66, ty2, hm]
 simp only [SProg.cells, qBr, qBq] at hX
 rw [call27]
 simp only [SFun.cells, hN] at e1
 simp only [F27, k27, Tryz.f27, sxAll, cA, Env.keep, qt_eq, resultsA, packA, storeA, indexAddrA, fieldAddrA, loadA, Rv.part, cellsAt, TD.isAgg, buildA, fillA, setCells, ↓qAe, Nat.reduceBEq, Nat.reduceAdd, Nat.reduceLeDiff, ↓reduceIte, hX, hlX, e1, hms, hcp, kv, cells_msl, leaf_msl, Nat.add_zero, ty68, ty26, ty39, ty24, ty71, ty3, ty66]
 exact leave_impure pu27
end
end Go.Proofs.Sx
namespace Go.Proofs.Sx
open Go.Rv Go.Proofs
attribute [local congr] bind_left got_left
noncomputable section
theorem pu100 : cfg.pure 100 = true := rfl
instance t100 {d : Option Nat} : TightD cfg 100 d := ⟨fun _ _ => rfl⟩
def B100 (p : List Bool) := cA p Tryz.f100.body
def R100 (p : List Bool) (i : Nat) := Code.region i (cA p Tryz.f100.body) false
theorem F100 : (∀ p i, XR cfg 100 (R100 p i) (B100 p) (cA p Tryz.f100.body).toList i false) /\ RE cfg 100 [0, 1, 4, 5, 6, 7, 8, 9, 10, 11, 12, 13] /\ cfg.pure 100 = true := ⟨fun _ _ => xr rfl rfl, rE fun _ => rfl, rfl⟩
def k100 : Code := (.seq (R100 [ff] 0) (.seq (R100 [tt, ff] 1) (.seq (R100 [tt, tt, ff] 2) (.seq (R100 [tt, tt, tt, ff] 3) (.seq (R100 [tt, tt, tt, tt, ff] 4) (.seq (R100 [tt, tt, tt, tt, tt, ff] 5) (.seq (R100 [tt, tt, tt, tt, tt, tt, ff] 6) (.seq (R100 [tt, tt, tt, tt, tt, tt, tt, ff] 7) (.seq (R100 [tt, tt, tt, tt, tt, tt, tt, tt, ff] 8) (.seq (R100 [tt, tt, tt, tt, tt, tt, tt, tt, tt, ff] 9) (.seq (R100 [tt, tt, tt, tt, tt, tt, tt, tt, tt, tt, ff] 10) (.seq (R100 [tt, tt, tt, tt, tt, tt, tt, tt, tt, tt, tt, ff] 11) .ret))))))))))))
theorem call100 (x0 x1 : AV) (h : Heap) : call cfg 100 [x0, x1] h = (exec cfg 100 k100 [(0, x0), (1, x1)] h).bind (callEnd cfg 100 h [.tmp 4, .tmp 5]) := call_at2 (fnat Tryz.func100 (b := k100) (by kernel_rfl) (by kernel_rfl)) rfl rfl
theorem pu68 : cfg.pure 68 = true := rfl
instance t68 {d : Option Nat} : TightD cfg 68 d := ⟨fun _ _ => rfl⟩
def B68 (p : List Bool) := cA p Tryz.f68.body
def R68 (p : List Bool) (i : Nat) := Code.region i (cA p Tryz.f68.body) false
theorem F68 : (∀ p i, XR cfg 68 (R68 p i) (B68 p) (cA p Tryz.f68.body).toList i false) /\ RE cfg 68 [0, 1, 4, 5, 6, 7, 8, 9] /\ cfg.pure 68 = true := ⟨fun _ _ => xr rfl rfl, rE fun _ => rfl, rfl⟩
def k68 : Code := (.seq (R68 [ff] 0) (.seq (.cond (.const (.bool false)) (.seq (R68 [tt, ff, ff, ff] 1) (.seq (R68 [tt, ff, ff, tt, ff] 2) .ret)) .skip) (.seq (R68 [tt, tt, ff] 3) (.seq (R68 [tt, tt, tt, ff] 4) .ret))))
theorem call68 (x0 x1 : AV) (h : Heap) : call cfg 68 [x0, x1] h = (exec cfg 68 k68 [(0, x0), (1, x1)] h).bind (callEnd cfg 68 h [.tmp 4, .tmp 5]) := call_at2 (fnat Tryz.func68 (b := k68) (by kernel_rfl) (by kernel_rfl)) rfl rfl
theorem pu45 : cfg.pure 45 = false := rfl
instance t45 {d : Option Nat} : TightD cfg 45 d := ⟨fun _ _ => rfl⟩
def B45 (p : List Bool) := cA p Tryz.f45.body
def R45 (p : List Bool) (i : Nat) := Code.region i (cA p Tryz.f45.body) false
def D45 (p : List Bool) (i : Nat) := Code.region i (cA p Tryz.f45.body) true
theorem F45 : (∀ p i, XR cfg 45 (R45 p i) (B45 p) (cA p Tryz.f45.body).toList i false) /\ GO cfg 45 (B45 [tt, tt, tt, ff, ff]) 2 23 /\ XR cfg 45 (D45 [tt, tt, tt, tt, tt, tt, ff, ff, ff, tt, ff] 9) (B45 [tt, tt, tt, tt, tt, tt, ff, ff, ff, tt, ff]) ((cA [tt, tt, tt, tt, tt, tt, ff, ff, ff, tt, ff] Tryz.f45.body).toList) 9 true /\ RE cfg 45 [0, 1, 4, 5, 6, 7, 8, 10, 26, 37] /\ cfg.pure 45 = false := ⟨fun _ _ => xr rfl rfl, gO (by kernel_rfl), xd (by kernel_rfl) rfl rfl, rE fun _ => rfl, rfl⟩
def l45_0 : Code := (.seq (.seq (R45 [tt, tt, tt, tt, tt, tt, ff, ff, ff, ff, ff] 8) (.cond (.tmp 37) .skip (.exit 0))) (.block 1 (D45 [tt, tt, tt, tt, tt, tt, ff, ff, ff, tt, ff] 9)))
def k45 : Code := (.seq (R45 [ff] 0) (.seq (.seq (R45 [tt, ff, ff] 1) (.cond (.tmp 10) (R45 [tt, ff, tt, ff] 2) .skip)) (.seq (R45 [tt, tt, ff] 3) (.seq (.seq (R45 [tt, tt, tt, ff, ff] 4) (.cond (.tmp 26) (R45 [tt, tt, tt, ff, tt, ff] 5) .skip)) (.seq (R45 [tt, tt, tt, tt, ff] 6) (.seq (R45 [tt, tt, tt, tt, tt, ff] 7) (.seq (.block 0 (.loop l45_0)) (.seq (R45 [tt, tt, tt, tt, tt, tt, tt, ff] 10) .ret))))))))
theorem call45 (x0 x1 : AV) (h : Heap) : call cfg 45 [x0, x1] h = (exec cfg 45 k45 [(0, x0), (1, x1)] h).bind (callEnd cfg 45 h [.tmp 4]) := call_at2 (fnat Tryz.func45 (b := k45) (by kernel_rfl) (by kernel_rfl)) rfl rfl
theorem u64w (n : Int) : IntKind.u64.wrap n = n % 18446744073709551616 := by simp [IntKind.wrap, IntKind.bits, IntKind.signed]
theorem and_low {n : Nat} (h : n < 4294967296) : IntKind.u64.wrap ((BitVec.ofInt IntKind.u64.bits (n : Int) &&& BitVec.ofInt IntKind.u64.bits 4294967295).toNat : Int) = n := by
 have : (BitVec.ofInt IntKind.u64.bits (n : Int) &&& BitVec.ofInt IntKind.u64.bits 4294967295).toNat = n := by
  have e1 : (BitVec.ofInt IntKind.u64.bits (n : Int)).toNat = n := by
   simp [IntKind.bits]; omega
  have e2 : (BitVec.ofInt IntKind.u64.bits (4294967295 : Int)).toNat = 4294967295 := by simp [IntKind.bits]
  rw [BitVec.toNat_and, e1, e2]
  have := Nat.and_two_pow_sub_one_eq_mod n 32
  simp at this
  rw [this]; omega
 rw [this, u64w]; omega
theorem mul64_one {n : Nat} (h : n < 4294967296) (H : Heap) : call cfg 100 [.int .u64 1, .int .u64 n] H = some (.ret (.tup [.int .u64 0, .int .u64 n]), H) := by
 rw [call100]
 have a1 := and_low (n := 1) (by omega)
 have a2 := and_low h
 have a3 := and_low (n := 0) (by omega)
 simp only [Int.natCast_one, qBo] at a1 a3
 have s1 : Int.fdiv (1 : Int) (2 ^ Nat.min (32 : Int).toNat IntKind.u64.bits) = 0 := by decide
 have s0 : Int.fdiv (0 : Int) (2 ^ Nat.min (32 : Int).toNat IntKind.u64.bits) = 0 := by decide
 have s2 : Int.fdiv (n : Int) (2 ^ Nat.min (32 : Int).toNat IntKind.u64.bits) = 0 := by
  have : (2 : Int) ^ Nat.min (32 : Int).toNat IntKind.u64.bits = 4294967296 := by decide
  rw [this, Int.fdiv_eq_ediv_of_nonneg _ (by omega)]
  omega
 have w0 : IntKind.u64.wrap 0 = 0 := by rw [u64w]; rfl
 have wn : IntKind.u64.wrap (n : Int) = n := by rw [u64w]; omega
 simp only [F100, k100, Tryz.f100, sxAll, cA, arithA, Env.keep, resultsA, packA, ↓qAe, Nat.reduceBEq, Int.reduceLT, ↓reduceIte, a1, a2, a3, s0, s1, s2, w0, wn, Int.zero_mul, Int.mul_zero, Int.one_mul, Int.add_zero]
 exact leave_kept rfl rfl
theorem mul_one {n : Nat} (h : n < 4294967296) (H : Heap) : call cfg 68 [.int .u64 1, .int .u64 n] H = some (.ret (.tup [.int .u64 0, .int .u64 n]), H) := by
 rw [call68]
 simp only [F68, k68, Tryz.f68, sxAll, cA, Env.keep, qt_eq, resultsA, packA, mapO, ↓qAe, Nat.reduceBEq, ↓reduceIte, mul64_one h, pu100]
 exact leave_kept rfl rfl
def repI (k n : Nat) (v : Int) : List Int := List.replicate k v ++ List.replicate (n - k) 0
theorem repI_len {k n : Nat} (v : Int) (h : k <= n) : (repI k n v).length = n := by simp [repI]; omega
theorem group_take : ∀ (k : Nat) (xs : List Int), k <= xs.length -> group k (intL xs) 1 = intL (xs.take k)
 | 0, _, _ => rfl
 | k + 1, [], h => by simp at h
 | k + 1, x :: r, h => by
  have := group_take k r (by simpa using h)
  simp only [intL, qAm, group, beq_self_eq_true, if_true, List.headD_cons, List.drop_succ_cons, qBf, one_int, List.take_succ_cons] at this ⊢
  rw [this]
theorem set_rep {k j n : Nat} {v : Int} (h : k + j <= n) : setCells (intL (repI k n v)) k (intL (List.replicate j v)) = intL (repI (k + j) n v) := by
 apply qBk
 intro i
 have hl1 : (intL (List.replicate j v)).length = j := by simp [intL]
 have hl2 : (intL (repI k n v)).length = n := by rw [intL_len, repI_len v (by omega)]
 have hsc := setCells_at (intL (List.replicate j v)) (intL (repI k n v)) k (by rw [hl1, hl2]; exact h) i
 rw [hsc]
 simp only [hl1]
 by_cases h1 : k <= i /\ i < k + j
 ·rw [if_pos h1]
  have e1 : (repI (k + j) n v)[i]? = some v := by
   unfold repI
   rw [qAx (by simp; omega), List.getElem?_replicate, if_pos (by omega)]
  simp only [intL, qBc, e1, qAo, List.getElem?_replicate]
  rw [if_pos (by omega)]; rfl
 ·rw [if_neg h1]
  by_cases h2 : i < k
  ·have e1 : (repI (k + j) n v)[i]? = some v := by unfold repI; rw [qAx (by simp; omega), List.getElem?_replicate, if_pos (by omega)]
   have e2 : (repI k n v)[i]? = some v := by unfold repI; rw [qAx (by simp; omega), List.getElem?_replicate, if_pos (by omega)]
   simp only [intL, qBc, e1, e2]
  ·by_cases h3 : i < n
   ·have e1 : (repI (k + j) n v)[i]? = some 0 := by unfold repI; rw [qAy (by simp; omega), List.getElem?_replicate, if_pos (by simp; omega)]
    have e2 : (repI k n v)[i]? = some 0 := by unfold repI; rw [qAy (by simp; omega), List.getElem?_replicate, if_pos (by simp; omega)]
    simp only [intL, qBc, e1, e2]
   ·rw [qAt (by rw [hl2]; omega), qAt (by rw [intL_len, repI_len v h]; omega)]
theorem repeat_loop (H : Heap) (v : Int) (n : Nat) (hn : n < 100000) : ∀ (d k : Nat), 1 <= k -> k <= n -> n - k <= d -> ∀ t0 t1 t4 t5 t6 e g f,
  Got (exec cfg 45 (.loop l45_0) [(0, t0), (1, t1), (4, t4), (5, t5), (6, t6), (7, .msl H.length 0 n 1 0 (some n)), (8, .int .i64 k), (10, e), (26, g), (37, f)] (H ++ [.cells (intL (repI k n v)) 0])) (fun q => ∃ f', q = (.exit 0, [(0, t0), (1, t1), (4, t4), (5, t5), (6, t6), (7, .msl H.length 0 n 1 0 (some n)), (8, .int .i64 n), (10, e), (26, g), (37, f')], H ++ [.cells (intL (repI n n v)) 0])) := by
 intro d
 induction d with
 | zero =>
  intro k h1 h2 h3 t0 t1 t4 t5 t6 e g f
  obtain rfl : k = n := by omega
  have hl : lenA (H ++ [.cells (intL (repI k k v)) 0]) (.slice 2) (.msl H.length 0 k 1 0 (some k)) = some k := by simp [lenA, live_app0, live_zero]
  rw [got_loop]
  simp only [l45_0, F45, Tryz.f45, sxAll, cA, arithA, Env.keep, ↓qAe, Nat.reduceBEq, ↓reduceIte, hl, Nat.lt_irrefl, ty66]
  exact ⟨_, rfl⟩
 | succ d ih =>
  intro k h1 h2 h3 t0 t1 t4 t5 t6 e g f
  by_cases hkn : k = n
  ·subst hkn
   have hl : lenA (H ++ [.cells (intL (repI k k v)) 0]) (.slice 2) (.msl H.length 0 k 1 0 (some k)) = some k := by simp [lenA, live_app0, live_zero]
   rw [got_loop]
   simp only [l45_0, F45, Tryz.f45, sxAll, cA, arithA, Env.keep, ↓qAe, Nat.reduceBEq, ↓reduceIte, hl, Nat.lt_irrefl, ty66]
   exact ⟨_, rfl⟩
  ·have hlt : (k < n) = True := by simp; omega
   have hl : lenA (H ++ [.cells (intL (repI k n v)) 0]) (.slice 2) (.msl H.length 0 n 1 0 (some n)) = some n := by simp [lenA, live_app0, live_zero]
   have hob : Heap.obj (H ++ [.cells (intL (repI k n v)) 0]) H.length 0 = some (intL (repI k n v)) := by rw [obj_app0, obj_zero]
   have hlen : (intL (repI k n v)).length = n := by rw [intL_len, repI_len v (by omega)]
   have sl1 : sliceA cfg (H ++ [.cells (intL (repI k n v)) 0]) 66 (.msl H.length 0 n 1 0 (some n)) (some (.int .i64 k)) none none = some (.msl H.length k (n - k) 1 0 (some (n - k))) := by
    have : (k : Int) <= n := by omega
    simp [sliceA, ty66, ty2, hob, boundA, h2]
   have sl2 : sliceA cfg (H ++ [.cells (intL (repI k n v)) 0]) 66 (.msl H.length 0 n 1 0 (some n)) none (some (.int .i64 k)) none = some (.msl H.length 0 k 1 0 (some n)) := by
    have : (k : Int) <= n := by omega
    simp [sliceA, ty66, ty2, hob, boundA, h2]
   obtain ⟨j, hj⟩ : ∃ j, j = Nat.min k (n - k) := ⟨_, rfl⟩
   have hjc : (k <= n - k /\ j = k) ∨ (n - k < k /\ j = n - k) := by
    by_cases hc : k <= n - k
    ·exact .inl ⟨hc, by rw [hj]; exact Nat.min_eq_left hc⟩
    ·exact .inr ⟨by omega, by rw [hj]; exact Nat.min_eq_right (by omega)⟩
   have hj1 : 1 <= j := by omega
   have hj2 : k + j <= n := by omega
   have hjk : j <= k := by omega
   have htk : (repI k n v).take k = List.replicate k v := by unfold repI; rw [List.take_left' (by simp)]
   have hel : elems (H ++ [.cells (intL (repI k n v)) 0]) (.msl H.length 0 k 1 0 (some n)) = some (intL (List.replicate k v)) := by
    have : k <= (intL (repI k n v)).length := by omega
    simp only [elems, hob, qAd, qAe, qBg, Nat.mul_one, qBf, this, if_true]
    rw [group_take k _ (by rw [repI_len v (by omega)]; exact h2), htk]
   have hcp : moreA cfg (H ++ [.cells (intL (repI k n v)) 0]) .copy [66, 66] [.msl H.length k (n - k) 1 0 (some (n - k)), .msl H.length 0 k 1 0 (some n)] = some (.int .i64 j, H ++ [.cells (intL (repI (k + j) n v)) 0]) := by
    have e1 : ((intL (List.replicate k v)).map AV.cells).flatten = intL (List.replicate k v) := flatC_intL _
    have e2 : (intL (List.replicate k v)).length = k := by simp [intL]
    have e3 : (intL (List.replicate k v)).take j = intL (List.replicate j v) := by
     rw [intL, ← List.map_take, List.take_replicate, Nat.min_eq_left hjk]; rfl
    have e4 : (intL (List.replicate j v)).length = j := by simp [intL]
    have e5 : (intL (List.replicate j v)).all AV.leaf = true := by simp [intL, AV.leaf]
    have e6 : (j == 0) = false := by simp; omega
    have e7 : (k + (n - k) <= (intL (repI k n v)).length) = True := by rw [hlen]; simp; omega
    simp only [moreA, ty66, ty2, hel, hob, qAd, qAe, e1, e2, ← hj, e3, e4, e5, e6, e7, set_rep hj2, Nat.mul_one, qAb, if_false, beq_self_eq_true, decide_true, Bool.and_self, if_true, set_app0, List.set_cons_zero]
   have hw : IntKind.i64.wrap ((k : Int) + (j : Int)) = ((k + j : Nat) : Int) := by rw [wrap_id (by omega) (by omega)]; omega
   have := ih (k + j) (by omega) hj2 (by omega)
   rw [got_loop]
   simp only [l45_0] at this ⊢
   simp only [F45, Tryz.f45, sxAll, cA, arithA, Env.keep, optA, ↓qAe, Nat.reduceBEq, ↓reduceIte, hl, hlt, sl1, sl2, hcp, hw, ty66] at this ⊢
   exact this _ _ _ _ _ _ _ _
theorem repeat_eq (H : Heap) (v : Int) (n : Nat) (h1 : 1 <= n) (hn : n < 100000) : call cfg 45 [.lst [.int .i64 v] 1 (.exact 1), .int .i64 n] H = some (.ret (.msl H.length 0 n 1 0 (some n)), H ++ [.cells (intL (List.replicate n v)) 0]) := by
 obtain ⟨⟨o, e', H'⟩, hx, f1, hq⟩ := repeat_loop H v n hn n 1 (by omega) h1 (by omega) (.lst [.int .i64 v] 1 (.exact 1)) (.int .i64 n) (.lst [] 0 .nil) (.int .u64 0) (.int .u64 n) (.bool false) (.bool false) .junk
 simp only [qAg] at hq
 obtain ⟨rfl, rfl, rfl⟩ := hq
 have hml := mul_one (n := n) (by omega) H
 have w1 : IntKind.u64.wrap 1 = 1 := by rw [u64w]; rfl
 have w1' : IntKind.u64.wrap ((1 : Nat) : Int) = 1 := by rw [u64w]; rfl
 have wn : IntKind.u64.wrap (n : Int) = n := by rw [u64w]; omega
 have wi : IntKind.i64.wrap (n : Int) = n := wrap_id (by omega) (by omega)
 have hng : ((n : Int) > 9223372036854775807) = False := by simp; omega
 have hms : makeSliceA cfg H 66 (.int .i64 n) (.int .i64 n) = some (.msl H.length 0 n 1 0 (some n), H ++ [.cells (copies n [AV.int .i64 0]) 0]) := by
  have hm : (n : Int) <= (mostLen : Int) := by simp [mostLen]; omega
  simp [makeSliceA, ty66, ty2, hm]
 have hz : copies n [AV.int .i64 0] = intL (List.replicate n 0) := copies_int n
 have hcp : moreA cfg (H ++ [.cells (copies n [AV.int .i64 0]) 0]) .copy [66, 66] [.msl H.length 0 n 1 0 (some n), .lst [.int .i64 v] 1 (.exact 1)] = some (.int .i64 1, H ++ [.cells (intL (repI 1 n v)) 0]) := by
  have := copy_new (H := H ++ [.cells (copies n [AV.int .i64 0]) 0]) (oR := H.length) (N := n) (u := 66) (args := [v]) (av := .lst [.int .i64 v] 1 (.exact 1)) (by rw [obj_app0, obj_zero]) (by simpa using h1) rfl
  rw [this, set_app0, List.set_cons_zero]
  rfl
 have hrep : repI n n v = List.replicate n v := by simp [repI]
 rw [hrep] at hx
 simp only [Int.natCast_one] at hx
 rw [call45]
 simp only [F45, k45, Tryz.f45, sxAll, cA, arithA, Env.keep, qt_eq, resultsA, packA, convH, convA, mapO, ↓qAe, Nat.reduceBEq, Nat.reduceAdd, ↓reduceIte, lenA_lst, hml, w1', wn, wi, Int.reduceGT, hng, hms, hcp, hx, pu68, ty66, ty122, ty3]
 exact leave_impure pu45
end
end Go.Proofs.Sx
namespace Go.Proofs.Sx
open Go.Rv Go.Proofs
attribute [local congr] bind_left got_left
noncomputable section
instance t44 {d : Option Nat} : TightD cfg 44 d := ⟨fun _ _ => rfl⟩
def B44 (p : List Bool) := cA p Tryz.f44.body
def R44 (p : List Bool) (i : Nat) := Code.region i (cA p Tryz.f44.body) false
theorem F44 : (∀ p i, XR cfg 44 (R44 p i) (B44 p) (cA p Tryz.f44.body).toList i false) /\ cfg.imm 44 1 = true /\ GO cfg 44 (B44 [tt, ff]) 3 6 /\ RE cfg 44 [0, 1, 2] /\ cfg.pure 44 = true := ⟨fun _ _ => xr rfl rfl, by kernel_rfl, gO (by kernel_rfl), rE fun _ => rfl, rfl⟩
def k44 : Code := (.seq (R44 [ff] 0) (.seq (R44 [tt, ff] 1) .ret))
theorem call44 (x0 : AV) (h : Heap) : call cfg 44 [x0] h = (exec cfg 44 k44 [(0, x0)] h).bind (callEnd cfg 44 h [.tmp 2]) := call_at2 (fnat Tryz.func44 (b := k44) (by kernel_rfl) (by kernel_rfl)) rfl rfl
theorem pu24 : cfg.pure 24 = false := rfl
instance t24_4 : Tg cfg 24 4 := tgS rfl
instance t24_5 : Tg cfg 24 5 := tgS rfl
instance t24_6 : Tg cfg 24 6 := tgS rfl
instance t24_8 : Tg cfg 24 8 := tgS rfl
instance t24_9 : Tg cfg 24 9 := tgS rfl
instance t24_10 : Tg cfg 24 10 := tgS rfl
instance t24_11 : Tg cfg 24 11 := tgS rfl
instance t24_12 : Tg cfg 24 12 := tgS rfl
instance t24_13 : Tg cfg 24 13 := tgS rfl
instance t24_14 : Tg cfg 24 14 := tgS rfl
instance t24_15 : Tg cfg 24 15 := tgS rfl
instance t24_16 : Tg cfg 24 16 := tgS rfl
instance t24_17 : Tg cfg 24 17 := tgS rfl
instance t24_18 : Tg cfg 24 18 := tgS rfl
instance t24_19 : Tg cfg 24 19 := tgS rfl
instance t24_20 : Tg cfg 24 20 := tgS rfl
instance t24_21 : Tg cfg 24 21 := tgS rfl
instance t24_22 : Tg cfg 24 22 := tgS rfl
instance t24_23 : Tg cfg 24 23 := tgS rfl
instance t24_24 : Tg cfg 24 24 := tgS rfl
instance t24_25 : Tg cfg 24 25 := tgS rfl
instance t24_26 : Tg cfg 24 26 := tgS rfl
instance t24_27 : Tg cfg 24 27 := tgS rfl
instance t24_28 : Tg cfg 24 28 := tgS rfl
instance t24_29 : Tg cfg 24 29 := tgS rfl
instance t24_30 : Tg cfg 24 30 := tgS rfl
instance t24_31 : Tg cfg 24 31 := tgS rfl
instance t24_32 : Tg cfg 24 32 := tgS rfl
instance t24_33 : Tg cfg 24 33 := tgS rfl
instance t24_34 : Tg cfg 24 34 := tgS rfl
instance t24_35 : Tg cfg 24 35 := tgS rfl
instance t24_36 : Tg cfg 24 36 := tgS rfl
instance t24_37 : Tg cfg 24 37 := tgS rfl
instance t24_38 : Tg cfg 24 38 := tgS rfl
instance t24_40 : Tg cfg 24 40 := tgS rfl
instance t24_41 : Tg cfg 24 41 := tgS rfl
instance t24_42 : Tg cfg 24 42 := tgS rfl
instance t24_43 : Tg cfg 24 43 := tgS rfl
instance t24_44 : Tg cfg 24 44 := tgS rfl
instance t24_45 : Tg cfg 24 45 := tgS rfl
instance t24_2000_28 : TightD cfg 24 (some (2000 + 28)) := tgS rfl
instance t24_2000_41 : TightD cfg 24 (some (2000 + 41)) := tgS rfl
instance t24_n : TightD cfg 24 none := tgN
def B24 (p : List Bool) := cA p Tryz.f24.body
def R24 (p : List Bool) (i : Nat) := Code.region i (cA p Tryz.f24.body) false
def D24 (p : List Bool) (i : Nat) := Code.region i (cA p Tryz.f24.body) true
theorem F24 : (∀ p i, XR cfg 24 (R24 p i) (B24 p) (cA p Tryz.f24.body).toList i false) /\ GO cfg 24 (B24 [tt, ff, ff, tt, tt, ff]) 2 15 /\ cfg.imm 24 22 = false /\ XR cfg 24 (D24 [tt, tt, tt, ff, tt, ff, ff, tt, tt, ff, ff, tt] 9) (B24 [tt, tt, tt, ff, tt, ff, ff, tt, tt, ff, ff, tt]) ((cA [tt, tt, tt, ff, tt, ff, ff, tt, tt, ff, ff, tt] Tryz.f24.body).toList) 9 true /\ cfg.imm 24 36 = true /\ cfg.imm 24 40 = true /\ RE cfg 24 [0, 1, 4, 5, 6, 8, 9, 12, 23, 24, 25, 26] /\ cfg.pure 24 = false := ⟨fun _ _ => xr rfl rfl, gO (by kernel_rfl), by kernel_rfl, xd (by kernel_rfl) rfl rfl, by kernel_rfl, by kernel_rfl, rE fun _ => rfl, rfl⟩
theorem lo24_39 : cfg.loose 24 39 = lo 24 39 := rfl
theorem lb24_9_39_2 (e : Env) (h : Heap) : looseB cfg 24 (B24 [tt, tt, tt, ff, tt, ff, ff, tt, tt, ff, ff, tt]) e h 2 = (((known (e.get 30)).bind fun x => nilA h x).map fun v => AV.eqb v (e.get 31)).getD false := lb_nilCheck rfl
theorem lb24_9_39_3 (e : Env) (h : Heap) : looseB cfg 24 (B24 [tt, tt, tt, ff, tt, ff, ff, tt, tt, ff, ff, tt]) e h 3 = (((known (e.get 31)).bind fun x => fieldAddrA cfg h 94 x 0).map fun v => AV.eqb v (e.get 32)).getD false := lb_fieldAddr rfl
theorem lb24_9_39_4 (e : Env) (h : Heap) : looseB cfg 24 (B24 [tt, tt, tt, ff, tt, ff, ff, tt, tt, ff, ff, tt]) e h 4 = (((known (e.get 32)).bind fun x => loadA cfg h 92 x).map fun v => AV.eqb v (e.get 33)).getD false := lb_load rfl rfl
theorem la24_39 (e : Env) (h : Heap) : looseAll cfg 24 (B24 [tt, tt, tt, ff, tt, ff, ff, tt, tt, ff, ff, tt]) (some 39) e h = (((((known (e.get 30)).bind fun x => nilA h x).map fun v => AV.eqb v (e.get 31)).getD false) && (((((known (e.get 31)).bind fun x => fieldAddrA cfg h 94 x 0).map fun v => AV.eqb v (e.get 32)).getD false) && (((((known (e.get 32)).bind fun x => loadA cfg h 92 x).map fun v => AV.eqb v (e.get 33)).getD false)))) := by simp only [looseAll, lo24_39, lo, List.all_cons, List.all_nil, Bool.and_true, lb24_9_39_2, lb24_9_39_3, lb24_9_39_4]
def l24_0 : Code := (.seq (R24 [tt, tt, tt, ff, tt, ff, ff, ff] 7) (.seq (.cond (.tmp 26) .skip (.exit 1)) (.seq (.block 2 (.seq (R24 [tt, tt, tt, ff, tt, ff, ff, tt, tt, ff, ff, ff] 8) (D24 [tt, tt, tt, ff, tt, ff, ff, tt, tt, ff, ff, tt] 9))) (R24 [tt, tt, tt, ff, tt, ff, ff, tt, tt, tt] 10))))
def k24 : Code := (.seq (R24 [ff] 0) (.seq (.block 0 (.seq (R24 [tt, ff, ff, ff] 1) (.cond (.tmp 9) (.seq (R24 [tt, ff, ff, tt, ff, ff] 2) .ret) (.seq (R24 [tt, ff, ff, tt, tt, ff] 3) (.cond (.tmp 12) (.seq (R24 [tt, ff, ff, tt, tt, tt, ff, ff] 4) .ret) .skip))))) (.seq (R24 [tt, tt, ff] 5) (.seq (.seq (R24 [tt, tt, tt, ff, ff] 6) (.block 1 (.loop l24_0))) (.seq (R24 [tt, tt, tt, tt, ff] 11) .ret)))))
theorem call24 (x0 x1 : AV) (h : Heap) : call cfg 24 [x0, x1] h = (exec cfg 24 k24 [(0, x0), (1, x1)] h).bind (callEnd cfg 24 h [.tmp 4, .tmp 5]) := call_at2 (fnat Tryz.func24 (b := k24) (by kernel_rfl) (by kernel_rfl)) rfl rfl
theorem memNewx_eq (m : SMem) (h : Heap) : call cfg 44 [.agg m.cells] h = some (.ret (.bool (badSize m)), h) := by
 rw [call44]
 unfold badSize
 by_cases c1 : m.size < 1
 ·simp only [SMem.cells, F44, k44, Tryz.f44, sxAll, cA, arithA, Env.keep, qt_eq, resultsA, packA, fieldAddrA, loadA, Rv.part, cellsAt, TD.isAgg, ↓qAe, Nat.reduceBEq, Nat.reduceAdd, ↓reduceIte, ty81, ty3, c1]
  exact leave_kept rfl rfl
 ·simp only [SMem.cells, F44, k44, Tryz.f44, sxAll, cA, arithA, Env.keep, qt_eq, resultsA, packA, fieldAddrA, loadA, Rv.part, cellsAt, TD.isAgg, ↓qAe, Nat.reduceBEq, Nat.reduceAdd, ↓reduceIte, ty81, ty3, c1]
  exact leave_kept rfl rfl
theorem one_msl (o off len z g : Nat) (c : Option Nat) : Rv.one (AV.msl o off len z g c) = AV.msl o off len z g c := rfl
structure CI (H H' : Heap) (ρ : Nat -> Role) (oM mp : Nat) (L : Int) (done : List SMem) (cv : AV) (cs : List AV) : Prop where
 mem : H'.obj oM 0 = some [cv, .int .i64 L, .map mp]
 memR : ρ oM = .mem
 held : H'[mp]? = some (.map [])
 heldR : ρ mp = .held
 cArr : Arr H' ρ .cArr cv cs
 cLen : cs.length = done.length
 cell : ∀ (i : Nat) v x, cs[i]? = some v -> done[i]? = some x -> ∃ o g cap, v = .msl o 0 x.size.toNat 1 g cap /\ H'.obj o g = some (intL (List.replicate x.size.toNat x.first)) /\ ρ o = .cell i
 old : ∀ x, x < H.length -> H'[x]? = H[x]? /\ ρ x = .other
 le : H.length <= H'.length
 own : H.length <= oM
 fresh : ∀ o, H'.length <= o -> ρ o = .other
theorem flatC_one {xs : List AV} (h : ∀ x ∈ xs, x.cells = [x]) : flatC xs = xs := by
 induction xs with
 | nil => rfl
 | cons x r ih =>
  have := ih (fun y hy => h y (qAk _ hy))
  simp only [flatC, qAm, List.flatten_cons] at this ⊢
  rw [this, h x (qAi ..)]; rfl
theorem Arr.built {H : Heap} {ρ : Nat -> Role} {r : Role} {v : AV} {xs : List AV} (A : Arr H ρ r v xs) (h : ∀ x ∈ xs, x.cells = [x]) : Built H v xs 1 := by
 rcases A with ⟨h1, h2⟩ | ⟨o, g, cap, h1, h2, _, h4⟩
 ·exact .inl ⟨h1, h2⟩
 ·exact .inr ⟨o, g, cap, h1, by rw [flatC_one h]; exact h2, h4⟩
theorem Arr.push {H : Heap} {ρ : Nat -> Role} {r : Role} {v y : AV} {xs : List AV} (A : Arr H ρ r v xs) (h : ∀ x ∈ xs, x.cells = [x]) (hy : y.cells = [y]) (hl : y.leaf = true) (hlen : xs.length < 1000000) (fr : ∀ o, H.length <= o -> ρ o = .other) (hr : r ≠ .other) :
  ∃ v' H' ρ', appendA H 1 v [y] = some (v', H') /\ Arr H' ρ' r v' (xs ++ [y]) /\ H.length <= H'.length /\ (∀ x, x < H.length -> ρ' x = ρ x) /\ (∀ x, x < H.length -> ρ x ≠ r -> H'[x]? = H[x]?) /\ ∀ o, H'.length <= o -> ρ' o = .other := by
 have B := A.built h
 obtain ⟨v', H', q1, q2, q3, q4, q5⟩ := append_built (ys := [y]) B (fun x hx => by rw [h x hx]; rfl) (fun z hz => by simp at hz; subst hz; rw [hy]; simp [hl]) (by omega) (by simp [mostLen]; omega)
 have hrole : ∀ o, objOf v = some o -> ρ o = r := fun o ho => by
  rcases A with ⟨h1, h2⟩ | ⟨o', g, cap, h1, h2, h3, h4⟩
  ·rw [h1] at ho; cases ho
  ·rw [h1] at ho; injection ho with ho; subst ho; exact h3
 have hkeep : ∀ x, x < H.length -> ρ x ≠ r -> H'[x]? = H[x]? := fun x hx hn => q4 x hx fun hc => hn (hrole x hc)
 have hall : ∀ x ∈ xs ++ [y], x.cells = [x] := fun x hx => by
  rcases qAp.1 hx with hx | hx
  ·exact h x hx
  ·simp at hx; subst hx; exact hy
 have fin : ∀ ρ' : Nat -> Role, (∀ o, objOf v' = some o -> ρ' o = r) -> Arr H' ρ' r v' (xs ++ [y]) := fun ρ' hh => by
  rcases q2 with ⟨_, h2⟩ | ⟨o, g, cap, h1, h2, h3⟩
  ·simp at h2
  ·exact .inr ⟨o, g, cap, h1, by rw [flatC_one hall] at h2; exact h2, hh o (by rw [h1]; rfl), h3⟩
 rcases q5 with q5 | q5
 ·exact ⟨v', H', ρ, q1, fin ρ (fun o ho => hrole o (q5 ▸ ho)), q3, fun _ _ => rfl, hkeep, fun o ho => fr o (by omega)⟩
 ·have hlt := built_lt q2 q5
  exact ⟨v', H', upd ρ H.length r, q1, fin _ (fun o ho => by rw [q5] at ho; injection ho with ho; subst ho; exact upd_self _ _ _), q3, fun x hx => upd_ne (by omega), hkeep, fun o ho => by rw [upd_ne (by omega)]; exact fr o (by omega)⟩
theorem cs_one {H H' : Heap} {ρ : Nat -> Role} {oM mp : Nat} {L : Int} {done : List SMem} {cv : AV} {cs : List AV} (C : CI H H' ρ oM mp L done cv cs) : ∀ x ∈ cs, x.cells = [x] := fun x hx => by
 obtain ⟨i, hi⟩ := List.mem_iff_getElem?.1 hx
 have hlt := (qAu.1 hi).1
 obtain ⟨y, hy⟩ : ∃ y, done[i]? = some y := ⟨_, qAs (by rw [← C.cLen]; exact hlt)⟩
 obtain ⟨o, g, cap, rfl, _⟩ := C.cell i x y hi hy
 rfl
theorem memNew_loop (l : List SMem) (z : Nat) (r : Room) (hl : l.length < 1000000) (hs : ∀ m ∈ l, 1 <= m.size /\ m.size <= 1024) (H : Heap) (oM mp : Nat) (L : Int) : ∀ (ys : List SMem) (i : Nat), l.drop i = ys -> i <= l.length -> ∀ (H' : Heap) (ρ : Nat -> Role) (cv : AV) (cs : List AV), CI H H' ρ oM mp L (l.take i) cv cs -> ∀ t0 t1 t4 t5 t8 t9 t12 t26,
    Got (exec cfg 24 (.loop l24_0) [(0, t0), (1, t1), (4, t4), (5, t5), (6, .ptr oM 0 0), (8, t8), (9, t9), (12, t12), (23, .lst (memsL l) z r), (24, .int .i64 l.length), (25, .int .i64 i), (26, t26)] H') (fun q => ∃ (H'' : Heap) (ρ' : Nat -> Role) (cv' : AV) (cs' : List AV) (t8' t25' t26' : AV), q = (.exit 1, [(0, t0), (1, t1), (4, t4), (5, t5), (6, .ptr oM 0 0), (8, t8'), (9, t9), (12, t12), (23, .lst (memsL l) z r), (24, .int .i64 l.length), (25, t25'), (26, t26')], H'') /\ CI H H'' ρ' oM mp L l cv' cs') := by
  intro ys
  induction ys with
  | nil =>
    intro i hd hi H' ρ cv cs C t0 t1 t4 t5 t8 t9 t12 t26
    have hle : l.length <= i := by simpa using hd
    rw [qBi hle] at C
    rw [got_loop]
    simp only [l24_0, F24, Tryz.f24, sxAll, cA, arithA, Env.keep, ↓qAe, Nat.reduceBEq, ↓reduceIte, at_end hd]
    exact ⟨_, _, _, _, _, _, _, rfl, C⟩
  | cons y s ih =>
    intro i hd hi H' ρ cv cs C t0 t1 t4 t5 t8 t9 t12 t26
    obtain ⟨hlt, hget, hd'⟩ := at_drop hd
    have hx := memsL_get hget
    have hlt' : i < l.length := by simpa using hlt
    have hw := wrap_succ (i := i) (by omega)
    have hsz := hs y (qBj hget)
    obtain ⟨n, hn⟩ : ∃ n : Nat, y.size = n := ⟨y.size.toNat, by omega⟩
    have hnt : y.size.toNat = n := by omega
    have hcl : cs.length = i := by rw [C.cLen]; simp; omega
    have hrep := repeat_eq (H' ++ [.cells y.cells 0]) y.first n (by omega) (by omega)
    rw [List.append_assoc] at hrep
    have hlen2 : (H' ++ [AObj.cells y.cells 0]).length = H'.length + 1 := by simp
    rw [hlen2] at hrep
    simp only [qBr, qBq] at hrep
    have hlen3 : (H' ++ [AObj.cells y.cells 0, .cells (intL (List.replicate n y.first)) 0]).length = H'.length + 2 := by simp
    have hup : ∀ x, x < H'.length -> upd ρ (H'.length + 1) (.cell i) x = ρ x := fun x hx => upd_ne (by omega)
    have k1 : ∀ x, x < H'.length -> (H' ++ [AObj.cells y.cells 0, .cells (intL (List.replicate n y.first)) 0])[x]? = H'[x]? := fun x hx => qAx hx
    have A1 : Arr (H' ++ [AObj.cells y.cells 0, .cells (intL (List.replicate n y.first)) 0]) (upd ρ (H'.length + 1) (.cell i)) .cArr cv cs := C.cArr.mono fun x hx hr => ⟨k1 x hx, (hup x hx).trans hr⟩
    obtain ⟨v', H2, ρ2, q1, q2, q3, q4, q5, q6⟩ := A1.push (y := .msl (H'.length + 1) 0 n 1 0 (some n)) (cs_one C) rfl rfl (by omega) (fun x hx => by
      rw [hlen3] at hx
      rw [upd_ne (by omega)]; exact C.fresh x (by omega)) (by simp)
    rw [hlen3] at q3 q4 q5
    have kv := q2.known
    have cv2 := q2.cells
    have lv2 := q2.leaf
    have hoM := obj_some C.mem
    have hmp := (qAu.1 C.held).1
    have hρ2 : ∀ x, x < H'.length -> ρ2 x = ρ x := fun x hx => (q4 x (by omega)).trans (hup x hx)
    have hk2 : ∀ x, x < H'.length -> ρ x ≠ .cArr -> H2[x]? = H'[x]? := fun x hx hr => (q5 x (by omega) (by rw [hup x hx]; exact hr)).trans (k1 x hx)
    have hm1 := obj_leftS [AObj.cells y.cells 0, .cells (intL (List.replicate n y.first)) 0] C.mem
    have hm0 := obj_leftS [AObj.cells y.cells 0] C.mem
    have hm2 := obj_of C.mem (hk2 oM hoM (by rw [C.memR]; simp))
    have hlm0 := live_of hm0
    have hlm1 := live_of hm1
    have hlm2 := live_of hm2
    have hst : storeA cfg H2 92 (.ptr oM 0 0) v' = some (H2.set oM (.cells [v', .int .i64 L, .map mp] 0)) := by
      rw [store1 ty92 hm2 (off := 0) (by simp) cv2 lv2]
      rfl
    have hoMn : ∀ x, ρ2 x ≠ .mem -> (H2.set oM (.cells [v', .int .i64 L, .map mp] 0))[x]? = H2[x]? := fun x hx => by
      rw [qAw]; intro hc; exact hx (hc ▸ (hρ2 oM hoM).trans C.memR)
    have kc := C.cArr.known
    have hix : ∀ h, indexAddrA cfg h 22 (.lst (memsL l) z r) (.int .i64 i) = some (.ref y.cells) := fun h => by
      have hh : ¬ (i : Int) < 0 := by omega
      simp [indexAddrA, ty22, ty81, hh, hx, AV.cells, SMem.cells]
    have hsv : ∀ a b c, storeA cfg (H' ++ [.cells [a, b, c] 0]) 81 (.ptr H'.length 0 0) (.agg y.cells) = some (H' ++ [.cells y.cells 0]) := fun a b c => by
      simp [storeA, ty81, obj_app0, obj_zero, AV.cells, SMem.cells, AV.leaf, setCells]
    have C' : CI H (H2.set oM (.cells [v', .int .i64 L, .map mp] 0)) ρ2 oM mp L (l.take (i + 1)) v' (cs ++ [.msl (H'.length + 1) 0 n 1 0 (some n)]) := {
      mem := obj_sets hm2 0
      memR := (hρ2 oM hoM).trans C.memR
      held := (hoMn mp (by rw [hρ2 mp hmp, C.heldR]; simp)).trans ((hk2 mp hmp (by rw [C.heldR]; simp)).trans C.held)
      heldR := (hρ2 mp hmp).trans C.heldR
      cArr := q2.mono fun x hx hr => ⟨hoMn x (by rw [hr]; simp), hr⟩
      cLen := by simp [hcl]; omega
      cell := fun j v x hv hx => by
        by_cases hj : j < i
        · rw [qAx (by omega)] at hv
          rw [qBa (by omega)] at hx
          obtain ⟨o, g, cap, e, ho, hr⟩ := C.cell j v x hv (by rw [qBa hj]; exact hx)
          have hol := obj_some ho
          exact ⟨o, g, cap, e, obj_of (obj_of ho (hk2 o hol (by rw [hr]; simp))) (hoMn o (by rw [hρ2 o hol, hr]; simp)), (hρ2 o hol).trans hr⟩
        · have hj' : j = i := by
            have := (qAu.1 hv).1
            simp at this; omega
          subst hj'
          rw [qAy (by omega)] at hv
          rw [qBa (by omega), hget] at hx
          simp only [hcl, Nat.sub_self, qBe] at hv
          injection hv with hv; injection hx with hx; subst hv hx
          have hrr : upd ρ (H'.length + 1) (.cell j) (H'.length + 1) = .cell j := upd_self _ _ _
          have hol : (H' ++ [AObj.cells y.cells 0, .cells (intL (List.replicate n y.first)) 0]).obj (H'.length + 1) 0 = some (intL (List.replicate n y.first)) := by rw [obj_app]; rfl
          have hr2 : ρ2 (H'.length + 1) = .cell j := (q4 _ (by omega)).trans hrr
          exact ⟨_, 0, some n, by rw [hnt], by rw [hnt]; exact obj_of (obj_of hol (q5 _ (by omega) (by rw [hrr]; simp))) (hoMn _ (by rw [hr2]; simp)), hr2⟩
      old := fun x hx => by
        have hxo := C.old x hx
        have hle := C.le
        have hxn : x ≠ oM := by have := C.own; omega
        refine ⟨?_, (hρ2 x (by omega)).trans hxo.2⟩
        rw [qAw (Ne.symm hxn)]
        exact (hk2 x (by omega) (by rw [hxo.2]; simp)).trans hxo.1
      le := by simp; have := C.le; omega
      own := C.own
      fresh := fun o ho => q6 o (by simpa using ho) }
    have := ih (i + 1) hd' (by omega) _ ρ2 v' _ C'
    rw [got_loop]
    simp only [l24_0] at this ⊢
    simp only [SMem.cells] at hrep q1 hm0 hm1 hlm0 hlm1
    simp only [SMem.cells, hn] at hix hsv hrep q1 hm0 hm1 hlm0 hlm1
    simp only [F24, Tryz.f24, sxAll, cA, arithA, Env.keep, qt_eq, fieldAddrA, Rv.part, TD.isAgg, fillA, setCells, copies, mapO, ↓qAe, Nat.reduceBEq, Nat.reduceAdd, Nat.reduceMul, Nat.reduceLeDiff, Nat.reduceGT, bne, ↓reduceIte, load_ptr, load_ref, hlt, hix, hsv, hw, kc, kv, hm0, hlm0, hrep, sx_callf_l, la24_39, nilA_ptr, eqb_self, hm1, hlm1, hlm2, q1, hst, group, elems, one_msl, cells_msl, pu45, ty81, ty94, ty92, ty66, ty2, ty3] at this ⊢
    exact this _ _ _ _ _ _ _ _
theorem memNew_eq (l : List SMem) (z : Nat) (r : Room) (hl : l.length < 1000000) (hs : ∀ m ∈ l, 1 <= m.size /\ m.size <= 1024) (L : Nat) (hL : L <= 256) (H : Heap) : ∃ (H' : Heap) (ρ : Nat -> Role) (cv : AV) (cs : List AV),
    call cfg 24 [.lst (memsL l) z r, .int .i64 L] H = some (.ret (.tup [.ptr (H.length + 1) 0 0, .int .i64 0]), H') /\ CI H H' ρ (H.length + 1) H.length L l cv cs := by
  have hbad : (l.any badSize) = false := by
    rw [List.any_eq_false]
    intro m hm
    have := hs m hm
    simp [badSize]; omega
  have h3 := containsFMem_eq l SMem.cells badSize 44 [] z r H (by omega) (fun _ _ => rfl) (fun m _ => memNewx_eq m H)
  rw [hbad] at h3
  have C0 : CI H (H ++ [.map [], .cells [.lst [] 0 .nil, .int .i64 L, .map H.length] 0]) (upd (upd (fun _ => .other) (H.length + 1) .mem) H.length .held) (H.length + 1) H.length L (l.take 0) (.lst [] 0 .nil) [] := {
    mem := by rw [obj_app]; rfl
    memR := by rw [upd_ne (by omega)]; exact upd_self _ _ _
    held := by rw [qAy (by omega)]; simp
    heldR := upd_self _ _ _
    cArr := .inl ⟨rfl, rfl⟩
    cLen := by simp
    cell := fun i v x hv _ => by simp at hv
    old := fun x hx => ⟨qAx hx, by rw [upd_ne (by omega), upd_ne (by omega)]⟩
    le := by simp
    own := by omega
    fresh := fun o ho => by
      simp at ho
      rw [upd_ne (by omega), upd_ne (by omega)] }
  obtain ⟨⟨o, e', H'⟩, hx, H'', ρ', cv', cs', t8', t25', t26', hq, C⟩ := memNew_loop l z r hl hs H (H.length + 1) H.length L l 0 (by simp) (by omega) _ _ _ _ C0 (.lst (memsL l) z r) (.int .i64 L) .nilPtr (.int .i64 0) .junk (.bool false) (.bool false) .junk
  simp only [qAg] at hq
  obtain ⟨rfl, rfl, rfl⟩ := hq
  refine ⟨H', ρ', cv', cs', ?_, C⟩
  have c1 : ((L : Int) > 256) = False := by simp; omega
  simp only [qBo] at hx
  have h3' : call cfg 33 [.lst (memsL l) z r, .clo 44 []] H = some (.ret (.bool false), H) := h3
  rw [call24]
  simp only [F24, k24, Tryz.f24, sxAll, cA, arithA, Env.keep, qt_eq, resultsA, packA, buildA, fillA, setCells, lenA, mapO, ↓qAe, Nat.reduceBEq, Nat.reduceAdd, Nat.reduceLeDiff, ↓reduceIte, h3', pu33, c1, memsL_len, hx, known_map, cells_map, ty86, ty94, ty22, ty3]
  exact leave_impure pu24
end
end Go.Proofs.Sx
namespace Go.Rv
noncomputable section
section
variable {s : Sim} {h : Heap} {w : World}
end
section
variable {s : Sim} {h : Heap} {w : World} {S : List Nat}
end
end
end Go.Rv
namespace Go.Rv
noncomputable section
def immB : Nat -> AV -> Bool
 | 0, _ => false
 | d + 1, v =>
  match v with
  | .ptr _ _ _ => false
  | .msl _ _ _ _ _ _ => false
  | .map _ => false
  | .yld _ => false
  | .ref cs => cs.all (immB d)
  | .agg cs => cs.all (immB d)
  | .tup cs => cs.all (immB d)
  | .clo _ cs => cs.all (immB d)
  | .bnd _ cs => cs.all (immB d)
  | .lst xs _ _ => xs.all (immB d)
  | .iface _ v => immB d v
  | _ => true
theorem mapO_id {α : Type} {f : α -> Option α} : ∀ {l : List α}, (∀ x ∈ l, f x = some x) -> mapO f l = some l
 | [], _ => rfl
 | x :: r, H => by
  rw [mapO_cons, H x (qAi ..), mapO_id fun y hy => H y (qAk _ hy)]
  rfl
theorem imm_freeze (h : Heap) (n : Nat) : ∀ (d : Nat) (v : AV), immB d v = true -> ∀ d', d <= d' -> freezeV h n d' v = some v
 | 0, v, hv, _, _ => by simp [immB] at hv
 | d + 1, v, hv, d', hd => by
  obtain ⟨e, rfl⟩ : ∃ e, d' = e + 1 := ⟨d' - 1, by omega⟩
  have many : ∀ {cs : List AV}, cs.all (immB d) = true -> mapO (freezeV h n e) cs = some cs := fun hc => mapO_id fun x hx => imm_freeze h n d x (qBd.1 hc x hx) e (by omega)
  cases v <;> simp only [immB, qAb] at hv <;> simp only [freezeV] <;> first | (rw [many hv]; rfl) | (rw [imm_freeze h n d _ hv e (by omega)]; rfl) | rfl
theorem mapO_app {α β : Type} {f : α -> Option β} : ∀ {a b : List α} {a' b' : List β}, mapO f a = some a' -> mapO f b = some b' -> mapO f (a ++ b) = some (a' ++ b')
 | [], b, a', b', h1, h2 => by
  simp only [mapO, qAf] at h1
  subst h1
  exact h2
 | x :: r, b, a', b', h1, h2 => by
  rw [mapO_cons] at h1
  obtain ⟨y, hy, h1⟩ := qAc.1 h1
  obtain ⟨ys, hys, h1⟩ := qAc.1 h1
  simp only [qAf] at h1
  subst h1
  rw [qBr, mapO_cons, hy, qAe, mapO_app hys h2]
  rfl
theorem flatC_cons (x : AV) (r : List AV) : flatC (x :: r) = x.cells ++ flatC r := by simp [flatC]
theorem flatC_at {xs : List AV} {k : Nat} {x : AV} (hk : xs[k]? = some x) : flatC xs = flatC (xs.take k) ++ (x.cells ++ flatC (xs.drop (k + 1))) := by
 have hlt := (qAu.1 hk).1
 have hx : xs[k] = x := (qAu.1 hk).2
 conv => lhs; rw [← List.take_append_drop k xs]
 rw [flatC_append, qBs hlt, flatC_cons, hx]
theorem flatC_put {xs : List AV} {k : Nat} {x : AV} (hk : xs[k]? = some x) (y : AV) : flatC (xs.set k y) = flatC (xs.take k) ++ (y.cells ++ flatC (xs.drop (k + 1))) := by
 have hlt := (qAu.1 hk).1
 have h1 : (xs.set k y)[k]? = some y := qAz hlt
 rw [flatC_at h1, List.take_set_of_le (qAr _), List.drop_set_of_lt (by omega)]
theorem flatC_take {xs : List AV} {k z : Nat} {x : AV} (hk : xs[k]? = some x) (H : ∀ x ∈ xs, x.cells.length = z) : (flatC (xs.take k)).length = k * z := by
 have hlt := (qAu.1 hk).1
 rw [flatC_len (sz := z) (fun x hx => H x (List.mem_of_mem_take hx)), List.length_take, Nat.min_eq_left (by omega)]
theorem flat_set {xs : List AV} {k z j : Nat} {cs : List AV} (hk : xs[k]? = some (.agg cs)) (H : ∀ x ∈ xs, x.cells.length = z) (hj : j < cs.length) (v : AV) : (flatC xs).set (k * z + j) v = flatC (xs.set k (.agg (cs.set j v))) := by
 rw [flatC_at hk, flatC_put hk, ← flatC_take hk H, List.set_append, if_neg (by omega), Nat.add_sub_cancel_left]
 congr 1
 show (cs ++ _).set j v = cs.set j v ++ _
 rw [List.set_append, if_pos hj]
theorem flat_drop {xs : List AV} {k z j : Nat} {cs : List AV} (hk : xs[k]? = some (.agg cs)) (H : ∀ x ∈ xs, x.cells.length = z) (hj : j < cs.length) : ((flatC xs).drop (k * z + j)).head? = cs[j]? := by
 rw [flatC_at hk, ← flatC_take hk H, List.head?_drop, qAy (by omega), Nat.add_sub_cancel_left]
 show (cs ++ _)[j]? = _
 rw [qAx hj]
theorem group_flatC {z : Nat} (hz : z ≠ 1) : ∀ {xs : List AV}, (∀ x ∈ xs, ∃ cs, x = .agg cs /\ cs.length = z) -> group xs.length (flatC xs) z = xs
 | [], _ => rfl
 | x :: r, H => by
  obtain ⟨cs, rfl, hl⟩ := H x (qAi ..)
  have hz' : (z == 1) = false := by simp [hz]
  rw [qAv, group, flatC_cons, hz']
  simp only [AV.cells, qAb, if_false]
  rw [← hl, List.take_left, List.drop_left, hl, group_flatC hz fun y hy => H y (qAk _ hy)]
end
end Go.Rv
namespace Go.Proofs.Sx
open Go.Rv Go.Proofs
attribute [local congr] bind_left got_left
noncomputable section
theorem room_nil (r : Room) (h : r ≠ .nil) : (r == Room.nil) = false := by
 cases r <;> first | exact absurd rfl h | rfl
theorem append_none (h : Heap) {sz : Nat} (hz : 0 < sz) {xs : List AV} (hx : ∀ x ∈ xs, x.cells.length = sz /\ x.cells.all AV.leaf = true) (hl : xs.length < 1000000000) :
  ∃ v X o cap, appendA (h ++ [.cells [] 0]) sz (.msl h.length 0 0 sz 0 (some 0)) xs = some (v, h ++ X) /\ v = .msl o 0 xs.length sz 0 cap /\ h.length <= o /\ (h ++ X).obj o 0 = some (flatC xs) /\ (cap = none ∨ cap = some xs.length) := by
 cases xs with
 | nil =>
  have h0 : (sz == 0) = false := by simp; omega
  exact ⟨.msl h.length 0 0 sz 0 (some 0), [.cells [] 0], h.length, some 0, by simp [appendA, h0, Heap.obj], rfl, qAr _, by simp [Heap.obj, flatC], .inr rfl⟩
 | cons x r =>
  refine ⟨.msl (h.length + 1) 0 (x :: r).length sz 0 none, [.cells [] 0, .cells (flatC (x :: r)) 0], h.length + 1, none, ?_, rfl, by omega, by rw [obj_app]; rfl, .inl rfl⟩
  have hfl := flatC_len (fun y hm => (hx y hm).1)
  have hall : (flatC (x :: r)).all AV.leaf = true := by
   rw [qBd]
   intro c hc
   simp only [flatC, List.mem_flatten, qBl] at hc
   obtain ⟨l, ⟨y, hm, rfl⟩, hc⟩ := hc
   exact qBd.1 (hx y hm).2 c hc
  have h0 : (sz == 0) = false := by simp; omega
  have hob : Heap.obj (h ++ [AObj.cells [] 0]) h.length 0 = some [] := by rw [obj_app0, obj_zero]
  have hn : (decide (0 + 0 * sz + (flatC (x :: r)).length <= ([] : List AV).length) && capOk (some 0) (0 + (x :: r).length)) = false := by
   simp [capOk]
  have e2 : (0 + 0 * sz == ([] : List AV).length && (0 : Nat) == 0 && decide (0 + (x :: r).length <= mostLen)) = true := by
   have : (x :: r).length <= mostLen := by simp only [mostLen]; omega
   simp at this ⊢; exact this
  unfold appendA
  simp only
  rw [show ((x :: r).map AV.cells).flatten = flatC (x :: r) from rfl]
  have hfl' : ((flatC (x :: r)).length != (x :: r).length * sz) = false := by simp [hfl]
  have hne : (x :: r).isEmpty = false := rfl
  simp only [hfl', hall, h0, hob, hne, hn, qAd, qAe, Bool.not_true, Bool.or_false, qAb, if_false, bne_self_eq_false, if_true, growA, beq_self_eq_true, qBq]
  simp
  simp only [qAv] at hl
  simp only [mostLen]
  omega
theorem cloneS_lst (xs : List AV) (z : Nat) (r : Room) (h : Heap) (hnil : r = .nil -> xs = []) (hx : ∀ x ∈ xs, x.cells.length = 1 /\ x.cells.all AV.leaf = true) (hl : xs.length < 1000000000) :
  ∃ v X, call cfg 47 [.lst xs z r] h = some (.ret v, h ++ X) /\ ((r = .nil /\ v = .lst [] 0 .nil /\ xs = [] /\ X = []) ∨ r ≠ .nil /\ ∃ o cap, v = .msl o 0 xs.length 1 0 cap /\ h.length <= o /\ (h ++ X).obj o 0 = some (flatC xs)) := by
 rw [call47]
 by_cases hr : r = .nil
 ·subst hr
  refine ⟨.lst [] 0 .nil, [], ?_, .inl ⟨rfl, rfl, hnil rfl, rfl⟩⟩
  rw [List.append_nil]
  simp only [F47, k47, Tryz.f47, sxAll, cA, Env.keep, resultsA, packA, ↓qAe, Nat.reduceBEq, ↓reduceIte, ty23, binA, eqC, eqA]
  exact leave_impure pu47
 ·obtain ⟨v, X, o, cap, q1, q2, q3, q4, _⟩ := append_none h (sz := 1) (by omega) hx hl
  refine ⟨v, X, ?_, .inr ⟨hr, o, cap, q2, q3, q4⟩⟩
  have kv : known v = some v := by rw [q2]; rfl
  simp only [F47, k47, Tryz.f47, sxAll, cA, Env.keep, resultsA, packA, fillA, copies, ↓qAe, Nat.reduceBEq, Nat.reduceAdd, Nat.reduceGT, bne, ↓reduceIte, ty23, ty9, binA, eqC, eqA, room_nil r hr, elems, Nat.zero_mul, q1, kv]
  exact leave_impure pu47
theorem pu48 : cfg.pure 48 = false := rfl
instance t48 {d : Option Nat} : TightD cfg 48 d := ⟨fun _ _ => rfl⟩
def B48 (p : List Bool) := cA p Tryz.f48.body
def R48 (p : List Bool) (i : Nat) := Code.region i (cA p Tryz.f48.body) false
theorem F48 : (∀ p i, XR cfg 48 (R48 p i) (B48 p) (cA p Tryz.f48.body).toList i false) /\ cfg.imm 48 5 = false /\ RE cfg 48 [0, 2, 4] /\ cfg.pure 48 = false := ⟨fun _ _ => xr rfl rfl, by kernel_rfl, rE fun _ => rfl, rfl⟩
def k48 : Code := (.seq (R48 [ff] 0) (.seq (.seq (R48 [tt, ff, ff] 1) (.cond (.tmp 4) (.seq (R48 [tt, ff, tt, ff, ff] 2) .ret) .skip)) (.seq (R48 [tt, tt, ff] 3) .ret)))
theorem call48 (x0 : AV) (h : Heap) : call cfg 48 [x0] h = (exec cfg 48 k48 [(0, x0)] h).bind (callEnd cfg 48 h [.tmp 2]) := call_at2 (fnat Tryz.func48 (b := k48) (by kernel_rfl) (by kernel_rfl)) rfl rfl
theorem cloneFun_lst (xs : List AV) (z : Nat) (r : Room) (h : Heap) (hnil : r = .nil -> xs = []) (hx : ∀ x ∈ xs, x.cells.length = 5 /\ x.cells.all AV.leaf = true) (hl : xs.length < 1000000000) :
  ∃ v X, call cfg 48 [.lst xs z r] h = some (.ret v, h ++ X) /\ ((r = .nil /\ v = .lst [] 0 .nil /\ xs = [] /\ X = []) ∨ r ≠ .nil /\ ∃ o cap, v = .msl o 0 xs.length 5 0 cap /\ h.length <= o /\ (h ++ X).obj o 0 = some (flatC xs)) := by
 rw [call48]
 by_cases hr : r = .nil
 ·subst hr
  refine ⟨.lst [] 0 .nil, [], ?_, .inl ⟨rfl, rfl, hnil rfl, rfl⟩⟩
  rw [List.append_nil]
  simp only [F48, k48, Tryz.f48, sxAll, cA, Env.keep, resultsA, packA, ↓qAe, Nat.reduceBEq, ↓reduceIte, ty24, binA, eqC, eqA]
  exact leave_impure pu48
 ·obtain ⟨v, X, o, cap, q1, q2, q3, q4, _⟩ := append_none h (sz := 5) (by omega) hx hl
  refine ⟨v, X, ?_, .inr ⟨hr, o, cap, q2, q3, q4⟩⟩
  have kv : known v = some v := by rw [q2]; rfl
  simp only [F48, k48, Tryz.f48, sxAll, cA, Env.keep, resultsA, packA, fillA, copies, ↓qAe, Nat.reduceBEq, Nat.reduceAdd, Nat.reduceGT, bne, ↓reduceIte, ty24, ty39, binA, eqC, eqA, room_nil r hr, elems, Nat.zero_mul, q1, kv]
  exact leave_impure pu48
theorem pu49 : cfg.pure 49 = false := rfl
instance t49 {d : Option Nat} : TightD cfg 49 d := ⟨fun _ _ => rfl⟩
def B49 (p : List Bool) := cA p Tryz.f49.body
def R49 (p : List Bool) (i : Nat) := Code.region i (cA p Tryz.f49.body) false
theorem F49 : (∀ p i, XR cfg 49 (R49 p i) (B49 p) (cA p Tryz.f49.body).toList i false) /\ cfg.imm 49 5 = false /\ RE cfg 49 [0, 2, 4] /\ cfg.pure 49 = false := ⟨fun _ _ => xr rfl rfl, by kernel_rfl, rE fun _ => rfl, rfl⟩
def k49 : Code := (.seq (R49 [ff] 0) (.seq (.seq (R49 [tt, ff, ff] 1) (.cond (.tmp 4) (.seq (R49 [tt, ff, tt, ff, ff] 2) .ret) .skip)) (.seq (R49 [tt, tt, ff] 3) .ret)))
theorem call49 (x0 : AV) (h : Heap) : call cfg 49 [x0] h = (exec cfg 49 k49 [(0, x0)] h).bind (callEnd cfg 49 h [.tmp 2]) := call_at2 (fnat Tryz.func49 (b := k49) (by kernel_rfl) (by kernel_rfl)) rfl rfl
theorem cloneIns_lst (xs : List AV) (z : Nat) (r : Room) (h : Heap) (hnil : r = .nil -> xs = []) (hx : ∀ x ∈ xs, x.cells.length = 6 /\ x.cells.all AV.leaf = true) (hl : xs.length < 1000000000) :
  ∃ v X, call cfg 49 [.lst xs z r] h = some (.ret v, h ++ X) /\ ((r = .nil /\ v = .lst [] 0 .nil /\ xs = [] /\ X = []) ∨ r ≠ .nil /\ ∃ o cap, v = .msl o 0 xs.length 6 0 cap /\ h.length <= o /\ (h ++ X).obj o 0 = some (flatC xs)) := by
 rw [call49]
 by_cases hr : r = .nil
 ·subst hr
  refine ⟨.lst [] 0 .nil, [], ?_, .inl ⟨rfl, rfl, hnil rfl, rfl⟩⟩
  rw [List.append_nil]
  simp only [F49, k49, Tryz.f49, sxAll, cA, Env.keep, resultsA, packA, ↓qAe, Nat.reduceBEq, ↓reduceIte, ty37, binA, eqC, eqA]
  exact leave_impure pu49
 ·obtain ⟨v, X, o, cap, q1, q2, q3, q4, _⟩ := append_none h (sz := 6) (by omega) hx hl
  refine ⟨v, X, ?_, .inr ⟨hr, o, cap, q2, q3, q4⟩⟩
  have kv : known v = some v := by rw [q2]; rfl
  simp only [F49, k49, Tryz.f49, sxAll, cA, Env.keep, resultsA, packA, fillA, copies, ↓qAe, Nat.reduceBEq, Nat.reduceAdd, Nat.reduceGT, bne, ↓reduceIte, ty37, ty41, binA, eqC, eqA, room_nil r hr, elems, Nat.zero_mul, q1, kv]
  exact leave_impure pu49
def ownR (r : Room) : Room := if r = .nil then .nil else .open
def ownZ (r : Room) (z : Nat) : Nat := if r = .nil then 0 else z
theorem pu46 : cfg.pure 46 = true := rfl
instance t46 {d : Option Nat} : TightD cfg 46 d := ⟨fun _ _ => rfl⟩
def B46 (p : List Bool) := cA p Tryz.f46.body
def R46 (p : List Bool) (i : Nat) := Code.region i (cA p Tryz.f46.body) false
theorem F46 : (∀ p i, XR cfg 46 (R46 p i) (B46 p) (cA p Tryz.f46.body).toList i false) /\ cfg.imm 46 5 = false /\ RE cfg 46 [0, 2, 4] /\ cfg.pure 46 = true := ⟨fun _ _ => xr rfl rfl, by kernel_rfl, rE fun _ => rfl, rfl⟩
def k46 : Code := (.seq (R46 [ff] 0) (.seq (.seq (R46 [tt, ff, ff] 1) (.cond (.tmp 4) (.seq (R46 [tt, ff, tt, ff, ff] 2) .ret) .skip)) (.seq (R46 [tt, tt, ff] 3) .ret)))
theorem call46 (x0 : AV) (h : Heap) : call cfg 46 [x0] h = (exec cfg 46 k46 [(0, x0)] h).bind (callEnd cfg 46 h [.tmp 2]) := call_at2 (fnat Tryz.func46 (b := k46) (by kernel_rfl) (by kernel_rfl)) rfl rfl
theorem cloneMem_lst (xs : List AV) (z : Nat) (r : Room) (h : Heap) (hnil : r = .nil -> xs = []) (hx : ∀ x ∈ xs, x.cells.length = 3 /\ x.cells.all AV.leaf = true) (hl : xs.length < 1000000000)
  (hd : (flatC xs).all AV.dead = true) (hg : group xs.length (flatC xs) 3 = xs) :
  call cfg 46 [.lst xs z r] h = some (.ret (.lst xs (ownZ r 3) (ownR r)), h) := by
 rw [call46]
 by_cases hr : r = .nil
 ·subst hr
  rw [hnil rfl]
  simp only [F46, k46, Tryz.f46, sxAll, cA, Env.keep, resultsA, packA, ↓qAe, Nat.reduceBEq, ↓reduceIte, ty22, binA, eqC, eqA, ownR, ownZ]
  exact leave_kept rfl rfl
 ·obtain ⟨v, X, o, cap, q1, q2, q3, q4, _⟩ := append_none h (sz := 3) (by omega) hx hl
  have kv : known v = some v := by rw [q2]; rfl
  have hfl := flatC_len (fun y hm => (hx y hm).1)
  simp only [F46, k46, Tryz.f46, sxAll, cA, Env.keep, resultsA, packA, fillA, copies, ↓qAe, Nat.reduceBEq, Nat.reduceAdd, Nat.reduceGT, bne, ↓reduceIte, ty22, ty81, binA, eqC, eqA, room_nil r hr, elems, Nat.zero_mul, q1, kv, ownR, ownZ, if_neg hr]
  refine leave_pure rfl (by simp) ?_
  rw [q2]
  unfold freezeV
  simp only
  rw [if_neg (by omega), q4]
  simp only [qAd, qAe, qBg, hfl, qAr, if_true, qBf]
  rw [qBi (by omega), freeze_deads _ _ 38 hd]
  simp only [qAe, hg]
theorem pu50 : cfg.pure 50 = true := rfl
instance t50 {d : Option Nat} : TightD cfg 50 d := ⟨fun _ _ => rfl⟩
def B50 (p : List Bool) := cA p Tryz.f50.body
def R50 (p : List Bool) (i : Nat) := Code.region i (cA p Tryz.f50.body) false
theorem F50 : (∀ p i, XR cfg 50 (R50 p i) (B50 p) (cA p Tryz.f50.body).toList i false) /\ cfg.imm 50 5 = false /\ RE cfg 50 [0, 2, 4] /\ cfg.pure 50 = true := ⟨fun _ _ => xr rfl rfl, by kernel_rfl, rE fun _ => rfl, rfl⟩
def k50 : Code := (.seq (R50 [ff] 0) (.seq (.seq (R50 [tt, ff, ff] 1) (.cond (.tmp 4) (.seq (R50 [tt, ff, tt, ff, ff] 2) .ret) .skip)) (.seq (R50 [tt, tt, ff] 3) .ret)))
theorem call50 (x0 : AV) (h : Heap) : call cfg 50 [x0] h = (exec cfg 50 k50 [(0, x0)] h).bind (callEnd cfg 50 h [.tmp 2]) := call_at2 (fnat Tryz.func50 (b := k50) (by kernel_rfl) (by kernel_rfl)) rfl rfl
theorem cloneI_lst (xs : List AV) (z : Nat) (r : Room) (h : Heap) (hnil : r = .nil -> xs = []) (hx : ∀ x ∈ xs, x.cells.length = 1 /\ x.cells.all AV.leaf = true) (hl : xs.length < 1000000000)
  (hd : (flatC xs).all AV.dead = true) (hg : group xs.length (flatC xs) 1 = xs) :
  call cfg 50 [.lst xs z r] h = some (.ret (.lst xs (ownZ r 1) (ownR r)), h) := by
 rw [call50]
 by_cases hr : r = .nil
 ·subst hr
  rw [hnil rfl]
  simp only [F50, k50, Tryz.f50, sxAll, cA, Env.keep, resultsA, packA, ↓qAe, Nat.reduceBEq, ↓reduceIte, ty27, binA, eqC, eqA, ownR, ownZ]
  exact leave_kept rfl rfl
 ·obtain ⟨v, X, o, cap, q1, q2, q3, q4, _⟩ := append_none h (sz := 1) (by omega) hx hl
  have kv : known v = some v := by rw [q2]; rfl
  have hfl := flatC_len (fun y hm => (hx y hm).1)
  simp only [F50, k50, Tryz.f50, sxAll, cA, Env.keep, resultsA, packA, fillA, copies, ↓qAe, Nat.reduceBEq, Nat.reduceAdd, Nat.reduceGT, bne, ↓reduceIte, ty27, ty3, binA, eqC, eqA, room_nil r hr, elems, Nat.zero_mul, q1, kv, ownR, ownZ, if_neg hr]
  refine leave_pure rfl (by simp) ?_
  rw [q2]
  unfold freezeV
  simp only
  rw [if_neg (by omega), q4]
  simp only [qAd, qAe, qBg, hfl, qAr, if_true, qBf]
  rw [qBi (by omega), freeze_deads _ _ 38 hd]
  simp only [qAe, hg]
end
end Go.Proofs.Sx
