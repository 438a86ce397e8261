/-
  package step: 'Races': which threads race.
-/
import Derived.Test.YtlimadookjcbmaaGreatDoorSxCell
set_option linter.unusedSectionVars false
set_option linter.unusedSimpArgs false
set_option linter.unusedVariables false
set_option linter.defProp false
set_option maxHeartbeats 8000000
set_option maxRecDepth 100000
namespace Go.Proofs.Sx
open Go.Rv Go.Proofs
attribute [local congr] bind_left got_left
noncomputable section
theorem pu24 : cfg.pure 24 = true := rfl
instance t24 {d : Option Nat} : TightD cfg 24 d := ⟨fun _ _ => rfl⟩
def B24 (p : List Bool) := cA p Tryz.f24.body
def R24 (p : List Bool) (i : Nat) := Code.region i (cA p Tryz.f24.body) false
theorem F24 : (∀ p i, XR cfg 24 (R24 p i) (B24 p) (cA p Tryz.f24.body).toList i false) ∧ GO cfg 24 (B24 [tt, tt, ff, tt, ff, ff, tt, tt, ff, ff, tt, tt, tt, ff, ff, ff, ff]) 1 24 ∧ GO cfg 24 (B24 [tt, tt, ff, tt, ff, ff, tt, tt, ff, ff, tt, tt, tt, ff, ff, tt, ff, ff, tt, ff]) 1 42 ∧ GO cfg 24 (B24 [tt, tt, ff, tt, ff, ff, tt, tt, ff, ff, tt, tt, tt, ff, ff, tt, ff, ff, tt, ff]) 8 49 ∧ GO cfg 24 (B24 [tt, tt, ff, tt, ff, ff, tt, tt, ff, ff, tt, tt, tt, ff, ff, tt, ff, ff, tt, ff]) 15 56 ∧ GO cfg 24 (B24 [tt, tt, ff, tt, ff, ff, tt, tt, ff, ff, tt, tt, tt, ff, ff, tt, ff, ff, tt, ff]) 18 59 ∧ cfg.imm 24 68 = true ∧ RE cfg 24 [0, 2, 3, 4, 5, 6, 7, 8, 9, 11, 12, 13, 32, 63] ∧ cfg.pure 24 = true := ⟨fun _ _ => xr rfl rfl, gO (by kernel_rfl), gO (by kernel_rfl), gO (by kernel_rfl), gO (by kernel_rfl), gO (by kernel_rfl), by kernel_rfl, rE fun _ => rfl, rfl⟩
def l24_1 : Code := (.seq (.seq (R24 [tt, tt, ff, tt, ff, ff, tt, tt, ff, ff, tt, tt, tt, ff, ff, ff, ff] 7) (.cond (.tmp 32) .skip (.exit 2))) (.seq (.block 3 (.seq (R24 [tt, tt, ff, tt, ff, ff, tt, tt, ff, ff, tt, tt, tt, ff, ff, tt, ff, ff, ff] 9) (.seq (R24 [tt, tt, ff, tt, ff, ff, tt, tt, ff, ff, tt, tt, tt, ff, ff, tt, ff, ff, tt, ff] 10) (.cond (.tmp 63) (R24 [tt, tt, ff, tt, ff, ff, tt, tt, ff, ff, tt, tt, tt, ff, ff, tt, ff, ff, tt, tt, ff] 11) .skip)))) (R24 [tt, tt, ff, tt, ff, ff, tt, tt, ff, ff, tt, tt, tt, ff, ff, tt, tt] 8)))
def l24_0 : Code := (.seq (R24 [tt, tt, ff, tt, ff, ff, ff] 3) (.seq (.cond (.tmp 13) .skip (.exit 0)) (.seq (.block 1 (.seq (R24 [tt, tt, ff, tt, ff, ff, tt, tt, ff, ff, ff] 4) (.seq (R24 [tt, tt, ff, tt, ff, ff, tt, tt, ff, ff, tt, ff] 5) (.seq (R24 [tt, tt, ff, tt, ff, ff, tt, tt, ff, ff, tt, tt, ff] 6) (.block 2 (.loop l24_1)))))) (R24 [tt, tt, ff, tt, ff, ff, tt, tt, tt] 12))))
def k24 : Code := (.seq (R24 [ff] 0) (.seq (R24 [tt, ff] 1) (.seq (.seq (R24 [tt, tt, ff, ff] 2) (.block 0 (.loop l24_0))) (.seq (R24 [tt, tt, tt, ff] 13) .ret))))
theorem call24 (x0 : AV) (h : Heap) : call cfg 24 [x0] h = (exec cfg 24 k24 [(0, x0)] h).bind (callEnd cfg 24 h [.tmp 2]) := call_at2 (fnat Tryz.func24 (b := k24) (by kernel_rfl) (by kernel_rfl)) rfl rfl
def pairV (x : Nat × Nat) : AV := .agg [.int .i64 x.1, .int .i64 x.2]
def pairsL (xs : List (Nat × Nat)) : List AV := xs.map pairV
theorem pairs_cells (xs : List (Nat × Nat)) : ∀ x ∈ pairsL xs, x.cells.length = 2 ∧ x.cells.all AV.leaf = true := fun x hx => by
  obtain ⟨y, _, rfl⟩ := List.mem_map.1 hx
  exact ⟨rfl, rfl⟩
theorem pairs_flat : ∀ xs : List (Nat × Nat), flatC (pairsL xs) = (xs.map fun x => [AV.int .i64 x.1, AV.int .i64 x.2]).flatten
  | [] => rfl
  | x :: r => by
    have := pairs_flat r
    simp only [flatC, pairsL, List.map_cons, List.flatten_cons] at this ⊢
    rw [this]; rfl
theorem pairs_group : ∀ xs : List (Nat × Nat), group xs.length (flatC (pairsL xs)) 2 = pairsL xs
  | [] => rfl
  | x :: r => by
    have h := pairs_group r
    rw [pairs_flat] at h ⊢
    simp only [List.map_cons, List.flatten_cons, List.length_cons, group, pairsL]
    refine congr (congrArg List.cons ?_) ?_
    · rfl
    · exact h
theorem pairs_dead (xs : List (Nat × Nat)) : (flatC (pairsL xs)).all AV.dead = true := by
  rw [pairs_flat]
  rw [List.all_eq_true]
  intro x hx
  simp only [List.mem_flatten, List.mem_map] at hx
  obtain ⟨l, ⟨y, _, rfl⟩, hx⟩ := hx
  simp only [List.mem_cons, List.not_mem_nil, or_false] at hx
  rcases hx with rfl | rfl <;> rfl
structure OwnQ (n : Nat) (h0 h : Heap) (v : AV) (xs : List (Nat × Nat)) : Prop where
  b : Built h v (pairsL xs) 2
  own : ∀ o, objOf v = some o → n ≤ o
  le : n ≤ h.length
  old : h.take n = h0.take n
theorem OwnQ.app {n : Nat} {h0 h : Heap} {v : AV} {xs : List (Nat × Nat)} (O : OwnQ n h0 h v xs) (X : Heap) : OwnQ n h0 (h ++ X) v xs where
  b := O.b.app X
  own := O.own
  le := by have := O.le; simp; omega
  old := by rw [take_app X O.le, O.old]
theorem OwnQ.push {n : Nat} {h0 h : Heap} {v : AV} {xs : List (Nat × Nat)} (O : OwnQ n h0 h v xs) (x : Nat × Nat) (hl : xs.length < 100000) :
    ∃ v' h', appendA h 2 v [pairV x] = some (v', h') ∧ OwnQ n h0 h' v' (xs ++ [x]) ∧ known v' = some v' ∧ h.length ≤ h'.length ∧ (∀ o, o < h.length → objOf v ≠ some o → h'[o]? = h[o]?) ∧ (objOf v' = objOf v ∨ objOf v' = some h.length) := by
  obtain ⟨v', h', h1, h2, h4, h5, h6⟩ := append_built (ys := [pairV x]) O.b (fun y hy => (pairs_cells xs y hy).1) (fun y hm => pairs_cells [x] y hm) (by omega) (by simp [pairsL, mostLen]; omega)
  refine ⟨v', h', h1, ⟨by simpa [pairsL] using h2, fun o ho => ?_, Nat.le_trans O.le h4, ?_⟩, known_built h2, h4, h5, h6⟩
  · rcases h6 with h6 | h6
    · exact O.own o (h6 ▸ ho)
    · rw [h6] at ho; simp only [Option.some.injEq] at ho; subst ho; exact O.le
  · rw [← O.old]
    apply List.ext_getElem?
    intro i
    by_cases hi : i < n
    · rw [List.getElem?_take_of_lt hi, List.getElem?_take_of_lt hi]
      exact h5 i (Nat.lt_of_lt_of_le hi O.le) fun hc => by have := O.own i hc; omega
    · rw [List.getElem?_eq_none (by simp; omega), List.getElem?_eq_none (by simp; omega)]
theorem OwnQ.freeze {n d : Nat} {h0 h : Heap} {v : AV} {xs : List (Nat × Nat)} (O : OwnQ n h0 h v xs) : ∃ z r, freezeV h n (d + 2) v = some (.lst (pairsL xs) z r) := by
  rcases O.b with ⟨rfl, hx⟩ | ⟨o, g, cap, rfl, hob, _⟩
  · rw [hx]; exact ⟨0, .nil, rfl⟩
  · refine ⟨2, .open, ?_⟩
    have hn := O.own o rfl
    have hl : (flatC (pairsL xs)).length = (pairsL xs).length * 2 := flatC_len fun x hx => (pairs_cells xs x hx).1
    have hg := pairs_group xs
    have hll : (pairsL xs).length = xs.length := by simp [pairsL]
    unfold freezeV
    simp only
    rw [if_neg (by omega), hob]
    simp only [Option.bind_eq_bind, Option.bind_some, Nat.zero_add, hl, Nat.le_refl, if_true, List.drop_zero]
    rw [← hl, List.take_length, freeze_deads h n d (pairs_dead xs), hll, Option.bind_some, hg]
def acc1 (x : Option (Int × Int × Bool)) : Int := (x.map fun x => x.1).getD 0
def acc2 (x : Option (Int × Int × Bool)) : Int := (x.map fun x => x.2.1).getD 0
def acc3 (x : Option (Int × Int × Bool)) : Bool := (x.map fun x => x.2.2).getD false
theorem accA_eq : ∀ x, accA x = .agg [.int .i64 (acc1 x), .int .i64 (acc2 x), .bool (acc3 x)]
  | none => rfl
  | some _ => rfl
def hitB (a b : Option (Int × Int × Bool)) : Bool := b.isSome && (acc1 a == acc1 b && (acc2 a == acc2 b && (acc3 a || acc3 b)))
def rowR (p : SProg) (σ : SSt) (i : Nat) : Nat → Nat → List (Nat × Nat) → List (Nat × Nat)
  | 0, _, acc => acc
  | d + 1, k, acc => rowR p σ i d (k + 1) (if hitB (cellS p σ i) (cellS p σ k) then acc ++ [(i, k)] else acc)
def allR (p : SProg) (σ : SSt) : Nat → Nat → List (Nat × Nat) → List (Nat × Nat)
  | 0, _, acc => acc
  | d + 1, i, acc => allR p σ d (i + 1) (rowR p σ i (if (cellS p σ i).isSome then d else 0) (i + 1) acc)
def racesL (p : SProg) (σ : SSt) : List (Nat × Nat) := allR p σ σ.thr.length 0 []
theorem rowR_len (p : SProg) (σ : SSt) (i : Nat) : ∀ d k acc, (rowR p σ i d k acc).length ≤ acc.length + d
  | 0, _, _ => Nat.le_refl _
  | d + 1, k, acc => by
    have := rowR_len p σ i d (k + 1) (if hitB (cellS p σ i) (cellS p σ k) then acc ++ [(i, k)] else acc)
    unfold rowR
    split at this <;> rename_i h
    · rw [if_pos h]; simp at this; omega
    · rw [if_neg h]; omega
section
variable {p : SProg} {H0 : Heap} {ρ : Nat → Role} {s : Nat} {σ : SSt} (A : At p H0 ρ s σ) (P : ProgOk p) {K : Nat} (W : SOk p K σ) (hK : K < 10000000)
theorem at_old {H : Heap} (A : At p H0 ρ s σ) (h : H.take H0.length = H0.take H0.length) : At p H ρ s σ := by
  obtain ⟨m, mp, cv, tv, ov, cs, ts, R⟩ := A
  refine ⟨m, mp, cv, tv, ov, cs, ts, ?_⟩
  have : H = H0 ++ H.drop H0.length := by
    conv => lhs; rw [← List.take_append_drop H0.length H, h, List.take_length]
  rw [this]
  exact R.app _
include A P W hK
theorem races_inner (i o5 : Nat) (hi : (cellS p σ i).isSome = true) : ∀ (d k : Nat), k + d = σ.thr.length → ∀ (H : Heap) (v : AV) (acc : List (Nat × Nat)), OwnQ H0.length H0 H v acc → acc.length + d < 1000 →
    H.obj o5 0 = some [.int .i64 (acc1 (cellS p σ i)), .int .i64 (acc2 (cellS p σ i)), .bool (acc3 (cellS p σ i))] → objOf v ≠ some o5 → ∀ t2 t8 t9 t11 t12 t13 t32 t63,
    Got (exec cfg 24 (.loop l24_1) [(0, .ptr s 0 0), (2, t2), (3, v), (4, .int .i64 i), (5, .ptr o5 0 0), (6, .bool true), (7, .int .i64 k), (8, t8), (9, t9), (11, t11), (12, t12), (13, t13), (32, t32), (63, t63)] H) (fun q =>
      ∃ H' v' t7 t8 t9 t32 t63, q = (.exit 2, [(0, .ptr s 0 0), (2, t2), (3, v'), (4, .int .i64 i), (5, .ptr o5 0 0), (6, .bool true), (7, t7), (8, t8), (9, t9), (11, t11), (12, t12), (13, t13), (32, t32), (63, t63)], H') ∧ OwnQ H0.length H0 H' v' (rowR p σ i d k acc)) := by
  have few := W.few
  intro d
  induction d with
  | zero =>
    intro k hk H v acc O hl h5 hv t2 t8 t9 t11 t12 t13 t32 t63
    obtain rfl : k = σ.thr.length := by omega
    have A' := at_old A O.old
    obtain ⟨m, mp, cv, tv, ov, cs, ts, R⟩ := A'
    have hs := R.st
    have hls := live_of hs
    have kt := R.tArr.known
    have lt := R.tArr.len 76
    rw [R.tLen] at lt
    simp only [SProg.cells, List.cons_append, List.nil_append] at hs
    rw [got_loop]
    simp only [l24_1, F24, Tryz.f24, sxAll, cA, arithA, Env.keep, qt_eq, fieldAddrA, Rv.part, TD.isAgg, ↓Option.bind_some, Nat.reduceBEq, Nat.reduceAdd, ↓reduceIte, load_ptr, hs, hls, kt, lt, Nat.lt_irrefl, ty71, ty69]
    exact ⟨_, _, _, _, _, _, _, rfl, O⟩
  | succ d ih =>
    intro k hk H v acc O hl h5 hv t2 t8 t9 t11 t12 t13 t32 t63
    have A' := at_old A O.old
    have hcell := stCell_eq A' P W hK k
    obtain ⟨m, mp, cv, tv, ov, cs, ts, R⟩ := A'
    have hs := R.st
    have hls := live_of hs
    have kt := R.tArr.known
    have lt := R.tArr.len 76
    rw [R.tLen] at lt
    have hlt : (k < σ.thr.length) = True := by simp; omega
    have hw := wrap_succ (i := k) (by omega)
    rw [accA_eq] at hcell
    have O1 := O.app [.cells [.int .i64 (acc1 (cellS p σ k)), .int .i64 (acc2 (cellS p σ k)), .bool (acc3 (cellS p σ k))] 0]
    have h51 := obj_leftS [.cells [.int .i64 (acc1 (cellS p σ k)), .int .i64 (acc2 (cellS p σ k)), .bool (acc3 (cellS p σ k))] 0] h5
    have hl51 := live_of h51
    have kv := known_built O1.b
    have no := ih (k + 1) (by omega) _ v acc O1 (by omega) h51 hv
    simp only [SProg.cells, List.cons_append, List.nil_append] at hs
    rw [got_loop]
    unfold rowR
    simp only [l24_1] at no ⊢
    generalize ha : cellS p σ i = a at *
    generalize cellS p σ k = b at *
    unfold hitB
    cases hb : b.isSome with
    | false =>
      rw [hb] at hcell
      simp only [Bool.false_and, Bool.false_eq_true, if_false]
      simp only [F24, Tryz.f24, sxAll, cA, arithA, Env.keep, qt_eq, fieldAddrA, Rv.part, TD.isAgg, mapO, ↓Option.bind_some, Nat.reduceBEq, Nat.reduceAdd, ↓reduceIte, load_ptr, hs, hls, kt, lt, hlt, hcell, store_acc, hw, pu42, ty71, ty69, ty95] at no ⊢
      exact no _ _ _ _ _ _ _ _
    | true =>
      rw [hb] at hcell
      cases h1 : acc1 a == acc1 b with
      | false =>
        simp only [Bool.false_and, Bool.and_false, Bool.false_eq_true, if_false]
        simp only [F24, Tryz.f24, sxAll, cA, arithA, Env.keep, qt_eq, fieldAddrA, Rv.part, TD.isAgg, mapO, ↓Option.bind_some, Nat.reduceBEq, Nat.reduceAdd, ↓reduceIte, load_ptr, hs, hls, kt, lt, hlt, hcell, store_acc, h51, hl51, hw, h1, pu42, ty71, ty69, ty3, ty95] at no ⊢
        exact no _ _ _ _ _ _ _ _
      | true =>
        cases h2 : acc2 a == acc2 b with
        | false =>
          simp only [Bool.false_and, Bool.and_false, Bool.false_eq_true, if_false]
          simp only [F24, Tryz.f24, sxAll, cA, arithA, Env.keep, qt_eq, fieldAddrA, Rv.part, TD.isAgg, mapO, ↓Option.bind_some, Nat.reduceBEq, Nat.reduceAdd, ↓reduceIte, load_ptr, hs, hls, kt, lt, hlt, hcell, store_acc, h51, hl51, hw, h1, h2, pu42, ty71, ty69, ty3, ty95] at no ⊢
          exact no _ _ _ _ _ _ _ _
        | true =>
          obtain ⟨v2, H2, q1, O2, kv2, hle2, q5, q6⟩ := O1.push (i, k) (by omega)
          have ho5 := obj_some h5
          have hne : objOf v2 ≠ some o5 := by
            rcases q6 with q6 | q6
            · rw [q6]; exact hv
            · rw [q6]; simp; omega
          have h52 := obj_of h51 (q5 o5 (by simp; omega) hv)
          have yes := ih (k + 1) (by omega) _ v2 _ O2 (by simp; omega) h52 hne
          simp only [l24_1] at yes
          unfold pairV at q1
          cases h3 : acc3 a with
          | true =>
            rw [h3] at h51 h5
            simp only [Bool.and_true, Bool.true_or, if_true]
            simp only [F24, Tryz.f24, sxAll, cA, arithA, Env.keep, qt_eq, fieldAddrA, Rv.part, TD.isAgg, buildA, fillA, setCells, copies, mapO, ↓Option.bind_some, Nat.reduceBEq, Nat.reduceAdd, Nat.reduceMul, Nat.reduceLeDiff, Nat.reduceGT, bne, ↓reduceIte, load_ptr, hs, hls, kt, lt, hlt, hcell, store_acc, h51, hl51, hw, h1, h2, kv, q1, kv2, elems, group, pu42, ty71, ty69, ty3, ty4, ty95, ty62, ty98] at yes ⊢
            exact yes _ _ _ _ _ _ _ _
          | false =>
            rw [h3] at h51 h5
            cases h4 : acc3 b with
            | true =>
              rw [h4] at hcell h51 q1 hl51
              simp only [Bool.and_true, Bool.false_or, if_true]
              simp only [F24, Tryz.f24, sxAll, cA, arithA, Env.keep, qt_eq, fieldAddrA, Rv.part, TD.isAgg, buildA, fillA, setCells, copies, mapO, ↓Option.bind_some, Nat.reduceBEq, Nat.reduceAdd, Nat.reduceMul, Nat.reduceLeDiff, Nat.reduceGT, bne, ↓reduceIte, load_ptr, hs, hls, kt, lt, hlt, hcell, store_acc, h51, hl51, hw, h1, h2, kv, q1, kv2, elems, group, pu42, ty71, ty69, ty3, ty4, ty95, ty62, ty98] at yes ⊢
              exact yes _ _ _ _ _ _ _ _
            | false =>
              rw [h4] at hcell h51 no hl51
              simp only [Bool.and_false, Bool.or_false, Bool.false_eq_true, if_false]
              simp only [F24, Tryz.f24, sxAll, cA, arithA, Env.keep, qt_eq, fieldAddrA, Rv.part, TD.isAgg, mapO, ↓Option.bind_some, Nat.reduceBEq, Nat.reduceAdd, ↓reduceIte, load_ptr, hs, hls, kt, lt, hlt, hcell, store_acc, h51, hl51, hw, h1, h2, pu42, ty71, ty69, ty3, ty4, ty95] at no ⊢
              exact no _ _ _ _ _ _ _ _
end
end
end Go.Proofs.Sx
