/-
  package run: 'Racing': the first state in which two threads race.
-/
import Derived.Test.YtlimadookjcbmaaGreatDoorSxRaces2
import Derived.Test.YtlimadookjcbmaaGreatDoorSxRunFirst
set_option linter.unusedSectionVars false
set_option linter.unusedSimpArgs false
set_option linter.unusedVariables false
set_option linter.defProp false
set_option maxHeartbeats 8000000
set_option maxRecDepth 100000
namespace Go.Proofs.Sx
open Go.Rv Go.Proofs
attribute [local congr] bind_left got_left
noncomputable section
theorem pu13 : cfg.pure 13 = true := rfl
instance t13 {d : Option Nat} : TightD cfg 13 d := ⟨fun _ _ => rfl⟩
def B13 (p : List Bool) := cA p Tryz.f13.body
def R13 (p : List Bool) (i : Nat) := Code.region i (cA p Tryz.f13.body) false
theorem F13 : (∀ p i, XR cfg 13 (R13 p i) (B13 p) (cA p Tryz.f13.body).toList i false) ∧ cfg.imm 13 2 = true ∧ RE cfg 13 [0, 1, 2, 4, 5, 6, 7, 8, 10, 17, 21, 22, 23, 28, 33, 44] ∧ cfg.pure 13 = true := ⟨fun _ _ => xr rfl rfl, by kernel_rfl, rE fun _ => rfl, rfl⟩
def l13_0 : Code := (.seq (R13 [tt, tt, tt, ff, tt, ff, ff, ff] 5) (.seq (.cond (.tmp 23) .skip (.exit 0)) (.seq (.block 1 (.seq (R13 [tt, tt, tt, ff, tt, ff, ff, tt, tt, ff, ff, ff] 6) (.seq (.seq (R13 [tt, tt, tt, ff, tt, ff, ff, tt, tt, ff, ff, tt, ff, ff] 7) (.cond (.tmp 28) (.seq (R13 [tt, tt, tt, ff, tt, ff, ff, tt, tt, ff, ff, tt, ff, tt, ff, ff] 8) .ret) .skip)) (.seq (.seq (R13 [tt, tt, tt, ff, tt, ff, ff, tt, tt, ff, ff, tt, tt, ff, ff] 9) (.cond (.tmp 33) (.exit 0) .skip)) (.seq (R13 [tt, tt, tt, ff, tt, ff, ff, tt, tt, ff, ff, tt, tt, tt, ff] 10) (.seq (R13 [tt, tt, tt, ff, tt, ff, ff, tt, tt, ff, ff, tt, tt, tt, tt, ff] 11) (.cond (.tmp 44) (.exit 0) .skip))))))) (R13 [tt, tt, tt, ff, tt, ff, ff, tt, tt, tt] 12))))
def k13 : Code := (.seq (R13 [ff] 0) (.seq (R13 [tt, ff] 1) (.seq (.seq (R13 [tt, tt, ff, ff] 2) (.cond (.tmp 17) (.seq (R13 [tt, tt, ff, tt, ff, ff] 3) .ret) .skip)) (.seq (.seq (R13 [tt, tt, tt, ff, ff] 4) (.block 0 (.loop l13_0))) (.seq (R13 [tt, tt, tt, tt, ff] 13) .ret)))))
theorem call13 (x0 x1 : AV) (h : Heap) : call cfg 13 [x0, x1] h = (exec cfg 13 k13 [(0, x0), (1, x1)] h).bind (callEnd cfg 13 h [.tmp 4, .tmp 5]) := call_at2 (fnat Tryz.func13 (b := k13) (by kernel_rfl) (by kernel_rfl)) rfl rfl
def raceGo (p : SProg) (l : List Int) : Nat → Nat → SSt → Option Nat
  | 0, _, _ => none
  | d + 1, i, σ => if racesL p σ = [] then (if i = l.length then none else if ableL p σ = [] then none else raceGo p l d (i + 1) (stepS p σ (pickN p σ (l.getD i 0)))) else some i
def raceI : Option Nat → Int
  | none => -1
  | some n => n
def raceN (p : SProg) (l : List Int) : Option Nat := raceGo (ownP p) l (l.length + 1) 0 (startS (ownP p))
theorem raceGo_le {p : SProg} {l : List Int} : ∀ (d i : Nat) (σ : SSt) {n : Nat}, i + d = l.length + 1 → raceGo p l d i σ = some n → i ≤ n ∧ n ≤ l.length
  | 0, _, _, _, _, h => by cases h
  | d + 1, i, σ, n, hd, h => by
    unfold raceGo at h
    split at h
    · split at h
      · cases h
      · split at h
        · cases h
        · have := raceGo_le d (i + 1) _ (by omega) h
          omega
    · injection h with h; omega
theorem raceGo_take {p : SProg} {l : List Int} {k : Nat} (hk : k ≤ l.length) : ∀ (d' d i : Nat) (σ : SSt), i + d = l.length + 1 → i + d' = k + 1 → raceGo p (l.take k) d' i σ = (raceGo p l d i σ).filter (fun n => decide (n ≤ k))
  | 0, d, i, σ, hd, hd' => by
    cases h : raceGo p l d i σ with
    | none => rfl
    | some n =>
      have := raceGo_le d i σ hd h
      have hn : ¬ n ≤ k := by omega
      simp [raceGo, Option.filter, hn]
  | d' + 1, 0, i, σ, hd, hd' => by omega
  | d' + 1, d + 1, i, σ, hd, hd' => by
    have hll : (l.take k).length = k := by simp; omega
    unfold raceGo
    by_cases hr : racesL p σ = []
    · rw [if_pos hr, if_pos hr, hll]
      by_cases hik : i = k
      · rw [if_pos hik]
        split
        · rfl
        · split
          · rfl
          · cases h : raceGo p l d (i + 1) (stepS p σ (pickN p σ (l.getD i 0))) with
            | none => rfl
            | some n =>
              have := raceGo_le d (i + 1) _ (by omega) h
              have hn : ¬ n ≤ k := by omega
              simp [Option.filter, hn]
      · rw [if_neg hik, if_neg (show ¬ i = l.length by omega)]
        have hg : (l.take k).getD i 0 = l.getD i 0 := by rw [List.getD_eq_getElem?_getD, List.getD_eq_getElem?_getD, List.getElem?_take_of_lt (by omega)]
        rw [hg]
        by_cases ha : ableL p σ = []
        · rw [if_pos ha, if_pos ha]; rfl
        · rw [if_neg ha, if_neg ha]
          exact raceGo_take hk d' d (i + 1) _ (by omega) (by omega)
    · rw [if_neg hr, if_neg hr]
      have : i ≤ k := by omega
      simp [Option.filter, this]
theorem raceN_take (p : SProg) (l : List Int) {k : Nat} (hk : k ≤ l.length) : raceN p (l.take k) = (raceN p l).filter (fun n => decide (n ≤ k)) := by
  unfold raceN
  have hll : (l.take k).length = k := by simp; omega
  rw [hll]
  exact raceGo_take hk (k + 1) (l.length + 1) 0 _ (by omega) (by omega)
theorem raceN_le {p : SProg} {l : List Int} {n : Nat} (h : raceN p l = some n) : n ≤ l.length := (raceGo_le _ _ _ (by omega) h).2
theorem pairs_len (xs : List (Nat × Nat)) : (pairsL xs).length = xs.length := by simp [pairsL]
section
variable {p : SProg} (P : ProgOk p) (l : List Int) (z : Nat) (r : Room) (hl : l.length ≤ 1000)
include P hl
theorem racing_loop (s n : Nat) (H0 : Heap) (ρ0 : Nat → Role) : ∀ (d i : Nat), i + d = l.length + 1 → ∀ (H : Heap) (ρ : Nat → Role) (σ : SSt) (K : Nat), At p H ρ s σ → SOk p K σ → K + d < 1000000 → n ≤ H.length → Frm0 n H0 ρ0 H ρ → ∀ t0 t2 t4 t5 t7 t8 t10 t17 t23 t28 t33 t44,
    Got (exec cfg 13 (.loop l13_0) [(0, t0), (1, .lst (intL l) z r), (2, t2), (4, t4), (5, t5), (6, .ptr s 0 0), (7, t7), (8, t8), (10, t10), (17, t17), (21, .int .i64 ((l.length + 1 : Nat) : Int)), (22, .int .i64 i), (23, t23), (28, t28), (33, t33), (44, t44)] H) (fun q =>
      (∃ ρ', Frm0 n H0 ρ0 q.2.2 ρ') ∧ match raceGo p l d i σ with
      | none => ∃ t4 t5 t8 t10 t22 t23 t28 t33 t44, q.1 = .exit 0 ∧ q.2.1 = [(0, t0), (1, .lst (intL l) z r), (2, t2), (4, t4), (5, t5), (6, .ptr s 0 0), (7, t7), (8, t8), (10, t10), (17, t17), (21, .int .i64 ((l.length + 1 : Nat) : Int)), (22, t22), (23, t23), (28, t28), (33, t33), (44, t44)]
      | some m => q.1 = .ret ∧ q.2.1.get 4 = .int .i64 m ∧ q.2.1.get 5 = .int .i64 0) := by
  intro d
  induction d with
  | zero =>
    intro i hi H ρ σ K A W hK hn F t0 t2 t4 t5 t7 t8 t10 t17 t23 t28 t33 t44
    obtain rfl : i = l.length + 1 := by omega
    rw [got_loop]
    simp only [l13_0, F13, Tryz.f13, sxAll, cA, arithA, Env.keep, ↓Option.bind_some, Nat.reduceBEq, ↓reduceIte, Nat.lt_irrefl, raceGo]
    exact ⟨⟨ρ, F⟩, _, _, _, _, _, _, _, _, _, trivial, rfl⟩
  | succ d ih =>
    intro i hi H ρ σ K A W hK hn F t0 t2 t4 t5 t7 t8 t10 t17 t23 t28 t33 t44
    have hlt : (i < l.length + 1) = True := by simp; omega
    have hw := wrap_succ (i := i) (by omega)
    obtain ⟨zr, rr, hrc⟩ := races_eq A P W (by omega)
    rw [got_loop]
    unfold raceGo
    by_cases hr : racesL p σ = []
    · rw [if_pos hr]
      have hl0 : (0 < (racesL p σ).length) = False := by simp [hr]
      have hl0' : ((0 : Int) < ((racesL p σ).length : Int)) = False := by simp [hr]
      have hl0'' : (((racesL p σ).length : Int) > 0) = False := by simp [hr]
      by_cases hil : i = l.length
      · rw [if_pos hil]
        have e1 : ((i : Int) == (l.length : Int)) = true := by simp [hil]
        simp only [l13_0, F13, Tryz.f13, sxAll, cA, arithA, Env.keep, qt_eq, lenA, mapO, ↓Option.bind_some, Nat.reduceBEq, ↓reduceIte, hlt, hrc, pairs_len, intL_len, hl0', e1, pu24, ty31, ty62]
        exact ⟨⟨ρ, F⟩, _, _, _, _, _, _, _, _, _, trivial, rfl⟩
      · rw [if_neg hil]
        have e1 : ((i : Int) == (l.length : Int)) = false := by simp; omega
        have hi' : i < l.length := by omega
        have hx : (intL l)[i]? = some (.int .i64 (l.getD i 0)) := by
          rw [List.getD_eq_getElem?_getD, List.getElem?_eq_getElem hi']; simp [intL, hi']
        by_cases ha : ableL p σ = []
        · rw [if_pos ha]
          have hp := pick_no A P W (by omega) (l.getD i 0) ha
          simp only [l13_0, F13, Tryz.f13, sxAll, cA, arithA, Env.keep, qt_eq, indexAddrA, loadA, Rv.part, cellsAt, TD.isAgg, lenA, mapO, ↓Option.bind_some, Nat.reduceBEq, Nat.reduceAdd, Int.reduceBEq, bne, ↓reduceIte, hlt, hrc, pairs_len, intL_len, hl0', e1, hx, hp, pu24, pu20, ty3, ty31, ty62]
          exact ⟨⟨ρ, F⟩, _, _, _, _, _, _, _, _, _, trivial, rfl⟩
        · rw [if_neg ha]
          obtain ⟨H', ρ', hp, A', F'⟩ := pick_yes A P W (by omega) (l.getD i 0) ha
          have hle := F'.le
          have := ih (i + 1) (by omega) H' ρ' _ (K + 1) A' (step_ok P W _) (by omega) (by omega) (F.trans (F'.low hn))
          simp only [l13_0] at this ⊢
          simp only [F13, Tryz.f13, sxAll, cA, arithA, Env.keep, qt_eq, indexAddrA, loadA, Rv.part, cellsAt, TD.isAgg, lenA, mapO, ↓Option.bind_some, Nat.reduceBEq, Nat.reduceAdd, bne, ↓reduceIte, hlt, hrc, pairs_len, intL_len, hl0', e1, hx, hp, hw, pu24, pu20, ty3, ty31, ty62] at this ⊢
          exact this _ _ _ _ _ _ _ _ _ _ _ _
    · rw [if_neg hr]
      have hp := List.length_pos_iff.2 hr
      have hl0 : (0 < (racesL p σ).length) = True := eq_true hp
      have hl0' : ((0 : Int) < ((racesL p σ).length : Int)) = True := eq_true (by omega)
      have hl0'' : (((racesL p σ).length : Int) > 0) = True := eq_true (by omega)
      simp only [l13_0, F13, Tryz.f13, sxAll, cA, arithA, Env.keep, qt_eq, lenA, mapO, ↓Option.bind_some, Nat.reduceBEq, ↓reduceIte, hlt, hrc, pairs_len, hl0', pu24, ty62]
      exact ⟨⟨ρ, F⟩, trivial, trivial, trivial⟩
end
section
variable {p : SProg} (hw : p.wf) (l : List Int) (z : Nat) (r : Room) (hl : l.length ≤ 1000)
include hw
theorem runRacing_no (hm : mayP p = false) (h : Heap) : call cfg 13 [.agg p.cells, .lst (intL l) z r] h = some (.ret (.tup [.int .i64 0, .int .i64 4]), h) := by
  have hnw := new_no p hw hm h
  rw [call13]
  simp only [SProg.cells] at hnw ⊢
  simp only [F13, k13, Tryz.f13, sxAll, cA, arithA, Env.keep, qt_eq, resultsA, packA, loadA, Rv.part, cellsAt, TD.isAgg, mapO, ↓Option.bind_some, Nat.reduceBEq, Nat.reduceAdd, Nat.reduceLeDiff, Int.reduceBEq, bne, ↓reduceIte, hnw, known_nilPtr, pu15, ty26]
  exact leave_kept pu13 rfl
variable (hn : p.nils) (hs : p.small)
include hn hs hl
theorem runRacing_yes (hm : mayP p = true) (h : Heap) : call cfg 13 [.agg p.cells, .lst (intL l) z r] h = some (.ret (.tup [.int .i64 (raceI (raceN p l)), .int .i64 0]), h) := by
  obtain ⟨H1, ρ, s, hnew, A, hle, hk⟩ := new_yes p hw hn hs hm h
  obtain ⟨W, L⟩ := start_good hm
  have hlen := wrap_succ (i := l.length) (by omega)
  obtain ⟨⟨o, e', h'⟩, hx, ⟨ρ', F⟩, hq⟩ := racing_loop (prog_ok hm).own l z r hl s h.length H1 ρ (l.length + 1) 0 (by omega) H1 ρ _ 1 A W (by omega) hle (Frm0.refl _ _ _) (.agg p.cells) (.ref p.cells) (.int .i64 0) (.int .i64 0) (.int .i64 0) .junk .junk (.bool false) .junk .junk .junk .junk
  have hkeep : h'.take h.length = h := by
    apply List.ext_getElem?
    intro j
    by_cases hj : j < h.length
    · have k1 := hk j hj
      rw [List.getElem?_take_of_lt hj, (F.keep j hj k1.2).1, k1.1]
    · have := F.le
      rw [List.getElem?_eq_none (by simp; omega), List.getElem?_eq_none (by omega)]
  rw [show raceGo (ownP p) l (l.length + 1) 0 (startS (ownP p)) = raceN p l from rfl] at hq
  rw [call13]
  simp only [Int.natCast_zero] at hx
  simp only [SProg.cells] at hnew hx ⊢
  cases hN : raceN p l with
  | none =>
    rw [hN] at hq
    obtain ⟨t4, t5, t8, t10, t22, t23, t28, t33, t44, h1, h2⟩ := hq
    simp only at h1 h2
    subst h1 h2
    simp only [F13, k13, Tryz.f13, sxAll, cA, arithA, Env.keep, qt_eq, resultsA, packA, loadA, Rv.part, cellsAt, TD.isAgg, lenA, mapO, ↓Option.bind_some, Nat.reduceBEq, Nat.reduceAdd, Nat.reduceLeDiff, bne, ↓reduceIte, hnew, intL_len, hlen, hx, pu15, ty26, ty31]
    exact leave_pure pu13 hkeep rfl
  | some m =>
    rw [hN] at hq
    obtain ⟨h1, h2, h3⟩ := hq
    simp only at h1 h2 h3
    subst h1
    simp only [F13, k13, Tryz.f13, sxAll, cA, arithA, Env.keep, qt_eq, resultsA, packA, loadA, Rv.part, cellsAt, TD.isAgg, lenA, mapO, ↓Option.bind_some, Nat.reduceBEq, Nat.reduceAdd, Nat.reduceLeDiff, bne, ↓reduceIte, hnew, intL_len, hlen, hx, h2, h3, pu15, ty26, ty31]
    exact leave_pure pu13 hkeep rfl
end
end
end Go.Proofs.Sx
