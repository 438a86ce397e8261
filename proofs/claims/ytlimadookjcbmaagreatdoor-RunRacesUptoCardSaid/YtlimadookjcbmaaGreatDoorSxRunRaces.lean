/-
  RunRaces: the first state in which two threads race is told by the picks up to there, and by none fewer.
-/
import Derived.Test.YtlimadookjcbmaaGreatDoorSxRacing
set_option linter.unusedSectionVars false
set_option linter.unusedSimpArgs false
set_option linter.unusedVariables false
set_option linter.defProp false
set_option maxHeartbeats 8000000
set_option maxRecDepth 100000
namespace Go.Proofs.Sx
open Go.Rv Go.Proofs
attribute [local congr] bind_left got_left
noncomputable section
theorem pu6 : cfg.pure 6 = true := rfl
instance t6 {d : Option Nat} : TightD cfg 6 d := ⟨fun _ _ => rfl⟩
def B6 (p : List Bool) := cA p Tryz.f6.body
def R6 (p : List Bool) (i : Nat) := Code.region i (cA p Tryz.f6.body) false
def D6 (p : List Bool) (i : Nat) := Code.region i (cA p Tryz.f6.body) true
theorem F6 : (∀ p i, XR cfg 6 (R6 p i) (B6 p) (cA p Tryz.f6.body).toList i false) ∧ cfg.imm 6 2 = true ∧ GO cfg 6 (B6 [tt, ff, ff]) 2 14 ∧ GO cfg 6 (B6 [tt, ff, ff]) 7 19 ∧ GO cfg 6 (B6 [tt, tt, tt, ff, tt, ff, ff]) 2 34 ∧ XR cfg 6 (D6 [tt, tt, tt, tt, ff, tt, ff, ff] 7) (B6 [tt, tt, tt, tt, ff, tt, ff, ff]) ((cA [tt, tt, tt, tt, ff, tt, ff, ff] Tryz.f6.body).toList) 7 true ∧ GO cfg 6 (B6 [tt, tt, tt, tt, ff, tt, ff, tt, ff]) 2 52 ∧ GO cfg 6 (B6 [tt, tt, tt, tt, ff, tt, ff, tt, ff]) 6 56 ∧ XR cfg 6 (D6 [tt, tt, tt, tt, tt, tt, ff] 11) (B6 [tt, tt, tt, tt, tt, tt, ff]) ((cA [tt, tt, tt, tt, tt, tt, ff] Tryz.f6.body).toList) 11 true ∧ GO cfg 6 (B6 [tt, tt, tt, tt, tt, tt, tt, ff, ff]) 2 74 ∧ XR cfg 6 (D6 [tt, tt, tt, tt, tt, tt, tt, tt, tt, ff] 16) (B6 [tt, tt, tt, tt, tt, tt, tt, tt, tt, ff]) ((cA [tt, tt, tt, tt, tt, tt, tt, tt, tt, ff] Tryz.f6.body).toList) 16 true ∧ GO cfg 6 (B6 [tt, tt, tt, tt, tt, tt, tt, tt, tt, tt, ff]) 2 92 ∧ RE cfg 6 [0, 1, 2, 4, 5, 6, 7, 8, 9, 10, 11, 22, 31, 39, 63, 78, 80] ∧ cfg.pure 6 = true := ⟨fun _ _ => xr rfl rfl, by kernel_rfl, gO (by kernel_rfl), gO (by kernel_rfl), gO (by kernel_rfl), xd (by kernel_rfl) rfl rfl, gO (by kernel_rfl), gO (by kernel_rfl), xd (by kernel_rfl) rfl rfl, gO (by kernel_rfl), xd (by kernel_rfl) rfl rfl, gO (by kernel_rfl), rE fun _ => rfl, rfl⟩
def k6 : Code := (.seq (R6 [ff] 0) (.seq (.seq (R6 [tt, ff, ff] 1) (.cond (.tmp 22) (.seq (R6 [tt, ff, tt, ff, ff] 2) .ret) .skip)) (.seq (R6 [tt, tt, ff] 3) (.seq (.seq (R6 [tt, tt, tt, ff, ff] 4) (.cond (.tmp 31) (.seq (R6 [tt, tt, tt, ff, tt, ff, ff] 5) .ret) .skip)) (.seq (.seq (R6 [tt, tt, tt, tt, ff, ff] 6) (.cond (.tmp 39) (.seq (D6 [tt, tt, tt, tt, ff, tt, ff, ff] 7) (.seq (R6 [tt, tt, tt, tt, ff, tt, ff, tt, ff] 8) .ret)) .skip)) (.seq (.seq (R6 [tt, tt, tt, tt, tt, ff, ff] 9) (.cond (.tmp 63) (.seq (R6 [tt, tt, tt, tt, tt, ff, tt, ff, ff] 10) .ret) .skip)) (.seq (D6 [tt, tt, tt, tt, tt, tt, ff] 11) (.seq (.seq (R6 [tt, tt, tt, tt, tt, tt, tt, ff, ff] 12) (.cond (.tmp 78) (.seq (R6 [tt, tt, tt, tt, tt, tt, tt, ff, tt, ff, ff] 13) .ret) .skip)) (.seq (.seq (R6 [tt, tt, tt, tt, tt, tt, tt, tt, ff, ff] 14) (.cond (.tmp 80) (.seq (R6 [tt, tt, tt, tt, tt, tt, tt, tt, ff, tt, ff, ff] 15) .ret) .skip)) (.seq (D6 [tt, tt, tt, tt, tt, tt, tt, tt, tt, ff] 16) (.seq (R6 [tt, tt, tt, tt, tt, tt, tt, tt, tt, tt, ff] 17) .ret)))))))))))
theorem call6 (x0 x1 : AV) (h : Heap) : call cfg 6 [x0, x1] h = (exec cfg 6 k6 [(0, x0), (1, x1)] h).bind (callEnd cfg 6 h [.tmp 4]) := call_at2 (fnat Tryz.func6 (b := k6) (by kernel_rfl) (by kernel_rfl)) rfl rfl
section
variable (p : SProg) (hw : p.wf) (hn : p.nils) (l : List Int) (z : Nat) (r : Room) (hz : z = 1 ∨ l = [])
include hw hn hz
theorem runRaces_go (h : Heap) (hb : call cfg 7 [.agg p.cells] h = some (.ret (.bool false), h)) (hl : l.length ≤ 300) : call cfg 6 [.agg p.cells, .lst (intL l) z r] h = some (.ret (.bool true), h) := by
  have haw := fun H => awake_eq H
  have c1 : ((l.length : Int) > 300) = False := eq_false (by omega)
  cases hm : mayP p with
  | false =>
    have r1 := fun H => runRacing_no hw l z r hm H
    rw [call6]
    simp only [SProg.cells] at hb r1 ⊢
    simp only [F6, k6, Tryz.f6, sxAll, cA, arithA, Env.keep, qt_eq, resultsA, packA, unA, loadA, Rv.part, cellsAt, TD.isAgg, lenA, mapO, ↓Option.bind_some, Nat.reduceBEq, Nat.reduceAdd, Nat.reduceLeDiff, Int.reduceBEq, bne, ↓reduceIte, intL_len, hb, haw, c1, r1, pu7, pu8, pu13, ty26, ty31]
    exact leave_kept pu6 rfl
  | true =>
    have hs := small_of_may hw hm
    have r1 := fun H => runRacing_yes hw l z r (by omega) hn hs hm H
    have r2 := fun (k : Nat) H => runRacing_yes hw (l.take k) z (cutR r) (by simp; omega) hn hs hm H
    cases hN : raceN p l with
    | none =>
      have hk : l.length / 2 ≤ l.length := by omega
      have ht := raceN_take p l hk
      rw [hN] at r1
      rw [hN] at ht
      have r2 := r2 (l.length / 2)
      rw [ht] at r2
      simp only [raceI, Option.filter] at r1 r2
      have hq : IntKind.i64.wrap ((l.length : Int).tdiv 2) = ((l.length / 2 : Nat) : Int) := by
        have : (l.length : Int).tdiv 2 = ((l.length / 2 : Nat) : Int) := by
          rw [Int.tdiv_eq_ediv_of_nonneg (by omega)]; omega
        rw [this, wrap_id (by omega) (by omega)]
      have hsl := fun H => slice_lst H l z r (l.length / 2) hk hz
      rw [call6]
      simp only [SProg.cells] at hb r1 r2 ⊢
      simp only [F6, k6, Tryz.f6, sxAll, cA, arithA, Env.keep, qt_eq, resultsA, packA, unA, loadA, Rv.part, cellsAt, TD.isAgg, lenA, optA, mapO, ↓Option.bind_some, Nat.reduceBEq, Nat.reduceAdd, Nat.reduceLeDiff, Int.reduceBEq, Int.reduceLT, bne, ↓reduceIte, intL_len, hb, haw, c1, r1, r2, hq, hsl, Int.reduceNeg, pu7, pu8, pu13, ty26, ty31]
      exact leave_kept pu6 rfl
    | some n =>
      have hle := raceN_le hN
      have ht := raceN_take p l hle
      have ht1 := raceN_take p l (show n - 1 ≤ l.length by omega)
      rw [hN] at r1 ht ht1
      have r2n := r2 n
      rw [ht] at r2n
      simp only [raceI, Option.filter, Nat.le_refl, decide_true, if_true] at r1 r2n
      have c2 : ((n : Int) > (l.length : Int)) = False := eq_false (by omega)
      have c3 : (l.length < n) = False := eq_false (by omega)
      have c4 : ((n : Int) == (n : Int)) = true := by simp
      have hsl := fun H => slice_lst H l z r n hle hz
      by_cases h0 : n = 0
      · have c5 : ((n : Int) == 0) = true := by simp [h0]
        rw [call6]
        simp only [SProg.cells] at hb r1 r2n ⊢
        simp only [F6, k6, Tryz.f6, sxAll, cA, arithA, Env.keep, qt_eq, resultsA, packA, unA, loadA, Rv.part, cellsAt, TD.isAgg, lenA, optA, mapO, ↓Option.bind_some, Nat.reduceBEq, Nat.reduceAdd, Nat.reduceLeDiff, bne, ↓reduceIte, intL_len, hb, haw, c1, r1, r2n, c3, c5, hsl, pu7, pu8, pu13, ty26, ty31]
        exact leave_kept pu6 rfl
      · have c5 : ((n : Int) == 0) = false := by simp [h0]
        have hnn : ¬ n ≤ n - 1 := by omega
        have r2m := r2 (n - 1)
        rw [ht1] at r2m
        simp only [raceI, Option.filter, hnn, decide_false, Bool.false_eq_true, if_false] at r2m
        have hsub : IntKind.i64.wrap ((n : Int) - 1) = ((n - 1 : Nat) : Int) := by rw [wrap_id (by omega) (by omega)]; omega
        have hsl1 := fun H => slice_lst H l z r (n - 1) (by omega) hz
        rw [call6]
        simp only [SProg.cells] at hb r1 r2n r2m ⊢
        simp only [F6, k6, Tryz.f6, sxAll, cA, arithA, Env.keep, qt_eq, resultsA, packA, unA, loadA, Rv.part, cellsAt, TD.isAgg, lenA, optA, mapO, ↓Option.bind_some, Nat.reduceBEq, Nat.reduceAdd, Nat.reduceLeDiff, bne, ↓reduceIte, intL_len, hb, haw, c1, r1, r2n, r2m, c3, c5, hsub, hsl, hsl1, Int.reduceNeg, pu7, pu8, pu13, ty26, ty31]
        exact leave_kept pu6 rfl
theorem runRaces_eq (h : Heap) : call cfg 6 [.agg p.cells, .lst (intL l) z r] h = some (.ret (.bool true), h) := by
  have haw := fun H => awake_eq H
  obtain ⟨b, hall⟩ := long_eq p h hw
  cases b with
  | false =>
    by_cases h1 : (l.length : Int) > 300
    · have hb := hall
      rw [call6]
      simp only [SProg.cells] at hb ⊢
      simp only [F6, k6, Tryz.f6, sxAll, cA, arithA, Env.keep, qt_eq, resultsA, packA, loadA, Rv.part, cellsAt, TD.isAgg, lenA, mapO, ↓Option.bind_some, Nat.reduceBEq, Nat.reduceAdd, Nat.reduceLeDiff, ↓reduceIte, intL_len, hb, haw, h1, pu7, pu8, ty26, ty31]
      exact leave_kept pu6 rfl
    exact runRaces_go p hw hn l z r hz h hall (by omega)
  | true =>
    have hb := hall
    rw [call6]
    simp only [SProg.cells] at hb ⊢
    simp only [F6, k6, Tryz.f6, sxAll, cA, Env.keep, qt_eq, resultsA, packA, loadA, Rv.part, cellsAt, TD.isAgg, mapO, ↓Option.bind_some, Nat.reduceBEq, Nat.reduceAdd, Nat.reduceLeDiff, ↓reduceIte, hb, haw, pu7, pu8, ty26]
    exact leave_kept pu6 rfl
end
end
end Go.Proofs.Sx
