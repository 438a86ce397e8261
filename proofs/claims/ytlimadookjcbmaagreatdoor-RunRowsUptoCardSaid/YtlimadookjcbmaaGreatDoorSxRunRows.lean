/-
  RunRows: a run by picks, and runs by its row.
-/
import Derived.Test.YtlimadookjcbmaaGreatDoorSxRunFirst
set_option linter.unusedSectionVars false
set_option linter.unusedSimpArgs false
set_option linter.unusedVariables false
set_option linter.defProp false
set_option maxHeartbeats 8000000
set_option maxRecDepth 100000
namespace Go.Proofs.Sx
open Go.Rv Go.Proofs
attribute [local congr] bind_left got_left
noncomputable section
theorem pu5 : cfg.pure 5 = true := rfl
instance t5 {d : Option Nat} : TightD cfg 5 d := ⟨fun _ _ => rfl⟩
def B5 (p : List Bool) := cA p Tryz.f5.body
def R5 (p : List Bool) (i : Nat) := Code.region i (cA p Tryz.f5.body) false
def D5 (p : List Bool) (i : Nat) := Code.region i (cA p Tryz.f5.body) true
theorem F5 : (∀ p i, XR cfg 5 (R5 p i) (B5 p) (cA p Tryz.f5.body).toList i false) ∧ cfg.imm 5 3 = true ∧ GO cfg 5 (B5 [tt, ff, ff]) 2 15 ∧ GO cfg 5 (B5 [tt, ff, ff]) 7 20 ∧ GO cfg 5 (B5 [tt, tt, tt, tt, tt, ff, ff]) 2 45 ∧ GO cfg 5 (B5 [tt, tt, tt, tt, tt, ff, ff]) 8 51 ∧ GO cfg 5 (B5 [tt, tt, tt, tt, tt, ff, ff]) 16 59 ∧ XR cfg 5 (D5 [tt, tt, tt, tt, tt, tt, tt, ff] 10) (B5 [tt, tt, tt, tt, tt, tt, tt, ff]) (pickL (cA [tt, tt, tt, tt, tt, tt, tt, ff] Tryz.f5.body).toList [8, 0, 1, 2, 3, 4, 5, 6, 7, 9, 10]) 10 true ∧ GO cfg 5 (B5 [tt, tt, tt, tt, tt, tt, tt, tt, ff, ff]) 2 84 ∧ GO cfg 5 (B5 [tt, tt, tt, tt, tt, tt, tt, tt, ff, ff]) 9 91 ∧ XR cfg 5 (D5 [tt, tt, tt, tt, tt, tt, tt, tt, tt, ff] 13) (B5 [tt, tt, tt, tt, tt, tt, tt, tt, tt, ff]) (pickL (cA [tt, tt, tt, tt, tt, tt, tt, tt, tt, ff] Tryz.f5.body).toList [10, 0, 1, 2, 3, 4, 5, 6, 7, 8, 9, 11, 12]) 13 true ∧ GO cfg 5 (B5 [tt, tt, tt, tt, tt, tt, tt, tt, tt, tt, ff]) 2 112 ∧ RE cfg 5 [0, 1, 2, 3, 6, 7, 8, 9, 10, 11, 12, 23, 32, 65, 99] ∧ cfg.pure 5 = true := ⟨fun _ _ => xr rfl rfl, by kernel_rfl, gO (by kernel_rfl), gO (by kernel_rfl), gO (by kernel_rfl), gO (by kernel_rfl), gO (by kernel_rfl), xd (by kernel_rfl) rfl rfl, gO (by kernel_rfl), gO (by kernel_rfl), xd (by kernel_rfl) rfl rfl, gO (by kernel_rfl), rE fun _ => rfl, rfl⟩
def k5 : Code := (.seq (R5 [ff] 0) (.seq (.seq (R5 [tt, ff, ff] 1) (.cond (.tmp 23) (.seq (R5 [tt, ff, tt, ff, ff] 2) .ret) .skip)) (.seq (R5 [tt, tt, ff] 3) (.seq (.seq (R5 [tt, tt, tt, ff, ff] 4) (.cond (.tmp 32) (.seq (R5 [tt, tt, tt, ff, tt, ff, ff] 5) .ret) .skip)) (.seq (R5 [tt, tt, tt, tt, ff] 6) (.seq (.seq (R5 [tt, tt, tt, tt, tt, ff, ff] 7) (.cond (.tmp 65) (.seq (R5 [tt, tt, tt, tt, tt, ff, tt, ff, ff] 8) .ret) .skip)) (.seq (R5 [tt, tt, tt, tt, tt, tt, ff] 9) (.seq (D5 [tt, tt, tt, tt, tt, tt, tt, ff] 10) (.seq (.seq (R5 [tt, tt, tt, tt, tt, tt, tt, tt, ff, ff] 11) (.cond (.tmp 99) (.seq (R5 [tt, tt, tt, tt, tt, tt, tt, tt, ff, tt, ff, ff] 12) .ret) .skip)) (.seq (D5 [tt, tt, tt, tt, tt, tt, tt, tt, tt, ff] 13) (.seq (R5 [tt, tt, tt, tt, tt, tt, tt, tt, tt, tt, ff] 14) .ret)))))))))))
theorem call5 (x0 x1 x2 : AV) (h : Heap) : call cfg 5 [x0, x1, x2] h = (exec cfg 5 k5 [(0, x0), (1, x1), (2, x2)] h).bind (callEnd cfg 5 h [.tmp 6]) := call_at2 (fnat Tryz.func5 (b := k5) (by kernel_rfl) (by kernel_rfl)) rfl rfl
theorem min_int (H : Heap) (a b : Nat) : moreA cfg H .min [3, 3] [.int .i64 (a : Int), .int .i64 (b : Int)] = some (.int .i64 ((min a b : Nat) : Int), H) := by
  by_cases h : a ≤ b
  · have : ((a : Int) ≤ b) := by omega
    simp [moreA, Nat.min_eq_left h]
    try omega
  · have : ¬ ((a : Int) ≤ b) := by omega
    simp [moreA, Nat.min_eq_right (Nat.le_of_lt (Nat.lt_of_not_le h))]
    try omega
section
variable (p : SProg) (hw : p.wf) (hn : p.nils) (l : List Int) (z : Nat) (r : Room) (hz : z = 1 ∨ l = [])
include hw hn hz
theorem runRows_go (h : Heap) (hb : call cfg 7 [.agg p.cells] h = some (.ret (.bool false), h)) (hl : l.length ≤ 300) (n : Int) : call cfg 5 [.agg p.cells, .lst (intL l) z r, .int .i64 n] h = some (.ret (.bool true), h) := by
  have haw := fun H => awake_eq H
  have c1 : ((l.length : Int) > 300) = False := eq_false (by omega)
  have w1 := wrap_succ (i := l.length) (by omega)
  have w2 := u64_small l.length hl
  have w3 := cutN_wrap n l.length hl
  have w4 : (((l.length + 1 : Nat) : Int) == 0) = false := by simp; omega
  have hk := cutN_le n l.length
  have hs1 := fun H => slice_lst H l z r (cutN n l.length) hk hz
  generalize cutN n l.length = k at *
  cases hm : mayP p with
  | false =>
    have r1 := fun H => runPlay_no hw l z r hm H
    rw [call5]
    simp only [SProg.cells, resN] at hb r1 ⊢
    simp only [F5, k5, Tryz.f5, sxAll, cA, arithA, Env.keep, qt_eq, resultsA, packA, storeA, unA, fieldAddrA, loadA, Rv.part, cellsAt, TD.isAgg, setCells, lenA, mapO, ↓Option.bind_some, Nat.reduceBEq, Nat.reduceAdd, Nat.reduceLeDiff, Int.reduceBEq, bne, ↓reduceIte, intL_len, hb, haw, c1, r1, pu7, pu8, pu11, ty33, ty26, ty31, ty3]
    refine leave_pure pu5 ?_ rfl
    simp
  | true =>
    have hs := small_of_may hw hm
    have B := play_begins (p := p) hk
    have hpl := play_len (p := p) (l := l)
    have hll := like_play p l
    have hll2 := like_play p (l.take k)
    obtain ⟨Wf, Gf⟩ := play_good hm l
    obtain ⟨Wf2, Gf2⟩ := play_good hm (l.take k)
    have hpl2 := play_len (p := p) (l := l.take k)
    obtain ⟨v1, k1, R1⟩ := runPlay_yes hw l z r hn hs hm (by omega) h
    have r3 := fun H => runPlay_yes hw (l.take k) z (cutR r) hn hs hm (by simp; omega) H
    have R1 : ResA (playR p l) v1 := R1
    have r3 : ∀ H, ∃ v, call cfg 11 [.agg p.cells, .lst (intL (l.take k)) z (cutR r)] H = some (.ret (.tup [v, .int .i64 0]), H) ∧ ResA (playR p (l.take k)) v := r3
    generalize playR p l = x1 at *
    generalize playR p (l.take k) = x3 at *
    have ht := prefix_take B.row
    have hlk : x3.2.length ≤ x1.2.length := B.row.length_le
    have lk1 := fun (z : Nat) (r : Room) H => runLike_yes hw x1.2 z r hn hs hm (by omega) H
    have lk3 := fun (z : Nat) (r : Room) H => runLike_yes hw x3.2 z r hn hs hm (by omega) H
    rw [hll] at lk1
    rw [hll2] at lk3
    have hout := Wf.outs
    have hout2 := Wf2.outs
    simp only [List.length_take] at hout2
    have few := B.few
    have most := B.most
    have R1' := R1
    obtain ⟨z1, m1, a1, z1', m1', rfl, es1, y1, g1, rfl, _, _, hz1⟩ := R1
    have hs3 := fun H => slice_lst H x1.2 z1' m1' x3.2.length hlk hz1
    rw [ht] at hs3
    obtain ⟨v2, k2, R2⟩ := lk1 z1' m1' (h ++ [.cells [.int .u8 x1.1.ending, .lst (intL x1.1.out) z1 m1, .lst es1 y1 g1, .int .i64 x1.2.length, .lst (intL x1.2) z1' m1'] 0])
    have R2' := R2
    obtain ⟨z2, m2, a2, z2', m2', rfl, es2, y2, g2, rfl, _⟩ := R2
    obtain ⟨v3, k3, R3⟩ := r3 (h ++ [.cells [.int .u8 x1.1.ending, .lst (intL x1.1.out) z1 m1, .lst es1 y1 g1, .int .i64 x1.2.length, .lst (intL x1.2) z1' m1'] 0, .cells [.int .u8 x1.1.ending, .lst (intL x1.1.out) z2 m2, .lst es2 y2 g2, .int .i64 x1.2.length, .lst (intL x1.2) z2' m2'] 0, .cells [.int .u8 0, .lst [] 0 .nil, .lst [] 0 .nil, .int .i64 0, .lst [] 0 .nil] 0])
    have R3' := R3
    obtain ⟨z3, m3, a3, z3', m3', rfl, es3, y3, g3, rfl, _⟩ := R3
    obtain ⟨v4, k4, R4⟩ := lk3 z1' (cutR m1') (h ++ [.cells [.int .u8 x1.1.ending, .lst (intL x1.1.out) z1 m1, .lst es1 y1 g1, .int .i64 x1.2.length, .lst (intL x1.2) z1' m1'] 0, .cells [.int .u8 x1.1.ending, .lst (intL x1.1.out) z2 m2, .lst es2 y2 g2, .int .i64 x1.2.length, .lst (intL x1.2) z2' m2'] 0, .cells [.int .u8 x3.1.ending, .lst (intL x3.1.out) z3 m3, .lst es3 y3 g3, .int .i64 x3.2.length, .lst (intL x3.2) z3' m3'] 0, .cells [.int .u8 0, .lst [] 0 .nil, .lst [] 0 .nil, .int .i64 0, .lst [] 0 .nil] 0])
    have R4' := R4
    obtain ⟨z4, m4, a4, z4', m4', rfl, es4, y4, g4, rfl, _⟩ := R4
    have sm1 := fun H => same_eq R1' R2' (by omega) (by omega) Gf.2.1 (fun l hl => Gf.2.2 _ (List.mem_map_of_mem hl)) H
    have sm2 := fun H => same_eq R3' R4' (by omega) (by omega) Gf2.2.1 (fun l hl => Gf2.2.2 _ (List.mem_map_of_mem hl)) H
    have d1 : ((x1.2.length : Int) > (l.length : Int)) = False := eq_false (by omega)
    have d2 : ((x3.2.length : Int) > (x1.2.length : Int)) = False := eq_false (by omega)
    have d3 : ((x3.2.length : Int) < ((min k x1.2.length : Nat) : Int)) = False := eq_false (by omega)
    have d4 : (l.length < x1.2.length) = False := eq_false (by omega)
    have d5 : (x1.2.length < x3.2.length) = False := eq_false (by omega)
    have d6 : (x3.2.length < min k x1.2.length) = False := eq_false (by omega)
    have hmin := fun H => min_int H k x1.2.length
    rw [call5]
    simp only [SProg.cells] at hb k1 k2 k3 k4 ⊢
    simp only [F5, k5, Tryz.f5, sxAll, cA, arithA, Env.keep, qt_eq, resultsA, packA, storeA, unA, fieldAddrA, loadA, Rv.part, cellsAt, TD.isAgg, convH, convA, setCells, lenA, optA, mapO, ↓Option.bind_some, Nat.reduceBEq, Nat.reduceAdd, Nat.reduceLeDiff, bne, ↓reduceIte, intL_len, hb, haw, c1, w1, w2, w3, w4, hs1, hs3, k1, k2, k3, k4, sm1, sm2, d1, d2, d3, hmin, pu7, pu8, pu11, pu12, pu10, ty33, ty26, ty31, ty3, ty39]
    refine leave_pure pu5 ?_ rfl
    simp
theorem runRows_eq (n : Int) (h : Heap) : call cfg 5 [.agg p.cells, .lst (intL l) z r, .int .i64 n] h = some (.ret (.bool true), h) := by
  have haw := fun H => awake_eq H
  obtain ⟨b, hall⟩ := long_eq p h hw
  cases b with
  | false =>
    by_cases h1 : (l.length : Int) > 300
    · have hb := hall
      rw [call5]
      simp only [SProg.cells] at hb ⊢
      simp only [F5, k5, Tryz.f5, sxAll, cA, arithA, Env.keep, qt_eq, resultsA, packA, loadA, Rv.part, cellsAt, TD.isAgg, lenA, mapO, ↓Option.bind_some, Nat.reduceBEq, Nat.reduceAdd, Nat.reduceLeDiff, ↓reduceIte, intL_len, hb, haw, h1, pu7, pu8, ty26, ty31]
      exact leave_kept pu5 rfl
    exact runRows_go p hw hn l z r hz h hall (by omega) n
  | true =>
    have hb := hall
    rw [call5]
    simp only [SProg.cells] at hb ⊢
    simp only [F5, k5, Tryz.f5, sxAll, cA, Env.keep, qt_eq, resultsA, packA, loadA, Rv.part, cellsAt, TD.isAgg, mapO, ↓Option.bind_some, Nat.reduceBEq, Nat.reduceAdd, Nat.reduceLeDiff, ↓reduceIte, hb, haw, pu7, pu8, ty26]
    exact leave_kept pu5 rfl
end
end
end Go.Proofs.Sx
