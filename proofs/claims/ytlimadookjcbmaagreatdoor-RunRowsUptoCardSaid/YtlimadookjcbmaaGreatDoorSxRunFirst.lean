/-
  RunFirst: a run by picks, and one by the first ones of them.
-/
import Derived.Test.YtlimadookjcbmaaGreatDoorPtQ
import Derived.Test.YtlimadookjcbmaaGreatDoorPtR
set_option linter.unusedSectionVars false
set_option linter.unusedSimpArgs false
set_option linter.unusedVariables false
set_option linter.defProp false
set_option maxHeartbeats 8000000
set_option maxRecDepth 100000
namespace Go.Proofs.Sx
open Go.Rv Go.Proofs
attribute [local congr] bind_left got_left
noncomputable section
theorem pu4 : cfg.pure 4 = true := rfl
instance t4 {d : Option Nat} : TightD cfg 4 d := ⟨fun _ _ => rfl⟩
def B4 (p : List Bool) := cA p Tryz.f4.body
def R4 (p : List Bool) (i : Nat) := Code.region i (cA p Tryz.f4.body) false
def D4 (p : List Bool) (i : Nat) := Code.region i (cA p Tryz.f4.body) true
theorem F4 : (∀ p i, XR cfg 4 (R4 p i) (B4 p) (cA p Tryz.f4.body).toList i false) ∧ cfg.imm 4 3 = true ∧ GO cfg 4 (B4 [tt, ff, ff]) 2 16 ∧ GO cfg 4 (B4 [tt, ff, ff]) 7 21 ∧ XR cfg 4 (D4 [tt, tt, tt, tt, ff] 5) (B4 [tt, tt, tt, tt, ff]) (pickL (cA [tt, tt, tt, tt, ff] Tryz.f4.body).toList [8, 0, 1, 2, 3, 4, 5, 6, 7, 9, 10]) 5 true ∧ GO cfg 4 (B4 [tt, tt, tt, tt, tt, ff, ff]) 3 51 ∧ GO cfg 4 (B4 [tt, tt, tt, tt, tt, tt, ff, ff]) 5 63 ∧ GO cfg 4 (B4 [tt, tt, tt, tt, tt, tt, ff, ff]) 14 72 ∧ GO cfg 4 (B4 [tt, tt, tt, tt, tt, tt, ff, ff]) 23 81 ∧ GO cfg 4 (B4 [tt, tt, tt, tt, tt, tt, ff, ff]) 31 89 ∧ GO cfg 4 (B4 [tt, tt, tt, tt, tt, tt, ff, ff]) 35 93 ∧ XR cfg 4 (D4 [tt, tt, tt, tt, tt, tt, tt, ff, tt, ff, ff, tt, ff, ff, ff] 13) (B4 [tt, tt, tt, tt, tt, tt, tt, ff, tt, ff, ff, tt, ff, ff, ff]) ((cA [tt, tt, tt, tt, tt, tt, tt, ff, tt, ff, ff, tt, ff, ff, ff] Tryz.f4.body).toList) 13 true ∧ XR cfg 4 (D4 [tt, tt, tt, tt, tt, tt, tt, tt, ff, tt, ff, ff, tt, ff, ff, ff] 18) (B4 [tt, tt, tt, tt, tt, tt, tt, tt, ff, tt, ff, ff, tt, ff, ff, ff]) ((cA [tt, tt, tt, tt, tt, tt, tt, tt, ff, tt, ff, ff, tt, ff, ff, ff] Tryz.f4.body).toList) 18 true ∧ RE cfg 4 [0, 1, 2, 3, 6, 7, 8, 9, 10, 11, 12, 13, 24, 54, 99, 104, 117, 122, 135] ∧ cfg.pure 4 = true := ⟨fun _ _ => xr rfl rfl, by kernel_rfl, gO (by kernel_rfl), gO (by kernel_rfl), xd (by kernel_rfl) rfl rfl, gO (by kernel_rfl), gO (by kernel_rfl), gO (by kernel_rfl), gO (by kernel_rfl), gO (by kernel_rfl), gO (by kernel_rfl), xd (by kernel_rfl) rfl rfl, xd (by kernel_rfl) rfl rfl, rE fun _ => rfl, rfl⟩
def l4_1 : Code := (.seq (.seq (R4 [tt, tt, tt, tt, tt, tt, tt, tt, ff, tt, ff, ff, ff, ff] 16) (.cond (.tmp 122) .skip (.exit 2))) (.seq (.block 3 (.seq (D4 [tt, tt, tt, tt, tt, tt, tt, tt, ff, tt, ff, ff, tt, ff, ff, ff] 18) (.cond (.tmp 135) (.seq (R4 [tt, tt, tt, tt, tt, tt, tt, tt, ff, tt, ff, ff, tt, ff, ff, tt, ff, ff] 19) .ret) .skip))) (R4 [tt, tt, tt, tt, tt, tt, tt, tt, ff, tt, ff, ff, tt, tt] 17)))
def l4_0 : Code := (.seq (.seq (R4 [tt, tt, tt, tt, tt, tt, tt, ff, tt, ff, ff, ff, ff] 11) (.cond (.tmp 104) .skip (.exit 0))) (.seq (.block 1 (.seq (D4 [tt, tt, tt, tt, tt, tt, tt, ff, tt, ff, ff, tt, ff, ff, ff] 13) (.cond (.tmp 117) (.seq (R4 [tt, tt, tt, tt, tt, tt, tt, ff, tt, ff, ff, tt, ff, ff, tt, ff, ff] 14) .ret) .skip))) (R4 [tt, tt, tt, tt, tt, tt, tt, ff, tt, ff, ff, tt, tt] 12)))
def k4 : Code := (.seq (R4 [ff] 0) (.seq (.seq (R4 [tt, ff, ff] 1) (.cond (.tmp 24) (.seq (R4 [tt, ff, tt, ff, ff] 2) .ret) .skip)) (.seq (R4 [tt, tt, ff] 3) (.seq (R4 [tt, tt, tt, ff] 4) (.seq (D4 [tt, tt, tt, tt, ff] 5) (.seq (.seq (R4 [tt, tt, tt, tt, tt, ff, ff] 6) (.cond (.tmp 54) (.seq (R4 [tt, tt, tt, tt, tt, ff, tt, ff, ff] 7) .ret) .skip)) (.seq (.seq (R4 [tt, tt, tt, tt, tt, tt, ff, ff] 8) (.cond (.tmp 99) (.seq (R4 [tt, tt, tt, tt, tt, tt, ff, tt, ff, ff] 9) .ret) .skip)) (.seq (.seq (R4 [tt, tt, tt, tt, tt, tt, tt, ff, ff] 10) (.block 0 (.loop l4_0))) (.seq (.seq (R4 [tt, tt, tt, tt, tt, tt, tt, tt, ff, ff] 15) (.block 2 (.loop l4_1))) (.seq (R4 [tt, tt, tt, tt, tt, tt, tt, tt, tt, ff] 20) .ret))))))))))
theorem call4 (x0 x1 x2 : AV) (h : Heap) : call cfg 4 [x0, x1, x2] h = (exec cfg 4 k4 [(0, x0), (1, x1), (2, x2)] h).bind (callEnd cfg 4 h [.tmp 6]) := call_at2 (fnat Tryz.func4 (b := k4) (by kernel_rfl) (by kernel_rfl)) rfl rfl
def cutN (n : Int) (m : Nat) : Nat := ((IntKind.u64.wrap n).tmod ((m + 1 : Nat) : Int)).toNat
theorem cutN_le (n : Int) (m : Nat) : cutN n m ≤ m := by
  have h1 := Int.tmod_lt_of_pos (IntKind.u64.wrap n) (show (0 : Int) < ((m + 1 : Nat) : Int) by omega)
  unfold cutN; omega
theorem cutN_wrap (n : Int) (m : Nat) (hm : m ≤ 300) : IntKind.i64.wrap ((IntKind.u64.wrap n).tmod ((m + 1 : Nat) : Int)) = (cutN n m : Int) := by
  have h0 := Int.tmod_nonneg ((m + 1 : Nat) : Int) (u64_pos n)
  have h1 := Int.tmod_lt_of_pos (IntKind.u64.wrap n) (show (0 : Int) < ((m + 1 : Nat) : Int) by omega)
  rw [wrap_id (by omega) (by omega)]
  unfold cutN; omega
theorem u64_small (m : Nat) (hm : m ≤ 300) : IntKind.u64.wrap ((m + 1 : Nat) : Int) = ((m + 1 : Nat) : Int) := by rw [u64_wrap]; omega
def cutR (r : Room) : Room := match r with | .nil => .nil | .exact c => .exact (c - 0) | .open => .open
theorem slice_lst (H : Heap) (l : List Int) (z : Nat) (r : Room) (k : Nat) (hk : k ≤ l.length) (hz : z = 1 ∨ l = []) : sliceA cfg H 31 (.lst (intL l) z r) none (some (.int .i64 k)) none = some (.lst (intL (l.take k)) z (cutR r)) := by
  have h1 : (0 : Int) ≤ k := by omega
  have h2 : ((k : Int) ≤ (intL l).length) := by simp [intL]; omega
  have h3 : (z == 1 || (intL l).isEmpty) = true := by rcases hz with rfl | rfl <;> simp [intL]
  simp only [sliceA, ty31, ty3, Option.bind_eq_bind, Option.bind_some, h3, Bool.not_true, Bool.false_eq_true, if_false, boundA, h1, h2, decide_true, Bool.and_self, if_true, Int.toNat_natCast]
  cases r <;> simp [intL, cutR, List.map_take]
theorem intL_pre {bo ao : List Int} (hp : bo <+: ao) {i : Nat} {y : Int} (hl : i < bo.length) (hg : bo[i]? = some y) : (intL ao)[i]? = some (.int .i64 y) := by
  obtain ⟨c, rfl⟩ := hp
  simp only [intL, List.getElem?_map, List.getElem?_append_left hl, hg]
  rfl
section
variable (H : Heap) (o8 o10 : Nat) (ea eb na nb : Int) (ao bo ar br : List Int) (es fs : List AV) (z1 z2 z3 w1 w2 w3 : Nat) (r1 r2 r3 q1 q2 q3 : Room)
variable (hA : H.obj o8 0 = some [.int .u8 ea, .lst (intL ao) z1 r1, .lst es z2 r2, .int .i64 na, .lst (intL ar) z3 r3]) (hB : H.obj o10 0 = some [.int .u8 eb, .lst (intL bo) w1 q1, .lst fs w2 q2, .int .i64 nb, .lst (intL br) w3 q3])
include hA hB
theorem first_out (hp : bo <+: ao) (hl : bo.length < 1000000) : ∀ (ys : List Int) (i : Nat), bo.drop i = ys → i ≤ bo.length → ∀ t0 t1 t2 t3 t6 t7 t9 t11 t13 t24 t54 t99 t104 t117 t122 t135,
    Got (exec cfg 4 (.loop l4_0) [(0, t0), (1, t1), (2, t2), (3, t3), (6, t6), (7, t7), (8, .ptr o8 0 0), (9, t9), (10, .ptr o10 0 0), (11, t11), (12, .int .i64 i), (13, t13), (24, t24), (54, t54), (99, t99), (104, t104), (117, t117), (122, t122), (135, t135)] H) (fun q => ∃ t12 t104 t117, q = (.exit 0, [(0, t0), (1, t1), (2, t2), (3, t3), (6, t6), (7, t7), (8, .ptr o8 0 0), (9, t9), (10, .ptr o10 0 0), (11, t11), (12, t12), (13, t13), (24, t24), (54, t54), (99, t99), (104, t104), (117, t117), (122, t122), (135, t135)], H)) := by
  have hlA := live_of hA
  have hlB := live_of hB
  intro ys
  induction ys with
  | nil =>
    intro i hd hi t0 t1 t2 t3 t6 t7 t9 t11 t13 t24 t54 t99 t104 t117 t122 t135
    rw [got_loop]
    simp only [l4_0, F4, Tryz.f4, sxAll, cA, arithA, Env.keep, qt_eq, fieldAddrA, loadA, Rv.part, cellsAt, TD.isAgg, lenA, ↓Option.bind_some, Nat.reduceBEq, Nat.reduceAdd, ↓reduceIte, hB, hlB, intL_len, at_end hd, ty33, ty29]
    exact ⟨_, _, _, rfl⟩
  | cons y s ih =>
    intro i hd hi t0 t1 t2 t3 t6 t7 t9 t11 t13 t24 t54 t99 t104 t117 t122 t135
    obtain ⟨hlt, hget, hd'⟩ := at_drop hd
    have hlt' : i < bo.length := by simpa using hlt
    have hw := wrap_succ (i := i) (by omega)
    have hx : (intL bo)[i]? = some (.int .i64 y) := by simp [intL, hget]
    have hy := intL_pre hp hlt' hget
    have := ih (i + 1) hd' (by omega)
    rw [got_loop]
    simp only [l4_0] at this ⊢
    simp only [F4, Tryz.f4, sxAll, cA, arithA, Env.keep, qt_eq, indexAddrA, fieldAddrA, loadA, Rv.part, cellsAt, TD.isAgg, lenA, ↓Option.bind_some, Nat.reduceBEq, Nat.reduceAdd, bne, ↓reduceIte, hA, hB, hlA, hlB, intL_len, hlt, hx, hy, hw, ty33, ty29, ty2] at this ⊢
    exact this _ _ _ _ _ _ _ _ _ _ _ _ _ _ _ _
theorem first_row (hp : br <+: ar) (hl : br.length < 1000000) : ∀ (ys : List Int) (i : Nat), br.drop i = ys → i ≤ br.length → ∀ t0 t1 t2 t3 t6 t7 t9 t11 t12 t24 t54 t99 t104 t117 t122 t135,
    Got (exec cfg 4 (.loop l4_1) [(0, t0), (1, t1), (2, t2), (3, t3), (6, t6), (7, t7), (8, .ptr o8 0 0), (9, t9), (10, .ptr o10 0 0), (11, t11), (12, t12), (13, .int .i64 i), (24, t24), (54, t54), (99, t99), (104, t104), (117, t117), (122, t122), (135, t135)] H) (fun q => ∃ t13 t122 t135, q = (.exit 2, [(0, t0), (1, t1), (2, t2), (3, t3), (6, t6), (7, t7), (8, .ptr o8 0 0), (9, t9), (10, .ptr o10 0 0), (11, t11), (12, t12), (13, t13), (24, t24), (54, t54), (99, t99), (104, t104), (117, t117), (122, t122), (135, t135)], H)) := by
  have hlA := live_of hA
  have hlB := live_of hB
  intro ys
  induction ys with
  | nil =>
    intro i hd hi t0 t1 t2 t3 t6 t7 t9 t11 t12 t24 t54 t99 t104 t117 t122 t135
    rw [got_loop]
    simp only [l4_1, F4, Tryz.f4, sxAll, cA, arithA, Env.keep, qt_eq, fieldAddrA, loadA, Rv.part, cellsAt, TD.isAgg, lenA, ↓Option.bind_some, Nat.reduceBEq, Nat.reduceAdd, ↓reduceIte, hB, hlB, intL_len, at_end hd, ty33, ty31]
    exact ⟨_, _, _, rfl⟩
  | cons y s ih =>
    intro i hd hi t0 t1 t2 t3 t6 t7 t9 t11 t12 t24 t54 t99 t104 t117 t122 t135
    obtain ⟨hlt, hget, hd'⟩ := at_drop hd
    have hlt' : i < br.length := by simpa using hlt
    have hw := wrap_succ (i := i) (by omega)
    have hx : (intL br)[i]? = some (.int .i64 y) := by simp [intL, hget]
    have hy := intL_pre hp hlt' hget
    have := ih (i + 1) hd' (by omega)
    rw [got_loop]
    simp only [l4_1] at this ⊢
    simp only [F4, Tryz.f4, sxAll, cA, arithA, Env.keep, qt_eq, indexAddrA, fieldAddrA, loadA, Rv.part, cellsAt, TD.isAgg, lenA, ↓Option.bind_some, Nat.reduceBEq, Nat.reduceAdd, bne, ↓reduceIte, hA, hB, hlA, hlB, intL_len, hlt, hx, hy, hw, ty33, ty31, ty3] at this ⊢
    exact this _ _ _ _ _ _ _ _ _ _ _ _ _ _ _ _
end
section
variable (p : SProg) (hw : p.wf) (hn : p.nils) (l : List Int) (z : Nat) (r : Room) (hz : z = 1 ∨ l = [])
include hw hn hz
theorem runFirst_go (h : Heap) (hb : call cfg 7 [.agg p.cells] h = some (.ret (.bool false), h)) (hl : l.length ≤ 300) (n : Int) : call cfg 4 [.agg p.cells, .lst (intL l) z r, .int .i64 n] h = some (.ret (.bool true), h) := by
  have haw := fun H => awake_eq H
  have c1 : ((l.length : Int) > 300) = False := eq_false (by omega)
  have w1 := wrap_succ (i := l.length) (by omega)
  have w2 := u64_small l.length hl
  have w3 := cutN_wrap n l.length hl
  have w4 : (((l.length + 1 : Nat) : Int) == 0) = false := by simp; omega
  have hk := cutN_le n l.length
  have hs1 := fun H => slice_lst H l z r (cutN n l.length) hk hz
  generalize cutN n l.length = k at *
  cases hm : mayP p with
  | false =>
    have r1 := fun H => runPlay_no hw l z r hm H
    have r2 := fun H => runPlay_no hw (l.take k) z (cutR r) hm H
    rw [call4]
    simp only [SProg.cells, resN] at hb r1 r2 ⊢
    simp only [F4, k4, Tryz.f4, sxAll, cA, arithA, Env.keep, qt_eq, resultsA, packA, storeA, unA, loadA, Rv.part, cellsAt, TD.isAgg, convH, convA, setCells, lenA, optA, mapO, ↓Option.bind_some, Nat.reduceBEq, Nat.reduceAdd, Nat.reduceLeDiff, Int.reduceBEq, bne, ↓reduceIte, intL_len, hb, haw, c1, w1, w2, w3, w4, hs1, r1, r2, pu7, pu8, pu11, ty33, ty26, ty31, ty3, ty39]
    refine leave_pure pu4 ?_ rfl
    simp
  | true =>
    have hs := small_of_may hw hm
    have B := play_begins (p := p) hk
    have hpl := play_len (p := p) (l := l)
    obtain ⟨Wf, Gf⟩ := play_good hm l
    obtain ⟨v1, k1, R1⟩ := runPlay_yes hw l z r hn hs hm (by omega) h
    have r2 := fun H => runPlay_yes hw (l.take k) z (cutR r) hn hs hm (by simp; omega) H
    have R1 : ResA (playR p l) v1 := R1
    have r2 : ∀ H, ∃ v, call cfg 11 [.agg p.cells, .lst (intL (l.take k)) z (cutR r)] H = some (.ret (.tup [v, .int .i64 0]), H) ∧ ResA (playR p (l.take k)) v := r2
    generalize playR p l = x1 at *
    generalize playR p (l.take k) = x2 at *
    have R1' := R1
    obtain ⟨z1, m1, a1, z1', m1', rfl, es1, y1, g1, rfl, _⟩ := R1
    obtain ⟨v2, k2, R2⟩ := r2 (h ++ [.cells [.int .u8 x1.1.ending, .lst (intL x1.1.out) z1 m1, .lst es1 y1 g1, .int .i64 x1.2.length, .lst (intL x1.2) z1' m1'] 0, .cells [.int .u8 0, .lst [] 0 .nil, .lst [] 0 .nil, .int .i64 0, .lst [] 0 .nil] 0])
    have R2' := R2
    obtain ⟨z2, m2, a2, z2', m2', rfl, es2, y2, g2, rfl, _⟩ := R2
    have hlo := B.out.length_le
    have hlr := B.row.length_le
    have hout := Wf.outs
    have d1 : ((x2.2.length : Int) > (x1.2.length : Int)) = False := eq_false (by omega)
    have d2 : ((x2.1.out.length : Int) > (x1.1.out.length : Int)) = False := eq_false (by omega)
    have d3 : (x1.2.length < x2.2.length) = False := eq_false (by omega)
    have d4 : (x1.1.out.length < x2.1.out.length) = False := eq_false (by omega)
    have hA : (h ++ [AObj.cells [.int .u8 x1.1.ending, .lst (intL x1.1.out) z1 m1, .lst es1 y1 g1, .int .i64 x1.2.length, .lst (intL x1.2) z1' m1'] 0, AObj.cells [.int .u8 x2.1.ending, .lst (intL x2.1.out) z2 m2, .lst es2 y2 g2, .int .i64 x2.2.length, .lst (intL x2.2) z2' m2'] 0]).obj h.length 0 = some [.int .u8 x1.1.ending, .lst (intL x1.1.out) z1 m1, .lst es1 y1 g1, .int .i64 x1.2.length, .lst (intL x1.2) z1' m1'] := by rw [obj_app0, obj_zero]
    have hB : (h ++ [AObj.cells [.int .u8 x1.1.ending, .lst (intL x1.1.out) z1 m1, .lst es1 y1 g1, .int .i64 x1.2.length, .lst (intL x1.2) z1' m1'] 0, AObj.cells [.int .u8 x2.1.ending, .lst (intL x2.1.out) z2 m2, .lst es2 y2 g2, .int .i64 x2.2.length, .lst (intL x2.2) z2' m2'] 0]).obj (h.length + 1) 0 = some [.int .u8 x2.1.ending, .lst (intL x2.1.out) z2 m2, .lst es2 y2 g2, .int .i64 x2.2.length, .lst (intL x2.2) z2' m2'] := by rw [obj_app, obj_succ, obj_zero]
    obtain ⟨⟨o, e', h'⟩, hx, t12, t104, t117, hq⟩ := first_out _ _ _ _ _ _ _ _ _ _ _ _ _ _ _ _ _ _ _ _ _ _ _ _ _ hA hB B.out (by omega) x2.1.out 0 (by simp) (by omega) (.agg p.cells) (.lst (intL l) z r) (.int .i64 n) (.ref p.cells) (.bool false) (.int .i64 k) (.int .i64 0) (.int .i64 0) .junk (.bool false) (.bool false) (.bool false) .junk .junk .junk .junk
    simp only [Prod.mk.injEq] at hq
    obtain ⟨rfl, rfl, rfl⟩ := hq
    obtain ⟨⟨o, e', h'⟩, hy, t13, t122, t135, hq⟩ := first_row _ _ _ _ _ _ _ _ _ _ _ _ _ _ _ _ _ _ _ _ _ _ _ _ _ hA hB B.row (by omega) x2.2 0 (by simp) (by omega) (.agg p.cells) (.lst (intL l) z r) (.int .i64 n) (.ref p.cells) (.bool false) (.int .i64 k) (.int .i64 0) (.int .i64 0) t12 (.bool false) (.bool false) (.bool false) t104 t117 .junk .junk
    simp only [Prod.mk.injEq] at hq
    obtain ⟨rfl, rfl, rfl⟩ := hq
    simp only [Int.natCast_zero] at hx hy
    rw [call4]
    simp only [SProg.cells] at hb k1 k2 hx hy ⊢
    by_cases he : x2.1.ending = 0
    · rw [he] at k2 hx hy
      simp only [F4, k4, Tryz.f4, sxAll, cA, arithA, Env.keep, qt_eq, resultsA, packA, storeA, unA, fieldAddrA, loadA, Rv.part, cellsAt, TD.isAgg, convH, convA, setCells, lenA, optA, mapO, ↓Option.bind_some, Nat.reduceBEq, Nat.reduceAdd, Nat.reduceLeDiff, bne, ↓reduceIte, intL_len, hb, haw, c1, w1, w2, w3, w4, hs1, k1, k2, d1, d3, d4, hx, hy, pu7, pu8, pu11, ty33, ty26, ty29, ty31, ty3, ty5, ty39]
      refine leave_pure pu4 ?_ rfl
      simp
    · have e2 := B.same he
      subst e2
      have he' : (x1.1.ending == 0) = false := by simp [he]
      have hsm := fun H => same_eq R1' R2' (by omega) (by omega) Gf.2.1 (fun l hl => Gf.2.2 _ (List.mem_map_of_mem hl)) H
      simp only [F4, k4, Tryz.f4, sxAll, cA, arithA, Env.keep, qt_eq, resultsA, packA, storeA, unA, fieldAddrA, loadA, Rv.part, cellsAt, TD.isAgg, convH, convA, setCells, lenA, optA, mapO, ↓Option.bind_some, Nat.reduceBEq, Nat.reduceAdd, Nat.reduceLeDiff, bne, ↓reduceIte, intL_len, hb, haw, c1, w1, w2, w3, w4, hs1, k1, k2, d1, d3, d4, he', hsm, hx, hy, pu7, pu8, pu11, pu10, ty33, ty26, ty29, ty31, ty3, ty5, ty39]
      refine leave_pure pu4 ?_ rfl
      simp
theorem runFirst_eq (n : Int) (h : Heap) : call cfg 4 [.agg p.cells, .lst (intL l) z r, .int .i64 n] h = some (.ret (.bool true), h) := by
  have haw := fun H => awake_eq H
  obtain ⟨b, hall⟩ := long_eq p h hw
  cases b with
  | false =>
    by_cases h1 : (l.length : Int) > 300
    · have hb := hall
      rw [call4]
      simp only [SProg.cells] at hb ⊢
      simp only [F4, k4, Tryz.f4, sxAll, cA, arithA, Env.keep, qt_eq, resultsA, packA, loadA, Rv.part, cellsAt, TD.isAgg, lenA, mapO, ↓Option.bind_some, Nat.reduceBEq, Nat.reduceAdd, Nat.reduceLeDiff, ↓reduceIte, intL_len, hb, haw, h1, pu7, pu8, ty26, ty31]
      exact leave_kept pu4 rfl
    exact runFirst_go p hw hn l z r hz h hall (by omega) n
  | true =>
    have hb := hall
    rw [call4]
    simp only [SProg.cells] at hb ⊢
    simp only [F4, k4, Tryz.f4, sxAll, cA, Env.keep, qt_eq, resultsA, packA, loadA, Rv.part, cellsAt, TD.isAgg, mapO, ↓Option.bind_some, Nat.reduceBEq, Nat.reduceAdd, Nat.reduceLeDiff, ↓reduceIte, hb, haw, pu7, pu8, ty26]
    exact leave_kept pu4 rfl
end
end
end Go.Proofs.Sx
