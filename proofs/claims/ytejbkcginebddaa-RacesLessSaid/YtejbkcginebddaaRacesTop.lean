/-
  'races.compare', 'races.Less' and the reference's 'Less': what their calls answer.
-/
import Derived.Test.YtejbkcginebddaaRacesLoop
set_option linter.unusedSimpArgs false
set_option linter.unusedVariables false
set_option maxRecDepth 100000
namespace Go.Proofs.Races
open Go.Rv Go.Proofs
attribute [local congr] bind_left

def rep (a b c d e f : Int) : AV := .agg [.int .u8 a, .int .i64 b, .int .i64 c, .int .i64 d, .int .i64 e, .int .i64 f]

theorem w6 (a b c d e f a' b' c' d' e' f' : Int) (h : Heap) (ha : 0 ≤ a) (ha1 : a < 256) (hb : 0 ≤ a') (hb1 : a' < 256) :
    call cfg 6 [.agg [.int .u8 a, .int .i64 b, .int .i64 c, .int .i64 d, .int .i64 e, .int .i64 f], .agg [.int .u8 a', .int .i64 b', .int .i64 c', .int .i64 d', .int .i64 e', .int .i64 f']] h = some (.ret (.int .i64 (dv [a, b, c, d, e, f] [a', b', c', d', e', f'])), h) := by
  have p1 := w7 a b c d e f h ha ha1
  have p2 := w7 a' b' c' d' e' f' h hb hb1
  have p1' := fun h => w7 a b c d e f h ha ha1
  have p2' := fun h => w7 a' b' c' d' e' f' h hb hb1
  have p8 := w8 h.length (h.length + 1) [a, b, c, d, e, f] [a', b', c', d', e', f'] (h ++ [.cells [.int .i64 a, .int .i64 b, .int .i64 c, .int .i64 d, .int .i64 e, .int .i64 f] 0, .cells [.int .i64 a', .int .i64 b', .int .i64 c', .int .i64 d', .int .i64 e', .int .i64 f'] 0]) (by rw [obj_app0]; rfl) (by rw [obj_app]; rfl) 6 rfl rfl (by omega)
  rw [call_fn 6 _ _ _ rfl (fnat Try.func6 rfl ok6) rfl]
  simp only [Try.f6, exec_seq, exec_region, exec_cond, exec_block, exec_exit, exec_skip, exec_label, exec_scope, exec_ret, ops_nil, ops_move, ops_assign, ops_load, ops_store, ops_bin, ops_un, ops_conv, ops_fieldAddr, ops_field, ops_indexAddr, ops_index, ops_alloc, ops_box, ops_pick, ops_build, ops_buildSlice, ops_len, ops_slice, ops_callf, ops_guard, evalA_tmp, evalA_int, evalA_bool, evalA_func, known_int, known_bool, known_str, known_ptr, known_ref, known_agg, known_tup, known_lst, known_msl, known_clo, cells_int, cells_bool, cells_str, cells_ptr, cells_ref, cells_agg, cells_lst, leaf_int, leaf_bool, leaf_str, leaf_lst, one_int, one_bool, one_str, isRef_ref, putAt_some, putAt_none, binA_int, arithA, pick_true, pick_false, parts_nil, parts_cons, Env.get, Env.put, Env.keep, live_eq, lv, imm_eq, im, quiet_eq, qt, pure_all, sched, isAlloc, resultsA, packA, lv_bool, lv_int, obj_app, obj_app0, live_app, live_app0, set_app, set_app0, obj_zero, obj_succ, live_zero, live_succ, fieldAddrA, loadA, Rv.part, cellsAt, TD.isAgg, convA, storeA, buildA, fillA, setCells, AV.dead, group, copies, lenA, indexAddrA, sliceA, optA, boundA, mapO, ty3, ty4, ty5, ty23, ty26, ty27, Option.bind_some, Option.bind_none, Option.bind_eq_bind, Option.map_some, Option.map_none, Option.getD_some, Option.getD_none, Nat.reduceBEq, Bool.false_eq_true, if_true, if_false, ite_true, List.zipIdx_cons, List.zipIdx_nil, List.map_cons, List.map_nil, List.length_cons, List.length_nil, List.getElem?_cons_zero, List.getElem?_cons_succ, List.drop_succ_cons, List.drop_zero, List.head?_cons, List.set_cons_zero, List.set_cons_succ, Nat.reduceAdd, Nat.reduceMul, Nat.reduceLeDiff, Nat.reduceSub, Nat.reduceLT, List.append_assoc, List.cons_append, List.nil_append, List.contains_cons, List.contains_nil, Bool.or_false, Bool.false_or, Bool.and_true, Bool.true_and, Bool.false_and, Bool.and_false, Bool.not_true, Bool.not_false, Bool.true_or, Bool.or_true, decide_true, decide_false, decide_eq_true_eq, List.all_cons, List.all_nil, List.take_succ_cons, List.take_zero, beq_self_eq_true, Option.isSome_none, Option.isSome_some, gt_iff_lt, Nat.lt_irrefl, bne, List.filter_cons, List.filter_nil, reduceIte, p1', p2', List.length_append, p8, Bool.decide_eq_true]
  exact leave_int (C := cfg) 6 _ _ (pure_all 6) _ _

def lessD (xs ys : List Int) : Bool := decide (dv xs ys < 0)

theorem w4 (a b c d e f a' b' c' d' e' f' : Int) (h : Heap) (ha : 0 ≤ a) (ha1 : a < 256) (hb : 0 ≤ a') (hb1 : a' < 256) :
    call cfg 4 [.agg [.int .u8 a, .int .i64 b, .int .i64 c, .int .i64 d, .int .i64 e, .int .i64 f], .agg [.int .u8 a', .int .i64 b', .int .i64 c', .int .i64 d', .int .i64 e', .int .i64 f']] h = some (.ret (.bool (lessD [a, b, c, d, e, f] [a', b', c', d', e', f'])), h) := by
  have p6 := fun h => w6 a b c d e f a' b' c' d' e' f' h ha ha1 hb hb1
  rw [call_fn 4 _ _ _ rfl (fnat Try.func4 rfl ok4) rfl]
  simp only [Try.f4, exec_seq, exec_region, exec_cond, exec_block, exec_exit, exec_skip, exec_label, exec_scope, exec_ret, ops_nil, ops_move, ops_assign, ops_load, ops_store, ops_bin, ops_un, ops_conv, ops_fieldAddr, ops_field, ops_indexAddr, ops_index, ops_alloc, ops_box, ops_pick, ops_build, ops_buildSlice, ops_len, ops_slice, ops_callf, ops_guard, evalA_tmp, evalA_int, evalA_bool, evalA_func, known_int, known_bool, known_str, known_ptr, known_ref, known_agg, known_tup, known_lst, known_msl, known_clo, cells_int, cells_bool, cells_str, cells_ptr, cells_ref, cells_agg, cells_lst, leaf_int, leaf_bool, leaf_str, leaf_lst, one_int, one_bool, one_str, isRef_ref, putAt_some, putAt_none, binA_int, arithA, pick_true, pick_false, parts_nil, parts_cons, Env.get, Env.put, Env.keep, live_eq, lv, imm_eq, im, quiet_eq, qt, pure_all, sched, isAlloc, resultsA, packA, lv_bool, lv_int, obj_app, obj_app0, live_app, live_app0, set_app, set_app0, obj_zero, obj_succ, live_zero, live_succ, fieldAddrA, loadA, Rv.part, cellsAt, TD.isAgg, convA, storeA, buildA, fillA, setCells, AV.dead, group, copies, lenA, indexAddrA, sliceA, optA, boundA, mapO, ty3, ty4, ty5, ty23, ty26, ty27, Option.bind_some, Option.bind_none, Option.bind_eq_bind, Option.map_some, Option.map_none, Option.getD_some, Option.getD_none, Nat.reduceBEq, Bool.false_eq_true, if_true, if_false, ite_true, List.zipIdx_cons, List.zipIdx_nil, List.map_cons, List.map_nil, List.length_cons, List.length_nil, List.getElem?_cons_zero, List.getElem?_cons_succ, List.drop_succ_cons, List.drop_zero, List.head?_cons, List.set_cons_zero, List.set_cons_succ, Nat.reduceAdd, Nat.reduceMul, Nat.reduceLeDiff, Nat.reduceSub, Nat.reduceLT, List.append_assoc, List.cons_append, List.nil_append, List.contains_cons, List.contains_nil, Bool.or_false, Bool.false_or, Bool.and_true, Bool.true_and, Bool.false_and, Bool.and_false, Bool.not_true, Bool.not_false, Bool.true_or, Bool.or_true, decide_true, decide_false, decide_eq_true_eq, List.all_cons, List.all_nil, List.take_succ_cons, List.take_zero, beq_self_eq_true, Option.isSome_none, Option.isSome_some, gt_iff_lt, Nat.lt_irrefl, bne, List.filter_cons, List.filter_nil, reduceIte, p6, lessD]

noncomputable def loop5 : Code := match Try.f5.body with
  | some (.seq _ (.seq _ (.seq _ (.seq (.seq _ (.block _ l)) _)))) => l
  | _ => .skip

def ilst (xs : List Int) : AV := .lst (xs.map (AV.int .i64)) 1 (.exact 6)
theorem known_ilst (xs : List Int) : known (ilst xs) = some (ilst xs) := rfl

theorem l5 (xs ys : List Int) (h : Heap) (hx : xs.length = 6) (hy : ys.length = 6) :
    ∀ (k i : Nat), i + k = 6 → match diff (xs.drop i) (ys.drop i) with
      | none => exec cfg 5 loop5 [(4, .bool false), (5, ilst xs), (6, ilst ys), (7, .int .i64 i)] h = some (.exit 0, [(4, .bool false), (5, ilst xs), (6, ilst ys), (7, .int .i64 6), (36, .int .i64 6), (37, ilst xs), (38, .int .i64 6), (39, .bool false)], h)
      | some c => ∃ e', exec cfg 5 loop5 [(4, .bool false), (5, ilst xs), (6, ilst ys), (7, .int .i64 i)] h = some (.ret, e', h) ∧ e'.get 4 = .bool (decide (c < 0)) := by
  have hlen : (xs.map (AV.int .i64)).length = 6 := by simp [hx]
  have ln : lenA h (.slice 3) (ilst xs) = some 6 := by simp [lenA, ilst, hx]
  have ia : ∀ (zs : List Int) (i : Nat) (z : Int), zs[i]? = some z → indexAddrA cfg h 26 (ilst zs) (.int .i64 i) = some (.ref [.int .i64 z]) := by
    intro zs i z hz
    simp [indexAddrA, ilst, ty26, ty3, hz, AV.cells]
  intro k
  induction k with
  | zero =>
    intro i hi
    obtain rfl : i = 6 := by omega
    rw [List.drop_of_length_le (by omega), List.drop_of_length_le (by omega)]
    simp only [diff]
    unfold loop5
    simp only [Try.f5, exec_loop, exec_seq, exec_region, exec_cond, exec_block, exec_exit, exec_skip, exec_label, exec_scope, exec_ret, ops_nil, ops_move, ops_assign, ops_load, ops_store, ops_bin, ops_un, ops_conv, ops_fieldAddr, ops_field, ops_indexAddr, ops_index, ops_alloc, ops_box, ops_pick, ops_build, ops_buildSlice, ops_len, ops_slice, ops_callf, ops_guard, evalA_tmp, evalA_int, evalA_bool, evalA_func, known_int, known_bool, known_str, known_ptr, known_ref, known_agg, known_tup, known_lst, known_msl, known_clo, cells_int, cells_bool, cells_str, cells_ptr, cells_ref, cells_agg, cells_lst, leaf_int, leaf_bool, leaf_str, leaf_lst, one_int, one_bool, one_str, isRef_ref, putAt_some, putAt_none, binA_int, arithA, pick_true, pick_false, parts_nil, parts_cons, Env.get, Env.put, Env.keep, live_eq, lv, imm_eq, im, quiet_eq, qt, pure_all, sched, isAlloc, resultsA, packA, lv_bool, lv_int, obj_app, obj_app0, live_app, live_app0, set_app, set_app0, obj_zero, obj_succ, live_zero, live_succ, fieldAddrA, loadA, Rv.part, cellsAt, TD.isAgg, convA, storeA, buildA, fillA, setCells, AV.dead, group, copies, sliceA, optA, boundA, mapO, ty3, ty4, ty5, ty23, ty26, ty27, Option.bind_some, Option.bind_none, Option.bind_eq_bind, Option.map_some, Option.map_none, Option.getD_some, Option.getD_none, Nat.reduceBEq, Bool.false_eq_true, if_true, if_false, ite_true, List.zipIdx_cons, List.zipIdx_nil, List.map_cons, List.map_nil, List.length_cons, List.length_nil, List.getElem?_cons_zero, List.getElem?_cons_succ, List.drop_succ_cons, List.drop_zero, List.head?_cons, List.set_cons_zero, List.set_cons_succ, Nat.reduceAdd, Nat.reduceMul, Nat.reduceLeDiff, Nat.reduceSub, Nat.reduceLT, List.append_assoc, List.cons_append, List.nil_append, List.contains_cons, List.contains_nil, Bool.or_false, Bool.false_or, Bool.and_true, Bool.true_and, Bool.false_and, Bool.and_false, Bool.not_true, Bool.not_false, Bool.true_or, Bool.or_true, decide_true, decide_false, decide_eq_true_eq, List.all_cons, List.all_nil, List.take_succ_cons, List.take_zero, beq_self_eq_true, Option.isSome_none, Option.isSome_some, gt_iff_lt, Nat.lt_irrefl, bne, List.filter_cons, List.filter_nil, reduceIte, known_ilst, ln, show ((6 : Nat) : Int) = 6 from rfl, Int.lt_irrefl]
  | succ k ih =>
    intro i hi
    have hlt : i < 6 := by omega
    have hxi : xs[i]? = some xs[i] := List.getElem?_eq_getElem (by omega)
    have hyi : ys[i]? = some ys[i] := List.getElem?_eq_getElem (by omega)
    have hxd : xs.drop i = xs[i] :: xs.drop (i + 1) := List.drop_eq_getElem_cons (by omega)
    have hyd : ys.drop i = ys[i] :: ys.drop (i + 1) := List.drop_eq_getElem_cons (by omega)
    have ix := ia xs i _ hxi
    have iy := ia ys i _ hyi
    generalize xs[i] = x at *
    generalize ys[i] = y at *
    have hlt' : ((i : Int) < ((6 : Nat) : Int)) = True := by simp; omega
    have hw : IntKind.i64.wrap ((i : Int) + 1) = ((i + 1 : Nat) : Int) := by rw [wrap_id (by omega) (by omega)]; rfl
    have ih := ih (i + 1) (by omega)
    rw [hxd, hyd]
    simp only [diff]
    by_cases he : x = y
    · subst he
      rw [if_pos rfl]
      have step : exec cfg 5 loop5 [(4, .bool false), (5, ilst xs), (6, ilst ys), (7, .int .i64 i)] h = exec cfg 5 loop5 [(4, .bool false), (5, ilst xs), (6, ilst ys), (7, .int .i64 (i + 1 : Nat))] h := by
        conv => lhs; unfold loop5
        simp only [Try.f5]
        rw [exec_loop]
        simp only [exec_seq, exec_region, exec_cond, exec_block, exec_exit, exec_skip, exec_label, exec_scope, exec_ret, ops_nil, ops_move, ops_assign, ops_load, ops_store, ops_bin, ops_un, ops_conv, ops_fieldAddr, ops_field, ops_indexAddr, ops_index, ops_alloc, ops_box, ops_pick, ops_build, ops_buildSlice, ops_len, ops_slice, ops_callf, ops_guard, evalA_tmp, evalA_int, evalA_bool, evalA_func, known_int, known_bool, known_str, known_ptr, known_ref, known_agg, known_tup, known_lst, known_msl, known_clo, cells_int, cells_bool, cells_str, cells_ptr, cells_ref, cells_agg, cells_lst, leaf_int, leaf_bool, leaf_str, leaf_lst, one_int, one_bool, one_str, isRef_ref, putAt_some, putAt_none, binA_int, arithA, pick_true, pick_false, parts_nil, parts_cons, Env.get, Env.put, Env.keep, live_eq, lv, imm_eq, im, quiet_eq, qt, pure_all, sched, isAlloc, resultsA, packA, lv_bool, lv_int, obj_app, obj_app0, live_app, live_app0, set_app, set_app0, obj_zero, obj_succ, live_zero, live_succ, fieldAddrA, loadA, Rv.part, cellsAt, TD.isAgg, convA, storeA, buildA, fillA, setCells, AV.dead, group, copies, sliceA, optA, boundA, mapO, ty3, ty4, ty5, ty23, ty26, ty27, Option.bind_some, Option.bind_none, Option.bind_eq_bind, Option.map_some, Option.map_none, Option.getD_some, Option.getD_none, Nat.reduceBEq, Bool.false_eq_true, if_true, if_false, ite_true, List.zipIdx_cons, List.zipIdx_nil, List.map_cons, List.map_nil, List.length_cons, List.length_nil, List.getElem?_cons_zero, List.getElem?_cons_succ, List.drop_succ_cons, List.drop_zero, List.head?_cons, List.set_cons_zero, List.set_cons_succ, Nat.reduceAdd, Nat.reduceMul, Nat.reduceLeDiff, Nat.reduceSub, Nat.reduceLT, List.append_assoc, List.cons_append, List.nil_append, List.contains_cons, List.contains_nil, Bool.or_false, Bool.false_or, Bool.and_true, Bool.true_and, Bool.false_and, Bool.and_false, Bool.not_true, Bool.not_false, Bool.true_or, Bool.or_true, decide_true, decide_false, decide_eq_true_eq, List.all_cons, List.all_nil, List.take_succ_cons, List.take_zero, beq_self_eq_true, Option.isSome_none, Option.isSome_some, gt_iff_lt, Nat.lt_irrefl, bne, List.filter_cons, List.filter_nil, reduceIte, known_ilst, ln, ix, iy, hlt', hw]
        unfold loop5
        simp only [Try.f5]
      rw [step]
      exact ih
    · have hc : (x == y) = false := by simp [he]
      have hcm : decide (cmp x y < 0) = decide (x < y) := by
        unfold cmp
        split
        · rename_i h1; simp [h1]
        · split
          · rename_i h1 h2; simp [h1]
          · omega
      rw [if_neg he]
      simp only [hcm]
      unfold loop5
      simp only [Try.f5]
      rw [exec_loop]
      simp only [exec_seq, exec_region, exec_cond, exec_block, exec_exit, exec_skip, exec_label, exec_scope, exec_ret, ops_nil, ops_move, ops_assign, ops_load, ops_store, ops_bin, ops_un, ops_conv, ops_fieldAddr, ops_field, ops_indexAddr, ops_index, ops_alloc, ops_box, ops_pick, ops_build, ops_buildSlice, ops_len, ops_slice, ops_callf, ops_guard, evalA_tmp, evalA_int, evalA_bool, evalA_func, known_int, known_bool, known_str, known_ptr, known_ref, known_agg, known_tup, known_lst, known_msl, known_clo, cells_int, cells_bool, cells_str, cells_ptr, cells_ref, cells_agg, cells_lst, leaf_int, leaf_bool, leaf_str, leaf_lst, one_int, one_bool, one_str, isRef_ref, putAt_some, putAt_none, binA_int, arithA, pick_true, pick_false, parts_nil, parts_cons, Env.get, Env.put, Env.keep, live_eq, lv, imm_eq, im, quiet_eq, qt, pure_all, sched, isAlloc, resultsA, packA, lv_bool, lv_int, obj_app, obj_app0, live_app, live_app0, set_app, set_app0, obj_zero, obj_succ, live_zero, live_succ, fieldAddrA, loadA, Rv.part, cellsAt, TD.isAgg, convA, storeA, buildA, fillA, setCells, AV.dead, group, copies, sliceA, optA, boundA, mapO, ty3, ty4, ty5, ty23, ty26, ty27, Option.bind_some, Option.bind_none, Option.bind_eq_bind, Option.map_some, Option.map_none, Option.getD_some, Option.getD_none, Nat.reduceBEq, Bool.false_eq_true, if_true, if_false, ite_true, List.zipIdx_cons, List.zipIdx_nil, List.map_cons, List.map_nil, List.length_cons, List.length_nil, List.getElem?_cons_zero, List.getElem?_cons_succ, List.drop_succ_cons, List.drop_zero, List.head?_cons, List.set_cons_zero, List.set_cons_succ, Nat.reduceAdd, Nat.reduceMul, Nat.reduceLeDiff, Nat.reduceSub, Nat.reduceLT, List.append_assoc, List.cons_append, List.nil_append, List.contains_cons, List.contains_nil, Bool.or_false, Bool.false_or, Bool.and_true, Bool.true_and, Bool.false_and, Bool.and_false, Bool.not_true, Bool.not_false, Bool.true_or, Bool.or_true, decide_true, decide_false, decide_eq_true_eq, List.all_cons, List.all_nil, List.take_succ_cons, List.take_zero, beq_self_eq_true, Option.isSome_none, Option.isSome_some, gt_iff_lt, Nat.lt_irrefl, bne, List.filter_cons, List.filter_nil, reduceIte, known_ilst, ln, ix, iy, hlt', hw, hc]
      exact ⟨_, rfl, rfl⟩

theorem w5 (a b c d e f a' b' c' d' e' f' : Int) (h : Heap) (ha : 0 ≤ a) (ha1 : a < 256) (hb : 0 ≤ a') (hb1 : a' < 256) :
    call cfg 5 [.agg [.int .u8 a, .int .i64 b, .int .i64 c, .int .i64 d, .int .i64 e, .int .i64 f], .agg [.int .u8 a', .int .i64 b', .int .i64 c', .int .i64 d', .int .i64 e', .int .i64 f']] h = some (.ret (.bool (lessD [a, b, c, d, e, f] [a', b', c', d', e', f'])), h) := by
  have L := l5 [a, b, c, d, e, f] [a', b', c', d', e', f'] h rfl rfl 6 0 rfl
  simp only [List.drop_zero] at L
  unfold loop5 at L
  simp only [Try.f5, ilst, List.map_cons, List.map_nil] at L
  rw [show ((0 : Nat) : Int) = 0 from rfl] at L
  have e1 : IntKind.i64.wrap a = a := wrap_id (by omega) (by omega)
  have e2 : IntKind.i64.wrap a' = a' := wrap_id (by omega) (by omega)
  rw [call_fn 5 _ _ _ rfl (fnat Try.func5 rfl ok5) rfl]
  unfold lessD dv
  cases hd : diff [a, b, c, d, e, f] [a', b', c', d', e', f'] with
  | none =>
    rw [hd] at L
    simp only at L
    simp only [Try.f5, exec_seq, exec_region, exec_cond, exec_block, exec_exit, exec_skip, exec_label, exec_scope, exec_ret, ops_nil, ops_move, ops_assign, ops_load, ops_store, ops_bin, ops_un, ops_conv, ops_fieldAddr, ops_field, ops_indexAddr, ops_index, ops_alloc, ops_box, ops_pick, ops_build, ops_buildSlice, ops_len, ops_slice, ops_callf, ops_guard, evalA_tmp, evalA_int, evalA_bool, evalA_func, known_int, known_bool, known_str, known_ptr, known_ref, known_agg, known_tup, known_lst, known_msl, known_clo, cells_int, cells_bool, cells_str, cells_ptr, cells_ref, cells_agg, cells_lst, leaf_int, leaf_bool, leaf_str, leaf_lst, one_int, one_bool, one_str, isRef_ref, putAt_some, putAt_none, binA_int, arithA, pick_true, pick_false, parts_nil, parts_cons, Env.get, Env.put, Env.keep, live_eq, lv, imm_eq, im, quiet_eq, qt, pure_all, sched, isAlloc, resultsA, packA, lv_bool, lv_int, obj_app, obj_app0, live_app, live_app0, set_app, set_app0, obj_zero, obj_succ, live_zero, live_succ, fieldAddrA, loadA, Rv.part, cellsAt, TD.isAgg, convA, storeA, buildA, fillA, setCells, AV.dead, group, copies, lenA, indexAddrA, sliceA, optA, boundA, mapO, ty3, ty4, ty5, ty23, ty26, ty27, Option.bind_some, Option.bind_none, Option.bind_eq_bind, Option.map_some, Option.map_none, Option.getD_some, Option.getD_none, Nat.reduceBEq, Bool.false_eq_true, if_true, if_false, ite_true, List.zipIdx_cons, List.zipIdx_nil, List.map_cons, List.map_nil, List.length_cons, List.length_nil, List.getElem?_cons_zero, List.getElem?_cons_succ, List.drop_succ_cons, List.drop_zero, List.head?_cons, List.set_cons_zero, List.set_cons_succ, Nat.reduceAdd, Nat.reduceMul, Nat.reduceLeDiff, Nat.reduceSub, Nat.reduceLT, List.append_assoc, List.cons_append, List.nil_append, List.contains_cons, List.contains_nil, Bool.or_false, Bool.false_or, Bool.and_true, Bool.true_and, Bool.false_and, Bool.and_false, Bool.not_true, Bool.not_false, Bool.true_or, Bool.or_true, decide_true, decide_false, decide_eq_true_eq, List.all_cons, List.all_nil, List.take_succ_cons, List.take_zero, beq_self_eq_true, Option.isSome_none, Option.isSome_some, gt_iff_lt, Nat.lt_irrefl, bne, List.filter_cons, List.filter_nil, reduceIte, List.headD_cons, e1, e2, L, Int.lt_irrefl]
  | some z =>
    rw [hd] at L
    obtain ⟨en, L, hg⟩ := L
    simp only [Try.f5, exec_seq, exec_region, exec_cond, exec_block, exec_exit, exec_skip, exec_label, exec_scope, exec_ret, ops_nil, ops_move, ops_assign, ops_load, ops_store, ops_bin, ops_un, ops_conv, ops_fieldAddr, ops_field, ops_indexAddr, ops_index, ops_alloc, ops_box, ops_pick, ops_build, ops_buildSlice, ops_len, ops_slice, ops_callf, ops_guard, evalA_tmp, evalA_int, evalA_bool, evalA_func, known_int, known_bool, known_str, known_ptr, known_ref, known_agg, known_tup, known_lst, known_msl, known_clo, cells_int, cells_bool, cells_str, cells_ptr, cells_ref, cells_agg, cells_lst, leaf_int, leaf_bool, leaf_str, leaf_lst, one_int, one_bool, one_str, isRef_ref, putAt_some, putAt_none, binA_int, arithA, pick_true, pick_false, parts_nil, parts_cons, Env.get, Env.put, Env.keep, live_eq, lv, imm_eq, im, quiet_eq, qt, pure_all, sched, isAlloc, resultsA, packA, lv_bool, lv_int, obj_app, obj_app0, live_app, live_app0, set_app, set_app0, obj_zero, obj_succ, live_zero, live_succ, fieldAddrA, loadA, Rv.part, cellsAt, TD.isAgg, convA, storeA, buildA, fillA, setCells, AV.dead, group, copies, lenA, indexAddrA, sliceA, optA, boundA, mapO, ty3, ty4, ty5, ty23, ty26, ty27, Option.bind_some, Option.bind_none, Option.bind_eq_bind, Option.map_some, Option.map_none, Option.getD_some, Option.getD_none, Nat.reduceBEq, Bool.false_eq_true, if_true, if_false, ite_true, List.zipIdx_cons, List.zipIdx_nil, List.map_cons, List.map_nil, List.length_cons, List.length_nil, List.getElem?_cons_zero, List.getElem?_cons_succ, List.drop_succ_cons, List.drop_zero, List.head?_cons, List.set_cons_zero, List.set_cons_succ, Nat.reduceAdd, Nat.reduceMul, Nat.reduceLeDiff, Nat.reduceSub, Nat.reduceLT, List.append_assoc, List.cons_append, List.nil_append, List.contains_cons, List.contains_nil, Bool.or_false, Bool.false_or, Bool.and_true, Bool.true_and, Bool.false_and, Bool.and_false, Bool.not_true, Bool.not_false, Bool.true_or, Bool.or_true, decide_true, decide_false, decide_eq_true_eq, List.all_cons, List.all_nil, List.take_succ_cons, List.take_zero, beq_self_eq_true, Option.isSome_none, Option.isSome_some, gt_iff_lt, Nat.lt_irrefl, bne, List.filter_cons, List.filter_nil, reduceIte, List.headD_cons, e1, e2, L, hg]

theorem eqb (h : Heap) (a b : Bool) : binA cfg h .eql 4 (.bool a) (.bool b) = some (.bool (a == b)) := by simp [binA, ty4, eqA]
theorem notb (a : Bool) : unA .not (.bool a) = some (.bool (!a)) := by simp [unA]
theorem diff_self : ∀ xs : List Int, diff xs xs = none
  | [] => rfl
  | x :: xs => by simp [diff, diff_self xs]
theorem less_self (xs : List Int) : lessD xs xs = false := by simp [lessD, dv, diff_self]

end Go.Proofs.Races
