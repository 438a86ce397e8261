/-
  'races.parts' and 'slices.Compare': what their calls answer.
-/
import Derived.Test.YtejbkcginebddaaRacesEval
import Derived.Laws.BitsLemmas
set_option linter.unusedSimpArgs false
set_option linter.unusedVariables false
set_option maxRecDepth 100000
namespace Go.Proofs.Races
open Go.Rv Go.Proofs
attribute [local congr] bind_left

theorem wrap_id {a : Int} (h1 : -9223372036854775808 ≤ a) (h2 : a < 9223372036854775808) : IntKind.i64.wrap a = a := by rw [IntKind.wrap_i64]; omega

theorem w7 (a b c d e f : Int) (h : Heap) (ha : 0 ≤ a) (ha' : a < 256) : call cfg 7 [.agg [.int .u8 a, .int .i64 b, .int .i64 c, .int .i64 d, .int .i64 e, .int .i64 f]] h = some (.ret (.agg [.int .i64 a, .int .i64 b, .int .i64 c, .int .i64 d, .int .i64 e, .int .i64 f]), h) := by
  rw [call_fn 7 _ _ _ rfl (fnat Try.func7 rfl ok7) rfl]
  simp only [Try.f7, exec_seq, exec_region, exec_cond, exec_block, exec_exit, exec_skip, exec_label, exec_scope, exec_ret, ops_nil, ops_move, ops_assign, ops_load, ops_store, ops_bin, ops_un, ops_conv, ops_fieldAddr, ops_field, ops_indexAddr, ops_index, ops_alloc, ops_box, ops_pick, ops_build, ops_buildSlice, ops_len, ops_slice, ops_callf, ops_guard, evalA_tmp, evalA_int, evalA_bool, evalA_func, known_int, known_bool, known_str, known_ptr, known_ref, known_agg, known_tup, known_lst, known_msl, known_clo, cells_int, cells_bool, cells_str, cells_ptr, cells_ref, cells_agg, cells_lst, leaf_int, leaf_bool, leaf_str, leaf_lst, one_int, one_bool, one_str, isRef_ref, putAt_some, putAt_none, binA_int, arithA, pick_true, pick_false, parts_nil, parts_cons, Env.get, Env.put, Env.keep, live_eq, lv, imm_eq, im, quiet_eq, qt, pure_all, sched, isAlloc, resultsA, packA, lv_bool, lv_int, obj_app, obj_app0, live_app, live_app0, set_app, set_app0, obj_zero, obj_succ, live_zero, live_succ, fieldAddrA, loadA, Rv.part, cellsAt, TD.isAgg, convA, storeA, buildA, fillA, setCells, AV.dead, group, copies, lenA, indexAddrA, sliceA, optA, boundA, mapO, ty3, ty4, ty5, ty23, ty26, ty27, Option.bind_some, Option.bind_none, Option.bind_eq_bind, Option.map_some, Option.map_none, Option.getD_some, Option.getD_none, Nat.reduceBEq, Bool.false_eq_true, if_true, if_false, ite_true, List.zipIdx_cons, List.zipIdx_nil, List.map_cons, List.map_nil, List.length_cons, List.length_nil, List.getElem?_cons_zero, List.getElem?_cons_succ, List.drop_succ_cons, List.drop_zero, List.head?_cons, List.set_cons_zero, List.set_cons_succ, Nat.reduceAdd, Nat.reduceMul, Nat.reduceLeDiff, Nat.reduceSub, Nat.reduceLT, List.append_assoc, List.cons_append, List.nil_append, List.contains_cons, List.contains_nil, Bool.or_false, Bool.false_or, Bool.and_true, Bool.true_and, Bool.false_and, Bool.and_false, Bool.not_true, Bool.not_false, Bool.true_or, Bool.or_true, decide_true, decide_false, decide_eq_true_eq, List.all_cons, List.all_nil, List.take_succ_cons, List.take_zero, beq_self_eq_true, bne, List.filter_cons, List.filter_nil, reduceIte]
  rw [wrap_id (by omega) (by omega)]
  exact leave_agg _ _ _ rfl rfl

noncomputable def loop8 : Code := match Try.f8.body with
  | some (.seq _ (.seq (.seq _ (.block _ l)) _)) => l
  | _ => .skip

def diff : List Int → List Int → Option Int
  | x :: xs, y :: ys => if x = y then diff xs ys else some (cmp x y)
  | _, _ => none

theorem l8 (o1 o2 : Nat) (xs ys : List Int) (h : Heap) (h1 : Heap.obj h o1 0 = some (xs.map (AV.int .i64))) (h2 : Heap.obj h o2 0 = some (ys.map (AV.int .i64))) (n : Nat) (hx : xs.length = n) (hy : ys.length = n) (hn : n < 1000000) :
    ∀ (k i : Nat), i + k = n → match diff (xs.drop i) (ys.drop i) with
      | none => exec cfg 8 loop8 [(0, .msl o1 0 n 1 0 (some n)), (1, .msl o2 0 n 1 0 (some n)), (4, .int .i64 0), (9, .msl o1 0 n 1 0 (some n)), (10, .int .i64 n), (11, .int .i64 i)] h = some (.exit 0, [(0, .msl o1 0 n 1 0 (some n)), (1, .msl o2 0 n 1 0 (some n)), (4, .int .i64 0), (9, .msl o1 0 n 1 0 (some n)), (10, .int .i64 n), (11, .int .i64 n), (12, .bool false)], h)
      | some c => ∃ e', exec cfg 8 loop8 [(0, .msl o1 0 n 1 0 (some n)), (1, .msl o2 0 n 1 0 (some n)), (4, .int .i64 0), (9, .msl o1 0 n 1 0 (some n)), (10, .int .i64 n), (11, .int .i64 i)] h = some (.ret, e', h) ∧ e'.get 4 = .int .i64 c := by
  have v1 : Heap.live h o1 0 = true := by simp [Heap.live, h1]
  have v2 : Heap.live h o2 0 = true := by simp [Heap.live, h2]
  intro k
  induction k with
  | zero =>
    intro i hi
    obtain rfl : i = n := by omega
    rw [List.drop_of_length_le (by omega), List.drop_of_length_le (by omega)]
    simp only [diff]
    unfold loop8
    simp only [Try.f8, exec_loop, exec_seq, exec_region, exec_cond, exec_block, exec_exit, exec_skip, exec_label, exec_scope, exec_ret, ops_nil, ops_move, ops_assign, ops_load, ops_store, ops_bin, ops_un, ops_conv, ops_fieldAddr, ops_field, ops_indexAddr, ops_index, ops_alloc, ops_box, ops_pick, ops_build, ops_buildSlice, ops_len, ops_slice, ops_callf, ops_guard, evalA_tmp, evalA_int, evalA_bool, evalA_func, known_int, known_bool, known_str, known_ptr, known_ref, known_agg, known_tup, known_lst, known_msl, known_clo, cells_int, cells_bool, cells_str, cells_ptr, cells_ref, cells_agg, cells_lst, leaf_int, leaf_bool, leaf_str, leaf_lst, one_int, one_bool, one_str, isRef_ref, putAt_some, putAt_none, binA_int, arithA, pick_true, pick_false, parts_nil, parts_cons, Env.get, Env.put, Env.keep, live_eq, lv, imm_eq, im, quiet_eq, qt, pure_all, sched, isAlloc, resultsA, packA, lv_bool, lv_int, obj_app, obj_app0, live_app, live_app0, set_app, set_app0, obj_zero, obj_succ, live_zero, live_succ, fieldAddrA, loadA, Rv.part, cellsAt, TD.isAgg, convA, storeA, buildA, fillA, setCells, AV.dead, group, copies, lenA, indexAddrA, sliceA, optA, boundA, mapO, ty3, ty4, ty5, ty23, ty26, ty27, Option.bind_some, Option.bind_none, Option.bind_eq_bind, Option.map_some, Option.map_none, Option.getD_some, Option.getD_none, Nat.reduceBEq, Bool.false_eq_true, if_true, if_false, ite_true, List.zipIdx_cons, List.zipIdx_nil, List.map_cons, List.map_nil, List.length_cons, List.length_nil, List.getElem?_cons_zero, List.getElem?_cons_succ, List.drop_succ_cons, List.drop_zero, List.head?_cons, List.set_cons_zero, List.set_cons_succ, Nat.reduceAdd, Nat.reduceMul, Nat.reduceLeDiff, Nat.reduceSub, Nat.reduceLT, List.append_assoc, List.cons_append, List.nil_append, List.contains_cons, List.contains_nil, Bool.or_false, Bool.false_or, Bool.and_true, Bool.true_and, Bool.false_and, Bool.and_false, Bool.not_true, Bool.not_false, Bool.true_or, Bool.or_true, decide_true, decide_false, decide_eq_true_eq, List.all_cons, List.all_nil, List.take_succ_cons, List.take_zero, beq_self_eq_true, bne, List.filter_cons, List.filter_nil, reduceIte, Int.lt_irrefl]
  | succ k ih =>
    intro i hi
    have hlt : i < n := by omega
    obtain ⟨x, xr, hxr⟩ : ∃ x xr, xs.drop i = x :: xr := by
      cases hd : xs.drop i with
      | nil => have := congrArg List.length hd; simp at this; omega
      | cons x xr => exact ⟨x, xr, rfl⟩
    obtain ⟨y, yr, hyr⟩ : ∃ y yr, ys.drop i = y :: yr := by
      cases hd : ys.drop i with
      | nil => have := congrArg List.length hd; simp at this; omega
      | cons x xr => exact ⟨x, xr, rfl⟩
    have hx1 : xs.drop (i + 1) = xr := by rw [← List.drop_drop, hxr]; rfl
    have hy1 : ys.drop (i + 1) = yr := by rw [← List.drop_drop, hyr]; rfl
    have hxm : (xs.map (AV.int .i64)).drop i = .int .i64 x :: xr.map (AV.int .i64) := by rw [← List.map_drop, hxr]; rfl
    have hym : (ys.map (AV.int .i64)).drop i = .int .i64 y :: yr.map (AV.int .i64) := by rw [← List.map_drop, hyr]; rfl
    have hneg : ((i : Int) < 0) = False := by simp
    have hlt' : ((i : Int) < (n : Int)) = True := by simp; omega
    have hge : ((i : Int) ≥ (n : Int)) = False := by simp; omega
    have hltn : (i < n) = True := by simp [hlt]
    have hw : IntKind.i64.wrap ((i : Int) + 1) = ((i + 1 : Nat) : Int) := by rw [wrap_id (by omega) (by omega)]; rfl
    have ih := ih (i + 1) (by omega)
    rw [hx1, hy1] at ih
    rw [hxr, hyr]
    simp only [diff]
    by_cases he : x = y
    · subst he
      have hc : cmp x x = 0 := by simp [cmp]
      rw [if_pos rfl]
      have step : exec cfg 8 loop8 [(0, .msl o1 0 n 1 0 (some n)), (1, .msl o2 0 n 1 0 (some n)), (4, .int .i64 0), (9, .msl o1 0 n 1 0 (some n)), (10, .int .i64 n), (11, .int .i64 i)] h = exec cfg 8 loop8 [(0, .msl o1 0 n 1 0 (some n)), (1, .msl o2 0 n 1 0 (some n)), (4, .int .i64 0), (9, .msl o1 0 n 1 0 (some n)), (10, .int .i64 n), (11, .int .i64 (i + 1 : Nat))] h := by
        conv => lhs; unfold loop8
        simp only [Try.f8]
        rw [exec_loop]
        simp only [exec_seq, exec_region, exec_cond, exec_block, exec_exit, exec_skip, exec_label, exec_scope, exec_ret, ops_nil, ops_move, ops_assign, ops_load, ops_store, ops_bin, ops_un, ops_conv, ops_fieldAddr, ops_field, ops_indexAddr, ops_index, ops_alloc, ops_box, ops_pick, ops_build, ops_buildSlice, ops_len, ops_slice, ops_callf, ops_guard, evalA_tmp, evalA_int, evalA_bool, evalA_func, known_int, known_bool, known_str, known_ptr, known_ref, known_agg, known_tup, known_lst, known_msl, known_clo, cells_int, cells_bool, cells_str, cells_ptr, cells_ref, cells_agg, cells_lst, leaf_int, leaf_bool, leaf_str, leaf_lst, one_int, one_bool, one_str, isRef_ref, putAt_some, putAt_none, binA_int, arithA, pick_true, pick_false, parts_nil, parts_cons, Env.get, Env.put, Env.keep, live_eq, lv, imm_eq, im, quiet_eq, qt, pure_all, sched, isAlloc, resultsA, packA, lv_bool, lv_int, obj_app, obj_app0, live_app, live_app0, set_app, set_app0, obj_zero, obj_succ, live_zero, live_succ, fieldAddrA, loadA, Rv.part, cellsAt, TD.isAgg, convA, storeA, buildA, fillA, setCells, AV.dead, group, copies, lenA, indexAddrA, sliceA, optA, boundA, mapO, ty3, ty4, ty5, ty23, ty26, ty27, Option.bind_some, Option.bind_none, Option.bind_eq_bind, Option.map_some, Option.map_none, Option.getD_some, Option.getD_none, Nat.reduceBEq, Bool.false_eq_true, if_true, if_false, ite_true, List.zipIdx_cons, List.zipIdx_nil, List.map_cons, List.map_nil, List.length_cons, List.length_nil, List.getElem?_cons_zero, List.getElem?_cons_succ, List.drop_succ_cons, List.drop_zero, List.head?_cons, List.set_cons_zero, List.set_cons_succ, Nat.reduceAdd, Nat.reduceMul, Nat.reduceLeDiff, Nat.reduceSub, Nat.reduceLT, List.append_assoc, List.cons_append, List.nil_append, List.contains_cons, List.contains_nil, Bool.or_false, Bool.false_or, Bool.and_true, Bool.true_and, Bool.false_and, Bool.and_false, Bool.not_true, Bool.not_false, Bool.true_or, Bool.or_true, decide_true, decide_false, decide_eq_true_eq, List.all_cons, List.all_nil, List.take_succ_cons, List.take_zero, beq_self_eq_true, bne, List.filter_cons, List.filter_nil, reduceIte, h1, h2, v1, v2, hneg, hlt', hge, hltn, hxm, hym, hw, w9, hc, Int.toNat_natCast, Nat.mul_one, Nat.zero_add]
        unfold loop8
        simp only [Try.f8]
      rw [step]
      exact ih
    · have hc : (cmp x y == 0) = false := by
        simp only [cmp, beq_eq_false_iff_ne, ne_eq]
        split
        · omega
        · split <;> omega
      rw [if_neg he]
      simp only
      unfold loop8
      simp only [Try.f8]
      rw [exec_loop]
      simp only [exec_seq, exec_region, exec_cond, exec_block, exec_exit, exec_skip, exec_label, exec_scope, exec_ret, ops_nil, ops_move, ops_assign, ops_load, ops_store, ops_bin, ops_un, ops_conv, ops_fieldAddr, ops_field, ops_indexAddr, ops_index, ops_alloc, ops_box, ops_pick, ops_build, ops_buildSlice, ops_len, ops_slice, ops_callf, ops_guard, evalA_tmp, evalA_int, evalA_bool, evalA_func, known_int, known_bool, known_str, known_ptr, known_ref, known_agg, known_tup, known_lst, known_msl, known_clo, cells_int, cells_bool, cells_str, cells_ptr, cells_ref, cells_agg, cells_lst, leaf_int, leaf_bool, leaf_str, leaf_lst, one_int, one_bool, one_str, isRef_ref, putAt_some, putAt_none, binA_int, arithA, pick_true, pick_false, parts_nil, parts_cons, Env.get, Env.put, Env.keep, live_eq, lv, imm_eq, im, quiet_eq, qt, pure_all, sched, isAlloc, resultsA, packA, lv_bool, lv_int, obj_app, obj_app0, live_app, live_app0, set_app, set_app0, obj_zero, obj_succ, live_zero, live_succ, fieldAddrA, loadA, Rv.part, cellsAt, TD.isAgg, convA, storeA, buildA, fillA, setCells, AV.dead, group, copies, lenA, indexAddrA, sliceA, optA, boundA, mapO, ty3, ty4, ty5, ty23, ty26, ty27, Option.bind_some, Option.bind_none, Option.bind_eq_bind, Option.map_some, Option.map_none, Option.getD_some, Option.getD_none, Nat.reduceBEq, Bool.false_eq_true, if_true, if_false, ite_true, List.zipIdx_cons, List.zipIdx_nil, List.map_cons, List.map_nil, List.length_cons, List.length_nil, List.getElem?_cons_zero, List.getElem?_cons_succ, List.drop_succ_cons, List.drop_zero, List.head?_cons, List.set_cons_zero, List.set_cons_succ, Nat.reduceAdd, Nat.reduceMul, Nat.reduceLeDiff, Nat.reduceSub, Nat.reduceLT, List.append_assoc, List.cons_append, List.nil_append, List.contains_cons, List.contains_nil, Bool.or_false, Bool.false_or, Bool.and_true, Bool.true_and, Bool.false_and, Bool.and_false, Bool.not_true, Bool.not_false, Bool.true_or, Bool.or_true, decide_true, decide_false, decide_eq_true_eq, List.all_cons, List.all_nil, List.take_succ_cons, List.take_zero, beq_self_eq_true, bne, List.filter_cons, List.filter_nil, reduceIte, h1, h2, v1, v2, hneg, hlt', hge, hltn, hxm, hym, hw, w9, hc, Int.toNat_natCast, Nat.mul_one, Nat.zero_add]
      exact ⟨_, rfl, rfl⟩

def dv (xs ys : List Int) : Int := (diff xs ys).getD 0

theorem w8 (o1 o2 : Nat) (xs ys : List Int) (h : Heap) (h1 : Heap.obj h o1 0 = some (xs.map (AV.int .i64))) (h2 : Heap.obj h o2 0 = some (ys.map (AV.int .i64))) (n : Nat) (hx : xs.length = n) (hy : ys.length = n) (hn : n < 1000000) :
    call cfg 8 [.msl o1 0 n 1 0 (some n), .msl o2 0 n 1 0 (some n)] h = some (.ret (.int .i64 (dv xs ys)), h) := by
  have v1 : Heap.live h o1 0 = true := by simp [Heap.live, h1]
  have v2 : Heap.live h o2 0 = true := by simp [Heap.live, h2]
  have L := l8 o1 o2 xs ys h h1 h2 n hx hy hn n 0 (by omega)
  simp only [List.drop_zero] at L
  unfold loop8 at L
  simp only [Try.f8] at L
  rw [show ((0 : Nat) : Int) = 0 from rfl] at L
  rw [call_fn 8 _ _ _ rfl (fnat Try.func8 rfl ok8) rfl]
  unfold dv
  cases hd : diff xs ys with
  | none =>
    rw [hd] at L
    simp only at L
    simp only [Try.f8, exec_seq, exec_region, exec_cond, exec_block, exec_exit, exec_skip, exec_label, exec_scope, exec_ret, ops_nil, ops_move, ops_assign, ops_load, ops_store, ops_bin, ops_un, ops_conv, ops_fieldAddr, ops_field, ops_indexAddr, ops_index, ops_alloc, ops_box, ops_pick, ops_build, ops_buildSlice, ops_len, ops_slice, ops_callf, ops_guard, evalA_tmp, evalA_int, evalA_bool, evalA_func, known_int, known_bool, known_str, known_ptr, known_ref, known_agg, known_tup, known_lst, known_msl, known_clo, cells_int, cells_bool, cells_str, cells_ptr, cells_ref, cells_agg, cells_lst, leaf_int, leaf_bool, leaf_str, leaf_lst, one_int, one_bool, one_str, isRef_ref, putAt_some, putAt_none, binA_int, arithA, pick_true, pick_false, parts_nil, parts_cons, Env.get, Env.put, Env.keep, live_eq, lv, imm_eq, im, quiet_eq, qt, pure_all, sched, isAlloc, resultsA, packA, lv_bool, lv_int, obj_app, obj_app0, live_app, live_app0, set_app, set_app0, obj_zero, obj_succ, live_zero, live_succ, fieldAddrA, loadA, Rv.part, cellsAt, TD.isAgg, convA, storeA, buildA, fillA, setCells, AV.dead, group, copies, lenA, indexAddrA, sliceA, optA, boundA, mapO, ty3, ty4, ty5, ty23, ty26, ty27, Option.bind_some, Option.bind_none, Option.bind_eq_bind, Option.map_some, Option.map_none, Option.getD_some, Option.getD_none, Nat.reduceBEq, Bool.false_eq_true, if_true, if_false, ite_true, List.zipIdx_cons, List.zipIdx_nil, List.map_cons, List.map_nil, List.length_cons, List.length_nil, List.getElem?_cons_zero, List.getElem?_cons_succ, List.drop_succ_cons, List.drop_zero, List.head?_cons, List.set_cons_zero, List.set_cons_succ, Nat.reduceAdd, Nat.reduceMul, Nat.reduceLeDiff, Nat.reduceSub, Nat.reduceLT, List.append_assoc, List.cons_append, List.nil_append, List.contains_cons, List.contains_nil, Bool.or_false, Bool.false_or, Bool.and_true, Bool.true_and, Bool.false_and, Bool.and_false, Bool.not_true, Bool.not_false, Bool.true_or, Bool.or_true, decide_true, decide_false, decide_eq_true_eq, List.all_cons, List.all_nil, List.take_succ_cons, List.take_zero, beq_self_eq_true, bne, List.filter_cons, List.filter_nil, reduceIte, v1, v2, L, Int.lt_irrefl]
  | some c =>
    rw [hd] at L
    obtain ⟨e', L, hg⟩ := L
    simp only [Try.f8, exec_seq, exec_region, exec_cond, exec_block, exec_exit, exec_skip, exec_label, exec_scope, exec_ret, ops_nil, ops_move, ops_assign, ops_load, ops_store, ops_bin, ops_un, ops_conv, ops_fieldAddr, ops_field, ops_indexAddr, ops_index, ops_alloc, ops_box, ops_pick, ops_build, ops_buildSlice, ops_len, ops_slice, ops_callf, ops_guard, evalA_tmp, evalA_int, evalA_bool, evalA_func, known_int, known_bool, known_str, known_ptr, known_ref, known_agg, known_tup, known_lst, known_msl, known_clo, cells_int, cells_bool, cells_str, cells_ptr, cells_ref, cells_agg, cells_lst, leaf_int, leaf_bool, leaf_str, leaf_lst, one_int, one_bool, one_str, isRef_ref, putAt_some, putAt_none, binA_int, arithA, pick_true, pick_false, parts_nil, parts_cons, Env.get, Env.put, Env.keep, live_eq, lv, imm_eq, im, quiet_eq, qt, pure_all, sched, isAlloc, resultsA, packA, lv_bool, lv_int, obj_app, obj_app0, live_app, live_app0, set_app, set_app0, obj_zero, obj_succ, live_zero, live_succ, fieldAddrA, loadA, Rv.part, cellsAt, TD.isAgg, convA, storeA, buildA, fillA, setCells, AV.dead, group, copies, lenA, indexAddrA, sliceA, optA, boundA, mapO, ty3, ty4, ty5, ty23, ty26, ty27, Option.bind_some, Option.bind_none, Option.bind_eq_bind, Option.map_some, Option.map_none, Option.getD_some, Option.getD_none, Nat.reduceBEq, Bool.false_eq_true, if_true, if_false, ite_true, List.zipIdx_cons, List.zipIdx_nil, List.map_cons, List.map_nil, List.length_cons, List.length_nil, List.getElem?_cons_zero, List.getElem?_cons_succ, List.drop_succ_cons, List.drop_zero, List.head?_cons, List.set_cons_zero, List.set_cons_succ, Nat.reduceAdd, Nat.reduceMul, Nat.reduceLeDiff, Nat.reduceSub, Nat.reduceLT, List.append_assoc, List.cons_append, List.nil_append, List.contains_cons, List.contains_nil, Bool.or_false, Bool.false_or, Bool.and_true, Bool.true_and, Bool.false_and, Bool.and_false, Bool.not_true, Bool.not_false, Bool.true_or, Bool.or_true, decide_true, decide_false, decide_eq_true_eq, List.all_cons, List.all_nil, List.take_succ_cons, List.take_zero, beq_self_eq_true, bne, List.filter_cons, List.filter_nil, reduceIte, v1, v2, L, hg]
end Go.Proofs.Races
