/-
  'bobbinlaw21.RacesLess': what its call answers.
-/
import Derived.Test.YtejbkcginebddaaRacesTop
set_option linter.unusedSimpArgs false
set_option linter.unusedVariables false
set_option maxRecDepth 100000
set_option maxHeartbeats 4000000
namespace Go.Proofs.Races
open Go.Rv Go.Proofs
attribute [local congr] bind_left
attribute [local congr] guardK_left
noncomputable def r30 : Code := match Try.f3.body with
  | some (.seq a _) => a
  | _ => .skip
noncomputable def ops3 : Array Oper := match Try.f3.body with
  | some (.seq _ (.seq (.region _ os _) _)) => os
  | _ => #[]
theorem g7 : (ops3[7]?).bind (·.dst) = some 12 := rfl
theorem g16 : (ops3[16]?).bind (·.dst) = some 21 := rfl
theorem s3 : sched ops3 true = ops3.toList := rfl

theorem w3 (a b c d e f a' b' c' d' e' f' : Int) (h : Heap) (ha : 0 ≤ a) (ha1 : a < 256) (hb : 0 ≤ a') (hb1 : a' < 256) :
    call cfg 3 [.agg [.int .u8 a, .int .i64 b, .int .i64 c, .int .i64 d, .int .i64 e, .int .i64 f], .agg [.int .u8 a', .int .i64 b', .int .i64 c', .int .i64 d', .int .i64 e', .int .i64 f']] h = some (.ret (.bool true), h) := by
  have p1 := fun h => w4 a b c d e f a' b' c' d' e' f' h ha ha1 hb hb1
  have p2 := fun h => w5 a b c d e f a' b' c' d' e' f' h ha ha1 hb hb1
  have p3 := fun h => w4 a' b' c' d' e' f' a b c d e f h hb hb1 ha ha1
  have p4 := fun h => w5 a' b' c' d' e' f' a b c d e f h hb hb1 ha ha1
  have p5 := fun h => w4 a b c d e f a b c d e f h ha ha1 ha ha1
  simp only [less_self] at p5
  generalize lessD [a, b, c, d, e, f] [a', b', c', d', e', f'] = l1 at p1 p2
  generalize lessD [a', b', c', d', e', f'] [a, b, c, d, e, f] = l2 at p3 p4
  rw [call_fn 3 _ _ _ rfl (fnat (b := .seq r30 (.seq (.region 1 ops3 true) .ret)) Try.func3 rfl ok3) rfl]
  generalize hos : ops3 = os
  have k7 : (os[7]?).bind (·.dst) = some 12 := by rw [← hos]; exact g7
  have k16 : (os[16]?).bind (·.dst) = some 21 := by rw [← hos]; exact g16
  have ks : sched os true = ops3.toList := by rw [← hos]; exact s3
  simp only [exec_seq, exec_region, ks]
  simp only [r30, ops3, Try.f3, exec_seq, exec_region, exec_cond, exec_block, exec_exit, exec_skip, exec_label, exec_scope, exec_ret, ops_nil, ops_move, ops_assign, ops_load, ops_store, ops_bin, ops_un, ops_conv, ops_fieldAddr, ops_field, ops_indexAddr, ops_index, ops_alloc, ops_box, ops_pick, ops_build, ops_buildSlice, ops_len, ops_slice, ops_callf, ↓guardK_tt, ↓guardK_tf, ↓guardK_ft, ↓guardK_ff, ↓guardK_tup, guardK_tt, guardK_tf, guardK_ft, guardK_ff, guardK_tup, evalA_tmp, evalA_int, evalA_bool, evalA_func, known_int, known_bool, known_str, known_ptr, known_ref, known_agg, known_tup, known_lst, known_msl, known_clo, cells_int, cells_bool, cells_str, cells_ptr, cells_ref, cells_agg, cells_lst, leaf_int, leaf_bool, leaf_str, leaf_lst, one_int, one_bool, one_str, isRef_ref, putAt_some, putAt_none, binA_int, arithA, pick_true, pick_false, parts_nil, parts_cons, Env.get, Env.put, Env.keep, live_eq, lv, imm_eq, im, quiet_eq, qt, pure_all, sched_text, isAlloc, resultsA, packA, lv_bool, lv_int, obj_app, obj_app0, live_app, live_app0, set_app, set_app0, obj_zero, obj_succ, live_zero, live_succ, fieldAddrA, loadA, Rv.part, cellsAt, TD.isAgg, convA, storeA, buildA, fillA, setCells, AV.dead, group, copies, lenA, indexAddrA, sliceA, optA, boundA, mapO, ty3, ty4, ty5, ty23, ty26, ty27, ↓Option.bind_some, ↓Option.bind_none, Option.bind_some, Option.bind_none, Option.bind_eq_bind, Option.map_some, Option.map_none, Option.getD_some, Option.getD_none, Nat.reduceBEq, Bool.false_eq_true, if_true, if_false, ite_true, List.zipIdx_cons, List.zipIdx_nil, List.map_cons, List.map_nil, List.length_cons, List.length_nil, List.getElem?_cons_zero, List.getElem?_cons_succ, List.drop_succ_cons, List.drop_zero, List.head?_cons, List.set_cons_zero, List.set_cons_succ, Nat.reduceAdd, Nat.reduceMul, Nat.reduceLeDiff, Nat.reduceSub, Nat.reduceLT, List.append_assoc, List.cons_append, List.nil_append, List.contains_cons, List.contains_nil, Bool.or_false, Bool.false_or, Bool.and_true, Bool.true_and, Bool.false_and, Bool.and_false, Bool.not_true, Bool.not_false, Bool.true_or, Bool.or_true, decide_true, decide_false, decide_eq_true_eq, List.all_cons, List.all_nil, List.take_succ_cons, List.take_zero, beq_self_eq_true, Option.isSome_none, Option.isSome_some, gt_iff_lt, Nat.lt_irrefl, bne, ↓reduceIte, p1, p2, p3, p4, p5, eqb, notb, ops_guardTT k7, ops_guardTF k7, ops_guardTT k16, ops_guardTF k16]
end Go.Proofs.Races
