/-
  The functions that 'RacesLess' reaches: types, checks, the smallest calls.
-/
import Derived.Test.YtejbkcginebddaaRvEval
import Derived.Test.YtejbkcginebddaaProg
import Derived.KernelRfl
set_option linter.unusedSimpArgs false
set_option linter.unusedVariables false
set_option maxRecDepth 100000
namespace Go.Proofs.Races
open Go.Rv Go.Proofs

def im : Nat → Nat → Bool
  | 3, 2 | 3, 3 | 4, 2 | 4, 3 | 5, 2 | 5, 3 | 5, 21 | 5, 35 | 6, 2 | 6, 3 | 7, 1 => true
  | _, _ => false
def qt : Nat → Nat → Bool
  | 6, 7 | 6, 9 => true
  | _, _ => false
def lv : Nat → Nat → Option (List Nat)
  | 5, 3 | 5, 5 => some [4, 5, 6, 7]
  | 8, 1 | 8, 10 => some [0, 1, 4, 9, 10, 11]
  | _, _ => none
def told : RvTold where
  imm := im
  quiet := qt
  live := lv

noncomputable def cfg : Cfg := told.cfg Try.prog
noncomputable def cfg0 : Cfg := told.bare Try.prog

theorem ty3 : cfg.ty 3 = some ⟨.int .i64, 1, 8, [.int .i64 0]⟩ := by kernel_rfl
theorem ty4 : cfg.ty 4 = some ⟨.bool, 1, 1, [.bool false]⟩ := by kernel_rfl
theorem ty5 : cfg.ty 5 = some ⟨.int .u8, 1, 1, [.int .u8 0]⟩ := by kernel_rfl
theorem ty23 : cfg.ty 23 = some ⟨.struct [(5, 0), (3, 1), (3, 2), (3, 3), (3, 4), (3, 5)], 6, 48, [.int .u8 0, .int .i64 0, .int .i64 0, .int .i64 0, .int .i64 0, .int .i64 0]⟩ := by kernel_rfl
theorem ty26 : cfg.ty 26 = some ⟨.slice 3, 1, 24, [.lst [] 0 .nil]⟩ := by kernel_rfl
theorem ty27 : cfg.ty 27 = some ⟨.array 6 3, 6, 48, [.int .i64 0, .int .i64 0, .int .i64 0, .int .i64 0, .int .i64 0, .int .i64 0]⟩ := by kernel_rfl

theorem ok3 : okB cfg0 3 Try.f3 (Try.f3.body.getD .skip) = true := by kernel_rfl
theorem ok4 : okB cfg0 4 Try.f4 (Try.f4.body.getD .skip) = true := by kernel_rfl
theorem ok5 : okB cfg0 5 Try.f5 (Try.f5.body.getD .skip) = true := by kernel_rfl
theorem ok6 : okB cfg0 6 Try.f6 (Try.f6.body.getD .skip) = true := by kernel_rfl
theorem ok7 : okB cfg0 7 Try.f7 (Try.f7.body.getD .skip) = true := by kernel_rfl
theorem ok8 : okB cfg0 8 Try.f8 (Try.f8.body.getD .skip) = true := by kernel_rfl
theorem ok9 : okB cfg0 9 Try.f9 (Try.f9.body.getD .skip) = true := by kernel_rfl
theorem ok10 : okB cfg0 10 Try.f10 (Try.f10.body.getD .skip) = true := by kernel_rfl

theorem fnat {f : Nat} {fn : Func} {b : Code} (h1 : Try.prog.funcs[f]? = some fn) (h2 : fn.body = some b) (h3 : okB cfg0 f fn b = true) : cfg.fn f = some ⟨fn.params.size + fn.nfree, fn.results.toList, b⟩ := fn_of (T := told) h1 h2 h3
theorem pure_all (g : Nat) : cfg.pure g = true := rfl
theorem prim_none (g : Nat) : cfg.prim g = none := rfl
theorem lv_bool (f : Nat) (h : Heap) (b : Bool) : leaveA cfg f h (.bool b) h = some (.ret (.bool b), h) := by rw [leave_same, leave_bool _ _ _ rfl]
theorem lv_int (f : Nat) (h : Heap) (k : IntKind) (b : Int) : leaveA cfg f h (.int k b) h = some (.ret (.int k b), h) := by rw [leave_same, leave_int _ _ _ rfl]
theorem live_eq (f r : Nat) : cfg.live f r = lv f r := rfl
theorem imm_eq (f r : Nat) : cfg.imm f r = im f r := rfl
theorem quiet_eq (f r : Nat) : cfg.quiet f r = qt f r := rfl


attribute [local congr] bind_left
attribute [local simp] exec_seq exec_region exec_cond exec_block exec_exit exec_skip exec_label exec_scope ops_cons ops_nil exec_ret sched wantA callee opA evalA ofValue Env.get Env.put Env.putAt binA arithA live_eq lv imm_eq im quiet_eq qt resultsA packA leave_bool leave_int leave_agg lv_bool lv_int List.zipIdx mapO pure_all AV.cells AV.isRef isAlloc
  obj_app obj_app0 live_app live_app0 set_app set_app0 obj_zero obj_succ live_zero live_succ fieldAddrA loadA part cellsAt TD.isAgg convA storeA buildA fillA setCells AV.leaf AV.dead one group copies lenA indexAddrA sliceA optA boundA
attribute [local simp] ty3 ty4 ty5 ty23 ty26 ty27

theorem w10 (n : Int) (h : Heap) : call cfg 10 [.int .i64 n] h = some (.ret (.bool false), h) := by
  rw [call_fn 10 _ _ _ rfl (fnat Try.func10 rfl ok10) rfl]
  simp [Try.f10]

def cmp (a b : Int) : Int := if a < b then -1 else if b < a then 1 else 0

theorem w9 (a b : Int) (h : Heap) : call cfg 9 [.int .i64 a, .int .i64 b] h = some (.ret (.int .i64 (cmp a b)), h) := by
  rw [call_fn 9 _ _ _ rfl (fnat Try.func9 rfl ok9) rfl]
  by_cases h1 : a < b
  · simp [Try.f9, w10, h1, cmp]
  · by_cases h2 : b < a
    · simp [Try.f9, w10, h1, h2, cmp]
    · simp [Try.f9, w10, h1, h2, cmp]
end Go.Proofs.Races
