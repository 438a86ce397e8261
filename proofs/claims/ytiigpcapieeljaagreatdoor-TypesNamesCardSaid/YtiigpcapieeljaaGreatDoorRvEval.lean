/-
  Lemmas to reckon the interpreter's answers by 'simp'.
-/
import Derived.Test.YtiigpcapieeljaaGreatDoorPtE
set_option linter.unusedSimpArgs false
set_option linter.unusedVariables false
namespace Go.Rv

/-- What follows is looked at only when what comes first is known. -/
theorem bind_left {α β : Type} {x y : Option α} (h : x = y) (f : α → Option β) : x.bind f = y.bind f := by rw [h]

section
variable (h X : Heap) (k g : Nat)
theorem obj_app : Heap.obj (h ++ X) (h.length + k) g = Heap.obj X k g := by
  unfold Heap.obj
  rw [List.getElem?_append_right (by omega), Nat.add_sub_cancel_left]
theorem obj_app0 : Heap.obj (h ++ X) h.length g = Heap.obj X 0 g := obj_app h X 0 g
theorem live_app : Heap.live (h ++ X) (h.length + k) g = Heap.live X k g := by unfold Heap.live; rw [obj_app]
theorem live_app0 : Heap.live (h ++ X) h.length g = Heap.live X 0 g := live_app h X 0 g
theorem set_app (y : AObj) : (h ++ X).set (h.length + k) y = h ++ X.set k y := by
  rw [List.set_append_right _ _ (by omega), Nat.add_sub_cancel_left]
theorem set_app0 (y : AObj) : (h ++ X).set h.length y = h ++ X.set 0 y := set_app h X 0 y
theorem obj_zero (cs : List AV) (r : Heap) : Heap.obj (.cells cs g :: r) 0 g = some cs := by simp [Heap.obj]
theorem obj_succ (x : AObj) (r : Heap) : Heap.obj (x :: r) (k + 1) g = Heap.obj r k g := by simp [Heap.obj]
theorem live_zero (cs : List AV) (r : Heap) : Heap.live (.cells cs g :: r) 0 g = true := by simp [Heap.live, obj_zero]
theorem live_succ (x : AObj) (r : Heap) : Heap.live (x :: r) (k + 1) g = Heap.live r k g := by simp [Heap.live, obj_succ]
end

section
variable {C : Cfg} (f : Nat) (h X : Heap) (hp : C.pure f = true)
include hp
theorem leave_app {v v' : AV} (hv : freezeV (h ++ X) h.length 40 v = some v') : leaveA C f h v (h ++ X) = some (.ret v', h) := by
  unfold leaveA
  rw [if_pos hp, if_pos (by simp), hv]
  rfl
theorem leave_bool (b : Bool) : leaveA C f h (.bool b) (h ++ X) = some (.ret (.bool b), h) := leave_app f h X hp rfl
theorem leave_int (k : IntKind) (n : Int) : leaveA C f h (.int k n) (h ++ X) = some (.ret (.int k n), h) := leave_app f h X hp rfl
theorem leave_str (s : List UInt8) : leaveA C f h (.str s) (h ++ X) = some (.ret (.str s), h) := leave_app f h X hp rfl
end

/-- Values with nothing in them that could change. -/
def AV.dead : AV → Bool
  | .bool _ | .int .. | .str _ | .nilPtr | .nilMap | .nilFunc | .nilIface | .junk => true
  | _ => false

theorem freeze_dead (h : Heap) (n d : Nat) {v : AV} (hv : v.dead = true) : freezeV h n (d + 1) v = some v := by
  cases v <;> simp only [AV.dead, Bool.false_eq_true] at hv <;> rfl
theorem freeze_deads (h : Heap) (n d : Nat) : ∀ {l : List AV}, l.all AV.dead = true → mapO (freezeV h n (d + 1)) l = some l
  | [], _ => rfl
  | v :: r, hv => by
    simp only [List.all_cons, Bool.and_eq_true] at hv
    simp only [mapO, freeze_dead h n d hv.1, freeze_deads h n d hv.2]
    rfl
theorem freeze_agg (h : Heap) (n : Nat) {l : List AV} (hl : l.all AV.dead = true) : freezeV h n 40 (.agg l) = some (.agg l) := by
  show (mapO (freezeV h n 39) l).map AV.agg = _
  rw [freeze_deads h n 38 hl]; rfl
theorem leave_agg {C : Cfg} (f : Nat) (h X : Heap) (hp : C.pure f = true) {l : List AV} (hl : l.all AV.dead = true) : leaveA C f h (.agg l) (h ++ X) = some (.ret (.agg l), h) := leave_app f h X hp (freeze_agg _ _ hl)

/-- Nothing was made. -/
theorem leave_same {C : Cfg} (f : Nat) (h : Heap) (v : AV) : leaveA C f h v h = leaveA C f h v (h ++ []) := by rw [List.append_nil]

def known : AV → Option AV
  | .junk => none
  | v => some v
theorem evalA_tmp {C : Cfg} (e : Env) (t : Nat) : evalA C e (.tmp t) = known (e.get t) := rfl
theorem evalA_int {C : Cfg} (e : Env) (k : IntKind) (n : Int) : evalA C e (.const (.int k n)) = some (.int k n) := rfl
theorem evalA_bool {C : Cfg} (e : Env) (b : Bool) : evalA C e (.const (.bool b)) = some (.bool b) := rfl
theorem evalA_func {C : Cfg} (e : Env) (g : Nat) : evalA C e (.func g) = some (.clo g []) := rfl
theorem known_int (k : IntKind) (n : Int) : known (.int k n) = some (.int k n) := rfl
theorem known_bool (b : Bool) : known (.bool b) = some (.bool b) := rfl
theorem known_str (b : List UInt8) : known (.str b) = some (.str b) := rfl
theorem known_ptr (o off g : Nat) : known (.ptr o off g) = some (.ptr o off g) := rfl
theorem known_ref (cs : List AV) : known (.ref cs) = some (.ref cs) := rfl
theorem known_agg (cs : List AV) : known (.agg cs) = some (.agg cs) := rfl
theorem known_tup (cs : List AV) : known (.tup cs) = some (.tup cs) := rfl
theorem known_lst (cs : List AV) (z : Nat) (r : Room) : known (.lst cs z r) = some (.lst cs z r) := rfl
theorem known_msl (o off len z g : Nat) (c : Option Nat) : known (.msl o off len z g c) = some (.msl o off len z g c) := rfl
theorem known_clo (g : Nat) (cs : List AV) : known (.clo g cs) = some (.clo g cs) := rfl
theorem cells_int (k : IntKind) (n : Int) : AV.cells (.int k n) = [.int k n] := rfl
theorem cells_bool (b : Bool) : AV.cells (.bool b) = [.bool b] := rfl
theorem cells_str (b : List UInt8) : AV.cells (.str b) = [.str b] := rfl
theorem cells_ptr (o off g : Nat) : AV.cells (.ptr o off g) = [.ptr o off g] := rfl
theorem cells_ref (cs : List AV) : AV.cells (.ref cs) = [.ref cs] := rfl
theorem cells_agg (cs : List AV) : AV.cells (.agg cs) = cs := rfl
theorem cells_lst (cs : List AV) (z : Nat) (r : Room) : AV.cells (.lst cs z r) = [.lst cs z r] := rfl
theorem leaf_int (k : IntKind) (n : Int) : AV.leaf (.int k n) = true := rfl
theorem leaf_bool (b : Bool) : AV.leaf (.bool b) = true := rfl
theorem leaf_str (b : List UInt8) : AV.leaf (.str b) = true := rfl
theorem leaf_lst (cs : List AV) (z : Nat) (r : Room) : AV.leaf (.lst cs z r) = true := rfl
theorem one_int (k : IntKind) (n : Int) : one (.int k n) = .int k n := rfl
theorem one_bool (b : Bool) : one (.bool b) = .bool b := rfl
theorem one_str (b : List UInt8) : one (.str b) = .str b := rfl
theorem isRef_ref (cs : List AV) : AV.isRef (.ref cs) = true := rfl
theorem putAt_some (e : Env) (d : Nat) (v : AV) : e.putAt (some d) v = e.put d v := rfl
theorem putAt_none (e : Env) (v : AV) : e.putAt none v = e := rfl
theorem binA_int {C : Cfg} (h : Heap) (op : BinOp) (t : Nat) (k : IntKind) (a b : Int) : binA C h op t (.int k a) (.int k b) = arithA op k a b := by simp [binA]
def pickA (c : AV) (x y : Option AV) : Option AV := match c with
  | .bool true => x
  | .bool false => y
  | _ => none
theorem pick_true (x y : Option AV) : pickA (.bool true) x y = x := rfl
theorem pick_false (x y : Option AV) : pickA (.bool false) x y = y := rfl

noncomputable def partsA (C : Cfg) (e : Env) (l : List (Nat × Operand)) : Option (List (Nat × AV)) := mapO (fun (p : Nat × Operand) => (evalA C e p.2).map (p.1, ·)) l
theorem parts_eq (C : Cfg) (e : Env) (l : List (Nat × Operand)) : mapO (fun (p : Nat × Operand) => (evalA C e p.2).map (p.1, ·)) l = partsA C e l := rfl
theorem parts_nil (C : Cfg) (e : Env) : partsA C e [] = some [] := rfl
theorem parts_cons (C : Cfg) (e : Env) (i : Nat) (x : Operand) (r : List (Nat × Operand)) : partsA C e ((i, x) :: r) = (evalA C e x).bind fun v => (partsA C e r).bind fun l => some ((i, v) :: l) := by
  unfold partsA
  simp only [mapO, Option.bind_eq_bind]
  cases evalA C e x <;> rfl

section
variable {C : Cfg} [Tight C] {f : Nat} {os : Array Oper} {d : Option Nat} {ty : TypeId} {ps : String} {af : Array Edge} {r : List Oper} {e : Env} {h : Heap}
theorem ops_plain {o : Oper} (hw : o.guard = none) (hc : callee o = none) (hp : panO C e o = none := by rfl) : ops C f os (o :: r) e h = (opA C f e h o).bind fun x => ops C f os r (e.putAt o.dst x.1) x.2 := by
  rw [ops_cons']
  have : wantA os e o = some true := by unfold wantA; rw [hw]
  rw [this, hc, Option.bind_some]
  simp only [hp]
theorem ops_move (x : Operand) : ops C f os (⟨d, .move x, ty, ps, af, none⟩ :: r) e h = (evalA C e x).bind fun v => ops C f os r (e.putAt d v) h := by
  rw [ops_plain rfl rfl]
  simp only [opA, Option.bind_eq_bind, Option.bind_assoc, Option.bind_some]
theorem ops_assign (x : Operand) : ops C f os (⟨d, .assign x, ty, ps, af, none⟩ :: r) e h = (evalA C e x).bind fun v => ops C f os r (e.putAt d v) h := by
  rw [ops_plain rfl rfl]
  simp only [opA, Option.bind_eq_bind, Option.bind_assoc, Option.bind_some]
theorem ops_load (t : TypeId) (x : Operand) : ops C f os (⟨d, .load t x, ty, ps, af, none⟩ :: r) e h = (evalA C e x).bind fun x => if (d.map (C.quiet f)).getD false && !x.isRef then none else (loadA C h t x).bind fun v => ops C f os r (e.putAt d v) h := by
  rw [ops_plain rfl rfl]
  simp only [opA, Option.bind_eq_bind, Option.bind_assoc, Option.bind_some]
  cases evalA C e x <;> simp only [Option.bind_none, Option.bind_some]
  split
  · rfl
  · simp only [Option.bind_assoc, Option.bind_some]
theorem ops_store (t : TypeId) (x y : Operand) : ops C f os (⟨d, .store t x y, ty, ps, af, none⟩ :: r) e h = (evalA C e x).bind fun x => (evalA C e y).bind fun y => (storeA C h t x y).bind fun h => ops C f os r (e.putAt d (.tup [])) h := by
  rw [ops_plain rfl rfl]
  simp only [opA, Option.bind_eq_bind, Option.bind_assoc, Option.bind_some]
theorem ops_bin (b : BinOp) (t t' : TypeId) (x y : Operand) (hy : nilI y = false) : ops C f os (⟨d, .binOp b t x y t', ty, ps, af, none⟩ :: r) e h = (evalA C e x).bind fun x => (evalA C e y).bind fun y => (binA C h b t x y).bind fun v => ops C f os r (e.putAt d v) h := by
  rw [ops_plain rfl rfl]
  simp only [opA, hy, Bool.false_eq_true, if_false, Option.bind_eq_bind, Option.bind_assoc, Option.bind_some]
theorem ops_un (b : UnOp) (t : TypeId) (x : Operand) : ops C f os (⟨d, .unOp b t x, ty, ps, af, none⟩ :: r) e h = (evalA C e x).bind fun x => (unA b x).bind fun v => ops C f os r (e.putAt d v) h := by
  rw [ops_plain rfl rfl]
  simp only [opA, Option.bind_eq_bind, Option.bind_assoc, Option.bind_some]
theorem ops_conv (a b : Nat) (x : Operand) : ops C f os (⟨d, .convert a b x, ty, ps, af, none⟩ :: r) e h = (evalA C e x).bind fun v => (convH C h a b v).bind fun z => ops C f os r (e.putAt d z) h := by
  rw [ops_plain rfl rfl]
  simp only [opA, Option.bind_eq_bind, Option.bind_assoc, Option.bind_some]
theorem ops_fieldAddr (t : TypeId) (x : Operand) (k : Nat) : ops C f os (⟨d, .fieldAddr t x k, ty, ps, af, none⟩ :: r) e h = (evalA C e x).bind fun x => (fieldAddrA C h t x k).bind fun v => ops C f os r (e.putAt d v) h := by
  rw [ops_plain rfl rfl]
  simp only [opA, Option.bind_eq_bind, Option.bind_assoc, Option.bind_some]
theorem ops_field (t : TypeId) (x : Operand) (k : Nat) : ops C f os (⟨d, .field t x k, ty, ps, af, none⟩ :: r) e h = (evalA C e x).bind fun x => (fieldA C t x k).bind fun v => ops C f os r (e.putAt d v) h := by
  rw [ops_plain rfl rfl]
  simp only [opA, Option.bind_eq_bind, Option.bind_assoc, Option.bind_some]
theorem ops_indexAddr (t : TypeId) (x y : Operand) : ops C f os (⟨d, .indexAddr t x y, ty, ps, af, none⟩ :: r) e h = (evalA C e x).bind fun x => (evalA C e y).bind fun y => (indexAddrA C h t x y).bind fun v => ops C f os r (e.putAt d v) h := by
  rw [ops_plain rfl rfl]
  simp only [opA, Option.bind_eq_bind, Option.bind_assoc, Option.bind_some]
theorem ops_index (t : TypeId) (x y : Operand) : ops C f os (⟨d, .index t x y, ty, ps, af, none⟩ :: r) e h = (evalA C e x).bind fun x => (evalA C e y).bind fun y => (indexA C t x y).bind fun v => ops C f os r (e.putAt d v) h := by
  rw [ops_plain rfl rfl]
  simp only [opA, Option.bind_eq_bind, Option.bind_assoc, Option.bind_some]
theorem ops_alloc (t : TypeId) : ops C f os (⟨d, .alloc t, ty, ps, af, none⟩ :: r) e h = (C.ty t).bind fun ti => if ti.zero.length == ti.size then ops C f os r (e.putAt d (.ptr h.length 0 0)) (h ++ [.cells ti.zero 0]) else none := by
  rw [ops_plain rfl rfl]
  simp only [opA, Option.bind_eq_bind, Option.bind_assoc, Option.bind_some]
  cases C.ty t <;> simp only [Option.bind_none, Option.bind_some]
  split <;> rfl
theorem ops_box (t : TypeId) (x : Operand) : ops C f os (⟨d, .box t x, ty, ps, af, none⟩ :: r) e h = (C.ty t).bind fun ti => (evalA C e x).bind fun v => if v.cells.length == ti.size then (if (d.map (C.imm f)).getD false then ops C f os r (e.putAt d (.ref v.cells)) h else ops C f os r (e.putAt d (.ptr h.length 0 0)) (h ++ [.cells v.cells 0])) else none := by
  rw [ops_plain rfl rfl]
  simp only [opA, Option.bind_eq_bind, Option.bind_assoc, Option.bind_some]
  cases C.ty t <;> simp only [Option.bind_none, Option.bind_some]
  cases evalA C e x <;> simp only [Option.bind_none, Option.bind_some]
  split
  · split <;> rfl
  · rfl
theorem ops_pick (c x y : Operand) : ops C f os (⟨d, .pick c x y, ty, ps, af, none⟩ :: r) e h = (evalA C e c).bind fun c => (pickA c (evalA C e x) (evalA C e y)).bind fun v => ops C f os r (e.putAt d v) h := by
  rw [ops_plain rfl rfl]
  simp only [opA, Option.bind_eq_bind, Option.bind_assoc, Option.bind_some]
  cases evalA C e c <;> simp only [Option.bind_none, Option.bind_some]
  rename_i v
  unfold pickA
  split <;> simp only [Option.bind_none, Option.bind_some, Option.bind_assoc]
theorem ops_build (t : TypeId) (qs : Array (Nat × Operand)) : ops C f os (⟨d, .build t qs, ty, ps, af, none⟩ :: r) e h = (partsA C e qs.toList).bind fun ps => (buildA C t ps).bind fun v => ops C f os r (e.putAt d v) h := by
  rw [ops_plain rfl rfl]
  simp only [opA, parts_eq, Option.bind_eq_bind, Option.bind_assoc, Option.bind_some]
theorem ops_buildSlice (t n : TypeId) (qs : Array (Nat × Operand)) : ops C f os (⟨d, .buildSlice t n qs, ty, ps, af, none⟩ :: r) e h = (partsA C e qs.toList).bind fun ps => (C.ty t).bind fun ti => match ti.td with
    | .slice el => (C.ty el).bind fun ti => if ti.zero.length != ti.size || decide (n * ti.size > 16777216) then none else
      (fillA (fun i => some (i * ti.size, ti.size)) (copies n ti.zero) ps).bind fun cs => if (d.map (C.imm f)).getD false then ops C f os r (e.putAt d (.lst (group n cs ti.size) ti.size (.exact n))) h else ops C f os r (e.putAt d (.msl h.length 0 n ti.size 0 (some n))) (h ++ [.cells cs 0])
    | _ => none := by
  rw [ops_plain rfl rfl]
  simp only [opA, parts_eq, Option.bind_eq_bind, Option.bind_assoc, Option.bind_some]
  cases partsA C e qs.toList <;> simp only [Option.bind_none, Option.bind_some]
  cases C.ty t <;> simp only [Option.bind_none, Option.bind_some]
  rename_i ti
  cases ti.td <;> simp only [Option.bind_none, Option.bind_some]
  rename_i el
  cases C.ty el <;> simp only [Option.bind_none, Option.bind_some]
  split
  · rfl
  · simp only [Option.bind_assoc]
    congr 1
    funext cs
    split <;> rfl
theorem ops_len (x : Operand) (t : TypeId) : ops C f os (⟨d, .call { callee := .builtin .len, args := #[x], argTypes := #[t] }, ty, ps, af, none⟩ :: r) e h = (evalA C e x).bind fun x => (C.ty t).bind fun ti => (lenA h ti.td x).bind fun n => ops C f os r (e.putAt d (.int .i64 n)) h := by
  rw [ops_plain rfl rfl]
  simp [opA, mapO, Option.bind_eq_bind, Option.bind_assoc, Option.bind_some]
theorem ops_slice (t : TypeId) (x : Operand) (lo hi : Option Operand) : ops C f os (⟨d, .slice t x lo hi none, ty, ps, af, none⟩ :: r) e h = (optA C e lo).bind fun lo => (optA C e hi).bind fun hi => (evalA C e x).bind fun x => (sliceA C h t x lo hi none).bind fun v => ops C f os r (e.putAt d v) h := by
  rw [ops_plain rfl rfl]
  simp [opA, Option.bind_eq_bind, Option.bind_assoc, Option.bind_some]
theorem ops_callf (g : Nat) (args : Array Operand) (ct : Array TypeId) : ops C f os (⟨d, .call { callee := .value (.func g), args := args, argTypes := ct }, ty, ps, af, none⟩ :: r) e h = (mapO (evalA C e) args.toList).bind fun vs => if (d.map (C.quiet f)).getD false && !C.pure g then none else (call C g vs h).bind fun x => match x.1 with
    | .ret v => ops C f os r (e.putAt d v) x.2
    | .pan v => some (.pan v, e, x.2) := by
  rw [ops_cons']
  simp only [wantA, callee, Option.bind_some, evalA, callv_clo, pureV, List.append_nil]
  rfl
theorem ops_guard (o : Op) (g : Nat × Bool) : ops C f os (⟨d, o, ty, ps, af, some g⟩ :: r) e h = (wantA os e ⟨d, o, ty, ps, af, some g⟩).bind fun w => match w with
    | false => ops C f os r (e.putAt d (.tup [])) h
    | true => ops C f os (⟨d, o, ty, ps, af, none⟩ :: r) e h := by
  rw [ops_cons']
  congr 1
  funext w
  cases w
  · rfl
  · simp only
    rw [ops_cons']
    rfl
def guardK {α : Type} (v : AV) (w : Bool) (x y : Option α) : Option α := match v with
  | .bool b => if b == w then x else y
  | .tup [] => y
  | _ => none
theorem guardK_left {α : Type} {a b : AV} (h : a = b) (w : Bool) (x y : Option α) : guardK a w x y = guardK b w x y := by rw [h]
theorem guardK_bool {α : Type} (b w : Bool) (x y : Option α) : guardK (.bool b) w x y = if b == w then x else y := rfl
theorem guardK_tt {α : Type} (x y : Option α) : guardK (.bool true) true x y = x := rfl
theorem guardK_tf {α : Type} (x y : Option α) : guardK (.bool true) false x y = y := rfl
theorem guardK_ft {α : Type} (x y : Option α) : guardK (.bool false) true x y = y := rfl
theorem guardK_ff {α : Type} (x y : Option α) : guardK (.bool false) false x y = x := rfl
theorem guardK_tup {α : Type} (w : Bool) (x y : Option α) : guardK (.tup []) w x y = y := rfl
/-- A guarded operation, where it is known which slot its guard is in. -/
theorem ops_guardT {j t : Nat} (g : (os[j]?).bind (·.dst) = some t) (o : Op) (w : Bool) : ops C f os (⟨d, o, ty, ps, af, some (j, w)⟩ :: r) e h = guardK (e.get t) w (ops C f os (⟨d, o, ty, ps, af, none⟩ :: r) e h) (ops C f os r (e.putAt d (.tup [])) h) := by
  rw [ops_guard]
  simp only [wantA, g, Option.map_some]
  generalize e.get t = v
  unfold guardK
  cases v <;> try rfl
  · rename_i b
    simp only [Option.bind_some]
    cases b <;> cases w <;> rfl
  · rename_i vs
    cases vs <;> rfl
theorem ops_guardTT {j t : Nat} (g : (os[j]?).bind (·.dst) = some t) (hv : e.get t = .bool true) (o : Op) : ops C f os (⟨d, o, ty, ps, af, some (j, true)⟩ :: r) e h = ops C f os (⟨d, o, ty, ps, af, none⟩ :: r) e h := by
  rw [ops_guardT g, hv]; rfl
theorem ops_guardFF {j t : Nat} (g : (os[j]?).bind (·.dst) = some t) (hv : e.get t = .bool false) (o : Op) : ops C f os (⟨d, o, ty, ps, af, some (j, false)⟩ :: r) e h = ops C f os (⟨d, o, ty, ps, af, none⟩ :: r) e h := by
  rw [ops_guardT g, hv]; rfl
theorem ops_guardTF {j t : Nat} (g : (os[j]?).bind (·.dst) = some t) (hv : e.get t = .bool false) (o : Op) : ops C f os (⟨d, o, ty, ps, af, some (j, true)⟩ :: r) e h = ops C f os r (e.putAt d (.tup [])) h := by
  rw [ops_guardT g, hv]; rfl
theorem ops_guardFT {j t : Nat} (g : (os[j]?).bind (·.dst) = some t) (hv : e.get t = .bool true) (o : Op) : ops C f os (⟨d, o, ty, ps, af, some (j, false)⟩ :: r) e h = ops C f os r (e.putAt d (.tup [])) h := by
  rw [ops_guardT g, hv]; rfl
theorem sched_text (os : Array Oper) : sched os false = os.toList := rfl
end
end Go.Rv
