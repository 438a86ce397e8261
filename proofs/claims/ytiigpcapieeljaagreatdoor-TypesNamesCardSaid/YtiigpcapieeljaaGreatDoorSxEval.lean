/-
  The operations' rules, each where nothing is loose.
-/
import Derived.Test.YtiigpcapieeljaaGreatDoorRvEval
set_option linter.unusedSimpArgs false
set_option linter.unusedSectionVars false
set_option linter.unusedVariables false
namespace Go.Rv

/-- Nothing is loose here. -/
class TightD (C : Cfg) (f : Nat) (d : Option Nat) : Prop where
  none : ∀ t, d = some t → C.loose f t = []
class NoAlone (C : Cfg) : Prop where
  alone : ∀ f, C.alone f = false

theorem looseAll_tightD {C : Cfg} {f : Nat} {d : Option Nat} [T : TightD C f d] (os : Array Oper) (e : Env) (h : Heap) : looseAll C f os d e h = true := by
  cases hd : d with
  | none => rfl
  | some t => simp only [looseAll, T.none t hd, List.all_nil]

theorem sx_cons {C : Cfg} {f : Nat} {e : Env} {h : Heap} (os : Array Oper) (o : Oper) [TightD C f (dkey o)] (r : List Oper) : ops C f os (o :: r) e h = (wantA os e o).bind fun w => match w with
    | false => ops C f os r (e.putAt o.dst (.tup [])) h
    | true => match callee o with
      | none => match panO C e o with
        | some v => some (.pan v, e, h)
        | none => (opA C f e h o).bind fun x => ops C f os r (e.putAt o.dst x.1) x.2
      | some ga => (mapO (evalA C e) ga.2.toList).bind fun vs => (evalA C e ga.1).bind fun gv =>
        if (o.dst.map (C.quiet f)).getD false && !pureV C gv then none else (callv C gv vs h).bind fun x => match x.1 with
          | .ret v => ops C f os r (e.putAt o.dst v) x.2
          | .pan v => some (.pan v, e, x.2) := by
  rw [ops_cons]
  simp only [looseAll_tightD, if_true]
  rfl

theorem call_at {C : Cfg} {f : Nat} {h : Heap} (args : List AV) (fi : FI) (hp : C.prim f = none) (hf : C.fn f = some fi) (hl : (args.length != fi.params) = false) [T : NoAlone C] :
    call C f args h = (exec C f fi.body (args.zipIdx.map fun (v, i) => (i, v)) h).bind fun x => match x.1 with
      | .nrm | .ret => (resultsA C x.2.2 x.2.1 fi.results).bind fun vs => leaveA C f h (packA vs) x.2.2
      | .pan v => some (.pan v, x.2.2)
      | .exit _ => none := by
  apply ext_some
  intro r
  rw [call_succ]
  simp only [callF, hp, hf, Option.bind_eq_bind, Option.bind_some, hl, Bool.false_eq_true, if_false, T.alone]
  constructor
  · rintro ⟨k, hk⟩
    obtain ⟨⟨out, e1, h1⟩, hx, hr⟩ := Option.bind_eq_some_iff.1 hk
    exact Option.bind_eq_some_iff.2 ⟨_, (exec_iff C).2 ⟨k, hx⟩, by cases out <;> exact hr⟩
  · intro hk
    obtain ⟨⟨out, e1, h1⟩, hx, hr⟩ := Option.bind_eq_some_iff.1 hk
    obtain ⟨k, hk⟩ := (exec_iff C).1 hx
    exact ⟨k, Option.bind_eq_some_iff.2 ⟨_, hk, by cases out <;> exact hr⟩⟩

section
variable {C : Cfg} {f : Nat} {os : Array Oper} {d : Option Nat} [TightD C f d] {ty : TypeId} {ps : String} {af : Array Edge} {r : List Oper} {e : Env} {h : Heap}
theorem sx_plain {o : Oper} [TightD C f (dkey o)] (hw : o.guard = none) (hc : callee o = none) (hp : panO C e o = none := by rfl) : ops C f os (o :: r) e h = (opA C f e h o).bind fun x => ops C f os r (e.putAt o.dst x.1) x.2 := by
  rw [sx_cons]
  have : wantA os e o = some true := by unfold wantA; rw [hw]
  rw [this, hc, Option.bind_some]
  simp only [hp]
theorem sx_move (x : Operand) : ops C f os (⟨d, .move x, ty, ps, af, none⟩ :: r) e h = (evalA C e x).bind fun v => ops C f os r (e.putAt d v) h := by
  rw [sx_plain rfl rfl]
  simp only [opA, Option.bind_eq_bind, Option.bind_assoc, Option.bind_some]
theorem sx_assign (x : Operand) : ops C f os (⟨d, .assign x, ty, ps, af, none⟩ :: r) e h = (evalA C e x).bind fun v => ops C f os r (e.putAt d v) h := by
  rw [sx_plain rfl rfl]
  simp only [opA, Option.bind_eq_bind, Option.bind_assoc, Option.bind_some]
theorem sx_load (t : TypeId) (x : Operand) : ops C f os (⟨d, .load t x, ty, ps, af, none⟩ :: r) e h = (evalA C e x).bind fun x => if (d.map (C.quiet f)).getD false && !x.isRef then none else (loadA C h t x).bind fun v => ops C f os r (e.putAt d v) h := by
  rw [sx_plain rfl rfl]
  simp only [opA, Option.bind_eq_bind, Option.bind_assoc, Option.bind_some]
  cases evalA C e x <;> simp only [Option.bind_none, Option.bind_some]
  split
  · rfl
  · simp only [Option.bind_assoc, Option.bind_some]
omit [TightD C f d] in
theorem sx_store (t : TypeId) (x y : Operand) [TightD C f (dkeyO d (.store t x y))] : ops C f os (⟨d, .store t x y, ty, ps, af, none⟩ :: r) e h = (evalA C e x).bind fun x => (evalA C e y).bind fun y => (storeA C h t x y).bind fun h => ops C f os r (e.putAt d (.tup [])) h := by
  rw [sx_plain rfl rfl]
  simp only [opA, Option.bind_eq_bind, Option.bind_assoc, Option.bind_some]
theorem sx_bin (b : BinOp) (t t' : TypeId) (x y : Operand) (hy : nilI y = false) : ops C f os (⟨d, .binOp b t x y t', ty, ps, af, none⟩ :: r) e h = (evalA C e x).bind fun x => (evalA C e y).bind fun y => (binA C h b t x y).bind fun v => ops C f os r (e.putAt d v) h := by
  rw [sx_plain rfl rfl]
  simp only [opA, hy, Bool.false_eq_true, if_false, Option.bind_eq_bind, Option.bind_assoc, Option.bind_some]
theorem sx_bin_t (b : BinOp) (t t' : TypeId) (x : Operand) (q : Nat) : ops C f os (⟨d, .binOp b t x (.tmp q) t', ty, ps, af, none⟩ :: r) e h = (evalA C e x).bind fun x => (evalA C e (.tmp q)).bind fun y => (binA C h b t x y).bind fun v => ops C f os r (e.putAt d v) h := sx_bin b t t' x _ rfl
theorem sx_bin_i (b : BinOp) (t t' : TypeId) (x : Operand) (q1 : IntKind) (q2 : Int) : ops C f os (⟨d, .binOp b t x (.const (.int q1 q2)) t', ty, ps, af, none⟩ :: r) e h = (evalA C e x).bind fun x => (evalA C e (.const (.int q1 q2))).bind fun y => (binA C h b t x y).bind fun v => ops C f os r (e.putAt d v) h := sx_bin b t t' x _ rfl
theorem sx_bin_b (b : BinOp) (t t' : TypeId) (x : Operand) (q : Bool) : ops C f os (⟨d, .binOp b t x (.const (.bool q)) t', ty, ps, af, none⟩ :: r) e h = (evalA C e x).bind fun x => (evalA C e (.const (.bool q))).bind fun y => (binA C h b t x y).bind fun v => ops C f os r (e.putAt d v) h := sx_bin b t t' x _ rfl
theorem sx_bin_s (b : BinOp) (t t' : TypeId) (x : Operand) (q : ByteArray) : ops C f os (⟨d, .binOp b t x (.const (.string q)) t', ty, ps, af, none⟩ :: r) e h = (evalA C e x).bind fun x => (evalA C e (.const (.string q))).bind fun y => (binA C h b t x y).bind fun v => ops C f os r (e.putAt d v) h := sx_bin b t t' x _ rfl
theorem sx_bin_l (b : BinOp) (t t' : TypeId) (x : Operand) (q1 : Option Addr) (q2 q3 : Nat) : ops C f os (⟨d, .binOp b t x (.const (.slice q1 q2 q3)) t', ty, ps, af, none⟩ :: r) e h = (evalA C e x).bind fun x => (evalA C e (.const (.slice q1 q2 q3))).bind fun y => (binA C h b t x y).bind fun v => ops C f os r (e.putAt d v) h := sx_bin b t t' x _ rfl
theorem sx_bin_p (b : BinOp) (t t' : TypeId) (x : Operand) (q : Option Addr) : ops C f os (⟨d, .binOp b t x (.const (.pointer q)) t', ty, ps, af, none⟩ :: r) e h = (evalA C e x).bind fun x => (evalA C e (.const (.pointer q))).bind fun y => (binA C h b t x y).bind fun v => ops C f os r (e.putAt d v) h := sx_bin b t t' x _ rfl
theorem sx_bin_m (b : BinOp) (t t' : TypeId) (x : Operand) (q : Option Nat) : ops C f os (⟨d, .binOp b t x (.const (.map q)) t', ty, ps, af, none⟩ :: r) e h = (evalA C e x).bind fun x => (evalA C e (.const (.map q))).bind fun y => (binA C h b t x y).bind fun v => ops C f os r (e.putAt d v) h := sx_bin b t t' x _ rfl
theorem sx_bin_f (b : BinOp) (t t' : TypeId) (x : Operand)  : ops C f os (⟨d, .binOp b t x (.const .nilFunc) t', ty, ps, af, none⟩ :: r) e h = (evalA C e x).bind fun x => (evalA C e (.const .nilFunc)).bind fun y => (binA C h b t x y).bind fun v => ops C f os r (e.putAt d v) h := sx_bin b t t' x _ rfl
theorem sx_un (b : UnOp) (t : TypeId) (x : Operand) : ops C f os (⟨d, .unOp b t x, ty, ps, af, none⟩ :: r) e h = (evalA C e x).bind fun x => (unA b x).bind fun v => ops C f os r (e.putAt d v) h := by
  rw [sx_plain rfl rfl]
  simp only [opA, Option.bind_eq_bind, Option.bind_assoc, Option.bind_some]
theorem sx_conv (a b : Nat) (x : Operand) : ops C f os (⟨d, .convert a b x, ty, ps, af, none⟩ :: r) e h = (evalA C e x).bind fun v => (convH C h a b v).bind fun z => ops C f os r (e.putAt d z) h := by
  rw [sx_plain rfl rfl]
  simp only [opA, Option.bind_eq_bind, Option.bind_assoc, Option.bind_some]
theorem sx_fieldAddr (t : TypeId) (x : Operand) (k : Nat) : ops C f os (⟨d, .fieldAddr t x k, ty, ps, af, none⟩ :: r) e h = (evalA C e x).bind fun x => (fieldAddrA C h t x k).bind fun v => ops C f os r (e.putAt d v) h := by
  rw [sx_plain rfl rfl]
  simp only [opA, Option.bind_eq_bind, Option.bind_assoc, Option.bind_some]
theorem sx_field (t : TypeId) (x : Operand) (k : Nat) : ops C f os (⟨d, .field t x k, ty, ps, af, none⟩ :: r) e h = (evalA C e x).bind fun x => (fieldA C t x k).bind fun v => ops C f os r (e.putAt d v) h := by
  rw [sx_plain rfl rfl]
  simp only [opA, Option.bind_eq_bind, Option.bind_assoc, Option.bind_some]
theorem sx_indexAddr (t : TypeId) (x y : Operand) : ops C f os (⟨d, .indexAddr t x y, ty, ps, af, none⟩ :: r) e h = (evalA C e x).bind fun x => (evalA C e y).bind fun y => (indexAddrA C h t x y).bind fun v => ops C f os r (e.putAt d v) h := by
  rw [sx_plain rfl rfl]
  simp only [opA, Option.bind_eq_bind, Option.bind_assoc, Option.bind_some]
theorem sx_index (t : TypeId) (x y : Operand) : ops C f os (⟨d, .index t x y, ty, ps, af, none⟩ :: r) e h = (evalA C e x).bind fun x => (evalA C e y).bind fun y => (indexA C t x y).bind fun v => ops C f os r (e.putAt d v) h := by
  rw [sx_plain rfl rfl]
  simp only [opA, Option.bind_eq_bind, Option.bind_assoc, Option.bind_some]
theorem sx_alloc (t : TypeId) : ops C f os (⟨d, .alloc t, ty, ps, af, none⟩ :: r) e h = (C.ty t).bind fun ti => if ti.zero.length == ti.size then ops C f os r (e.putAt d (.ptr h.length 0 0)) (h ++ [.cells ti.zero 0]) else none := by
  rw [sx_plain rfl rfl]
  simp only [opA, Option.bind_eq_bind, Option.bind_assoc, Option.bind_some]
  cases C.ty t <;> simp only [Option.bind_none, Option.bind_some]
  split <;> rfl
theorem sx_box (t : TypeId) (x : Operand) : ops C f os (⟨d, .box t x, ty, ps, af, none⟩ :: r) e h = (C.ty t).bind fun ti => (evalA C e x).bind fun v => if v.cells.length == ti.size then (if (d.map (C.imm f)).getD false then ops C f os r (e.putAt d (.ref v.cells)) h else ops C f os r (e.putAt d (.ptr h.length 0 0)) (h ++ [.cells v.cells 0])) else none := by
  rw [sx_plain rfl rfl]
  simp only [opA, Option.bind_eq_bind, Option.bind_assoc, Option.bind_some]
  cases C.ty t <;> simp only [Option.bind_none, Option.bind_some]
  cases evalA C e x <;> simp only [Option.bind_none, Option.bind_some]
  split
  · split <;> rfl
  · rfl
theorem sx_pick (c x y : Operand) : ops C f os (⟨d, .pick c x y, ty, ps, af, none⟩ :: r) e h = (evalA C e c).bind fun c => (pickA c (evalA C e x) (evalA C e y)).bind fun v => ops C f os r (e.putAt d v) h := by
  rw [sx_plain rfl rfl]
  simp only [opA, Option.bind_eq_bind, Option.bind_assoc, Option.bind_some]
  cases evalA C e c <;> simp only [Option.bind_none, Option.bind_some]
  rename_i v
  unfold pickA
  split <;> simp only [Option.bind_none, Option.bind_some, Option.bind_assoc]
theorem sx_build (t : TypeId) (qs : Array (Nat × Operand)) : ops C f os (⟨d, .build t qs, ty, ps, af, none⟩ :: r) e h = (partsA C e qs.toList).bind fun ps => (buildA C t ps).bind fun v => ops C f os r (e.putAt d v) h := by
  rw [sx_plain rfl rfl]
  simp only [opA, parts_eq, Option.bind_eq_bind, Option.bind_assoc, Option.bind_some]
theorem sx_buildSlice (t n : TypeId) (qs : Array (Nat × Operand)) : ops C f os (⟨d, .buildSlice t n qs, ty, ps, af, none⟩ :: r) e h = (partsA C e qs.toList).bind fun ps => (C.ty t).bind fun ti => match ti.td with
    | .slice el => (C.ty el).bind fun ti => if ti.zero.length != ti.size || decide (n * ti.size > 16777216) then none else
      (fillA (fun i => some (i * ti.size, ti.size)) (copies n ti.zero) ps).bind fun cs => if (d.map (C.imm f)).getD false then ops C f os r (e.putAt d (.lst (group n cs ti.size) ti.size (.exact n))) h else ops C f os r (e.putAt d (.msl h.length 0 n ti.size 0 (some n))) (h ++ [.cells cs 0])
    | _ => none := by
  rw [sx_plain rfl rfl]
  simp only [opA, parts_eq, Option.bind_eq_bind, Option.bind_assoc, Option.bind_some]
  cases partsA C e qs.toList <;> simp only [Option.bind_none, Option.bind_some]
  cases C.ty t <;> simp only [Option.bind_none, Option.bind_some]
  rename_i ti
  cases ti.td <;> simp only [Option.bind_none, Option.bind_some]
  rename_i el
  cases C.ty el <;> simp only [Option.bind_none, Option.bind_some]
  split
  · rfl
  · simp only [Option.bind_assoc]
    congr 1
    funext cs
    split <;> rfl
theorem sx_len (x : Operand) (t : TypeId) : ops C f os (⟨d, .call { callee := .builtin .len, args := #[x], argTypes := #[t] }, ty, ps, af, none⟩ :: r) e h = (evalA C e x).bind fun x => (C.ty t).bind fun ti => (lenA h ti.td x).bind fun n => ops C f os r (e.putAt d (.int .i64 n)) h := by
  rw [sx_plain rfl rfl]
  simp [opA, mapO, Option.bind_eq_bind, Option.bind_assoc, Option.bind_some]
theorem sx_slice (t : TypeId) (x : Operand) (lo hi : Option Operand) : ops C f os (⟨d, .slice t x lo hi none, ty, ps, af, none⟩ :: r) e h = (optA C e lo).bind fun lo => (optA C e hi).bind fun hi => (evalA C e x).bind fun x => (sliceA C h t x lo hi none).bind fun v => ops C f os r (e.putAt d v) h := by
  rw [sx_plain rfl rfl]
  simp [opA, Option.bind_eq_bind, Option.bind_assoc, Option.bind_some]
theorem sx_callf (g : Nat) (args : Array Operand) (ct : Array TypeId) : ops C f os (⟨d, .call { callee := .value (.func g), args := args, argTypes := ct }, ty, ps, af, none⟩ :: r) e h = (mapO (evalA C e) args.toList).bind fun vs => if (d.map (C.quiet f)).getD false && !C.pure g then none else (call C g vs h).bind fun x => match x.1 with
    | .ret v => ops C f os r (e.putAt d v) x.2
    | .pan v => some (.pan v, e, x.2) := by
  rw [sx_cons]
  simp only [wantA, callee, Option.bind_some, evalA, callv_clo, pureV, List.append_nil]
theorem sx_guard (o : Op) [TightD C f (dkeyO d o)] (g : Nat × Bool) : ops C f os (⟨d, o, ty, ps, af, some g⟩ :: r) e h = (wantA os e ⟨d, o, ty, ps, af, some g⟩).bind fun w => match w with
    | false => ops C f os r (e.putAt d (.tup [])) h
    | true => ops C f os (⟨d, o, ty, ps, af, none⟩ :: r) e h := by
  rw [sx_cons]
  cases wantA os e ⟨d, o, ty, ps, af, some g⟩ with
  | none => rfl
  | some w =>
    cases w
    · rfl
    · simp only [Option.bind_some]
      rw [sx_cons]
      rfl
/-- A guarded operation, where it is known which slot its guard is in. -/
theorem sx_guardT {j t : Nat} (g : (os[j]?).bind (·.dst) = some t) (o : Op) [TightD C f (dkeyO d o)] (w : Bool) : ops C f os (⟨d, o, ty, ps, af, some (j, w)⟩ :: r) e h = guardK (e.get t) w (ops C f os (⟨d, o, ty, ps, af, none⟩ :: r) e h) (ops C f os r (e.putAt d (.tup [])) h) := by
  rw [sx_guard]
  simp only [wantA, g, Option.map_some]
  generalize e.get t = v
  unfold guardK
  cases v <;> try rfl
  · rename_i b
    simp only [Option.bind_some]
    cases b <;> cases w <;> rfl
  · rename_i vs
    cases vs <;> rfl
theorem sx_guardTT {j t : Nat} (g : (os[j]?).bind (·.dst) = some t) (hv : e.get t = .bool true) (o : Op) [TightD C f (dkeyO d o)] : ops C f os (⟨d, o, ty, ps, af, some (j, true)⟩ :: r) e h = ops C f os (⟨d, o, ty, ps, af, none⟩ :: r) e h := by
  rw [sx_guardT g, hv]; rfl
theorem sx_guardFF {j t : Nat} (g : (os[j]?).bind (·.dst) = some t) (hv : e.get t = .bool false) (o : Op) [TightD C f (dkeyO d o)] : ops C f os (⟨d, o, ty, ps, af, some (j, false)⟩ :: r) e h = ops C f os (⟨d, o, ty, ps, af, none⟩ :: r) e h := by
  rw [sx_guardT g, hv]; rfl
theorem sx_guardTF {j t : Nat} (g : (os[j]?).bind (·.dst) = some t) (hv : e.get t = .bool false) (o : Op) [TightD C f (dkeyO d o)] : ops C f os (⟨d, o, ty, ps, af, some (j, true)⟩ :: r) e h = ops C f os r (e.putAt d (.tup [])) h := by
  rw [sx_guardT g, hv]; rfl
theorem sx_guardFT {j t : Nat} (g : (os[j]?).bind (·.dst) = some t) (hv : e.get t = .bool true) (o : Op) [TightD C f (dkeyO d o)] : ops C f os (⟨d, o, ty, ps, af, some (j, false)⟩ :: r) e h = ops C f os r (e.putAt d (.tup [])) h := by
  rw [sx_guardT g, hv]; rfl

noncomputable def guardO (C : Cfg) (f : Nat) (os : Array Oper) (o : Oper) (r : List Oper) (v : AV) (w : Bool) (e : Env) (h : Heap) : Option (Out × Env × Heap) := guardK v w (ops C f os (o :: r) e h) (ops C f os r (e.putAt o.dst (.tup [])) h)
theorem sx_guardO {j t : Nat} (g : (os[j]?).bind (·.dst) = some t) (o : Op) [TightD C f (dkeyO d o)] (w : Bool) : ops C f os (⟨d, o, ty, ps, af, some (j, w)⟩ :: r) e h = guardO C f os ⟨d, o, ty, ps, af, none⟩ r (e.get t) w e h := sx_guardT g o w
omit [TightD C f d] in
theorem go_tt (o : Op) : guardO C f os ⟨d, o, ty, ps, af, none⟩ r (.bool true) true e h = ops C f os (⟨d, o, ty, ps, af, none⟩ :: r) e h := rfl
omit [TightD C f d] in
theorem go_ff (o : Op) : guardO C f os ⟨d, o, ty, ps, af, none⟩ r (.bool false) false e h = ops C f os (⟨d, o, ty, ps, af, none⟩ :: r) e h := rfl
omit [TightD C f d] in
theorem go_tf (o : Op) : guardO C f os ⟨d, o, ty, ps, af, none⟩ r (.bool true) false e h = ops C f os r (e.putAt d (.tup [])) h := rfl
omit [TightD C f d] in
theorem go_ft (o : Op) : guardO C f os ⟨d, o, ty, ps, af, none⟩ r (.bool false) true e h = ops C f os r (e.putAt d (.tup [])) h := rfl
omit [TightD C f d] in
theorem go_tup (o : Op) (w : Bool) : guardO C f os ⟨d, o, ty, ps, af, none⟩ r (.tup []) w e h = ops C f os r (e.putAt d (.tup [])) h := rfl
omit [TightD C f d] in
theorem go_dt (o : Op) (P : Prop) [Decidable P] : guardO C f os ⟨d, o, ty, ps, af, none⟩ r (.bool (decide P)) true e h = if P then ops C f os (⟨d, o, ty, ps, af, none⟩ :: r) e h else ops C f os r (e.putAt d (.tup [])) h := by
  by_cases hp : P <;> simp [hp, guardO, guardK]
omit [TightD C f d] in
theorem go_df (o : Op) (P : Prop) [Decidable P] : guardO C f os ⟨d, o, ty, ps, af, none⟩ r (.bool (decide P)) false e h = if P then ops C f os r (e.putAt d (.tup [])) h else ops C f os (⟨d, o, ty, ps, af, none⟩ :: r) e h := by
  by_cases hp : P <;> simp [hp, guardO, guardK]
theorem sx_makeFunc (g : Nat) (caps : Array Operand) : ops C f os (⟨d, .makeFunc (.func g) #[] caps, ty, ps, af, none⟩ :: r) e h = (mapO (evalA C e) caps.toList).bind fun cs => ops C f os r (e.putAt d (.clo g cs)) h := by
  rw [sx_plain rfl rfl]
  simp [opA, Option.bind_eq_bind, Option.bind_assoc, Option.bind_some]
theorem sx_makeSlice (t : TypeId) (x y : Operand) : ops C f os (⟨d, .makeSlice t x y, ty, ps, af, none⟩ :: r) e h = (evalA C e x).bind fun x => (evalA C e y).bind fun y => (makeSliceA C h t x y).bind fun v => ops C f os r (e.putAt d v.1) v.2 := by
  rw [sx_plain rfl rfl]
  simp only [opA, Option.bind_eq_bind, Option.bind_assoc, Option.bind_some]
theorem sx_makeMap (t : TypeId) : ops C f os (⟨d, .makeMap t none, ty, ps, af, none⟩ :: r) e h = (C.ty t).bind fun _ => ops C f os r (e.putAt d (.map h.length)) (h ++ [.map []]) := by
  rw [sx_plain rfl rfl]
  simp only [opA, Option.bind_eq_bind, Option.bind_assoc, Option.bind_some]
theorem sx_lookup (t : TypeId) (x y : Operand) (ok : Bool) : ops C f os (⟨d, .lookup t x y ok, ty, ps, af, none⟩ :: r) e h = (evalA C e x).bind fun x => (evalA C e y).bind fun y => (lookupA C h t x y ok).bind fun v => ops C f os r (e.putAt d v) h := by
  rw [sx_plain rfl rfl]
  simp only [opA, Option.bind_eq_bind, Option.bind_assoc, Option.bind_some]
omit [TightD C f d] in
theorem sx_mapUpdate (t : TypeId) (x y z : Operand) [TightD C f (dkeyO d (.mapUpdate t x y z))] : ops C f os (⟨d, .mapUpdate t x y z, ty, ps, af, none⟩ :: r) e h = (evalA C e x).bind fun x => (evalA C e y).bind fun y => (evalA C e z).bind fun z => (updateA C h t x y z).bind fun h => ops C f os r (e.putAt d (.tup [])) h := by
  rw [sx_plain rfl rfl]
  simp only [opA, Option.bind_eq_bind, Option.bind_assoc, Option.bind_some]
theorem sx_insert (t : TypeId) (x y z : Operand) : ops C f os (⟨d, .insert t x y z, ty, ps, af, none⟩ :: r) e h = (evalA C e x).bind fun x => (evalA C e y).bind fun y => (evalA C e z).bind fun z => (updateA C h t x y z).bind fun h => ops C f os r (e.putAt d (.tup [])) h := by
  rw [sx_plain rfl rfl]
  simp only [opA, Option.bind_eq_bind, Option.bind_assoc, Option.bind_some]
theorem sx_nilCheck (x : Operand) : ops C f os (⟨d, .nilCheck x, ty, ps, af, none⟩ :: r) e h = (evalA C e x).bind fun x => match x with
    | .ptr o off g => if h.live o g then ops C f os r (e.putAt d (.ptr o off g)) h else none
    | .ref cs => ops C f os r (e.putAt d (.ref cs)) h
    | .clo g cs => ops C f os r (e.putAt d (.clo g cs)) h
    | .bnd g cs => ops C f os r (e.putAt d (.bnd g cs)) h
    | .yld l => ops C f os r (e.putAt d (.yld l)) h
    | _ => none := by
  rw [sx_plain rfl rfl]
  simp only [opA, Option.bind_eq_bind, Option.bind_assoc, Option.bind_some]
  congr 1
  funext v
  cases v <;> simp only [Option.bind_some, Option.bind_none]
  split <;> rfl
theorem sx_iface (t : TypeId) (x : Operand) : ops C f os (⟨d, .makeInterface t x, ty, ps, af, none⟩ :: r) e h = (C.ty t).bind fun ti => match ti.td with
    | .iface => none
    | _ => (evalA C e x).bind fun v => ops C f os r (e.putAt d (.iface t v)) h := by
  rw [sx_plain rfl rfl]
  simp only [opA, Option.bind_eq_bind, Option.bind_assoc, Option.bind_some]
  congr 1
  funext v
  cases v.td <;> simp only [Option.bind_some, Option.bind_none, Option.bind_assoc]
theorem sx_extract (x : Operand) (i : Nat) : ops C f os (⟨d, .extract x i, ty, ps, af, none⟩ :: r) e h = (evalA C e x).bind fun v => match v with
    | .tup vs => (vs[i]?).bind fun v => ops C f os r (e.putAt d v) h
    | _ => none := by
  rw [sx_plain rfl rfl]
  simp only [opA, Option.bind_eq_bind, Option.bind_assoc, Option.bind_some]
  congr 1
  funext v
  cases v <;> simp only [Option.bind_some, Option.bind_none, Option.bind_assoc]
theorem sx_append (x y : Operand) (t : TypeId) : ops C f os (⟨d, .call { callee := .builtin .append, args := #[x, y], argTypes := #[t, t] }, ty, ps, af, none⟩ :: r) e h = (evalA C e x).bind fun x => (evalA C e y).bind fun y => (C.ty t).bind fun ti => match ti.td with
    | .slice el => (C.ty el).bind fun te => (elems h y).bind fun ys => (appendA h te.size x ys).bind fun v => ops C f os r (e.putAt d v.1) v.2
    | _ => none := by
  rw [sx_plain rfl rfl]
  simp only [opA, mapO, Option.bind_eq_bind, Option.bind_assoc, Option.bind_some, bne_self_eq_false, Bool.false_eq_true, if_false]
  congr 1
  funext x
  congr 1
  funext y
  congr 1
  funext ti
  cases ti.td <;> simp only [Option.bind_some, Option.bind_none, Option.bind_assoc]
theorem sx_cap (x : Operand) (t : TypeId) : ops C f os (⟨d, .call { callee := .builtin .cap, args := #[x], argTypes := #[t] }, ty, ps, af, none⟩ :: r) e h = (evalA C e x).bind fun x => (moreA C h .cap [t] [x]).bind fun v => ops C f os r (e.putAt d v.1) v.2 := by
  rw [sx_plain rfl rfl]
  simp [opA, mapO, Option.bind_eq_bind, Option.bind_assoc, Option.bind_some]
theorem sx_clear (x : Operand) (t : TypeId) : ops C f os (⟨d, .call { callee := .builtin .clear, args := #[x], argTypes := #[t] }, ty, ps, af, none⟩ :: r) e h = (evalA C e x).bind fun x => (moreA C h .clear [t] [x]).bind fun v => ops C f os r (e.putAt d v.1) v.2 := by
  rw [sx_plain rfl rfl]
  simp [opA, mapO, Option.bind_eq_bind, Option.bind_assoc, Option.bind_some]
theorem sx_copy (x y : Operand) (t u : TypeId) : ops C f os (⟨d, .call { callee := .builtin .copy, args := #[x, y], argTypes := #[t, u] }, ty, ps, af, none⟩ :: r) e h = (evalA C e x).bind fun x => (evalA C e y).bind fun y => (moreA C h .copy [t, u] [x, y]).bind fun v => ops C f os r (e.putAt d v.1) v.2 := by
  rw [sx_plain rfl rfl]
  simp [opA, mapO, Option.bind_eq_bind, Option.bind_assoc, Option.bind_some]
theorem sx_delete (x y : Operand) (t u : TypeId) : ops C f os (⟨d, .call { callee := .builtin .delete, args := #[x, y], argTypes := #[t, u] }, ty, ps, af, none⟩ :: r) e h = (evalA C e x).bind fun x => (evalA C e y).bind fun y => (moreA C h .delete [t, u] [x, y]).bind fun v => ops C f os r (e.putAt d v.1) v.2 := by
  rw [sx_plain rfl rfl]
  simp [opA, mapO, Option.bind_eq_bind, Option.bind_assoc, Option.bind_some]
theorem sx_max (x y : Operand) (t u : TypeId) : ops C f os (⟨d, .call { callee := .builtin .max, args := #[x, y], argTypes := #[t, u] }, ty, ps, af, none⟩ :: r) e h = (evalA C e x).bind fun x => (evalA C e y).bind fun y => (moreA C h .max [t, u] [x, y]).bind fun v => ops C f os r (e.putAt d v.1) v.2 := by
  rw [sx_plain rfl rfl]
  simp [opA, mapO, Option.bind_eq_bind, Option.bind_assoc, Option.bind_some]
theorem sx_min (x y : Operand) (t u : TypeId) : ops C f os (⟨d, .call { callee := .builtin .min, args := #[x, y], argTypes := #[t, u] }, ty, ps, af, none⟩ :: r) e h = (evalA C e x).bind fun x => (evalA C e y).bind fun y => (moreA C h .min [t, u] [x, y]).bind fun v => ops C f os r (e.putAt d v.1) v.2 := by
  rw [sx_plain rfl rfl]
  simp [opA, mapO, Option.bind_eq_bind, Option.bind_assoc, Option.bind_some]
/-- A call of a value. -/
theorem sx_callt (g : Nat) (args : Array Operand) (ct : Array TypeId) : ops C f os (⟨d, .call { callee := .value (.tmp g), args := args, argTypes := ct }, ty, ps, af, none⟩ :: r) e h = (mapO (evalA C e) args.toList).bind fun vs => (known (e.get g)).bind fun gv => if (d.map (C.quiet f)).getD false && !pureV C gv then none else (callv C gv vs h).bind fun x => match x.1 with
    | .ret v => ops C f os r (e.putAt d v) x.2
    | .pan v => some (.pan v, e, x.2) := by
  rw [sx_cons]
  simp only [wantA, callee, Option.bind_some, evalA_tmp]
end
end Go.Rv
