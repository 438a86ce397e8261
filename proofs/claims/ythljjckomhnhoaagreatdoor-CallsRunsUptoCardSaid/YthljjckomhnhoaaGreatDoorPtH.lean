/-
  The operations' rules, each where nothing is loose.
-/
import Derived.Test.YthljjckomhnhoaaGreatDoorPtG
import Derived.Laws.BitsLemmas
import Derived.KernelRfl
import Derived.Shelf.SlIterI.Nil
import Derived.Shelf.SortM.Plain
import Derived.Shelf.SortM.SortNone
import Derived.Ground.GgzProg
import Derived.Ground.SlgmProg
import Derived.Test.YthljjckomhnhoaaGreatDoorChecked
import Derived.OpenShut
import Derived.ChangeArms
import Derived.Maps.OwnSet
import Derived.Lib.SlKeysI
set_option linter.unusedSectionVars false
set_option linter.unusedSimpArgs false
set_option linter.unusedVariables false
set_option linter.defProp false
namespace Go.Rv
class TightD (C : Cfg) (f : Nat) (d : Option Nat) : Prop where
 none : ∀ t, d = some t -> C.loose f t = []
class NoAlone (C : Cfg) : Prop where
 alone : ∀ f, C.alone f = false
theorem looseAll_tightD {C : Cfg} {f : Nat} {d : Option Nat} [T : TightD C f d] (os : Array Oper) (e : Env) (h : Heap) : looseAll C f os d e h = true := by
 cases hd : d with
 | none => rfl
 | some t => simp only [looseAll, T.none t hd, List.all_nil]
theorem sx_cons {C : Cfg} {f : Nat} {e : Env} {h : Heap} (os : Array Oper) (o : Oper) [TightD C f (dkey o)] (r : List Oper) : ops C f os (o :: r) e h = (wantA os e o).bind fun w => match w with
  | false => ops C f os r (e.putAt o.dst (.tup [])) h
  | true => match callee o with
   | none => match panO C e o with
    | some v => some (.pan v, e, h)
    | none => (opA C f e h o).bind fun x => ops C f os r (e.putAt o.dst x.1) x.2
   | some ga => (mapO (evalA C e) ga.2.toList).bind fun vs => (evalA C e ga.1).bind fun gv =>
    if (o.dst.map (C.quiet f)).getD false && !pureV C gv then none else (callv C gv vs h).bind fun x => match x.1 with
     | .ret v => ops C f os r (e.putAt o.dst v) x.2
     | .pan v => some (.pan v, e, x.2) := by
 rw [ops_cons]
 simp only [looseAll_tightD, if_true]
 rfl
theorem call_at {C : Cfg} {f : Nat} {h : Heap} (args : List AV) (fi : FI) (hp : C.prim f = none) (hf : C.fn f = some fi) (hl : (args.length != fi.params) = false) [T : NoAlone C] :
  call C f args h = (exec C f fi.body (args.zipIdx.map fun (v, i) => (i, v)) h).bind fun x => match x.1 with
   | .nrm | .ret => (resultsA C x.2.2 x.2.1 fi.results).bind fun vs => leaveA C f h (packA vs) x.2.2
   | .pan v => some (.pan v, x.2.2)
   | .exit _ => none := by
 apply ext_some
 intro r
 rw [call_succ]
 simp only [callF, hp, hf, qAd, qAe, hl, qAb, if_false, T.alone]
 constructor
 ·rintro ⟨k, hk⟩
  obtain ⟨⟨out, e1, h1⟩, hx, hr⟩ := qAc.1 hk
  exact qAc.2 ⟨_, (exec_iff C).2 ⟨k, hx⟩, by cases out <;> exact hr⟩
 ·intro hk
  obtain ⟨⟨out, e1, h1⟩, hx, hr⟩ := qAc.1 hk
  obtain ⟨k, hk⟩ := (exec_iff C).1 hx
  exact ⟨k, qAc.2 ⟨_, hk, by cases out <;> exact hr⟩⟩
section
variable {C : Cfg} {f : Nat} {os : Array Oper} {d : Option Nat} [TightD C f d] {ty : TypeId} {ps : String} {af : Array Edge} {r : List Oper} {e : Env} {h : Heap}
theorem sx_plain {o : Oper} [TightD C f (dkey o)] (hw : o.guard = none) (hc : callee o = none) (hp : panO C e o = none := by rfl) : ops C f os (o :: r) e h = (opA C f e h o).bind fun x => ops C f os r (e.putAt o.dst x.1) x.2 := by
 rw [sx_cons]
 have : wantA os e o = some true := by unfold wantA; rw [hw]
 rw [this, hc, qAe]
 simp only [hp]
theorem sx_move (x : Operand) : ops C f os (⟨d, .move x, ty, ps, af, none⟩ :: r) e h = (evalA C e x).bind fun v => ops C f os r (e.putAt d v) h := by
 rw [sx_plain rfl rfl]
 simp only [opA, qAd, qBm, qAe]
theorem sx_assign (x : Operand) : ops C f os (⟨d, .assign x, ty, ps, af, none⟩ :: r) e h = (evalA C e x).bind fun v => ops C f os r (e.putAt d v) h := by
 rw [sx_plain rfl rfl]
 simp only [opA, qAd, qBm, qAe]
theorem sx_load (t : TypeId) (x : Operand) : ops C f os (⟨d, .load t x, ty, ps, af, none⟩ :: r) e h = (evalA C e x).bind fun x => if (d.map (C.quiet f)).getD false && !x.isRef then none else (loadA C h t x).bind fun v => ops C f os r (e.putAt d v) h := by
 rw [sx_plain rfl rfl]
 simp only [opA, qAd, qBm]
 cases evalA C e x <;> simp only [qAh, qAe]
 split
 ·rfl
 ·simp only [qBm, qAe]
omit [TightD C f d] in
theorem sx_store (t : TypeId) (x y : Operand) [TightD C f (dkeyO d (.store t x y))] : ops C f os (⟨d, .store t x y, ty, ps, af, none⟩ :: r) e h = (evalA C e x).bind fun x => (evalA C e y).bind fun y => (storeA C h t x y).bind fun h => ops C f os r (e.putAt d (.tup [])) h := by
 rw [sx_plain rfl rfl]
 simp only [opA, qAd, qBm, qAe]
theorem sx_bin (b : BinOp) (t t' : TypeId) (x y : Operand) (hy : nilI y = false) : ops C f os (⟨d, .binOp b t x y t', ty, ps, af, none⟩ :: r) e h = (evalA C e x).bind fun x => (evalA C e y).bind fun y => (binA C h b t x y).bind fun v => ops C f os r (e.putAt d v) h := by
 rw [sx_plain rfl rfl]
 simp only [opA, hy, qAb, if_false, qAd, qBm, qAe]
theorem sx_bin_t (b : BinOp) (t t' : TypeId) (x : Operand) (q : Nat) : ops C f os (⟨d, .binOp b t x (.tmp q) t', ty, ps, af, none⟩ :: r) e h = (evalA C e x).bind fun x => (evalA C e (.tmp q)).bind fun y => (binA C h b t x y).bind fun v => ops C f os r (e.putAt d v) h := sx_bin b t t' x _ rfl
theorem sx_bin_i (b : BinOp) (t t' : TypeId) (x : Operand) (q1 : IntKind) (q2 : Int) : ops C f os (⟨d, .binOp b t x (.const (.int q1 q2)) t', ty, ps, af, none⟩ :: r) e h = (evalA C e x).bind fun x => (evalA C e (.const (.int q1 q2))).bind fun y => (binA C h b t x y).bind fun v => ops C f os r (e.putAt d v) h := sx_bin b t t' x _ rfl
theorem sx_bin_b (b : BinOp) (t t' : TypeId) (x : Operand) (q : Bool) : ops C f os (⟨d, .binOp b t x (.const (.bool q)) t', ty, ps, af, none⟩ :: r) e h = (evalA C e x).bind fun x => (evalA C e (.const (.bool q))).bind fun y => (binA C h b t x y).bind fun v => ops C f os r (e.putAt d v) h := sx_bin b t t' x _ rfl
theorem sx_bin_s (b : BinOp) (t t' : TypeId) (x : Operand) (q : ByteArray) : ops C f os (⟨d, .binOp b t x (.const (.string q)) t', ty, ps, af, none⟩ :: r) e h = (evalA C e x).bind fun x => (evalA C e (.const (.string q))).bind fun y => (binA C h b t x y).bind fun v => ops C f os r (e.putAt d v) h := sx_bin b t t' x _ rfl
theorem sx_bin_l (b : BinOp) (t t' : TypeId) (x : Operand) (q1 : Option Addr) (q2 q3 : Nat) : ops C f os (⟨d, .binOp b t x (.const (.slice q1 q2 q3)) t', ty, ps, af, none⟩ :: r) e h = (evalA C e x).bind fun x => (evalA C e (.const (.slice q1 q2 q3))).bind fun y => (binA C h b t x y).bind fun v => ops C f os r (e.putAt d v) h := sx_bin b t t' x _ rfl
theorem sx_bin_p (b : BinOp) (t t' : TypeId) (x : Operand) (q : Option Addr) : ops C f os (⟨d, .binOp b t x (.const (.pointer q)) t', ty, ps, af, none⟩ :: r) e h = (evalA C e x).bind fun x => (evalA C e (.const (.pointer q))).bind fun y => (binA C h b t x y).bind fun v => ops C f os r (e.putAt d v) h := sx_bin b t t' x _ rfl
theorem sx_bin_m (b : BinOp) (t t' : TypeId) (x : Operand) (q : Option Nat) : ops C f os (⟨d, .binOp b t x (.const (.map q)) t', ty, ps, af, none⟩ :: r) e h = (evalA C e x).bind fun x => (evalA C e (.const (.map q))).bind fun y => (binA C h b t x y).bind fun v => ops C f os r (e.putAt d v) h := sx_bin b t t' x _ rfl
theorem sx_bin_f (b : BinOp) (t t' : TypeId) (x : Operand)  : ops C f os (⟨d, .binOp b t x (.const .nilFunc) t', ty, ps, af, none⟩ :: r) e h = (evalA C e x).bind fun x => (evalA C e (.const .nilFunc)).bind fun y => (binA C h b t x y).bind fun v => ops C f os r (e.putAt d v) h := sx_bin b t t' x _ rfl
theorem sx_un (b : UnOp) (t : TypeId) (x : Operand) : ops C f os (⟨d, .unOp b t x, ty, ps, af, none⟩ :: r) e h = (evalA C e x).bind fun x => (unA b x).bind fun v => ops C f os r (e.putAt d v) h := by
 rw [sx_plain rfl rfl]
 simp only [opA, qAd, qBm, qAe]
theorem sx_conv (a b : Nat) (x : Operand) : ops C f os (⟨d, .convert a b x, ty, ps, af, none⟩ :: r) e h = (evalA C e x).bind fun v => (convH C h a b v).bind fun z => ops C f os r (e.putAt d z) h := by
 rw [sx_plain rfl rfl]
 simp only [opA, qAd, qBm, qAe]
theorem sx_fieldAddr (t : TypeId) (x : Operand) (k : Nat) : ops C f os (⟨d, .fieldAddr t x k, ty, ps, af, none⟩ :: r) e h = (evalA C e x).bind fun x => (fieldAddrA C h t x k).bind fun v => ops C f os r (e.putAt d v) h := by
 rw [sx_plain rfl rfl]
 simp only [opA, qAd, qBm, qAe]
theorem sx_field (t : TypeId) (x : Operand) (k : Nat) : ops C f os (⟨d, .field t x k, ty, ps, af, none⟩ :: r) e h = (evalA C e x).bind fun x => (fieldA C t x k).bind fun v => ops C f os r (e.putAt d v) h := by
 rw [sx_plain rfl rfl]
 simp only [opA, qAd, qBm, qAe]
theorem sx_indexAddr (t : TypeId) (x y : Operand) : ops C f os (⟨d, .indexAddr t x y, ty, ps, af, none⟩ :: r) e h = (evalA C e x).bind fun x => (evalA C e y).bind fun y => (indexAddrA C h t x y).bind fun v => ops C f os r (e.putAt d v) h := by
 rw [sx_plain rfl rfl]
 simp only [opA, qAd, qBm, qAe]
theorem sx_index (t : TypeId) (x y : Operand) : ops C f os (⟨d, .index t x y, ty, ps, af, none⟩ :: r) e h = (evalA C e x).bind fun x => (evalA C e y).bind fun y => (indexA C t x y).bind fun v => ops C f os r (e.putAt d v) h := by
 rw [sx_plain rfl rfl]
 simp only [opA, qAd, qBm, qAe]
theorem sx_alloc (t : TypeId) : ops C f os (⟨d, .alloc t, ty, ps, af, none⟩ :: r) e h = (C.ty t).bind fun ti => if ti.zero.length == ti.size then ops C f os r (e.putAt d (.ptr h.length 0 0)) (h ++ [.cells ti.zero 0]) else none := by
 rw [sx_plain rfl rfl]
 simp only [opA, qAd, qBm]
 cases C.ty t <;> simp only [qAh, qAe]
 split <;> rfl
theorem sx_box (t : TypeId) (x : Operand) : ops C f os (⟨d, .box t x, ty, ps, af, none⟩ :: r) e h = (C.ty t).bind fun ti => (evalA C e x).bind fun v => if v.cells.length == ti.size then (if (d.map (C.imm f)).getD false then ops C f os r (e.putAt d (.ref v.cells)) h else ops C f os r (e.putAt d (.ptr h.length 0 0)) (h ++ [.cells v.cells 0])) else none := by
 rw [sx_plain rfl rfl]
 simp only [opA, qAd, qBm]
 cases C.ty t <;> simp only [qAh, qAe]
 cases evalA C e x <;> simp only [qAh, qAe]
 split
 ·split <;> rfl
 ·rfl
theorem sx_pick (c x y : Operand) : ops C f os (⟨d, .pick c x y, ty, ps, af, none⟩ :: r) e h = (evalA C e c).bind fun c => (pickA c (evalA C e x) (evalA C e y)).bind fun v => ops C f os r (e.putAt d v) h := by
 rw [sx_plain rfl rfl]
 simp only [opA, qAd, qBm]
 cases evalA C e c <;> simp only [qAh, qAe]
 rename_i v
 unfold pickA
 split <;> simp only [qAh, qAe, qBm]
theorem sx_build (t : TypeId) (qs : Array (Nat × Operand)) : ops C f os (⟨d, .build t qs, ty, ps, af, none⟩ :: r) e h = (partsA C e qs.toList).bind fun ps => (buildA C t ps).bind fun v => ops C f os r (e.putAt d v) h := by
 rw [sx_plain rfl rfl]
 simp only [opA, parts_eq, qAd, qBm, qAe]
theorem sx_buildSlice (t n : TypeId) (qs : Array (Nat × Operand)) : ops C f os (⟨d, .buildSlice t n qs, ty, ps, af, none⟩ :: r) e h = (partsA C e qs.toList).bind fun ps => (C.ty t).bind fun ti => match ti.td with
  | .slice el => (C.ty el).bind fun ti => if ti.zero.length != ti.size || decide (n * ti.size > 16777216) then none else
   (fillA (fun i => some (i * ti.size, ti.size)) (copies n ti.zero) ps).bind fun cs => if (d.map (C.imm f)).getD false then ops C f os r (e.putAt d (.lst (group n cs ti.size) ti.size (.exact n))) h else ops C f os r (e.putAt d (.msl h.length 0 n ti.size 0 (some n))) (h ++ [.cells cs 0])
  | _ => none := by
 rw [sx_plain rfl rfl]
 simp only [opA, parts_eq, qAd, qBm]
 cases partsA C e qs.toList <;> simp only [qAh, qAe]
 cases C.ty t <;> simp only [qAh, qAe]
 rename_i ti
 cases ti.td <;> simp only [qAh]
 rename_i el
 cases C.ty el <;> simp only [qAh, qAe]
 split
 ·rfl
 ·simp only [qBm]
  congr 1
  funext cs
  split <;> rfl
theorem sx_len (x : Operand) (t : TypeId) : ops C f os (⟨d, .call { callee := .builtin .len, args := #[x], argTypes := #[t] }, ty, ps, af, none⟩ :: r) e h = (evalA C e x).bind fun x => (C.ty t).bind fun ti => (lenA h ti.td x).bind fun n => ops C f os r (e.putAt d (.int .i64 n)) h := by
 rw [sx_plain rfl rfl]
 simp [opA, mapO, qAd, qBm, qAe]
theorem sx_slice (t : TypeId) (x : Operand) (lo hi : Option Operand) : ops C f os (⟨d, .slice t x lo hi none, ty, ps, af, none⟩ :: r) e h = (optA C e lo).bind fun lo => (optA C e hi).bind fun hi => (evalA C e x).bind fun x => (sliceA C h t x lo hi none).bind fun v => ops C f os r (e.putAt d v) h := by
 rw [sx_plain rfl rfl]
 simp [opA, qAd, qBm, qAe]
theorem sx_callf (g : Nat) (args : Array Operand) (ct : Array TypeId) : ops C f os (⟨d, .call { callee := .value (.func g), args := args, argTypes := ct }, ty, ps, af, none⟩ :: r) e h = (mapO (evalA C e) args.toList).bind fun vs => if (d.map (C.quiet f)).getD false && !C.pure g then none else (call C g vs h).bind fun x => match x.1 with
  | .ret v => ops C f os r (e.putAt d v) x.2
  | .pan v => some (.pan v, e, x.2) := by
 rw [sx_cons]
 simp only [wantA, callee, qAe, evalA, callv_clo, pureV, List.append_nil]
theorem sx_guard (o : Op) [TightD C f (dkeyO d o)] (g : Nat × Bool) : ops C f os (⟨d, o, ty, ps, af, some g⟩ :: r) e h = (wantA os e ⟨d, o, ty, ps, af, some g⟩).bind fun w => match w with
  | false => ops C f os r (e.putAt d (.tup [])) h
  | true => ops C f os (⟨d, o, ty, ps, af, none⟩ :: r) e h := by
 rw [sx_cons]
 cases wantA os e ⟨d, o, ty, ps, af, some g⟩ with
 | none => rfl
 | some w =>
  cases w
  ·rfl
  ·simp only [qAe]
   rw [sx_cons]
   rfl
theorem sx_guardT {j t : Nat} (g : (os[j]?).bind (·.dst) = some t) (o : Op) [TightD C f (dkeyO d o)] (w : Bool) : ops C f os (⟨d, o, ty, ps, af, some (j, w)⟩ :: r) e h = guardK (e.get t) w (ops C f os (⟨d, o, ty, ps, af, none⟩ :: r) e h) (ops C f os r (e.putAt d (.tup [])) h) := by
 rw [sx_guard]
 simp only [wantA, g, qAo]
 generalize e.get t = v
 unfold guardK
 cases v <;> try rfl
 ·rename_i b
  simp only [qAe]
  cases b <;> cases w <;> rfl
 ·rename_i vs
  cases vs <;> rfl
noncomputable def guardO (C : Cfg) (f : Nat) (os : Array Oper) (o : Oper) (r : List Oper) (v : AV) (w : Bool) (e : Env) (h : Heap) : Option (Out × Env × Heap) := guardK v w (ops C f os (o :: r) e h) (ops C f os r (e.putAt o.dst (.tup [])) h)
theorem sx_guardO {j t : Nat} (g : (os[j]?).bind (·.dst) = some t) (o : Op) [TightD C f (dkeyO d o)] (w : Bool) : ops C f os (⟨d, o, ty, ps, af, some (j, w)⟩ :: r) e h = guardO C f os ⟨d, o, ty, ps, af, none⟩ r (e.get t) w e h := sx_guardT g o w
omit [TightD C f d] in
theorem go_tt (o : Op) : guardO C f os ⟨d, o, ty, ps, af, none⟩ r (.bool true) true e h = ops C f os (⟨d, o, ty, ps, af, none⟩ :: r) e h := rfl
omit [TightD C f d] in
theorem go_ff (o : Op) : guardO C f os ⟨d, o, ty, ps, af, none⟩ r (.bool false) false e h = ops C f os (⟨d, o, ty, ps, af, none⟩ :: r) e h := rfl
omit [TightD C f d] in
theorem go_tf (o : Op) : guardO C f os ⟨d, o, ty, ps, af, none⟩ r (.bool true) false e h = ops C f os r (e.putAt d (.tup [])) h := rfl
omit [TightD C f d] in
theorem go_ft (o : Op) : guardO C f os ⟨d, o, ty, ps, af, none⟩ r (.bool false) true e h = ops C f os r (e.putAt d (.tup [])) h := rfl
omit [TightD C f d] in
theorem go_tup (o : Op) (w : Bool) : guardO C f os ⟨d, o, ty, ps, af, none⟩ r (.tup []) w e h = ops C f os r (e.putAt d (.tup [])) h := rfl
theorem sx_makeFunc (g : Nat) (caps : Array Operand) : ops C f os (⟨d, .makeFunc (.func g) #[] caps, ty, ps, af, none⟩ :: r) e h = (mapO (evalA C e) caps.toList).bind fun cs => ops C f os r (e.putAt d (.clo g cs)) h := by
 rw [sx_plain rfl rfl]
 simp [opA, qAd, qBm, qAe]
theorem sx_makeSlice (t : TypeId) (x y : Operand) : ops C f os (⟨d, .makeSlice t x y, ty, ps, af, none⟩ :: r) e h = (evalA C e x).bind fun x => (evalA C e y).bind fun y => (makeSliceA C h t x y).bind fun v => ops C f os r (e.putAt d v.1) v.2 := by
 rw [sx_plain rfl rfl]
 simp only [opA, qAd, qBm]
theorem sx_makeMap (t : TypeId) : ops C f os (⟨d, .makeMap t none, ty, ps, af, none⟩ :: r) e h = (C.ty t).bind fun _ => ops C f os r (e.putAt d (.map h.length)) (h ++ [.map []]) := by
 rw [sx_plain rfl rfl]
 simp only [opA, qAd, qBm, qAe]
theorem sx_lookup (t : TypeId) (x y : Operand) (ok : Bool) : ops C f os (⟨d, .lookup t x y ok, ty, ps, af, none⟩ :: r) e h = (evalA C e x).bind fun x => (evalA C e y).bind fun y => (lookupA C h t x y ok).bind fun v => ops C f os r (e.putAt d v) h := by
 rw [sx_plain rfl rfl]
 simp only [opA, qAd, qBm, qAe]
omit [TightD C f d] in
theorem sx_mapUpdate (t : TypeId) (x y z : Operand) [TightD C f (dkeyO d (.mapUpdate t x y z))] : ops C f os (⟨d, .mapUpdate t x y z, ty, ps, af, none⟩ :: r) e h = (evalA C e x).bind fun x => (evalA C e y).bind fun y => (evalA C e z).bind fun z => (updateA C h t x y z).bind fun h => ops C f os r (e.putAt d (.tup [])) h := by
 rw [sx_plain rfl rfl]
 simp only [opA, qAd, qBm, qAe]
theorem sx_insert (t : TypeId) (x y z : Operand) : ops C f os (⟨d, .insert t x y z, ty, ps, af, none⟩ :: r) e h = (evalA C e x).bind fun x => (evalA C e y).bind fun y => (evalA C e z).bind fun z => (updateA C h t x y z).bind fun h => ops C f os r (e.putAt d (.tup [])) h := by
 rw [sx_plain rfl rfl]
 simp only [opA, qAd, qBm, qAe]
theorem sx_nilCheck (x : Operand) : ops C f os (⟨d, .nilCheck x, ty, ps, af, none⟩ :: r) e h = (evalA C e x).bind fun x => match x with
  | .ptr o off g => if h.live o g then ops C f os r (e.putAt d (.ptr o off g)) h else none
  | .ref cs => ops C f os r (e.putAt d (.ref cs)) h
  | .clo g cs => ops C f os r (e.putAt d (.clo g cs)) h
  | .bnd g cs => ops C f os r (e.putAt d (.bnd g cs)) h
  | .yld l => ops C f os r (e.putAt d (.yld l)) h
  | _ => none := by
 rw [sx_plain rfl rfl]
 simp only [opA, qAd, qBm]
 congr 1
 funext v
 cases v <;> simp only [qAe, qAh]
 split <;> rfl
theorem sx_iface (t : TypeId) (x : Operand) : ops C f os (⟨d, .makeInterface t x, ty, ps, af, none⟩ :: r) e h = (C.ty t).bind fun ti => match ti.td with
  | .iface => none
  | _ => (evalA C e x).bind fun v => ops C f os r (e.putAt d (.iface t v)) h := by
 rw [sx_plain rfl rfl]
 simp only [opA, qAd, qBm]
 congr 1
 funext v
 cases v.td <;> simp only [qAe, qAh, qBm]
theorem sx_extract (x : Operand) (i : Nat) : ops C f os (⟨d, .extract x i, ty, ps, af, none⟩ :: r) e h = (evalA C e x).bind fun v => match v with
  | .tup vs => (vs[i]?).bind fun v => ops C f os r (e.putAt d v) h
  | _ => none := by
 rw [sx_plain rfl rfl]
 simp only [opA, qAd, qBm]
 congr 1
 funext v
 cases v <;> simp only [qAe, qAh, qBm]
theorem sx_append (x y : Operand) (t : TypeId) : ops C f os (⟨d, .call { callee := .builtin .append, args := #[x, y], argTypes := #[t, t] }, ty, ps, af, none⟩ :: r) e h = (evalA C e x).bind fun x => (evalA C e y).bind fun y => (C.ty t).bind fun ti => match ti.td with
  | .slice el => (C.ty el).bind fun te => (elems h y).bind fun ys => (appendA h te.size x ys).bind fun v => ops C f os r (e.putAt d v.1) v.2
  | _ => none := by
 rw [sx_plain rfl rfl]
 simp only [opA, mapO, qAd, qBm, qAe, bne_self_eq_false, qAb, if_false]
 congr 1
 funext x
 congr 1
 funext y
 congr 1
 funext ti
 cases ti.td <;> simp only [qAh, qBm]
theorem sx_cap (x : Operand) (t : TypeId) : ops C f os (⟨d, .call { callee := .builtin .cap, args := #[x], argTypes := #[t] }, ty, ps, af, none⟩ :: r) e h = (evalA C e x).bind fun x => (moreA C h .cap [t] [x]).bind fun v => ops C f os r (e.putAt d v.1) v.2 := by
 rw [sx_plain rfl rfl]
 simp [opA, mapO, qAd, qBm, qAe]
theorem sx_clear (x : Operand) (t : TypeId) : ops C f os (⟨d, .call { callee := .builtin .clear, args := #[x], argTypes := #[t] }, ty, ps, af, none⟩ :: r) e h = (evalA C e x).bind fun x => (moreA C h .clear [t] [x]).bind fun v => ops C f os r (e.putAt d v.1) v.2 := by
 rw [sx_plain rfl rfl]
 simp [opA, mapO, qAd, qBm, qAe]
theorem sx_copy (x y : Operand) (t u : TypeId) : ops C f os (⟨d, .call { callee := .builtin .copy, args := #[x, y], argTypes := #[t, u] }, ty, ps, af, none⟩ :: r) e h = (evalA C e x).bind fun x => (evalA C e y).bind fun y => (moreA C h .copy [t, u] [x, y]).bind fun v => ops C f os r (e.putAt d v.1) v.2 := by
 rw [sx_plain rfl rfl]
 simp [opA, mapO, qAd, qBm, qAe]
theorem sx_delete (x y : Operand) (t u : TypeId) : ops C f os (⟨d, .call { callee := .builtin .delete, args := #[x, y], argTypes := #[t, u] }, ty, ps, af, none⟩ :: r) e h = (evalA C e x).bind fun x => (evalA C e y).bind fun y => (moreA C h .delete [t, u] [x, y]).bind fun v => ops C f os r (e.putAt d v.1) v.2 := by
 rw [sx_plain rfl rfl]
 simp [opA, mapO, qAd, qBm, qAe]
theorem sx_max (x y : Operand) (t u : TypeId) : ops C f os (⟨d, .call { callee := .builtin .max, args := #[x, y], argTypes := #[t, u] }, ty, ps, af, none⟩ :: r) e h = (evalA C e x).bind fun x => (evalA C e y).bind fun y => (moreA C h .max [t, u] [x, y]).bind fun v => ops C f os r (e.putAt d v.1) v.2 := by
 rw [sx_plain rfl rfl]
 simp [opA, mapO, qAd, qBm, qAe]
theorem sx_min (x y : Operand) (t u : TypeId) : ops C f os (⟨d, .call { callee := .builtin .min, args := #[x, y], argTypes := #[t, u] }, ty, ps, af, none⟩ :: r) e h = (evalA C e x).bind fun x => (evalA C e y).bind fun y => (moreA C h .min [t, u] [x, y]).bind fun v => ops C f os r (e.putAt d v.1) v.2 := by
 rw [sx_plain rfl rfl]
 simp [opA, mapO, qAd, qBm, qAe]
theorem sx_callt (g : Nat) (args : Array Operand) (ct : Array TypeId) : ops C f os (⟨d, .call { callee := .value (.tmp g), args := args, argTypes := ct }, ty, ps, af, none⟩ :: r) e h = (mapO (evalA C e) args.toList).bind fun vs => (known (e.get g)).bind fun gv => if (d.map (C.quiet f)).getD false && !pureV C gv then none else (callv C gv vs h).bind fun x => match x.1 with
  | .ret v => ops C f os r (e.putAt d v) x.2
  | .pan v => some (.pan v, e, x.2) := by
 rw [sx_cons]
 simp only [wantA, callee, qAe, evalA_tmp]
end
end Go.Rv
namespace Go.Rv
theorem get_hit (k : Nat) (v : AV) (r : Env) : Env.get ((k, v) :: r) k = v := by rw [Env.get_cons]; simp
noncomputable def codeAt : List Bool -> Code -> Code
 | [], c => c
 | false :: p, .seq a _ => codeAt p a
 | true :: p, .seq _ b => codeAt p b
 | false :: p, .cond _ a _ => codeAt p a
 | true :: p, .cond _ _ b => codeAt p b
 | _ :: p, .block _ a => codeAt p a
 | _ :: p, .loop a => codeAt p a
 | _ :: p, .scope a => codeAt p a
 | false :: p, .rangeFunc _ _ a _ => codeAt p a
 | true :: p, .rangeFunc _ _ _ b => codeAt p b
 | _, c => c
noncomputable def codeOps : Code -> Array Oper
 | .region _ os _ => os
 | _ => #[]
theorem codeAt_nil (c : Code) : codeAt [] c = c := by simp [codeAt]
theorem codeAt_seq0 (p : List Bool) (a b : Code) : codeAt (false :: p) (.seq a b) = codeAt p a := rfl
theorem codeAt_seq1 (p : List Bool) (a b : Code) : codeAt (true :: p) (.seq a b) = codeAt p b := rfl
theorem codeAt_cond0 (p : List Bool) (x : Operand) (a b : Code) : codeAt (false :: p) (.cond x a b) = codeAt p a := rfl
theorem codeAt_cond1 (p : List Bool) (x : Operand) (a b : Code) : codeAt (true :: p) (.cond x a b) = codeAt p b := rfl
theorem codeAt_block (p : List Bool) (i : Nat) (a : Code) : codeAt (false :: p) (.block i a) = codeAt p a := rfl
theorem codeAt_loop (p : List Bool) (a : Code) : codeAt (false :: p) (.loop a) = codeAt p a := rfl
theorem codeAt_scope (p : List Bool) (a : Code) : codeAt (false :: p) (.scope a) = codeAt p a := rfl
theorem codeAt_range0 (p : List Bool) (x : Operand) (q : Array Tmp) (a b : Code) : codeAt (false :: p) (.rangeFunc x q a b) = codeAt p a := rfl
theorem codeAt_range1 (p : List Bool) (x : Operand) (q : Array Tmp) (a b : Code) : codeAt (true :: p) (.rangeFunc x q a b) = codeAt p b := rfl
theorem codeOps_region (i : Nat) (os : Array Oper) (d : Bool) : codeOps (.region i os d) = os := rfl
noncomputable def regEnd (C : Cfg) (f : Nat) (os : Array Oper) (id : Nat) (draw : Bool) (x : Out × Env × Heap) : Option (Out × Env × Heap) := match x.1 with
 | .nrm => some (.nrm, (match C.live f id with | some l => x.2.1.keep l | none => x.2.1), x.2.2)
 | .pan v => if draw then (if panOk os then some (.pan v, x.2.1.outside os, x.2.2) else none) else some x
 | _ => if draw then none else some x
theorem regEnd_nrm {C : Cfg} {f id : Nat} {os : Array Oper} {d : Bool} {e : Env} {h : Heap} {l : List Nat} (hl : C.live f id = some l) : regEnd C f os id d (.nrm, e, h) = some (.nrm, e.keep l, h) := by simp only [regEnd, hl]
theorem region_at (C : Cfg) (f id : Nat) (os : Array Oper) (d : Bool) (e : Env) (h : Heap) : exec C f (.region id os d) e h = (ops C f os (sched os d) e h).bind (regEnd C f os id d) := by
 rw [exec_region]
 cases ops C f os (sched os d) e h with
 | none => rfl
 | some x =>
  obtain ⟨o, e, h⟩ := x
  cases o <;> rfl
noncomputable def callEnd (C : Cfg) (f : Nat) (h : Heap) (rs : List ResultVar) (x : Out × Env × Heap) : Option (CRes × Heap) := match x.1 with
 | .nrm | .ret => (resultsA C x.2.2 x.2.1 rs).bind fun vs => leaveA C f h (packA vs) x.2.2
 | .pan v => some (.pan v, x.2.2)
 | .exit _ => none
theorem callEnd_ret {C : Cfg} {f : Nat} {h h' : Heap} {rs : List ResultVar} {e : Env} : callEnd C f h rs (.ret, e, h') = (resultsA C h' e rs).bind fun vs => leaveA C f h (packA vs) h' := rfl
theorem callEnd_nrm {C : Cfg} {f : Nat} {h h' : Heap} {rs : List ResultVar} {e : Env} : callEnd C f h rs (.nrm, e, h') = (resultsA C h' e rs).bind fun vs => leaveA C f h (packA vs) h' := rfl
abbrev tt : Bool := true
abbrev ff : Bool := false
noncomputable def cA (p : List Bool) (b : Option Code) : Array Oper := codeOps (codeAt p (b.getD .skip))
abbrev XR (C : Cfg) (f : Nat) (r : Code) (b : Array Oper) (row : List Oper) (i : Nat) (d : Bool) : Prop := ∀ (e : Env) (h : Heap), exec C f r e h = (ops C f b row e h).bind (regEnd C f b i d)
theorem xr {C : Cfg} {f i : Nat} {r : Code} {b a : Array Oper} (hr : r = .region i a false) (hb : b = a) : XR C f r b a.toList i false := fun e h => by
 subst hr hb; exact region_at _ _ _ _ _ _ _
theorem xd {C : Cfg} {f i : Nat} {r : Code} {b a : Array Oper} {row : List Oper} (hs : sched a true = row) (hr : r = .region i a true) (hb : b = a) : XR C f r b row i true := fun e h => by
 subst hr hb hs; exact region_at _ _ _ _ _ _ _
abbrev GO (C : Cfg) (f : Nat) (os : Array Oper) (j t : Nat) : Prop := ∀ (d : Option Nat) (o : Op) (ty : TypeId) (ps : String) (af : Array Edge) (r : List Oper) (e : Env) (h : Heap) (w : Bool) [TightD C f d] [TightD C f (dkeyO d o)], ops C f os (⟨d, o, ty, ps, af, some (j, w)⟩ :: r) e h = guardO C f os ⟨d, o, ty, ps, af, none⟩ r (e.get t) w e h
theorem gO {C : Cfg} {f : Nat} {os : Array Oper} {j t : Nat} (g : (os[j]?).bind (·.dst) = some t) : GO C f os j t := by
 intro d o ty ps af r e h w i1 i2
 exact sx_guardO g o w
abbrev RE (C : Cfg) (f : Nat) (l : List Nat) : Prop := ∀ (os : Array Oper) (i : Nat) (d : Bool) (e : Env) (h : Heap), regEnd C f os i d (.nrm, e, h) = some (.nrm, e.keep l, h)
theorem rE {C : Cfg} {f : Nat} {l : List Nat} (hl : ∀ i, C.live f i = some l) : RE C f l := fun _ i _ _ _ => regEnd_nrm (hl i)
abbrev Tg (C : Cfg) (f t : Nat) : Prop := TightD C f (some t)
theorem tgS {C : Cfg} {f t : Nat} (h : C.loose f t = []) : TightD C f (some t) := ⟨fun _ e => by cases e; exact h⟩
theorem tgN {C : Cfg} {f : Nat} : TightD C f none := ⟨fun _ e => by cases e⟩
theorem call_at2 {C : Cfg} [NoAlone C] {f : Nat} {h : Heap} {args : List AV} {n : Nat} {rs : List ResultVar} {b : Code} (hf : C.fn f = some ⟨n, rs, b⟩) (hp : C.prim f = none) (hl : (args.length != n) = false) :
  call C f args h = (exec C f b (args.zipIdx.map fun (v, i) => (i, v)) h).bind (callEnd C f h rs) := by
 rw [call_at args _ hp hf hl]
 cases exec C f b (args.zipIdx.map fun (v, i) => (i, v)) h with
 | none => rfl
 | some x =>
  obtain ⟨o, e, h⟩ := x
  cases o <;> rfl
theorem leave_pure {C : Cfg} {f : Nat} {h h' : Heap} {v v' : AV} (hp : C.pure f = true) (hh : h'.take h.length = h) (hv : freezeV h' h.length 40 v = some v') : leaveA C f h v h' = some (.ret v', h) := by
 unfold leaveA
 rw [if_pos hp, if_pos hh, hv]
 rfl
theorem leave_kept {C : Cfg} {f : Nat} {h : Heap} {v v' : AV} (hp : C.pure f = true) (hv : freezeV h h.length 40 v = some v') : leaveA C f h v h = some (.ret v', h) := leave_pure hp (by simp) hv
theorem leave_impure {C : Cfg} {f : Nat} {h h' : Heap} {v : AV} (hp : C.pure f = false) : leaveA C f h v h' = some (.ret v, h') := by
 unfold leaveA
 rw [if_neg (by simp [hp])]
theorem natlt (a b : Nat) : ((a : Int) < (b : Int)) = (a < b) := by simp
theorem natneg (a : Nat) : ((a : Int) < 0) = False := by simp
def pickL (l : List Oper) : List Nat -> List Oper
 | [] => []
 | i :: r => match l[i]? with
  | some o => o :: pickL l r
  | none => pickL l r
theorem pickL_nil (l : List Oper) : pickL l [] = [] := rfl
theorem pickL_cons (l : List Oper) (i : Nat) (r : List Nat) : pickL l (i :: r) = match l[i]? with
  | some o => o :: pickL l r
  | none => pickL l r := rfl
section
variable {C : Cfg} (e : Env)
theorem evalA_lst : evalA C e (.const (.slice none 0 0)) = some (.lst [] 0 .nil) := rfl
theorem evalA_nilFunc : evalA C e (.const .nilFunc) = some .nilFunc := rfl
theorem evalA_nilMap : evalA C e (.const (.map none)) = some .nilMap := rfl
theorem evalA_nilPtr : evalA C e (.const (.pointer none)) = some .nilPtr := rfl
theorem evalA_str (l : List UInt8) : evalA C e (.const (.string ⟨l.toArray⟩)) = some (.str l) := rfl
end
theorem exec_seq_nrm {C : Cfg} {f : Nat} {a b : Code} {e e1 : Env} {h h1 : Heap} (H : exec C f a e h = some (.nrm, e1, h1)) : exec C f (.seq a b) e h = exec C f b e1 h1 := by
 rw [exec_seq, H]; rfl
theorem freeze_clo (h : Heap) (n d f : Nat) (cs : List AV) : freezeV h n (d + 1) (.clo f cs) = (mapO (freezeV h n d) cs).map (.clo f) := rfl
theorem freeze_ref (h : Heap) (n d : Nat) (cs : List AV) : freezeV h n (d + 1) (.ref cs) = (mapO (freezeV h n d) cs).map .ref := rfl
theorem freeze_aggv (h : Heap) (n d : Nat) (cs : List AV) : freezeV h n (d + 1) (.agg cs) = (mapO (freezeV h n d) cs).map .agg := rfl
theorem freeze_tup (h : Heap) (n d : Nat) (cs : List AV) : freezeV h n (d + 1) (.tup cs) = (mapO (freezeV h n d) cs).map .tup := rfl
theorem mapO_nil {α β : Type} (f : α -> Option β) : mapO f [] = some [] := rfl
theorem mapO_cons {α β : Type} (f : α -> Option β) (a : α) (r : List α) : mapO f (a :: r) = (f a).bind fun b => (mapO f r).bind fun bs => some (b :: bs) := rfl
theorem wrap_id {a : Int} (h1 : -9223372036854775808 <= a) (h2 : a < 9223372036854775808) : IntKind.i64.wrap a = a := by rw [IntKind.wrap_i64]; omega
theorem wrap_succ {i : Nat} (h : i < 1000000000000) : IntKind.i64.wrap ((i : Int) + 1) = ((i + 1 : Nat) : Int) := by rw [wrap_id (by omega) (by omega)]; rfl
theorem at_drop {α : Type} {xs r : List α} {y : α} {i : Nat} (hd : xs.drop i = y :: r) : (i < xs.length) = True /\ xs[i]? = some y /\ xs.drop (i + 1) = r := by
 have hl := congrArg List.length hd
 have h0 := congrArg (·[0]?) hd
 simp only [List.length_drop, qAv] at hl
 refine ⟨by simp; omega, by simpa using h0, by rw [← List.drop_drop, hd]; rfl⟩
theorem at_end {α : Type} {xs : List α} {i : Nat} (hd : xs.drop i = []) : (i < xs.length) = False := by
 have := List.drop_eq_nil_iff.1 hd
 simp; omega
def objOf : AV -> Option Nat
 | .msl o _ _ _ _ _ => some o
 | _ => none
noncomputable def flatC (xs : List AV) : List AV := (xs.map AV.cells).flatten
def Built (h : Heap) (v : AV) (xs : List AV) (sz : Nat) : Prop :=
 (v = .lst [] 0 .nil /\ xs = []) ∨ ∃ o g cap, v = .msl o 0 xs.length sz g cap /\ h.obj o g = some (flatC xs) /\ (cap = none ∨ cap = some xs.length)
theorem flatC_len {xs : List AV} {sz : Nat} (H : ∀ x ∈ xs, x.cells.length = sz) : (flatC xs).length = xs.length * sz := by
 induction xs with
 | nil => simp [flatC]
 | cons x r ih =>
  have := ih (fun y hy => H y (qAk _ hy))
  simp only [flatC, qAm, List.flatten_cons, qBb, qAv] at this ⊢
  rw [this, H x (qAi ..), Nat.add_mul]; omega
theorem flatC_append (xs ys : List AV) : flatC (xs ++ ys) = flatC xs ++ flatC ys := by simp [flatC]
theorem obj_some {h : Heap} {o g : Nat} {cs : List AV} (H : h.obj o g = some cs) : o < h.length := by
 unfold Heap.obj at H
 split at H
 ·rename_i hx
  exact (qAu.1 hx).1
 ·cases H
theorem append_built {h : Heap} {v : AV} {xs ys : List AV} {sz : Nat} (B : Built h v xs sz) (hx : ∀ x ∈ xs, x.cells.length = sz) (hy : ∀ y ∈ ys, y.cells.length = sz /\ y.cells.all AV.leaf = true) (hsz : 0 < sz) (hlen : xs.length + ys.length <= mostLen) :
  ∃ v' h', appendA h sz v ys = some (v', h') /\ Built h' v' (xs ++ ys) sz /\ h.length <= h'.length /\ (∀ o, o < h.length -> objOf v ≠ some o -> h'[o]? = h[o]?) /\ (objOf v' = objOf v ∨ objOf v' = some h.length) := by
 have hfl := flatC_len (fun y hm => (hy y hm).1)
 have hall : (flatC ys).all AV.leaf = true := by
  rw [qBd]
  intro c hc
  simp only [flatC, List.mem_flatten, qBl] at hc
  obtain ⟨l, ⟨y, hm, rfl⟩, hc⟩ := hc
  exact qBd.1 (hy y hm).2 c hc
 have h0 : (sz == 0) = false := by simp; omega
 have hfl' : ((flatC ys).length != ys.length * sz) = false := by simp [hfl]
 cases ys with
 | nil =>
  refine ⟨v, h, ?_, by simpa using B, qAr _, fun _ _ _ => rfl, .inl rfl⟩
  rcases B with ⟨rfl, rfl⟩ | ⟨o, g, cap, rfl, hob, _⟩
  ·simp [appendA, h0]
  ·simp [appendA, h0, hob]
 | cons y r =>
  have hne : (y :: r).isEmpty = false := rfl
  rcases B with ⟨rfl, rfl⟩ | ⟨o, g, cap, rfl, hob, hcap⟩
  ·refine ⟨.msl h.length 0 (y :: r).length sz 0 none, h ++ [.cells (flatC (y :: r)) 0], ?_, .inr ⟨h.length, 0, none, by simp, by rw [obj_app0, obj_zero]; rfl, .inl rfl⟩, by simp, fun o ho _ => qAx ho, .inr rfl⟩
   unfold appendA
   simp only
   rw [show ((y :: r).map AV.cells).flatten = flatC (y :: r) from rfl, hfl', hall, h0, hne]
   have : (Room.nil.full ([] : List AV).length && ((0 : Nat) == sz || ([] : List AV).isEmpty) && decide (([] : List AV).length + (y :: r).length <= mostLen)) = true := by
    simp only [Room.full, List.isEmpty_nil, Bool.or_true, Bool.true_and, decide_eq_true_eq]; exact hlen
   rw [this]
   simp [flatC]
  ·have hxl := flatC_len hx
   unfold appendA
   simp only
   rw [show ((y :: r).map AV.cells).flatten = flatC (y :: r) from rfl, hfl', hall, h0, hne]
   have e1 : (decide (0 + xs.length * sz + (flatC (y :: r)).length <= (flatC xs).length) && capOk cap (xs.length + (y :: r).length)) = false := by
    have : 0 < (flatC (y :: r)).length := by rw [hfl]; exact Nat.mul_pos (by simp) hsz
    rw [Bool.and_eq_false_iff]; left
    simp only [decide_eq_false_iff_not]
    rw [hxl]; omega
   have e2 : (0 + xs.length * sz == (flatC xs).length && (0 : Nat) == 0 && decide (xs.length + (y :: r).length <= mostLen)) = true := by
    simp only [qBg, hxl, beq_self_eq_true, Bool.true_and, decide_eq_true_eq]
    exact hlen
   simp only [hob, qAd, qAe, bne_self_eq_false, qAb, if_false, Bool.or_false, Bool.not_true, e1, e2, if_true]
   have ho := obj_some hob
   rcases hcap with rfl | rfl
   ·refine ⟨_, _, rfl, .inr ⟨o, g + 1, none, by simp, ?_, .inl rfl⟩, by simp, fun o' _ hn => ?_, .inl rfl⟩
    ·rw [flatC_append]
     simp [Heap.obj, qAz ho]
    ·rw [qAw (by intro hc; exact hn (by simp [objOf, hc]))]
   ·refine ⟨.msl h.length 0 (xs.length + (y :: r).length) sz 0 none, h ++ [.cells (flatC xs ++ flatC (y :: r)) 0], by simp [growA], .inr ⟨h.length, 0, none, by simp, by rw [obj_app0, obj_zero, flatC_append], .inl rfl⟩, by simp, fun o' ho' _ => qAx ho', .inr rfl⟩
theorem known_built {h : Heap} {v : AV} {xs : List AV} {sz : Nat} (B : Built h v xs sz) : known v = some v := by
 rcases B with ⟨rfl, _⟩ | ⟨o, g, cap, rfl, _⟩ <;> rfl
def Plain1 (xs : List AV) : Prop := ∀ x ∈ xs, x.cells = [x] /\ one x = x /\ x.leaf = true /\ x.dead = true
theorem flatC_plain {xs : List AV} (H : Plain1 xs) : flatC xs = xs := by
 induction xs with
 | nil => rfl
 | cons x r ih =>
  have := ih (fun y hy => H y (qAk _ hy))
  simp only [flatC, qAm, List.flatten_cons] at this ⊢
  rw [this, (H x (qAi ..)).1]; rfl
theorem group_plain {xs : List AV} (H : Plain1 xs) : group xs.length xs 1 = xs := by
 induction xs with
 | nil => rfl
 | cons x r ih =>
  have := ih (fun y hy => H y (qAk _ hy))
  simp only [qAv, group, beq_self_eq_true, if_true, List.headD_cons, List.drop_succ_cons, qBf, this, (H x (qAi ..)).2.1]
theorem plain_dead {xs : List AV} (H : Plain1 xs) : xs.all AV.dead = true := qBd.2 fun x hx => (H x hx).2.2.2
theorem plain_ints (xs : List Int) : Plain1 (xs.map (AV.int .i64)) := fun x hx => by
 obtain ⟨n, _, rfl⟩ := qBl.1 hx
 exact ⟨rfl, rfl, rfl, rfl⟩
theorem plain_strs (xs : List (List UInt8)) : Plain1 (xs.map AV.str) := fun x hx => by
 obtain ⟨n, _, rfl⟩ := qBl.1 hx
 exact ⟨rfl, rfl, rfl, rfl⟩
theorem Plain1.append {xs ys : List AV} (H : Plain1 xs) (K : Plain1 ys) : Plain1 (xs ++ ys) := fun x hx => (qAp.1 hx).elim (H x) (K x)
theorem Plain1.size {xs : List AV} (H : Plain1 xs) : ∀ x ∈ xs, x.cells.length = 1 := fun x hx => by rw [(H x hx).1]; rfl
theorem Plain1.leafs {xs : List AV} (H : Plain1 xs) : ∀ x ∈ xs, x.cells.length = 1 /\ x.cells.all AV.leaf = true := fun x hx => by rw [(H x hx).1]; simp [(H x hx).2.2.1]
theorem freeze_built {h : Heap} {v : AV} {xs : List AV} {n d : Nat} (B : Built h v xs 1) (H : Plain1 xs) (ho : ∀ o, objOf v = some o -> n <= o) :
  (v = .lst [] 0 .nil /\ xs = [] /\ freezeV h n (d + 2) v = some (.lst [] 0 .nil)) ∨ freezeV h n (d + 2) v = some (.lst xs 1 .open) := by
 rcases B with ⟨rfl, rfl⟩ | ⟨o, g, cap, rfl, hob, _⟩
 ·exact .inl ⟨rfl, rfl, rfl⟩
 ·right
  have hn := ho o rfl
  unfold freezeV
  simp only
  rw [if_neg (by omega), hob]
  simp only [qAd, qAe, qBg, Nat.mul_one, flatC_plain H, qBf, qAr, if_true, List.take_length, freeze_deads h n d (plain_dead H), group_plain H]
theorem elems_built {h : Heap} {v : AV} {xs : List AV} (B : Built h v xs 1) (H : Plain1 xs) : elems h v = some xs := by
 rcases B with ⟨rfl, rfl⟩ | ⟨o, g, cap, rfl, hob, _⟩
 ·rfl
 ·simp only [elems, hob, qAd, qAe, qBg, Nat.mul_one, flatC_plain H, qAr, if_true, qBf, group_plain H]
theorem callv_yld_of {C : Cfg} {o : Nat} {vs : List AV} {h h1 h2 : Heap} {r r1 r2 : ALoop} {e1 e2 : Env} {out : Out} {j : Option Code} (hr : h.loopAt o = some r) (hs : r.st = .ready) (hp : r.ps.length = vs.length)
  (ha : exec C r.f r.assign (r.env.puts r.ps vs) h = some (.nrm, e1, h1)) (hr1 : h1.loopAt o = some r1) (hs1 : r1.st = .ready) (hb : exec C r.f r.body e1 (h1.set o (.loop { r1 with st := .busy })) = some (out, e2, h2)) (hr2 : h2.loopAt o = some r2) (hj : jumpOf out = some j) :
  callv C (.yld o) vs h = some (.ret (.bool j.isNone), h2.set o (.loop { r2 with st := if j.isNone then .ready else .done, pend := j })) := by
 obtain ⟨k1, ha⟩ := (exec_iff C).1 ha
 obtain ⟨k2, hb⟩ := (exec_iff C).1 hb
 refine (callv_succ C).2 ⟨max k1 k2, ?_⟩
 have ha' := execF_le C (Nat.le_max_left k1 k2) _ _ _ _ _ ha
 have hb' := execF_le C (Nat.le_max_right k1 k2) _ _ _ _ _ hb
 simp only [callV, hr, qAd, qAe, hs, hp, ha', hr1, hs1, hb', hr2, hj]
 simp
theorem exec_range_of {C : Cfg} {f : Nat} {g : Operand} {ps : Array Tmp} {assign body : Code} {e : Env} {h h1 : Heap} {gn : Nat} {caps : List AV} {v : AV} {r : ALoop} (hg : evalA C e g = some (.clo gn caps))
  (hc : call C gn (.yld h.length :: caps) (h ++ [.loop { st := .ready, pend := none, f, env := e, ps := ps.toList, assign, body }]) = some (.ret v, h1)) (hr : h1.loopAt h.length = some r) (hb : (r.st == .busy) = false) {out : Out}
  (ho : out = .nrm /\ r.pend = none ∨ out = .ret /\ r.pend = some .ret) :
  exec C f (.rangeFunc g ps assign body) e h = some (out, e, h1.set h.length (.cells [] 1)) := by
 obtain ⟨k, hc⟩ := (call_iff C).1 hc
 refine (exec_succ C).2 ⟨k, ?_⟩
 simp only [execF, hg, qAd, qAe, hc, hr, hb, qAb, if_false]
 rcases ho with ⟨rfl, hp⟩ | ⟨rfl, hp⟩ <;> rw [hp]
def Ends (C : Cfg) (f : Nat) (c : Code) (e : Env) (h : Heap) (Q : Out -> Env -> Heap -> Prop) : Prop := ∃ o e' h', exec C f c e h = some (o, e', h') /\ Q o e' h'
theorem Ends.mono {C : Cfg} {f : Nat} {c : Code} {e : Env} {h : Heap} {Q R : Out -> Env -> Heap -> Prop} (H : Ends C f c e h Q) (k : ∀ o e' h', Q o e' h' -> R o e' h') : Ends C f c e h R :=
 let ⟨o, e', h', a, b⟩ := H; ⟨o, e', h', a, k _ _ _ b⟩
def Got {α : Type} (x : Option α) (Q : α -> Prop) : Prop := ∃ a, x = some a /\ Q a
theorem got_some {α : Type} (a : α) (Q : α -> Prop) : Got (some a) Q = Q a := by
 simp [Got]
theorem got_bind {α β : Type} (x : Option α) (f : α -> Option β) (Q : β -> Prop) : Got (x.bind f) Q = Got x (fun a => Got (f a) Q) := by
 cases x <;> simp [Got]
theorem Got.mono {α : Type} {x : Option α} {Q R : α -> Prop} (H : Got x Q) (k : ∀ a, Q a -> R a) : Got x R := let ⟨a, b, c⟩ := H; ⟨a, b, k a c⟩
theorem got_left {α : Type} {x y : Option α} (h : x = y) (Q : α -> Prop) : Got x Q = Got y Q := by rw [h]
theorem got_loop {C : Cfg} [NoRounds C] {f : Nat} {b : Code} {e : Env} {h : Heap} {Q : Out × Env × Heap -> Prop} : Got (exec C f (.loop b) e h) Q = Got (exec C f b e h) (fun x => match x.1 with | .nrm => Got (exec C f (.loop b) x.2.1 x.2.2) Q | _ => Q x) := by
 rw [exec_loop, got_bind]
 congr 1
 funext x
 obtain ⟨o, e, h⟩ := x
 cases o <;> simp [got_some]
end Go.Rv
namespace Go.Rv
theorem built_cells {h : Heap} {v : AV} {xs : List AV} {sz : Nat} (B : Built h v xs sz) : v.cells = [v] := by
 rcases B with ⟨rfl, _⟩ | ⟨o, g, cap, rfl, _⟩ <;> rfl
theorem built_leaf {h : Heap} {v : AV} {xs : List AV} {sz : Nat} (B : Built h v xs sz) : v.leaf = true := by
 rcases B with ⟨rfl, _⟩ | ⟨o, g, cap, rfl, _⟩ <;> rfl
theorem built_lt {h : Heap} {v : AV} {xs : List AV} {sz o : Nat} (B : Built h v xs sz) (ho : objOf v = some o) : o < h.length := by
 rcases B with ⟨rfl, _⟩ | ⟨o', g, cap, rfl, hob, _⟩
 ·cases ho
 ·simp only [objOf, qAf] at ho; subst ho; exact obj_some hob
theorem freeze_stay {h : Heap} {v : AV} {xs : List AV} {sz n d : Nat} (B : Built h v xs sz) (hn : h.length <= n) : freezeV h n (d + 2) v = some v := by
 rcases B with ⟨rfl, rfl⟩ | ⟨o, g, cap, rfl, hob, _⟩
 ·rfl
 ·have := obj_some hob
  unfold freezeV
  simp only
  rw [if_pos (by omega)]
theorem loopAt_app0 (h : Heap) (r : ALoop) (X : Heap) : Heap.loopAt (h ++ .loop r :: X) h.length = some r := by simp [Heap.loopAt]
theorem obj_left {h : Heap} (X : Heap) {o : Nat} (g : Nat) (ho : o < h.length) : Heap.obj (h ++ X) o g = Heap.obj h o g := by
 unfold Heap.obj; rw [qAx ho]
theorem set_left {h : Heap} (X : Heap) {o : Nat} (x : AObj) (ho : o < h.length) : (h ++ X).set o x = h.set o x ++ X := List.set_append_left _ _ ho
theorem live_of {h : Heap} {o g : Nat} {cs : List AV} (H : h.obj o g = some cs) : h.live o g = true := by simp [Heap.live, H]
theorem known_yld (o : Nat) : known (.yld o) = some (.yld o) := rfl
theorem known_map (o : Nat) : known (.map o) = some (.map o) := rfl
theorem known_nilPtr : known .nilPtr = some .nilPtr := rfl
theorem cells_clo (g : Nat) (cs : List AV) : AV.cells (.clo g cs) = [.clo g cs] := rfl
theorem cells_map (o : Nat) : AV.cells (.map o) = [.map o] := rfl
theorem cells_msl (o off len z g : Nat) (c : Option Nat) : AV.cells (.msl o off len z g c) = [.msl o off len z g c] := rfl
theorem leaf_clo (g : Nat) (cs : List AV) : AV.leaf (.clo g cs) = true := rfl
theorem leaf_map (o : Nat) : AV.leaf (.map o) = true := rfl
theorem leaf_msl (o off len z g : Nat) (c : Option Nat) : AV.leaf (.msl o off len z g c) = true := rfl
theorem cells_nilFunc : AV.cells .nilFunc = [.nilFunc] := rfl
theorem leaf_nilFunc : AV.leaf .nilFunc = true := rfl
theorem obj_leftS {h : Heap} {o g : Nat} {cs : List AV} (X : Heap) (H : h.obj o g = some cs) : Heap.obj (h ++ X) o g = some cs := by rw [obj_left X g (obj_some H), H]
theorem Built.app {h : Heap} {v : AV} {xs : List AV} {sz : Nat} (B : Built h v xs sz) (X : Heap) : Built (h ++ X) v xs sz := by
 rcases B with h1 | ⟨o, g, cap, rfl, hob, hc⟩
 ·exact .inl h1
 ·exact .inr ⟨o, g, cap, rfl, obj_leftS X hob, hc⟩
theorem Built.other {h h' : Heap} {v : AV} {xs : List AV} {sz : Nat} (B : Built h v xs sz) (K : ∀ o, objOf v = some o -> h'[o]? = h[o]?) : Built h' v xs sz := by
 rcases B with h1 | ⟨o, g, cap, rfl, hob, hc⟩
 ·exact .inl h1
 ·refine .inr ⟨o, g, cap, rfl, ?_, hc⟩
  unfold Heap.obj at *
  rw [K o rfl]; exact hob
structure Own (n : Nat) (h0 h : Heap) (v : AV) (xs : List AV) : Prop where
 b : Built h v xs 1
 own : ∀ o, objOf v = some o -> n <= o
 le : n <= h.length
 old : h.take n = h0.take n
theorem take_app {h : Heap} (X : Heap) {n : Nat} (hn : n <= h.length) : (h ++ X).take n = h.take n := List.take_append_of_le_length hn
theorem Own.app {n : Nat} {h0 h : Heap} {v : AV} {xs : List AV} (O : Own n h0 h v xs) (X : Heap) : Own n h0 (h ++ X) v xs where
 b := O.b.app X
 own := O.own
 le := by have := O.le; simp; omega
 old := by rw [take_app X O.le, O.old]
theorem Own.kn {n : Nat} {h0 h : Heap} {v : AV} {xs : List AV} (O : Own n h0 h v xs) : known v = some v := known_built O.b
theorem Own.push {n : Nat} {h0 h : Heap} {v : AV} {xs ys : List AV} (O : Own n h0 h v xs) (hx : Plain1 xs) (hy : Plain1 ys) (hl : xs.length + ys.length <= mostLen) :
  ∃ v' h', appendA h 1 v ys = some (v', h') /\ Own n h0 h' v' (xs ++ ys) := by
 obtain ⟨v', h', h1, h2, h4, h5, h6⟩ := append_built O.b hx.size (fun y hm => hy.leafs y hm) (by omega) hl
 refine ⟨v', h', h1, h2, fun o ho => ?_, Nat.le_trans O.le h4, ?_⟩
 ·rcases h6 with h6 | h6
  ·exact O.own o (h6 ▸ ho)
  ·rw [h6] at ho; simp only [qAf] at ho; subst ho; exact O.le
 ·rw [← O.old]
  apply qBk
  intro i
  by_cases hi : i < n
  ·rw [qBa hi, qBa hi]
   exact h5 i (Nat.lt_of_lt_of_le hi O.le) fun hc => by have := O.own i hc; omega
  ·rw [qAt (by simp; omega), qAt (by simp; omega)]
theorem Own.nil (h : Heap) : Own h.length h h (.lst [] 0 .nil) [] := ⟨.inl ⟨rfl, rfl⟩, fun _ h => (by cases h), qAr _, rfl⟩
theorem Own.leave {h h' : Heap} {v : AV} {xs : List AV} (O : Own h.length h h' v xs) (hx : Plain1 xs) {C : Cfg} {f : Nat} (hp : C.pure f = true) :
  (xs = [] /\ leaveA C f h v h' = some (.ret (.lst [] 0 .nil), h)) ∨ leaveA C f h v h' = some (.ret (.lst xs 1 .open), h) := by
 have ht : h'.take h.length = h := by rw [O.old]; simp
 rcases freeze_built (n := h.length) (d := 38) O.b hx O.own with ⟨_, rfl, hf⟩ | hf
 ·exact .inl ⟨rfl, leave_pure hp ht hf⟩
 ·exact .inr (leave_pure hp ht hf)
theorem len_built {h : Heap} {v : AV} {xs : List AV} {sz e : Nat} (B : Built h v xs sz) : lenA h (.slice e) v = some xs.length := by
 rcases B with ⟨rfl, rfl⟩ | ⟨o, g, cap, rfl, hob, _⟩
 ·rfl
 ·simp [lenA, live_of hob]
structure Rd (C : Cfg) (h : Heap) (ts te : Nat) (v : AV) (xs : List AV) : Prop where
 kn : known v = some v
 len : lenA h (.slice te) v = some xs.length
 get : ∀ (i : Nat) x, xs[i]? = some x -> ∃ a, indexAddrA C h ts v (.int .i64 i) = some a /\ known a = some a /\ loadA C h te a = some x
theorem rd_built {C : Cfg} {h : Heap} {ts te : Nat} {v : AV} {xs : List AV} {ti tei : TI} (hts : C.ty ts = some ti) (hti : ti.td = .slice te) (hte : C.ty te = some tei) (h1 : tei.size = 1) (ha : tei.td.isAgg = false) (B : Built h v xs 1) (H : Plain1 xs) : Rd C h ts te v xs where
 kn := known_built B
 len := len_built B
 get i x hx := by
  have hi : i < xs.length := (qAu.1 hx).1
  rcases B with ⟨rfl, rfl⟩ | ⟨o, g, cap, rfl, hob, _⟩
  ·simp at hx
  ·refine ⟨.ptr o i g, ?_, rfl, ?_⟩
   ·simp only [indexAddrA, hts, hti, hte, qAd, qAe, natneg, if_false, Int.toNat_natCast, h1, live_of hob]
    simp [hi]
   ·rw [flatC_plain H] at hob
    simp only [loadA, hte, cellsAt, hob, qAd, qAe, qAo, Rv.part, ha]
    simp [List.head?_drop, hx]
theorem binA_str_eql {C : Cfg} (h : Heap) (t : Nat) (a b : List UInt8) : binA C h .eql t (.str a) (.str b) = some (.bool (a == b)) := rfl
theorem binA_str_neq {C : Cfg} (h : Heap) (t : Nat) (a b : List UInt8) : binA C h .neq t (.str a) (.str b) = some (.bool (!(a == b))) := rfl
theorem setCells_at {α : Type} : ∀ (ds cs : List α) (off : Nat), off + ds.length <= cs.length -> ∀ i, (setCells cs off ds)[i]? = if off <= i /\ i < off + ds.length then ds[i - off]? else cs[i]?
 | [], cs, off, _, i => by
  simp only [setCells, List.length_nil, Nat.add_zero]
  rw [if_neg (by omega)]
 | d :: r, cs, off, h, i => by
  simp only [setCells, qAv] at h ⊢
  rw [setCells_at r (cs.set off d) (off + 1) (by simp; omega) i]
  by_cases h1 : i = off
  ·subst h1
   rw [if_neg (by omega), if_pos (by omega), qAz (by omega)]
   simp
  ·by_cases h2 : off + 1 <= i /\ i < off + 1 + r.length
   ·rw [if_pos h2, if_pos (by omega), show i - off = (i - (off + 1)) + 1 from by omega, List.getElem?_cons_succ]
   ·rw [if_neg h2, if_neg (by omega), qAw (by omega)]
theorem setCells_full {α : Type} {cs ds : List α} (h : ds.length = cs.length) : setCells cs 0 ds = ds := by
 apply qBk
 intro i
 rw [setCells_at ds cs 0 (by omega) i]
 by_cases hi : i < ds.length
 ·rw [if_pos (by omega)]; rfl
 ·rw [if_neg (by omega), qAt (by omega), qAt (by omega)]
noncomputable def tabC (T : Nat -> Bool) : List AV := (List.range 256).map fun k => AV.bool (T k)
theorem tabC_len (T : Nat -> Bool) : (tabC T).length = 256 := by simp [tabC]
theorem tabC_get (T : Nat -> Bool) {k : Nat} (hk : k < 256) : (tabC T)[k]? = some (.bool (T k)) := by simp [tabC, hk]
theorem tabC_head (T : Nat -> Bool) {k : Nat} (hk : k < 256) : ((tabC T).drop k).head? = some (.bool (T k)) := by rw [List.head?_drop, tabC_get T hk]
theorem tabC_set (T : Nat -> Bool) {c : Nat} (hc : c < 256) : (tabC T).set c (.bool true) = tabC (fun k => T k || k == c) := by
 apply qBk
 intro i
 by_cases hi : i < 256
 ·rw [List.getElem?_set, tabC_get (fun k => T k || k == c) hi]
  by_cases he : c = i
  ·subst he; simp [tabC_len, hi]
  ·have : (i == c) = false := by simp; omega
   simp [he, tabC_get T hi, this]
 ·rw [qAt (by simp [tabC_len]; omega), qAt (by simp [tabC_len]; omega)]
theorem tabC_leaf (T : Nat -> Bool) : (tabC T).all AV.leaf = true := by simp [tabC, AV.leaf]
theorem tabC_zero : copies 256 [AV.bool false] = tabC (fun _ => false) := by kernel_rfl
theorem tabC_take (T : Nat -> Bool) : (tabC T).take 256 = tabC T := qBi (by rw [tabC_len]; omega)
theorem tabC_over (T U : Nat -> Bool) : setCells (tabC T) 0 (tabC U) = tabC U := setCells_full (by rw [tabC_len, tabC_len])
end Go.Rv
namespace Go.Rv
set_option linter.defProp false in
def sxAll := (And.intro (And.intro (And.intro (And.intro (And.intro (And.intro (And.intro @codeAt_nil @codeAt_seq0) (And.intro @codeAt_seq1 (And.intro @codeAt_cond0 @codeAt_cond1))) (And.intro (And.intro @codeAt_block (And.intro @codeAt_loop @codeAt_scope)) (And.intro @codeAt_range0 (And.intro @codeAt_range1 @codeOps_region)))) (And.intro (And.intro (And.intro @exec_seq (And.intro @exec_cond @exec_block)) (And.intro @exec_exit (And.intro @exec_skip @exec_label))) (And.intro (And.intro @exec_scope (And.intro @exec_ret @ops_nil)) (And.intro @sx_move (And.intro @sx_assign @sx_load))))) (And.intro (And.intro (And.intro (And.intro @sx_store @sx_bin_t) (And.intro @sx_bin_i (And.intro @sx_bin_b @sx_bin_s))) (And.intro (And.intro @sx_bin_l (And.intro @sx_bin_p @sx_bin_m)) (And.intro @sx_bin_f (And.intro @sx_un @sx_conv)))) (And.intro (And.intro (And.intro @sx_fieldAddr (And.intro @sx_field @sx_indexAddr)) (And.intro @sx_index (And.intro @sx_alloc @sx_box))) (And.intro (And.intro @sx_pick (And.intro @sx_build @sx_buildSlice)) (And.intro @sx_len (And.intro @sx_slice @sx_callf)))))) (And.intro (And.intro (And.intro (And.intro (And.intro @sx_callt @sx_makeFunc) (And.intro @sx_makeSlice (And.intro @sx_makeMap @sx_lookup))) (And.intro (And.intro @sx_mapUpdate (And.intro @sx_insert @sx_nilCheck)) (And.intro @sx_iface (And.intro @sx_extract @sx_append)))) (And.intro (And.intro (And.intro @sx_cap (And.intro @sx_clear @sx_copy)) (And.intro @sx_delete (And.intro @sx_max @sx_min))) (And.intro (And.intro @evalA_tmp (And.intro @evalA_int @evalA_bool)) (And.intro @evalA_func (And.intro @evalA_lst @evalA_nilFunc))))) (And.intro (And.intro (And.intro (And.intro @evalA_nilMap @evalA_nilPtr) (And.intro @evalA_str (And.intro @known_int @known_bool))) (And.intro (And.intro @known_str (And.intro @known_ptr @known_ref)) (And.intro @known_agg (And.intro @known_tup @known_lst)))) (And.intro (And.intro (And.intro @known_msl (And.intro @known_clo @cells_int)) (And.intro @cells_bool (And.intro @cells_str @cells_ptr))) (And.intro (And.intro @cells_ref (And.intro @cells_agg @cells_lst)) (And.intro @leaf_int (And.intro @leaf_bool @leaf_str))))))) (And.intro (And.intro (And.intro (And.intro (And.intro (And.intro @leaf_lst @one_int) (And.intro @one_bool (And.intro @one_str @isRef_ref))) (And.intro (And.intro @putAt_some (And.intro @putAt_none @binA_int)) (And.intro @pick_true (And.intro @pick_false @parts_nil)))) (And.intro (And.intro (And.intro @parts_cons (And.intro @get_hit @Env.get_cons)) (And.intro @Env.get_nil (And.intro @Env.put_eq @eq_self.{1}))) (And.intro (And.intro @pickL_nil (And.intro @pickL_cons @obj_app)) (And.intro @obj_app0 (And.intro @live_app @live_app0))))) (And.intro (And.intro (And.intro (And.intro @set_app @set_app0) (And.intro @obj_zero (And.intro @obj_succ @live_zero))) (And.intro (And.intro @live_succ (And.intro @List.length_append.{0} @List.append_assoc.{0})) (And.intro @callEnd_ret (And.intro @callEnd_nrm @callv_clo)))) (And.intro (And.intro (And.intro @natlt (And.intro @natneg @Int.toNat_natCast)) (And.intro @got_some (And.intro @go_tt @go_tf))) (And.intro (And.intro @go_ft (And.intro @go_ff @go_tup)) (And.intro @List.cons_append.{0} (And.intro @List.nil_append.{0} @List.append_nil.{0})))))) (And.intro (And.intro (And.intro (And.intro (And.intro @Option.bind_eq_bind.{0} @Option.map_some.{0, 0}) (And.intro @Option.map_none.{0, 0} (And.intro @Option.getD_some.{0} @Option.getD_none.{0}))) (And.intro (And.intro @Bool.false_eq_true (And.intro @if_true.{1} @if_false.{1})) (And.intro @ite_true.{1} (And.intro @List.zipIdx_cons.{0} @List.zipIdx_nil.{0})))) (And.intro (And.intro (And.intro @List.map_cons.{0, 0} (And.intro @List.map_nil.{0, 0} @List.length_cons.{0})) (And.intro @List.length_nil.{0} (And.intro @List.getElem?_cons_zero.{0} @List.getElem?_cons_succ.{0}))) (And.intro (And.intro @List.drop_succ_cons.{0} (And.intro @List.drop_zero.{0} @List.head?_cons.{0})) (And.intro @List.set_cons_zero.{0} (And.intro @List.set_cons_succ.{0} @List.headD_cons.{0}))))) (And.intro (And.intro (And.intro (And.intro @List.contains_cons.{0} (And.intro @List.contains_nil.{0} @Bool.or_false)) (And.intro @Bool.false_or (And.intro @Bool.and_true @Bool.true_and))) (And.intro (And.intro @Bool.false_and (And.intro @Bool.and_false @Bool.not_true)) (And.intro @Bool.not_false (And.intro @Bool.true_or @Bool.or_true)))) (And.intro (And.intro (And.intro @decide_true (And.intro @decide_false @decide_eq_true_eq)) (And.intro @List.all_cons.{0} (And.intro @List.all_nil.{0} @List.take_succ_cons.{0}))) (And.intro (And.intro @List.take_zero.{0} (And.intro @beq_self_eq_true.{0} @Option.isSome_none.{0})) (And.intro @Option.isSome_some.{0} (And.intro @List.filter_cons.{0} @List.filter_nil.{0}))))))))
end Go.Rv
namespace Go.Proofs
open Go.Shelf
def Tryz.keysA_ren : Go.Shelf.Ren := ⟨fun | 7 => 67 | 10 => 98 | n => n, fun | 23 => 87 | 26 => 3 | 3 => 3 | 28 => 120 | 0 => 0 | 27 => 119 | 33 => 59 | 4 => 4 | n => n, fun | n => n⟩
theorem Tryz.keysA : Go.Proofs.SlLaysZI.n7 Tryz.prog Tryz.keysA_ren := {
  mixed := by kernel_rfl
  f7 := ⟨Tryz.f67.name, by decide, Tryz.func67.trans (congrArg some (by kernel_rfl))⟩
  f10 := ⟨Tryz.f98.name, by decide, Tryz.func98.trans (congrArg some (by kernel_rfl))⟩
  t0 := Tryz.underlying0
  a0 := Tryz.isAgg0
  z0 := Tryz.sizeOf0
  v0 := Tryz.zeroValue0
  t4 := Tryz.underlying4
  a4 := Tryz.isAgg4
  z4 := Tryz.sizeOf4
  v4 := Tryz.zeroValue4
  t23 := Tryz.underlying87
  a23 := Tryz.isAgg87
  z23 := Tryz.sizeOf87
  v23 := Tryz.zeroValue87
  t26 := Tryz.underlying3
  a26 := Tryz.isAgg3
  z26 := Tryz.sizeOf3
  v26 := Tryz.zeroValue3
  t27 := Tryz.underlying119
  a27 := Tryz.isAgg119
  z27 := Tryz.sizeOf119
  v27 := Tryz.zeroValue119
  t28 := Tryz.underlying120
  a28 := Tryz.isAgg120
  z28 := Tryz.sizeOf120
  v28 := Tryz.zeroValue120
  t33 := Tryz.underlying59
  a33 := Tryz.isAgg59
  z33 := Tryz.sizeOf59
  v33 := Tryz.zeroValue59 }
def Tryz.sortedA_ren : Go.Shelf.Ren := ⟨fun | 6 => 66 | 8 => 96 | 9 => 97 | 11 => 132 | 13 => 85 | 12 => 133 | 23 => 120 | 24 => 121 | 14 => 149 | 15 => 150 | 16 => 151 | 17 => 152 | 18 => 153 | 19 => 154 | 20 => 155 | 21 => 156 | 22 => 157 | 25 => 175 | 26 => 139 | 27 => 140 | 28 => 176 | 29 => 177 | 30 => 178 | 31 => 183 | n => n, fun | 26 => 3 | 28 => 120 | 24 => 27 | 0 => 0 | 3 => 3 | 37 => 122 | 48 => 145 | 50 => 76 | 4 => 4 | 40 => 163 | 39 => 162 | 45 => 126 | 5 => 5 | 9 => 9 | 51 => 191 | 55 => 195 | 57 => 209 | 58 => 210 | 33 => 59 | n => n, fun | n => n⟩
theorem Tryz.sortedA : Go.Proofs.SlLaysZI.n6 Tryz.prog Tryz.sortedA_ren := {
  mixed := by kernel_rfl
  f6 := ⟨Tryz.f66.name, by decide, Tryz.func66.trans (congrArg some (by kernel_rfl))⟩
  f8 := ⟨Tryz.f96.name, by decide, Tryz.func96.trans (congrArg some (by kernel_rfl))⟩
  f11 := ⟨Tryz.f132.name, by decide, Tryz.func132.trans (congrArg some (by kernel_rfl))⟩
  t0 := Tryz.underlying0
  a0 := Tryz.isAgg0
  z0 := Tryz.sizeOf0
  v0 := Tryz.zeroValue0
  t24 := Tryz.underlying27
  a24 := Tryz.isAgg27
  z24 := Tryz.sizeOf27
  v24 := Tryz.zeroValue27
  t26 := Tryz.underlying3
  a26 := Tryz.isAgg3
  z26 := Tryz.sizeOf3
  v26 := Tryz.zeroValue3
  t28 := Tryz.underlying120
  a28 := Tryz.isAgg120
  z28 := Tryz.sizeOf120
  v28 := Tryz.zeroValue120
  i26 := by kernel_rfl }
def Tryz.sortA_ren : Go.Shelf.Ren := ⟨fun | 5 => 97 | 8 => 85 | 7 => 133 | 19 => 120 | 20 => 121 | 10 => 149 | 11 => 150 | 12 => 151 | 13 => 152 | 14 => 153 | 15 => 154 | 16 => 155 | 17 => 156 | 18 => 157 | 30 => 175 | 31 => 139 | 32 => 140 | 33 => 176 | 34 => 177 | 35 => 178 | 40 => 183 | n => n, fun | 23 => 27 | 25 => 3 | 3 => 3 | 32 => 122 | 22 => 27 | 0 => 0 | 44 => 145 | 46 => 76 | 4 => 4 | 36 => 163 | 35 => 162 | 41 => 126 | 5 => 5 | 9 => 9 | 53 => 191 | 57 => 195 | 63 => 209 | 64 => 210 | n => n, fun | n => n⟩
theorem Tryz.sortA : Go.Proofs.SlLaysM.n5 Tryz.prog Tryz.sortA_ren := {
  mixed := by kernel_rfl
  f5 := ⟨Tryz.f97.name, by decide, Tryz.func97.trans (congrArg some (by kernel_rfl))⟩
  f7 := ⟨Tryz.f133.name, by decide, Tryz.func133.trans (congrArg some (by kernel_rfl))⟩
  f8 := Tryz.func85.trans (congrArg some (by kernel_rfl))
  f10 := ⟨Tryz.f149.name, by decide, Tryz.func149.trans (congrArg some (by kernel_rfl))⟩
  f11 := ⟨Tryz.f150.name, by decide, Tryz.func150.trans (congrArg some (by kernel_rfl))⟩
  f12 := ⟨Tryz.f151.name, by decide, Tryz.func151.trans (congrArg some (by kernel_rfl))⟩
  f13 := ⟨Tryz.f152.name, by decide, Tryz.func152.trans (congrArg some (by kernel_rfl))⟩
  f14 := ⟨Tryz.f153.name, by decide, Tryz.func153.trans (congrArg some (by kernel_rfl))⟩
  f15 := ⟨Tryz.f154.name, by decide, Tryz.func154.trans (congrArg some (by kernel_rfl))⟩
  f16 := ⟨Tryz.f155.name, by decide, Tryz.func155.trans (congrArg some (by kernel_rfl))⟩
  f17 := ⟨Tryz.f156.name, by decide, Tryz.func156.trans (congrArg some (by kernel_rfl))⟩
  f18 := ⟨Tryz.f157.name, by decide, Tryz.func157.trans (congrArg some (by kernel_rfl))⟩
  f19 := Tryz.func120.trans (congrArg some (by kernel_rfl))
  f20 := Tryz.func121.trans (congrArg some (by kernel_rfl))
  f30 := ⟨Tryz.f175.name, by decide, Tryz.func175.trans (congrArg some (by kernel_rfl))⟩
  f31 := Tryz.func139.trans (congrArg some (by kernel_rfl))
  f32 := Tryz.func140.trans (congrArg some (by kernel_rfl))
  f33 := ⟨Tryz.f176.name, by decide, Tryz.func176.trans (congrArg some (by kernel_rfl))⟩
  f34 := ⟨Tryz.f177.name, by decide, Tryz.func177.trans (congrArg some (by kernel_rfl))⟩
  f35 := ⟨Tryz.f178.name, by decide, Tryz.func178.trans (congrArg some (by kernel_rfl))⟩
  f40 := ⟨Tryz.f183.name, by decide, Tryz.func183.trans (congrArg some (by kernel_rfl))⟩
  t0 := Tryz.underlying0
  a0 := Tryz.isAgg0
  z0 := Tryz.sizeOf0
  v0 := Tryz.zeroValue0
  t3 := Tryz.underlying3
  a3 := Tryz.isAgg3
  z3 := Tryz.sizeOf3
  v3 := Tryz.zeroValue3
  t4 := Tryz.underlying4
  a4 := Tryz.isAgg4
  z4 := Tryz.sizeOf4
  v4 := Tryz.zeroValue4
  t5 := Tryz.underlying5
  a5 := Tryz.isAgg5
  z5 := Tryz.sizeOf5
  v5 := Tryz.zeroValue5
  t9 := Tryz.underlying9
  a9 := Tryz.isAgg9
  z9 := Tryz.sizeOf9
  v9 := Tryz.zeroValue9
  t22 := Tryz.underlying27
  a22 := Tryz.isAgg27
  z22 := Tryz.sizeOf27
  v22 := Tryz.zeroValue27
  t23 := Tryz.underlying27
  a23 := Tryz.isAgg27
  z23 := Tryz.sizeOf27
  v23 := Tryz.zeroValue27
  t25 := Tryz.underlying3
  a25 := Tryz.isAgg3
  z25 := Tryz.sizeOf3
  v25 := Tryz.zeroValue3
  t32 := Tryz.underlying122
  a32 := Tryz.isAgg122
  z32 := Tryz.sizeOf122
  v32 := Tryz.zeroValue122
  t35 := Tryz.underlying162
  a35 := Tryz.isAgg162
  z35 := Tryz.sizeOf162
  v35 := Tryz.zeroValue162
  t36 := Tryz.underlying163
  a36 := Tryz.isAgg163
  z36 := Tryz.sizeOf163
  v36 := Tryz.zeroValue163
  t41 := Tryz.underlying126
  a41 := Tryz.isAgg126
  z41 := Tryz.sizeOf126
  v41 := Tryz.zeroValue126
  t44 := Tryz.underlying145
  a44 := Tryz.isAgg145
  z44 := Tryz.sizeOf145
  v44 := Tryz.zeroValue145
  t46 := Tryz.underlying76
  a46 := Tryz.isAgg76
  z46 := Tryz.sizeOf76
  v46 := Tryz.zeroValue76
  t53 := Tryz.underlying191
  a53 := Tryz.isAgg191
  z53 := Tryz.sizeOf191
  v53 := Tryz.zeroValue191
  t57 := Tryz.underlying195
  a57 := Tryz.isAgg195
  z57 := Tryz.sizeOf195
  v57 := Tryz.zeroValue195
  t63 := Tryz.underlying209
  a63 := Tryz.isAgg209
  z63 := Tryz.sizeOf209
  v63 := Tryz.zeroValue209
  t64 := Tryz.underlying210
  a64 := Tryz.isAgg210
  z64 := Tryz.sizeOf210
  v64 := Tryz.zeroValue210 }
end Go.Proofs
namespace Go.Rv
open Go.ChangeShapes Go.WideShapes Go.Deep Go.RowKit
def litParts (P : Program) (rec : TypeId -> DataW Unit -> Option (List Value)) : List (TypeId × Nat) -> List (DataW Unit) -> Nat -> Option (List Value)
 | [], [], _ => some []
 | (t, off) :: fs, d :: ds, o =>
  if off = o then (rec t d).bind fun v => if v.length = P.cellsOf t then (litParts P rec fs ds (o + v.length)).map (v ++ ·) else none else none
 | _, _, _ => none
def litC (P : Program) : Nat -> TypeId -> DataW Unit -> Option (List Value)
 | 0, _, _ => none
 | n + 1, t, d => match P.underlying t, d with
  | some .bool, .lit (.bool b) => some [.bool b]
  | some (.int k), .lit (.int _ z) => some [.int k z]
  | some .string, .lit (.string l) => some [.string ⟨l.toArray⟩]
  | some (.struct fs), .agg ds => (litParts P (litC P n) (fs.toList.map fun f => (f.type, f.offset)) ds 0).bind fun vs => if vs.length = P.cellsOf t then some vs else none
  | some (.array m e), .agg ds => (litParts P (litC P n) ((List.range m).map fun i => (e, i * P.cellsOf e)) ds 0).bind fun vs => if vs.length = P.cellsOf t then some vs else none
  | _, _ => none
section
variable {P : Program} {w : World}
abbrev tr (P : Program) (w : World) (b : Nat) (sp : Nat -> Bool) (hd : Bool) := DataW.trod (fun _ => ()) P w b sp hd
theorem litParts_eq {b : Nat} {sp : Nat -> Bool} {hd : Bool} {m : Nat} {rec : TypeId -> DataW Unit -> Option (List Value)} (hrec : ∀ t cs d ps v, tr P w b sp hd m t cs = some (d, ps) -> rec t d = some v -> cs = v) {cs : List Value} :
  ∀ (fs : List (TypeId × Nat)) (ds : List (DataW Unit)) (o : Nat) (vs : List Value), litParts P rec fs ds o = some vs ->
  (∀ (i : Nat) t off, fs[i]? = some (t, off) -> ∃ d ps, ds[i]? = some d /\ tr P w b sp hd m t ((cs.drop off).take (P.cellsOf t)) = some (d, ps)) -> o + vs.length = cs.length -> cs.drop o = vs
 | [], [], o, vs, h, _, hl => by
  simp only [litParts, qAf] at h
  subst h
  simp at hl
  simp [hl]
 | [], _ :: _, o, vs, h, _, _ => by simp [litParts] at h
 | _ :: _, [], o, vs, h, _, _ => by simp [litParts] at h
 | (t, off) :: fs, d :: ds, o, vs, h, H, hl => by
  simp only [litParts] at h
  split at h
  ·rename_i ho
   subst ho
   obtain ⟨v, hv, h⟩ := qAc.1 h
   split at h
   ·rename_i hvl
    obtain ⟨r, hr, rfl⟩ := qAl.1 h
    obtain ⟨d', ps, hd', ht⟩ := H 0 t off rfl
    simp at hd'
    subst hd'
    have h1 := hrec _ _ _ _ _ ht hv
    have h2 := litParts_eq hrec fs ds (off + v.length) r hr (fun i t' off' hi => by
     obtain ⟨d', ps, k1, k2⟩ := H (i + 1) t' off' (by simpa using hi)
     exact ⟨d', ps, by simpa using k1, k2⟩) (by simp at hl; omega)
    rw [← h2]
    have h3 : cs.drop off = (cs.drop off).take v.length ++ (cs.drop off).drop v.length := (List.take_append_drop _ _).symm
    rw [h3, List.drop_drop]
    rw [hvl] at *
    rw [h1]
   ·cases h
  ·cases h
theorem litC_eq {b : Nat} {sp : Nat -> Bool} {hd : Bool} : ∀ (n m : Nat) (t : TypeId) (cs : List Value) (d : DataW Unit) (ps : List MemPlace) (vs : List Value), tr P w b sp hd m t cs = some (d, ps) -> litC P n t d = some vs -> cs = vs
 | 0, _, _, _, _, _, _, _, h => by simp [litC] at h
 | n + 1, m, t, cs, d, ps, vs, ht, h => by
  simp only [litC] at h
  split at h
  ·rename_i hu
   obtain ⟨b', rfl, hx⟩ := DataW.trod_bool hu ht
   simp only [qAg, DataW.lit.injEq, Lit.bool.injEq] at hx
   simp only [qAf] at h
   rw [← h, ← hx.1]
  ·rename_i hu
   obtain ⟨b', rfl, hx, _⟩ := DataW.trod_int hu ht
   simp only [qAg, DataW.lit.injEq, Lit.int.injEq] at hx
   simp only [qAf] at h
   rw [← h, ← hx.1.2]
  ·rename_i hu
   obtain ⟨b', rfl, hx, _⟩ := DataW.trod_string hu ht
   simp only [qAg, DataW.lit.injEq, Lit.string.injEq] at hx
   simp only [qAf] at h
   rw [← h, hx.1]
  ·rename_i fs ds hu
   obtain ⟨xs, m', rfl, hx, hcl, hxl, hel⟩ := DataW.trod_struct hu ht
   simp only [qAg, DataW.agg.injEq] at hx
   obtain ⟨vs', h1, h⟩ := qAc.1 h
   split at h <;> first | cases h | skip
   rename_i hlen
   have := litParts_eq (w := w) (b := b) (sp := sp) (hd := hd) (m := m') (cs := cs) (fun t cs d ps v k1 k2 => litC_eq n m' t cs d ps v k1 k2) _ _ 0 vs h1 (fun i t' off hi => ?_) (by omega)
   ·simpa using this
   ·rw [qBc] at hi
    obtain ⟨f, hf, hfe⟩ := qAl.1 hi
    simp only [qAg] at hfe
    obtain ⟨rfl, rfl⟩ := hfe
    have hlt : i < fs.size := by have := (qAu.1 hf).1; simpa using this
    have he := hel i f (by rw [← Array.getElem?_toList]; exact hf)
    rw [qAs (by omega)] at he
    refine ⟨(xs[i]).1, (xs[i]).2, ?_, he⟩
    rw [hx.1, qBc, qAs (by omega)]
    rfl
  ·rename_i k e ds hu
   obtain ⟨xs, m', rfl, hx, hcl, hxl, hel⟩ := DataW.trod_array hu ht
   simp only [qAg, DataW.agg.injEq] at hx
   obtain ⟨vs', h1, h⟩ := qAc.1 h
   split at h <;> first | cases h | skip
   rename_i hlen
   have := litParts_eq (w := w) (b := b) (sp := sp) (hd := hd) (m := m') (cs := cs) (fun t cs d ps v k1 k2 => litC_eq n m' t cs d ps v k1 k2) _ _ 0 vs h1 (fun i t' off hi => ?_) (by omega)
   ·simpa using this
   ·rw [qBc] at hi
    obtain ⟨i', hi', hfe⟩ := qAl.1 hi
    have hlt : i < k := by have := (qAu.1 hi').1; simpa using this
    rw [List.getElem?_range hlt] at hi'
    injection hi' with hi'; subst hi'
    simp only [qAg] at hfe
    obtain ⟨rfl, rfl⟩ := hfe
    have he := hel i hlt
    rw [qAs (by omega)] at he
    refine ⟨(xs[i]).1, (xs[i]).2, ?_, he⟩
    rw [hx.1, qBc, qAs (by omega)]
    rfl
  ·cases h
def globA (P : Program) (t : TypeId) (d : DataW Unit) : Option AV := ((litC P 8 t d).bind fun vs => mapO ofValue vs).map .ref
theorem glob_rel {n : String} {g : Nat} {t : TypeId} {d : DataW Unit} {cs : Array Value} {b fuel : Nat} {sp : Nat -> Bool} {hd : Bool} {ps : List MemPlace} {v : AV} (hg : P.globalNamed n = some g) (hv : w.var? P n = some cs)
  (ht : tr P w b sp hd fuel t cs.toList = some (d, ps)) (ha : globA P t d = some v) : v ≠ .junk /\ VR (old w) [] w v (.pointer (some ⟨g, 0, none⟩)) := by
 unfold globA at ha
 obtain ⟨avs, h1, rfl⟩ := qAl.1 ha
 obtain ⟨vs, h2, h3⟩ := qAc.1 h1
 have hcs := litC_eq 8 fuel t cs.toList d ps vs ht h2
 obtain ⟨m1, m2⟩ := mapO_get h3
 have hcell : ∀ (i : Nat) c, avs[i]? = some c -> w.cell? ⟨g, 0 + i, none⟩ = some (vs.getD i undef) /\ VR (old w) [] w c (vs.getD i undef) := fun i c hi => by
  have hlt : i < vs.length := by rw [← m1]; exact (qAu.1 hi).1
  obtain ⟨a, k1, k2⟩ := m2 i vs[i] (qAs hlt)
  rw [hi] at k1
  injection k1 with k1; subst k1
  have hget : vs.getD i undef = vs[i] := by simp [List.getD, hlt]
  rw [hget]
  refine ⟨?_, ofValue_rel k2⟩
  rw [qBg, World.var?_cell hg hv i]
  rw [← Array.getElem?_toList, hcs, qAs hlt]
 refine ⟨by simp, .ref avs g 0 (fun i => vs.getD i undef) (fun h0 => ?_) (fun i c hi => (hcell i c hi).1) (fun i c hi => (hcell i c hi).2)⟩
 exact cell_block (hcell 0 _ (qAs h0)).1
theorem entry_glob {T : RvTold} {P : Program} (hp : PrimOk P (T.cfg P)) (hm : P.follows .mixedOrders = true) {f : Nat} {args : List AV} {v : AV} {h' : Heap} (hc : call (T.cfg P) f args [] = some (.ret v, h'))
  {w : World} (hcl : ∀ g v, T.glob g = some v -> ∀ h, freezeV h 0 40 v = some v) (hg : ∀ g v, T.glob g = some v -> v ≠ .junk /\ VR (old w) [] w v (.pointer (some ⟨g, 0, none⟩))) {vs : List Value} (H : VRs (old w) [] w args vs) : Calls P f vs.toArray w (fun e w' => Below w.heap.size w w' /\ ∃ u s', e = .returned u /\ VR s' h' w' v u) := by
 have G : GG (T.cfg P) (ordOk (T.cfg P)) { old w with good := ⟨goodOf (ordOk (T.cfg P)), fun _ _ => True, []⟩ } [] w := ⟨fun g x hx => (hg g x hx).2.regood _, rfl⟩
 have := RvTold.sound (T := T) (P := P) (fun g x hx => (hg g x hx).1) hcl hp hm hc (old_rel _ w) G (H.regood _)
 refine Calls.mono this fun e w' he => ?_
 obtain ⟨s', E, R, hv⟩ := he
 refine ⟨below_of_ext E, ?_⟩
 cases e with
 | returned u => exact ⟨u, s', rfl, hv⟩
 | panicked _ => exact hv.elim
 | outgrown => exact hv.elim
end
end Go.Rv
namespace Go.Rv
open Go.Maps Go.RowKit
def keysI : List (AV × AV) -> Option (List Int)
 | [] => some []
 | (.int k n, _) :: r => if k == .i64 && (Lit.int .i64 n).wf then (keysI r).map (n :: ·) else none
 | _ => none
theorem keysI_perm {es es0 : List (AV × AV)} {ks : List Int} (p : es0.Perm es) (h : keysI es = some ks) : ∃ ks0, keysI es0 = some ks0 /\ ks0.Perm ks := by
 let g : AV × AV -> Int := fun e => match e.1 with | .int _ n => n | _ => 0
 have fw : ∀ {es : List (AV × AV)} {ks : List Int}, keysI es = some ks -> ks = es.map g /\ ∀ e ∈ es, ∃ n, e.1 = .int .i64 n /\ (Lit.int .i64 n).wf = true := by
  intro es
  induction es with
  | nil => intro ks h; simp only [keysI, qAf] at h; subst h; exact ⟨rfl, fun e he => by simp at he⟩
  | cons e es ih =>
   intro ks h
   obtain ⟨k, v⟩ := e
   cases k <;> simp only [keysI, reduceCtorEq] at h
   rename_i kk n
   split at h
   ·rename_i hc
    simp only [qAa, beq_iff_eq] at hc
    obtain ⟨rfl, hwf⟩ := hc
    obtain ⟨r, hr, rfl⟩ := qAl.1 h
    obtain ⟨h1, h2⟩ := ih hr
    refine ⟨by rw [h1]; rfl, fun e he => ?_⟩
    rcases qAj.1 he with rfl | he
    ·exact ⟨n, rfl, hwf⟩
    ·exact h2 e he
   ·cases h
 have bw : ∀ {es : List (AV × AV)}, (∀ e ∈ es, ∃ n, e.1 = .int .i64 n /\ (Lit.int .i64 n).wf = true) -> keysI es = some (es.map g) := by
  intro es
  induction es with
  | nil => intro _; rfl
  | cons e es ih =>
   intro h
   obtain ⟨n, hn, hw⟩ := h e (qAi ..)
   obtain ⟨k, v⟩ := e
   dsimp only at hn
   subst hn
   simp only [keysI, hw, beq_self_eq_true, Bool.and_self, if_true, ih fun e he => h e (qAk _ he), qAo]
   rfl
 obtain ⟨h1, h2⟩ := fw h
 refine ⟨es0.map g, bw fun e he => h2 e (p.mem_iff.1 he), ?_⟩
 rw [h1]
 exact p.map _
def insI (x : Int) : List Int -> List Int
 | [] => [x]
 | y :: r => match decide (x <= y) with
  | true => x :: y :: r
  | false => y :: insI x r
def isort : List Int -> List Int
 | [] => []
 | x :: r => insI x (isort r)
theorem insI_perm (x : Int) : ∀ l, (insI x l).Perm (x :: l)
 | [] => List.Perm.refl _
 | y :: r => by
  simp only [insI]
  cases decide (x <= y) with
  | true => exact List.Perm.refl _
  | false => exact ((insI_perm x r).cons y).trans (List.Perm.swap x y r)
theorem isort_perm : ∀ l, (isort l).Perm l
 | [] => List.Perm.refl _
 | x :: r => (insI_perm x (isort r)).trans ((isort_perm r).cons x)
theorem insI_sorted (x : Int) : ∀ l, l.Pairwise (fun a b => leI a b = true) -> (insI x l).Pairwise (fun a b => leI a b = true)
 | [], _ => by simp [insI]
 | y :: r, h => by
  have h1 := List.pairwise_cons.1 h
  simp only [insI]
  cases hd : decide (x <= y) with
  | true =>
   have hxy : x <= y := by simpa using hd
   refine List.pairwise_cons.2 ⟨fun a ha => ?_, h⟩
   rcases qAj.1 ha with rfl | ha
   ·simpa [leI] using hxy
   ·have := h1.1 a ha
    simp only [leI, decide_eq_true_eq] at this ⊢
    omega
  | false =>
   have hxy : ¬ x <= y := by simpa using hd
   refine List.pairwise_cons.2 ⟨fun a ha => ?_, insI_sorted x r h1.2⟩
   rcases qAj.1 ((insI_perm x r).mem_iff.1 ha) with rfl | ha
   ·simp only [leI, decide_eq_true_eq]; omega
   ·exact h1.1 a ha
theorem isort_sorted : ∀ l, (isort l).Pairwise (fun a b => leI a b = true)
 | [] => by simp [isort]
 | x :: r => insI_sorted x _ (isort_sorted r)
theorem isort_eq {l l' : List Int} (h : l.Perm l') : l.mergeSort leI = isort l' := by
 have tr : ∀ a b c : Int, leI a b = true -> leI b c = true -> leI a c = true := fun a b c h1 h2 => by simp only [leI, decide_eq_true_eq] at *; exact Int.le_trans h1 h2
 have to : ∀ a b : Int, (leI a b || leI b a) = true := fun a b => by simp only [leI, Bool.or_eq_true, decide_eq_true_eq]; exact Int.le_total a b
 refine List.Perm.eq_of_pairwise (le := fun a b => leI a b = true) (fun a b _ _ h1 h2 => ?_) (List.pairwise_mergeSort tr to l) (isort_sorted l') (((List.mergeSort_perm l leI).trans h).trans (isort_perm l').symm)
 simp only [leI, decide_eq_true_eq] at h1 h2
 exact Int.le_antisymm h1 h2
def keysOut (l : List Int) : AV := match l with
 | [] => .lst [] 1 .nil
 | x :: r => .lst ((x :: r).map (AV.int .i64)) 1 .open
def sortedKeys (clo : Nat) (args : List AV) (h : Heap) : Option (CRes × Heap) :=
 match args with
 | [.clo g [.ptr o 0 gen]] =>
  if g = clo then
   (h.obj o gen).bind fun cs => match cs with
    | .map m :: _ => (h.mapAt m).bind fun es => (keysI es).bind fun ks => if es.length <= 1000000 then some (.ret (keysOut (isort ks)), h) else none
    | _ => none
  else none
 | _ => none
section
variable {P : Program} {C : Cfg} {s : Sim} {h : Heap} {w : World}
abbrev anyR : Value -> Option (DataW Unit × List MemPlace) := fun _ => some (.lit (.bool true), [])
theorem keysI_rel : ∀ {es : List (AV × AV)} {en : List MapEntry} {ks : List Int}, Ents s h w es en -> keysI es = some ks -> en.map (·.key) = ks.map encZ /\ ∀ n ∈ ks, (Lit.int .i64 n).wf = true
 | [], [], ks, _, hk => by
  simp only [keysI, qAf] at hk
  subst hk
  exact ⟨rfl, fun n hn => by simp at hn⟩
 | [], _ :: _, _, H, _ => by have := H.1; simp at this
 | _ :: _, [], _, H, _ => by have := H.1; simp at this
 | (k, v) :: es, m :: en, ks, H, hk => by
  obtain ⟨⟨h1, _⟩, ht⟩ := H.tail
  cases k <;> simp only [keysI, reduceCtorEq] at hk
  rename_i kk n
  split at hk
  ·rename_i hc
   simp only [qAa, beq_iff_eq] at hc
   obtain ⟨rfl, hwf⟩ := hc
   obtain ⟨r, hr, rfl⟩ := qAl.1 hk
   obtain ⟨h2, h3⟩ := keysI_rel ht hr
   generalize hmk : m.key = mk at h1
   cases h1
   refine ⟨?_, fun a ha => ?_⟩
   ·simp only [qAm, h2, hmk]
   ·rcases qAj.1 ha with rfl | ha
    ·exact hwf
    ·exact h3 a ha
  ·cases hk
theorem ownsMap_rel {kt b cl : Nat} {en : Array MapEntry} {ks : List Int} (hkt : P.underlying kt = some (.int .i64)) (hheap : w.heap[b]? = some (.map en cl)) (hS : MapKept.Stamped en cl) (hsz : en.size <= maxLen)
  (hkeys : (en.toList.map (·.key)).Perm (ks.map encZ)) (hwf : ∀ n ∈ ks, (Lit.int .i64 n).wf = true) :
  ∃ D0 : DataW Unit, w.ownsMap P kt anyR b en.size D0 /\ (intKeys D0).Perm ks /\ Maps.size D0 = en.size := by
 have hrd : ∀ x ∈ en.toList, ∃ n, n ∈ ks /\ x.key = encZ n /\ WideElems.rd P kt anyR x = some (.int .i64 n, .lit (.bool true)) := by
  intro x hx
  have : x.key ∈ en.toList.map (·.key) := qBl.2 ⟨x, hx, rfl⟩
  obtain ⟨n, hn, he⟩ := qBl.1 (hkeys.mem_iff.1 this)
  refine ⟨n, hn, he.symm, ?_⟩
  obtain ⟨key, val, born⟩ := x
  simp only at he
  subst he
  exact WideElems.rd_mk (R := anyR) (yv := (.lit (.bool true), [])) (keyOf_int_mk hkt (hwf n hn)) rfl
 refine ⟨.map ((en.toList.map (WideElems.rg P kt anyR)).foldr DataW.insert []), ⟨en, cl, hheap, ⟨hsz, hS, fun x hx => let ⟨n, _, _, h⟩ := hrd x hx; ⟨_, h⟩⟩, qAr _, rfl⟩, ?_, ?_⟩
 ·show (((en.toList.map (WideElems.rg P kt anyR)).foldr DataW.insert []).map fun p => intOf p.1).Perm ks
  refine ((WideShapes.sorted_perm _).map _).trans ?_
  rw [List.map_map]
  have : (en.toList.map ((fun p => intOf p.1) ∘ WideElems.rg P kt anyR)).Perm ks := by
   have h1 : en.toList.map ((fun p => intOf p.1) ∘ WideElems.rg P kt anyR) = (en.toList.map (·.key)).map (fun v => match v with | .int _ n => n | _ => 0) := by
    rw [List.map_map]
    refine List.map_congr_left fun x hx => ?_
    obtain ⟨n, _, hk, hr⟩ := hrd x hx
    simp only [Function.comp, WideElems.rg_of hr, hk, intOf]
   rw [h1]
   refine (hkeys.map _).trans ?_
   rw [List.map_map]
   simp [Function.comp_def, encZ]
  exact this
 ·show ((en.toList.map (WideElems.rg P kt anyR)).foldr DataW.insert []).length = en.size
  rw [(WideShapes.sorted_perm _).length_eq]
  simp
theorem ext_below {s : Sim} {h : Heap} {w w' : World} (R : Rel s h w) (B : Below w.heap.size w w') (g : Nat) (hg : w.heap.size <= g) (hg' : g < w'.heap.size) :
    Ext s h w { s with I := fun b => s.I b ∨ b = g } h w' /\ Rel { s with I := fun b => s.I b ∨ b = g } h w' := by
  have E : Ext s h w { s with I := fun b => s.I b ∨ b = g } h w' :=
    { size := B.size, far := fun b hb _ => B.block b hb, shape := fun b x hx => by rw [shape_of (B.block b (shape_lt hx))]; exact hx, imm := fun b hb => .inl hb, gen := fun _ g hg => ⟨g, hg, qAr _⟩,
      same := fun _ _ _ _ => ⟨fun _ h => h, rfl⟩, kind := fun _ h _ => h, own := fun o b hb => .inl ⟨o, hb⟩, os := B.os, tape := B.tape, output := B.output, kindL := fun _ h => h, good := rfl, old := fun o b _ hb => ⟨b, hb⟩, kept := fun _ _ _ => rfl, immOld := fun b hb hI => hI.elim .inl fun e => absurd hg (by omega) }
  refine ⟨E, R.inj, fun o b hb => ?_, fun o b hb hI => ?_, fun b hI => ?_⟩
  · obtain ⟨x, hx, hr⟩ := R.obj o b hb
    exact ⟨x, hx, hr.ext R.apart E (B.block b (R.lt hb))⟩
  · rcases hI with hI | rfl
    · exact R.apart o b hb hI
    · have := R.lt hb; omega
  · rcases hI with hI | rfl
    · exact Nat.lt_of_lt_of_le (R.imm b hI) B.size
    · exact hg'
def SortedSays (P : Program) (f clo kt : Nat) : Prop := ∀ (w : World) (Bm b nn : Nat) (D0 : DataW Unit), Bm < w.heap.size -> w.cell? ⟨Bm, 0, none⟩ = some (.map (some b)) -> w.ownsMap P kt anyR b nn D0 -> Maps.size D0 <= maxLen -> Maps.size D0 * 8 <= 140737488355328 ->
 Calls P f #[.func (.func clo) #[] #[.pointer (some ⟨Bm, 0, none⟩)]] w fun e w' => ∃ (v : Value) (ss : List Int), e = .returned v /\ ss.Perm (intKeys D0) /\
  w'.ownsRow w.heap.size kt 1 v ss.length ((ss.mergeSort (fun x y => decide (x <= y))).map encZ) /\ (v = .slice none 0 0 ↔ ss = []) /\ Below w.heap.size w w'
theorem sortedKeys_ok {f clo kt : Nat} (hS : SortedSays P f clo kt) (hkt : P.underlying kt = some (.int .i64)) {args : List AV} {res : CRes} {h' : Heap} (hp : sortedKeys clo args h = some (res, h')) {vs : List Value} (R : Rel s h w) (H : VRs s h w args vs) : h' = h /\ CallOk P f vs s h w res h' := by
  unfold sortedKeys at hp
  split at hp <;> first | cases hp | skip
  rename_i g o gen
  split at hp <;> first | cases hp | skip
  rename_i hg
  subst hg
  obtain ⟨cs, hcs, hp⟩ := qAc.1 hp
  split at hp <;> first | cases hp | skip
  rename_i m cr
  obtain ⟨es, hes, hp⟩ := qAc.1 hp
  obtain ⟨ks, hks, hp⟩ := qAc.1 hp
  by_cases hlen : es.length <= 1000000
  case neg => rw [if_neg hlen] at hp; cases hp
  rw [if_pos hlen] at hp
  simp only [qAf, qAg] at hp
  obtain ⟨rfl, rfl⟩ := hp
  refine ⟨rfl, ?_⟩
  obtain ⟨v0, hvs0⟩ := List.length_eq_one_iff.1 (show vs.length = 1 by rw [← H.1]; rfl)
  subst hvs0
  obtain ⟨v1, hv1, hvr⟩ := H.2 0 _ rfl
  have hv1 : v0 = v1 := by simpa using hv1
  subst hv1
  cases hvr with
  | clo _ _ us hl hr =>
  have hul : us.size = 1 := by simpa using hl.symm
  have h0 := hr 0 _ rfl
  have hus : us = #[us.getD 0 undef] := by
    apply Array.ext
    · simp [hul]
    · intro i h1 h2
      have : i = 0 := by omega
      subst this
      simp [h1]
  generalize us.getD 0 undef = pv at h0 hus
  subst hus
  have hgo := (genOf_obj hcs)
  cases h0 with
  | ptrOld _ _ _ g' a k1 k2 => have := hgo.1; rw [this] at k1; injection k1; omega
  | ptr _ _ _ bm k1 k2 =>
  obtain ⟨x, hx, hxr⟩ := R.obj o bm k2
  rw [hgo.2.1] at hx
  injection hx with hx; subst hx
  obtain ⟨bc, el, q1, q2, q3⟩ := hxr
  obtain ⟨mv, hmv, hmr⟩ := q3 0 _ rfl
  obtain ⟨b, en, cl, es0, rfl, hb, hheap, hp0, hE, hSt⟩ := map_obj R hes hmr
  have hcell : w.cell? ⟨bm, 0, none⟩ = some (.map (some b)) := by
    unfold World.cell?
    rw [q1]
    simpa using hmv
  obtain ⟨ks0, hks0, hpk⟩ := keysI_perm hp0.1 hks
  obtain ⟨e1, e2⟩ := keysI_rel hE hks0
  have hel : en.size = es.length := by have := hE.1; rw [← hp0.1.length_eq]; simpa using this.symm
  obtain ⟨D0, d1, d2, d3⟩ := ownsMap_rel hkt hheap hSt (by rw [hel]; simp only [maxLen]; omega) (List.Perm.of_eq e1) e2
  replace d2 := d2.trans hpk
  have hc := hS w bm b _ D0 (R.lt k2) hcell d1 (by rw [d3, hel]; simp only [maxLen]; omega) (by rw [d3, hel]; omega)
  refine Calls.mono hc fun e w' he => ?_
  obtain ⟨v, ss, rfl, p1, p2, p3, p4⟩ := he
  have hperm : ss.Perm ks := p1.trans d2
  have hsort : ss.mergeSort (fun x y => decide (x <= y)) = isort ks := isort_eq hperm
  obtain ⟨l1, l2⟩ := p2
  cases hk : isort ks with
  | nil =>
    have hksn : ks = [] := by
      have := (isort_perm ks).length_eq
      rw [hk] at this
      exact List.length_eq_zero_iff.1 this.symm
    have hssn : ss = [] := by
      have := hperm.length_eq
      rw [hksn] at this
      exact List.length_eq_zero_iff.1 this
    have hv := p3.2 hssn
    subst hv
    have E : Ext s h w s h w' :=
      { size := p4.size, far := fun b hb _ => p4.block b hb, shape := fun b x hx => by rw [shape_of (p4.block b (shape_lt hx))]; exact hx, imm := fun b hb => hb, gen := fun _ g hg => ⟨g, hg, qAr _⟩,
        same := fun _ _ _ _ => ⟨fun _ h => h, rfl⟩, kind := fun _ h _ => h, own := fun o b hb => .inl ⟨o, hb⟩, os := p4.os, tape := p4.tape, output := p4.output, kindL := fun _ h => h, good := rfl, old := fun o b _ hb => ⟨b, hb⟩, kept := fun _ _ _ => rfl }
    refine ⟨s, E, ⟨R.inj, fun o b hb => ?_, R.apart, fun b hI => Nat.lt_of_lt_of_le (R.imm b hI) p4.size⟩, .lstNil 1⟩
    obtain ⟨x, hx, hr⟩ := R.obj o b hb
    exact ⟨x, hx, hr.ext R.apart E (p4.block b (R.lt hb))⟩
  | cons x r =>
    rw [hsort, hk] at l1 l2
    rcases l2 with ⟨rfl, hn⟩ | ⟨g', cap, cur, rfl, hge, hcur, hle, hmax, hcs2, htake⟩
    · rw [hn] at l1; simp at l1
    have hlt : g' < w'.heap.size := (qAq.1 hcur).1
    obtain ⟨E, R'⟩ := ext_below R p4 g' hge hlt
    refine ⟨_, E, R', ?_⟩
    have hll : ss.length = (x :: r).length := by simp only [qBn] at l1; omega
    have hval : ∀ i (c : Int), (x :: r)[i]? = some c -> w'.cell? ⟨g', 0 + i * 1 + 0, none⟩ = some (.int .i64 c) := by
      intro i c hi
      have h1 : (cur.toList.take (ss.length * 1))[i]? = some (encZ c) := by rw [htake, qBc, hi]; rfl
      have h2 : cur.toList[i]? = some (encZ c) := by
        rw [List.getElem?_take] at h1
        split at h1
        · exact h1
        · cases h1
      unfold World.cell?
      simp only [qBg, Nat.mul_one, Nat.add_zero]
      rw [hcur]
      simpa using h2
    have key := VR.lst (s := { s with I := fun b => s.I b ∨ b = g' }) (h := h) (w := w') ((x :: r).map (AV.int .i64)) 1 .open g' 0 cap (fun i _ => .int .i64 ((x :: r).getD i 0)) (fun _ => .inr rfl) trivial (by simp only [qBn]; omega)
      (fun i y hi => by
        rw [qBc] at hi
        obtain ⟨c, _, rfl⟩ := qAl.1 hi
        rfl)
      (fun i j y z hi hj => by
        rw [qBc] at hi
        obtain ⟨c, hc, rfl⟩ := qAl.1 hi
        have hj0 : j = 0 := by
          have := (qAu.1 hj).1
          simp [AV.cells] at this; exact this
        subst hj0
        rw [hval i c hc]
        simp [List.getD, hc])
      (fun i j y z hi hj => by
        rw [qBc] at hi
        obtain ⟨c, hc, rfl⟩ := qAl.1 hi
        have hj0 : j = 0 := by
          have := (qAu.1 hj).1
          simp [AV.cells] at this; exact this
        subst hj0
        simp only [AV.cells, qBe, qAf] at hj
        subst hj
        simp only [List.getD, hc, Option.getD_some]
        exact .int _ _)
    simp only [qBn] at key
    rw [hll]
    exact key
end
end Go.Rv
namespace Go.Proofs
open Go.RowKit Go.Maps Go.Sort Go.Shelf
theorem Tryz.sortsA (m : Nat) : AnyZI.SortsIn Tryz.prog Tryz.sortedA_ren Fence.wide m :=
  ⟨fun blk off cap ss W hH hblk hsz => callsIn_wide.2 (AnyM.slices_Sort_int Tryz.sortA blk off cap ss W hH hblk hsz),
   fun p cap W => callsIn_wide.2 (AnyM.slices_Sort_int_none Tryz.sortA p cap W)⟩
theorem Tryz.sortedSays : Go.Rv.SortedSays Tryz.prog 66 98 3 := fun w Bm b nn D0 hBm hm hown hmax hbytes => by
 have hseq : SeqGives Fence.wide 2 Tryz.prog 98 #[.pointer (some ⟨Bm, 0, none⟩)] encZ (fun ss => ss.Perm (intKeys D0)) (Maps.size D0) w :=
  AnyZI.keys_gives (ρ := Tryz.keysA_ren) { Tryz.keysA with } Fence.wide _ trivial rfl (by omega) Bm b nn D0 w hBm hm hown
 have cS := AnyZI.sorted_in Tryz.sortedA Fence.wide 5 trivial trivial trivial trivial rfl (by omega) (Tryz.sortsA _) (enters_of Tryz.func97 (by kernel_rfl) rfl) 98 #[.pointer (some ⟨Bm, 0, none⟩)] trivial (enters_of Tryz.func98 (by kernel_rfl) rfl) _ _ hmax hbytes _ hseq
 exact (callsIn_wide (n := 5)).1 cS
end Go.Proofs
