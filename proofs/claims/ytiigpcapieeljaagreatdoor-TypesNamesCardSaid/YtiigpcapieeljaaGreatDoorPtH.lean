/-
  Closed calls: orders looked at ahead; a call whose answer is known, as one step.
-/
import Derived.Test.YtiigpcapieeljaaGreatDoorRvFastS
import Derived.Test.YtiigpcapieeljaaGreatDoorPtE
import Derived.Test.YtiigpcapieeljaaGreatDoorPtF
set_option linter.unusedSectionVars false
set_option linter.unusedSimpArgs false
set_option linter.unusedVariables false
set_option linter.defProp false
set_option linter.unusedSimpArgs false
set_option linter.unusedVariables false
namespace Go.Rv

section
variable {C C' : Cfg}
theorem loud_same (h1 : C.pure = C'.pure) (h2 : C.imm = C'.imm) (h3 : C.quiet = C'.quiet) (f : Nat) (o : Oper) : loudOp C f o = loudOp C' f o := by unfold loudOp; rw [h1, h2, h3]
theorem touch_same (h2 : C.imm = C'.imm) (h3 : C.quiet = C'.quiet) (h5 : C.ty = C'.ty) (f : Nat) (o : Oper) : touchOp C f o = touchOp C' f o := by unfold touchOp; rw [h2, h3, h5]
theorem heapC_same (h1 : C.pure = C'.pure) (h2 : C.imm = C'.imm) (h3 : C.quiet = C'.quiet) (h5 : C.ty = C'.ty) (f : Nat) (x y : Oper) : heapC C f x y = heapC C' f x y := by
  unfold heapC
  rw [loud_same h1 h2 h3, loud_same h1 h2 h3, touch_same h2 h3 h5, touch_same h2 h3 h5]
theorem looseP_same (h1 : C.pure = C'.pure) (h2 : C.imm = C'.imm) (h3 : C.quiet = C'.quiet) (h4 : C.loose = C'.loose) (f i : Nat) (x y : Oper) : looseP C f i x y = looseP C' f i x y := by
  unfold looseP
  rw [loud_same h1 h2 h3, h4]
theorem looseI_same (h4 : C.loose = C'.loose) (f : Nat) (ops : Array Oper) (i : Nat) : looseI C f ops i = looseI C' f ops i := by unfold looseI; rw [h4]
theorem pairs_same (h1 : C.pure = C'.pure) (h2 : C.imm = C'.imm) (h3 : C.quiet = C'.quiet) (h4 : C.loose = C'.loose) (h5 : C.ty = C'.ty) (f : Nat) (ops : Array Oper) (b : Array Nat) : ∀ l, pairsOk C f ops b l = pairsOk C' f ops b l
  | [] => rfl
  | i :: r => by
    simp only [pairsOk, pairs_same h1 h2 h3 h4 h5 f ops b r, heapC_same h1 h2 h3 h5, looseP_same h1 h2 h3 h4, looseI_same h4]
theorem okB_same (h1 : C.pure = C'.pure) (h2 : C.imm = C'.imm) (h3 : C.quiet = C'.quiet) (h4 : C.loose = C'.loose) (h5 : C.ty = C'.ty) (f : Nat) (fn : Func) (b : Code) : okB C f fn b = okB C' f fn b := by
  have : ordOk C f = ordOk C' f := by
    funext ops
    simp only [ordOk, pairs_same h1 h2 h3 h4 h5]
  unfold okB
  rw [this]
theorem fnOk_same (h1 : C.pure = C'.pure) (h2 : C.imm = C'.imm) (h3 : C.quiet = C'.quiet) (h4 : C.loose = C'.loose) (h5 : C.ty = C'.ty) (P : Program) (f : Nat) : fnOk P C f = fnOk P C' f := by
  unfold fnOk
  simp only [okB_same h1 h2 h3 h4 h5]
end

/-- Functions whose orders were looked at. -/
def hasN (l : List Nat) (f : Nat) : Bool := l.any (Nat.beq f)
noncomputable def fnsL (P : Program) (l : List Nat) (f : Nat) : Option FI := match hasN l f with
  | true => fnsB P f
  | false => none
theorem fnsL_ok {P : Program} {T T0 : RvTold} {l : List Nat} (hl : l.all (fnOk P (T0.bare P)) = true) (h1 : T.pure = T0.pure) (h2 : T.imm = T0.imm) (h3 : T.quiet = T0.quiet) (h4 : T.loose = T0.loose) {f : Nat} {fi : FI} (hf : fnsL P l f = some fi) : (T.cfg P).fn f = some fi := by
  unfold fnsL at hf
  cases hh : hasN l f with
  | false => rw [hh] at hf; cases hf
  | true =>
    rw [hh] at hf
    simp only at hf
    obtain ⟨x, hx, hb⟩ := List.any_eq_true.1 hh
    obtain rfl := Nat.eq_of_beq_eq_true hb
    have := List.all_eq_true.1 hl f hx
    show fnsOf P (T.bare P) f = _
    rw [fnsB_eq (by rw [fnOk_same (C := T.bare P) (C' := T0.bare P) h1 h2 h3 h4 rfl]; exact this)]
    exact hf

/-- Taken, told twice. -/
abbrev Taken := Nat → Option ((List AV → Rdr → Nat → Option (CRes × Eff)) × (List AV → Heap → Option (CRes × Heap)))
def Taken.q (S : Taken) : PrimT := fun f => match S f with
  | some x => some x.1
  | none => none
def Taken.p (S : Taken) (f : Nat) : Option (List AV → Heap → Option (CRes × Heap)) := match S f with
  | some x => some x.2
  | none => none

theorem steps_twin {P : Program} {T T0 : RvTold} {S : Taken} {l : List Nat} (hS : ∀ f q p, S f = some (q, p) → TwinP q p) (hp : T.prim = S.p) (hl : l.all (fnOk P (T0.bare P)) = true) (h1 : T.pure = T0.pure) (h2 : T.imm = T0.imm) (h3 : T.quiet = T0.quiet) (h4 : T.loose = T0.loose) :
    TwinOk (T.cfg P) S.q (fnsL P l) (fun _ => none) where
  whole f q hq := by cases hq
  prim f q hq := by
    unfold Taken.q at hq
    cases hs : S f with
    | none => rw [hs] at hq; cases hq
    | some x =>
      rw [hs] at hq
      simp only [Option.some.injEq] at hq
      subst hq
      refine ⟨x.2, ?_, hS f x.1 x.2 hs⟩
      show T.prim f = _
      rw [hp]
      unfold Taken.p
      rw [hs]
  fn f fi hq hf := by
    refine ⟨?_, fnsL_ok hl h1 h2 h3 h4 hf⟩
    show T.prim f = none
    rw [hp]
    unfold Taken.q at hq
    unfold Taken.p
    cases hs : S f with
    | none => rfl
    | some x => rw [hs] at hq; cases hq

section
variable {P : Program}
/-- A call without arguments that was run on the empty heap: on any heap it answers the same. -/
theorem closed_call {T : RvTold} (hp : PrimOk P (T.cfg P)) (hm : P.follows .mixedOrders = true) (hcl : ∀ g v, T.glob g = some v → ∀ h, freezeV h 0 40 v = some v) (hgk : ∀ g v, T.glob g = some v → v ≠ .junk) {f : Nat} {v : AV} {h0 : Heap} (hpl : v.plain = true)
    (hc : call (T.cfg P) f [] [] = some (.ret v, h0)) {C2 : Cfg} (hG : C2.glob = T.glob) {s : Sim} {h : Heap} {w : World} (R : Rel s h w) (G : Glob C2 s h w) : CallOk P f [] s h w (.ret v) h := by
  let s0 : Sim := { s.cut 0 with good := ⟨goodOf (ordOk (T.cfg P)), fun _ _ => True, []⟩ }
  have Rz := rel_zero R
  have R0 : Rel s0 [] w := ⟨Rz.inj, fun o b hb => by simp [s0, Sim.cut] at hb, fun o b hb => by simp [s0, Sim.cut] at hb, Rz.imm⟩
  have G0 : GG (T.cfg P) (ordOk (T.cfg P)) s0 [] w := ⟨fun g x hg => (freeze_zero R (hcl g x hg h) (G g x (by rw [hG]; exact hg))).regood _, rfl⟩
  have run := RvTold.sound (T := T) (P := P) hgk hcl hp hm hc (vs := []) R0 G0 ⟨rfl, fun i c hi => by simp at hi⟩
  refine Calls.mono run fun e w' he => ?_
  obtain ⟨s', E, R', hv⟩ := he
  obtain ⟨E2, R2⟩ := ext_same R E.size (fun b hb => E.far b hb (fun o ho => by simp [s0, Sim.cut] at ho)) E.os E.tape E.output
  refine ⟨s, E2, R2, ?_⟩
  cases e with
  | returned u => exact plain_rel v hpl hv
  | panicked _ => exact hv.elim
  | outgrown => exact hv.elim

theorem const_ok {T : RvTold} (hp : PrimOk P (T.cfg P)) (hm : P.follows .mixedOrders = true) (hcl : ∀ g v, T.glob g = some v → ∀ h, freezeV h 0 40 v = some v) (hgk : ∀ g v, T.glob g = some v → v ≠ .junk) {f : Nat} {v : AV} {h0 : Heap} (hpl : v.plain = true)
    (hc : call (T.cfg P) f [] [] = some (.ret v, h0)) {C2 : Cfg} (hG : C2.glob = T.glob) {args : List AV} {h h' : Heap} {res : CRes} (hq : constP v args h = some (res, h')) {s : Sim} {w : World} {vs : List Value} (R : Rel s h w) (G : Glob C2 s h w) (H : VRs s h w args vs) : CallOk P f vs s h w res h' := by
  cases args with
  | cons a r => cases hq
  | nil =>
    simp only [constP, Option.some.injEq, Prod.mk.injEq] at hq
    obtain ⟨rfl, rfl⟩ := hq
    have : vs = [] := List.length_eq_zero_iff.1 H.1.symm
    subst this
    exact closed_call hp hm hcl hgk hpl hc hG R G

theorem prims_of {T : RvTold} {S : Taken} (hT : T.prim = S.p) (hpu : ∀ f, T.pure f = false) (hS : ∀ f q p, S f = some (q, p) → Known P f ∧ ∀ args h res h', p args h = some (res, h') → ∀ s w vs, Rel s h w → Glob (T.cfg P) s h w → VRs s h w args vs → CallOk P f vs s h w res h') : PrimOk P (T.cfg P) := fun f p hp => by
  have hp : T.prim f = some p := hp
  rw [hT] at hp
  unfold Taken.p at hp
  cases hs : S f with
  | none => rw [hs] at hp; cases hp
  | some x =>
    rw [hs] at hp
    simp only [Option.some.injEq] at hp
    subst hp
    obtain ⟨k1, k2⟩ := hS f x.1 x.2 hs
    refine ⟨k1, fun hpure => ?_, k2⟩
    have : T.pure f = true := hpure
    rw [hpu f] at this
    cases this
end
end Go.Rv

/-
  The quick twin once more, each part of the code gone through once and kept.
-/
set_option linter.unusedSimpArgs false
set_option linter.unusedVariables false
namespace Go.Rv
noncomputable section

variable (C : Cfg)
abbrev FetchF := TE → (AV → Res) → Res
def fetchB : Operand → Option (Bx FetchF)
  | .tmp t => (accB (Nat.succ t) t).use fun g => some ⟨fun E k => (g E).forceJ k⟩
  | .const v => match ofValue v with
    | some c => some ⟨fun _ k => k c⟩
    | none => none
  | .func f => some ⟨fun _ k => k (.clo f [])⟩
  | .global _ => none
theorem fetchB_eq (x : Operand) : (fetchB x).map Bx.fn = fetchT x := by
  cases x with
  | tmp t =>
    rfl
  | const v =>
    simp only [fetchB, fetchT]
    cases ofValue v <;> rfl
  | func f => rfl
  | global g => rfl
def getsB (x : Option (Bx FetchF)) (k : FetchF → Option Quick) : Option Quick := match x with
  | some b => b.use k
  | none => none
theorem getsB_eq (x : Operand) (k : FetchF → Option Quick) : getsB (fetchB x) k = (fetchT x).bind k := by
  rw [← fetchB_eq]
  cases fetchB x <;> rfl

/-- The operation, where it is one of the frequent ones. -/
def quickB (f : Nat) (ops : Array Oper) (o : Oper) (d : Nat) : Option Quick := (setB (Nat.succ d) d).use fun st => match o.op with
  | .move x => getsB (fetchB x) fun gx => some fun E H n k => gx E fun v => k (st v E) H n
  | .assign x => getsB (fetchB x) fun gx => some fun E H n k => gx E fun v => k (st v E) H n
  | .binOp op _ x y _ => match arithT op with
    | some ar => getsB (fetchB x) fun gx => getsB (fetchB y) fun gy => some fun E H n k => gx E fun u => gy E fun v => match u, v with
      | .int ka a, .int kb b => Bool.rec (motive := fun _ => Res) (.bad f 17000000) ((ar ka a b).force fun z => k (st z E) H n) (kindEq ka kb)
      | _, _ => Rv.stepT C f ops o E H n k
    | none => none
  | .load t a => match isPlain C t, (C.quiet f d) with
    | true, false => getsB (fetchB a) fun ga => some fun E H n k => ga E fun v => match v with
      | .ptr p off g => (match H.get none p with
        | some (.ob (.cells cs g')) => Bool.rec (motive := fun _ => Res) (.bad f 17000001) (nthT cs off fun z => k (st z E) H n) (Nat.beq g' g)
        | _ => .bad f 17000002)
      | _ => Rv.stepT C f ops o E H n k
    | _, _ => none
  | .fieldAddr t x j => match fieldOff C t j with
    | some off => getsB (fetchB x) fun gx => some fun E H n k => gx E fun v => match v with
      | .ptr p off' g => (match H.get none p with
        | some (.ob (.cells cs g')) => Bool.rec (motive := fun _ => Res) (.bad f 17000003) (k (st (.ptr p (Nat.add off' off) g) E) H n) (Nat.beq g' g)
        | _ => .bad f 17000004)
      | _ => Rv.stepT C f ops o E H n k
    | none => none
  | _ => none
theorem quickB_eq (f : Nat) (ops : Array Oper) (o : Oper) (d : Nat) : quickB C f ops o d = quickT C f ops o d := by
  unfold quickB
  rw [Bx.use_eq]
  unfold quickT
  generalize o.op = op
  cases op <;> first | rfl | skip
  case move x => simp only [getsB_eq]; cases fetchT x <;> rfl
  case assign x => simp only [getsB_eq]; cases fetchT x <;> rfl
  case binOp op t x y t' =>
    simp only [getsB_eq]
    cases arithT op <;> cases fetchT x <;> cases fetchT y <;> rfl
  case load t a =>
    simp only [getsB_eq]
    cases isPlain C t <;> cases C.quiet f d <;> cases fetchT a <;> rfl
  case fieldAddr t x j =>
    simp only [getsB_eq]
    cases fieldOff C t j <;> cases fetchT x <;> rfl
def stageB (f : Nat) (ops : Array Oper) (o : Oper) : Option Quick := match o.guard, o.dst, noLoose C f o with
  | none, some d, true => quickB C f ops o d
  | _, _, _ => none
theorem stageB_eq (f : Nat) (ops : Array Oper) (o : Oper) : stageB C f ops o = stageT C f ops o := by
  unfold stageB stageT
  cases o.guard <;> cases o.dst <;> cases noLoose C f o <;> first | rfl | exact quickB_eq C f ops o _

/-- The operations once more, each in a box. -/
def opFB (f : Nat) (d : Option Nat) : Op → Bx ((Operand → Option AV) → Rdr → Nat → Option (AV × Eff))
  | .move x => ⟨fun ev _ _ => (ev x).bind fun v => some (v, .keep)⟩
  | .assign x => ⟨fun ev _ _ => (ev x).bind fun v => some (v, .keep)⟩
  | .pick c a b => ⟨fun ev _ _ => (ev c).bind fun c => match c with
    | .bool true => (ev a).bind fun v => some (v, .keep)
    | .bool false => (ev b).bind fun v => some (v, .keep)
    | _ => none⟩
  | .alloc t => ⟨fun _ _ n => (C.ty t).bind fun ti => if ti.zero.length == ti.size then some (.ptr n 0 0, .push (.cells ti.zero 0)) else none⟩
  | .box t x => ⟨fun ev _ n => (C.ty t).bind fun ti => (ev x).bind fun v => if v.cells.length == ti.size then
      if (d.map (C.imm f)).getD false then some (.ref v.cells, .keep) else some (.ptr n 0 0, .push (.cells v.cells 0))
    else none⟩
  | .build t parts => ⟨fun ev _ _ => (mapO (fun (p : Nat × Operand) => (ev p.2).map (p.1, ·)) parts.toList).bind fun ps => (buildA C t ps).bind fun v => some (v, .keep)⟩
  | .buildSlice t len parts => ⟨fun ev _ n => (mapO (fun (p : Nat × Operand) => (ev p.2).map (p.1, ·)) parts.toList).bind fun ps => (C.ty t).bind fun ti => match ti.td with
    | .slice el => (C.ty el).bind fun ti =>
      if ti.zero.length != ti.size || decide (len * ti.size > 16777216) then none else
      (fillA (fun i => some (i * ti.size, ti.size)) (copies len ti.zero) ps).bind fun cs =>
      if (d.map (C.imm f)).getD false then some (.lst (group len cs ti.size) ti.size (.exact len), .keep)
      else some (.msl n 0 len ti.size 0 (some len), .push (.cells cs 0))
    | _ => none⟩
  | .load t a => ⟨fun ev R _ => (ev a).bind fun x => if (d.map (C.quiet f)).getD false && !x.isRef then none else (loadF C R t x).bind fun v => some (v, .keep)⟩
  | .store t a x => ⟨fun ev R _ => (ev a).bind fun a => (ev x).bind fun x => (storeF C R t a x).bind fun y => some (.tup [], y)⟩
  | .nilCheck x => ⟨fun ev R _ => (ev x).bind fun v => match v with
    | .ptr o off g => if R.live o g then some (.ptr o off g, .keep) else none
    | .ref cs => some (.ref cs, .keep)
    | .clo f cs => some (.clo f cs, .keep)
    | .bnd f cs => some (.bnd f cs, .keep)
    | .yld l => some (.yld l, .keep)
    | _ => none⟩
  | .binOp op t x y _ => ⟨fun ev R _ => (ev x).bind fun u => if nilI y then (nilIA C op t u).bind fun v => some (v, .keep) else (ev y).bind fun y => (binF C R op t u y).bind fun v => some (v, .keep)⟩
  | .unOp op _ x => ⟨fun ev _ _ => (ev x).bind fun x => (unA op x).bind fun v => some (v, .keep)⟩
  | .convert src dst x => ⟨fun ev R _ => (ev x).bind fun x => (convF C R src dst x).bind fun v => some (v, .keep)⟩
  | .makeInterface t x => ⟨fun ev _ _ => (C.ty t).bind fun ti => match ti.td with
    | .iface => none
    | _ => (ev x).bind fun v => some (.iface t v, .keep)⟩
  | .makeFunc (.func g) first caps => ⟨fun ev _ _ => if first.isEmpty then (mapO ev caps.toList).bind fun cs => some (.clo g cs, .keep) else if caps.isEmpty then (mapO ev first.toList).bind fun cs => some (.bnd g cs, .keep) else none⟩
  | .makeSlice t l c => ⟨fun ev _ n => (ev l).bind fun l => (ev c).bind fun c => makeSliceF C n t l c⟩
  | .makeMap t none => ⟨fun _ _ n => (C.ty t).bind fun _ => some (.map n, .push (.map []))⟩
  | .lookup t x k ok => ⟨fun ev R _ => (ev x).bind fun x => (ev k).bind fun k => (lookupF C R t x k ok).bind fun v => some (v, .keep)⟩
  | .mapUpdate t m k x => ⟨fun ev R _ => (ev m).bind fun m => (ev k).bind fun k => (ev x).bind fun x => (updateF C R t m k x).bind fun y => some (.tup [], y)⟩
  | .insert t m k x => ⟨fun ev R _ => (ev m).bind fun m => (ev k).bind fun k => (ev x).bind fun x => (updateF C R t m k x).bind fun y => some (.tup [], y)⟩
  | .slice t x lo hi mx => ⟨fun ev R _ => (match lo with | none => some none | some y => (ev y).map some).bind fun lo => (match hi with | none => some none | some y => (ev y).map some).bind fun hi =>
    if mx.isSome then none else (ev x).bind fun x => (sliceF C R t x lo hi).bind fun v => some (v, .keep)⟩
  | .fieldAddr t x k => ⟨fun ev R _ => (ev x).bind fun x => (fieldAddrF C R t x k).bind fun v => some (v, .keep)⟩
  | .field t x k => ⟨fun ev _ _ => (ev x).bind fun x => (fieldA C t x k).bind fun v => some (v, .keep)⟩
  | .indexAddr t x i => ⟨fun ev R _ => (ev x).bind fun x => (ev i).bind fun i => (indexAddrF C R t x i).bind fun v => some (v, .keep)⟩
  | .index t x i => ⟨fun ev _ _ => (ev x).bind fun x => (ev i).bind fun i => (indexA C t x i).bind fun v => some (v, .keep)⟩
  | .range t x => ⟨fun ev R n => (C.ty t).bind fun ti => (ev x).bind fun x => match ti.td, x with
    | .map _ _, .map o => (R.map o).bind fun es => some (.ptr n 0 0, .both o (.cells [] 1) (.iter 0 es))
    | _, _ => none⟩
  | .entry x => ⟨fun ev R _ => (ev x).bind fun x => match x with
    | .ptr o 0 0 => (R.iter o).bind fun q => match q with
      | (2, [p]) => some (.tup [p.1, p.2], .keep)
      | _ => none
    | _ => none⟩
  | .extract t i => ⟨fun ev _ _ => (ev t).bind fun t => match t with
    | .tup vs => (vs[i]?).bind fun v => some (v, .keep)
    | _ => none⟩
  | .typeAssert x _ t true => ⟨fun ev _ _ => (C.ty t).bind fun ti => (ev x).bind fun v => (part ti ti.zero).bind fun z => match ti.td, v with
    | .iface, _ => none
    | _, .iface t' u => some (.tup (if t' == t then [u, .bool true] else [z, .bool false]), .keep)
    | _, .nilIface => some (.tup [z, .bool false], .keep)
    | _, _ => none⟩
  | .call { callee := .builtin b, args, argTypes } => ⟨fun ev R n => (mapO ev args.toList).bind fun vs => match b, vs with
    | .len, [x] => (argTypes[0]?).bind fun t => (C.ty t).bind fun ti => (lenF R ti.td x).bind fun n => some (.int .i64 n, .keep)
    | .append, [s, y] => match argTypes.toList with
      | [t, t'] => if t != t' then appendZF C n t t' s y else (C.ty t).bind fun ti => match ti.td with
        | .slice el => (C.ty el).bind fun te => (elemsF R y).bind fun ys => appendF R n te.size s ys
        | _ => none
      | _ => none
    | b, vs => moreF C R b argTypes.toList vs⟩
  | _ => ⟨fun _ _ _ => none⟩
theorem opFB_eq (f : Nat) (d : Option Nat) (op : Op) : (opFB C f d op).fn = opF C f d op := by
  cases op <;> first | rfl | skip
  case makeFunc fn first caps => cases fn <;> rfl
  case makeMap t r => cases r <;> rfl
  case typeAssert x t t' ok => cases ok <;> rfl
  case call c =>
    obtain ⟨cal, args, ats⟩ := c
    cases cal <;> rfl

def guardB (ops : Array Oper) (o : Oper) : Bx (TE → Option Bool) := match o.guard with
  | none => ⟨fun _ => some true⟩
  | some (j, want) => match (ops[j]?).bind (·.dst) with
    | none => ⟨fun _ => some false⟩
    | some t => (accB (Nat.succ t) t).use fun g => ⟨fun E => match g E with
      | .bool b => some (b == want)
      | .tup [] => some false
      | _ => none⟩
theorem guardB_eq (ops : Array Oper) (o : Oper) : (guardB ops o).fn = fun E => wantT ops E o := by
  funext E
  unfold guardB wantT
  cases o.guard with
  | none => rfl
  | some jw =>
    obtain ⟨j, want⟩ := jw
    simp only
    cases (ops[j]?).bind (·.dst) with
    | none => rfl
    | some t =>
      simp only [Option.map_some]
      show (match accT t E with | .bool b => some (b == want) | .tup [] => some false | _ => none) = _
      rw [accT_eq]
      generalize E.get .junk t = v
      cases v <;> first | rfl | skip
      rename_i cs
      cases cs <;> rfl

/-- The evaluation of an operand. -/
def evB (x : Operand) : Bx (TE → Option AV) := match x with
  | .tmp t => (accB (Nat.succ t) t).use fun g => ⟨fun E => (g E).got⟩
  | .const v => match ofValue v with
    | some c => ⟨fun _ => some c⟩
    | none => ⟨fun _ => none⟩
  | .func f => ⟨fun _ => some (.clo f [])⟩
  | x => ⟨fun E => evalT C E x⟩
theorem evB_eq (x : Operand) : (evB C x).fn = fun E => evalT C E x := by
  funext E
  unfold evB
  cases x <;> first | rfl | skip
  rename_i v
  simp only [evalT]
  cases ofValue v <;> rfl
def argsB : List Operand → Bx (TE → Option (List AV))
  | [] => ⟨fun _ => some []⟩
  | x :: r => (evB C x).use fun g => (argsB r).use fun gr => ⟨fun E => (g E).bind fun v => (gr E).bind fun vs => some (v :: vs)⟩
theorem argsB_eq : ∀ l, (argsB C l).fn = fun E => mapO (evalT C E) l
  | [] => rfl
  | x :: r => by
    funext E
    simp only [argsB, Bx.use_eq, evB_eq, argsB_eq r]
    rfl
def putB : Option Nat → Bx (AV → TE → TE)
  | some t => setB (Nat.succ t) t
  | none => ⟨fun _ E => E⟩
theorem putB_eq (d : Option Nat) : (putB d).fn = fun v E => putD E d v := by
  cases d <;> rfl
theorem noLoose_eq {f : Nat} {o : Oper} (h : noLoose C f o = true) (ops : Array Oper) (E : TE) (H : TH) (n : Nat) : looseT C f ops (dkey o) E H n = true := by
  unfold noLoose at h
  unfold looseT
  cases hd : dkey o with
  | none => rfl
  | some t =>
    rw [hd] at h
    have : C.loose f t = [] := by simpa using h
    simp only [this, List.all_nil]

/-- A step of an operation that calls no function. -/
def stepB (f : Nat) (ops : Array Oper) (o : Oper) : Bx Quick := (opFB C f o.dst o.op).use fun g => (putB o.dst).use fun st => match noLoose C f o with
  | true => ⟨fun E H n k => match g (evalT C E) (RT H) n with
    | none => .bad f (3000000 + o.dst.getD 99999)
    | some (v, y) => effT f (o.dst.getD 99999) y H n fun H n => v.force fun v => k (st v E) H n⟩
  | false => ⟨fun E H n k => match g (evalT C E) (RT H) n with
    | none => .bad f (3000000 + o.dst.getD 99999)
    | some (v, y) => effT f (o.dst.getD 99999) y H n fun H n => match looseT C f ops (dkey o) E H n with
      | true => v.force fun v => k (st v E) H n
      | false => .bad f (7000000 + o.dst.getD 99999)⟩
theorem stepB_eq (f : Nat) (ops : Array Oper) (o : Oper) : (stepB C f ops o).fn = Rv.stepT C f ops o := by
  unfold stepB
  simp only [Bx.use_eq, opFB_eq, putB_eq]
  cases hl : noLoose C f o with
  | true =>
    funext E H n k
    unfold Rv.stepT
    simp only [noLoose_eq C hl]
    rfl
  | false => rfl
def stepCB (f : Nat) (ops : Array Oper) (o : Oper) (g : Operand) (args : List Operand) : Bx (Caller → TE → TH → Nat → Kont → (TE → TH → Nat → Res) → Res) := (argsB C args).use fun ga => (evB C g).use fun gg => (putB o.dst).use fun st => match noLoose C f o with
  | true => ⟨fun call E H n kp k => match ga E with
    | none => .bad f (4000000 + o.dst.getD 99999)
    | some vs => match gg E with
      | none => .bad f (5000000 + o.dst.getD 99999)
      | some gv => call gv vs H n fun res H n => match res with
        | .pan v => kp (.pan v) E H n
        | .ret v => v.force fun v => k (st v E) H n⟩
  | false => ⟨stepCT C f ops o g args⟩
theorem stepCB_eq (f : Nat) (ops : Array Oper) (o : Oper) (g : Operand) (args : List Operand) : (stepCB C f ops o g args).fn = stepCT C f ops o g args := by
  unfold stepCB
  simp only [Bx.use_eq, argsB_eq, evB_eq, putB_eq]
  cases hl : noLoose C f o with
  | true =>
    funext call E H n kp k
    unfold stepCT
    simp only [noLoose_eq C hl]
    rfl
  | false => rfl

abbrev StepF := Caller → TE → TH → Nat → Kont → (TE → TH → Nat → Res) → Res
def isPan (o : Oper) : Bool := match o.op with
  | .panic _ => true
  | _ => false
theorem isPan_no {o : Oper} (h : isPan o = false) (E : TE) : panT C E o = none := by
  unfold isPan at h
  unfold panT
  split at h
  · cases h
  · rename_i hn
    split
    · rename_i x hx; exact absurd hx (hn x)
    · rfl
def opB0 (f : Nat) (ops : Array Oper) (o : Oper) : Bx StepF := match callee o with
  | none => (stepB C f ops o).use fun q => match isPan o with
    | true => ⟨fun _ E H n kp k => match panT C E o with
      | some v => kp (.pan v) E H n
      | none => q E H n k⟩
    | false => ⟨fun _ E H n _ k => q E H n k⟩
  | some ga => stepCB C f ops o ga.1 ga.2.toList
def opB (f : Nat) (ops : Array Oper) (o : Oper) : Bx StepF := match stageB C f ops o with
  | some q => ⟨fun _ E H n _ k => q E H n k⟩
  | none => match o.guard with
    | none => opB0 C f ops o
    | some _ => (opB0 C f ops o).use fun g => (guardB ops o).use fun gd => (putB o.dst).use fun st => ⟨fun call E H n kp k => match gd E with
      | none => .bad f (2000000 + o.dst.getD 99999)
      | some false => k (st (.tup []) E) H n
      | some true => g call E H n kp k⟩
abbrev CodeF := Caller → TE → TH → Nat → Kont → Res
def opsB (f : Nat) (ops : Array Oper) : List Oper → Bx CodeF
  | [] => ⟨fun _ E H n k => k .nrm E H n⟩
  | o :: r => (opB C f ops o).use fun g => (opsB f ops r).use fun gr => ⟨fun call E H n k => g call E H n k fun E H n => gr call E H n k⟩
theorem opsB_eq (f : Nat) (ops : Array Oper) : ∀ l, (opsB C f ops l).fn = opsT C f ops l
  | [] => rfl
  | o :: r => by
    have ih := opsB_eq f ops r
    have h0 : (opB0 C f ops o).fn = (match callee o with | none => fun _ E H n kp k => (match panT C E o with | some v => kp (.pan v) E H n | none => Rv.stepT C f ops o E H n k) | some ga => stepCT C f ops o ga.1 ga.2.toList) := by
      unfold opB0
      cases callee o with
      | none =>
        simp only [Bx.use_eq, stepB_eq]
        cases hip : isPan o with
        | true => rfl
        | false =>
          funext call E H n kp k
          simp only [isPan_no C hip]
      | some ga => simp only [stepCB_eq]
    simp only [opsB, Bx.use_eq, opB, stageB_eq, ih, opsT, h0, guardB_eq, putB_eq]
    cases stageT C f ops o with
    | some q => rfl
    | none =>
      cases hg : o.guard with
      | none =>
        have hw : ∀ E, wantT ops E o = some true := fun E => by unfold wantT; rw [hg]
        simp only [hw, h0]
        cases callee o <;> rfl
      | some g =>
        funext call E H n k
        simp only [Bx.use_eq, h0, guardB_eq, putB_eq]
        cases wantT ops E o with
        | none => rfl
        | some b => cases b <;> first | rfl | (cases callee o <;> rfl)

def rangeB (f : Nat) (g : Operand) (ps : Array Nat) (assign body : Code) : Bx CodeF := ⟨rangeT C f g ps assign body⟩
def codeB (f : Nat) : Code → Bx CodeF
  | .skip => ⟨fun _ E H n k => k .nrm E H n⟩
  | .label _ => ⟨fun _ E H n k => k .nrm E H n⟩
  | .exit id => ⟨fun _ E H n k => k (.exit id) E H n⟩
  | .ret => ⟨fun _ E H n k => k .ret E H n⟩
  | .seq a b => (codeB f a).use fun ga => (codeB f b).use fun gb => ⟨fun call E H n k => ga call E H n fun out E H n => match out with
    | .nrm => gb call E H n k
    | .ret => k .ret E H n
    | .exit id => k (.exit id) E H n
    | .pan v => k (.pan v) E H n⟩
  | .cond c a b => (codeB f a).use fun ga => (codeB f b).use fun gb => match c with
    | .tmp t => (accB (Nat.succ t) t).use fun gc => ⟨fun call E H n k => match gc E with
      | .bool true => ga call E H n k
      | .bool false => gb call E H n k
      | _ => .bad f 999986⟩
    | c => ⟨fun call E H n k => match evalT C E c with
      | some (.bool true) => ga call E H n k
      | some (.bool false) => gb call E H n k
      | _ => .bad f 999986⟩
  | .block id b => (codeB f b).use fun gb => ⟨fun call E H n k => gb call E H n fun out E H n => match out with
    | .exit id' => Bool.rec (motive := fun _ => Res) (k (.exit id') E H n) (k .nrm E H n) (Nat.beq id' id)
    | .nrm => k .nrm E H n
    | .ret => k .ret E H n
    | .pan v => k (.pan v) E H n⟩
  | .scope b => codeB f b
  | .loop b => match C.roundsOf f b, b with
    | some m, .seq _ rest => (codeB f rest).use fun gr => ⟨fun call E H n k => mapLoopF C (gr call) m f E H n k⟩
    | some _, _ => ⟨fun _ _ _ _ _ => .bad f 18000007⟩
    | none, b => (codeB f b).use fun gb => ⟨fun call E H n k => loopGo f (gb call) k loopFuel E H n⟩
  | .region id ops draw => (opsB C f ops (sched ops draw)).use fun go => match C.live f id, draw with
    | some l, true => ⟨fun call E H n k => go call E H n fun out E H n => match out with
      | .nrm => k .nrm (keepT E l) H n
      | .pan v => (match panOk ops with
        | true => k (.pan v) (outT E ops) H n
        | false => .bad f (1000000 + id))
      | out => .bad f (1000000 + id)⟩
    | some l, false => ⟨fun call E H n k => go call E H n fun out E H n => match out with
      | .nrm => k .nrm (keepT E l) H n
      | .pan v => k (.pan v) E H n
      | out => k out E H n⟩
    | none, true => ⟨fun call E H n k => go call E H n fun out E H n => match out with
      | .nrm => k .nrm E H n
      | .pan v => (match panOk ops with
        | true => k (.pan v) (outT E ops) H n
        | false => .bad f (1000000 + id))
      | out => .bad f (1000000 + id)⟩
    | none, false => ⟨fun call E H n k => go call E H n fun out E H n => match out with
      | .nrm => k .nrm E H n
      | .pan v => k (.pan v) E H n
      | out => k out E H n⟩
  | .rangeFunc g ps assign body => rangeB C f g ps assign body
  | _ => ⟨fun _ _ _ _ _ => .bad f 999980⟩
theorem codeB_both (f : Nat) (c : Code) : (codeB C f c).fn = codeT C f c ∧ ∀ a r, c = .seq a r → (codeB C f r).fn = codeT C f r := by
  induction c with
  | seq a b iha ihb => exact ⟨by simp only [codeB, Bx.use_eq, iha.1, ihb.1, codeT]; rfl, fun a' r' h => by injection h with _ h; subst h; exact ihb.1⟩
  | cond c a b iha ihb =>
    refine ⟨?_, fun _ _ h => by cases h⟩
    simp only [codeB, Bx.use_eq, iha.1, ihb.1, codeT]
    cases c with
    | tmp t =>
      simp only [Bx.use_eq]
      funext call E H n k
      show (match accT t E with | .bool true => _ | .bool false => _ | _ => _) = (match (accT t E).got with | some (.bool true) => _ | some (.bool false) => _ | _ => _)
      cases accT t E <;> first | rfl | skip
      rename_i b
      cases b <;> rfl
    | _ => rfl
  | block id b ih => exact ⟨by simp only [codeB, Bx.use_eq, ih.1, codeT]; rfl, fun _ _ h => by cases h⟩
  | scope b ih => exact ⟨by simp only [codeB, ih.1, codeT], fun _ _ h => by cases h⟩
  | loop b ih =>
    refine ⟨?_, fun _ _ h => by cases h⟩
    unfold codeB codeT
    cases hr : C.roundsOf f b with
    | some m =>
      cases b <;> first | rfl | skip
      simp only [Bx.use_eq, ih.2 _ _ rfl]
    | none => simp only [Bx.use_eq, ih.1]
  | region id ops draw =>
    refine ⟨?_, fun _ _ h => by cases h⟩
    simp only [codeB, Bx.use_eq, opsB_eq, codeT]
    cases C.live f id <;> cases draw <;> rfl
  | _ => exact ⟨rfl, fun _ _ h => by cases h⟩
theorem codeB_eq (f : Nat) (c : Code) : (codeB C f c).fn = codeT C f c := (codeB_both C f c).1

variable (TP : PrimT) (FN : Nat → Option FI) (QP : CallQ)
abbrev CallF := Caller → List AV → TH → Nat → KontC → Res
def callB (f : Nat) : Bx CallF := match QP f with
  | some q => ⟨fun _ args H n k => q args H n k⟩
  | none => match TP f with
    | some p => ⟨fun _ args H n k => match p args (RT H) n with
      | none => .bad f 999998
      | some (res, y) => effT f 0 y H n fun H n => k res H n⟩
    | none => match FN f with
      | none => ⟨fun _ _ _ _ _ => .bad f 999997⟩
      | some fi => (codeB C f fi.body).use fun g => ⟨fun call args H n k => match Nat.beq args.length fi.params with
        | false => .bad f 999996
        | true => g call (argsT (nat_lit 0) args .nil) H n fun out E H n => match out with
          | .nrm | .ret => (match resultsF C (evalT C E) (RT H) fi.results with
            | none => .bad f 999995
            | some vs => k (.ret (packA vs)) H n)
          | .pan v => k (.pan v) H n
          | .exit _ => .bad f 999994⟩
theorem callB_eq (f : Nat) : (callB C TP FN QP f).fn = callT C TP FN QP f := by
  unfold callB callT
  cases QP f with
  | some q => rfl
  | none =>
  simp only
  cases TP f with
  | some p => rfl
  | none =>
    simp only
    cases FN f with
    | none => rfl
    | some fi => simp only [Bx.use_eq, codeB_eq]; rfl

def roundB (call : Caller) (o : Nat) (vs : List AV) (H : TH) (n : Nat) (k : KontC) : Res := match loopT H o with
  | some ⟨.ready, _, f, env, ps, assign, body⟩ => match Nat.beq ps.length vs.length with
    | false => .bad f 999992
    | true => (codeB C f assign).use fun ga => ga call (putsT env ps vs) H n fun out E1 H1 n1 => match out, loopT H1 o with
      | .nrm, some ⟨.ready, pend1, f1, env1, ps1, assign1, body1⟩ =>
        (codeB C f body).use fun gb => gb call E1 (H1.put none o (some (.lp ⟨.busy, pend1, f1, env1, ps1, assign1, body1⟩))) n1 fun out E2 H2 n2 => match loopT H2 o, jumpOf out with
          | some ⟨_, _, f2, env2, ps2, assign2, body2⟩, some j => k (.ret (.bool j.isNone)) (H2.put none o (some (.lp ⟨match j with | none => .ready | some _ => .done, j, f2, env2, ps2, assign2, body2⟩))) n2
          | _, _ => .bad f 999989
      | _, _ => .bad f 999991
  | _ => .bad 0 999993
theorem roundB_eq (call : Caller) (o : Nat) (vs : List AV) (H : TH) (n : Nat) (k : KontC) : roundB C call o vs H n k = roundT C call o vs H n k := by
  unfold roundB roundT
  simp only [Bx.use_eq, codeB_eq]; rfl

def runB (fuel : Nat) : Caller := Nat.rec (motive := fun _ => Caller) (fun _ _ _ _ _ => .bad 0 999999) (fun _ ih g vs H n k => match g with
  | .clo f caps => (callB C TP FN QP f).use fun q => q ih (vs ++ caps) H n k
  | .bnd f first => (callB C TP FN QP f).use fun q => q ih (first ++ vs) H n k
  | .yld o => roundB C ih o vs H n k
  | _ => .bad 0 999987) fuel
theorem runB_eq (fuel : Nat) : runB C TP FN QP fuel = Rv.runT C TP FN QP fuel := by
  induction fuel with
  | zero => rfl
  | succ fuel ih =>
    funext g vs H n k
    show (match g with | .clo f caps => (callB C TP FN QP f).use fun q => q (runB C TP FN QP fuel) (vs ++ caps) H n k | .bnd f first => (callB C TP FN QP f).use fun q => q (runB C TP FN QP fuel) (first ++ vs) H n k | .yld o => roundB C (runB C TP FN QP fuel) o vs H n k | _ => KR.bad 0 999987) = (match g with | .clo f caps => callT C TP FN QP f (Rv.runT C TP FN QP fuel) (vs ++ caps) H n k | .bnd f first => callT C TP FN QP f (Rv.runT C TP FN QP fuel) (first ++ vs) H n k | .yld o => roundT C (Rv.runT C TP FN QP fuel) o vs H n k | _ => KR.bad 0 999987)
    rw [ih]
    simp only [Bx.use_eq, callB_eq, roundB_eq]
end

theorem runs_box {C : Cfg} {TP : PrimT} {FN : Nat → Option FI} {QP : CallQ} (hP : Plainly C) (hT : TwinOk C TP FN QP) {f fuel : Nat} (hs : runB C TP FN QP fuel (.clo f []) [] .nil 0 kTrue = .ok true) : ∃ h', call C f [] [] = some (.ret (.bool true), h') := by
  rw [runB_eq] at hs
  exact runs_fast hP hT hs
end Go.Rv
