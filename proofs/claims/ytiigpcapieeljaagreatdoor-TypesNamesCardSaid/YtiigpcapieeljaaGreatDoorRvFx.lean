/-
  The operations once more, over what is read of the heap and what is done to it: for a heap that is no list.
-/
import Derived.Test.YtiigpcapieeljaaGreatDoorPtE
set_option linter.unusedSimpArgs false
set_option linter.unusedVariables false
namespace Go.Rv
noncomputable section

/-- What operations read of a heap. -/
structure Rdr where
  obj : Nat → Nat → Option (List AV)
  map : Nat → Option (List (AV × AV))
  iter : Nat → Option (Nat × List (AV × AV))
def Rdr.of (h : Heap) : Rdr := ⟨h.obj, h.mapAt, h.iterAt⟩

/-- What they do to it. -/
inductive Eff where
  | keep
  | set (o : Nat) (x : AObj)
  | push (x : AObj)
  | both (o : Nat) (x y : AObj)
def Eff.app : Eff → Heap → Heap
  | .keep, h => h
  | .set o x, h => h.set o x
  | .push x, h => h ++ [x]
  | .both o x y, h => h.set o x ++ [y]

/-- Cells from a place on, put in: gone through once. -/
def splice {α : Type} (cs : List α) : Nat → List α → List α :=
  List.rec (motive := fun _ => Nat → List α → List α) (fun _ _ => []) (fun x r ih off vs =>
    Bool.rec (motive := fun _ => List α) (x :: ih (Nat.pred off) vs) (List.casesOn (motive := fun _ => List α) vs (x :: r) (fun v vs => v :: ih (nat_lit 0) vs)) (Nat.beq off (nat_lit 0))) cs
theorem set_tail {α : Type} (x : α) (r : List α) : ∀ (vs : List α) (off : Nat), setCells (x :: r) (off + 1) vs = x :: setCells r off vs
  | [], _ => rfl
  | v :: vs, off => by
    simp only [setCells, List.set_cons_succ]
    generalize r.set off v = r'
    exact set_tail x r' vs (off + 1)
theorem splice_eq {α : Type} : ∀ (cs : List α) (off : Nat) (vs : List α), splice cs off vs = setCells cs off vs
  | [], off, vs => by
    have : ∀ (vs : List α) (off : Nat), setCells ([] : List α) off vs = [] := by
      intro vs
      induction vs with
      | nil => intro _; rfl
      | cons v vs ih => intro off; simp only [setCells, List.set_nil]; exact ih _
    rw [this]; rfl
  | x :: r, 0, [] => rfl
  | x :: r, 0, v :: vs => by
    show v :: splice r 0 vs = setCells (v :: r) (0 + 1) vs
    rw [set_tail, splice_eq r 0 vs]
  | x :: r, off + 1, vs => by
    show x :: splice r off vs = _
    rw [set_tail, splice_eq r off vs]

variable (C : Cfg)

def Rdr.live (R : Rdr) (o g : Nat) : Bool := match R.obj o g with | some _ => true | none => false

def cellsF (R : Rdr) : AV → Option (List AV)
  | .ref cs => some cs
  | .ptr o off g => (R.obj o g).map (·.drop off)
  | _ => none
def loadF (R : Rdr) (t : Nat) (a : AV) : Option AV := (C.ty t).bind fun ti => (cellsF R a).bind fun cs => part ti cs
def storeF (R : Rdr) (t : Nat) (a v : AV) : Option Eff := (C.ty t).bind fun ti =>
  match a with
  | .ptr o off g => (R.obj o g).bind fun cs =>
    if v.cells.length == ti.size && off + ti.size ≤ cs.length && v.cells.all AV.leaf then some (.set o (.cells (splice cs off v.cells) g)) else none
  | _ => none
def elemsF (R : Rdr) : AV → Option (List AV)
  | .lst xs _ _ => some xs
  | .msl o off len sz g _ => (R.obj o g).bind fun cs => if off + len * sz ≤ cs.length then some (group len (cs.drop off) sz) else none
  | _ => none
def lenF (R : Rdr) (td : TD) (x : AV) : Option Nat :=
  match td, x with
  | .slice _, .lst xs _ _ => some xs.length
  | .slice _, .msl o _ n _ g _ => if R.live o g then some n else none
  | .str, .str s => some s.length
  | .map _ _, .nilMap => some 0
  | .map _ _, .map o => (R.map o).map (·.length)
  | _, _ => none
def indexAddrF (R : Rdr) (t : Nat) (x i : AV) : Option AV := (C.ty t).bind fun ti =>
  match i with
  | .int _ n =>
    if n < 0 then none else
    match ti.td, x with
    | .slice e, .lst xs _ _ => (xs[n.toNat]?).bind fun v => (C.ty e).bind fun te => if v.cells.length == te.size then some (.ref v.cells) else none
    | .slice e, .msl o off len sz g _ => (C.ty e).bind fun te => if n.toNat < len && sz == te.size && R.live o g then some (.ptr o (off + n.toNat * sz) g) else none
    | .array len e, .ref cs => if n.toNat < len then (C.ty e).bind fun te => some (.ref (cs.drop (n.toNat * te.size))) else none
    | .array len e, .ptr o off g => if n.toNat < len && R.live o g then (C.ty e).bind fun te => some (.ptr o (off + n.toNat * te.size) g) else none
    | _, _ => none
  | _ => none
def fieldAddrF (R : Rdr) (t : Nat) (x : AV) (f : Nat) : Option AV := (C.ty t).bind fun ti =>
  match ti.td with
  | .struct fs => (fs[f]?).bind fun p => (C.ty p.1).bind fun tf =>
    if tf.size == 0 then none else
    match x with
    | .ref cs => some (.ref (cs.drop p.2))
    | .ptr o off' g => if R.live o g then some (.ptr o (off' + p.2) g) else none
    | _ => none
  | _ => none
def eqF (R : Rdr) (td : TD) (x y : AV) : Option Bool :=
  match td, x, y with
  | .bool, .bool a, .bool b => some (a == b)
  | .ptr, .nilPtr, .nilPtr => some true
  | .ptr, .nilPtr, .ref _ | .ptr, .ref _, .nilPtr => some false
  | .ptr, .nilPtr, .ptr o _ g | .ptr, .ptr o _ g, .nilPtr => if R.live o g then some false else none
  | .slice _, .lst _ _ r, .lst _ _ .nil => some (r == .nil)
  | .slice _, .lst _ _ .nil, .lst _ _ r => some (r == .nil)
  | .slice _, .msl o _ _ _ g _, .lst _ _ .nil | .slice _, .lst _ _ .nil, .msl o _ _ _ g _ => if R.live o g then some false else none
  | .map _ _, .nilMap, .nilMap => some true
  | .map _ _, .nilMap, .map _ | .map _ _, .map _, .nilMap => some false
  | .func, .nilFunc, .nilFunc => some true
  | .func, .nilFunc, .clo .. | .func, .clo .., .nilFunc => some false
  | _, _, _ => none
def eqCF (R : Rdr) (t : Nat) (td : TD) (x y : AV) : Option Bool :=
  match x, y with
  | .agg a, .agg b => if C.flat t a then sameKeys a b else none
  | x, y => eqF R td x y
def binF (R : Rdr) (op : BinOp) (t : Nat) (x y : AV) : Option AV :=
  match x, y with
  | .int k a, .int k' b => if k == k' then arithA op k a b else none
  | .str a, .str b =>
    match op with
    | .add => if a.length + b.length ≤ mostLen then some (.str (a ++ b)) else none
    | .eql => some (.bool (a == b))
    | .neq => some (.bool (!(a == b)))
    | .lss => some (.bool (Op.bytesLess a b))
    | .leq => some (.bool (Op.bytesLess a b || a == b))
    | .gtr => some (.bool (!(Op.bytesLess a b || a == b)))
    | .geq => some (.bool (!Op.bytesLess a b))
    | _ => none
  | x, y => (C.ty t).bind fun ti =>
    match op with
    | .eql => (eqCF C R t ti.td x y).map .bool
    | .neq => (eqCF C R t ti.td x y).map fun b => .bool (!b)
    | _ => none
def sliceF (R : Rdr) (t : Nat) (x : AV) (lo hi : Option AV) : Option AV := (C.ty t).bind fun ti =>
  match ti.td, x with
  | .str, .str s => (boundA hi s.length s.length).bind fun b => (boundA lo 0 b).bind fun a => some (.str ((s.take b).drop a))
  | .slice e, .lst xs z r => (C.ty e).bind fun te =>
    if !(z == te.size || xs.isEmpty) then none else
      (boundA hi xs.length xs.length).bind fun b => (boundA lo 0 b).bind fun a =>
      some (.lst ((xs.take b).drop a) z (match r with | .nil => .nil | .exact c => .exact (c - a) | .open => .open))
  | .slice e, .msl o off len sz g cap => (R.obj o g).bind fun cs => (C.ty e).bind fun te =>
    if sz != te.size then none else
      (boundA hi len (match cap with | some c => c | none => if sz == 0 then len else (cs.length - off) / sz)).bind fun b => (boundA lo 0 b).bind fun a =>
      some (.msl o (off + a * sz) (b - a) sz g (cap.map (· - a)))
  | .array n e, .ptr o off g => (R.obj o g).bind fun cs => (C.ty e).bind fun te =>
    if off + n * te.size > cs.length then none else
      (boundA hi n n).bind fun b => (boundA lo 0 b).bind fun a => some (.msl o (off + a * te.size) (b - a) te.size g (some (n - a)))
  | .array n e, .ref cs => (C.ty e).bind fun te =>
    if te.size == 0 || decide (n * te.size > cs.length) then none else
      (boundA hi n n).bind fun b => (boundA lo 0 b).bind fun a => some (.lst (group (b - a) (cs.drop (a * te.size)) te.size) te.size (.exact (n - a)))
  | _, _ => none
def growF (n0 o len n sz g : Nat) (cs : List AV) : Option Nat → Option (AV × Eff)
  | none => some (.msl o 0 (len + n) sz (g + 1) none, .set o (.cells cs (g + 1)))
  | some c => if len == c then some (.msl n0 0 (len + n) sz 0 none, .push (.cells cs 0)) else none
def appendF (R : Rdr) (n0 sz : Nat) (s : AV) (ys : List AV) : Option (AV × Eff) :=
  let cells := (ys.map AV.cells).flatten
  if cells.length != ys.length * sz || !cells.all AV.leaf || sz == 0 then none else
  match s with
  | .lst xs z r =>
    if ys.isEmpty then some (s, .keep) else
    if r.full xs.length && (z == sz || xs.isEmpty) && xs.length + ys.length ≤ mostLen then
      some (.msl n0 0 (xs.length + ys.length) sz 0 none, .push (.cells ((xs.map AV.cells).flatten ++ cells) 0))
    else none
  | .msl o off len sz' g cap => (R.obj o g).bind fun cs =>
    if sz' != sz then none else
    if ys.isEmpty then some (s, .keep) else
    let at_ := off + len * sz
    if at_ + cells.length ≤ cs.length && capOk cap (len + ys.length) then
      some (.msl o off (len + ys.length) sz g cap, .set o (.cells (splice cs at_ cells) g))
    else if at_ == cs.length && off == 0 && len + ys.length ≤ mostLen then growF n0 o len ys.length sz g (cs ++ cells) cap
    else none
  | _ => none
def appendZF (n0 t t' : Nat) (s y : AV) : Option (AV × Eff) := (C.ty t).bind fun ti => (C.ty t').bind fun ti' =>
  match ti.td, ti'.td, s, y with
  | .slice e, .int _, .lst [] _ .nil, .int .i64 n => (C.ty e).bind fun te =>
    if 0 < n && n ≤ mostLen && te.zero.length == te.size && te.size != 0 then
      some (.msl n0 0 n.toNat te.size 0 none, .push (.cells (copies n.toNat te.zero) 0))
    else none
  | _, _, _, _ => none
def makeSliceF (n0 t : Nat) (l c : AV) : Option (AV × Eff) := (C.ty t).bind fun ti =>
  match ti.td, l, c with
  | .slice e, .int _ l, .int _ c => (C.ty e).bind fun te =>
    if 0 ≤ l && l ≤ c && c ≤ mostLen && te.zero.length == te.size then
      some (.msl n0 0 l.toNat te.size 0 (some c.toNat), .push (.cells (copies c.toNat te.zero) 0))
    else none
  | _, _, _ => none
def entsF (R : Rdr) : AV → Option (List (AV × AV))
  | .nilMap => some []
  | .map o => R.map o
  | _ => none
def lookupF (R : Rdr) (t : Nat) (m k : AV) (ok : Bool) : Option AV := (C.ty t).bind fun ti =>
  match ti.td with
  | .map kt e => (C.ty kt).bind fun tk =>
    if !keyTd C kt tk.td k then none else
    (entsF R m).bind fun es => (findA k es).bind fun r => (C.ty e).bind fun te => (part te te.zero).bind fun z =>
    some (if ok then .tup [r.getD z, .bool r.isSome] else r.getD z)
  | _ => none
def updateF (R : Rdr) (t : Nat) (m k v : AV) : Option Eff := (C.ty t).bind fun ti =>
  match ti.td, m with
  | .map kt _, .map o => (C.ty kt).bind fun tk =>
    if !keyTd C kt tk.td k then none else (R.map o).bind fun es => (putA k v es).bind fun es => some (.set o (.map es))
  | _, _ => none
def capF (R : Rdr) : AV → Option Nat
  | .lst [] _ .nil => some 0
  | .lst _ _ (.exact c) => some c
  | .msl o _ _ _ g (some c) => if R.live o g then some c else none
  | _ => none
def convF (R : Rdr) (src dst : Nat) (x : AV) : Option AV := (C.ty src).bind fun ts =>
  match ts.td with
  | .slice e => (C.ty e).bind fun te => (C.ty dst).bind fun td =>
    match te.td, td.td with
    | .int k, .str => if k == .u8 then (elemsF R x).bind fun ys => (bytesOf ys).map .str else none
    | _, _ => none
  | .str => (C.ty dst).bind fun td =>
    match td.td, x with
    | .slice e, .str l => (C.ty e).bind fun te =>
      match te.td with
      | .int k => if k == .u8 then some (.lst (l.map fun b => .int .u8 b.toNat) 1 .open) else none
      | _ => none
    | _, _ => convA C dst x
  | _ => convA C dst x
def moreF (R : Rdr) (b : Builtin) (ts : List Nat) (vs : List AV) : Option (AV × Eff) :=
  match b, ts, vs with
  | .cap, [t], [x] => (C.ty t).bind fun ti =>
    match ti.td with
    | .slice _ => (capF R x).map fun (n : Nat) => (AV.int .i64 (n : Int), .keep)
    | _ => none
  | .clear, [t], [x] => (C.ty t).bind fun ti =>
    match ti.td, x with
    | .slice _, .lst [] _ _ => some (.tup [], .keep)
    | .slice e, .msl o off len sz g _ => (C.ty e).bind fun te => (R.obj o g).bind fun cs =>
      if len == 0 then some (.tup [], .keep) else
      if sz == te.size && off + len * sz ≤ cs.length && te.zero.length == te.size && te.zero.all AV.leaf then
        some (.tup [], .set o (.cells (splice cs off (copies len te.zero)) g))
      else none
    | .map _ _, .nilMap => some (.tup [], .keep)
    | .map _ _, .map o => (R.map o).bind fun _ => some (.tup [], .set o (.map []))
    | _, _ => none
  | .copy, [t, _], [d, x] => (C.ty t).bind fun ti =>
    match ti.td with
    | .slice e => (C.ty e).bind fun te => (elemsF R x).bind fun ys =>
      match d with
      | .lst [] _ _ => some (.int .i64 0, .keep)
      | .msl o off len sz g _ => (R.obj o g).bind fun cs =>
        let n := Nat.min ys.length len
        let cells := ((ys.map AV.cells).flatten).take (n * te.size)
        if n == 0 then some (.int .i64 0, .keep) else
        if sz == te.size && off + len * sz ≤ cs.length && cells.length == n * te.size && cells.all AV.leaf then
          some (.int .i64 n, .set o (.cells (splice cs off cells) g))
        else none
      | _ => none
    | _ => none
  | .delete, [t, _], [m, k] => (C.ty t).bind fun ti =>
    match ti.td with
    | .map kt _ => (C.ty kt).bind fun tk =>
      if !keyTd C kt tk.td k then none else
      match m with
      | .nilMap => some (.tup [], .keep)
      | .map o => (R.map o).bind fun es => (eraseA k es).bind fun es => some (.tup [], .set o (.map es))
      | _ => none
    | _ => none
  | .max, _, [.int k a, .int k' b] => if k == k' then some (.int k (if b > a then b else a), .keep) else none
  | .min, _, [.int k a, .int k' b] => if k == k' then some (.int k (if b < a then b else a), .keep) else none
  | _, _, _ => none

/-- An operation: over what operands read as, what is read of the heap, how many objects it has. -/
def opF (f : Nat) (d : Option Nat) : Op → (Operand → Option AV) → Rdr → Nat → Option (AV × Eff)
  | .move x => fun ev _ _ => (ev x).bind fun v => some (v, .keep)
  | .assign x => fun ev _ _ => (ev x).bind fun v => some (v, .keep)
  | .pick c a b => fun ev _ _ => (ev c).bind fun c => match c with
    | .bool true => (ev a).bind fun v => some (v, .keep)
    | .bool false => (ev b).bind fun v => some (v, .keep)
    | _ => none
  | .alloc t => fun _ _ n => (C.ty t).bind fun ti => if ti.zero.length == ti.size then some (.ptr n 0 0, .push (.cells ti.zero 0)) else none
  | .box t x => fun ev _ n => (C.ty t).bind fun ti => (ev x).bind fun v => if v.cells.length == ti.size then
      if (d.map (C.imm f)).getD false then some (.ref v.cells, .keep) else some (.ptr n 0 0, .push (.cells v.cells 0))
    else none
  | .build t parts => fun ev _ _ => (mapO (fun (p : Nat × Operand) => (ev p.2).map (p.1, ·)) parts.toList).bind fun ps => (buildA C t ps).bind fun v => some (v, .keep)
  | .buildSlice t len parts => fun ev _ n => (mapO (fun (p : Nat × Operand) => (ev p.2).map (p.1, ·)) parts.toList).bind fun ps => (C.ty t).bind fun ti => match ti.td with
    | .slice el => (C.ty el).bind fun ti =>
      if ti.zero.length != ti.size || decide (len * ti.size > 16777216) then none else
      (fillA (fun i => some (i * ti.size, ti.size)) (copies len ti.zero) ps).bind fun cs =>
      if (d.map (C.imm f)).getD false then some (.lst (group len cs ti.size) ti.size (.exact len), .keep)
      else some (.msl n 0 len ti.size 0 (some len), .push (.cells cs 0))
    | _ => none
  | .load t a => fun ev R _ => (ev a).bind fun x => if (d.map (C.quiet f)).getD false && !x.isRef then none else (loadF C R t x).bind fun v => some (v, .keep)
  | .store t a x => fun ev R _ => (ev a).bind fun a => (ev x).bind fun x => (storeF C R t a x).bind fun y => some (.tup [], y)
  | .nilCheck x => fun ev R _ => (ev x).bind fun v => match v with
    | .ptr o off g => if R.live o g then some (.ptr o off g, .keep) else none
    | .ref cs => some (.ref cs, .keep)
    | .clo f cs => some (.clo f cs, .keep)
    | .bnd f cs => some (.bnd f cs, .keep)
    | .yld l => some (.yld l, .keep)
    | _ => none
  | .binOp op t x y _ => fun ev R _ => (ev x).bind fun u => if nilI y then (nilIA C op t u).bind fun v => some (v, .keep) else (ev y).bind fun y => (binF C R op t u y).bind fun v => some (v, .keep)
  | .unOp op _ x => fun ev _ _ => (ev x).bind fun x => (unA op x).bind fun v => some (v, .keep)
  | .convert src dst x => fun ev R _ => (ev x).bind fun x => (convF C R src dst x).bind fun v => some (v, .keep)
  | .makeInterface t x => fun ev _ _ => (C.ty t).bind fun ti => match ti.td with
    | .iface => none
    | _ => (ev x).bind fun v => some (.iface t v, .keep)
  | .makeFunc (.func g) first caps => fun ev _ _ => if first.isEmpty then (mapO ev caps.toList).bind fun cs => some (.clo g cs, .keep) else if caps.isEmpty then (mapO ev first.toList).bind fun cs => some (.bnd g cs, .keep) else none
  | .makeSlice t l c => fun ev _ n => (ev l).bind fun l => (ev c).bind fun c => makeSliceF C n t l c
  | .makeMap t none => fun _ _ n => (C.ty t).bind fun _ => some (.map n, .push (.map []))
  | .lookup t x k ok => fun ev R _ => (ev x).bind fun x => (ev k).bind fun k => (lookupF C R t x k ok).bind fun v => some (v, .keep)
  | .mapUpdate t m k x => fun ev R _ => (ev m).bind fun m => (ev k).bind fun k => (ev x).bind fun x => (updateF C R t m k x).bind fun y => some (.tup [], y)
  | .insert t m k x => fun ev R _ => (ev m).bind fun m => (ev k).bind fun k => (ev x).bind fun x => (updateF C R t m k x).bind fun y => some (.tup [], y)
  | .slice t x lo hi mx => fun ev R _ => (match lo with | none => some none | some y => (ev y).map some).bind fun lo => (match hi with | none => some none | some y => (ev y).map some).bind fun hi =>
    if mx.isSome then none else (ev x).bind fun x => (sliceF C R t x lo hi).bind fun v => some (v, .keep)
  | .fieldAddr t x k => fun ev R _ => (ev x).bind fun x => (fieldAddrF C R t x k).bind fun v => some (v, .keep)
  | .field t x k => fun ev _ _ => (ev x).bind fun x => (fieldA C t x k).bind fun v => some (v, .keep)
  | .indexAddr t x i => fun ev R _ => (ev x).bind fun x => (ev i).bind fun i => (indexAddrF C R t x i).bind fun v => some (v, .keep)
  | .index t x i => fun ev _ _ => (ev x).bind fun x => (ev i).bind fun i => (indexA C t x i).bind fun v => some (v, .keep)
  | .range t x => fun ev R n => (C.ty t).bind fun ti => (ev x).bind fun x => match ti.td, x with
    | .map _ _, .map o => (R.map o).bind fun es => some (.ptr n 0 0, .both o (.cells [] 1) (.iter 0 es))
    | _, _ => none
  | .entry x => fun ev R _ => (ev x).bind fun x => match x with
    | .ptr o 0 0 => (R.iter o).bind fun q => match q with
      | (2, [p]) => some (.tup [p.1, p.2], .keep)
      | _ => none
    | _ => none
  | .extract t i => fun ev _ _ => (ev t).bind fun t => match t with
    | .tup vs => (vs[i]?).bind fun v => some (v, .keep)
    | _ => none
  | .typeAssert x _ t true => fun ev _ _ => (C.ty t).bind fun ti => (ev x).bind fun v => (part ti ti.zero).bind fun z => match ti.td, v with
    | .iface, _ => none
    | _, .iface t' u => some (.tup (if t' == t then [u, .bool true] else [z, .bool false]), .keep)
    | _, .nilIface => some (.tup [z, .bool false], .keep)
    | _, _ => none
  | .call { callee := .builtin b, args, argTypes } => fun ev R n => (mapO ev args.toList).bind fun vs => match b, vs with
    | .len, [x] => (argTypes[0]?).bind fun t => (C.ty t).bind fun ti => (lenF R ti.td x).bind fun n => some (.int .i64 n, .keep)
    | .append, [s, y] => match argTypes.toList with
      | [t, t'] => if t != t' then appendZF C n t t' s y else (C.ty t).bind fun ti => match ti.td with
        | .slice el => (C.ty el).bind fun te => (elemsF R y).bind fun ys => appendF R n te.size s ys
        | _ => none
      | _ => none
    | b, vs => moreF C R b argTypes.toList vs
  | _ => fun _ _ _ => none

/-! ### They are the same -/

theorem rdLive_of (h : Heap) (o g : Nat) : (Rdr.of h).live o g = h.live o g := by
  unfold Rdr.live Heap.live
  show (match h.obj o g with | some _ => true | none => false) = (h.obj o g).isSome
  cases h.obj o g <;> rfl
theorem cells_of (h : Heap) (a : AV) : cellsF (Rdr.of h) a = cellsAt h a := by cases a <;> rfl
theorem load_of (h : Heap) (t : Nat) (a : AV) : loadF C (Rdr.of h) t a = loadA C h t a := by
  simp only [loadF, loadA, cells_of]; rfl
theorem elems_of (h : Heap) (a : AV) : elemsF (Rdr.of h) a = elems h a := by cases a <;> rfl
theorem len_of (h : Heap) (td : TD) (x : AV) : lenF (Rdr.of h) td x = lenA h td x := by
  cases td <;> cases x <;> first | rfl | skip
  · simp only [lenF, lenA, rdLive_of]
  · rename_i o
    show (h.mapAt o).map (·.length) = (match h[o]? with | some (.map es) => some es.length | _ => none)
    unfold Heap.mapAt
    cases h[o]? with
    | none => rfl
    | some y => cases y <;> rfl
theorem indexAddr_of (h : Heap) (t : Nat) (x i : AV) : indexAddrF C (Rdr.of h) t x i = indexAddrA C h t x i := by
  simp only [indexAddrF, indexAddrA, rdLive_of]; rfl
theorem fieldAddr_of (h : Heap) (t : Nat) (x : AV) (k : Nat) : fieldAddrF C (Rdr.of h) t x k = fieldAddrA C h t x k := by
  simp only [fieldAddrF, fieldAddrA, rdLive_of]; rfl
theorem eq_of (h : Heap) (td : TD) (x y : AV) : eqF (Rdr.of h) td x y = eqA h td x y := by
  simp only [eqF, eqA, rdLive_of]; rfl
theorem eqC_of (h : Heap) (t : Nat) (td : TD) (x y : AV) : eqCF C (Rdr.of h) t td x y = eqC C h t td x y := by
  simp only [eqCF, eqC, eq_of]; rfl
theorem bin_of (h : Heap) (op : BinOp) (t : Nat) (x y : AV) : binF C (Rdr.of h) op t x y = binA C h op t x y := by
  unfold binF binA
  cases x <;> cases y <;> first | rfl | (simp only [eqC_of]; done) | (simp only [eqC_of]; rfl)
theorem slice_of (h : Heap) (t : Nat) (x : AV) (lo hi : Option AV) : sliceF C (Rdr.of h) t x lo hi = sliceA C h t x lo hi none := by
  unfold sliceF sliceA
  show _ = (C.ty t).bind _
  congr 1
theorem ents_of (h : Heap) (m : AV) : entsF (Rdr.of h) m = h.ents m := by cases m <;> rfl
theorem lookup_of (h : Heap) (t : Nat) (m k : AV) (ok : Bool) : lookupF C (Rdr.of h) t m k ok = lookupA C h t m k ok := by
  simp only [lookupF, lookupA, ents_of]; rfl
theorem cap_of (h : Heap) (x : AV) : capF (Rdr.of h) x = capA h x := by
  simp only [capF, capA, rdLive_of]; rfl
theorem conv_of (h : Heap) (a b : Nat) (x : AV) : convF C (Rdr.of h) a b x = convH C h a b x := by
  simp only [convF, convH, elems_of]; rfl

/-- The value, and the heap behind it. -/
def fin (h : Heap) (x : Option (AV × Eff)) : Option (AV × Heap) := x.map fun y => (y.1, y.2.app h)
def finE (h : Heap) (x : Option Eff) : Option Heap := x.map (·.app h)
theorem fin_bind {α : Type} (h : Heap) (x : Option α) (g : α → Option (AV × Eff)) : fin h (x.bind g) = x.bind fun a => fin h (g a) := by cases x <;> rfl
theorem finE_bind {α : Type} (h : Heap) (x : Option α) (g : α → Option Eff) : finE h (x.bind g) = x.bind fun a => finE h (g a) := by cases x <;> rfl
theorem fin_some (h : Heap) (v : AV) (y : Eff) : fin h (some (v, y)) = some (v, y.app h) := rfl
theorem fin_none (h : Heap) : fin h none = none := rfl
theorem fin_ite (h : Heap) (c : Prop) [Decidable c] (x y : Option (AV × Eff)) : fin h (if c then x else y) = if c then fin h x else fin h y := by split <;> rfl
theorem fin_eff (h : Heap) (v : AV) (x : Option Eff) : fin h (x.bind fun y => some (v, y)) = (finE h x).bind fun h' => some (v, h') := by cases x <;> rfl

theorem store_of (h : Heap) (t : Nat) (a v : AV) : finE h (storeF C (Rdr.of h) t a v) = storeA C h t a v := by
  unfold storeF storeA
  simp only [splice_eq]
  rw [finE_bind]
  show _ = (C.ty t).bind _
  congr 1
  funext ti
  cases a <;> first | rfl | skip
  rename_i o off g
  show finE h ((h.obj o g).bind _) = (h.obj o g).bind _
  rw [finE_bind]
  congr 1
  funext cs
  simp only [finE]
  split <;> rfl
theorem update_of (h : Heap) (t : Nat) (m k v : AV) : finE h (updateF C (Rdr.of h) t m k v) = updateA C h t m k v := by
  unfold updateF updateA
  rw [finE_bind]
  show _ = (C.ty t).bind _
  congr 1
  funext ti
  generalize ti.td = td
  cases td <;> first | rfl | skip
  cases m <;> first | rfl | skip
  rename_i kt e o
  show finE h ((C.ty kt).bind _) = (C.ty kt).bind _
  rw [finE_bind]
  congr 1
  funext tk
  by_cases hk : (!keyTd C kt tk.td k) = true
  · rw [if_pos hk, if_pos hk]; rfl
  · rw [if_neg hk, if_neg hk]
    show finE h ((h.mapAt o).bind _) = (h.mapAt o).bind _
    rw [finE_bind]
    congr 1
    funext es
    rw [finE_bind]
    rfl
theorem grow_of (h : Heap) (o len n sz g : Nat) (cs : List AV) (c : Option Nat) : fin h (growF h.length o len n sz g cs c) = growA h o len n sz g cs c := by
  cases c with
  | none => rfl
  | some c => simp only [growF, growA, fin_ite]; rfl
theorem append_of (h : Heap) (sz : Nat) (s : AV) (ys : List AV) : fin h (appendF (Rdr.of h) h.length sz s ys) = appendA h sz s ys := by
  unfold appendF appendA
  simp only [splice_eq, fin_ite, fin_none]
  split
  · rfl
  · cases s <;> first | rfl | skip
    · simp only [fin_ite, fin_none]; rfl
    · rename_i o off len sz' g cap
      show fin h ((h.obj o g).bind _) = (h.obj o g).bind _
      rw [fin_bind]
      congr 1
      funext cs
      simp only [fin_ite, fin_none, grow_of]; rfl
theorem appendZ_of (h : Heap) (t t' : Nat) (s y : AV) : fin h (appendZF C h.length t t' s y) = appendZ C h t t' s y := by
  unfold appendZF appendZ
  rw [fin_bind]
  show _ = (C.ty t).bind _
  congr 1
  funext ti
  rw [fin_bind]
  show _ = (C.ty t').bind _
  congr 1
  funext ti'
  generalize ti.td = td
  generalize ti'.td = td'
  cases td <;> first | rfl | skip
  cases td' <;> first | rfl | skip
  cases s <;> first | rfl | skip
  rename_i xs z r
  cases xs <;> first | rfl | skip
  cases r <;> first | rfl | skip
  cases y <;> first | rfl | skip
  rename_i k n
  cases k <;> first | rfl | skip
  show fin h ((C.ty _).bind _) = (C.ty _).bind _
  rw [fin_bind]
  congr 1
  funext te
  simp only [fin_ite, fin_none]; rfl
theorem makeSlice_of (h : Heap) (t : Nat) (l c : AV) : fin h (makeSliceF C h.length t l c) = makeSliceA C h t l c := by
  unfold makeSliceF makeSliceA
  rw [fin_bind]
  show _ = (C.ty t).bind _
  congr 1
  funext ti
  generalize ti.td = td
  cases td <;> cases l <;> cases c <;> first | rfl | skip
  show fin h ((C.ty _).bind _) = (C.ty _).bind _
  rw [fin_bind]
  congr 1
  funext te
  simp only [fin_ite, fin_none]; rfl

theorem key_of {α : Type} {h : Heap} (x : Option α) (g : α → Option (AV × Eff)) (g' : α → Option (AV × Heap)) (hg : ∀ a, fin h (g a) = g' a) : fin h (x.bind g) = x >>= g' := by
  rw [fin_bind]
  cases x with
  | none => rfl
  | some a => exact hg a

theorem more_of (h : Heap) (b : Builtin) (ts : List Nat) (vs : List AV) : fin h (moreF C (Rdr.of h) b ts vs) = moreA C h b ts vs := by
  have hc : ∀ (t : Nat) (x : AV), fin h (moreF C (Rdr.of h) .cap [t] [x]) = moreA C h .cap [t] [x] := fun t x => by
    refine key_of _ _ _ fun ti => ?_
    generalize ti.td = td
    cases td <;> first | rfl | skip
    show fin h ((capF (Rdr.of h) x).map _) = _
    rw [cap_of]
    cases capA h x <;> rfl
  have hcl : ∀ (t : Nat) (x : AV), fin h (moreF C (Rdr.of h) .clear [t] [x]) = moreA C h .clear [t] [x] := fun t x => by
    refine key_of _ _ _ fun ti => ?_
    generalize ti.td = td
    cases td <;> cases x <;> first | rfl | skip
    · rename_i e xs z r
      cases xs <;> rfl
    · refine key_of _ _ _ fun te => ?_
      refine key_of _ _ _ fun cs => ?_
      simp only [splice_eq, fin_ite, fin_none]; rfl
    · exact key_of _ _ _ fun _ => rfl
  have hcp : ∀ (t t' : Nat) (d x : AV), fin h (moreF C (Rdr.of h) .copy [t, t'] [d, x]) = moreA C h .copy [t, t'] [d, x] := fun t t' d x => by
    refine key_of _ _ _ fun ti => ?_
    generalize ti.td = td
    cases td <;> first | rfl | skip
    refine key_of _ _ _ fun te => ?_
    show fin h ((elemsF (Rdr.of h) x).bind _) = _
    rw [elems_of]
    refine key_of _ _ _ fun ys => ?_
    cases d <;> first | rfl | skip
    · rename_i xs z r
      cases xs <;> rfl
    · refine key_of _ _ _ fun cs => ?_
      simp only [splice_eq, fin_ite, fin_none]; rfl
  have hd : ∀ (t t' : Nat) (m k : AV), fin h (moreF C (Rdr.of h) .delete [t, t'] [m, k]) = moreA C h .delete [t, t'] [m, k] := fun t t' m k => by
    refine key_of _ _ _ fun ti => ?_
    generalize ti.td = td
    cases td <;> first | rfl | skip
    refine key_of _ _ _ fun tk => ?_
    show fin h (if _ then _ else _) = if _ then _ else _
    rw [fin_ite]
    split
    · rfl
    · cases m <;> first | rfl | skip
      exact key_of _ _ _ fun es => key_of _ _ _ fun es' => rfl
  cases b <;> first | rfl | skip
  case cap =>
    match ts, vs with
    | [t], [x] => exact hc t x
    | [], _ => rfl
    | _ :: _ :: _, _ => rfl
    | [_], [] => rfl
    | [_], _ :: _ :: _ => rfl
  case clear =>
    match ts, vs with
    | [t], [x] => exact hcl t x
    | [], _ => rfl
    | _ :: _ :: _, _ => rfl
    | [_], [] => rfl
    | [_], _ :: _ :: _ => rfl
  case copy =>
    match ts, vs with
    | [t, t'], [d, x] => exact hcp t t' d x
    | [], _ => rfl
    | [_], _ => rfl
    | _ :: _ :: _ :: _, _ => rfl
    | [_, _], [] => rfl
    | [_, _], [_] => rfl
    | [_, _], _ :: _ :: _ :: _ => rfl
  case delete =>
    match ts, vs with
    | [t, t'], [d, x] => exact hd t t' d x
    | [], _ => rfl
    | [_], _ => rfl
    | _ :: _ :: _ :: _, _ => rfl
    | [_, _], [] => rfl
    | [_, _], [_] => rfl
    | [_, _], _ :: _ :: _ :: _ => rfl
  case max =>
    match vs with
    | [] => rfl
    | [x] => cases x <;> rfl
    | x :: y :: _ :: _ => cases x <;> cases y <;> rfl
    | [x, y] => cases x <;> cases y <;> first | rfl | (simp only [moreF, moreA, fin_ite, fin_none]; rfl)
  case min =>
    match vs with
    | [] => rfl
    | [x] => cases x <;> rfl
    | x :: y :: _ :: _ => cases x <;> cases y <;> rfl
    | [x, y] => cases x <;> cases y <;> first | rfl | (simp only [moreF, moreA, fin_ite, fin_none]; rfl)

theorem opF_eq (f : Nat) (e : Env) (h : Heap) (o : Oper) : fin h (opF C f o.dst o.op (evalA C e) (Rdr.of h) h.length) = opA C f e h o := by
  unfold opA
  simp only
  generalize o.op = op
  cases op
  case pick c a b =>
    refine key_of _ _ _ fun v => ?_
    cases v <;> first | rfl | skip
    rename_i b
    cases b <;> exact key_of _ _ _ fun _ => rfl
  case alloc t => exact key_of _ _ _ fun ti => by simp only [fin_ite, fin_none]; rfl
  case box t x => exact key_of _ _ _ fun ti => key_of _ _ _ fun v => by simp only [fin_ite, fin_none]; rfl
  case build t ps => exact key_of _ _ _ fun ps => key_of _ _ _ fun v => rfl
  case buildSlice t len ps =>
    refine key_of _ _ _ fun ps => key_of _ _ _ fun ti => ?_
    generalize ti.td = td
    cases td <;> first | rfl | skip
    refine key_of _ _ _ fun ti => ?_
    show fin h (if _ then _ else _) = if _ then _ else _
    rw [fin_ite]
    split
    · rfl
    · refine key_of _ _ _ fun cs => ?_
      simp only [fin_ite]; rfl
  case load t a =>
    refine key_of _ _ _ fun x => ?_
    show fin h (if _ then _ else _) = if _ then _ else _
    rw [fin_ite]
    split
    · rfl
    · rw [load_of]; exact key_of _ _ _ fun v => rfl
  case store t a x => refine key_of _ _ _ fun a => key_of _ _ _ fun x => ?_; rw [fin_eff, store_of]; rfl
  case nilCheck x =>
    refine key_of _ _ _ fun v => ?_
    cases v <;> first | rfl | skip
    simp only [fin_ite, rdLive_of]; rfl
  case binOp b t x y t' =>
    refine key_of _ _ _ fun u => ?_
    rw [fin_ite]
    split
    · exact key_of _ _ _ fun v => rfl
    · refine key_of _ _ _ fun y => ?_
      rw [bin_of]; exact key_of _ _ _ fun v => rfl
  case unOp u t x => exact key_of _ _ _ fun x => key_of _ _ _ fun v => rfl
  case convert a b x => refine key_of _ _ _ fun x => ?_; rw [conv_of]; exact key_of _ _ _ fun v => rfl
  case makeInterface t x =>
    refine key_of _ _ _ fun ti => ?_
    generalize ti.td = td
    cases td <;> first | rfl | exact key_of _ _ _ fun v => rfl
  case makeFunc fn first caps =>
    cases fn <;> first | rfl | skip
    show fin h (if _ then _ else _) = if _ then _ else _
    rw [fin_ite]
    split
    · exact key_of _ _ _ fun cs => rfl
    · rw [fin_ite]
      split
      · exact key_of _ _ _ fun cs => rfl
      · rfl
  case makeSlice t x y => exact key_of _ _ _ fun x => key_of _ _ _ fun y => makeSlice_of C h t x y
  case makeMap t r =>
    cases r
    · exact key_of _ _ _ fun ti => rfl
    · rfl
  case lookup t x k ok => refine key_of _ _ _ fun x => key_of _ _ _ fun k => ?_; rw [lookup_of]; exact key_of _ _ _ fun v => rfl
  case mapUpdate t m k x => refine key_of _ _ _ fun m => key_of _ _ _ fun k => key_of _ _ _ fun x => ?_; rw [fin_eff, update_of]; rfl
  case insert t m k x => refine key_of _ _ _ fun m => key_of _ _ _ fun k => key_of _ _ _ fun x => ?_; rw [fin_eff, update_of]; rfl
  case slice t x lo hi mx =>
    have ho : ∀ z : Option Operand, (match z with | none => some none | some y => (evalA C e y).map some) = optA C e z := fun z => by cases z <;> rfl
    simp only [opF, ho]
    refine key_of _ _ _ fun lo => key_of _ _ _ fun hi => ?_
    rw [fin_ite]
    split
    · rfl
    · refine key_of _ _ _ fun x => ?_
      rw [slice_of]
      exact key_of _ _ _ fun v => rfl
  case fieldAddr t x k => refine key_of _ _ _ fun x => ?_; rw [fieldAddr_of]; exact key_of _ _ _ fun v => rfl
  case field t x k => exact key_of _ _ _ fun x => key_of _ _ _ fun v => rfl
  case indexAddr t x i => refine key_of _ _ _ fun x => key_of _ _ _ fun i => ?_; rw [indexAddr_of]; exact key_of _ _ _ fun v => rfl
  case index t x i => exact key_of _ _ _ fun x => key_of _ _ _ fun i => key_of _ _ _ fun v => rfl
  case move x => exact key_of _ _ _ fun v => rfl
  case assign x => exact key_of _ _ _ fun v => rfl
  case range t x =>
    refine key_of _ _ _ fun ti => key_of _ _ _ fun x => ?_
    generalize ti.td = td
    cases td <;> cases x <;> first | rfl | skip
    exact key_of _ _ _ fun es => rfl
  case entry x =>
    refine key_of _ _ _ fun x => ?_
    cases x <;> first | rfl | skip
    rename_i o off g
    match off, g with
    | 0, 0 =>
      refine key_of _ _ _ fun q => ?_
      obtain ⟨k, es⟩ := q
      match k, es with
      | 0, _ => rfl
      | 1, _ => rfl
      | 2, [] => rfl
      | 2, [p] => rfl
      | 2, _ :: _ :: _ => rfl
      | _ + 3, _ => rfl
    | 0, _ + 1 => rfl
    | _ + 1, _ => rfl
  case extract x i =>
    refine key_of _ _ _ fun x => ?_
    cases x <;> first | rfl | skip
    exact key_of _ _ _ fun v => rfl
  case typeAssert x t t' ok =>
    cases ok <;> first | rfl | skip
    refine key_of _ _ _ fun ti => key_of _ _ _ fun v => key_of _ _ _ fun z => ?_
    generalize ti.td = td
    cases td <;> cases v <;> rfl
  case call c =>
    obtain ⟨cal, args, ats⟩ := c
    cases cal <;> first | rfl | skip
    rename_i b
    refine key_of _ _ _ fun vs => ?_
    cases b <;> first | exact more_of C h _ _ _ | skip
    case len =>
      match vs with
      | [] => exact more_of C h _ _ _
      | _ :: _ :: _ => exact more_of C h _ _ _
      | [x] =>
        refine key_of _ _ _ fun t => key_of _ _ _ fun ti => ?_
        rw [len_of]
        exact key_of _ _ _ fun n => rfl
    case append =>
      match vs with
      | [] => exact more_of C h _ _ _
      | [_] => exact more_of C h _ _ _
      | _ :: _ :: _ :: _ => exact more_of C h _ _ _
      | [x, y] =>
        show fin h (match ats.toList with | [t, t'] => _ | _ => _) = (match ats.toList with | [t, t'] => _ | _ => _)
        generalize ats.toList = l
        match l with
        | [] => rfl
        | [_] => rfl
        | _ :: _ :: _ :: _ => rfl
        | [t, t'] =>
          show fin h (if _ then _ else _) = if _ then _ else _
          rw [fin_ite]
          split
          · exact appendZ_of C h t t' x y
          · refine key_of _ _ _ fun ti => ?_
            generalize ti.td = td
            cases td <;> first | rfl | skip
            refine key_of _ _ _ fun te => ?_
            rw [elems_of]
            exact key_of _ _ _ fun ys => append_of h _ _ _
  all_goals rfl
end
end Go.Rv
