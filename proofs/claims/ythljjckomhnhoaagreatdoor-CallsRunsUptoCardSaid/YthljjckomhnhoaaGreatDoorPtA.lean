/-
  An interpreter of our own over the model's code: values without addresses, mutable objects by number, immutable lists.
  What it answers is shown in the text RvSound to be what the model's calls come to.
-/
import Derived.Calls
set_option linter.unusedSectionVars false
set_option linter.unusedSimpArgs false
set_option linter.unusedVariables false
set_option linter.defProp false
namespace Go
def qAa := @Bool.and_eq_true
def qAb := @Bool.false_eq_true
def qAc := @Option.bind_eq_some_iff.{0, 0}
def qAd := @Option.bind_eq_bind.{0}
def qAe := @Option.bind_some.{0, 0}
def qAf := @Option.some.injEq.{0}
def qAg := @Prod.mk.injEq.{0, 0}
def qAh := @Option.bind_none.{0, 0}
def qAi := @List.mem_cons_self.{0}
def qAj := @List.mem_cons.{0}
def qAk := @List.mem_cons_of_mem.{0}
def qAl := @Option.map_eq_some_iff.{0, 0}
def qAm := @List.map_cons.{0, 0}
def qAn := @List.mem_singleton.{0}
def qAo := @Option.map_some.{0, 0}
def qAp := @List.mem_append.{0}
def qAq := @Array.getElem?_eq_some_iff.{0}
def qAr := @Nat.le_refl
def qAs := @List.getElem?_eq_getElem.{0}
def qAt := @List.getElem?_eq_none.{0}
def qAu := @List.getElem?_eq_some_iff.{0}
def qAv := @List.length_cons.{0}
def qAw := @List.getElem?_set_ne.{0}
def qAx := @List.getElem?_append_left.{0}
def qAy := @List.getElem?_append_right.{0}
def qAz := @List.getElem?_set_self.{0}
def qBa := @List.getElem?_take_of_lt.{0}
def qBb := @List.length_append.{0}
def qBc := @List.getElem?_map.{0, 0}
def qBd := @List.all_eq_true.{0}
def qBe := @List.getElem?_cons_zero.{0}
def qBf := @List.drop_zero.{0}
def qBg := @Nat.zero_add
def qBh := @Bool.not_eq_true'
def qBi := @List.take_of_length_le.{0}
def qBj := @List.mem_of_getElem?.{0}
def qBk := @List.ext_getElem?.{0}
def qBl := @List.mem_map.{0, 0}
def qBm := @Option.bind_assoc.{0, 0, 0}
def qBn := @List.length_map.{0, 0}
def qBo := @Int.natCast_zero
def qBp := @List.getD_eq_getElem?_getD.{0}
def qBq := @List.nil_append.{0}
def qBr := @List.cons_append.{0}
def qBs := @List.drop_eq_getElem_cons.{0}
end Go
namespace Go.Rv
noncomputable section
inductive Room where
 | nil
 | exact (n : Nat)
 | open
 deriving DecidableEq, Inhabited
inductive AV where
 | bool (b : Bool)
 | int (k : IntKind) (n : Int)
 | str (s : List UInt8)
 | nilPtr | nilMap | nilFunc | nilIface
 | ptr (o off gen : Nat)
 | ref (cells : List AV)
 | lst (xs : List AV) (esz : Nat) (room : Room)
 | msl (o off len esz gen : Nat) (cap : Option Nat)
 | clo (f : Nat) (caps : List AV)
 | bnd (f : Nat) (first : List AV)
 | yld (l : Nat)
 | map (o : Nat)
 | iface (t : Nat) (v : AV)
 | agg (cells : List AV)
 | tup (vs : List AV)
 | junk
 deriving Inhabited
mutual
def AV.eqb : AV -> AV -> Bool
  | .bool a, .bool b => a == b
  | .int k a, .int k' b => decide (k = k') && decide (a = b)
  | .str a, .str b => a == b
  | .nilPtr, .nilPtr | .nilMap, .nilMap | .nilFunc, .nilFunc | .nilIface, .nilIface | .junk, .junk => true
  | .ptr o off g, .ptr o' off' g' => Nat.beq o o' && Nat.beq off off' && Nat.beq g g'
  | .ref cs, .ref cs' => AV.eqbs cs cs'
  | .lst xs z r, .lst xs' z' r' => Nat.beq z z' && decide (r = r') && AV.eqbs xs xs'
  | .msl o off len sz g cap, .msl o' off' len' sz' g' cap' => Nat.beq o o' && Nat.beq off off' && Nat.beq len len' && Nat.beq sz sz' && Nat.beq g g' && decide (cap = cap')
  | .clo f cs, .clo f' cs' => Nat.beq f f' && AV.eqbs cs cs'
  | .bnd f cs, .bnd f' cs' => Nat.beq f f' && AV.eqbs cs cs'
  | .yld l, .yld l' => Nat.beq l l'
  | .map o, .map o' => Nat.beq o o'
  | .iface t v, .iface t' v' => Nat.beq t t' && AV.eqb v v'
  | .agg cs, .agg cs' => AV.eqbs cs cs'
  | .tup cs, .tup cs' => AV.eqbs cs cs'
  | _, _ => false
def AV.eqbs : List AV -> List AV -> Bool
  | [], [] => true
  | a :: x, b :: y => AV.eqb a b && AV.eqbs x y
  | _, _ => false
end
def AV.cells : AV -> List AV
 | .agg cs => cs
 | v => [v]
def AV.isRef : AV -> Bool
 | .ref _ => true
 | _ => false
def AV.leaf : AV -> Bool
 | .agg _ | .tup _ | .junk => false
 | _ => true
abbrev Env := List (Nat × AV)
structure ALoop where
 st : LoopState
 pend : Option Code
 f : Nat
 env : Env
 ps : List Nat
 assign : Code
 body : Code
inductive AObj where
 | cells (cs : List AV) (gen : Nat)
 | map (es : List (AV × AV))
 | loop (r : ALoop)
 | iter (k : Nat) (es : List (AV × AV))
instance : Inhabited AObj := ⟨.map []⟩
abbrev Heap := List AObj
def Env.get (e : Env) (t : Nat) : AV := List.rec (motive := fun _ => AV) .junk (fun p _ ih => Bool.rec ih p.2 (Nat.beq p.1 t)) e
theorem Env.get_nil (t : Nat) : Env.get [] t = .junk := rfl
theorem Env.get_cons (k : Nat) (v : AV) (r : Env) (t : Nat) : Env.get ((k, v) :: r) t = if k == t then v else Env.get r t := by
 show @Bool.rec (fun _ => AV) (Env.get r t) v (Nat.beq k t) = _
 cases h : Nat.beq k t with
 | true => have := Nat.eq_of_beq_eq_true h; subst this; simp
 | false => have := Nat.ne_of_beq_eq_false h; simp [this]
def Env.put (e : Env) (t : Nat) (v : AV) : Env := (t, v) :: e
theorem Env.put_eq (e : Env) (t : Nat) (v : AV) : Env.put e t v = (t, v) :: e := rfl
def Env.putAt (e : Env) (d : Option Nat) (v : AV) : Env :=
 match d with
 | some t => e.put t v
 | none => e
def Env.keep (e : Env) : List Nat -> Env
 | [] => []
 | t :: r => (t, e.get t) :: Env.keep e r
inductive TD where
 | bool | int (k : IntKind) | str | ptr | func | iface | other
 | slice (e : Nat)
 | array (n e : Nat)
 | map (k e : Nat)
 | struct (fs : List (Nat × Nat))
 deriving Inhabited
structure TI where
 td : TD
 size : Nat
 bytes : Nat
 zero : List AV
 deriving Inhabited
def TD.isAgg : TD -> Bool
 | .array .. | .struct _ => true
 | _ => false
inductive CRes where
 | ret (v : AV)
 | pan (v : AV)
 deriving Inhabited
structure FI where
 params : Nat
 results : List ResultVar
 body : Code
structure Cfg where
 ty : Nat -> Option TI
 fn : Nat -> Option FI
 glob : Nat -> Option AV
 pure : Nat -> Bool
 imm : Nat -> Nat -> Bool
 live : Nat -> Nat -> Option (List Nat)
 prim : Nat -> Option (List AV -> Heap -> Option (CRes × Heap))
 quiet : Nat -> Nat -> Bool
 loose : Nat -> Nat -> List Nat := fun _ _ => []
 alone : Nat -> Bool := fun _ => false
 rounds : Nat -> Bool := fun _ => false
 flat : Nat -> List AV -> Bool := fun _ _ => false
variable (C : Cfg)
def ofValue : Value -> Option AV
 | .bool b => some (.bool b)
 | .int k n => some (.int k n)
 | .string s => some (.str s.data.toList)
 | .pointer none => some .nilPtr
 | .slice none 0 0 => some (.lst [] 0 .nil)
 | .map none => some .nilMap
 | .nilFunc => some .nilFunc
 | .nilIface => some .nilIface
 | .tuple vs => if vs.isEmpty then some (.tup []) else none
 | _ => none
def evalA (e : Env) : Operand -> Option AV
 | .tmp t => match e.get t with
  | .junk => none
  | v => some v
 | .const v => ofValue v
 | .global g => C.glob g
 | .func f => some (.clo f [])
def optA (e : Env) : Option Operand -> Option (Option AV)
 | none => some none
 | some x => (evalA C e x).map some
def Heap.obj (h : Heap) (o gen : Nat) : Option (List AV) :=
 match h[o]? with
 | some (.cells cs g) => if g == gen then some cs else none
 | _ => none
def cellsAt (h : Heap) : AV -> Option (List AV)
 | .ref cs => some cs
 | .ptr o off g => (h.obj o g).map (·.drop off)
 | _ => none
def part (t : TI) (cs : List AV) : Option AV :=
 if t.td.isAgg then (if t.size <= cs.length then some (.agg (cs.take t.size)) else none) else cs.head?
def loadA (h : Heap) (t : Nat) (a : AV) : Option AV := do part (← C.ty t) (← cellsAt h a)
def setCells {α : Type} (cs : List α) (off : Nat) : List α -> List α
 | [] => cs
 | v :: r => setCells (cs.set off v) (off + 1) r
def storeA (h : Heap) (t : Nat) (a v : AV) : Option Heap := do
 let ti ← C.ty t
 match a with
 | .ptr o off g =>
  let cs ← h.obj o g
  if v.cells.length == ti.size && off + ti.size <= cs.length && v.cells.all AV.leaf then some (h.set o (.cells (setCells cs off v.cells) g)) else none
 | _ => none
def one : AV -> AV
 | .agg l => .agg [.agg l]
 | c => c
def group : Nat -> List AV -> Nat -> List AV
 | 0, _, _ => []
 | n + 1, cs, sz => (if sz == 1 then one (cs.headD .junk) else .agg (cs.take sz)) :: group n (cs.drop sz) sz
def elems (h : Heap) : AV -> Option (List AV)
 | .lst xs _ _ => some xs
 | .msl o off len sz g _ => do
  let cs ← h.obj o g
  if off + len * sz <= cs.length then some (group len (cs.drop off) sz) else none
 | _ => none
def Heap.live (h : Heap) (o gen : Nat) : Bool := (h.obj o gen).isSome
def lenA (h : Heap) (td : TD) (x : AV) : Option Nat :=
 match td, x with
 | .slice _, .lst xs _ _ => some xs.length
 | .slice _, .msl o _ n _ g _ => if h.live o g then some n else none
 | .str, .str s => some s.length
 | .map _ _, .nilMap => some 0
 | .map _ _, .map o => (match h[o]? with | some (.map es) => some es.length | _ => none)
 | _, _ => none
def indexAddrA (h : Heap) (t : Nat) (x i : AV) : Option AV := do
 let ti ← C.ty t
 match i with
 | .int _ n =>
  if n < 0 then none else
  match ti.td, x with
  | .slice e, .lst xs _ _ => do
   let v ← xs[n.toNat]?
   if v.cells.length == (← C.ty e).size then some (.ref v.cells) else none
  | .slice e, .msl o off len sz g _ => do
   if n.toNat < len && sz == (← C.ty e).size && h.live o g then some (.ptr o (off + n.toNat * sz) g) else none
  | .array len e, .ref cs => do if n.toNat < len then some (.ref (cs.drop (n.toNat * (← C.ty e).size))) else none
  | .array len e, .ptr o off g => do if n.toNat < len && h.live o g then some (.ptr o (off + n.toNat * (← C.ty e).size) g) else none
  | _, _ => none
 | _ => none
def fieldAddrA (h : Heap) (t : Nat) (x : AV) (f : Nat) : Option AV := do
 match (← C.ty t).td with
 | .struct fs => do
  let (ft, off) ← fs[f]?
  if (← C.ty ft).size == 0 then none else
  match x with
  | .ref cs => some (.ref (cs.drop off))
  | .ptr o off' g => if h.live o g then some (.ptr o (off' + off) g) else none
  | _ => none
 | _ => none
def fieldA (t : Nat) (x : AV) (f : Nat) : Option AV := do
 match (← C.ty t).td, x with
 | .struct fs, .agg cs => do
  let (ft, off) ← fs[f]?
  part (← C.ty ft) (cs.drop off)
 | _, _ => none
def indexA (t : Nat) (x i : AV) : Option AV := do
 match (← C.ty t).td, x, i with
 | .str, .str s, .int _ n => if n < 0 then none else (s[n.toNat]?).map fun c => .int .u8 c.toNat
 | .array len e, .agg cs, .int _ n => do
  if n < 0 then none else if n.toNat < len then part (← C.ty e) (cs.drop (n.toNat * (← C.ty e).size)) else none
 | _, _, _ => none
def fillA (place : Nat -> Option (Nat × Nat)) (cells : List AV) : List (Nat × AV) -> Option (List AV)
 | [] => some cells
 | (i, v) :: rest => do
  let (off, size) ← place i
  if v.cells.length == size && off + size <= cells.length then fillA place (setCells cells off v.cells) rest else none
def buildA (t : Nat) (parts : List (Nat × AV)) : Option AV := do
 let ti ← C.ty t
 match ti.td with
 | .struct fs => do
  let cs ← fillA (fun i => (fs[i]?).bind fun (ft, off) => (C.ty ft).map fun x => (off, x.size)) ti.zero parts
  some (.agg cs)
 | .array _ e => do
  let sz := (← C.ty e).size
  let cs ← fillA (fun i => some (i * sz, sz)) ti.zero parts
  some (.agg cs)
 | _ => none
def copies : Nat -> List AV -> List AV
 | 0, _ => []
 | n + 1, z => z ++ copies n z
def mostLen : Nat := 4294967296
def arithA (op : BinOp) (k : IntKind) (a b : Int) : Option AV :=
 match op with
 | .add => some (.int k (k.wrap (a + b)))
 | .sub => some (.int k (k.wrap (a - b)))
 | .mul => some (.int k (k.wrap (a * b)))
 | .quo => if b == 0 then none else some (.int k (k.wrap (a.tdiv b)))
 | .rem => if b == 0 then none else some (.int k (a.tmod b))
 | .eql => some (.bool (a == b))
 | .neq => some (.bool (a != b))
 | .lss => some (.bool (a < b))
 | .leq => some (.bool (a <= b))
 | .gtr => some (.bool (a > b))
 | .geq => some (.bool (a >= b))
 | .and => some (.int k (k.wrap (BitVec.ofInt k.bits a &&& BitVec.ofInt k.bits b).toNat))
 | .or => some (.int k (k.wrap (BitVec.ofInt k.bits a ||| BitVec.ofInt k.bits b).toNat))
 | .xor => some (.int k (k.wrap (BitVec.ofInt k.bits a ^^^ BitVec.ofInt k.bits b).toNat))
 | .shl => if b < 0 then none else some (.int k (k.wrap (a * 2 ^ Nat.min b.toNat k.bits)))
 | .shr => if b < 0 then none else some (.int k (a.fdiv (2 ^ Nat.min b.toNat k.bits)))
 | _ => none
def eqA (h : Heap) (td : TD) (x y : AV) : Option Bool :=
 match td, x, y with
 | .bool, .bool a, .bool b => some (a == b)
 | .ptr, .nilPtr, .nilPtr => some true
 | .ptr, .nilPtr, .ref _ | .ptr, .ref _, .nilPtr => some false
 | .ptr, .nilPtr, .ptr o _ g | .ptr, .ptr o _ g, .nilPtr => if h.live o g then some false else none
 | .slice _, .lst _ _ r, .lst _ _ .nil => some (r == .nil)
 | .slice _, .lst _ _ .nil, .lst _ _ r => some (r == .nil)
 | .slice _, .msl o _ _ _ g _, .lst _ _ .nil | .slice _, .lst _ _ .nil, .msl o _ _ _ g _ => if h.live o g then some false else none
 | .map _ _, .nilMap, .nilMap => some true
 | .map _ _, .nilMap, .map _ | .map _ _, .map _, .nilMap => some false
 | .func, .nilFunc, .nilFunc => some true
 | .func, .nilFunc, .clo .. | .func, .clo .., .nilFunc => some false
 | _, _, _ => none
def sameKey : AV -> AV -> Option Bool
 | .bool a, .bool b => some (a == b)
 | .int k a, .int k' b => if k == k' then some (a == b) else none
 | .str a, .str b => some (a == b)
 | _, _ => none
def sameKeys : List AV -> List AV -> Option Bool
 | [], [] => some true
 | a :: x, b :: y => do
  let p ← sameKey a b
  let q ← sameKeys x y
  some (p && q)
 | _, _ => none
def eqC (h : Heap) (t : Nat) (td : TD) (x y : AV) : Option Bool :=
 match x, y with
 | .agg a, .agg b => if C.flat t a then sameKeys a b else none
 | x, y => eqA h td x y
def binA (h : Heap) (op : BinOp) (t : Nat) (x y : AV) : Option AV :=
 match x, y with
 | .int k a, .int k' b => if k == k' then arithA op k a b else none
 | .str a, .str b =>
  match op with
  | .add => if a.length + b.length <= mostLen then some (.str (a ++ b)) else none
  | .eql => some (.bool (a == b))
  | .neq => some (.bool (!(a == b)))
  | .lss => some (.bool (Op.bytesLess a b))
  | .leq => some (.bool (Op.bytesLess a b || a == b))
  | .gtr => some (.bool (!(Op.bytesLess a b || a == b)))
  | .geq => some (.bool (!Op.bytesLess a b))
  | _ => none
 | x, y => do
  let ti ← C.ty t
  match op with
  | .eql => (eqC C h t ti.td x y).map .bool
  | .neq => (eqC C h t ti.td x y).map fun b => .bool (!b)
  | _ => none
def nilI : Operand -> Bool
 | .const .nilIface => true
 | _ => false
def nilIA (op : BinOp) (t : Nat) (x : AV) : Option AV := do
 match (← C.ty t).td, op, x with
 | .iface, .eql, .nilIface => some (.bool true)
 | .iface, .eql, .iface _ _ => some (.bool false)
 | .iface, .neq, .nilIface => some (.bool false)
 | .iface, .neq, .iface _ _ => some (.bool true)
 | _, _, _ => none
def unA (op : UnOp) : AV -> Option AV
 | .bool b => if op matches .not then some (.bool (!b)) else none
 | .int k n => if op matches .neg then some (.int k (k.wrap (0 - n))) else none
 | _ => none
def convA (dst : Nat) (x : AV) : Option AV := do
 match (← C.ty dst).td, x with
 | .int k, .int _ n => some (.int k (k.wrap n))
 | .str, .str s => some (.str s)
 | _, _ => none
def boundA (v : Option AV) (d : Nat) (most : Nat) : Option Nat :=
 match v with
 | none => some d
 | some (.int _ n) => if 0 <= n && n <= most then some n.toNat else none
 | _ => none
def sliceA (h : Heap) (t : Nat) (x : AV) (lo hi mx : Option AV) : Option AV := do
 match (← C.ty t).td, x with
 | .str, .str s => do
  if mx.isSome then none else
  let b ← boundA hi s.length s.length
  let a ← boundA lo 0 b
  some (.str ((s.take b).drop a))
 | .slice e, .lst xs z r => do
  if !(z == (← C.ty e).size || xs.isEmpty) then none else
  match mx with
  | none =>
   let b ← boundA hi xs.length xs.length
   let a ← boundA lo 0 b
   some (.lst ((xs.take b).drop a) z (match r with | .nil => .nil | .exact c => .exact (c - a) | .open => .open))
  | some m => do
   let _ ← hi
   let m ← boundA (some m) 0 xs.length
   let b ← boundA hi 0 m
   let a ← boundA lo 0 b
   some (.lst ((xs.take b).drop a) z (match r with | .nil => .nil | _ => .exact (m - a)))
 | .slice e, .msl o off len sz g cap => do
  let cs ← h.obj o g
  if mx.isSome || sz != (← C.ty e).size then none else
  let most := match cap with | some c => c | none => if sz == 0 then len else (cs.length - off) / sz
  let b ← boundA hi len most
  let a ← boundA lo 0 b
  some (.msl o (off + a * sz) (b - a) sz g (cap.map (· - a)))
 | .array n e, .ptr o off g => do
  if mx.isSome then none else
  let cs ← h.obj o g
  let sz := (← C.ty e).size
  if off + n * sz > cs.length then none else
  let b ← boundA hi n n
  let a ← boundA lo 0 b
  some (.msl o (off + a * sz) (b - a) sz g (some (n - a)))
 | .array n e, .ref cs => do
  if mx.isSome then none else
  let sz := (← C.ty e).size
  if sz == 0 || decide (n * sz > cs.length) then none else
  let b ← boundA hi n n
  let a ← boundA lo 0 b
  some (.lst (group (b - a) (cs.drop (a * sz)) sz) sz (.exact (n - a)))
 | _, _ => none
def Room.full (r : Room) (n : Nat) : Bool :=
 match r with
 | .exact c => n == c
 | .nil => true
 | .open => false
def capOk (cap : Option Nat) (n : Nat) : Bool :=
 match cap with
 | some c => n <= c
 | none => true
def growA (h : Heap) (o len n sz g : Nat) (cs : List AV) : Option Nat -> Option (AV × Heap)
 | none => some (.msl o 0 (len + n) sz (g + 1) none, h.set o (.cells cs (g + 1)))
 | some c => if len == c then some (.msl h.length 0 (len + n) sz 0 none, h ++ [.cells cs 0]) else none
def appendA (h : Heap) (sz : Nat) (s : AV) (ys : List AV) : Option (AV × Heap) :=
 let cells := (ys.map AV.cells).flatten
 if cells.length != ys.length * sz || !cells.all AV.leaf || sz == 0 then none else
 match s with
 | .lst xs z r =>
  if ys.isEmpty then some (s, h) else
  if r.full xs.length && (z == sz || xs.isEmpty) && xs.length + ys.length <= mostLen then
   some (.msl h.length 0 (xs.length + ys.length) sz 0 none, h ++ [.cells ((xs.map AV.cells).flatten ++ cells) 0])
  else none
 | .msl o off len sz' g cap => do
  let cs ← h.obj o g
  if sz' != sz then none else
  if ys.isEmpty then some (s, h) else
  let at_ := off + len * sz
  if at_ + cells.length <= cs.length && capOk cap (len + ys.length) then
   some (.msl o off (len + ys.length) sz g cap, h.set o (.cells (setCells cs at_ cells) g))
  else if at_ == cs.length && off == 0 && len + ys.length <= mostLen then growA h o len ys.length sz g (cs ++ cells) cap
  else none
 | _ => none
def appendZ (h : Heap) (t t' : Nat) (s y : AV) : Option (AV × Heap) := do
 let ti ← C.ty t
 let ti' ← C.ty t'
 match ti.td, ti'.td, s, y with
 | .slice e, .int _, .lst [] _ .nil, .int .i64 n =>
  let te ← C.ty e
  if 0 < n && n <= mostLen && te.zero.length == te.size && te.size != 0 then
   some (.msl h.length 0 n.toNat te.size 0 none, h ++ [.cells (copies n.toNat te.zero) 0])
  else none
 | _, _, _, _ => none
def makeSliceA (h : Heap) (t : Nat) (l c : AV) : Option (AV × Heap) := do
 match (← C.ty t).td, l, c with
 | .slice e, .int _ l, .int _ c =>
  let ti ← C.ty e
  if 0 <= l && l <= c && c <= mostLen && ti.zero.length == ti.size then
   some (.msl h.length 0 l.toNat ti.size 0 (some c.toNat), h ++ [.cells (copies c.toNat ti.zero) 0])
  else none
 | _, _, _ => none
def sameK : AV -> AV -> Option Bool
 | .agg a, .agg b => sameKeys a b
 | a, b => sameKey a b
def keyTd (kt : Nat) : TD -> AV -> Bool
 | .bool, .bool _ | .int _, .int .. | .str, .str _ => true
 | .struct _, .agg cs => C.flat kt cs
 | _, _ => false
def findA (k : AV) : List (AV × AV) -> Option (Option AV)
 | [] => some none
 | (k', v) :: r => do
  let p ← sameK k k'
  if p then some (some v) else findA k r
def putA (k v : AV) : List (AV × AV) -> Option (List (AV × AV))
 | [] => some [(k, v)]
 | (k', u) :: r => do
  let p ← sameK k k'
  if p then some ((k', v) :: r) else (putA k v r).map ((k', u) :: ·)
def eraseA (k : AV) : List (AV × AV) -> Option (List (AV × AV))
 | [] => some []
 | (k', u) :: r => do
  let p ← sameK k k'
  if p then some r else (eraseA k r).map ((k', u) :: ·)
def Heap.mapAt (h : Heap) (o : Nat) : Option (List (AV × AV)) :=
 match h[o]? with
 | some (.map es) => some es
 | _ => none
def Heap.loopAt (h : Heap) (o : Nat) : Option ALoop :=
 match h[o]? with
 | some (.loop r) => some r
 | _ => none
def Heap.iterAt (h : Heap) (o : Nat) : Option (Nat × List (AV × AV)) :=
 match h[o]? with
 | some (.iter k es) => some (k, es)
 | _ => none
def Heap.ents (h : Heap) : AV -> Option (List (AV × AV))
 | .nilMap => some []
 | .map o => h.mapAt o
 | _ => none
def lookupA (h : Heap) (t : Nat) (m k : AV) (ok : Bool) : Option AV := do
 match (← C.ty t).td with
 | .map kt e => do
  if !keyTd C kt (← C.ty kt).td k then none else
  let es ← h.ents m
  let r ← findA k es
  let ti ← C.ty e
  let z ← part ti ti.zero
  let v := r.getD z
  some (if ok then .tup [v, .bool r.isSome] else v)
 | _ => none
def updateA (h : Heap) (t : Nat) (m k v : AV) : Option Heap := do
 match (← C.ty t).td, m with
 | .map kt _, .map o => do
  if !keyTd C kt (← C.ty kt).td k then none else
  let es ← h.mapAt o
  let es ← putA k v es
  some (h.set o (.map es))
 | _, _ => none
def capA (h : Heap) : AV -> Option Nat
 | .lst [] _ .nil => some 0
 | .lst _ _ (.exact c) => some c
 | .msl o _ _ _ g (some c) => if h.live o g then some c else none
 | _ => none
def bytesOf : List AV -> Option (List UInt8)
 | [] => some []
 | .int k n :: r => if k == .u8 then (bytesOf r).map (UInt8.ofNat n.toNat :: ·) else none
 | _ => none
def convH (h : Heap) (src dst : Nat) (x : AV) : Option AV := do
 let ts ← C.ty src
 match ts.td with
 | .slice e => do
  let te ← C.ty e
  let td ← C.ty dst
  match te.td, td.td with
  | .int k, .str => if k == .u8 then (elems h x).bind fun ys => (bytesOf ys).map .str else none
  | _, _ => none
 | .str => do
  let td ← C.ty dst
  match td.td, x with
  | .slice e, .str l => do
   let te ← C.ty e
   match te.td with
   | .int k => if k == .u8 then some (.lst (l.map fun b => .int .u8 b.toNat) 1 .open) else none
   | _ => none
  | _, _ => convA C dst x
 | _ => convA C dst x
def moreA (h : Heap) (b : Builtin) (ts : List Nat) (vs : List AV) : Option (AV × Heap) :=
 match b, ts, vs with
 | .cap, [t], [x] => do
  match (← C.ty t).td with
  | .slice _ => (capA h x).map fun (n : Nat) => (AV.int .i64 (n : Int), h)
  | _ => none
 | .clear, [t], [x] => do
  match (← C.ty t).td, x with
  | .slice _, .lst [] _ _ => some (.tup [], h)
  | .slice e, .msl o off len sz g _ => do
   let te ← C.ty e
   let cs ← h.obj o g
   if len == 0 then some (.tup [], h) else
   if sz == te.size && off + len * sz <= cs.length && te.zero.length == te.size && te.zero.all AV.leaf then
    some (.tup [], h.set o (.cells (setCells cs off (copies len te.zero)) g))
   else none
  | .map _ _, .nilMap => some (.tup [], h)
  | .map _ _, .map o => do
   let _ ← h.mapAt o
   some (.tup [], h.set o (.map []))
  | _, _ => none
 | .copy, [t, _], [d, x] => do
  match (← C.ty t).td with
  | .slice e => do
   let te ← C.ty e
   let ys ← elems h x
   match d with
   | .lst [] _ _ => some (.int .i64 0, h)
   | .msl o off len sz g _ => do
    let cs ← h.obj o g
    let n := Nat.min ys.length len
    let cells := ((ys.map AV.cells).flatten).take (n * te.size)
    if n == 0 then some (.int .i64 0, h) else
    if sz == te.size && off + len * sz <= cs.length && cells.length == n * te.size && cells.all AV.leaf then
     some (.int .i64 n, h.set o (.cells (setCells cs off cells) g))
    else none
   | _ => none
  | _ => none
 | .delete, [t, _], [m, k] => do
  match (← C.ty t).td with
  | .map kt _ => do
   if !keyTd C kt (← C.ty kt).td k then none else
   match m with
   | .nilMap => some (.tup [], h)
   | .map o => do
    let es ← h.mapAt o
    let es ← eraseA k es
    some (.tup [], h.set o (.map es))
   | _ => none
  | _ => none
 | .max, _, [.int k a, .int k' b] => if k == k' then some (.int k (if b > a then b else a), h) else none
 | .min, _, [.int k a, .int k' b] => if k == k' then some (.int k (if b < a then b else a), h) else none
 | _, _, _ => none
def resultsA (h : Heap) (e : Env) : List ResultVar -> Option (List AV)
 | [] => some []
 | .tmp t :: r => do
  let v ← evalA C e (.tmp t)
  let vs ← resultsA h e r
  some (v :: vs)
 | .cell a t :: r => do
  let p ← evalA C e (.tmp a)
  let v ← loadA C h t p
  let vs ← resultsA h e r
  some (v :: vs)
def packA : List AV -> AV
 | [v] => v
 | vs => .tup vs
def mapO {α β : Type} (f : α -> Option β) : List α -> Option (List β)
 | [] => some []
 | a :: r => do
  let b ← f a
  let bs ← mapO f r
  some (b :: bs)
def freezeV (h : Heap) (n : Nat) : Nat -> AV -> Option AV
 | 0, _ => none
 | d + 1, v =>
  match v with
  | .ptr o off g => if o < n then some v else do
   let cs ← h.obj o g
   let cs ← mapO (freezeV h n d) (cs.drop off)
   some (.ref cs)
  | .msl o off len sz g _ => if o < n then some v else do
   let cs ← h.obj o g
   if off + len * sz <= cs.length then
    let cs ← mapO (freezeV h n d) ((cs.drop off).take (len * sz))
    some (.lst (group len cs sz) sz .open)
   else none
  | .map o => if o < n then some v else none
  | .yld _ => none
  | .ref cs => (mapO (freezeV h n d) cs).map .ref
  | .agg cs => (mapO (freezeV h n d) cs).map .agg
  | .tup cs => (mapO (freezeV h n d) cs).map .tup
  | .clo f cs => (mapO (freezeV h n d) cs).map (.clo f)
  | .bnd f cs => (mapO (freezeV h n d) cs).map (.bnd f)
  | .lst xs z r => (mapO (freezeV h n d) xs).map (.lst · z r)
  | .iface t v => (freezeV h n d v).map (.iface t)
  | v => some v
mutual
def AV.plain : AV -> Bool
  | .bool _ | .int .. | .str _ | .nilPtr | .nilMap | .nilFunc | .nilIface => true
  | .agg cs => AV.plains cs
  | .tup cs => AV.plains cs
  | _ => false
def AV.plains : List AV -> Bool
  | [] => true
  | v :: r => AV.plain v && AV.plains r
end
def opA (f : Nat) (e : Env) (h : Heap) (o : Oper) : Option (AV × Heap) := do
 let ev := evalA C e
 match o.op with
 | .move x | .assign x => do some (← ev x, h)
 | .pick c a b => do
  match ← ev c with
  | .bool true => do some (← ev a, h)
  | .bool false => do some (← ev b, h)
  | _ => none
 | .alloc t => do
  let ti ← C.ty t
  if ti.zero.length == ti.size then some (.ptr h.length 0 0, h ++ [.cells ti.zero 0]) else none
 | .box t x => do
  let ti ← C.ty t
  let v ← ev x
  if v.cells.length == ti.size then
   if (o.dst.map (C.imm f)).getD false then some (.ref v.cells, h) else some (.ptr h.length 0 0, h ++ [.cells v.cells 0])
  else none
 | .build t parts => do
  let ps ← mapO (fun (p : Nat × Operand) => (ev p.2).map (p.1, ·)) parts.toList
  some (← buildA C t ps, h)
 | .buildSlice t len parts => do
  let ps ← mapO (fun (p : Nat × Operand) => (ev p.2).map (p.1, ·)) parts.toList
  match (← C.ty t).td with
  | .slice el => do
   let ti ← C.ty el
   if ti.zero.length != ti.size || decide (len * ti.size > 16777216) then none else
   let cs ← fillA (fun i => some (i * ti.size, ti.size)) (copies len ti.zero) ps
   if (o.dst.map (C.imm f)).getD false then some (.lst (group len cs ti.size) ti.size (.exact len), h)
   else some (.msl h.length 0 len ti.size 0 (some len), h ++ [.cells cs 0])
  | _ => none
 | .load t a => do
  let x ← ev a
  if (o.dst.map (C.quiet f)).getD false && !x.isRef then none else
  some (← loadA C h t x, h)
 | .store t a x => do some (.tup [], ← storeA C h t (← ev a) (← ev x))
 | .nilCheck x => do
  match ← ev x with
  | .ptr o off g => if h.live o g then some (.ptr o off g, h) else none
  | .ref cs => some (.ref cs, h)
  | .clo f cs => some (.clo f cs, h)
  | .bnd f cs => some (.bnd f cs, h)
  | .yld l => some (.yld l, h)
  | _ => none
 | .binOp op t x y _ => do
  let u ← ev x
  if nilI y then some (← nilIA C op t u, h) else some (← binA C h op t u (← ev y), h)
 | .unOp op _ x => do some (← unA op (← ev x), h)
 | .convert src dst x => do some (← convH C h src dst (← ev x), h)
 | .makeInterface t x => do
  match (← C.ty t).td with
  | .iface => none
  | _ => some (.iface t (← ev x), h)
 | .makeFunc (.func g) first caps => do
  if first.isEmpty then
   let cs ← mapO ev caps.toList
   some (.clo g cs, h)
  else if caps.isEmpty then do
   let cs ← mapO ev first.toList
   some (.bnd g cs, h)
  else none
 | .makeSlice t l c => do makeSliceA C h t (← ev l) (← ev c)
 | .makeMap t none => do
  let _ ← C.ty t
  some (.map h.length, h ++ [.map []])
 | .lookup t x k ok => do some (← lookupA C h t (← ev x) (← ev k) ok, h)
 | .mapUpdate t m k x => do some (.tup [], ← updateA C h t (← ev m) (← ev k) (← ev x))
 | .insert t m k x => do some (.tup [], ← updateA C h t (← ev m) (← ev k) (← ev x))
 | .slice t x lo hi mx => do
  let lo ← optA C e lo
  let hi ← optA C e hi
  if mx.isSome then none else
  some (← sliceA C h t (← ev x) lo hi none, h)
 | .fieldAddr t x k => do some (← fieldAddrA C h t (← ev x) k, h)
 | .field t x k => do some (← fieldA C t (← ev x) k, h)
 | .indexAddr t x i => do some (← indexAddrA C h t (← ev x) (← ev i), h)
 | .index t x i => do some (← indexA C t (← ev x) (← ev i), h)
 | .range t x => do
  match (← C.ty t).td, ← ev x with
  | .map _ _, .map o => do
   let es ← h.mapAt o
   some (.ptr h.length 0 0, h.set o (.cells [] 1) ++ [.iter 0 es])
  | _, _ => none
 | .entry x => do
  match ← ev x with
  | .ptr o 0 0 => do
   match ← h.iterAt o with
   | (2, [p]) => some (.tup [p.1, p.2], h)
   | _ => none
  | _ => none
 | .extract t i => do
  match ← ev t with
  | .tup vs => do some (← vs[i]?, h)
  | _ => none
 | .typeAssert x _ t true => do
  let ti ← C.ty t
  let v ← ev x
  let z ← part ti ti.zero
  match ti.td, v with
  | .iface, _ => none
  | _, .iface t' u => some (.tup (if t' == t then [u, .bool true] else [z, .bool false]), h)
  | _, .nilIface => some (.tup [z, .bool false], h)
  | _, _ => none
 | .call { callee := .builtin b, args, argTypes } => do
  let vs ← mapO ev args.toList
  match b, vs with
  | .len, [x] => do
   let ti ← C.ty (← argTypes[0]?)
   some (.int .i64 (← lenA h ti.td x), h)
  | .append, [s, y] => do
   match argTypes.toList with
   | [t, t'] => do
    if t != t' then appendZ C h t t' s y else
    match (← C.ty t).td with
    | .slice el => do appendA h (← C.ty el).size s (← elems h y)
    | _ => none
   | _ => none
  | b, vs => moreA C h b argTypes.toList vs
 | _ => none
def panO (e : Env) (o : Oper) : Option AV := match o.op with
 | .panic x => match evalA C e x with
  | some (.iface t v) => some (.iface t v)
  | _ => none
 | _ => none
def isAlloc (o : Oper) : Bool := match o.op with | .alloc _ => true | _ => false
def isCallO (o : Oper) : Bool := match o.op with | .call { callee := .value _, .. } => true | _ => false
def levL (l : List Oper) : List Nat := l.foldl (fun acc o => acc ++ [o.after.foldl (fun m e => if Region.binds .any e then Nat.max m (acc.getD e.on 0) else m) 0 + (if isCallO o then 1 else 0)]) []
def isMk (o : Oper) : Bool := match o.op with | .makeMap _ _ => true | _ => false
def rankO (ops : Array Oper) (i : Nat) : Nat :=
 if ops.toList.any isMk then 2 * (levL ops.toList).getD i 0 + (if ((ops[i]?).map isMk).getD false then 1 else 0) else (levL ops.toList).getD i 0
def ordIdx (ops : Array Oper) : List Nat :=
 (List.range ops.size).filter (fun i => ((ops[i]?).map isAlloc).getD false) ++
  (List.range (ops.size + 1)).flatMap fun l => (List.range ops.size).filter fun i => !((ops[i]?).map isAlloc).getD false && Nat.beq (Nat.min (rankO ops i) ops.size) l
def sched (ops : Array Oper) (draw : Bool) : List Oper :=
 if draw then (ordIdx ops).filterMap (ops[·]?) else ops.toList
inductive Out where
 | nrm | exit (id : Nat) | ret | pan (v : AV)
 deriving Inhabited
def wantA (ops : Array Oper) (e : Env) (o : Oper) : Option Bool :=
 match o.guard with
 | none => some true
 | some (j, want) =>
  match ((ops[j]?).bind (·.dst)).map e.get with
  | some (.bool b) => some (b == want)
  | some (.tup []) => some false
  | none => some false
  | _ => none
def looseB (f : Nat) (ops : Array Oper) (e : Env) (h : Heap) (i : Nat) : Bool :=
 match ops[i]? with
 | none => false
 | some p =>
  match wantA ops e p with
  | some false => true
  | some true =>
   match p.dst, opA C f e h p with
   | some t, some (v, _) => AV.eqb v (e.get t)
   | _, _ => false
  | none => false
abbrev dkeyO (d : Option Nat) (op : Op) : Option Nat := match op with
 | .mapUpdate _ (.tmp m) _ _ => some (1000 + m)
 | .store _ _ (.tmp v) => some (2000 + v)
 | .store _ (.tmp m) (.const _) => some (3000 + m)
 | _ => d
abbrev dkey (o : Oper) : Option Nat := dkeyO o.dst o.op
def looseAll (f : Nat) (ops : Array Oper) (d : Option Nat) (e : Env) (h : Heap) : Bool :=
 match d with
 | none => true
 | some t => (C.loose f t).all (looseB C f ops e h)
open Classical in
def leaveA (f : Nat) (h : Heap) (v : AV) (h' : Heap) : Option (CRes × Heap) :=
 if C.pure f then
  if h'.take h.length = h then (freezeV h' h.length 40 v).map fun v => (.ret v, h) else none
 else some (.ret v, h')
def Env.puts (e : Env) : List Nat -> List AV -> Env
 | t :: ts, v :: vs => Env.puts (e.put t v) ts vs
 | _, _ => e
def pureV : AV -> Bool
 | .clo g _ => C.pure g
 | .bnd g _ => C.pure g
 | _ => false
def jumpOf : Out -> Option (Option Code)
 | .nrm => some none
 | .ret => some (some .ret)
 | .exit id => some (some (.exit id))
 | .pan _ => none
structure MapLoop where
 it : Operand
 t0 : Nat
 t1 : Nat
 id : Nat
 rest : Code
def mapLoopOf : Code -> Option MapLoop := fun _ => none
def Cfg.roundsOf (f : Nat) (b : Code) : Option MapLoop := match C.rounds f with | true => mapLoopOf b | false => none
mutual
def belowB (n : Nat) : AV -> Bool
  | .ptr o _ _ => Nat.blt o n
  | .msl o _ _ _ _ _ => Nat.blt o n
  | .map o => Nat.blt o n
  | .yld o => Nat.blt o n
  | .ref cs => belowBs n cs
  | .lst xs _ _ => belowBs n xs
  | .clo _ cs => belowBs n cs
  | .bnd _ cs => belowBs n cs
  | .iface _ x => belowB n x
  | .agg cs => belowBs n cs
  | .tup cs => belowBs n cs
  | _ => true
def belowBs (n : Nat) : List AV -> Bool
  | [] => true
  | x :: r => belowB n x && belowBs n r
end
def belowO (n : Nat) : AObj -> Bool
 | .cells cs _ => belowBs n cs
 | .map es => es.all fun e => belowB n e.1 && belowB n e.2
 | .loop _ => false
 | .iter _ es => es.all fun e => belowB n e.1 && belowB n e.2
def keptB (n : Nat) (e : Env) (h : Heap) : Bool := (e.all fun p => belowB n p.2) && (h.take n).all (belowO n)
def mapRound (ex : Env -> Heap -> Option (Out × Env × Heap)) (m : MapLoop) (l : List Nat) (o : Nat) (s : Env × Heap) (p : AV × AV) : Option (Env × Heap) := do
 let (out, e, h) ← ex ((s.1.put m.t0 (.tup [.bool true, p.1, p.2])).put m.t1 (.bool true)) (s.2.set o (.iter 2 [p]))
 match out, h.iterAt o with
 | .nrm, some (2, _) => if keptB s.2.length (e.keep l) (h.set o (.iter 1 [])) then some (e.keep l, (h.set o (.iter 1 [])).take s.2.length) else none
 | _, _ => none
open Classical in
def mapRounds (ex : Env -> Heap -> Option (Out × Env × Heap)) (m : MapLoop) (l : List Nat) (o : Nat) (es : List (AV × AV)) (s0 : Env × Heap) : Option (Env × Heap) := do
 let ps ← mapO (mapRound ex m l o s0) es
 let s1 := (ps.find? fun s => !decide (s = s0)).getD s0
 let qs ← mapO (mapRound ex m l o s1) es
 if (∀ s ∈ ps, s = s0 ∨ s = s1) /\ ∀ s ∈ qs, s = s1 then some s1 else none
def itIs (e : Env) (m : MapLoop) (o : Nat) : Bool :=
 match evalA C e m.it with
 | some (.ptr o' 0 0) => Nat.beq o' o
 | _ => false
def mapLoopA (m : MapLoop) (f : Nat) (ex : Env -> Heap -> Option (Out × Env × Heap)) (e : Env) (h : Heap) : Option (Out × Env × Heap) := do
 match ← evalA C e m.it with
 | .ptr o 0 0 => do
  match ← h.iterAt o with
  | (0, es) => do
   let l ← C.live f m.id
   let s0 := (e.keep l, h.set o (.iter 1 []))
   let s ← mapRounds ex m l o es s0
   if itIs C s0.1 m o && itIs C s.1 m o then do
    let (out, e, h) ← ex ((s.1.put m.t0 (.tup [.bool false])).put m.t1 (.bool false)) s.2
    match out with
    | .nrm => none
    | out => some (out, e, h)
   else none
  | _ => none
 | _ => none
def Env.outside (e : Env) (ops : Array Oper) : Env := ops.toList.foldl (fun e o => e.putAt o.dst .junk) e
def panOk (_ : Array Oper) : Bool := false
mutual
def callF : Nat -> Nat -> List AV -> Heap -> Option (CRes × Heap)
  | 0, _, _, _ => none
  | k + 1, f, args, h =>
    match C.prim f with
    | some p => p args h
    | none => do
      let fi ← C.fn f
      if args.length != fi.params then none else
      if C.alone f then do
        let avs ← mapO (freezeV h 0 40) args
        let (out, e, h') ← execF k f fi.body (avs.zipIdx.map fun (v, i) => (i, v)) []
        match out with
        | .nrm | .ret => do
          let rs ← resultsA C h' e fi.results
          if (packA rs).plain then some (.ret (packA rs), h) else none
        | _ => none
      else do
      let (out, e, h') ← execF k f fi.body (args.zipIdx.map fun (v, i) => (i, v)) h
      match out with
      | .nrm | .ret => do leaveA C f h (packA (← resultsA C h' e fi.results)) h'
      | .pan v => some (.pan v, h')
      | .exit _ => none
def callV : Nat -> AV -> List AV -> Heap -> Option (CRes × Heap)
  | 0, _, _, _ => none
  | k + 1, g, vs, h =>
    match g with
    | .clo g caps => callF k g (vs ++ caps) h
    | .bnd g first => callF k g (first ++ vs) h
    | .yld o => do
      let r ← h.loopAt o
      if r.st != .ready || r.ps.length != vs.length then none else
      let (out, e1, h1) ← execF k r.f r.assign (r.env.puts r.ps vs) h
      match out with
      | .nrm => do
        let r1 ← h1.loopAt o
        if r1.st != .ready then none else
        let (out, _, h2) ← execF k r.f r.body e1 (h1.set o (.loop { r1 with st := .busy }))
        let r2 ← h2.loopAt o
        let j ← jumpOf out
        some (.ret (.bool j.isNone), h2.set o (.loop { r2 with st := if j.isNone then .ready else .done, pend := j }))
      | _ => none
    | _ => none
def execF : Nat -> Nat -> Code -> Env -> Heap -> Option (Out × Env × Heap)
  | 0, _, _, _, _ => none
  | k + 1, f, c, e, h =>
    match c with
    | .skip | .label _ => some (.nrm, e, h)
    | .seq a b => do
      let (out, e, h) ← execF k f a e h
      match out with
      | .nrm => execF k f b e h
      | out => some (out, e, h)
    | .cond c a b => do
      match ← evalA C e c with
      | .bool true => execF k f a e h
      | .bool false => execF k f b e h
      | _ => none
    | .block id b => do
      let (out, e, h) ← execF k f b e h
      match out with
      | .exit id' => if id' == id then some (.nrm, e, h) else some (.exit id', e, h)
      | out => some (out, e, h)
    | .loop b => do
      match C.roundsOf f b with
      | some m => mapLoopA C m f (execF k f m.rest) e h
      | none => do
      let (out, e, h) ← execF k f b e h
      match out with
      | .nrm => execF k f (.loop b) e h
      | out => some (out, e, h)
    | .exit id => some (.exit id, e, h)
    | .scope b => execF k f b e h
    | .ret => some (.ret, e, h)
    | .region id ops draw => do
      let (out, e, h) ← opsF k f ops (sched ops draw) e h
      match out with
      | .nrm => some (.nrm, (match C.live f id with | some l => e.keep l | none => e), h)
      | out => if draw then (match out with
          | .pan v => if panOk ops then some (.pan v, e.outside ops, h) else none
          | _ => none) else some (out, e, h)
    | .rangeFunc g ps assign body => do
      match ← evalA C e g with
      | .clo g caps => do
        let (res, h1) ← callF k g (.yld h.length :: caps) (h ++ [.loop { st := .ready, pend := none, f, env := e, ps := ps.toList, assign, body }])
        let r ← h1.loopAt h.length
        match res with
        | .ret _ =>
          if r.st == .busy then none else
          match r.pend with
          | none => some (.nrm, e, h1.set h.length (.cells [] 1))
          | some .ret => some (.ret, e, h1.set h.length (.cells [] 1))
          | some (.exit id) => some (.exit id, e, h1.set h.length (.cells [] 1))
          | _ => none
        | .pan _ => none
      | _ => none
    | _ => none
def opsF : Nat -> Nat -> Array Oper -> List Oper -> Env -> Heap -> Option (Out × Env × Heap)
  | 0, _, _, _, _, _ => none
  | _ + 1, _, _, [], e, h => some (.nrm, e, h)
  | k + 1, f, ops, o :: r, e, h => do
    if ← wantA ops e o then
      match o.op with
      | .call { callee := .value g, args, .. } => do
        let vs ← mapO (evalA C e) args.toList
        let gv ← evalA C e g
        if (o.dst.map (C.quiet f)).getD false && !pureV C gv then none else do
          let (res, h) ← callV k gv vs h
          match res with
          | .ret v => if looseAll C f ops (dkey o) e h then opsF k f ops r (e.putAt o.dst v) h else none
          | .pan v => some (.pan v, e, h)
      | _ => match panO C e o with
        | some v => some (.pan v, e, h)
        | none => do
          let (v, h) ← opA C f e h o
          if looseAll C f ops (dkey o) e h then opsF k f ops r (e.putAt o.dst v) h else none
    else opsF k f ops r (e.putAt o.dst (.tup [])) h
end
end
end Go.Rv
namespace Go.Rv
theorem Nat.eq_of_beqb {a b : Nat} (h : Nat.beq a b = true) : a = b := Nat.eq_of_beq_eq_true h
mutual
theorem AV.eqb_eq : ∀ (a b : AV), AV.eqb a b = true -> a = b := fun a b h => by
  cases a <;> cases b <;> simp only [AV.eqb, qAa, qAb, decide_eq_true_eq] at h <;> first | rfl | skip
  · simp at h; rw [h]
  · rw [h.1, h.2]
  · simp at h; rw [h]
  · rw [Nat.eq_of_beqb h.1.1, Nat.eq_of_beqb h.1.2, Nat.eq_of_beqb h.2]
  · rw [AV.eqbs_eq _ _ h]
  · rw [Nat.eq_of_beqb h.1.1, h.1.2, AV.eqbs_eq _ _ h.2]
  · rw [Nat.eq_of_beqb h.1.1.1.1.1, Nat.eq_of_beqb h.1.1.1.1.2, Nat.eq_of_beqb h.1.1.1.2, Nat.eq_of_beqb h.1.1.2, Nat.eq_of_beqb h.1.2, h.2]
  · rw [Nat.eq_of_beqb h.1, AV.eqbs_eq _ _ h.2]
  · rw [Nat.eq_of_beqb h.1, AV.eqbs_eq _ _ h.2]
  · rw [Nat.eq_of_beqb h]
  · rw [Nat.eq_of_beqb h]
  · rw [Nat.eq_of_beqb h.1, AV.eqb_eq _ _ h.2]
  · rw [AV.eqbs_eq _ _ h]
  · rw [AV.eqbs_eq _ _ h]
theorem AV.eqbs_eq : ∀ (a b : List AV), AV.eqbs a b = true -> a = b := fun a b h => by
  cases a <;> cases b <;> simp only [AV.eqbs, qAa, qAb] at h <;> first | rfl | skip
  rw [AV.eqb_eq _ _ h.1, AV.eqbs_eq _ _ h.2]
end
def LeO {α : Type} (a b : Option α) : Prop := ∀ r, a = some r -> b = some r
theorem LeO.refl {α : Type} (a : Option α) : LeO a a := fun _ h => h
theorem LeO.none {α : Type} (b : Option α) : LeO Option.none b := fun _ h => by cases h
theorem LeO.trans {α : Type} {a b c : Option α} (h : LeO a b) (h' : LeO b c) : LeO a c := fun r e => h' r (h r e)
theorem LeO.bind {α β : Type} {a b : Option α} {f g : α -> Option β} (h : LeO a b) (h' : ∀ x, LeO (f x) (g x)) : LeO (a.bind f) (b.bind g) := by
 intro r e
 obtain ⟨x, hx, hf⟩ := qAc.1 e
 exact qAc.2 ⟨x, h x hx, h' x r hf⟩
theorem mapO_le {α β : Type} {g g' : α -> Option β} (hg : ∀ x, LeO (g x) (g' x)) : ∀ l, LeO (mapO g l) (mapO g' l)
 | [] => LeO.refl _
 | x :: r => by
  simp only [mapO]
  exact LeO.bind (hg x) fun y => LeO.bind (mapO_le hg r) fun _ => LeO.refl _
theorem mapRound_le {ex ex' : Env -> Heap -> Option (Out × Env × Heap)} (hx : ∀ e h, LeO (ex e h) (ex' e h)) (m : MapLoop) (l : List Nat) (o : Nat) (s : Env × Heap) (p : AV × AV) : LeO (mapRound ex m l o s p) (mapRound ex' m l o s p) := LeO.bind (hx _ _) fun _ => LeO.refl _
theorem mapRounds_le {ex ex' : Env -> Heap -> Option (Out × Env × Heap)} (hx : ∀ e h, LeO (ex e h) (ex' e h)) (m : MapLoop) (l : List Nat) (o : Nat) (es : List (AV × AV)) (s : Env × Heap) : LeO (mapRounds ex m l o es s) (mapRounds ex' m l o es s) :=
 LeO.bind (mapO_le (mapRound_le hx m l o s) es) fun _ => LeO.bind (mapO_le (mapRound_le hx m l o _) es) fun _ => LeO.refl _
variable (C : Cfg)
theorem mapLoop_le {ex ex' : Env -> Heap -> Option (Out × Env × Heap)} (m : MapLoop) (f : Nat) (hx : ∀ e h, LeO (ex e h) (ex' e h)) (e : Env) (h : Heap) : LeO (mapLoopA C m f ex e h) (mapLoopA C m f ex' e h) := by
 refine LeO.bind (LeO.refl _) fun v => ?_
 split <;> first | exact LeO.refl _ | skip
 refine LeO.bind (LeO.refl _) fun p => ?_
 split <;> first | exact LeO.refl _ | skip
 refine LeO.bind (LeO.refl _) fun l => LeO.bind (mapRounds_le hx _ _ _ _ _) fun s => ?_
 split <;> first | exact LeO.refl _ | skip
 exact LeO.bind (hx _ _) fun _ => LeO.refl _
structure MonoAt (k : Nat) : Prop where
 val : ∀ g vs h, LeO (callV C k g vs h) (callV C (k + 1) g vs h)
 call : ∀ f args h, LeO (callF C k f args h) (callF C (k + 1) f args h)
 exec : ∀ f c e h, LeO (execF C k f c e h) (execF C (k + 1) f c e h)
 ops : ∀ f ops l e h, LeO (opsF C k f ops l e h) (opsF C (k + 1) f ops l e h)
theorem mono_at : ∀ k, MonoAt C k
 | 0 => ⟨fun _ _ _ r h => by simp [callV] at h, fun _ _ _ r h => by simp [callF] at h, fun _ _ _ _ r h => by simp [execF] at h, fun _ _ _ _ _ r h => by simp [opsF] at h⟩
 | k + 1 => by
  have ih := mono_at k
  refine ⟨?_, ?_, ?_, ?_⟩
  ·intro g vs h
   cases g <;> simp only [callV, qAd] <;> first | exact LeO.refl _ | exact ih.call _ _ _ | skip
   refine LeO.bind (LeO.refl _) fun r => ?_
   split
   ·exact LeO.refl _
   ·refine LeO.bind (ih.exec _ _ _ _) fun x => ?_
    obtain ⟨out, e1, h1⟩ := x
    cases out <;> first | exact LeO.refl _ | skip
    refine LeO.bind (LeO.refl _) fun r1 => ?_
    dsimp only
    split
    ·exact LeO.refl _
    ·exact LeO.bind (ih.exec _ _ _ _) fun x => LeO.refl _
  ·intro f args h
   rw [callF, callF]
   split
   ·exact LeO.refl _
   ·refine LeO.bind (LeO.refl _) fun fi => ?_
    split
    ·exact LeO.refl _
    ·split
     ·exact LeO.bind (LeO.refl _) fun avs => LeO.bind (ih.exec _ _ _ _) fun x => LeO.refl _
     ·exact LeO.bind (ih.exec _ _ _ _) fun x => LeO.refl _
  ·intro f c e h
   cases c with
   | seq a b =>
    simp only [execF]
    refine LeO.bind (ih.exec _ _ _ _) fun x => ?_
    obtain ⟨out, e1, h1⟩ := x
    cases out <;> first | exact ih.exec _ _ _ _ | exact LeO.refl _
   | cond c a b =>
    simp only [execF]
    refine LeO.bind (LeO.refl _) fun x => ?_
    split <;> first | exact ih.exec _ _ _ _ | exact LeO.refl _
   | block id b =>
    simp only [execF]
    exact LeO.bind (ih.exec _ _ _ _) fun x => LeO.refl _
   | loop b =>
    have e1 : ∀ k, execF C (k + 1) f (.loop b) e h = (match C.roundsOf f b with | some m => mapLoopA C m f (execF C k f m.rest) e h | none => (execF C k f b e h).bind fun x => match x.1 with | .nrm => execF C k f (.loop b) x.2.1 x.2.2 | out => some (out, x.2.1, x.2.2)) := fun k => by
     rw [execF]; rfl
    rw [e1, e1]
    split
    ·exact mapLoop_le C _ _ (ih.exec _ _) _ _
    ·refine LeO.bind (ih.exec _ _ _ _) fun x => ?_
     obtain ⟨out, e1, h1⟩ := x
     cases out <;> first | exact ih.exec _ _ _ _ | exact LeO.refl _
   | scope b =>
    simp only [execF]
    exact ih.exec _ _ _ _
   | region id ops draw =>
    simp only [execF]
    exact LeO.bind (ih.ops _ _ _ _ _) fun x => LeO.refl _
   | rangeFunc g ps assign body =>
    simp only [execF]
    refine LeO.bind (LeO.refl _) fun gv => ?_
    split
    ·exact LeO.bind (ih.call _ _ _) fun x => LeO.refl _
    ·exact LeO.refl _
   | _ => simp only [execF]; exact LeO.refl _
  ·intro f ops l e h
   cases l with
   | nil => simp only [opsF]; exact LeO.refl _
   | cons o r =>
    simp only [opsF]
    refine LeO.bind (LeO.refl _) fun w => ?_
    split
    ·split
     ·refine LeO.bind (LeO.refl _) fun vs => LeO.bind (LeO.refl _) fun g => ?_
      split
      ·exact LeO.refl _
      ·refine LeO.bind (ih.val _ _ _) fun x => ?_
       obtain ⟨res, h1⟩ := x
       cases res <;> first | exact LeO.refl _ | skip
       dsimp only
       split <;> first | exact ih.ops _ _ _ _ _ | exact LeO.refl _
     ·split
      ·exact LeO.refl _
      ·refine LeO.bind (LeO.refl _) fun x => ?_
       split <;> first | exact ih.ops _ _ _ _ _ | exact LeO.refl _
    ·exact ih.ops _ _ _ _ _
theorem mono_le {α : Type} {g : Nat -> Option α} (hg : ∀ k, LeO (g k) (g (k + 1))) {j k : Nat} (h : j <= k) : LeO (g j) (g k) := by
  induction k with
  | zero => obtain rfl : j = 0 := by omega
            exact LeO.refl _
  | succ k ih =>
    by_cases e : j = k + 1
    · subst e; exact LeO.refl _
    · exact (ih (by omega)).trans (hg k)
open Classical in
noncomputable def lim {α : Type} (g : Nat -> Option α) : Option α := if h : ∃ r, ∃ k, g k = some r then some (Classical.choose h) else none
theorem lim_iff {α : Type} {g : Nat -> Option α} (hg : ∀ k, LeO (g k) (g (k + 1))) (r : α) : lim g = some r ↔ ∃ k, g k = some r := by
 unfold lim
 split
 ·rename_i hx
  obtain ⟨k, hk⟩ := Classical.choose_spec hx
  constructor
  ·intro e; injection e with e; exact ⟨k, by rw [hk, e]⟩
  ·rintro ⟨j, hj⟩
   have h1 := mono_le hg (Nat.le_max_left j k) _ hj
   have h2 := mono_le hg (Nat.le_max_right j k) _ hk
   rw [h1] at h2
   injection h2 with h2
   rw [← h2]
 ·rename_i hx
  constructor
  ·intro e; cases e
  ·rintro ⟨k, hk⟩; exact absurd ⟨r, k, hk⟩ hx
noncomputable def call (f : Nat) (args : List AV) (h : Heap) : Option (CRes × Heap) := lim fun k => callF C k f args h
noncomputable def callv (g : AV) (vs : List AV) (h : Heap) : Option (CRes × Heap) := lim fun k => callV C k g vs h
noncomputable def exec (f : Nat) (c : Code) (e : Env) (h : Heap) : Option (Out × Env × Heap) := lim fun k => execF C k f c e h
noncomputable def ops (f : Nat) (os : Array Oper) (l : List Oper) (e : Env) (h : Heap) : Option (Out × Env × Heap) := lim fun k => opsF C k f os l e h
theorem call_iff {f : Nat} {args : List AV} {h : Heap} {r : CRes × Heap} : call C f args h = some r ↔ ∃ k, callF C k f args h = some r := lim_iff (fun k => (mono_at C k).call f args h) r
theorem callv_iff {g : AV} {vs : List AV} {h : Heap} {r : CRes × Heap} : callv C g vs h = some r ↔ ∃ k, callV C k g vs h = some r := lim_iff (fun k => (mono_at C k).val g vs h) r
theorem exec_iff {f : Nat} {c : Code} {e : Env} {h : Heap} {r : Out × Env × Heap} : exec C f c e h = some r ↔ ∃ k, execF C k f c e h = some r := lim_iff (fun k => (mono_at C k).exec f c e h) r
theorem ops_iff {f : Nat} {os : Array Oper} {l : List Oper} {e : Env} {h : Heap} {r : Out × Env × Heap} : ops C f os l e h = some r ↔ ∃ k, opsF C k f os l e h = some r := lim_iff (fun k => (mono_at C k).ops f os l e h) r
theorem callV_le {j k : Nat} (hjk : j <= k) (g : AV) (vs : List AV) (h : Heap) : LeO (callV C j g vs h) (callV C k g vs h) := mono_le (g := fun k => callV C k g vs h) (fun k => (mono_at C k).val g vs h) hjk
theorem execF_le {j k : Nat} (hjk : j <= k) (f : Nat) (c : Code) (e : Env) (h : Heap) : LeO (execF C j f c e h) (execF C k f c e h) := mono_le (g := fun k => execF C k f c e h) (fun k => (mono_at C k).exec f c e h) hjk
theorem opsF_le {j k : Nat} (hjk : j <= k) (f : Nat) (os : Array Oper) (l : List Oper) (e : Env) (h : Heap) : LeO (opsF C j f os l e h) (opsF C k f os l e h) := mono_le (g := fun k => opsF C k f os l e h) (fun k => (mono_at C k).ops f os l e h) hjk
theorem ext_some {α : Type} {a b : Option α} (h : ∀ r, a = some r ↔ b = some r) : a = b := by
 cases a with
 | none => cases b with
  | none => rfl
  | some x => exact absurd ((h x).2 rfl) (by simp)
 | some x => exact ((h x).1 rfl).symm
theorem exec_succ {f : Nat} {c : Code} {e : Env} {h : Heap} {r : Out × Env × Heap} : exec C f c e h = some r ↔ ∃ k, execF C (k + 1) f c e h = some r := by
 rw [exec_iff]
 constructor
 ·rintro ⟨k, hk⟩; exact ⟨k, (mono_at C k).exec _ _ _ _ _ hk⟩
 ·rintro ⟨k, hk⟩; exact ⟨k + 1, hk⟩
theorem ops_succ {f : Nat} {os : Array Oper} {l : List Oper} {e : Env} {h : Heap} {r : Out × Env × Heap} : ops C f os l e h = some r ↔ ∃ k, opsF C (k + 1) f os l e h = some r := by
 rw [ops_iff]
 constructor
 ·rintro ⟨k, hk⟩; exact ⟨k, (mono_at C k).ops _ _ _ _ _ _ hk⟩
 ·rintro ⟨k, hk⟩; exact ⟨k + 1, hk⟩
theorem call_succ {f : Nat} {args : List AV} {h : Heap} {r : CRes × Heap} : call C f args h = some r ↔ ∃ k, callF C (k + 1) f args h = some r := by
 rw [call_iff]
 constructor
 ·rintro ⟨k, hk⟩; exact ⟨k, (mono_at C k).call _ _ _ _ hk⟩
 ·rintro ⟨k, hk⟩; exact ⟨k + 1, hk⟩
theorem callv_succ {g : AV} {vs : List AV} {h : Heap} {r : CRes × Heap} : callv C g vs h = some r ↔ ∃ k, callV C (k + 1) g vs h = some r := by
 rw [callv_iff]
 constructor
 ·rintro ⟨k, hk⟩; exact ⟨k, (mono_at C k).val _ _ _ _ hk⟩
 ·rintro ⟨k, hk⟩; exact ⟨k + 1, hk⟩
section
variable {C} (f : Nat) (e : Env) (h : Heap)
theorem exec_skip : exec C f .skip e h = some (.nrm, e, h) := (exec_succ C).2 ⟨0, rfl⟩
theorem exec_label (l : Nat) : exec C f (.label l) e h = some (.nrm, e, h) := (exec_succ C).2 ⟨0, rfl⟩
theorem exec_exit (id : Nat) : exec C f (.exit id) e h = some (.exit id, e, h) := (exec_succ C).2 ⟨0, rfl⟩
theorem exec_ret : exec C f .ret e h = some (.ret, e, h) := (exec_succ C).2 ⟨0, rfl⟩
theorem exec_seq (a b : Code) : exec C f (.seq a b) e h = (exec C f a e h).bind fun x => match x.1 with | .nrm => exec C f b x.2.1 x.2.2 | _ => some x := by
 apply ext_some
 intro r
 rw [exec_succ]
 constructor
 ·rintro ⟨k, hk⟩
  simp only [execF] at hk
  obtain ⟨⟨out, e1, h1⟩, hx, hr⟩ := qAc.1 hk
  refine qAc.2 ⟨_, (exec_iff C).2 ⟨k, hx⟩, ?_⟩
  cases out <;> first | exact (exec_iff C).2 ⟨k, hr⟩ | exact hr
 ·intro hk
  obtain ⟨⟨out, e1, h1⟩, hx, hr⟩ := qAc.1 hk
  obtain ⟨k1, hk1⟩ := (exec_iff C).1 hx
  cases out with
  | nrm =>
   obtain ⟨k2, hk2⟩ := (exec_iff C).1 hr
   refine ⟨max k1 k2, ?_⟩
   simp only [execF]
   exact qAc.2 ⟨_, execF_le C (Nat.le_max_left _ _) _ _ _ _ _ hk1, execF_le C (Nat.le_max_right _ _) _ _ _ _ _ hk2⟩
  | _ => exact ⟨k1, by simp only [execF]; exact qAc.2 ⟨_, hk1, hr⟩⟩
theorem exec_cond (c : Operand) (a b : Code) : exec C f (.cond c a b) e h = (evalA C e c).bind fun v => match v with | .bool true => exec C f a e h | .bool false => exec C f b e h | _ => none := by
 apply ext_some
 intro r
 rw [exec_succ]
 simp only [execF]
 cases hv : evalA C e c with
 | none => simp
 | some v =>
  simp only [qAd, qAe]
  constructor
  ·rintro ⟨k, hk⟩
   split at hk <;> first | exact (exec_iff C).2 ⟨k, hk⟩ | cases hk
  ·intro hk
   split at hk <;> first | exact (exec_iff C).1 hk | cases hk
theorem exec_block (id : Nat) (b : Code) : exec C f (.block id b) e h = (exec C f b e h).bind fun x => match x.1 with | .exit id' => if id' == id then some (.nrm, x.2.1, x.2.2) else some x | _ => some x := by
 apply ext_some
 intro r
 rw [exec_succ]
 constructor
 ·rintro ⟨k, hk⟩
  simp only [execF] at hk
  obtain ⟨⟨out, e1, h1⟩, hx, hr⟩ := qAc.1 hk
  exact qAc.2 ⟨_, (exec_iff C).2 ⟨k, hx⟩, by cases out <;> exact hr⟩
 ·intro hk
  obtain ⟨⟨out, e1, h1⟩, hx, hr⟩ := qAc.1 hk
  obtain ⟨k, hk⟩ := (exec_iff C).1 hx
  exact ⟨k, by simp only [execF]; exact qAc.2 ⟨_, hk, by cases out <;> exact hr⟩⟩
class NoRounds (C : Cfg) : Prop where
 no : ∀ f, C.rounds f = false
theorem roundsOf_no [N : NoRounds C] (f : Nat) (b : Code) : C.roundsOf f b = none := by unfold Cfg.roundsOf; rw [N.no]
theorem exec_loop [NoRounds C] (b : Code) : exec C f (.loop b) e h = (exec C f b e h).bind fun x => match x.1 with | .nrm => exec C f (.loop b) x.2.1 x.2.2 | _ => some x := by
 apply ext_some
 intro r
 rw [exec_succ]
 constructor
 ·rintro ⟨k, hk⟩
  simp only [execF, roundsOf_no] at hk
  obtain ⟨⟨out, e1, h1⟩, hx, hr⟩ := qAc.1 hk
  refine qAc.2 ⟨_, (exec_iff C).2 ⟨k, hx⟩, ?_⟩
  cases out <;> first | exact (exec_iff C).2 ⟨k, hr⟩ | exact hr
 ·intro hk
  obtain ⟨⟨out, e1, h1⟩, hx, hr⟩ := qAc.1 hk
  obtain ⟨k1, hk1⟩ := (exec_iff C).1 hx
  cases out with
  | nrm =>
   obtain ⟨k2, hk2⟩ := (exec_iff C).1 hr
   refine ⟨max k1 k2, ?_⟩
   simp only [execF, roundsOf_no]
   exact qAc.2 ⟨_, execF_le C (Nat.le_max_left _ _) _ _ _ _ _ hk1, execF_le C (Nat.le_max_right _ _) _ _ _ _ _ hk2⟩
  | _ => exact ⟨k1, by simp only [execF, roundsOf_no]; exact qAc.2 ⟨_, hk1, hr⟩⟩
theorem exec_scope (b : Code) : exec C f (.scope b) e h = exec C f b e h := by
 apply ext_some
 intro r
 rw [exec_succ, exec_iff]
 simp only [execF]
theorem exec_region (id : Nat) (os : Array Oper) (d : Bool) : exec C f (.region id os d) e h = (ops C f os (sched os d) e h).bind fun x => match x.1 with | .nrm => some (.nrm, (match C.live f id with | some l => x.2.1.keep l | none => x.2.1), x.2.2) | .pan v => if d then (if panOk os then some (.pan v, x.2.1.outside os, x.2.2) else none) else some x | _ => if d then none else some x := by
 apply ext_some
 intro r
 rw [exec_succ]
 constructor
 ·rintro ⟨k, hk⟩
  simp only [execF] at hk
  obtain ⟨⟨out, e1, h1⟩, hx, hr⟩ := qAc.1 hk
  exact qAc.2 ⟨_, (ops_iff C).2 ⟨k, hx⟩, by cases out <;> exact hr⟩
 ·intro hk
  obtain ⟨⟨out, e1, h1⟩, hx, hr⟩ := qAc.1 hk
  obtain ⟨k, hk⟩ := (ops_iff C).1 hx
  exact ⟨k, by simp only [execF]; exact qAc.2 ⟨_, hk, by cases out <;> exact hr⟩⟩
theorem ops_nil (os : Array Oper) : ops C f os [] e h = some (.nrm, e, h) := (ops_succ C).2 ⟨0, rfl⟩
def callee (o : Oper) : Option (Operand × Array Operand) :=
 match o.op with
 | .call { callee := .value g, args, .. } => some (g, args)
 | _ => none
theorem ops_skip (os : Array Oper) (o : Oper) (r : List Oper) (hw : wantA os e o = some false) : ops C f os (o :: r) e h = ops C f os r (e.putAt o.dst (.tup [])) h := by
 apply ext_some
 intro x
 rw [ops_succ, ops_iff]
 simp only [opsF, hw, qAd, qAe, qAb, if_false]
theorem ops_op (os : Array Oper) (o : Oper) (r : List Oper) (hw : wantA os e o = some true) (hc : callee o = none) (hp : panO C e o = none) :
  ops C f os (o :: r) e h = (opA C f e h o).bind fun x => if looseAll C f os (dkey o) e x.2 then ops C f os r (e.putAt o.dst x.1) x.2 else none := by
 have key : ∀ k, opsF C (k + 1) f os (o :: r) e h = (opA C f e h o).bind fun x => if looseAll C f os (dkey o) e x.2 then opsF C k f os r (e.putAt o.dst x.1) x.2 else none := by
  intro k
  simp only [opsF, hw, qAd, qAe, if_true]
  split
  ·rename_i g args _ ho
   simp [callee, ho] at hc
  ·simp only [hp]
 apply ext_some
 intro x
 rw [ops_succ]
 constructor
 ·rintro ⟨k, hk⟩
  rw [key] at hk
  obtain ⟨y, hy, hr⟩ := qAc.1 hk
  refine qAc.2 ⟨y, hy, ?_⟩
  split at hr <;> first | cases hr | skip
  rename_i hl
  rw [if_pos hl]
  exact (ops_iff C).2 ⟨k, hr⟩
 ·intro hk
  obtain ⟨y, hy, hr⟩ := qAc.1 hk
  split at hr <;> first | cases hr | skip
  rename_i hl
  obtain ⟨k, hk⟩ := (ops_iff C).1 hr
  exact ⟨k, by rw [key]; exact qAc.2 ⟨y, hy, by rw [if_pos hl]; exact hk⟩⟩
theorem ops_pan (os : Array Oper) (o : Oper) (r : List Oper) (hw : wantA os e o = some true) (hc : callee o = none) {v : AV} (hp : panO C e o = some v) : ops C f os (o :: r) e h = some (.pan v, e, h) := by
 apply ext_some
 intro x
 rw [ops_succ]
 have key : ∀ k, opsF C (k + 1) f os (o :: r) e h = some (.pan v, e, h) := by
  intro k
  simp only [opsF, hw, qAd, qAe, if_true]
  split
  ·rename_i g args _ ho
   simp [callee, ho] at hc
  ·simp only [hp]
 constructor
 ·rintro ⟨k, hk⟩; rw [key] at hk; exact hk
 ·intro hk; exact ⟨0, by rw [key]; exact hk⟩
theorem callv_clo (g : Nat) (caps vs : List AV) : callv C (.clo g caps) vs h = call C g (vs ++ caps) h := by
 apply ext_some
 intro r
 rw [callv_succ, call_iff]
 simp only [callV]
theorem ops_callv (os : Array Oper) (o : Oper) (r : List Oper) (g : Operand) (args : Array Operand) (hw : wantA os e o = some true) (hc : callee o = some (g, args)) :
  ops C f os (o :: r) e h = (mapO (evalA C e) args.toList).bind fun vs => (evalA C e g).bind fun gv =>
   if (o.dst.map (C.quiet f)).getD false && !pureV C gv then none else (callv C gv vs h).bind fun x => match x.1 with
    | .ret v => if looseAll C f os (dkey o) e x.2 then ops C f os r (e.putAt o.dst v) x.2 else none
    | .pan v => some (.pan v, e, x.2) := by
 obtain ⟨ct, ho⟩ : ∃ ct, o.op = .call { callee := .value g, args, argTypes := ct } := by
  unfold callee at hc
  split at hc
  ·rename_i g' args' ct ho
   simp only [qAf, qAg] at hc
   obtain ⟨rfl, rfl⟩ := hc
   exact ⟨ct, ho⟩
  ·cases hc
 have key : ∀ k, opsF C (k + 1) f os (o :: r) e h = (mapO (evalA C e) args.toList).bind fun vs => (evalA C e g).bind fun gv =>
   if (o.dst.map (C.quiet f)).getD false && !pureV C gv then none else (callV C k gv vs h).bind fun x => match x.1 with
    | .ret v => if looseAll C f os (dkey o) e x.2 then opsF C k f os r (e.putAt o.dst v) x.2 else none
    | .pan v => some (.pan v, e, x.2) := by
  intro k
  simp only [opsF, hw, qAd, qAe, if_true, ho] <;> rfl
 apply ext_some
 intro x
 rw [ops_succ]
 simp only [key]
 cases hvs : mapO (evalA C e) args.toList with
 | none => simp
 | some vs =>
  cases hg : evalA C e g with
  | none => simp
  | some gv =>
   simp only [qAe]
   split
   ·simp
   constructor
   ·rintro ⟨k, hk⟩
    obtain ⟨⟨res, h1⟩, hy, hr⟩ := qAc.1 hk
    refine qAc.2 ⟨_, (callv_iff C).2 ⟨k, hy⟩, ?_⟩
    cases res with
    | pan v => exact hr
    | ret v =>
     dsimp only at hr ⊢
     split at hr <;> first | cases hr | skip
     rename_i hl
     rw [if_pos hl]
     exact (ops_iff C).2 ⟨k, hr⟩
   ·intro hk
    obtain ⟨⟨res, h1⟩, hy, hr⟩ := qAc.1 hk
    obtain ⟨k1, hk1⟩ := (callv_iff C).1 hy
    cases res with
    | ret v =>
     dsimp only at hr
     split at hr <;> first | cases hr | skip
     rename_i hl
     obtain ⟨k2, hk2⟩ := (ops_iff C).1 hr
     exact ⟨max k1 k2, qAc.2 ⟨_, callV_le C (Nat.le_max_left _ _) _ _ _ _ hk1, by dsimp only; rw [if_pos hl]; exact opsF_le C (Nat.le_max_right _ _) _ _ _ _ _ _ hk2⟩⟩
    | pan v => exact ⟨k1, qAc.2 ⟨_, hk1, hr⟩⟩
theorem ops_cons (os : Array Oper) (o : Oper) (r : List Oper) : ops C f os (o :: r) e h = (wantA os e o).bind fun w => match w with
  | false => ops C f os r (e.putAt o.dst (.tup [])) h
  | true => match callee o with
   | none => match panO C e o with
    | some v => some (.pan v, e, h)
    | none => (opA C f e h o).bind fun x => if looseAll C f os (dkey o) e x.2 then ops C f os r (e.putAt o.dst x.1) x.2 else none
   | some ga => (mapO (evalA C e) ga.2.toList).bind fun vs => (evalA C e ga.1).bind fun gv =>
    if (o.dst.map (C.quiet f)).getD false && !pureV C gv then none else (callv C gv vs h).bind fun x => match x.1 with
     | .ret v => if looseAll C f os (dkey o) e x.2 then ops C f os r (e.putAt o.dst v) x.2 else none
     | .pan v => some (.pan v, e, x.2) := by
 cases hw : wantA os e o with
 | none =>
  simp only [qAh]
  apply ext_some
  intro x
  rw [ops_succ]
  simp [opsF, hw]
 | some w =>
  simp only [qAe]
  cases w with
  | false => exact ops_skip f e h os o r hw
  | true =>
   cases hc : callee o with
   | none =>
    cases hp : panO C e o with
    | none => exact ops_op f e h os o r hw hc hp
    | some v => exact ops_pan f e h os o r hw hc hp
   | some ga => exact ops_callv f e h os o r ga.1 ga.2 hw hc
class Tight (C : Cfg) : Prop where
 none : ∀ f t, C.loose f t = []
 alone : ∀ f, C.alone f = false
theorem call_prim (args : List AV) (p : List AV -> Heap -> Option (CRes × Heap)) (hp : C.prim f = some p) : call C f args h = p args h := by
 apply ext_some
 intro r
 rw [call_succ]
 simp only [callF, hp]
 exact ⟨fun ⟨_, h⟩ => h, fun h => ⟨0, h⟩⟩
end
end Go.Rv
namespace Go.Rv
theorem sameKey_symm {a b : AV} {p : Bool} (h : sameKey a b = some p) : sameKey b a = some p := by
 cases a <;> cases b <;> simp only [sameKey, reduceCtorEq] at h ⊢
 ·rw [← h, Bool.beq_comm]
 ·rename_i k m k' n
  by_cases e : k = k'
  ·subst e
   simp only [beq_self_eq_true, if_true, qAf] at h ⊢
   rw [← h]; exact BEq.comm
  ·simp [e] at h
 ·simp only [qAf] at h ⊢
  rw [← h]; exact BEq.comm
theorem sameKeys_symm : ∀ {a b : List AV} {p : Bool}, sameKeys a b = some p -> sameKeys b a = some p
 | [], [], _, h => h
 | [], _ :: _, _, h => by simp [sameKeys] at h
 | _ :: _, [], _, h => by simp [sameKeys] at h
 | a :: x, b :: y, p, h => by
  simp only [sameKeys, qAd] at h ⊢
  obtain ⟨q, hq, h⟩ := qAc.1 h
  obtain ⟨r, hr, h⟩ := qAc.1 h
  rw [sameKey_symm hq, qAe, sameKeys_symm hr, qAe, h]
theorem sameK_symm {a b : AV} {p : Bool} (h : sameK a b = some p) : sameK b a = some p := by
 cases a <;> cases b <;> simp only [sameK] at h ⊢ <;> first | exact sameKeys_symm h | exact sameKey_symm h
theorem sameKey_true {a b : AV} (h : sameKey a b = some true) : a = b := by
 cases a <;> cases b <;> simp only [sameKey, reduceCtorEq] at h
 ·simp at h; rw [h]
 ·split at h
  ·rename_i hk
   simp at hk h; rw [hk, h]
  ·cases h
 ·simp at h; rw [h]
theorem sameKeys_true : ∀ {a b : List AV}, sameKeys a b = some true -> a = b
 | [], [], _ => rfl
 | [], _ :: _, h => by simp [sameKeys] at h
 | _ :: _, [], h => by simp [sameKeys] at h
 | a :: x, b :: y, h => by
  simp only [sameKeys, qAd] at h
  obtain ⟨q, hq, h⟩ := qAc.1 h
  obtain ⟨r, hr, h⟩ := qAc.1 h
  simp only [qAf, qAa] at h
  obtain ⟨rfl, rfl⟩ := h
  rw [sameKey_true hq, sameKeys_true hr]
theorem sameK_true {a b : AV} (h : sameK a b = some true) : a = b := by
 cases a <;> cases b <;> simp only [sameK] at h <;> first | exact congrArg AV.agg (sameKeys_true h) | exact sameKey_true h
def KeysOk (es : List (AV × AV)) : Prop := es.Pairwise fun a b => sameK a.1 b.1 = some false
theorem KeysOk.perm {es es' : List (AV × AV)} (H : KeysOk es) (p : es.Perm es') : KeysOk es' :=
 (p.pairwise_iff fun h => sameK_symm h).1 H
theorem find_cases {k : AV} : ∀ {es : List (AV × AV)} {r : Option AV}, findA k es = some r ->
  (r = none /\ ∀ e ∈ es, sameK k e.1 = some false) ∨ (∃ e ∈ es, sameK k e.1 = some true /\ r = some e.2)
 | [], r, h => by
  simp only [findA, qAf] at h
  exact .inl ⟨h.symm, fun e he => by simp at he⟩
 | (k', v) :: es, r, h => by
  simp only [findA, qAd] at h
  obtain ⟨p, hp, h⟩ := qAc.1 h
  cases p with
  | true => simp only [if_true, qAf] at h; exact .inr ⟨_, qAi .., hp, h.symm⟩
  | false =>
   simp only [qAb, if_false] at h
   rcases find_cases h with ⟨h1, h2⟩ | ⟨e, h1, h2, h3⟩
   ·exact .inl ⟨h1, fun e he => by
     rcases qAj.1 he with rfl | he
     ·exact hp
     ·exact h2 e he⟩
   ·exact .inr ⟨e, qAk _ h1, h2, h3⟩
theorem find_miss {k : AV} : ∀ {es : List (AV × AV)}, (∀ e ∈ es, sameK k e.1 = some false) -> findA k es = some none
 | [], _ => rfl
 | e :: es, h => by
  simp only [findA, h e (qAi ..), qAd, qAe, qAb, if_false]
  exact find_miss fun e he => h e (qAk _ he)
theorem find_hit {k : AV} : ∀ {es : List (AV × AV)} {e : AV × AV}, KeysOk es -> e ∈ es -> sameK k e.1 = some true -> findA k es = some (some e.2)
 | [], e, _, he, _ => by simp at he
 | x :: es, e, H, he, hk => by
  have H := List.pairwise_cons.1 H
  simp only [findA, qAd]
  rcases qAj.1 he with rfl | he
  ·simp [hk]
  ·have h1 : sameK k x.1 = some false := by
    rw [sameK_true hk]; exact sameK_symm (H.1 e he)
   simp only [h1, qAe, qAb, if_false]
   exact find_hit H.2 he hk
theorem findA_perm {k : AV} {es es' : List (AV × AV)} {r : Option AV} (H : KeysOk es) (p : es.Perm es') (h : findA k es = some r) : findA k es' = some r := by
 rcases find_cases h with ⟨rfl, h2⟩ | ⟨e, h1, h2, rfl⟩
 ·exact find_miss fun e he => h2 e (p.mem_iff.2 he)
 ·exact find_hit (H.perm p) (p.mem_iff.1 h1) h2
def withV (k v : AV) (e : AV × AV) : AV × AV := if sameK k e.1 = some true then (e.1, v) else e
theorem withV_key (k v : AV) (e : AV × AV) : (withV k v e).1 = e.1 := by unfold withV; split <;> rfl
theorem put_cases {k v : AV} : ∀ {es es' : List (AV × AV)}, putA k v es = some es' -> (∀ e ∈ es, sameK k e.1 = some false) ∨ (∃ e ∈ es, sameK k e.1 = some true)
 | [], _, _ => .inl fun e he => by simp at he
 | (k', u) :: es, es', h => by
  simp only [putA, qAd] at h
  obtain ⟨p, hp, h⟩ := qAc.1 h
  cases p with
  | true => exact .inr ⟨_, qAi .., hp⟩
  | false =>
   simp only [qAb, if_false] at h
   obtain ⟨es2, h2, _⟩ := qAl.1 h
   rcases put_cases h2 with h3 | ⟨e, h3, h4⟩
   ·exact .inl fun e he => by
     rcases qAj.1 he with rfl | he
     ·exact hp
     ·exact h3 e he
   ·exact .inr ⟨e, qAk _ h3, h4⟩
theorem put_miss {k v : AV} : ∀ {es : List (AV × AV)}, (∀ e ∈ es, sameK k e.1 = some false) -> putA k v es = some (es ++ [(k, v)])
 | [], _ => rfl
 | e :: es, h => by
  simp only [putA, h e (qAi ..), qAd, qAe, qAb, if_false]
  rw [put_miss fun e he => h e (qAk _ he)]
  rfl
theorem withV_none {k v : AV} : ∀ {es : List (AV × AV)}, (∀ e ∈ es, sameK k e.1 = some false) -> es.map (withV k v) = es
 | [], _ => rfl
 | e :: es, h => by
  rw [qAm, withV_none fun e he => h e (qAk _ he)]
  simp [withV, h e (qAi ..)]
theorem put_hit {k v : AV} : ∀ {es : List (AV × AV)} {e : AV × AV}, KeysOk es -> e ∈ es -> sameK k e.1 = some true -> putA k v es = some (es.map (withV k v))
 | [], e, _, he, _ => by simp at he
 | x :: es, e, H, he, hk => by
  have H := List.pairwise_cons.1 H
  simp only [putA, qAd]
  rcases qAj.1 he with rfl | he
  ·rw [hk, qAe, if_pos rfl, qAm, withV_none fun e' he' => by rw [sameK_true hk]; exact H.1 e' he']
   simp [withV, hk]
  ·have h1 : sameK k x.1 = some false := by
    rw [sameK_true hk]; exact sameK_symm (H.1 e he)
   simp only [h1, qAe, qAb, if_false]
   rw [put_hit H.2 he hk]
   simp [withV, h1]
theorem putA_perm {k v : AV} {es es' es0 : List (AV × AV)} (H : KeysOk es) (p : es.Perm es0) (h : putA k v es = some es') : ∃ es0', putA k v es0 = some es0' /\ es'.Perm es0' /\ KeysOk es' := by
 rcases put_cases h with h1 | ⟨e, he, hk⟩
 ·rw [put_miss h1] at h
  injection h with h; subst h
  refine ⟨_, put_miss fun e he => h1 e (p.mem_iff.2 he), p.append_right _, List.pairwise_append.2 ⟨H, by simp, fun a ha b hb => ?_⟩⟩
  simp only [qAn] at hb
  subst hb
  exact sameK_symm (h1 a ha)
 ·rw [put_hit H he hk] at h
  injection h with h; subst h
  refine ⟨_, put_hit (H.perm p) (p.mem_iff.1 he) hk, p.map _, ?_⟩
  unfold KeysOk
  rw [List.pairwise_map]
  exact H.imp fun h => by rw [withV_key, withV_key]; exact h
theorem erase_cases {k : AV} : ∀ {es es' : List (AV × AV)}, eraseA k es = some es' -> (∀ e ∈ es, sameK k e.1 = some false) ∨ (∃ e ∈ es, sameK k e.1 = some true)
 | [], _, _ => .inl fun e he => by simp at he
 | (k', u) :: es, es', h => by
  simp only [eraseA, qAd] at h
  obtain ⟨p, hp, h⟩ := qAc.1 h
  cases p with
  | true => exact .inr ⟨_, qAi .., hp⟩
  | false =>
   simp only [qAb, if_false] at h
   obtain ⟨es2, h2, _⟩ := qAl.1 h
   rcases erase_cases h2 with h3 | ⟨e, h3, h4⟩
   ·exact .inl fun e he => by
     rcases qAj.1 he with rfl | he
     ·exact hp
     ·exact h3 e he
   ·exact .inr ⟨e, qAk _ h3, h4⟩
def others (k : AV) (e : AV × AV) : Bool := !(sameK k e.1 == some true)
theorem others_all {k : AV} : ∀ {es : List (AV × AV)}, (∀ e ∈ es, sameK k e.1 = some false) -> es.filter (others k) = es := fun h =>
 List.filter_eq_self.2 fun e he => by simp [others, h e he]
theorem erase_eq {k : AV} : ∀ {es : List (AV × AV)} {es' : List (AV × AV)}, KeysOk es -> eraseA k es = some es' -> es' = es.filter (others k)
 | [], es', _, h => by simp only [eraseA, qAf] at h; subst h; rfl
 | x :: es, es', H, h => by
  have H := List.pairwise_cons.1 H
  simp only [eraseA, qAd] at h
  obtain ⟨p, hp, h⟩ := qAc.1 h
  cases p with
  | true =>
   simp only [if_true, qAf] at h
   subst h
   rw [List.filter_cons, if_neg (by simp [others, hp]), others_all fun e he => by rw [sameK_true hp]; exact H.1 e he]
  | false =>
   simp only [qAb, if_false] at h
   obtain ⟨es2, h2, rfl⟩ := qAl.1 h
   rw [List.filter_cons, if_pos (by simp [others, hp]), erase_eq H.2 h2]
theorem erase_def {k : AV} : ∀ {es : List (AV × AV)}, (∀ e ∈ es, ∃ p, sameK k e.1 = some p) -> ∃ es', eraseA k es = some es'
 | [], _ => ⟨_, rfl⟩
 | x :: es, h => by
  obtain ⟨p, hp⟩ := h x (qAi ..)
  obtain ⟨es', he⟩ := erase_def fun e he => h e (qAk _ he)
  simp only [eraseA, hp, he, qAd, qAe, qAo]
  split <;> exact ⟨_, rfl⟩
theorem keys_def {k : AV} {es : List (AV × AV)} (H : KeysOk es) (h : (∀ e ∈ es, sameK k e.1 = some false) ∨ (∃ e ∈ es, sameK k e.1 = some true)) : ∀ e ∈ es, ∃ p, sameK k e.1 = some p := by
 intro e he
 rcases h with h | ⟨x, hx, hk⟩
 ·exact ⟨_, h e he⟩
 ·by_cases hex : e = x
  ·subst hex; exact ⟨_, hk⟩
  ·rw [sameK_true hk]
   obtain ⟨l1, l2, rfl⟩ := List.append_of_mem hx
   have H' := List.pairwise_append.1 H
   rcases qAp.1 he with h1 | h1
   ·exact ⟨_, sameK_symm (H'.2.2 e h1 x (qAi ..))⟩
   ·rcases qAj.1 h1 with h1 | h1
    ·exact absurd h1 hex
    ·exact ⟨_, (List.pairwise_cons.1 H'.2.1).1 e h1⟩
theorem eraseA_perm {k : AV} {es es' es0 : List (AV × AV)} (H : KeysOk es) (p : es.Perm es0) (h : eraseA k es = some es') : ∃ es0', eraseA k es0 = some es0' /\ es'.Perm es0' /\ KeysOk es' := by
 obtain ⟨es0', h0⟩ := erase_def (k := k) (es := es0) fun e he => keys_def H (erase_cases h) e (p.mem_iff.2 he)
 have e1 := erase_eq H h
 have e2 := erase_eq (H.perm p) h0
 subst e1 e2
 exact ⟨_, h0, p.filter _, H.sublist List.filter_sublist⟩
end Go.Rv
