/-
  An interpreter of our own over the model's code: values without addresses, mutable objects by number, immutable lists.
  What it answers is shown in the text RvSound to be what the model's calls come to.
-/
import Derived.Calls
import Derived.Laws.Sem
import Derived.MapKept
import Derived.Laws.CopyRow
import Derived.Laws.Cells
import Derived.Lib.Strings
import Derived.Laws.Append
import Derived.Laws.Slices
import Derived.Laws.MakeOwn
import Derived.Laws.BytesArg
set_option linter.unusedSectionVars false
set_option linter.unusedSimpArgs false
set_option linter.unusedVariables false
set_option linter.defProp false
set_option linter.unusedSimpArgs false
set_option linter.unusedVariables false
namespace Go.Rv
noncomputable section


/-- How much room a slice has: nil, exactly so much, or so much that nobody knows. -/
inductive Room where
  | nil
  | exact (n : Nat)
  | open
  deriving DecidableEq, Inhabited

inductive AV where
  | bool (b : Bool)
  | int (k : IntKind) (n : Int)
  | str (s : List UInt8)
  | nilPtr | nilMap | nilFunc | nilIface
  /-- A cell of an object. -/
  | ptr (o off gen : Nat)
  /-- Memory that is never written: the cells from there on. -/
  | ref (cells : List AV)
  /-- A slice that is never written: its elements. -/
  | lst (xs : List AV) (esz : Nat) (room : Room)
  /-- A slice of an object's cells: from which cell on, how many elements, of how many cells each. -/
  | msl (o off len esz gen : Nat) (cap : Option Nat)
  | clo (f : Nat) (caps : List AV)
  | yld (l : Nat)
  | map (o : Nat)
  | iface (t : Nat) (v : AV)
  | agg (cells : List AV)
  | tup (vs : List AV)
  | junk
  deriving Inhabited


mutual
def AV.eqb : AV → AV → Bool
  | .bool a, .bool b => a == b
  | .int k a, .int k' b => decide (k = k') && decide (a = b)
  | .str a, .str b => a == b
  | .nilPtr, .nilPtr | .nilMap, .nilMap | .nilFunc, .nilFunc | .nilIface, .nilIface | .junk, .junk => true
  | .ptr o off g, .ptr o' off' g' => Nat.beq o o' && Nat.beq off off' && Nat.beq g g'
  | .ref cs, .ref cs' => AV.eqbs cs cs'
  | .lst xs z r, .lst xs' z' r' => Nat.beq z z' && decide (r = r') && AV.eqbs xs xs'
  | .msl o off len sz g cap, .msl o' off' len' sz' g' cap' => Nat.beq o o' && Nat.beq off off' && Nat.beq len len' && Nat.beq sz sz' && Nat.beq g g' && decide (cap = cap')
  | .clo f cs, .clo f' cs' => Nat.beq f f' && AV.eqbs cs cs'
  | .yld l, .yld l' => Nat.beq l l'
  | .map o, .map o' => Nat.beq o o'
  | .iface t v, .iface t' v' => Nat.beq t t' && AV.eqb v v'
  | .agg cs, .agg cs' => AV.eqbs cs cs'
  | .tup cs, .tup cs' => AV.eqbs cs cs'
  | _, _ => false
def AV.eqbs : List AV → List AV → Bool
  | [], [] => true
  | a :: x, b :: y => AV.eqb a b && AV.eqbs x y
  | _, _ => false
end

def AV.cells : AV → List AV
  | .agg cs => cs
  | v => [v]

def AV.isRef : AV → Bool
  | .ref _ => true
  | _ => false

/-- What fills one cell. -/
def AV.leaf : AV → Bool
  | .agg _ | .tup _ | .junk => false
  | _ => true

abbrev Env := List (Nat × AV)

/-- A range over a function that is under way: how it stands, with what jump a round was left, whose it is, its frame's slots, its code. -/
structure ALoop where
  st : LoopState
  pend : Option Code
  f : Nat
  env : Env
  ps : List Nat
  assign : Code
  body : Code

inductive AObj where
  | cells (cs : List AV) (gen : Nat)
  | map (es : List (AV × AV))
  | loop (r : ALoop)

instance : Inhabited AObj := ⟨.map []⟩

abbrev Heap := List AObj

def Env.get (e : Env) (t : Nat) : AV := List.rec (motive := fun _ => AV) .junk (fun p _ ih => Bool.rec ih p.2 (Nat.beq p.1 t)) e
theorem Env.get_nil (t : Nat) : Env.get [] t = .junk := rfl
theorem Env.get_cons (k : Nat) (v : AV) (r : Env) (t : Nat) : Env.get ((k, v) :: r) t = if k == t then v else Env.get r t := by
  show @Bool.rec (fun _ => AV) (Env.get r t) v (Nat.beq k t) = _
  cases h : Nat.beq k t with
  | true => have := Nat.eq_of_beq_eq_true h; subst this; simp
  | false => have := Nat.ne_of_beq_eq_false h; simp [this]

def Env.put (e : Env) (t : Nat) (v : AV) : Env := (t, v) :: e
theorem Env.put_eq (e : Env) (t : Nat) (v : AV) : Env.put e t v = (t, v) :: e := rfl

def Env.putAt (e : Env) (d : Option Nat) (v : AV) : Env :=
  match d with
  | some t => e.put t v
  | none => e

def Env.keep (e : Env) : List Nat → Env
  | [] => []
  | t :: r => (t, e.get t) :: Env.keep e r


inductive TD where
  | bool | int (k : IntKind) | str | ptr | func | iface | other
  | slice (e : Nat)
  | array (n e : Nat)
  | map (k e : Nat)
  | struct (fs : List (Nat × Nat))   -- each field's type, its first cell
  deriving Inhabited

structure TI where
  td : TD
  size : Nat
  bytes : Nat
  zero : List AV
  deriving Inhabited

def TD.isAgg : TD → Bool
  | .array .. | .struct _ => true
  | _ => false

inductive CRes where
  | ret (v : AV)
  | pan (v : AV)
  deriving Inhabited

structure FI where
  params : Nat
  results : List ResultVar
  body : Code

/-- What the interpreter is told: types, functions, globals that are never written, and where it may forget or freeze. -/
structure Cfg where
  ty : Nat → Option TI
  fn : Nat → Option FI
  glob : Nat → Option AV
  /-- Is this function's answer made immutable? -/
  pure : Nat → Bool
  /-- Is the slice literal of this function that goes into that slot never written? -/
  imm : Nat → Nat → Bool
  /-- Behind this region of this function: the slots that are still read. -/
  live : Nat → Nat → Option (List Nat)
  prim : Nat → Option (List AV → Heap → Option (CRes × Heap))
  /-- Of a call by a value: is what is called known to be pure? Of a load: is what is read never written? (by the function and the slot that the answer goes into) -/
  quiet : Nat → Nat → Bool
  /-- Of an operation by the slot that its answer goes into: which operations of its region (by number) may be done behind it too, since it changes nothing of what they read. (It is looked at as it is done.) -/
  loose : Nat → Nat → List Nat := fun _ _ => []
  /-- Is this function run by itself: on what its arguments read as, without the rest of the heap? (It must answer a plain value.) -/
  alone : Nat → Bool := fun _ => false

variable (C : Cfg)


def ofValue : Value → Option AV
  | .bool b => some (.bool b)
  | .int k n => some (.int k n)
  | .string s => some (.str s.data.toList)
  | .pointer none => some .nilPtr
  | .slice none 0 0 => some (.lst [] 0 .nil)
  | .map none => some .nilMap
  | .nilFunc => some .nilFunc
  | .nilIface => some .nilIface
  | .tuple vs => if vs.isEmpty then some (.tup []) else none
  | _ => none

def evalA (e : Env) : Operand → Option AV
  | .tmp t => match e.get t with
    | .junk => none
    | v => some v
  | .const v => ofValue v
  | .global g => C.glob g
  | .func f => some (.clo f [])

/-- An operand that may lack. -/
def optA (e : Env) : Option Operand → Option (Option AV)
  | none => some none
  | some x => (evalA C e x).map some


def Heap.obj (h : Heap) (o gen : Nat) : Option (List AV) :=
  match h[o]? with
  | some (.cells cs g) => if g == gen then some cs else none
  | _ => none

/-- The cells from an address on. -/
def cellsAt (h : Heap) : AV → Option (List AV)
  | .ref cs => some cs
  | .ptr o off g => (h.obj o g).map (·.drop off)
  | _ => none

/-- A value of a type out of cells. -/
def part (t : TI) (cs : List AV) : Option AV :=
  if t.td.isAgg then (if t.size ≤ cs.length then some (.agg (cs.take t.size)) else none) else cs.head?

def loadA (h : Heap) (t : Nat) (a : AV) : Option AV := do part (← C.ty t) (← cellsAt h a)

def setCells {α : Type} (cs : List α) (off : Nat) : List α → List α
  | [] => cs
  | v :: r => setCells (cs.set off v) (off + 1) r

def storeA (h : Heap) (t : Nat) (a v : AV) : Option Heap := do
  let ti ← C.ty t
  match a with
  | .ptr o off g =>
    let cs ← h.obj o g
    if v.cells.length == ti.size && off + ti.size ≤ cs.length && v.cells.all AV.leaf then some (h.set o (.cells (setCells cs off v.cells) g)) else none
  | _ => none


def one : AV → AV
  | .agg l => .agg [.agg l]
  | c => c

def group : Nat → List AV → Nat → List AV
  | 0, _, _ => []
  | n + 1, cs, sz => (if sz == 1 then one (cs.headD .junk) else .agg (cs.take sz)) :: group n (cs.drop sz) sz

/-- A slice's elements. -/
def elems (h : Heap) : AV → Option (List AV)
  | .lst xs _ _ => some xs
  | .msl o off len sz g _ => do
    let cs ← h.obj o g
    if off + len * sz ≤ cs.length then some (group len (cs.drop off) sz) else none
  | _ => none

def Heap.live (h : Heap) (o gen : Nat) : Bool := (h.obj o gen).isSome

def lenA (h : Heap) (td : TD) (x : AV) : Option Nat :=
  match td, x with
  | .slice _, .lst xs _ _ => some xs.length
  | .slice _, .msl o _ n _ g _ => if h.live o g then some n else none
  | .str, .str s => some s.length
  | .map _ _, .nilMap => some 0
  | .map _ _, .map o => (match h[o]? with | some (.map es) => some es.length | _ => none)
  | _, _ => none

def indexAddrA (h : Heap) (t : Nat) (x i : AV) : Option AV := do
  let ti ← C.ty t
  match i with
  | .int _ n =>
    if n < 0 then none else
    match ti.td, x with
    | .slice e, .lst xs _ _ => do
      let v ← xs[n.toNat]?
      if v.cells.length == (← C.ty e).size then some (.ref v.cells) else none
    | .slice e, .msl o off len sz g _ => do
      if n.toNat < len && sz == (← C.ty e).size && h.live o g then some (.ptr o (off + n.toNat * sz) g) else none
    | .array len e, .ref cs => do if n.toNat < len then some (.ref (cs.drop (n.toNat * (← C.ty e).size))) else none
    | .array len e, .ptr o off g => do if n.toNat < len && h.live o g then some (.ptr o (off + n.toNat * (← C.ty e).size) g) else none
    | _, _ => none
  | _ => none

def fieldAddrA (h : Heap) (t : Nat) (x : AV) (f : Nat) : Option AV := do
  match (← C.ty t).td with
  | .struct fs => do
    let (ft, off) ← fs[f]?
    if (← C.ty ft).size == 0 then none else
    match x with
    | .ref cs => some (.ref (cs.drop off))
    | .ptr o off' g => if h.live o g then some (.ptr o (off' + off) g) else none
    | _ => none
  | _ => none

def fieldA (t : Nat) (x : AV) (f : Nat) : Option AV := do
  match (← C.ty t).td, x with
  | .struct fs, .agg cs => do
    let (ft, off) ← fs[f]?
    part (← C.ty ft) (cs.drop off)
  | _, _ => none

def indexA (t : Nat) (x i : AV) : Option AV := do
  match (← C.ty t).td, x, i with
  | .str, .str s, .int _ n => if n < 0 then none else (s[n.toNat]?).map fun c => .int .u8 c.toNat
  | .array len e, .agg cs, .int _ n => do
    if n < 0 then none else if n.toNat < len then part (← C.ty e) (cs.drop (n.toNat * (← C.ty e).size)) else none
  | _, _, _ => none

def fillA (place : Nat → Option (Nat × Nat)) (cells : List AV) : List (Nat × AV) → Option (List AV)
  | [] => some cells
  | (i, v) :: rest => do
    let (off, size) ← place i
    if v.cells.length == size && off + size ≤ cells.length then fillA place (setCells cells off v.cells) rest else none

def buildA (t : Nat) (parts : List (Nat × AV)) : Option AV := do
  let ti ← C.ty t
  match ti.td with
  | .struct fs => do
    let cs ← fillA (fun i => (fs[i]?).bind fun (ft, off) => (C.ty ft).map fun x => (off, x.size)) ti.zero parts
    some (.agg cs)
  | .array _ e => do
    let sz := (← C.ty e).size
    let cs ← fillA (fun i => some (i * sz, sz)) ti.zero parts
    some (.agg cs)
  | _ => none

def copies : Nat → List AV → List AV
  | 0, _ => []
  | n + 1, z => z ++ copies n z

/-- How long what is made may be. -/
def mostLen : Nat := 4294967296


def arithA (op : BinOp) (k : IntKind) (a b : Int) : Option AV :=
  match op with
  | .add => some (.int k (k.wrap (a + b)))
  | .sub => some (.int k (k.wrap (a - b)))
  | .mul => some (.int k (k.wrap (a * b)))
  | .quo => if b == 0 then none else some (.int k (k.wrap (a.tdiv b)))
  | .rem => if b == 0 then none else some (.int k (a.tmod b))
  | .eql => some (.bool (a == b))
  | .neq => some (.bool (a != b))
  | .lss => some (.bool (a < b))
  | .leq => some (.bool (a ≤ b))
  | .gtr => some (.bool (a > b))
  | .geq => some (.bool (a ≥ b))
  | _ => none

/-- Are two plain cells the same? -/
def sameLeaf : AV → AV → Option Bool
  | .bool a, .bool b => some (a == b)
  | .int _ a, .int _ b => some (a == b)
  | .str a, .str b => some (a == b)
  | _, _ => none

def sameLeaves : List AV → List AV → Option Bool
  | [], [] => some true
  | a :: x, b :: y => do
    let p ← sameLeaf a b
    if p then sameLeaves x y else some false
  | _, _ => none

def eqA (h : Heap) (td : TD) (x y : AV) : Option Bool :=
  match td, x, y with
  | .bool, .bool a, .bool b => some (a == b)
  | .ptr, .nilPtr, .nilPtr => some true
  | .ptr, .nilPtr, .ref _ | .ptr, .ref _, .nilPtr => some false
  | .ptr, .nilPtr, .ptr o _ g | .ptr, .ptr o _ g, .nilPtr => if h.live o g then some false else none
  | .slice _, .lst _ _ r, .lst _ _ .nil => some (r == .nil)
  | .slice _, .lst _ _ .nil, .lst _ _ r => some (r == .nil)
  | .slice _, .msl o _ _ _ g _, .lst _ _ .nil | .slice _, .lst _ _ .nil, .msl o _ _ _ g _ => if h.live o g then some false else none
  | .map _ _, .nilMap, .nilMap => some true
  | .map _ _, .nilMap, .map _ | .map _ _, .map _, .nilMap => some false
  | .func, .nilFunc, .nilFunc => some true
  | .func, .nilFunc, .clo .. | .func, .clo .., .nilFunc => some false
  | _, _, _ => none

def binA (h : Heap) (op : BinOp) (t : Nat) (x y : AV) : Option AV :=
  match x, y with
  | .int k a, .int k' b => if k == k' then arithA op k a b else none
  | .str a, .str b =>
    match op with
    | .add => if a.length + b.length ≤ mostLen then some (.str (a ++ b)) else none
    | .eql => some (.bool (a == b))
    | .neq => some (.bool (!(a == b)))
    | .lss => some (.bool (Op.bytesLess a b))
    | .leq => some (.bool (Op.bytesLess a b || a == b))
    | .gtr => some (.bool (!(Op.bytesLess a b || a == b)))
    | .geq => some (.bool (!Op.bytesLess a b))
    | _ => none
  | x, y => do
    let ti ← C.ty t
    match op with
    | .eql => (eqA h ti.td x y).map .bool
    | .neq => (eqA h ti.td x y).map fun b => .bool (!b)
    | _ => none

def unA (op : UnOp) : AV → Option AV
  | .bool b => if op matches .not then some (.bool (!b)) else none
  | .int k n => if op matches .neg then some (.int k (k.wrap (0 - n))) else none
  | _ => none

def convA (dst : Nat) (x : AV) : Option AV := do
  match (← C.ty dst).td, x with
  | .int k, .int _ n => some (.int k (k.wrap n))
  | .str, .str s => some (.str s)
  | _, _ => none


def boundA (v : Option AV) (d : Nat) (most : Nat) : Option Nat :=
  match v with
  | none => some d
  | some (.int _ n) => if 0 ≤ n && n ≤ most then some n.toNat else none
  | _ => none

def sliceA (h : Heap) (t : Nat) (x : AV) (lo hi mx : Option AV) : Option AV := do
  match (← C.ty t).td, x with
  | .str, .str s => do
    if mx.isSome then none else
    let b ← boundA hi s.length s.length
    let a ← boundA lo 0 b
    some (.str ((s.take b).drop a))
  | .slice e, .lst xs z r => do
    if !(z == (← C.ty e).size || xs.isEmpty) then none else
    match mx with
    | none =>
      let b ← boundA hi xs.length xs.length
      let a ← boundA lo 0 b
      some (.lst ((xs.take b).drop a) z (match r with | .nil => .nil | .exact c => .exact (c - a) | .open => .open))
    | some m => do
      let _ ← hi
      let m ← boundA (some m) 0 xs.length
      let b ← boundA hi 0 m
      let a ← boundA lo 0 b
      some (.lst ((xs.take b).drop a) z (match r with | .nil => .nil | _ => .exact (m - a)))
  | .slice e, .msl o off len sz g cap => do
    let cs ← h.obj o g
    if mx.isSome || sz != (← C.ty e).size then none else
    -- a bound above the length is let through only where the cells are known
    let most := match cap with | some c => c | none => if sz == 0 then len else (cs.length - off) / sz
    let b ← boundA hi len most
    let a ← boundA lo 0 b
    some (.msl o (off + a * sz) (b - a) sz g (cap.map (· - a)))
  | .array n e, .ptr o off g => do
    if mx.isSome then none else
    let cs ← h.obj o g
    let sz := (← C.ty e).size
    if off + n * sz > cs.length then none else
    let b ← boundA hi n n
    let a ← boundA lo 0 b
    some (.msl o (off + a * sz) (b - a) sz g (some (n - a)))
  | .array n e, .ref cs => do
    if mx.isSome then none else
    let sz := (← C.ty e).size
    if sz == 0 || decide (n * sz > cs.length) then none else
    let b ← boundA hi n n
    let a ← boundA lo 0 b
    some (.lst (group (b - a) (cs.drop (a * sz)) sz) sz (.exact (n - a)))
  | _, _ => none

/-- Is a slice of n elements as long as its room? -/
def Room.full (r : Room) (n : Nat) : Bool :=
  match r with
  | .exact c => n == c
  | .nil => true
  | .open => false

def capOk (cap : Option Nat) (n : Nat) : Bool :=
  match cap with
  | some c => n ≤ c
  | none => true

def growA (h : Heap) (o len n sz g : Nat) (cs : List AV) : Option Nat → Option (AV × Heap)
  | none => some (.msl o 0 (len + n) sz (g + 1) none, h.set o (.cells cs (g + 1)))
  | some c => if len == c then some (.msl h.length 0 (len + n) sz 0 none, h ++ [.cells cs 0]) else none

def appendA (h : Heap) (sz : Nat) (s : AV) (ys : List AV) : Option (AV × Heap) :=
  let cells := (ys.map AV.cells).flatten
  if cells.length != ys.length * sz || !cells.all AV.leaf || sz == 0 then none else
  match s with
  | .lst xs z r =>
    if ys.isEmpty then some (s, h) else
    if r.full xs.length && (z == sz || xs.isEmpty) && xs.length + ys.length ≤ mostLen then
      some (.msl h.length 0 (xs.length + ys.length) sz 0 none, h ++ [.cells ((xs.map AV.cells).flatten ++ cells) 0])
    else none
  | .msl o off len sz' g cap => do
    let cs ← h.obj o g
    if sz' != sz then none else
    if ys.isEmpty then some (s, h) else
    let at_ := off + len * sz
    if at_ + cells.length ≤ cs.length && capOk cap (len + ys.length) then
      -- within what is known: in place
      some (.msl o off (len + ys.length) sz g cap, h.set o (.cells (setCells cs at_ cells) g))
    else if at_ == cs.length && off == 0 && len + ys.length ≤ mostLen then growA h o len ys.length sz g (cs ++ cells) cap
    else none
  | _ => none

def makeSliceA (h : Heap) (t : Nat) (l c : AV) : Option (AV × Heap) := do
  match (← C.ty t).td, l, c with
  | .slice e, .int _ l, .int _ c =>
    let ti ← C.ty e
    if 0 ≤ l && l ≤ c && c ≤ mostLen && ti.zero.length == ti.size then
      some (.msl h.length 0 l.toNat ti.size 0 (some c.toNat), h ++ [.cells (copies c.toNat ti.zero) 0])
    else none
  | _, _, _ => none


def sameKey : AV → AV → Option Bool
  | .bool a, .bool b => some (a == b)
  | .int k a, .int k' b => if k == k' then some (a == b) else none
  | .str a, .str b => some (a == b)
  | _, _ => none

/-- Keys that are told apart at once. -/
def keyTd : TD → AV → Bool
  | .bool, .bool _ | .int _, .int .. | .str, .str _ => true
  | _, _ => false

def findA (k : AV) : List (AV × AV) → Option (Option AV)
  | [] => some none
  | (k', v) :: r => do
    let p ← sameKey k k'
    if p then some (some v) else findA k r

def putA (k v : AV) : List (AV × AV) → Option (List (AV × AV))
  | [] => some [(k, v)]
  | (k', u) :: r => do
    let p ← sameKey k k'
    if p then some ((k', v) :: r) else (putA k v r).map ((k', u) :: ·)

def eraseA (k : AV) : List (AV × AV) → Option (List (AV × AV))
  | [] => some []
  | (k', u) :: r => do
    let p ← sameKey k k'
    if p then some r else (eraseA k r).map ((k', u) :: ·)

def Heap.mapAt (h : Heap) (o : Nat) : Option (List (AV × AV)) :=
  match h[o]? with
  | some (.map es) => some es
  | _ => none

def Heap.loopAt (h : Heap) (o : Nat) : Option ALoop :=
  match h[o]? with
  | some (.loop r) => some r
  | _ => none

def Heap.ents (h : Heap) : AV → Option (List (AV × AV))
  | .nilMap => some []
  | .map o => h.mapAt o
  | _ => none

def lookupA (h : Heap) (t : Nat) (m k : AV) (ok : Bool) : Option AV := do
  match (← C.ty t).td with
  | .map kt e => do
    if !keyTd (← C.ty kt).td k then none else
    let es ← h.ents m
    let r ← findA k es
    let ti ← C.ty e
    let z ← part ti ti.zero
    let v := r.getD z
    some (if ok then .tup [v, .bool r.isSome] else v)
  | _ => none

def updateA (h : Heap) (t : Nat) (m k v : AV) : Option Heap := do
  match (← C.ty t).td, m with
  | .map kt _, .map o => do
    if !keyTd (← C.ty kt).td k then none else
    let es ← h.mapAt o
    let es ← putA k v es
    some (h.set o (.map es))
  | _, _ => none


def capA (h : Heap) : AV → Option Nat
  | .lst [] _ .nil => some 0
  | .lst _ _ (.exact c) => some c
  | .msl o _ _ _ g (some c) => if h.live o g then some c else none
  | _ => none

def bytesOf : List AV → Option (List UInt8)
  | [] => some []
  | .int k n :: r => if k == .u8 then (bytesOf r).map (UInt8.ofNat n.toNat :: ·) else none
  | _ => none

/-- A conversion; of bytes to a string too. -/
def convH (h : Heap) (src dst : Nat) (x : AV) : Option AV := do
  let ts ← C.ty src
  match ts.td with
  | .slice e => do
    let te ← C.ty e
    let td ← C.ty dst
    match te.td, td.td with
    | .int k, .str => if k == .u8 then (elems h x).bind fun ys => (bytesOf ys).map .str else none
    | _, _ => none
  | _ => convA C dst x

def moreA (h : Heap) (b : Builtin) (ts : List Nat) (vs : List AV) : Option (AV × Heap) :=
  match b, ts, vs with
  | .cap, [t], [x] => do
    match (← C.ty t).td with
    | .slice _ => (capA h x).map fun (n : Nat) => (AV.int .i64 (n : Int), h)
    | _ => none
  | .clear, [t], [x] => do
    match (← C.ty t).td, x with
    | .slice _, .lst [] _ _ => some (.tup [], h)
    | .slice e, .msl o off len sz g _ => do
      let te ← C.ty e
      let cs ← h.obj o g
      if len == 0 then some (.tup [], h) else
      if sz == te.size && off + len * sz ≤ cs.length && te.zero.length == te.size && te.zero.all AV.leaf then
        some (.tup [], h.set o (.cells (setCells cs off (copies len te.zero)) g))
      else none
    | .map _ _, .nilMap => some (.tup [], h)
    | .map _ _, .map o => do
      let _ ← h.mapAt o
      some (.tup [], h.set o (.map []))
    | _, _ => none
  | .copy, [t, _], [d, x] => do
    match (← C.ty t).td with
    | .slice e => do
      let te ← C.ty e
      let ys ← elems h x
      match d with
      | .lst [] _ _ => some (.int .i64 0, h)
      | .msl o off len sz g _ => do
        let cs ← h.obj o g
        let n := Nat.min ys.length len
        let cells := ((ys.map AV.cells).flatten).take (n * te.size)
        if n == 0 then some (.int .i64 0, h) else
        if sz == te.size && off + len * sz ≤ cs.length && cells.length == n * te.size && cells.all AV.leaf then
          some (.int .i64 n, h.set o (.cells (setCells cs off cells) g))
        else none
      | _ => none
    | _ => none
  | .delete, [t, _], [m, k] => do
    match (← C.ty t).td with
    | .map kt _ => do
      if !keyTd (← C.ty kt).td k then none else
      match m with
      | .nilMap => some (.tup [], h)
      | .map o => do
        let es ← h.mapAt o
        let es ← eraseA k es
        some (.tup [], h.set o (.map es))
      | _ => none
    | _ => none
  | .max, _, [.int k a, .int k' b] => if k == k' then some (.int k (if b > a then b else a), h) else none
  | .min, _, [.int k a, .int k' b] => if k == k' then some (.int k (if b < a then b else a), h) else none
  | _, _, _ => none


def resultsA (h : Heap) (e : Env) : List ResultVar → Option (List AV)
  | [] => some []
  | .tmp t :: r => do
    let v ← evalA C e (.tmp t)
    let vs ← resultsA h e r
    some (v :: vs)
  | .cell a t :: r => do
    let p ← evalA C e (.tmp a)
    let v ← loadA C h t p
    let vs ← resultsA h e r
    some (v :: vs)

def packA : List AV → AV
  | [v] => v
  | vs => .tup vs


def mapO {α β : Type} (f : α → Option β) : List α → Option (List β)
  | [] => some []
  | a :: r => do
    let b ← f a
    let bs ← mapO f r
    some (b :: bs)

/-- What is in objects from n on becomes immutable. -/
def freezeV (h : Heap) (n : Nat) : Nat → AV → Option AV
  | 0, _ => none
  | d + 1, v =>
    match v with
    | .ptr o off g => if o < n then some v else do
      let cs ← h.obj o g
      let cs ← mapO (freezeV h n d) (cs.drop off)
      some (.ref cs)
    | .msl o off len sz g _ => if o < n then some v else do
      let cs ← h.obj o g
      if off + len * sz ≤ cs.length then
        let cs ← mapO (freezeV h n d) ((cs.drop off).take (len * sz))
        some (.lst (group len cs sz) sz .open)
      else none
    | .map o => if o < n then some v else none
    | .yld _ => none
    | .ref cs => (mapO (freezeV h n d) cs).map .ref
    | .agg cs => (mapO (freezeV h n d) cs).map .agg
    | .tup cs => (mapO (freezeV h n d) cs).map .tup
    | .clo f cs => (mapO (freezeV h n d) cs).map (.clo f)
    | .lst xs z r => (mapO (freezeV h n d) xs).map (.lst · z r)
    | .iface t v => (freezeV h n d v).map (.iface t)
    | v => some v

mutual
/-- A value in which there is no memory. -/
def AV.plain : AV → Bool
  | .bool _ | .int .. | .str _ | .nilPtr | .nilMap | .nilFunc | .nilIface => true
  | .agg cs => AV.plains cs
  | .tup cs => AV.plains cs
  | _ => false
def AV.plains : List AV → Bool
  | [] => true
  | v :: r => AV.plain v && AV.plains r
end


/-- What an operation without a call of a function comes to: the value, the heap. -/
def opA (f : Nat) (e : Env) (h : Heap) (o : Oper) : Option (AV × Heap) := do
  let ev := evalA C e
  match o.op with
  | .move x | .assign x => do some (← ev x, h)
  | .pick c a b => do
    match ← ev c with
    | .bool true => do some (← ev a, h)
    | .bool false => do some (← ev b, h)
    | _ => none
  | .alloc t => do
    let ti ← C.ty t
    if ti.zero.length == ti.size then some (.ptr h.length 0 0, h ++ [.cells ti.zero 0]) else none
  | .box t x => do
    let ti ← C.ty t
    let v ← ev x
    if v.cells.length == ti.size then
      if (o.dst.map (C.imm f)).getD false then some (.ref v.cells, h) else some (.ptr h.length 0 0, h ++ [.cells v.cells 0])
    else none
  | .build t parts => do
    let ps ← mapO (fun (p : Nat × Operand) => (ev p.2).map (p.1, ·)) parts.toList
    some (← buildA C t ps, h)
  | .buildSlice t len parts => do
    let ps ← mapO (fun (p : Nat × Operand) => (ev p.2).map (p.1, ·)) parts.toList
    match (← C.ty t).td with
    | .slice el => do
      let ti ← C.ty el
      if ti.zero.length != ti.size || decide (len * ti.size > 16777216) then none else
      let cs ← fillA (fun i => some (i * ti.size, ti.size)) (copies len ti.zero) ps
      if (o.dst.map (C.imm f)).getD false then some (.lst (group len cs ti.size) ti.size (.exact len), h)
      else some (.msl h.length 0 len ti.size 0 (some len), h ++ [.cells cs 0])
    | _ => none
  | .load t a => do
    let x ← ev a
    if (o.dst.map (C.quiet f)).getD false && !x.isRef then none else
    some (← loadA C h t x, h)
  | .store t a x => do some (.tup [], ← storeA C h t (← ev a) (← ev x))
  | .nilCheck x => do
    match ← ev x with
    | .ptr o off g => if h.live o g then some (.ptr o off g, h) else none
    | .ref cs => some (.ref cs, h)
    | .clo f cs => some (.clo f cs, h)
    | .yld l => some (.yld l, h)
    | _ => none
  | .binOp op t x y _ => do some (← binA C h op t (← ev x) (← ev y), h)
  | .unOp op _ x => do some (← unA op (← ev x), h)
  | .convert src dst x => do some (← convH C h src dst (← ev x), h)
  | .makeInterface t x => do
    match (← C.ty t).td with
    | .iface => none
    | _ => some (.iface t (← ev x), h)
  | .makeFunc (.func g) first caps => do
    if first.isEmpty then
      let cs ← mapO ev caps.toList
      some (.clo g cs, h)
    else none
  | .makeSlice t l c => do makeSliceA C h t (← ev l) (← ev c)
  | .makeMap t none => do
    let _ ← C.ty t
    some (.map h.length, h ++ [.map []])
  | .lookup t x k ok => do some (← lookupA C h t (← ev x) (← ev k) ok, h)
  | .mapUpdate t m k x => do some (.tup [], ← updateA C h t (← ev m) (← ev k) (← ev x))
  | .insert t m k x => do some (.tup [], ← updateA C h t (← ev m) (← ev k) (← ev x))
  | .slice t x lo hi mx => do
    let lo ← optA C e lo
    let hi ← optA C e hi
    if mx.isSome then none else
    some (← sliceA C h t (← ev x) lo hi none, h)
  | .fieldAddr t x k => do some (← fieldAddrA C h t (← ev x) k, h)
  | .field t x k => do some (← fieldA C t (← ev x) k, h)
  | .indexAddr t x i => do some (← indexAddrA C h t (← ev x) (← ev i), h)
  | .index t x i => do some (← indexA C t (← ev x) (← ev i), h)
  | .extract t i => do
    match ← ev t with
    | .tup vs => do some (← vs[i]?, h)
    | _ => none
  | .call { callee := .builtin b, args, argTypes } => do
    let vs ← mapO ev args.toList
    match b, vs with
    | .len, [x] => do
      let ti ← C.ty (← argTypes[0]?)
      some (.int .i64 (← lenA h ti.td x), h)
    | .append, [s, y] => do
      match argTypes.toList with
      | [t, t'] => do
        if t != t' then none else
        match (← C.ty t).td with
        | .slice el => do appendA h (← C.ty el).size s (← elems h y)
        | _ => none
      | _ => none
    | b, vs => moreA C h b argTypes.toList vs
  | _ => none

/-- Variables that a region makes. -/
def isAlloc (o : Oper) : Bool := match o.op with | .alloc _ => true | _ => false

/-- In which row a region's operations are gone through. -/
def sched (ops : Array Oper) (draw : Bool) : List Oper :=
  if draw then ops.toList.filter isAlloc ++ ops.toList.filter (fun o => !isAlloc o) else ops.toList

inductive Out where
  | nrm | exit (id : Nat) | ret | pan (v : AV)
  deriving Inhabited

/-- Is the operation wanted? none: nobody knows. -/
def wantA (ops : Array Oper) (e : Env) (o : Oper) : Option Bool :=
  match o.guard with
  | none => some true
  | some (j, want) =>
    match ((ops[j]?).bind (·.dst)).map e.get with
    | some (.bool b) => some (b == want)
    | some (.tup []) => some false
    | none => some false
    | _ => none

/-- Does an operation that was done answer the same where the heap is that one? -/
def looseB (f : Nat) (ops : Array Oper) (e : Env) (h : Heap) (i : Nat) : Bool :=
  match ops[i]? with
  | none => false
  | some p =>
    match wantA ops e p with
    | some false => true
    | some true =>
      match p.dst, opA C f e h p with
      | some t, some (v, _) => AV.eqb v (e.get t)
      | _, _ => false
    | none => false

def looseAll (f : Nat) (ops : Array Oper) (d : Option Nat) (e : Env) (h : Heap) : Bool :=
  match d with
  | none => true
  | some t => (C.loose f t).all (looseB C f ops e h)

open Classical in
/-- A call's answer, its heap behind it; where it is asked: immutable, the heap as it was. -/
def leaveA (f : Nat) (h : Heap) (v : AV) (h' : Heap) : Option (CRes × Heap) :=
  if C.pure f then
    if h'.take h.length = h then (freezeV h' h.length 40 v).map fun v => (.ret v, h) else none
  else some (.ret v, h')

/-- Slots that are given values. -/
def Env.puts (e : Env) : List Nat → List AV → Env
  | t :: ts, v :: vs => Env.puts (e.put t v) ts vs
  | _, _ => e

/-- Is what is called known to be pure? -/
def pureV : AV → Bool
  | .clo g _ => C.pure g
  | _ => false

/-- With what jump a round was left, and whether the range goes on; none: nobody knows. -/
def jumpOf : Out → Option (Option Code)
  | .nrm => some none
  | .ret => some (some .ret)
  | .exit id => some (some (.exit id))
  | .pan _ => none

mutual
def callF : Nat → Nat → List AV → Heap → Option (CRes × Heap)
  | 0, _, _, _ => none
  | k + 1, f, args, h =>
    match C.prim f with
    | some p => p args h
    | none => do
      let fi ← C.fn f
      if args.length != fi.params then none else
      if C.alone f then do
        let avs ← mapO (freezeV h 0 40) args
        let (out, e, h') ← execF k f fi.body (avs.zipIdx.map fun (v, i) => (i, v)) []
        match out with
        | .nrm | .ret => do
          let rs ← resultsA C h' e fi.results
          if (packA rs).plain then some (.ret (packA rs), h) else none
        | _ => none
      else do
      let (out, e, h') ← execF k f fi.body (args.zipIdx.map fun (v, i) => (i, v)) h
      match out with
      | .nrm | .ret => do leaveA C f h (packA (← resultsA C h' e fi.results)) h'
      | .pan v => some (.pan v, h')
      | .exit _ => none
def callV : Nat → AV → List AV → Heap → Option (CRes × Heap)
  | 0, _, _, _ => none
  | k + 1, g, vs, h =>
    match g with
    | .clo g caps => callF k g (vs ++ caps) h
    | .yld o => do
      let r ← h.loopAt o
      if r.st != .ready || r.ps.length != vs.length then none else
      let (out, e1, h1) ← execF k r.f r.assign (r.env.puts r.ps vs) h
      match out with
      | .nrm => do
        let r1 ← h1.loopAt o
        if r1.st != .ready then none else
        let (out, _, h2) ← execF k r.f r.body e1 (h1.set o (.loop { r1 with st := .busy }))
        let r2 ← h2.loopAt o
        let j ← jumpOf out
        some (.ret (.bool j.isNone), h2.set o (.loop { r2 with st := if j.isNone then .ready else .done, pend := j }))
      | _ => none
    | _ => none
def execF : Nat → Nat → Code → Env → Heap → Option (Out × Env × Heap)
  | 0, _, _, _, _ => none
  | k + 1, f, c, e, h =>
    match c with
    | .skip | .label _ => some (.nrm, e, h)
    | .seq a b => do
      let (out, e, h) ← execF k f a e h
      match out with
      | .nrm => execF k f b e h
      | out => some (out, e, h)
    | .cond c a b => do
      match ← evalA C e c with
      | .bool true => execF k f a e h
      | .bool false => execF k f b e h
      | _ => none
    | .block id b => do
      let (out, e, h) ← execF k f b e h
      match out with
      | .exit id' => if id' == id then some (.nrm, e, h) else some (.exit id', e, h)
      | out => some (out, e, h)
    | .loop b => do
      let (out, e, h) ← execF k f b e h
      match out with
      | .nrm => execF k f (.loop b) e h
      | out => some (out, e, h)
    | .exit id => some (.exit id, e, h)
    | .scope b => execF k f b e h
    | .ret => some (.ret, e, h)
    | .region id ops draw => do
      let (out, e, h) ← opsF k f ops (sched ops draw) e h
      match out with
      | .nrm => some (.nrm, (match C.live f id with | some l => e.keep l | none => e), h)
      | out => if draw then none else some (out, e, h)
    | .rangeFunc g ps assign body => do
      match ← evalA C e g with
      | .clo g caps => do
        let (res, h1) ← callF k g (.yld h.length :: caps) (h ++ [.loop { st := .ready, pend := none, f, env := e, ps := ps.toList, assign, body }])
        let r ← h1.loopAt h.length
        match res with
        | .ret _ =>
          if r.st == .busy then none else
          match r.pend with
          | none => some (.nrm, e, h1.set h.length (.loop { r with st := .exhausted }))
          | some .ret => some (.ret, e, h1.set h.length (.loop { r with st := .exhausted }))
          | some (.exit id) => some (.exit id, e, h1.set h.length (.loop { r with st := .exhausted }))
          | _ => none
        | .pan _ => none
      | _ => none
    | _ => none
def opsF : Nat → Nat → Array Oper → List Oper → Env → Heap → Option (Out × Env × Heap)
  | 0, _, _, _, _, _ => none
  | _ + 1, _, _, [], e, h => some (.nrm, e, h)
  | k + 1, f, ops, o :: r, e, h => do
    if ← wantA ops e o then
      match o.op with
      | .call { callee := .value g, args, .. } => do
        let vs ← mapO (evalA C e) args.toList
        let gv ← evalA C e g
        if (o.dst.map (C.quiet f)).getD false && !pureV C gv then none else do
          let (res, h) ← callV k gv vs h
          match res with
          | .ret v => if looseAll C f ops o.dst e h then opsF k f ops r (e.putAt o.dst v) h else none
          | .pan v => some (.pan v, e, h)
      | _ => do
        let (v, h) ← opA C f e h o
        if looseAll C f ops o.dst e h then opsF k f ops r (e.putAt o.dst v) h else none
    else opsF k f ops r (e.putAt o.dst (.tup [])) h
end
end
end Go.Rv

/-
  The interpreter of RvCore without a count of rounds: what it answers with some count; its equations.
-/
set_option linter.unusedSimpArgs false
set_option linter.unusedVariables false
namespace Go.Rv

theorem Nat.eq_of_beqb {a b : Nat} (h : Nat.beq a b = true) : a = b := Nat.eq_of_beq_eq_true h

mutual
theorem AV.eqb_eq : ∀ (a b : AV), AV.eqb a b = true → a = b := fun a b h => by
  cases a <;> cases b <;> simp only [AV.eqb, Bool.and_eq_true, Bool.false_eq_true, decide_eq_true_eq] at h <;> first | rfl | skip
  · simp at h; rw [h]
  · rw [h.1, h.2]
  · simp at h; rw [h]
  · rw [Nat.eq_of_beqb h.1.1, Nat.eq_of_beqb h.1.2, Nat.eq_of_beqb h.2]
  · rw [AV.eqbs_eq _ _ h]
  · rw [Nat.eq_of_beqb h.1.1, h.1.2, AV.eqbs_eq _ _ h.2]
  · rw [Nat.eq_of_beqb h.1.1.1.1.1, Nat.eq_of_beqb h.1.1.1.1.2, Nat.eq_of_beqb h.1.1.1.2, Nat.eq_of_beqb h.1.1.2, Nat.eq_of_beqb h.1.2, h.2]
  · rw [Nat.eq_of_beqb h.1, AV.eqbs_eq _ _ h.2]
  · rw [Nat.eq_of_beqb h]
  · rw [Nat.eq_of_beqb h]
  · rw [Nat.eq_of_beqb h.1, AV.eqb_eq _ _ h.2]
  · rw [AV.eqbs_eq _ _ h]
  · rw [AV.eqbs_eq _ _ h]
theorem AV.eqbs_eq : ∀ (a b : List AV), AV.eqbs a b = true → a = b := fun a b h => by
  cases a <;> cases b <;> simp only [AV.eqbs, Bool.and_eq_true, Bool.false_eq_true] at h <;> first | rfl | skip
  rw [AV.eqb_eq _ _ h.1, AV.eqbs_eq _ _ h.2]
end


/-- The first answers whatever the second does. -/
def LeO {α : Type} (a b : Option α) : Prop := ∀ r, a = some r → b = some r
theorem LeO.refl {α : Type} (a : Option α) : LeO a a := fun _ h => h
theorem LeO.none {α : Type} (b : Option α) : LeO Option.none b := fun _ h => by cases h
theorem LeO.trans {α : Type} {a b c : Option α} (h : LeO a b) (h' : LeO b c) : LeO a c := fun r e => h' r (h r e)
theorem LeO.bind {α β : Type} {a b : Option α} {f g : α → Option β} (h : LeO a b) (h' : ∀ x, LeO (f x) (g x)) : LeO (a.bind f) (b.bind g) := by
  intro r e
  obtain ⟨x, hx, hf⟩ := Option.bind_eq_some_iff.1 e
  exact Option.bind_eq_some_iff.2 ⟨x, h x hx, h' x r hf⟩

variable (C : Cfg)

structure MonoAt (k : Nat) : Prop where
  val : ∀ g vs h, LeO (callV C k g vs h) (callV C (k + 1) g vs h)
  call : ∀ f args h, LeO (callF C k f args h) (callF C (k + 1) f args h)
  exec : ∀ f c e h, LeO (execF C k f c e h) (execF C (k + 1) f c e h)
  ops : ∀ f ops l e h, LeO (opsF C k f ops l e h) (opsF C (k + 1) f ops l e h)

theorem mono_at : ∀ k, MonoAt C k
  | 0 => ⟨fun _ _ _ r h => by simp [callV] at h, fun _ _ _ r h => by simp [callF] at h, fun _ _ _ _ r h => by simp [execF] at h, fun _ _ _ _ _ r h => by simp [opsF] at h⟩
  | k + 1 => by
    have ih := mono_at k
    refine ⟨?_, ?_, ?_, ?_⟩
    · intro g vs h
      cases g <;> simp only [callV, Option.bind_eq_bind] <;> first | exact LeO.refl _ | exact ih.call _ _ _ | skip
      refine LeO.bind (LeO.refl _) fun r => ?_
      split
      · exact LeO.refl _
      · refine LeO.bind (ih.exec _ _ _ _) fun x => ?_
        obtain ⟨out, e1, h1⟩ := x
        cases out <;> first | exact LeO.refl _ | skip
        refine LeO.bind (LeO.refl _) fun r1 => ?_
        dsimp only
        split
        · exact LeO.refl _
        · exact LeO.bind (ih.exec _ _ _ _) fun x => LeO.refl _
    · intro f args h
      rw [callF, callF]
      split
      · exact LeO.refl _
      · refine LeO.bind (LeO.refl _) fun fi => ?_
        split
        · exact LeO.refl _
        · split
          · exact LeO.bind (LeO.refl _) fun avs => LeO.bind (ih.exec _ _ _ _) fun x => LeO.refl _
          · exact LeO.bind (ih.exec _ _ _ _) fun x => LeO.refl _
    · intro f c e h
      cases c with
      | seq a b =>
        simp only [execF]
        refine LeO.bind (ih.exec _ _ _ _) fun x => ?_
        obtain ⟨out, e1, h1⟩ := x
        cases out <;> first | exact ih.exec _ _ _ _ | exact LeO.refl _
      | cond c a b =>
        simp only [execF]
        refine LeO.bind (LeO.refl _) fun x => ?_
        split <;> first | exact ih.exec _ _ _ _ | exact LeO.refl _
      | block id b =>
        simp only [execF]
        exact LeO.bind (ih.exec _ _ _ _) fun x => LeO.refl _
      | loop b =>
        simp only [execF]
        refine LeO.bind (ih.exec _ _ _ _) fun x => ?_
        obtain ⟨out, e1, h1⟩ := x
        cases out <;> first | exact ih.exec _ _ _ _ | exact LeO.refl _
      | scope b =>
        simp only [execF]
        exact ih.exec _ _ _ _
      | region id ops draw =>
        simp only [execF]
        exact LeO.bind (ih.ops _ _ _ _ _) fun x => LeO.refl _
      | rangeFunc g ps assign body =>
        simp only [execF]
        refine LeO.bind (LeO.refl _) fun gv => ?_
        split
        · exact LeO.bind (ih.call _ _ _) fun x => LeO.refl _
        · exact LeO.refl _
      | _ => simp only [execF]; exact LeO.refl _
    · intro f ops l e h
      cases l with
      | nil => simp only [opsF]; exact LeO.refl _
      | cons o r =>
        simp only [opsF]
        refine LeO.bind (LeO.refl _) fun w => ?_
        split
        · split
          · refine LeO.bind (LeO.refl _) fun vs => LeO.bind (LeO.refl _) fun g => ?_
            split
            · exact LeO.refl _
            · refine LeO.bind (ih.val _ _ _) fun x => ?_
              obtain ⟨res, h1⟩ := x
              cases res <;> first | exact LeO.refl _ | skip
              dsimp only
              split <;> first | exact ih.ops _ _ _ _ _ | exact LeO.refl _
          · refine LeO.bind (LeO.refl _) fun x => ?_
            split <;> first | exact ih.ops _ _ _ _ _ | exact LeO.refl _
        · exact ih.ops _ _ _ _ _

theorem mono_le {α : Type} {g : Nat → Option α} (hg : ∀ k, LeO (g k) (g (k + 1))) {j k : Nat} (h : j ≤ k) : LeO (g j) (g k) := by
  induction k with
  | zero => obtain rfl : j = 0 := by omega
            exact LeO.refl _
  | succ k ih =>
    by_cases e : j = k + 1
    · subst e; exact LeO.refl _
    · exact (ih (by omega)).trans (hg k)

open Classical in
noncomputable def lim {α : Type} (g : Nat → Option α) : Option α := if h : ∃ r, ∃ k, g k = some r then some (Classical.choose h) else none

theorem lim_iff {α : Type} {g : Nat → Option α} (hg : ∀ k, LeO (g k) (g (k + 1))) (r : α) : lim g = some r ↔ ∃ k, g k = some r := by
  unfold lim
  split
  · rename_i hx
    obtain ⟨k, hk⟩ := Classical.choose_spec hx
    constructor
    · intro e; injection e with e; exact ⟨k, by rw [hk, e]⟩
    · rintro ⟨j, hj⟩
      have h1 := mono_le hg (Nat.le_max_left j k) _ hj
      have h2 := mono_le hg (Nat.le_max_right j k) _ hk
      rw [h1] at h2
      injection h2 with h2
      rw [← h2]
  · rename_i hx
    constructor
    · intro e; cases e
    · rintro ⟨k, hk⟩; exact absurd ⟨r, k, hk⟩ hx

noncomputable def call (f : Nat) (args : List AV) (h : Heap) : Option (CRes × Heap) := lim fun k => callF C k f args h
noncomputable def callv (g : AV) (vs : List AV) (h : Heap) : Option (CRes × Heap) := lim fun k => callV C k g vs h
noncomputable def exec (f : Nat) (c : Code) (e : Env) (h : Heap) : Option (Out × Env × Heap) := lim fun k => execF C k f c e h
noncomputable def ops (f : Nat) (os : Array Oper) (l : List Oper) (e : Env) (h : Heap) : Option (Out × Env × Heap) := lim fun k => opsF C k f os l e h

theorem call_iff {f : Nat} {args : List AV} {h : Heap} {r : CRes × Heap} : call C f args h = some r ↔ ∃ k, callF C k f args h = some r := lim_iff (fun k => (mono_at C k).call f args h) r
theorem callv_iff {g : AV} {vs : List AV} {h : Heap} {r : CRes × Heap} : callv C g vs h = some r ↔ ∃ k, callV C k g vs h = some r := lim_iff (fun k => (mono_at C k).val g vs h) r
theorem exec_iff {f : Nat} {c : Code} {e : Env} {h : Heap} {r : Out × Env × Heap} : exec C f c e h = some r ↔ ∃ k, execF C k f c e h = some r := lim_iff (fun k => (mono_at C k).exec f c e h) r
theorem ops_iff {f : Nat} {os : Array Oper} {l : List Oper} {e : Env} {h : Heap} {r : Out × Env × Heap} : ops C f os l e h = some r ↔ ∃ k, opsF C k f os l e h = some r := lim_iff (fun k => (mono_at C k).ops f os l e h) r

theorem callF_le {j k : Nat} (hjk : j ≤ k) (f : Nat) (args : List AV) (h : Heap) : LeO (callF C j f args h) (callF C k f args h) := mono_le (g := fun k => callF C k f args h) (fun k => (mono_at C k).call f args h) hjk
theorem callV_le {j k : Nat} (hjk : j ≤ k) (g : AV) (vs : List AV) (h : Heap) : LeO (callV C j g vs h) (callV C k g vs h) := mono_le (g := fun k => callV C k g vs h) (fun k => (mono_at C k).val g vs h) hjk
theorem execF_le {j k : Nat} (hjk : j ≤ k) (f : Nat) (c : Code) (e : Env) (h : Heap) : LeO (execF C j f c e h) (execF C k f c e h) := mono_le (g := fun k => execF C k f c e h) (fun k => (mono_at C k).exec f c e h) hjk
theorem opsF_le {j k : Nat} (hjk : j ≤ k) (f : Nat) (os : Array Oper) (l : List Oper) (e : Env) (h : Heap) : LeO (opsF C j f os l e h) (opsF C k f os l e h) := mono_le (g := fun k => opsF C k f os l e h) (fun k => (mono_at C k).ops f os l e h) hjk

theorem ext_some {α : Type} {a b : Option α} (h : ∀ r, a = some r ↔ b = some r) : a = b := by
  cases a with
  | none => cases b with
    | none => rfl
    | some x => exact absurd ((h x).2 rfl) (by simp)
  | some x => exact ((h x).1 rfl).symm

theorem exec_succ {f : Nat} {c : Code} {e : Env} {h : Heap} {r : Out × Env × Heap} : exec C f c e h = some r ↔ ∃ k, execF C (k + 1) f c e h = some r := by
  rw [exec_iff]
  constructor
  · rintro ⟨k, hk⟩; exact ⟨k, (mono_at C k).exec _ _ _ _ _ hk⟩
  · rintro ⟨k, hk⟩; exact ⟨k + 1, hk⟩
theorem ops_succ {f : Nat} {os : Array Oper} {l : List Oper} {e : Env} {h : Heap} {r : Out × Env × Heap} : ops C f os l e h = some r ↔ ∃ k, opsF C (k + 1) f os l e h = some r := by
  rw [ops_iff]
  constructor
  · rintro ⟨k, hk⟩; exact ⟨k, (mono_at C k).ops _ _ _ _ _ _ hk⟩
  · rintro ⟨k, hk⟩; exact ⟨k + 1, hk⟩
theorem call_succ {f : Nat} {args : List AV} {h : Heap} {r : CRes × Heap} : call C f args h = some r ↔ ∃ k, callF C (k + 1) f args h = some r := by
  rw [call_iff]
  constructor
  · rintro ⟨k, hk⟩; exact ⟨k, (mono_at C k).call _ _ _ _ hk⟩
  · rintro ⟨k, hk⟩; exact ⟨k + 1, hk⟩

theorem callv_succ {g : AV} {vs : List AV} {h : Heap} {r : CRes × Heap} : callv C g vs h = some r ↔ ∃ k, callV C (k + 1) g vs h = some r := by
  rw [callv_iff]
  constructor
  · rintro ⟨k, hk⟩; exact ⟨k, (mono_at C k).val _ _ _ _ hk⟩
  · rintro ⟨k, hk⟩; exact ⟨k + 1, hk⟩

section
variable {C} (f : Nat) (e : Env) (h : Heap)

theorem exec_skip : exec C f .skip e h = some (.nrm, e, h) := (exec_succ C).2 ⟨0, rfl⟩
theorem exec_label (l : Nat) : exec C f (.label l) e h = some (.nrm, e, h) := (exec_succ C).2 ⟨0, rfl⟩
theorem exec_exit (id : Nat) : exec C f (.exit id) e h = some (.exit id, e, h) := (exec_succ C).2 ⟨0, rfl⟩
theorem exec_ret : exec C f .ret e h = some (.ret, e, h) := (exec_succ C).2 ⟨0, rfl⟩

theorem exec_seq (a b : Code) : exec C f (.seq a b) e h = (exec C f a e h).bind fun x => match x.1 with | .nrm => exec C f b x.2.1 x.2.2 | _ => some x := by
  apply ext_some
  intro r
  rw [exec_succ]
  constructor
  · rintro ⟨k, hk⟩
    simp only [execF] at hk
    obtain ⟨⟨out, e1, h1⟩, hx, hr⟩ := Option.bind_eq_some_iff.1 hk
    refine Option.bind_eq_some_iff.2 ⟨_, (exec_iff C).2 ⟨k, hx⟩, ?_⟩
    cases out <;> first | exact (exec_iff C).2 ⟨k, hr⟩ | exact hr
  · intro hk
    obtain ⟨⟨out, e1, h1⟩, hx, hr⟩ := Option.bind_eq_some_iff.1 hk
    obtain ⟨k1, hk1⟩ := (exec_iff C).1 hx
    cases out with
    | nrm =>
      obtain ⟨k2, hk2⟩ := (exec_iff C).1 hr
      refine ⟨max k1 k2, ?_⟩
      simp only [execF]
      exact Option.bind_eq_some_iff.2 ⟨_, execF_le C (Nat.le_max_left _ _) _ _ _ _ _ hk1, execF_le C (Nat.le_max_right _ _) _ _ _ _ _ hk2⟩
    | _ => exact ⟨k1, by simp only [execF]; exact Option.bind_eq_some_iff.2 ⟨_, hk1, hr⟩⟩

theorem exec_cond (c : Operand) (a b : Code) : exec C f (.cond c a b) e h = (evalA C e c).bind fun v => match v with | .bool true => exec C f a e h | .bool false => exec C f b e h | _ => none := by
  apply ext_some
  intro r
  rw [exec_succ]
  simp only [execF]
  cases hv : evalA C e c with
  | none => simp
  | some v =>
    simp only [Option.bind_eq_bind, Option.bind_some]
    constructor
    · rintro ⟨k, hk⟩
      split at hk <;> first | exact (exec_iff C).2 ⟨k, hk⟩ | cases hk
    · intro hk
      split at hk <;> first | exact (exec_iff C).1 hk | cases hk

theorem exec_block (id : Nat) (b : Code) : exec C f (.block id b) e h = (exec C f b e h).bind fun x => match x.1 with | .exit id' => if id' == id then some (.nrm, x.2.1, x.2.2) else some x | _ => some x := by
  apply ext_some
  intro r
  rw [exec_succ]
  constructor
  · rintro ⟨k, hk⟩
    simp only [execF] at hk
    obtain ⟨⟨out, e1, h1⟩, hx, hr⟩ := Option.bind_eq_some_iff.1 hk
    exact Option.bind_eq_some_iff.2 ⟨_, (exec_iff C).2 ⟨k, hx⟩, by cases out <;> exact hr⟩
  · intro hk
    obtain ⟨⟨out, e1, h1⟩, hx, hr⟩ := Option.bind_eq_some_iff.1 hk
    obtain ⟨k, hk⟩ := (exec_iff C).1 hx
    exact ⟨k, by simp only [execF]; exact Option.bind_eq_some_iff.2 ⟨_, hk, by cases out <;> exact hr⟩⟩

theorem exec_loop (b : Code) : exec C f (.loop b) e h = (exec C f b e h).bind fun x => match x.1 with | .nrm => exec C f (.loop b) x.2.1 x.2.2 | _ => some x := by
  apply ext_some
  intro r
  rw [exec_succ]
  constructor
  · rintro ⟨k, hk⟩
    simp only [execF] at hk
    obtain ⟨⟨out, e1, h1⟩, hx, hr⟩ := Option.bind_eq_some_iff.1 hk
    refine Option.bind_eq_some_iff.2 ⟨_, (exec_iff C).2 ⟨k, hx⟩, ?_⟩
    cases out <;> first | exact (exec_iff C).2 ⟨k, hr⟩ | exact hr
  · intro hk
    obtain ⟨⟨out, e1, h1⟩, hx, hr⟩ := Option.bind_eq_some_iff.1 hk
    obtain ⟨k1, hk1⟩ := (exec_iff C).1 hx
    cases out with
    | nrm =>
      obtain ⟨k2, hk2⟩ := (exec_iff C).1 hr
      refine ⟨max k1 k2, ?_⟩
      simp only [execF]
      exact Option.bind_eq_some_iff.2 ⟨_, execF_le C (Nat.le_max_left _ _) _ _ _ _ _ hk1, execF_le C (Nat.le_max_right _ _) _ _ _ _ _ hk2⟩
    | _ => exact ⟨k1, by simp only [execF]; exact Option.bind_eq_some_iff.2 ⟨_, hk1, hr⟩⟩

theorem exec_scope (b : Code) : exec C f (.scope b) e h = exec C f b e h := by
  apply ext_some
  intro r
  rw [exec_succ, exec_iff]
  simp only [execF]

theorem exec_region (id : Nat) (os : Array Oper) (d : Bool) : exec C f (.region id os d) e h = (ops C f os (sched os d) e h).bind fun x => match x.1 with | .nrm => some (.nrm, (match C.live f id with | some l => x.2.1.keep l | none => x.2.1), x.2.2) | _ => if d then none else some x := by
  apply ext_some
  intro r
  rw [exec_succ]
  constructor
  · rintro ⟨k, hk⟩
    simp only [execF] at hk
    obtain ⟨⟨out, e1, h1⟩, hx, hr⟩ := Option.bind_eq_some_iff.1 hk
    exact Option.bind_eq_some_iff.2 ⟨_, (ops_iff C).2 ⟨k, hx⟩, by cases out <;> exact hr⟩
  · intro hk
    obtain ⟨⟨out, e1, h1⟩, hx, hr⟩ := Option.bind_eq_some_iff.1 hk
    obtain ⟨k, hk⟩ := (ops_iff C).1 hx
    exact ⟨k, by simp only [execF]; exact Option.bind_eq_some_iff.2 ⟨_, hk, by cases out <;> exact hr⟩⟩

theorem ops_nil (os : Array Oper) : ops C f os [] e h = some (.nrm, e, h) := (ops_succ C).2 ⟨0, rfl⟩

/-- An operation that calls a function. -/
def callee (o : Oper) : Option (Operand × Array Operand) :=
  match o.op with
  | .call { callee := .value g, args, .. } => some (g, args)
  | _ => none

theorem ops_skip (os : Array Oper) (o : Oper) (r : List Oper) (hw : wantA os e o = some false) : ops C f os (o :: r) e h = ops C f os r (e.putAt o.dst (.tup [])) h := by
  apply ext_some
  intro x
  rw [ops_succ, ops_iff]
  simp only [opsF, hw, Option.bind_eq_bind, Option.bind_some, Bool.false_eq_true, if_false]

theorem ops_op (os : Array Oper) (o : Oper) (r : List Oper) (hw : wantA os e o = some true) (hc : callee o = none) :
    ops C f os (o :: r) e h = (opA C f e h o).bind fun x => if looseAll C f os o.dst e x.2 then ops C f os r (e.putAt o.dst x.1) x.2 else none := by
  have key : ∀ k, opsF C (k + 1) f os (o :: r) e h = (opA C f e h o).bind fun x => if looseAll C f os o.dst e x.2 then opsF C k f os r (e.putAt o.dst x.1) x.2 else none := by
    intro k
    simp only [opsF, hw, Option.bind_eq_bind, Option.bind_some, if_true]
    split
    · rename_i g args _ ho
      simp [callee, ho] at hc
    · rfl
  apply ext_some
  intro x
  rw [ops_succ]
  constructor
  · rintro ⟨k, hk⟩
    rw [key] at hk
    obtain ⟨y, hy, hr⟩ := Option.bind_eq_some_iff.1 hk
    refine Option.bind_eq_some_iff.2 ⟨y, hy, ?_⟩
    split at hr <;> first | cases hr | skip
    rename_i hl
    rw [if_pos hl]
    exact (ops_iff C).2 ⟨k, hr⟩
  · intro hk
    obtain ⟨y, hy, hr⟩ := Option.bind_eq_some_iff.1 hk
    split at hr <;> first | cases hr | skip
    rename_i hl
    obtain ⟨k, hk⟩ := (ops_iff C).1 hr
    exact ⟨k, by rw [key]; exact Option.bind_eq_some_iff.2 ⟨y, hy, by rw [if_pos hl]; exact hk⟩⟩

theorem callv_clo (g : Nat) (caps vs : List AV) : callv C (.clo g caps) vs h = call C g (vs ++ caps) h := by
  apply ext_some
  intro r
  rw [callv_succ, call_iff]
  simp only [callV]

theorem ops_callv (os : Array Oper) (o : Oper) (r : List Oper) (g : Operand) (args : Array Operand) (hw : wantA os e o = some true) (hc : callee o = some (g, args)) :
    ops C f os (o :: r) e h = (mapO (evalA C e) args.toList).bind fun vs => (evalA C e g).bind fun gv =>
      if (o.dst.map (C.quiet f)).getD false && !pureV C gv then none else (callv C gv vs h).bind fun x => match x.1 with
        | .ret v => if looseAll C f os o.dst e x.2 then ops C f os r (e.putAt o.dst v) x.2 else none
        | .pan v => some (.pan v, e, x.2) := by
  obtain ⟨ct, ho⟩ : ∃ ct, o.op = .call { callee := .value g, args, argTypes := ct } := by
    unfold callee at hc
    split at hc
    · rename_i g' args' ct ho
      simp only [Option.some.injEq, Prod.mk.injEq] at hc
      obtain ⟨rfl, rfl⟩ := hc
      exact ⟨ct, ho⟩
    · cases hc
  have key : ∀ k, opsF C (k + 1) f os (o :: r) e h = (mapO (evalA C e) args.toList).bind fun vs => (evalA C e g).bind fun gv =>
      if (o.dst.map (C.quiet f)).getD false && !pureV C gv then none else (callV C k gv vs h).bind fun x => match x.1 with
        | .ret v => if looseAll C f os o.dst e x.2 then opsF C k f os r (e.putAt o.dst v) x.2 else none
        | .pan v => some (.pan v, e, x.2) := by
    intro k
    simp only [opsF, hw, Option.bind_eq_bind, Option.bind_some, if_true, ho] <;> rfl
  apply ext_some
  intro x
  rw [ops_succ]
  simp only [key]
  cases hvs : mapO (evalA C e) args.toList with
  | none => simp
  | some vs =>
    cases hg : evalA C e g with
    | none => simp
    | some gv =>
      simp only [Option.bind_some]
      split
      · simp
      constructor
      · rintro ⟨k, hk⟩
        obtain ⟨⟨res, h1⟩, hy, hr⟩ := Option.bind_eq_some_iff.1 hk
        refine Option.bind_eq_some_iff.2 ⟨_, (callv_iff C).2 ⟨k, hy⟩, ?_⟩
        cases res with
        | pan v => exact hr
        | ret v =>
          dsimp only at hr ⊢
          split at hr <;> first | cases hr | skip
          rename_i hl
          rw [if_pos hl]
          exact (ops_iff C).2 ⟨k, hr⟩
      · intro hk
        obtain ⟨⟨res, h1⟩, hy, hr⟩ := Option.bind_eq_some_iff.1 hk
        obtain ⟨k1, hk1⟩ := (callv_iff C).1 hy
        cases res with
        | ret v =>
          dsimp only at hr
          split at hr <;> first | cases hr | skip
          rename_i hl
          obtain ⟨k2, hk2⟩ := (ops_iff C).1 hr
          exact ⟨max k1 k2, Option.bind_eq_some_iff.2 ⟨_, callV_le C (Nat.le_max_left _ _) _ _ _ _ hk1, by dsimp only; rw [if_pos hl]; exact opsF_le C (Nat.le_max_right _ _) _ _ _ _ _ _ hk2⟩⟩
        | pan v => exact ⟨k1, Option.bind_eq_some_iff.2 ⟨_, hk1, hr⟩⟩

theorem ops_cons (os : Array Oper) (o : Oper) (r : List Oper) : ops C f os (o :: r) e h = (wantA os e o).bind fun w => match w with
    | false => ops C f os r (e.putAt o.dst (.tup [])) h
    | true => match callee o with
      | none => (opA C f e h o).bind fun x => if looseAll C f os o.dst e x.2 then ops C f os r (e.putAt o.dst x.1) x.2 else none
      | some ga => (mapO (evalA C e) ga.2.toList).bind fun vs => (evalA C e ga.1).bind fun gv =>
        if (o.dst.map (C.quiet f)).getD false && !pureV C gv then none else (callv C gv vs h).bind fun x => match x.1 with
          | .ret v => if looseAll C f os o.dst e x.2 then ops C f os r (e.putAt o.dst v) x.2 else none
          | .pan v => some (.pan v, e, x.2) := by
  cases hw : wantA os e o with
  | none =>
    simp only [Option.bind_none]
    apply ext_some
    intro x
    rw [ops_succ]
    simp [opsF, hw]
  | some w =>
    simp only [Option.bind_some]
    cases w with
    | false => exact ops_skip f e h os o r hw
    | true =>
      cases hc : callee o with
      | none => exact ops_op f e h os o r hw hc
      | some ga => exact ops_callv f e h os o r ga.1 ga.2 hw hc

/-- Nothing is loose. -/
class Tight (C : Cfg) : Prop where
  none : ∀ f t, C.loose f t = []
  alone : ∀ f, C.alone f = false

theorem looseAll_tight [T : Tight C] (os : Array Oper) (d : Option Nat) (h : Heap) : looseAll C f os d e h = true := by
  cases d with
  | none => rfl
  | some t => simp only [looseAll, T.none, List.all_nil]

theorem ops_cons' [Tight C] (os : Array Oper) (o : Oper) (r : List Oper) : ops C f os (o :: r) e h = (wantA os e o).bind fun w => match w with
    | false => ops C f os r (e.putAt o.dst (.tup [])) h
    | true => match callee o with
      | none => (opA C f e h o).bind fun x => ops C f os r (e.putAt o.dst x.1) x.2
      | some ga => (mapO (evalA C e) ga.2.toList).bind fun vs => (evalA C e ga.1).bind fun gv =>
        if (o.dst.map (C.quiet f)).getD false && !pureV C gv then none else (callv C gv vs h).bind fun x => match x.1 with
          | .ret v => ops C f os r (e.putAt o.dst v) x.2
          | .pan v => some (.pan v, e, x.2) := by
  rw [ops_cons]
  simp only [looseAll_tight, if_true]

theorem call_fn (args : List AV) (fi : FI) (hp : C.prim f = none) (hf : C.fn f = some fi) (hl : (args.length != fi.params) = false) [T : Tight C] :
    call C f args h = (exec C f fi.body (args.zipIdx.map fun (v, i) => (i, v)) h).bind fun x => match x.1 with
      | .nrm | .ret => (resultsA C x.2.2 x.2.1 fi.results).bind fun vs => leaveA C f h (packA vs) x.2.2
      | .pan v => some (.pan v, x.2.2)
      | .exit _ => none := by
  apply ext_some
  intro r
  rw [call_succ]
  simp only [callF, hp, hf, Option.bind_eq_bind, Option.bind_some, hl, Bool.false_eq_true, if_false, T.alone]
  constructor
  · rintro ⟨k, hk⟩
    obtain ⟨⟨out, e1, h1⟩, hx, hr⟩ := Option.bind_eq_some_iff.1 hk
    exact Option.bind_eq_some_iff.2 ⟨_, (exec_iff C).2 ⟨k, hx⟩, by cases out <;> exact hr⟩
  · intro hk
    obtain ⟨⟨out, e1, h1⟩, hx, hr⟩ := Option.bind_eq_some_iff.1 hk
    obtain ⟨k, hk⟩ := (exec_iff C).1 hx
    exact ⟨k, Option.bind_eq_some_iff.2 ⟨_, hk, by cases out <;> exact hr⟩⟩
theorem call_prim (args : List AV) (p : List AV → Heap → Option (CRes × Heap)) (hp : C.prim f = some p) : call C f args h = p args h := by
  apply ext_some
  intro r
  rw [call_succ]
  simp only [callF, hp]
  exact ⟨fun ⟨_, h⟩ => h, fun h => ⟨0, h⟩⟩
end
end Go.Rv

/-
  What the interpreter's values and heap say of the model's values and world; that later worlds keep it.
-/
set_option linter.unusedSimpArgs false
set_option linter.unusedVariables false
namespace Go.Rv

/-- Which block an object is; which blocks are never written. -/
structure Sim where
  μ : Nat → Option Nat
  I : Nat → Prop
  /-- Which code a round may have (of whose function, with how many slots). -/
  good : Nat → Nat → List Nat → Code → Code → Prop

def genOf (h : Heap) (o : Nat) : Option Nat :=
  match h[o]? with
  | some (.cells _ g) => some g
  | some (.map _) => some 0
  | some (.loop _) => some 0
  | none => none

def lenOf (h : Heap) (o : Nat) : Nat :=
  match h[o]? with
  | some (.cells cs _) => cs.length
  | _ => 0

def isMap (h : Heap) (o : Nat) : Bool :=
  match h[o]? with
  | some (.map _) => true
  | _ => false

def isLoop (h : Heap) (o : Nat) : Bool :=
  match h[o]? with
  | some (.loop _) => true
  | _ => false

def Room.ok (r : Room) (c : Nat) : Prop :=
  match r with
  | .nil => False
  | .exact n => c = n
  | .open => True

inductive VR (s : Sim) (h : Heap) (w : World) : AV → Value → Prop
  | bool (b : Bool) : VR s h w (.bool b) (.bool b)
  | int (k : IntKind) (n : Int) : VR s h w (.int k n) (.int k n)
  | str (l : List UInt8) : VR s h w (.str l) (.string ⟨l.toArray⟩)
  | nilPtr : VR s h w .nilPtr (.pointer none)
  | nilMap : VR s h w .nilMap (.map none)
  | nilFunc : VR s h w .nilFunc .nilFunc
  | nilIface : VR s h w .nilIface .nilIface
  | junk (v : Value) : VR s h w .junk v
  | ptr (o off g b : Nat) : genOf h o = some g → s.μ o = some b → VR s h w (.ptr o off g) (.pointer (some ⟨b, off, none⟩))
  | ptrOld (o off g g' : Nat) (a : Option Addr) : genOf h o = some g' → g < g' → VR s h w (.ptr o off g) (.pointer a)
  | ref (cs : List AV) (b off : Nat) (f : Nat → Value) : (0 < cs.length → s.I b) → (∀ (i : Nat) c, cs[i]? = some c → w.cell? ⟨b, off + i, none⟩ = some (f i)) → (∀ (i : Nat) c, cs[i]? = some c → VR s h w c (f i)) → VR s h w (.ref cs) (.pointer (some ⟨b, off, none⟩))
  | lstNil (z : Nat) : VR s h w (.lst [] z .nil) (.slice none 0 0)
  | lstEmpty (z : Nat) (A : Addr) : VR s h w (.lst [] z (.exact 0)) (.slice (some A) 0 0)
  | lst (xs : List AV) (z : Nat) (r : Room) (b off c : Nat) (f : Nat → Nat → Value) : (0 < xs.length → s.I b) → r.ok c → xs.length ≤ c → (∀ (i : Nat) x, xs[i]? = some x → x.cells.length = z) →
      (∀ (i j : Nat) x y, xs[i]? = some x → x.cells[j]? = some y → w.cell? ⟨b, off + i * z + j, none⟩ = some (f i j)) →
      (∀ (i j : Nat) x y, xs[i]? = some x → x.cells[j]? = some y → VR s h w y (f i j)) →
      VR s h w (.lst xs z r) (.slice (some ⟨b, off, none⟩) xs.length c)
  | msl (o off len z g : Nat) (cap : Option Nat) (b c el n off' : Nat) : (off' = off ∨ c = 0) → genOf h o = some g → s.μ o = some b → len ≤ c → (∀ m, cap = some m → c = m) →
      (cap = none → lenOf h o ≤ off + c * z) → w.shape? b = some (el, n) → off + c * z ≤ n →
      VR s h w (.msl o off len z g cap) (.slice (some ⟨b, off', none⟩) len c)
  | mslOld (o off len z g : Nat) (cap : Option Nat) (g' : Nat) (a : Option Addr) (n c : Nat) : genOf h o = some g' → g < g' → VR s h w (.msl o off len z g cap) (.slice a n c)
  | clo (f : Nat) (cs : List AV) (vs : Array Value) : cs.length = vs.size → (∀ (i : Nat) c, cs[i]? = some c → VR s h w c (vs.getD i undef)) → VR s h w (.clo f cs) (.func (.func f) #[] vs)
  | map (o b : Nat) : isMap h o = true → s.μ o = some b → VR s h w (.map o) (.map (some b))
  | yld (o b : Nat) : isLoop h o = true → s.μ o = some b → VR s h w (.yld o) (.func (.yield b) #[] #[])
  | iface (t : Nat) (x : AV) (v : Value) : VR s h w x v → VR s h w (.iface t x) (.iface t v)
  | agg (cs : List AV) (vs : Array Value) : cs.length = vs.size → (∀ (i : Nat) c, cs[i]? = some c → VR s h w c (vs.getD i undef)) → VR s h w (.agg cs) (.agg vs)
  | tup (cs : List AV) (vs : Array Value) : cs.length = vs.size → (∀ (i : Nat) c, cs[i]? = some c → VR s h w c (vs.getD i undef)) → VR s h w (.tup cs) (.tuple vs)

/-- Lists, part by part. -/
def VRs (s : Sim) (h : Heap) (w : World) (cs : List AV) (vs : List Value) : Prop :=
  cs.length = vs.length ∧ ∀ (i : Nat) c, cs[i]? = some c → ∃ v, vs[i]? = some v ∧ VR s h w c v

def ORel (s : Sim) (h : Heap) (w : World) (b : Nat) : AObj → Prop
  | .cells cs _ => ∃ bc el, w.heap[b]? = some (.cells bc el (0, 0)) ∧ cs.length ≤ bc.size ∧ ∀ (i : Nat) c, cs[i]? = some c → ∃ v, bc[i]? = some v ∧ VR s h w c v
  | .map es => ∃ en cl, w.heap[b]? = some (.map en cl) ∧ es.length = en.size ∧ MapKept.Stamped en cl ∧ ∀ (i : Nat) e, es[i]? = some e → ∃ m, en[i]? = some m ∧ VR s h w e.1 m.key ∧ VR s h w e.2 m.val
  | .loop r => ∃ rec, w.heap[b]? = some (.loop rec) ∧ (rec.state = r.st ∧ rec.pending = r.pend ∧ rec.params.toList = r.ps ∧ rec.assign = r.assign ∧ rec.body = r.body) ∧
    (∀ t, VR s h w (r.env.get t) (rec.tmps.getD t undef)) ∧ s.good r.f rec.tmps.size r.ps r.assign r.body

structure Rel (s : Sim) (h : Heap) (w : World) : Prop where
  inj : ∀ o o' b, s.μ o = some b → s.μ o' = some b → o = o'
  obj : ∀ o b, s.μ o = some b → ∃ x, h[o]? = some x ∧ ORel s h w b x
  apart : ∀ o b, s.μ o = some b → ¬ s.I b
  imm : ∀ b, s.I b → b < w.heap.size

structure Ext0 (s : Sim) (h : Heap) (w : World) (s' : Sim) (h' : Heap) (w' : World) : Prop where
  size : w.heap.size ≤ w'.heap.size
  far : ∀ b, b < w.heap.size → (∀ o, s.μ o ≠ some b) → w'.heap[b]? = w.heap[b]?
  shape : ∀ b x, w.shape? b = some x → w'.shape? b = some x
  imm : ∀ b, s.I b → s'.I b
  gen : ∀ o g, genOf h o = some g → ∃ g', genOf h' o = some g' ∧ g ≤ g'
  same : ∀ o g, genOf h o = some g → genOf h' o = some g → (∀ b, s.μ o = some b → s'.μ o = some b) ∧ lenOf h' o = lenOf h o
  kind : ∀ o, isMap h o = true → isMap h' o = true
  own : ∀ o b, s'.μ o = some b → (∃ o', s.μ o' = some b) ∨ w.heap.size ≤ b
  os : w'.os = w.os
  tape : w'.tape = w.tape
  output : w'.output = w.output
  kindL : ∀ o, isLoop h o = true → isLoop h' o = true
  good : s'.good = s.good

structure Ext (s : Sim) (h : Heap) (w : World) (s' : Sim) (h' : Heap) (w' : World) : Prop extends Ext0 s h w s' h' w' where
  /-- Objects that were there get no block anew. -/
  old : ∀ o b, o < h.length → s'.μ o = some b → ∃ b0, s.μ o = some b0
  /-- Objects that have no block stay as they are. -/
  kept : ∀ o, o < h.length → s.μ o = none → h'[o]? = h[o]?

theorem Rel.lt {s : Sim} {h : Heap} {w : World} (R : Rel s h w) {o b : Nat} (hb : s.μ o = some b) : b < w.heap.size := by
  obtain ⟨x, _, ho⟩ := R.obj o b hb
  cases x with
  | cells cs g => obtain ⟨bc, el, h1, _⟩ := ho; exact (Array.getElem?_eq_some_iff.1 h1).1
  | map es => obtain ⟨bc, el, h1, _⟩ := ho; exact (Array.getElem?_eq_some_iff.1 h1).1
  | loop r => obtain ⟨rec, h1, _⟩ := ho; exact (Array.getElem?_eq_some_iff.1 h1).1

theorem Ext.refl (s : Sim) (h : Heap) (w : World) : Ext s h w s h w :=
  ⟨⟨Nat.le_refl _, fun _ _ _ => rfl, fun _ _ h => h, fun _ h => h, fun _ g hg => ⟨g, hg, Nat.le_refl _⟩, fun _ _ _ _ => ⟨fun _ h => h, rfl⟩, fun _ h => h, fun o b hb => .inl ⟨o, hb⟩, rfl, rfl, rfl, fun _ h => h, rfl⟩, fun o b _ hb => ⟨b, hb⟩, fun _ _ _ => rfl⟩

theorem Ext0.trans {s s1 s2 : Sim} {h h1 h2 : Heap} {w w1 w2 : World} (E : Ext0 s h w s1 h1 w1) (F : Ext0 s1 h1 w1 s2 h2 w2) : Ext0 s h w s2 h2 w2 where
  size := Nat.le_trans E.size F.size
  far := fun b hb hn => by
    rw [F.far b (Nat.lt_of_lt_of_le hb E.size) (fun o ho => ?_), E.far b hb hn]
    rcases E.own o b ho with ⟨o', ho'⟩ | hle
    · exact hn o' ho'
    · omega
  shape := fun b x hx => F.shape b x (E.shape b x hx)
  imm := fun b hb => F.imm b (E.imm b hb)
  gen := fun o g hg => by
    obtain ⟨g1, hg1, h1⟩ := E.gen o g hg
    obtain ⟨g2, hg2, h2⟩ := F.gen o g1 hg1
    exact ⟨g2, hg2, Nat.le_trans h1 h2⟩
  same := fun o g hg hg2 => by
    obtain ⟨g1, hg1, hle1⟩ := E.gen o g hg
    obtain ⟨g2, hg2', hle2⟩ := F.gen o g1 hg1
    rw [hg2] at hg2'
    injection hg2' with e
    have : g1 = g := by omega
    subst this
    obtain ⟨a1, a2⟩ := E.same o g1 hg hg1
    obtain ⟨b1, b2⟩ := F.same o g1 hg1 hg2
    exact ⟨fun b hb => b1 b (a1 b hb), b2.trans a2⟩
  kind := fun o ho => F.kind o (E.kind o ho)
  own := fun o b hb => by
    rcases F.own o b hb with ⟨o', ho'⟩ | hle
    · exact E.own o' b ho'
    · exact .inr (Nat.le_trans E.size hle)
  os := F.os.trans E.os
  tape := F.tape.trans E.tape
  output := F.output.trans E.output
  kindL := fun o ho => F.kindL o (E.kindL o ho)
  good := F.good.trans E.good

theorem genOf_at {h : Heap} {o : Nat} (ho : o < h.length) : ∃ g, genOf h o = some g := by
  unfold genOf
  rw [List.getElem?_eq_getElem ho]
  cases h[o] <;> exact ⟨_, rfl⟩
theorem genOf_lt' {h : Heap} {o g : Nat} (hg : genOf h o = some g) : o < h.length := by
  unfold genOf at hg
  rcases Nat.lt_or_ge o h.length with h1 | h1
  · exact h1
  · rw [List.getElem?_eq_none h1] at hg; cases hg
theorem Ext0.len {s s' : Sim} {h h' : Heap} {w w' : World} (E : Ext0 s h w s' h' w') {o : Nat} (ho : o < h.length) : o < h'.length := by
  obtain ⟨g, hg⟩ := genOf_at ho
  obtain ⟨g', hg', _⟩ := E.gen o g hg
  exact genOf_lt' hg'
theorem Ext.trans {s s1 s2 : Sim} {h h1 h2 : Heap} {w w1 w2 : World} (E : Ext s h w s1 h1 w1) (F : Ext s1 h1 w1 s2 h2 w2) : Ext s h w s2 h2 w2 where
  toExt0 := E.toExt0.trans F.toExt0
  old := fun o b ho hb => by
    obtain ⟨b1, hb1⟩ := F.old o b (E.toExt0.len ho) hb
    exact E.old o b1 ho hb1
  kept := fun o ho hn => by
    have h1 : s1.μ o = none := by
      cases hx : s1.μ o with
      | none => rfl
      | some b =>
        obtain ⟨b0, hb0⟩ := E.old o b ho hx
        rw [hn] at hb0; cases hb0
    rw [F.kept o (E.toExt0.len ho) h1, E.kept o ho hn]

theorem cell_block {w : World} {b off : Nat} {v : Value} (h : w.cell? ⟨b, off, none⟩ = some v) : b < w.heap.size := by
  unfold World.cell? at h
  split at h
  · rename_i c el fz hb
    exact (Array.getElem?_eq_some_iff.1 hb).1
  · cases h

theorem cell_same {w w' : World} {b off : Nat} (h : w'.heap[b]? = w.heap[b]?) : w'.cell? ⟨b, off, none⟩ = w.cell? ⟨b, off, none⟩ := by
  unfold World.cell?
  rw [h]

theorem genOf_map {h : Heap} {o : Nat} (hm : isMap h o = true) : genOf h o = some 0 := by
  unfold isMap at hm
  unfold genOf
  split at hm
  · rename_i es he; rw [he]
  · cases hm

theorem genOf_loop {h : Heap} {o : Nat} (hm : isLoop h o = true) : genOf h o = some 0 := by
  unfold isLoop at hm
  unfold genOf
  split at hm
  · rename_i es he; rw [he]
  · cases hm

/-- What was said of a value is kept. -/
theorem VR.ext0 {s s' : Sim} {h h' : Heap} {w w' : World} (hd : ∀ o b, s.μ o = some b → ¬ s.I b) (E : Ext0 s h w s' h' w') {x : AV} {v : Value} (H : VR s h w x v) : VR s' h' w' x v := by
  induction H with
  | bool b => exact .bool b
  | int k n => exact .int k n
  | str l => exact .str l
  | nilPtr => exact .nilPtr
  | nilMap => exact .nilMap
  | nilFunc => exact .nilFunc
  | nilIface => exact .nilIface
  | junk v => exact .junk v
  | ptr o off g b hg hb =>
    obtain ⟨g', hg', hle⟩ := E.gen o g hg
    by_cases e : g = g'
    · subst e; exact .ptr o off g b hg' ((E.same o g hg hg').1 b hb)
    · exact .ptrOld o off g g' _ hg' (by omega)
  | ptrOld o off g g1 a hg hlt =>
    obtain ⟨g', hg', hle⟩ := E.gen o g1 hg
    exact .ptrOld o off g g' a hg' (by omega)
  | ref cs b off f hI hc _ ih =>
    refine .ref cs b off f (fun h0 => E.imm b (hI h0)) (fun i c hi => ?_) ih
    have hIb : s.I b := hI (by have := (List.getElem?_eq_some_iff.1 hi).1; omega)
    have hv := hc i c hi
    rw [cell_same (E.far b (cell_block hv) (fun o ho => hd o b ho hIb))]
    exact hv
  | lstNil z => exact .lstNil z
  | lstEmpty z A => exact .lstEmpty z A
  | lst xs z r b off c f hI hr hle hz hc _ ih =>
    refine .lst xs z r b off c f (fun h0 => E.imm b (hI h0)) hr hle hz (fun i j x y hi hj => ?_) ih
    have hIb : s.I b := hI (by have := (List.getElem?_eq_some_iff.1 hi).1; omega)
    have hv := hc i j x y hi hj
    rw [cell_same (E.far b (cell_block hv) (fun o ho => hd o b ho hIb))]
    exact hv
  | msl o off len z g cap b c el n off' hoff hg hb hle hcap hnone hsh hn =>
    obtain ⟨g', hg', hle'⟩ := E.gen o g hg
    by_cases e : g = g'
    · subst e
      obtain ⟨e1, e2⟩ := E.same o g hg hg'
      exact .msl o off len z g cap b c el n off' hoff hg' (e1 b hb) hle hcap (fun hc => by rw [e2]; exact hnone hc) (E.shape b _ hsh) hn
    · exact .mslOld o off len z g cap g' _ _ _ hg' (by omega)
  | mslOld o off len z g cap g1 a n c hg hlt =>
    obtain ⟨g', hg', hle⟩ := E.gen o g1 hg
    exact .mslOld o off len z g cap g' a n c hg' (by omega)
  | clo f cs vs hl _ ih => exact .clo f cs vs hl ih
  | map o b hg hb =>
    have hk := E.kind o hg
    exact .map o b hk ((E.same o 0 (genOf_map hg) (genOf_map hk)).1 b hb)
  | yld o b hg hb =>
    have hk := E.kindL o hg
    exact .yld o b hk ((E.same o 0 (genOf_loop hg) (genOf_loop hk)).1 b hb)
  | iface t x v hx ih => exact .iface t x v ih
  | agg cs vs hl _ ih => exact .agg cs vs hl ih
  | tup cs vs hl _ ih => exact .tup cs vs hl ih

theorem VR.ext {s s' : Sim} {h h' : Heap} {w w' : World} (hd : ∀ o b, s.μ o = some b → ¬ s.I b) (E : Ext s h w s' h' w') {x : AV} {v : Value} (H : VR s h w x v) : VR s' h' w' x v := H.ext0 hd E.toExt0

theorem VRs.ext {s s' : Sim} {h h' : Heap} {w w' : World} (hd : ∀ o b, s.μ o = some b → ¬ s.I b) (E : Ext s h w s' h' w') {cs : List AV} {vs : List Value} (H : VRs s h w cs vs) : VRs s' h' w' cs vs :=
  ⟨H.1, fun i c hi => by obtain ⟨v, hv, hr⟩ := H.2 i c hi; exact ⟨v, hv, hr.ext hd E⟩⟩

/-- The slots of a frame. -/
def EnvRel (s : Sim) (h : Heap) (w : World) (e : Env) (tmps : Array Value) : Prop := ∀ t, VR s h w (e.get t) (tmps.getD t undef)

theorem EnvRel.ext {s s' : Sim} {h h' : Heap} {w w' : World} (hd : ∀ o b, s.μ o = some b → ¬ s.I b) (E : Ext s h w s' h' w') {e : Env} {tmps : Array Value} (H : EnvRel s h w e tmps) : EnvRel s' h' w' e tmps := fun t => (H t).ext hd E

theorem Env.get_put (e : Env) (t u : Nat) (v : AV) : (e.put t v).get u = if t = u then v else e.get u := by
  rw [Env.put_eq, Env.get_cons]
  by_cases hk : t = u <;> simp [hk]

theorem EnvRel.put {s : Sim} {h : Heap} {w : World} {e : Env} {a : Act} (H : EnvRel s h w e a.tmps) (d : Option Nat) (hd : ∀ t, d = some t → t < a.tmps.size) {v : AV} {u : Value} (hv : VR s h w v u) : EnvRel s h w (e.putAt d v) (a.put d u).tmps := by
  cases d with
  | none => exact H
  | some t =>
    intro k
    simp only [Env.putAt, Act.put, Env.get_put]
    have hlt := hd t rfl
    by_cases hk : t = k
    · subst hk; simp [hlt, hv]
    · simp only [hk, if_false]
      have := H k
      simpa [Array.getElem?_setIfInBounds_ne hk] using this

theorem Env.get_keep (e : Env) (l : List Nat) (t : Nat) : (e.keep l).get t = e.get t ∨ (e.keep l).get t = .junk := by
  induction l with
  | nil => exact .inr rfl
  | cons k r ih =>
    simp only [Env.keep, Env.get_nil, Env.get_cons]
    by_cases hk : k = t
    · subst hk; simp
    · have : (k == t) = false := by simp [hk]
      simpa [this] using ih

theorem EnvRel.keep {s : Sim} {h : Heap} {w : World} {e : Env} {tmps : Array Value} (H : EnvRel s h w e tmps) (l : List Nat) : EnvRel s h w (e.keep l) tmps := fun t => by
  rcases Env.get_keep e l t with h1 | h1
  · rw [h1]; exact H t
  · rw [h1]; exact .junk _
end Go.Rv

/-
  Types as the interpreter has them; operands; memory read and written.
-/
set_option linter.unusedSimpArgs false
set_option linter.unusedVariables false
namespace Go.Rv

def TD.ok : TypeDesc → TD → Prop
  | .bool, .bool => True
  | .int k, .int k' => k = k'
  | .string, .str => True
  | .pointer _, .ptr => True
  | .func .., .func => True
  | .interface _, .iface => True
  | .slice e, .slice e' => e = e'
  | .array n e, .array n' e' => n = n' ∧ e = e'
  | .map k e, .map k' e' => k = k' ∧ e = e'
  | .struct fs, .struct l => fs.toList.map (fun f => (f.type, f.offset)) = l
  | _, _ => False

def wholeB (agg : Bool) (z : Value) : Bool := match z with
  | .agg _ => agg
  | _ => !agg

structure TyOk (P : Program) (t : Nat) (ti : TI) : Prop where
  info : ∃ i z, P.info? t = some i ∧ i.size = ti.size ∧ i.bytes = ti.bytes ∧ i.zero = some z ∧ z.cells.size = ti.zero.length ∧ ∀ (j : Nat) c, ti.zero[j]? = some c → ofValue (z.cells.getD j undef) = some c
  und : ∃ d, P.underlying t = some d ∧ TD.ok d ti.td
  small : ti.bytes ≤ 4096
  zsize : ti.zero.length = ti.size
  fields : ∀ fs, P.underlying t = some (.struct fs) → ∀ f ∈ fs, ∃ i, P.info? f.type = some i
  whole : ∀ i z, P.info? t = some i → i.zero = some z → wholeB ti.td.isAgg z = true

section
variable {P : Program} {C : Cfg} {s : Sim} {h : Heap} {w : World}

theorem run_sizeA {t : Nat} {ti : TI} (T : TyOk P t ti) (w : World) : (sizeOf t).run P w = .ok ti.size w := by
  obtain ⟨i, z, h1, h2, _⟩ := T.info
  simp [sizeOf, typeInfo, h1, h2]

theorem run_und {t : Nat} {d : TypeDesc} (h : P.underlying t = some d) (w : World) : (underlying t).run P w = .ok d w := by
  simp [underlying, h]

theorem run_isAggA {t : Nat} {ti : TI} (T : TyOk P t ti) (w : World) : (isAgg t).run P w = .ok ti.td.isAgg w := by
  obtain ⟨d, h1, h2⟩ := T.und
  simp only [isAgg, Sem.run_bind, run_und h1, Result.andThen_ok]
  generalize ti.td = td at h2 ⊢
  cases d <;> cases td <;> first | rfl | exact False.elim h2

theorem run_zeroA {t : Nat} {ti : TI} (T : TyOk P t ti) : ∃ z, (∀ w, (zeroValue t).run P w = .ok z w) ∧ z.cells.size = ti.zero.length ∧ ∀ (j : Nat) c, ti.zero[j]? = some c → ofValue (z.cells.getD j undef) = some c := by
  obtain ⟨i, z, h1, _, _, h4, h5, h6⟩ := T.info
  exact ⟨z, fun w => by simp [zeroValue, typeInfo, h1, h4], h5, h6⟩


theorem ofValue_rel {v : Value} {x : AV} (hv : ofValue v = some x) : VR s h w x v := by
  unfold ofValue at hv
  split at hv
  · injection hv with hv; subst hv; exact .bool _
  · injection hv with hv; subst hv; exact .int _ _
  · injection hv with hv; subst hv
    rename_i b
    have := VR.str (s := s) (h := h) (w := w) b.data.toList
    simpa using this
  · injection hv with hv; subst hv; exact .nilPtr
  · injection hv with hv; subst hv; exact .lstNil _
  · injection hv with hv; subst hv; exact .nilMap
  · injection hv with hv; subst hv; exact .nilFunc
  · injection hv with hv; subst hv; exact .nilIface
  · rename_i vs
    split at hv
    · rename_i he
      injection hv with hv; subst hv
      have : vs = #[] := by simpa using he
      subst this
      exact .tup [] #[] rfl fun i c hi => by simp at hi
    · cases hv
  · cases hv

/-- What the globals that are never written hold. -/
def Glob (C : Cfg) (s : Sim) (h : Heap) (w : World) : Prop := ∀ g v, C.glob g = some v → VR s h w v (.pointer (some ⟨g, 0, none⟩))

theorem Glob.ext {s' : Sim} {h' : Heap} {w' : World} (hd : ∀ o b, s.μ o = some b → ¬ s.I b) (E : Ext s h w s' h' w') (G : Glob C s h w) : Glob C s' h' w' := fun g v hg => (G g v hg).ext hd E

theorem evalA_rel {e : Env} {a : Act} (G : Glob C s h w) (H : EnvRel s h w e a.tmps) {x : Operand} {v : AV} (hv : evalA C e x = some v) : VR s h w v (a.eval x) := by
  cases x with
  | tmp t =>
    have := H t
    simp only [evalA] at hv
    split at hv
    · cases hv
    · injection hv with hv; subst hv; exact this
  | const c => exact ofValue_rel hv
  | global g => exact G g v hv
  | func f =>
    simp only [evalA, Option.some.injEq] at hv
    subst hv
    exact .clo f [] #[] rfl fun i c hi => by simp at hi


theorem addr_add (b off j : Nat) : (⟨b, off, none⟩ : Addr).add j = ⟨b, off + j, none⟩ := by
  unfold Addr.add; split <;> simp_all

theorem genOf_obj {o g : Nat} {cs : List AV} (ho : h.obj o g = some cs) : genOf h o = some g ∧ h[o]? = some (.cells cs g) ∧ lenOf h o = cs.length := by
  unfold Heap.obj at ho
  split at ho
  · rename_i cs' g' he
    split at ho
    · rename_i hg
      have : g' = g := by simpa using hg
      subst this
      injection ho with ho; subst ho
      exact ⟨by simp [genOf, he], he, by simp [lenOf, he]⟩
    · cases ho
  · cases ho

theorem genOf_live {o g : Nat} (ho : h.live o g = true) : genOf h o = some g := by
  unfold Heap.live at ho
  obtain ⟨cs, hcs⟩ := Option.isSome_iff_exists.1 ho
  exact (genOf_obj hcs).1

/-- Cells that lie from an address on. -/
def Reads (s : Sim) (h : Heap) (w : World) (b off : Nat) (cs : List AV) : Prop := ∀ (i : Nat) c, cs[i]? = some c → ∃ v, w.cell? ⟨b, off + i, none⟩ = some v ∧ VR s h w c v

theorem Reads.drop {b off : Nat} {cs : List AV} (H : Reads s h w b off cs) (n : Nat) : Reads s h w b (off + n) (cs.drop n) := fun i c hi => by
  have := H (n + i) c (by simpa using hi)
  rw [← Nat.add_assoc] at this
  exact this
theorem Reads.take {b off : Nat} {cs : List AV} (H : Reads s h w b off cs) (n : Nat) : Reads s h w b off (cs.take n) := fun i c hi => H i c (by
  rw [List.getElem?_take] at hi
  split at hi
  · exact hi
  · cases hi)

theorem obj_reads (R : Rel s h w) {o g b : Nat} {cs : List AV} (ho : h.obj o g = some cs) (hb : s.μ o = some b) : Reads s h w b 0 cs := by
  obtain ⟨x, hx, hr⟩ := R.obj o b hb
  rw [(genOf_obj ho).2.1] at hx
  injection hx with hx; subst hx
  obtain ⟨bc, el, h1, h2, h3⟩ := hr
  intro i c hi
  obtain ⟨v, hv, hvr⟩ := h3 i c hi
  exact ⟨v, by simp [World.cell?, h1, hv], hvr⟩

theorem cellsAt_reads (R : Rel s h w) {a : AV} {u : Value} {cs : List AV} (hv : VR s h w a u) (hc : cellsAt h a = some cs) : ∃ b off, u = .pointer (some ⟨b, off, none⟩) ∧ Reads s h w b off cs := by
  cases hv with
  | ref cs' b off f hI hcell hr =>
    simp only [cellsAt, Option.some.injEq] at hc
    subst hc
    exact ⟨b, off, rfl, fun i c hi => ⟨f i, hcell i c hi, hr i c hi⟩⟩
  | ptr o off g b hg hb =>
    simp only [cellsAt, Option.map_eq_some_iff] at hc
    obtain ⟨cs', ho, rfl⟩ := hc
    exact ⟨b, off, rfl, by simpa using (obj_reads R ho hb).drop off⟩
  | ptrOld o off g g' a hg hlt =>
    simp only [cellsAt, Option.map_eq_some_iff] at hc
    obtain ⟨cs', ho, _⟩ := hc
    have := (genOf_obj ho).1
    rw [hg] at this
    injection this
    omega
  | _ => simp [cellsAt] at hc

/-- The concrete cells behind abstract ones. -/
theorem reads_list {b off : Nat} {cs : List AV} (H : Reads s h w b off cs) : ∃ vs : List Value, vs.length = cs.length ∧ (∀ j v, vs[j]? = some v → w.cell? ⟨b, off + j, none⟩ = some v) ∧ ∀ (i : Nat) c, cs[i]? = some c → VR s h w c (vs.getD i undef) := by
  refine ⟨(List.range cs.length).map fun i => (w.cell? ⟨b, off + i, none⟩).getD undef, by simp, ?_, ?_⟩
  · intro j v hj
    obtain ⟨hlt, he⟩ := List.getElem?_eq_some_iff.1 hj
    have hlt' : j < cs.length := by simpa using hlt
    obtain ⟨u, hu, _⟩ := H j cs[j] (List.getElem?_eq_getElem hlt')
    simp [hu] at he
    rw [hu, he]
  · intro i c hi
    have hlt := (List.getElem?_eq_some_iff.1 hi).1
    obtain ⟨u, hu, hr⟩ := H i c hi
    simp [hlt, hu, hr]

theorem load_rel (R : Rel s h w) {t : Nat} {ti : TI} (T : TyOk P t ti) {a v : AV} {u : Value} {cs : List AV} (hv : VR s h w a u) (hc : cellsAt h a = some cs) (hp : part ti cs = some v) :
    ∃ x, (Instr.loadAt t u).run P w = .ok x w ∧ VR s h w v x := by
  obtain ⟨b, off, rfl, H⟩ := cellsAt_reads R hv hc
  unfold part at hp
  simp only [Instr.loadAt, Instr.sureAddr, Sem.run_bind, Sem.run_pure, Result.andThen_ok, loadVar, run_isAggA T]
  split at hp
  · rename_i hagg
    split at hp
    · rename_i hlen
      injection hp with hp; subst hp
      obtain ⟨vs, hl, hcell, hr⟩ := reads_list (H.take ti.size)
      have hl' : vs.length = ti.size := by rw [hl]; simp; omega
      have hrun := run_loadCells_list (P := P) (w := w) ⟨b, off, none⟩ vs (fun j v hj => by rw [addr_add]; exact hcell j v hj)
      simp only [hagg, if_true, Sem.run_bind, run_sizeA T, Result.andThen_ok]
      rw [← hl', hrun]
      refine ⟨.agg vs.toArray, rfl, ?_⟩
      rw [hl']
      refine .agg _ _ (by simp; omega) fun i c hi => ?_
      have := hr i c hi
      simpa using this
    · cases hp
  · rename_i hagg
    have hagg' : ti.td.isAgg = false := by simpa using hagg
    have h0 : cs[0]? = some v := by rw [← List.head?_eq_getElem?]; exact hp
    obtain ⟨u, hu, hr⟩ := H 0 v h0
    simp only [hagg', Bool.false_eq_true, if_false, run_load]
    rw [show (off + 0 = off) from rfl] at hu
    rw [hu]
    exact ⟨u, rfl, hr⟩


theorem leaf_one {x : AV} {v : Value} (hx : x.leaf = true) (hv : VR s h w x v) : v.oneCell' = true := by
  cases hv <;> first | rfl | (simp [AV.leaf] at hx)

theorem setCells_length {α : Type} (cs : List α) : ∀ (vs : List α) (off : Nat), (setCells cs off vs).length = cs.length := by
  intro vs
  induction vs generalizing cs with
  | nil => intro off; rfl
  | cons v r ih => intro off; simp [setCells, ih]

theorem setCells_get {α : Type} (vs : List α) : ∀ (cs : List α) (off i : Nat), off + vs.length ≤ cs.length →
    (setCells cs off vs)[i]? = if off ≤ i ∧ i < off + vs.length then vs[i - off]? else cs[i]? := by
  induction vs with
  | nil => intro cs off i _; simp [setCells]; intro h1 h2; omega
  | cons v r ih =>
    intro cs off i hl
    simp only [setCells]
    rw [ih (cs.set off v) (off + 1) i (by simp at hl ⊢; omega)]
    simp only [List.length_cons] at hl ⊢
    by_cases h1 : off + 1 ≤ i ∧ i < off + 1 + r.length
    · rw [if_pos h1, if_pos (by omega)]
      rw [show i - off = (i - (off + 1)) + 1 from by omega]
      simp
    · rw [if_neg h1]
      by_cases h2 : i = off
      · subst h2
        rw [if_pos (by omega)]
        simp [show i < cs.length from by omega]
      · rw [if_neg (by omega)]
        rw [List.getElem?_set_ne (Ne.symm h2)]

theorem agg_cells {x : AV} {v : Value} (hv : VR s h w x v) (hj : x ≠ .junk) : VRs s h w x.cells v.cells.toList := by
  have one : ∀ {x : AV} {v : Value}, VR s h w x v → x.cells = [x] → v.cells = #[v] → VRs s h w x.cells v.cells.toList := by
    intro x v hv h1 h2
    rw [h1, h2]
    refine ⟨rfl, fun i c hi => ?_⟩
    cases i with
    | zero => simp at hi; subst hi; exact ⟨v, rfl, hv⟩
    | succ i => simp at hi
  cases hv with
  | agg cs vs hl hr =>
    refine ⟨by simpa [AV.cells, Value.cells] using hl, fun i c hi => ?_⟩
    have hlt : i < vs.size := by rw [← hl]; exact (List.getElem?_eq_some_iff.1 hi).1
    refine ⟨vs[i], by simp [Value.cells, hlt], ?_⟩
    have := hr i c hi
    simpa [hlt] using this
  | junk => exact absurd rfl hj
  | bool b => exact one (.bool b) rfl rfl
  | int k n => exact one (.int k n) rfl rfl
  | str l => exact one (.str l) rfl rfl
  | nilPtr => exact one .nilPtr rfl rfl
  | nilMap => exact one .nilMap rfl rfl
  | nilFunc => exact one .nilFunc rfl rfl
  | nilIface => exact one .nilIface rfl rfl
  | ptr o off g b h1 h2 => exact one (.ptr o off g b h1 h2) rfl rfl
  | ptrOld o off g g' a h1 h2 => exact one (.ptrOld o off g g' a h1 h2) rfl rfl
  | ref cs b off f h1 h2 h3 => exact one (.ref cs b off f h1 h2 h3) rfl rfl
  | lstNil z => exact one (.lstNil z) rfl rfl
  | lstEmpty z A => exact one (.lstEmpty z A) rfl rfl
  | lst xs z r b off c f h1 h2 h3 h4 h5 h6 => exact one (.lst xs z r b off c f h1 h2 h3 h4 h5 h6) rfl rfl
  | msl o off len z g cap b c el n off' h0 h1 h2 h3 h4 h5 h6 h7 => exact one (.msl o off len z g cap b c el n off' h0 h1 h2 h3 h4 h5 h6 h7) rfl rfl
  | mslOld o off len z g cap g' a n c h1 h2 => exact one (.mslOld o off len z g cap g' a n c h1 h2) rfl rfl
  | clo f cs vs h1 h2 => exact one (.clo f cs vs h1 h2) rfl rfl
  | map o b h1 h2 => exact one (.map o b h1 h2) rfl rfl
  | yld o b h1 h2 => exact one (.yld o b h1 h2) rfl rfl
  | iface t x v h1 => exact one (.iface t x v h1) rfl rfl
  | tup cs vs h1 h2 => exact one (.tup cs vs h1 h2) rfl rfl
end
end Go.Rv

/-
  Steps that change the heap: a new object, an object that is written or grows, a new immutable block, draws.
-/
set_option linter.unusedSimpArgs false
set_option linter.unusedVariables false
namespace Go.Rv
section
variable {P : Program} {C : Cfg} {s : Sim} {h : Heap} {w : World}

theorem heap_alloc_lt (w : World) (o : Obj) {k : Nat} (hk : k < w.heap.size) : (w.alloc o).heap[k]? = w.heap[k]? := by
  show (w.heap.push o)[k]? = _
  simp [Array.getElem?_push, Nat.ne_of_lt hk]
theorem heap_alloc_at (w : World) (o : Obj) : (w.alloc o).heap[w.heap.size]? = some o := by
  show (w.heap.push o)[w.heap.size]? = _
  simp
theorem size_alloc (w : World) (o : Obj) : (w.alloc o).heap.size = w.heap.size + 1 := by
  show (w.heap.push o).size = _
  simp

theorem shape_of {w w' : World} {b : Nat} (h : w'.heap[b]? = w.heap[b]?) : w'.shape? b = w.shape? b := by
  unfold World.shape?; rw [h]
theorem shape_lt {w : World} {b : Nat} {x : TypeId × Nat} (h : w.shape? b = some x) : b < w.heap.size := by
  unfold World.shape? at h
  split at h
  · rename_i c el fz hb
    exact (Array.getElem?_eq_some_iff.1 hb).1
  · cases h

theorem Rel.old (R : Rel s h w) {o b : Nat} (hb : s.μ o = some b) : o < h.length := by
  obtain ⟨x, hx, _⟩ := R.obj o b hb
  exact (List.getElem?_eq_some_iff.1 hx).1

/-- With one object more. -/
def Sim.add (s : Sim) (o b : Nat) : Sim := { s with μ := fun k => if k = o then some b else s.μ k }

theorem genOf_append {x : AObj} {o g : Nat} (hg : genOf h o = some g) : genOf (h ++ [x]) o = some g := by
  unfold genOf at *
  have hlt : o < h.length := by
    rcases Nat.lt_or_ge o h.length with h1 | h1
    · exact h1
    · rw [List.getElem?_eq_none h1] at hg; cases hg
  rw [List.getElem?_append_left hlt]; exact hg
theorem lenOf_append {x : AObj} {o : Nat} (ho : o < h.length) : lenOf (h ++ [x]) o = lenOf h o := by
  unfold lenOf; rw [List.getElem?_append_left ho]
theorem isMap_append {x : AObj} {o : Nat} (hm : isMap h o = true) : isMap (h ++ [x]) o = true := by
  unfold isMap at *
  have hlt : o < h.length := by
    rcases Nat.lt_or_ge o h.length with h1 | h1
    · exact h1
    · rw [List.getElem?_eq_none h1] at hm; cases hm
  rw [List.getElem?_append_left hlt]; exact hm
theorem isLoop_append {x : AObj} {o : Nat} (hm : isLoop h o = true) : isLoop (h ++ [x]) o = true := by
  unfold isLoop at *
  have hlt : o < h.length := by
    rcases Nat.lt_or_ge o h.length with h1 | h1
    · exact h1
    · rw [List.getElem?_eq_none h1] at hm; cases hm
  rw [List.getElem?_append_left hlt]; exact hm
theorem genOf_lt {o g : Nat} (hg : genOf h o = some g) : o < h.length := by
  unfold genOf at hg
  rcases Nat.lt_or_ge o h.length with h1 | h1
  · exact h1
  · rw [List.getElem?_eq_none h1] at hg; cases hg

/-- A block more, of which the interpreter knows nothing, or which is never written. -/
theorem Ext.block (s : Sim) (h : Heap) (w : World) (o : Obj) (i : Bool) :
    Ext s h w { s with I := fun b => s.I b ∨ (i = true ∧ b = w.heap.size) } h (w.alloc o) where
  size := by rw [size_alloc]; omega
  far := fun b hb _ => heap_alloc_lt w o hb
  shape := fun b x hx => by rw [shape_of (heap_alloc_lt w o (shape_lt hx))]; exact hx
  imm := fun b hb => .inl hb
  gen := fun _ g hg => ⟨g, hg, Nat.le_refl _⟩
  same := fun _ _ _ _ => ⟨fun _ h => h, rfl⟩
  kind := fun _ h => h
  own := fun o b hb => .inl ⟨o, hb⟩
  os := rfl
  tape := rfl
  output := rfl
  kindL := fun _ h => h
  good := rfl
  old := fun o b _ hb => ⟨b, hb⟩
  kept := fun _ _ _ => rfl

theorem ORel.ext {s' : Sim} {h' : Heap} {w' : World} (hd : ∀ o b, s.μ o = some b → ¬ s.I b) (E : Ext s h w s' h' w') {b : Nat} (hb : w'.heap[b]? = w.heap[b]?) {x : AObj} (H : ORel s h w b x) : ORel s' h' w' b x := by
  cases x with
  | cells cs g =>
    obtain ⟨bc, el, h1, h2, h3⟩ := H
    refine ⟨bc, el, hb.trans h1, h2, fun i c hi => ?_⟩
    obtain ⟨v, hv, hr⟩ := h3 i c hi
    exact ⟨v, hv, hr.ext hd E⟩
  | map es =>
    obtain ⟨en, cl, h1, h2, h3⟩ := H
    refine ⟨en, cl, hb.trans h1, h2, h3.1, fun i c hi => ?_⟩
    obtain ⟨m, hm, h4, h5⟩ := h3.2 i c hi
    exact ⟨m, hm, h4.ext hd E, h5.ext hd E⟩
  | loop r =>
    obtain ⟨rec, h1, h2, h3, h4⟩ := H
    exact ⟨rec, hb.trans h1, h2, fun t => (h3 t).ext hd E, by rw [E.good]; exact h4⟩

theorem Rel.block (R : Rel s h w) (o : Obj) (i : Bool) : Rel { s with I := fun b => s.I b ∨ (i = true ∧ b = w.heap.size) } h (w.alloc o) where
  inj := R.inj
  obj := fun k b hb => by
    obtain ⟨x, hx, hr⟩ := R.obj k b hb
    exact ⟨x, hx, hr.ext R.apart (Ext.block s h w o i) (heap_alloc_lt w o (R.lt hb))⟩
  apart := fun k b hb hI => by
    rcases hI with hI | ⟨_, hI⟩
    · exact R.apart k b hb hI
    · have := R.lt hb; omega
  imm := fun b hb => by
    rw [size_alloc]
    rcases hb with hb | ⟨_, hb⟩
    · have := R.imm b hb; omega
    · omega

/-- A new object in a new block. -/
theorem Ext.new (R : Rel s h w) (o : Obj) (x : AObj) : Ext s h w (s.add h.length w.heap.size) (h ++ [x]) (w.alloc o) where
  size := by rw [size_alloc]; omega
  far := fun b hb _ => heap_alloc_lt w o hb
  shape := fun b y hy => by rw [shape_of (heap_alloc_lt w o (shape_lt hy))]; exact hy
  imm := fun b hb => hb
  gen := fun _ g hg => ⟨g, genOf_append hg, Nat.le_refl _⟩
  same := fun k g hg _ => ⟨fun b hb => by
    have := R.old hb
    simp [Sim.add, Nat.ne_of_lt this, hb], lenOf_append (genOf_lt hg)⟩
  kind := fun _ h => isMap_append h
  own := fun k b hb => by
    simp only [Sim.add] at hb
    split at hb
    · injection hb with hb; exact .inr (by omega)
    · exact .inl ⟨k, hb⟩
  os := rfl
  tape := rfl
  output := rfl
  kindL := fun _ h => isLoop_append h
  good := rfl
  old := fun k b hk hb => by
    simp only [Sim.add, Nat.ne_of_lt hk, if_false] at hb
    exact ⟨b, hb⟩
  kept := fun k hk _ => List.getElem?_append_left hk

theorem Rel.new (R : Rel s h w) (o : Obj) (x : AObj) (hx : ORel (s.add h.length w.heap.size) (h ++ [x]) (w.alloc o) w.heap.size x) : Rel (s.add h.length w.heap.size) (h ++ [x]) (w.alloc o) where
  inj := fun k k' b hk hk' => by
    simp only [Sim.add] at hk hk'
    split at hk <;> split at hk'
    · omega
    · injection hk with hk; have := R.lt hk'; omega
    · injection hk' with hk'; have := R.lt hk; omega
    · exact R.inj k k' b hk hk'
  obj := fun k b hb => by
    by_cases e : k = h.length
    · subst e
      simp only [Sim.add, if_true, Option.some.injEq] at hb
      subst hb
      exact ⟨x, by simp, hx⟩
    · simp only [Sim.add, e, if_false] at hb
      obtain ⟨y, hy, hr⟩ := R.obj k b hb
      exact ⟨y, by rw [List.getElem?_append_left (R.old hb)]; exact hy, hr.ext R.apart (Ext.new R o x) (heap_alloc_lt w o (R.lt hb))⟩
  apart := fun k b hb hI => by
    simp only [Sim.add] at hb hI
    split at hb
    · injection hb with hb; have := R.imm b hI; omega
    · exact R.apart k b hb hI
  imm := fun b hb => by have := R.imm b hb; rw [size_alloc]; omega

/-- A new object of cells. -/
theorem new_cells (R : Rel s h w) {cs : List AV} {vs : Array Value} (el : TypeId) (hl : cs.length ≤ vs.size) (hc : ∀ (i : Nat) c, cs[i]? = some c → ∃ v, vs[i]? = some v ∧ VR s h w c v) :
    Ext s h w (s.add h.length w.heap.size) (h ++ [.cells cs 0]) (w.alloc (.cells vs el)) ∧ Rel (s.add h.length w.heap.size) (h ++ [.cells cs 0]) (w.alloc (.cells vs el)) :=
  ⟨Ext.new R _ _, Rel.new R _ _ ⟨vs, el, heap_alloc_at w _, hl, fun i c hi => by
    obtain ⟨v, hv, hr⟩ := hc i c hi
    exact ⟨v, hv, hr.ext R.apart (Ext.new R _ _)⟩⟩⟩

theorem genOf_new {x : AObj} : genOf (h ++ [x]) h.length = match x with | .cells _ g => some g | .map _ => some 0 | .loop _ => some 0 := by
  unfold genOf
  rw [List.getElem?_append_right (Nat.le_refl _)]
  cases x <;> simp
theorem lenOf_new {cs : List AV} {g : Nat} : lenOf (h ++ [.cells cs g]) h.length = cs.length := by
  unfold lenOf
  rw [List.getElem?_append_right (Nat.le_refl _)]
  simp

/-- Draws change nothing. -/
theorem Ext.draw (s : Sim) (h : Heap) (w : World) (n : Nat) : Ext s h w s h { w with drawn := n } :=
  ⟨⟨Nat.le_refl _, fun _ _ _ => rfl, fun _ _ h => h, fun _ h => h, fun _ g hg => ⟨g, hg, Nat.le_refl _⟩, fun _ _ _ _ => ⟨fun _ h => h, rfl⟩, fun _ h => h, fun o b hb => .inl ⟨o, hb⟩, rfl, rfl, rfl, fun _ h => h, rfl⟩, fun o b _ hb => ⟨b, hb⟩, fun _ _ _ => rfl⟩
theorem Rel.draw (R : Rel s h w) (n : Nat) : Rel s h { w with drawn := n } :=
  ⟨R.inj, fun o b hb => by
    obtain ⟨x, hx, hr⟩ := R.obj o b hb
    exact ⟨x, hx, hr.ext R.apart (Ext.draw s h w n) rfl⟩, R.apart, R.imm⟩


theorem genOf_set {o o' g : Nat} {x : AObj} : genOf (h.set o x) o' = if o = o' ∧ o < h.length then (match x with | .cells _ g => some g | .map _ => some 0 | .loop _ => some 0) else genOf h o' := by
  unfold genOf
  rw [List.getElem?_set]
  by_cases e : o = o'
  · subst e
    by_cases hl : o < h.length
    · simp only [hl, if_true, and_self]; cases x <;> rfl
    · simp only [hl, if_true, if_false, and_false]
      rw [List.getElem?_eq_none (by omega)]
  · simp [e]
theorem lenOf_set {o o' : Nat} {x : AObj} (e : o ≠ o') : lenOf (h.set o x) o' = lenOf h o' := by
  unfold lenOf; rw [List.getElem?_set_ne e]
theorem isMap_set {o o' : Nat} {x : AObj} (e : o ≠ o') : isMap (h.set o x) o' = isMap h o' := by
  unfold isMap; rw [List.getElem?_set_ne e]
theorem isLoop_set {o o' : Nat} {x : AObj} (e : o ≠ o') : isLoop (h.set o x) o' = isLoop h o' := by
  unfold isLoop; rw [List.getElem?_set_ne e]

/-- What a world must keep when block b is written, a block may be laid behind the others. -/
structure Wrote (w w' : World) (b : Nat) : Prop where
  size : w.heap.size ≤ w'.heap.size
  far : ∀ k, k < w.heap.size → k ≠ b → w'.heap[k]? = w.heap[k]?
  shape : ∀ k x, w.shape? k = some x → w'.shape? k = some x
  os : w'.os = w.os
  tape : w'.tape = w.tape
  output : w'.output = w.output

/-- An object's cells are written: in its block, or, if it grew, in a new one. -/
theorem Ext.write (R : Rel s h w) {o b b' g g' : Nat} {cs cs' : List AV} {w' : World} (hb : s.μ o = some b) (ho : h[o]? = some (.cells cs g)) (hg : g ≤ g') (hlen : g' = g → cs'.length = cs.length)
    (hb' : b' = b ∨ (g < g' ∧ w.heap.size ≤ b')) (W : Wrote w w' b) : Ext s h w (s.add o b') (h.set o (.cells cs' g')) w' where
  size := W.size
  far := fun k hk hn => W.far k hk (fun e => hn o (e ▸ hb))
  shape := W.shape
  imm := fun b hb => hb
  gen := fun k g0 hg0 => by
    have hlt := (List.getElem?_eq_some_iff.1 ho).1
    rw [genOf_set (g := g)]
    by_cases e : o = k
    · subst e
      have : g0 = g := by simp [genOf, ho] at hg0; omega
      subst this
      exact ⟨g', by simp [hlt], hg⟩
    · exact ⟨g0, by simp [e, hg0], Nat.le_refl _⟩
  same := fun k g0 hg0 hg1 => by
    have hlt := (List.getElem?_eq_some_iff.1 ho).1
    by_cases e : o = k
    · subst e
      have h0 : g0 = g := by simp [genOf, ho] at hg0; omega
      subst h0
      rw [genOf_set (g := g0)] at hg1
      simp only [hlt, and_self, if_true, Option.some.injEq] at hg1
      subst hg1
      refine ⟨fun c hc => ?_, ?_⟩
      · rw [hb] at hc; injection hc with hc; subst hc
        rcases hb' with h1 | ⟨h1, _⟩
        · simp [Sim.add, h1]
        · omega
      · unfold lenOf
        rw [ho, List.getElem?_set_self hlt]
        exact hlen rfl
    · refine ⟨fun c hc => by simp [Sim.add, Ne.symm e, hc], lenOf_set e⟩
  kind := fun k hk => by
    by_cases e : o = k
    · subst e; simp [isMap, ho] at hk
    · rw [isMap_set e]; exact hk
  own := fun k c hc => by
    simp only [Sim.add] at hc
    split at hc
    · injection hc with hc; subst hc
      rcases hb' with h1 | ⟨_, h1⟩
      · exact .inl ⟨o, h1 ▸ hb⟩
      · exact .inr h1
    · exact .inl ⟨k, hc⟩
  os := W.os
  tape := W.tape
  output := W.output
  kindL := fun k hk => by
    by_cases e : o = k
    · subst e; simp [isLoop, ho] at hk
    · rw [isLoop_set e]; exact hk
  good := rfl
  old := fun k c _ hc => by
    simp only [Sim.add] at hc
    split at hc
    · rename_i e; subst e; exact ⟨b, hb⟩
    · exact ⟨c, hc⟩
  kept := fun k _ hn => by
    have : o ≠ k := by rintro rfl; rw [hb] at hn; cases hn
    exact List.getElem?_set_ne this

theorem write_cells (R : Rel s h w) {o b b' g g' : Nat} {cs cs' : List AV} {w' : World} {bc' : Array Value} {el : TypeId} (hb : s.μ o = some b) (ho : h[o]? = some (.cells cs g)) (hg : g ≤ g') (hlen : g' = g → cs'.length = cs.length)
    (hb' : b' = b ∨ (g < g' ∧ w.heap.size ≤ b')) (W : Wrote w w' b) (hheap : w'.heap[b']? = some (.cells bc' el (0, 0))) (hsz : cs'.length ≤ bc'.size)
    (hc : ∀ (i : Nat) c, cs'[i]? = some c → ∃ v, bc'[i]? = some v ∧ VR s h w c v) :
    Ext s h w (s.add o b') (h.set o (.cells cs' g')) w' ∧ Rel (s.add o b') (h.set o (.cells cs' g')) w' := by
  have E := Ext.write R hb ho hg hlen hb' W
  have hlt := (List.getElem?_eq_some_iff.1 ho).1
  refine ⟨E, ?_⟩
  refine ⟨fun k k' c hk hk' => ?_, fun k c hk => ?_, fun k c hk hI => ?_, fun c hI => ?_⟩
  · simp only [Sim.add] at hk hk'
    split at hk <;> split at hk'
    · omega
    · injection hk with hk
      subst hk
      rcases hb' with h1 | ⟨_, h1⟩
      · subst h1; have := R.inj _ _ _ hk' hb; omega
      · have := R.lt hk'; omega
    · injection hk' with hk'
      subst hk'
      rcases hb' with h1 | ⟨_, h1⟩
      · subst h1; have := R.inj _ _ _ hk hb; omega
      · have := R.lt hk; omega
    · exact R.inj k k' c hk hk'
  · by_cases e : k = o
    · subst e
      simp only [Sim.add, if_true, Option.some.injEq] at hk
      subst hk
      refine ⟨.cells cs' g', by rw [List.getElem?_set_self hlt], bc', el, hheap, hsz, fun i x hi => ?_⟩
      obtain ⟨v, hv, hr⟩ := hc i x hi
      exact ⟨v, hv, hr.ext R.apart E⟩
    · simp only [Sim.add, e, if_false] at hk
      obtain ⟨x, hx, hr⟩ := R.obj k c hk
      have hne : c ≠ b := fun e' => e (R.inj k o c hk (e' ▸ hb))
      exact ⟨x, by rw [List.getElem?_set_ne (Ne.symm e)]; exact hx, hr.ext R.apart E (W.far c (R.lt hk) hne)⟩
  · simp only [Sim.add] at hk hI
    split at hk
    · injection hk with hk; subst hk
      rcases hb' with h1 | ⟨_, h1⟩
      · subst h1; exact R.apart o b' hb hI
      · have := R.imm _ hI; omega
    · exact R.apart k c hk hI
  · exact Nat.lt_of_lt_of_le (R.imm c hI) W.size

theorem Wrote.row {b : Nat} {bc : Array Value} {el : TypeId} (hb : w.heap[b]? = some (.cells bc el (0, 0))) (bc' : Array Value) (hs : bc'.size = bc.size) : Wrote w (w.setRow b bc') b := by
  have hsz : (w.setRow b bc').heap.size = w.heap.size := by simp [World.setRow]
  have hfar : ∀ k, k ≠ b → (w.setRow b bc').heap[k]? = w.heap[k]? := fun k hk => by
    simp only [World.setRow]
    rw [Array.getElem?_modify]
    simp [Ne.symm hk]
  refine ⟨by omega, fun k _ hk => hfar k hk, fun k x hx => ?_, rfl, rfl, rfl⟩
  by_cases e : k = b
  · subst e
    unfold World.shape? at *
    rw [setRow_heap w k bc bc' el (0, 0) hb]
    rw [hb] at hx
    simpa [hs] using hx
  · rw [shape_of (hfar k e)]; exact hx

/-- Cells of an object are written in place. -/
theorem store_cells (R : Rel s h w) {o b g off : Nat} {cs xs : List AV} (hb : s.μ o = some b) (ho : h.obj o g = some cs) (hl : off + xs.length ≤ cs.length) {vs : List Value} (hv : VRs s h w xs vs) (h1 : ∀ v ∈ vs, v.oneCell' = true) (i : Nat) :
    ∃ w', (∀ k, off = k + i → (storeCells ⟨b, k, none⟩ vs i).run P w = .ok () w') ∧ Ext s h w s (h.set o (.cells (setCells cs off xs) g)) w' ∧ Rel s (h.set o (.cells (setCells cs off xs) g)) w' := by
  obtain ⟨x, hx, hr⟩ := R.obj o b hb
  have hobj := (genOf_obj ho).2.1
  rw [hobj] at hx
  injection hx with hx; subst hx
  obtain ⟨bc, el, hheap, hsz, hcell⟩ := hr
  have hvl := hv.1
  have hs : s.add o b = s := by
    unfold Sim.add
    cases s with
    | mk μ I G =>
      congr 1
      funext k
      by_cases e : k = o
      · subst e; simp [show μ k = some b from hb]
      · simp [e]
  have key := write_cells R (b' := b) (g' := g) (cs' := setCells cs off xs) (w' := w.setRow b (bc.toList.take off ++ vs ++ bc.toList.drop (off + vs.length)).toArray) (bc' := (bc.toList.take off ++ vs ++ bc.toList.drop (off + vs.length)).toArray) (el := el) hb hobj (Nat.le_refl _) (fun _ => setCells_length _ _ _) (.inl rfl)
    (Wrote.row hheap _ (by simp; omega)) (setRow_heap w b bc _ el (0, 0) hheap) (by rw [setCells_length]; simp; omega) (fun j c hj => by
      rw [setCells_get xs cs off j hl] at hj
      simp only [List.getElem?_toArray]
      split at hj
      · rename_i hin
        obtain ⟨v, hv1, hv2⟩ := hv.2 _ c hj
        refine ⟨v, ?_, hv2⟩
        rw [List.append_assoc, List.getElem?_append_right (by simp; omega), List.getElem?_append_left (by simp; omega)]
        simp only [List.length_take, Array.length_toList, Nat.min_eq_left (show off ≤ bc.size by omega)]
        exact hv1
      · rename_i hout
        obtain ⟨v, hv1, hv2⟩ := hcell j c hj
        refine ⟨v, ?_, hv2⟩
        have hjl : j < cs.length := (List.getElem?_eq_some_iff.1 hj).1
        by_cases hlo : j < off
        · rw [List.append_assoc, List.getElem?_append_left (by simp; omega), List.getElem?_take_of_lt hlo]
          simpa using hv1
        · rw [List.getElem?_append_right (by simp; omega), List.getElem?_drop]
          simp only [List.length_append, List.length_take, Array.length_toList, Nat.min_eq_left (show off ≤ bc.size by omega)]
          rw [show off + vs.length + (j - (off + vs.length)) = j from by omega]
          simpa using hv1)
  rw [hs] at key
  refine ⟨_, fun k hk => ?_, key.1, key.2⟩
  subst hk
  have := run_storeCells_at (P := P) b k el vs i bc w hheap (by omega) h1
  rw [this]
end
end Go.Rv

/-
  The operations that read, compute and make memory.
-/
set_option linter.unusedSimpArgs false
set_option linter.unusedVariables false
namespace Go.Rv
section
variable {P : Program} {C : Cfg} {s : Sim} {h : Heap} {w : World}

/-- It comes to a value, the world as it was. -/
def PRun (P : Program) (s : Sim) (h : Heap) (w : World) (m : Sem Value) (v : AV) : Prop := ∃ x, m.run P w = .ok x w ∧ VR s h w v x
/-- It comes to a value in a later world. -/
def HRun (P : Program) (s : Sim) (h : Heap) (w : World) (m : Sem Value) (v : AV) (h' : Heap) : Prop :=
  ∃ s' w' x, m.run P w = .ok x w' ∧ Ext s h w s' h' w' ∧ Rel s' h' w' ∧ VR s' h' w' v x
theorem PRun.heap (R : Rel s h w) {m : Sem Value} {v : AV} (H : PRun P s h w m v) : HRun P s h w m v h := by
  obtain ⟨x, h1, h2⟩ := H
  exact ⟨s, w, x, h1, Ext.refl _ _ _, R, h2⟩

def TabOk (P : Program) (C : Cfg) : Prop := ∀ t ti, C.ty t = some ti → TyOk P t ti


theorem bin_int {op : BinOp} {t : TypeId} {x y : Operand} {k : IntKind} {a b : Int} {v : AV} (hv : arithA op k a b = some v) :
    PRun P s h w (do eqGuard op t x y (.int k a) (.int k b); binOp op t (.int k a) (.int k b)) v := by
  have hg : (eqGuard op t x y (.int k a) (.int k b)).run P w = .ok () w := by
    unfold eqGuard
    cases op <;> rfl
  unfold PRun
  simp only [Sem.run_bind, hg, Result.andThen_ok]
  cases op <;> simp only [arithA, reduceCtorEq, Option.some.injEq] at hv
  case add => subst hv; exact ⟨_, by simp [binOp, Op.intArith], .int _ _⟩
  case sub => subst hv; exact ⟨_, by simp [binOp, Op.intArith], .int _ _⟩
  case mul => subst hv; exact ⟨_, by simp [binOp, Op.intArith], .int _ _⟩
  case quo =>
    split at hv
    · cases hv
    · rename_i hb
      have hb' : ¬ b = 0 := by simpa using hb
      injection hv with hv; subst hv
      exact ⟨_, by simp [binOp, Op.intDiv, hb'], .int _ _⟩
  case rem =>
    split at hv
    · cases hv
    · rename_i hb
      have hb' : ¬ b = 0 := by simpa using hb
      injection hv with hv; subst hv
      exact ⟨_, by simp [binOp, Op.intDiv, hb'], .int _ _⟩
  case eql => subst hv; exact ⟨_, by simp [binOp, Op.intCmp], .bool _⟩
  case neq => subst hv; exact ⟨_, by simp [binOp, Op.intCmp], .bool _⟩
  case lss => subst hv; exact ⟨_, by simp [binOp, Op.intCmp], .bool _⟩
  case leq => subst hv; exact ⟨_, by simp [binOp, Op.intCmp], .bool _⟩
  case gtr => subst hv; exact ⟨_, by simp [binOp, Op.intCmp], .bool _⟩
  case geq => subst hv; exact ⟨_, by simp [binOp, Op.intCmp], .bool _⟩

theorem bytes_append (a b : List UInt8) : (⟨a.toArray⟩ : ByteArray) ++ ⟨b.toArray⟩ = ⟨(a ++ b).toArray⟩ := by
  apply ByteArray.ext
  simp

theorem bin_str {op : BinOp} {t : TypeId} {x y : Operand} {a b : List UInt8} {v : AV} (hv : binA C h op t (.str a) (.str b) = some v) :
    PRun P s h w (do eqGuard op t x y (.string ⟨a.toArray⟩) (.string ⟨b.toArray⟩); binOp op t (.string ⟨a.toArray⟩) (.string ⟨b.toArray⟩)) v := by
  have hg : (eqGuard op t x y (.string ⟨a.toArray⟩) (.string ⟨b.toArray⟩)).run P w = .ok () w := by
    unfold eqGuard
    cases op <;> rfl
  have e1 : (⟨a.toArray⟩ : ByteArray).toList = a := by rw [Lib.toList_data]
  have e2 : (⟨b.toArray⟩ : ByteArray).toList = b := by rw [Lib.toList_data]
  unfold PRun
  simp only [Sem.run_bind, hg, Result.andThen_ok]
  cases op <;> simp only [binA, reduceCtorEq, Option.some.injEq] at hv
  case add =>
    split at hv
    · rename_i hl
      injection hv with hv; subst hv
      have hsz : ¬ (((⟨a.toArray⟩ : ByteArray).size + (⟨b.toArray⟩ : ByteArray).size : Nat) : Int) > IntKind.i64.max := by
        have : IntKind.i64.max = 9223372036854775807 := by decide
        rw [this]
        simp only [ByteArray.size, List.size_toArray]
        simp only [mostLen] at hl
        omega
      refine ⟨.string ((⟨a.toArray⟩ : ByteArray) ++ ⟨b.toArray⟩), by simp only [binOp, Op.stringOp, hsz, if_false, Sem.run_pure], ?_⟩
      rw [bytes_append]
      exact .str _
    · cases hv
  all_goals (subst hv; exact ⟨_, by simp only [binOp, Op.stringOp, e1, e2, Sem.run_pure], .bool _⟩)

theorem guard_plain {op : BinOp} {t : TypeId} {x y : Operand} {u v : Value} (h1 : u ≠ .nilIface ∨ v ≠ .nilIface) (h2 : ∀ c, u ≠ .agg c) (w : World) : (eqGuard op t x y u v).run P w = .ok () w := by
  have key : ∀ m : Sem Unit, ∀ m' : Sem Unit, (match u, v with | .nilIface, .nilIface => m | .agg _, .agg _ => m' | _, _ => (pure () : Sem Unit)) = pure () := by
    intro m m'
    split
    · rcases h1 with h1 | h1 <;> exact absurd rfl h1
    · rename_i c _; exact absurd rfl (h2 c)
    · rfl
  cases op <;> first | rfl | skip
  all_goals
    simp only [eqGuard, Bool.not_true, Bool.false_eq_true, if_false]
    exact (congrArg (fun m : Sem Unit => m.run P w) (key _ _)).trans rfl

theorem equal_in {t : Nat} {ti : TI} (T : TyOk P t ti) {x y : AV} {u v : Value} {b : Bool} (hx : VR s h w x u) (hy : VR s h w y v) (hb : eqA h ti.td x y = some b) :
    (∀ n, (Op.equalIn (n + 1) t u v).run P w = .ok b w) ∧ (u ≠ .nilIface ∨ v ≠ .nilIface) ∧ (∀ c, u ≠ .agg c) ∧ (∀ k a, u ≠ .int k a) ∧ (∀ c, u ≠ .string c) ∧ (∀ k a, u ≠ .float k a) ∧ (∀ k a c, u ≠ .complex k a c) := by
  obtain ⟨d, hd, hok⟩ := T.und
  have live : ∀ {o off g : Nat} {u : Value}, VR s h w (.ptr o off g) u → h.live o g = true → ∃ a, u = .pointer (some a) := by
    intro o off g u hu hl
    have hg := genOf_live hl
    cases hu with
    | ptr _ _ _ b h1 h2 => exact ⟨_, rfl⟩
    | ptrOld _ _ _ g' a h1 h2 => rw [hg] at h1; injection h1; omega
  have liveS : ∀ {o off len sz g : Nat} {cap : Option Nat} {u : Value}, VR s h w (.msl o off len sz g cap) u → h.live o g = true → ∃ a n c, u = .slice (some a) n c := by
    intro o off len sz g cap u hu hl
    have hg := genOf_live hl
    cases hu with
    | msl _ _ _ _ _ _ b c el n off' h1 => exact ⟨_, _, _, rfl⟩
    | mslOld _ _ _ _ _ _ g' a n c h1 h2 => rw [hg] at h1; injection h1; omega
  have lstv : ∀ {xs : List AV} {z : Nat} {r : Room} {u : Value}, VR s h w (.lst xs z r) u → ∃ a n c, u = .slice a n c ∧ (a.isNone = (r == .nil)) := by
    intro xs z r u hu
    cases hu with
    | lstNil => exact ⟨_, _, _, rfl, rfl⟩
    | lstEmpty => exact ⟨_, _, _, rfl, rfl⟩
    | lst _ _ _ b off c f h1 h2 => exact ⟨_, _, _, rfl, by cases r <;> first | exact h2.elim | rfl⟩
  have nilv : ∀ {xs : List AV} {z : Nat} {u : Value}, VR s h w (.lst xs z .nil) u → u = .slice none 0 0 := by
    intro xs z u hu
    cases hu with
    | lstNil => rfl
    | lst _ _ _ b off c f h1 h2 => exact h2.elim
  generalize ti.td = td at hok hb
  unfold eqA at hb
  simp only [Op.equalIn, Sem.run_bind, run_und hd, Result.andThen_ok]
  split at hb
  · cases hx; cases hy
    cases d <;> simp only [TD.ok] at hok
    injection hb with hb; subst hb
    exact ⟨fun _ => rfl, by simp, by simp, by simp, by simp, by simp, by simp⟩
  · cases hx; cases hy
    cases d <;> simp only [TD.ok] at hok
    injection hb with hb; subst hb
    exact ⟨fun _ => rfl, by simp, by simp, by simp, by simp, by simp, by simp⟩
  · cases hx; cases hy
    cases d <;> simp only [TD.ok] at hok
    injection hb with hb; subst hb
    exact ⟨fun _ => rfl, by simp, by simp, by simp, by simp, by simp, by simp⟩
  · cases hx; cases hy
    cases d <;> simp only [TD.ok] at hok
    injection hb with hb; subst hb
    exact ⟨fun _ => rfl, by simp, by simp, by simp, by simp, by simp, by simp⟩
  · split at hb
    · rename_i hl
      cases hx
      obtain ⟨a, rfl⟩ := live hy hl
      cases d <;> simp only [TD.ok] at hok
      injection hb with hb; subst hb
      exact ⟨fun _ => rfl, by simp, by simp, by simp, by simp, by simp, by simp⟩
    · cases hb
  · split at hb
    · rename_i hl
      cases hy
      obtain ⟨a, rfl⟩ := live hx hl
      cases d <;> simp only [TD.ok] at hok
      injection hb with hb; subst hb
      exact ⟨fun _ => rfl, by simp, by simp, by simp, by simp, by simp, by simp⟩
    · cases hb
  · obtain ⟨a, n, c, rfl, ha⟩ := lstv hx
    obtain rfl := nilv hy
    cases d <;> simp only [TD.ok] at hok
    injection hb with hb; subst hb
    cases a with
    | none => exact ⟨fun _ => by rw [← ha]; rfl, by simp, by simp, by simp, by simp, by simp, by simp⟩
    | some a => exact ⟨fun _ => by rw [← ha]; rfl, by simp, by simp, by simp, by simp, by simp, by simp⟩
  · obtain ⟨a, n, c, rfl, ha⟩ := lstv hy
    obtain rfl := nilv hx
    cases d <;> simp only [TD.ok] at hok
    injection hb with hb; subst hb
    exact ⟨fun _ => by rw [← ha]; rfl, by simp, by simp, by simp, by simp, by simp, by simp⟩
  · split at hb
    · rename_i hl
      obtain ⟨a, n, c, rfl⟩ := liveS hx hl
      obtain rfl := nilv hy
      cases d <;> simp only [TD.ok] at hok
      injection hb with hb; subst hb
      exact ⟨fun _ => rfl, by simp, by simp, by simp, by simp, by simp, by simp⟩
    · cases hb
  · split at hb
    · rename_i hl
      obtain ⟨a, n, c, rfl⟩ := liveS hy hl
      obtain rfl := nilv hx
      cases d <;> simp only [TD.ok] at hok
      injection hb with hb; subst hb
      exact ⟨fun _ => rfl, by simp, by simp, by simp, by simp, by simp, by simp⟩
    · cases hb
  · cases hx; cases hy
    cases d <;> simp only [TD.ok] at hok
    injection hb with hb; subst hb
    exact ⟨fun _ => rfl, by simp, by simp, by simp, by simp, by simp, by simp⟩
  · cases hx; cases hy
    cases d <;> simp only [TD.ok] at hok
    injection hb with hb; subst hb
    exact ⟨fun _ => rfl, by simp, by simp, by simp, by simp, by simp, by simp⟩
  · cases hx; cases hy
    cases d <;> simp only [TD.ok] at hok
    injection hb with hb; subst hb
    exact ⟨fun _ => rfl, by simp, by simp, by simp, by simp, by simp, by simp⟩
  · cases hx; cases hy
    cases d <;> simp only [TD.ok] at hok
    injection hb with hb; subst hb
    exact ⟨fun _ => rfl, by simp, by simp, by simp, by simp, by simp, by simp⟩
  · cases hx; cases hy
    cases d <;> simp only [TD.ok] at hok
    injection hb with hb; subst hb
    exact ⟨fun _ => rfl, by simp, by simp, by simp, by simp, by simp, by simp⟩
  · cases hx; cases hy
    cases d <;> simp only [TD.ok] at hok
    injection hb with hb; subst hb
    exact ⟨fun _ => rfl, by simp, by simp, by simp, by simp, by simp, by simp⟩
  · cases hb

theorem equal_any {t : Nat} {ti : TI} (T : TyOk P t ti) {x y : AV} {u v : Value} {b : Bool} (hx : VR s h w x u) (hy : VR s h w y v) (hb : eqA h ti.td x y = some b) :
    (Op.equal t u v).run P w = .ok b w ∧ (u ≠ .nilIface ∨ v ≠ .nilIface) ∧ (∀ c, u ≠ .agg c) ∧ (∀ k a, u ≠ .int k a) ∧ (∀ c, u ≠ .string c) ∧ (∀ k a, u ≠ .float k a) ∧ (∀ k a c, u ≠ .complex k a c) := by
  have := equal_in T hx hy hb
  exact ⟨this.1 9999, this.2⟩

theorem bin_rel (TT : TabOk P C) {op : BinOp} {t : Nat} {x y : Operand} {a b v : AV} {u u' : Value} (ha : VR s h w a u) (hb : VR s h w b u') (hv : binA C h op t a b = some v) :
    PRun P s h w (do eqGuard op t x y u u'; binOp op t u u') v := by
  unfold binA at hv
  split at hv
  · cases ha; cases hb
    split at hv
    · rename_i k a k' b hk
      have : k = k' := by simpa using hk
      subst this
      exact bin_int hv
    · cases hv
  · cases ha; cases hb
    exact bin_str (C := C) (h := h) (by unfold binA; exact hv)
  · simp only [Option.bind_eq_bind] at hv
    replace hv := Option.bind_eq_some_iff.1 hv
    obtain ⟨ti, hti, hv⟩ := hv
    split at hv
    · obtain ⟨r, hr, rfl⟩ := Option.map_eq_some_iff.1 hv
      obtain ⟨h1, h2, h3, h4, h5, h6, h7⟩ := equal_any (TT t ti hti) ha hb hr
      refine ⟨.bool r, ?_, .bool r⟩
      simp only [Sem.run_bind, guard_plain h2 h3, Result.andThen_ok]
      have : binOp .eql t u u' = (do pure (.bool (← Op.equal t u u'))) := by
        cases u <;> cases u' <;> first | rfl | exact absurd rfl (h4 _ _) | exact absurd rfl (h5 _) | exact absurd rfl (h6 _ _) | exact absurd rfl (h7 _ _ _)
      rw [this]
      simp [h1]
    · obtain ⟨r, hr, rfl⟩ := Option.map_eq_some_iff.1 hv
      obtain ⟨h1, h2, h3, h4, h5, h6, h7⟩ := equal_any (TT t ti hti) ha hb hr
      refine ⟨.bool (!r), ?_, .bool (!r)⟩
      simp only [Sem.run_bind, guard_plain h2 h3, Result.andThen_ok]
      have : binOp .neq t u u' = (do pure (.bool (!(← Op.equal t u u')))) := by
        cases u <;> cases u' <;> first | rfl | exact absurd rfl (h4 _ _) | exact absurd rfl (h5 _) | exact absurd rfl (h6 _ _) | exact absurd rfl (h7 _ _ _)
      rw [this]
      simp [h1]
    · cases hv

theorem un_rel {op : UnOp} {a v : AV} {u : Value} (ha : VR s h w a u) (hv : unA op a = some v) : PRun P s h w (Op.unary op u) v := by
  cases a <;> simp only [unA, reduceCtorEq] at hv
  case bool b =>
    cases ha
    cases op <;> simp at hv
    subst hv
    exact ⟨_, rfl, .bool _⟩
  case int k n =>
    cases ha
    cases op <;> simp at hv
    subst hv
    rw [show -n = 0 - n by omega]
    exact ⟨_, rfl, .int _ _⟩

theorem conv_rel (TT : TabOk P C) {src dst : Nat} (hsrc : ∃ d, P.underlying src = some d) {a v : AV} {u : Value} (ha : VR s h w a u) (hv : convA C dst a = some v) : PRun P s h w (convert src dst u) v := by
  obtain ⟨ds, hds⟩ := hsrc
  unfold convA at hv
  simp only [Option.bind_eq_bind] at hv
  replace hv := Option.bind_eq_some_iff.1 hv
  obtain ⟨ti, hti, hv⟩ := hv
  obtain ⟨d, hd, hok⟩ := (TT dst ti hti).und
  generalize ti.td = td at hok hv
  split at hv
  · cases ha
    injection hv with hv; subst hv
    cases d <;> simp only [TD.ok] at hok
    subst hok
    refine ⟨_, ?_, .int _ _⟩
    simp only [convert, Sem.run_bind, run_und hd, run_und hds, Result.andThen_ok]
    rfl
  · cases ha
    injection hv with hv; subst hv
    cases d <;> simp only [TD.ok] at hok
    refine ⟨_, ?_, .str _⟩
    simp only [convert, Sem.run_bind, run_und hd, run_und hds, Result.andThen_ok]
    rfl
  · cases hv


theorem fieldAddr_rel (TT : TabOk P C) {t k : Nat} {a v : AV} {u : Value} (ha : VR s h w a u) (hv : fieldAddrA C h t a k = some v) : PRun P s h w (Instr.fieldAt t u k) v := by
  unfold fieldAddrA at hv
  simp only [Option.bind_eq_bind] at hv
  replace hv := Option.bind_eq_some_iff.1 hv
  obtain ⟨ti, hti, hv⟩ := hv
  obtain ⟨d, hd, hok⟩ := (TT t ti hti).und
  generalize ti.td = td at hok hv
  split at hv
  · rename_i fs
    replace hv := Option.bind_eq_some_iff.1 hv
    obtain ⟨⟨ft, off⟩, hf, hv⟩ := hv
    replace hv := Option.bind_eq_some_iff.1 hv
    obtain ⟨tf, htf, hv⟩ := hv
    cases d with
    | struct l =>
      simp only [TD.ok] at hok
      have hfl : ∃ fld, l[k]? = some fld ∧ fld.type = ft ∧ fld.offset = off := by
        rw [← hok] at hf
        simp only [List.getElem?_map, Option.map_eq_some_iff, Prod.mk.injEq] at hf
        obtain ⟨fld, h1, h2, h3⟩ := hf
        exact ⟨fld, by simpa using h1, h2, h3⟩
      obtain ⟨fld, hfld, rfl, rfl⟩ := hfl
      split at hv
      · cases hv
      · rename_i hz
        have hz' : ¬ tf.size = 0 := by simpa using hz
        have run : ∀ b off', (Instr.fieldAt t (.pointer (some ⟨b, off', none⟩)) k).run P w = .ok (.pointer (some ⟨b, off' + fld.offset, none⟩)) w := by
          intro b off'
          simp only [Instr.fieldAt, Sem.run_bind, run_und hd, Result.andThen_ok, hfld, Instr.sureAddr, Sem.run_pure, fieldPlace, run_sizeA (TT _ _ htf), hz', if_false, addr_add]
        split at hv
        · injection hv with hv; subst hv
          cases ha with
          | ref cs b off' f hI hc hr =>
            refine ⟨_, run b off', .ref _ b _ (fun i => f (fld.offset + i)) (fun h0 => hI (by simp at h0; omega)) (fun i c hi => ?_) (fun i c hi => ?_)⟩
            · rw [Nat.add_assoc]; exact hc _ c (by simpa using hi)
            · exact hr _ c (by simpa using hi)
        · rename_i o off' g
          split at hv
          · rename_i hl
            injection hv with hv; subst hv
            cases ha with
            | ptr _ _ _ b h1 h2 => exact ⟨_, run b off', .ptr _ _ _ b h1 h2⟩
            | ptrOld _ _ _ g' a h1 h2 => have := genOf_live hl; rw [this] at h1; injection h1; omega
          · cases hv
        · cases hv
    | _ => simp only [TD.ok] at hok
  · cases hv

theorem indexAddr_rel (TT : TabOk P C) {t : Nat} {a i v : AV} {u ui : Value} (ha : VR s h w a u) (hi : VR s h w i ui) (hv : indexAddrA C h t a i = some v) : PRun P s h w (Instr.indexAt t u ui) v := by
  unfold indexAddrA at hv
  simp only [Option.bind_eq_bind] at hv
  replace hv := Option.bind_eq_some_iff.1 hv
  obtain ⟨ti, hti, hv⟩ := hv
  obtain ⟨d, hd, hok⟩ := (TT t ti hti).und
  generalize ti.td = td at hok hv
  cases i <;> simp only [reduceCtorEq] at hv
  case int kk n =>
    cases hi
    split at hv
    · cases hv
    rename_i hn
    split at hv
    · -- an immutable slice
      rename_i e xs z r
      replace hv := Option.bind_eq_some_iff.1 hv
      obtain ⟨x, hx, hv⟩ := hv
      replace hv := Option.bind_eq_some_iff.1 hv
      obtain ⟨te, hte, hv⟩ := hv
      split at hv
      · rename_i hsz
        injection hv with hv; subst hv
        have hsz' : x.cells.length = te.size := by simpa using hsz
        cases d <;> simp only [TD.ok] at hok
        subst hok
        have hlt : n.toNat < xs.length := (List.getElem?_eq_some_iff.1 hx).1
        cases ha with
        | lstNil => simp at hlt
        | lstEmpty => simp at hlt
        | lst _ _ _ b off c f hI hr hle hz hc hrr =>
          have ez : z = te.size := by rw [← hz _ x hx]; exact hsz'
          subst ez
          refine ⟨.pointer (some ⟨b, off + n.toNat * te.size, none⟩), ?_, .ref _ b _ (fun j => f n.toNat j) (fun _ => hI (by omega)) (fun j y hj => hc _ j x y hx hj) (fun j y hj => hrr _ j x y hx hj)⟩
          have h0 : 0 ≤ n ∧ n < (xs.length : Int) := ⟨by omega, by omega⟩
          simp only [Instr.indexAt, asIntOf, Sem.run_bind, Sem.run_pure, Result.andThen_ok, run_und hd, h0, and_self, if_true, run_sizeA (TT _ _ hte), addr_add]
      · cases hv
    · -- an object's slice
      rename_i e o off len sz g cap
      replace hv := Option.bind_eq_some_iff.1 hv
      obtain ⟨te, hte, hv⟩ := hv
      split at hv
      · rename_i hcond
        injection hv with hv; subst hv
        simp only [Bool.and_eq_true, decide_eq_true_eq, beq_iff_eq] at hcond
        obtain ⟨⟨hlt, rfl⟩, hl⟩ := hcond
        cases d <;> simp only [TD.ok] at hok
        subst hok
        cases ha with
        | msl _ _ _ _ _ _ b c el m off' h0 h1 h2 h3 h4 h5 h6 h7 =>
          obtain rfl : off' = off := h0.resolve_right (by omega)
          refine ⟨.pointer (some ⟨b, _ + n.toNat * te.size, none⟩), ?_, .ptr _ _ _ b h1 h2⟩
          have h0 : 0 ≤ n ∧ n < (len : Int) := ⟨by omega, by omega⟩
          simp only [Instr.indexAt, asIntOf, Sem.run_bind, Sem.run_pure, Result.andThen_ok, run_und hd, h0, and_self, if_true, run_sizeA (TT _ _ hte), addr_add]
        | mslOld _ _ _ _ _ _ g' a n c h1 h2 => have := genOf_live hl; rw [this] at h1; injection h1; omega
      · cases hv
    · -- an array that is never written
      rename_i len e cs
      split at hv
      · rename_i hlt
        replace hv := Option.bind_eq_some_iff.1 hv
        obtain ⟨te, hte, hv⟩ := hv
        injection hv with hv; subst hv
        cases d <;> simp only [TD.ok] at hok
        obtain ⟨ea, eb⟩ := hok
        rw [ea, eb] at hd
        cases ha with
        | ref _ b off f hI hc hr =>
          refine ⟨.pointer (some ⟨b, off + n.toNat * te.size, none⟩), ?_, .ref _ b _ (fun j => f (n.toNat * te.size + j)) (fun h0 => hI (by simp at h0; omega)) (fun j y hj => ?_) (fun j y hj => hr _ y (by simpa using hj))⟩
          · have h0 : 0 ≤ n ∧ n < (len : Int) := ⟨by omega, by omega⟩
            simp only [Instr.indexAt, asIntOf, Sem.run_bind, Sem.run_pure, Result.andThen_ok, run_und hd, Instr.sureAddr, h0, and_self, if_true, run_sizeA (TT _ _ hte), addr_add]
          · rw [Nat.add_assoc]; exact hc _ y (by simpa using hj)
      · cases hv
    · -- an array of an object
      rename_i len e o off g
      split at hv
      · rename_i hcond
        simp only [Bool.and_eq_true, decide_eq_true_eq] at hcond
        obtain ⟨hlt, hl⟩ := hcond
        replace hv := Option.bind_eq_some_iff.1 hv
        obtain ⟨te, hte, hv⟩ := hv
        injection hv with hv; subst hv
        cases d <;> simp only [TD.ok] at hok
        obtain ⟨ea, eb⟩ := hok
        rw [ea, eb] at hd
        cases ha with
        | ptr _ _ _ b h1 h2 =>
          refine ⟨.pointer (some ⟨b, _ + n.toNat * te.size, none⟩), ?_, .ptr _ _ _ b h1 h2⟩
          have h0 : 0 ≤ n ∧ n < (len : Int) := ⟨by omega, by omega⟩
          simp only [Instr.indexAt, asIntOf, Sem.run_bind, Sem.run_pure, Result.andThen_ok, run_und hd, Instr.sureAddr, h0, and_self, if_true, run_sizeA (TT _ _ hte), addr_add]
        | ptrOld _ _ _ g' a h1 h2 => have := genOf_live hl; rw [this] at h1; injection h1; omega
      · cases hv
    · cases hv
end
end Go.Rv

/-
  More operations: what is stored, made, put together, cut.
-/
set_option linter.unusedSimpArgs false
set_option linter.unusedVariables false
namespace Go.Rv
section
variable {P : Program} {C : Cfg} {s : Sim} {h : Heap} {w : World}

theorem VRs.nil : VRs s h w [] [] := ⟨rfl, fun i c hi => by simp at hi⟩
theorem VRs.cons {x : AV} {v : Value} {xs : List AV} {vs : List Value} (h1 : VR s h w x v) (h2 : VRs s h w xs vs) : VRs s h w (x :: xs) (v :: vs) :=
  ⟨by simp [h2.1], fun i c hi => by
    cases i with
    | zero => simp at hi; subst hi; exact ⟨v, rfl, h1⟩
    | succ i => exact h2.2 i c (by simpa using hi)⟩
theorem VRs.tail {x : AV} {v : Value} {xs : List AV} {vs : List Value} (H : VRs s h w (x :: xs) (v :: vs)) : VR s h w x v ∧ VRs s h w xs vs := by
  obtain ⟨u, hu, hr⟩ := H.2 0 x rfl
  simp at hu
  subst hu
  exact ⟨hr, by have := H.1; simpa using this, fun i c hi => H.2 (i + 1) c (by simpa using hi)⟩
theorem VRs.append {xs ys : List AV} {vs us : List Value} (h1 : VRs s h w xs vs) (h2 : VRs s h w ys us) : VRs s h w (xs ++ ys) (vs ++ us) :=
  ⟨by simp [h1.1, h2.1], fun i c hi => by
    rw [List.getElem?_append] at hi ⊢
    rw [← h1.1]
    split at hi
    · rename_i hl; rw [if_pos hl]; exact h1.2 i c hi
    · rename_i hl; rw [if_neg hl]; exact h2.2 _ c hi⟩
theorem VRs.set {xs ys : List AV} {vs us : List Value} (h1 : VRs s h w xs vs) (h2 : VRs s h w ys us) (off : Nat) (hl : off + ys.length ≤ xs.length) : VRs s h w (setCells xs off ys) (setCells vs off us) :=
  ⟨by simp [setCells_length, h1.1], fun i c hi => by
    rw [setCells_get ys xs off i hl] at hi
    rw [setCells_get us vs off i (by rw [← h1.1, ← h2.1]; exact hl), ← h2.1]
    split at hi
    · rename_i hc; rw [if_pos hc]; exact h2.2 _ c hi
    · rename_i hc; rw [if_neg hc]; exact h1.2 i c hi⟩

theorem all_one {xs : List AV} {vs : List Value} (H : VRs s h w xs vs) (hl : xs.all AV.leaf = true) : ∀ v ∈ vs, v.oneCell' = true := by
  intro v hv
  obtain ⟨i, hi, rfl⟩ := List.mem_iff_getElem.1 hv
  have hx : i < xs.length := by rw [H.1]; exact hi
  obtain ⟨u, hu, hr⟩ := H.2 i xs[i] (List.getElem?_eq_getElem hx)
  rw [List.getElem?_eq_getElem hi] at hu
  injection hu with hu
  rw [hu]
  exact leaf_one (List.all_eq_true.1 hl _ (List.getElem_mem hx)) hr

theorem store_rel (TT : TabOk P C) (R : Rel s h w) {t : Nat} {a x : AV} {u v : Value} {h' : Heap} (ha : VR s h w a u) (hx : VR s h w x v) (hs : storeA C h t a x = some h') :
    ∃ w', (Instr.storeAt t u v).run P w = .ok () w' ∧ Ext s h w s h' w' ∧ Rel s h' w' := by
  unfold storeA at hs
  simp only [Option.bind_eq_bind] at hs
  replace hs := Option.bind_eq_some_iff.1 hs
  obtain ⟨ti, hti, hs⟩ := hs
  cases a <;> simp only [reduceCtorEq] at hs
  case ptr o off g =>
    replace hs := Option.bind_eq_some_iff.1 hs
    obtain ⟨cs, ho, hs⟩ := hs
    split at hs
    · rename_i hc
      simp only [Bool.and_eq_true, beq_iff_eq, decide_eq_true_eq] at hc
      obtain ⟨⟨hl, hle⟩, hleaf⟩ := hc
      injection hs with hs
      subst hs
      cases ha with
      | ptr _ _ _ b h1 h2 =>
        have hj : x ≠ .junk := by rintro rfl; simp [AV.cells, AV.leaf] at hleaf
        have hv := agg_cells hx hj
        obtain ⟨w', hrun, E, R'⟩ := store_cells (P := P) R h2 ho (by rw [hl]; exact hle) hv (all_one hv hleaf) 0
        refine ⟨w', ?_, E, R'⟩
        have hsz : v.cells.size = ti.size := by rw [← hl, hv.1]; simp
        simp only [Instr.storeAt, Instr.sureAddr, Sem.run_bind, Sem.run_pure, Result.andThen_ok, storeVar, run_sizeA (TT t ti hti), hsz, ne_eq, not_true_eq_false, if_false]
        exact hrun off rfl
      | ptrOld _ _ _ g' a h1 h2 => have := (genOf_obj ho).1; rw [this] at h1; injection h1; omega
    · cases hs

theorem zero_rel {t : Nat} {ti : TI} (T : TyOk P t ti) : ∃ z, (∀ w, (zeroValue t).run P w = .ok z w) ∧ VRs s h w ti.zero z.cells.toList := by
  obtain ⟨z, h1, h2, h3⟩ := run_zeroA T
  refine ⟨z, h1, by simp [h2], fun i c hi => ?_⟩
  have hlt : i < z.cells.size := by rw [h2]; exact (List.getElem?_eq_some_iff.1 hi).1
  refine ⟨z.cells[i], by simp [hlt], ?_⟩
  have := ofValue_rel (s := s) (h := h) (w := w) (h3 i c hi)
  simpa [hlt] using this

/-- A new object that a pointer names. -/
theorem newVar_rel (R : Rel s h w) (el : TypeId) {cs : List AV} {vs : Array Value} (hv : VRs s h w cs vs.toList) :
    HRun P s h w (do pure (.pointer (some (← newRow el vs)))) (.ptr h.length 0 0) (h ++ [.cells cs 0]) := by
  have key := new_cells R (cs := cs) (vs := vs) el (by have := hv.1; simp at this; omega) (fun i c hi => by
    obtain ⟨v, h1, h2⟩ := hv.2 i c hi; exact ⟨v, by simpa using h1, h2⟩)
  refine ⟨_, _, .pointer (some ⟨w.heap.size, 0, none⟩), ?_, key.1, key.2, .ptr _ _ _ w.heap.size (by rw [genOf_new]) (by simp [Sim.add])⟩
  simp only [newRow, Sem.run_bind, run_newObj, Result.andThen_ok, Sem.run_pure]
  rfl

theorem alloc_rel (TT : TabOk P C) (R : Rel s h w) {t : Nat} {ti : TI} (hti : C.ty t = some ti) : HRun P s h w (Instr.alloc t true (.tuple #[])) (.ptr h.length 0 0) (h ++ [.cells ti.zero 0]) := by
  obtain ⟨z, h1, h2⟩ := zero_rel (s := s) (h := h) (w := w) (TT t ti hti)
  obtain ⟨s', w', x, hr, rest⟩ := newVar_rel (P := P) R t h2
  exact ⟨s', w', x, by
    simp only [Instr.alloc, Sem.run_bind, h1, Result.andThen_ok, newVar]
    simpa only [Sem.run_bind] using hr, rest⟩

theorem box_rel (R : Rel s h w) (t : Nat) {a : AV} {u : Value} (ha : VR s h w a u) (hj : a ≠ .junk) : HRun P s h w (Instr.box t u) (.ptr h.length 0 0) (h ++ [.cells a.cells 0]) := by
  obtain ⟨s', w', x, hr, rest⟩ := newVar_rel (P := P) R t (agg_cells ha hj)
  exact ⟨s', w', x, by simpa only [Instr.box, newVar, Sem.run_bind] using hr, rest⟩


theorem foldl_set (vs : List Value) (off : Nat) : ∀ (k : Nat) (cs : Array Value), ((vs.zipIdx k).foldl (fun (cs : Array Value) (p : Value × Nat) => cs.setIfInBounds (off + p.2) p.1) cs).toList = setCells cs.toList (off + k) vs := by
  induction vs with
  | nil => intro k cs; rfl
  | cons v r ih =>
    intro k cs
    simp only [List.zipIdx_cons, List.foldl_cons, setCells]
    rw [ih (k + 1)]
    simp [Nat.add_assoc]

theorem fill_rel {place place' : Nat → Option (Nat × Nat)} (hp : ∀ i x, place i = some x → place' i = some x) : ∀ (ps : List (Nat × AV)) (qs : List (Nat × Value)) (cells cells' : List AV) (vs : Array Value),
    ps.length = qs.length → (∀ (i : Nat) p q, ps[i]? = some p → qs[i]? = some q → p.1 = q.1 ∧ VR s h w p.2 q.2 ∧ p.2 ≠ .junk) → VRs s h w cells vs.toList → fillA place cells ps = some cells' →
    ∃ us, Instr.fill place' vs qs = some us ∧ VRs s h w cells' us.toList
  | [], [], cells, cells', vs, _, _, hv, hf => by
    simp only [fillA, Option.some.injEq] at hf
    subst hf
    exact ⟨vs, rfl, hv⟩
  | p :: ps, q :: qs, cells, cells', vs, hl, hpq, hv, hf => by
    obtain ⟨i, x⟩ := p
    obtain ⟨j, v⟩ := q
    obtain ⟨rfl, hx, hj⟩ := hpq 0 _ _ rfl rfl
    simp only at hx hj
    simp only [fillA, Option.bind_eq_bind] at hf
    replace hf := Option.bind_eq_some_iff.1 hf
    obtain ⟨⟨off, size⟩, hpl, hf⟩ := hf
    simp only at hf
    split at hf
    · rename_i hc
      simp only [Bool.and_eq_true, beq_iff_eq, decide_eq_true_eq] at hc
      obtain ⟨h1, h2⟩ := hc
      have hxc := agg_cells hx hj
      have hvsz : v.cells.size = size := by have := hxc.1; simp at this; omega
      have hcl : cells.length = vs.size := by have := hv.1; simpa using this
      have hset := hv.set hxc off (by rw [h1]; exact h2)
      have hfold := foldl_set v.cells.toList off 0 vs
      obtain ⟨us, hus, hr⟩ := fill_rel hp ps qs _ cells' (v.cells.zipIdx.foldl (fun (cs : Array Value) (p : Value × Nat) => cs.setIfInBounds (off + p.2) p.1) vs) (by simpa using hl) (fun k p q hk hk' => hpq (k + 1) p q (by simpa using hk) (by simpa using hk'))
        (by
          have e : (v.cells.zipIdx.foldl (fun (cs : Array Value) (p : Value × Nat) => cs.setIfInBounds (off + p.2) p.1) vs).toList = setCells vs.toList off v.cells.toList := by
            rw [← Array.foldl_toList, Array.toList_zipIdx]
            exact hfold
          rw [e]; exact hset) hf
      refine ⟨us, ?_, hr⟩
      simp only [Instr.fill, hp i _ hpl]
      rw [if_neg (by simp [hvsz]; omega)]
      exact hus
    · cases hf

theorem mapM_list {α β : Type} (f : α → Sem β) (g : α → β) : ∀ (l : List α), (∀ a ∈ l, ∀ w, (f a).run P w = .ok (g a) w) → (l.mapM f).run P w = .ok (l.map g) w
  | [], _ => by simp
  | a :: l, hf => by
    rw [List.mapM_cons]
    simp only [Sem.run_bind, hf a (by simp) w, Result.andThen_ok, mapM_list f g l (fun b hb => hf b (by simp [hb])), Sem.run_pure, List.map_cons]
theorem mapM_arr {α β : Type} (f : α → Sem β) (g : α → β) (l : Array α) (hf : ∀ a ∈ l, ∀ w, (f a).run P w = .ok (g a) w) : (l.mapM f).run P w = .ok (l.map g) w := by
  rw [Array.mapM_eq_mapM_toList, Sem.run_map, mapM_list f g l.toList (fun a ha => hf a (by simpa using ha))]
  simp only [Result.andThen_ok]
  congr 1
  apply Array.ext'
  simp

theorem build_rel (TT : TabOk P C) {t : Nat} {ps : List (Nat × AV)} {qs : Array (Nat × Value)} {v : AV} (hl : ps.length = qs.size)
    (hpq : ∀ (i : Nat) p q, ps[i]? = some p → qs.toList[i]? = some q → p.1 = q.1 ∧ VR s h w p.2 q.2 ∧ p.2 ≠ .junk) (hv : buildA C t ps = some v) : PRun P s h w (Instr.build t qs) v := by
  unfold buildA at hv
  simp only [Option.bind_eq_bind] at hv
  replace hv := Option.bind_eq_some_iff.1 hv
  obtain ⟨ti, hti, hv⟩ := hv
  obtain ⟨d, hd, hok⟩ := (TT t ti hti).und
  obtain ⟨z, hz1, hz2⟩ := zero_rel (s := s) (h := h) (w := w) (TT t ti hti)
  generalize ti.td = td at hok hv
  cases td <;> simp only [reduceCtorEq] at hv
  case struct fs =>
    replace hv := Option.bind_eq_some_iff.1 hv
    obtain ⟨cs, hf, hv⟩ := hv
    injection hv with hv; subst hv
    cases d <;> simp only [TD.ok] at hok
    rename_i l
    have hrun := mapM_arr (P := P) (w := w) (fun f : Field => do pure (f.offset, ← sizeOf f.type)) (fun f : Field => (f.offset, ((P.info? f.type).map (·.size)).getD 0)) l
    · have hall := (TT t ti hti).fields l hd
      have hrun := hrun (fun f hf w => by
        obtain ⟨i, hi⟩ := hall f hf
        simp [sizeOf, typeInfo, hi])
      obtain ⟨us, hus, hr⟩ := fill_rel (place' := ((l.map fun f : Field => (f.offset, ((P.info? f.type).map (·.size)).getD 0))[·]?)) (fun i x hx => by
        obtain ⟨⟨ft, off⟩, h1, h2⟩ := Option.bind_eq_some_iff.1 hx
        obtain ⟨tf, h3, h4⟩ := Option.map_eq_some_iff.1 h2
        obtain ⟨info, z, h5, h6, _⟩ := (TT ft tf h3).info
        rw [← hok] at h1
        simp only [List.getElem?_map, Option.map_eq_some_iff, Prod.mk.injEq] at h1
        obtain ⟨fld, h7, h8, h9⟩ := h1
        rw [← h4]
        have : l[i]? = some fld := by simpa using h7
        simp [this, h8, h9, h5, h6]) ps qs.toList ti.zero cs z.cells (by simpa using hl) hpq hz2 hf
      refine ⟨.agg us, ?_, .agg _ _ (by have := hr.1; simpa using this) (fun i c hi => ?_)⟩
      · simp only [Instr.build, Sem.run_bind, hz1, Result.andThen_ok, run_und hd, hrun, hus, Sem.run_pure]
      · obtain ⟨u, hu, hur⟩ := hr.2 i c hi
        have hlt : i < us.size := by have := (List.getElem?_eq_some_iff.1 hu).1; simpa using this
        have : us[i] = u := by simpa [hlt] using hu
        simp [hlt, this, hur]
  case array n e =>
    replace hv := Option.bind_eq_some_iff.1 hv
    obtain ⟨te, hte, hv⟩ := hv
    replace hv := Option.bind_eq_some_iff.1 hv
    obtain ⟨cs, hf, hv⟩ := hv
    injection hv with hv; subst hv
    cases d <;> simp only [TD.ok] at hok
    obtain ⟨ea, eb⟩ := hok
    rw [ea, eb] at hd
    obtain ⟨us, hus, hr⟩ := fill_rel (place' := fun i => some (i * te.size, te.size)) (fun i x hx => hx) ps qs.toList ti.zero cs z.cells (by simpa using hl) hpq hz2 hf
    refine ⟨.agg us, ?_, .agg _ _ (by have := hr.1; simpa using this) (fun i c hi => ?_)⟩
    · simp only [Instr.build, Sem.run_bind, hz1, Result.andThen_ok, run_und hd, run_sizeA (TT _ _ hte), hus, Sem.run_pure]
    · obtain ⟨u, hu, hur⟩ := hr.2 i c hi
      have hlt : i < us.size := by have := (List.getElem?_eq_some_iff.1 hu).1; simpa using this
      have : us[i] = u := by simpa [hlt] using hu
      simp [hlt, this, hur]

theorem copies_length (n : Nat) (z : List AV) : (copies n z).length = n * z.length := by
  induction n with
  | zero => simp [copies]
  | succ n ih => simp [copies, ih]; rw [Nat.succ_mul]; omega
theorem copies_get (n : Nat) (z : List AV) (i : Nat) (hi : i < n * z.length) : (copies n z)[i]? = z[i % z.length]? := by
  induction n generalizing i with
  | zero => simp at hi
  | succ n ih =>
    simp only [copies]
    by_cases h1 : i < z.length
    · rw [List.getElem?_append_left h1, Nat.mod_eq_of_lt h1]
    · rw [List.getElem?_append_right (by omega), ih (i - z.length) (by rw [Nat.succ_mul] at hi; omega)]
      rw [Nat.mod_eq_sub_mod (show z.length ≤ i by omega)]

/-- Zero cells, so many times. -/
theorem zeros_rel {zero : List AV} {z : Array Value} (hz : VRs s h w zero z.toList) (n : Nat) : VRs s h w (copies n zero) ((Array.range (n * z.size)).map fun i => z[i % z.size]!).toList := by
  have hl : zero.length = z.size := by have := hz.1; simpa using this
  refine ⟨by simp [copies_length, hl], fun i c hi => ?_⟩
  have hlt : i < n * zero.length := by have := (List.getElem?_eq_some_iff.1 hi).1; rw [copies_length] at this; exact this
  rw [copies_get n zero i hlt] at hi
  obtain ⟨v, hv, hr⟩ := hz.2 _ c hi
  refine ⟨v, ?_, hr⟩
  rw [hl] at hv hlt
  have hm : i % z.size < z.size := Nat.mod_lt _ (by
    rcases Nat.eq_zero_or_pos z.size with h0 | h0
    · rw [h0] at hlt; simp at hlt
    · exact h0)
  have : z[i % z.size]! = v := by
    rw [getElem!_pos z _ hm]
    have : z[i % z.size]? = some v := by simpa using hv
    rw [Array.getElem?_eq_getElem hm] at this
    injection this
  simp [Array.toList_map, Array.toList_range, List.getElem?_map, List.getElem?_range hlt, this]
end
end Go.Rv

/-
  Slices: literals, cuts, elements; what is appended.
-/
set_option linter.unusedSimpArgs false
set_option linter.unusedVariables false
namespace Go.Rv
section
variable {P : Program} {C : Cfg} {s : Sim} {h : Heap} {w : World}

theorem one_cells (c : AV) : (one c).cells = [c] := by cases c <;> rfl

theorem group_length (n : Nat) (cs : List AV) (sz : Nat) : (group n cs sz).length = n := by
  induction n generalizing cs with
  | zero => rfl
  | succ n ih => simp [group, ih]

theorem group_get (n : Nat) : ∀ (cs : List AV) (sz i : Nat) (x : AV), n * sz ≤ cs.length → (group n cs sz)[i]? = some x → x.cells = (cs.drop (i * sz)).take sz := by
  induction n with
  | zero => intro cs sz i x _ hx; simp [group] at hx
  | succ n ih =>
    intro cs sz i x hl hx
    rw [Nat.succ_mul] at hl
    cases i with
    | zero =>
      simp only [group, List.getElem?_cons_zero, Option.some.injEq] at hx
      subst hx
      simp only [Nat.zero_mul, List.drop_zero]
      split
      · rename_i h1
        have h1' : sz = 1 := by simpa using h1
        subst h1'
        rw [one_cells]
        cases cs with
        | nil => simp at hl
        | cons c r => rfl
      · rfl
    | succ i =>
      simp only [group, List.getElem?_cons_succ] at hx
      rw [ih (cs.drop sz) sz i x (by simp; omega) hx, List.drop_drop]
      rw [Nat.succ_mul, Nat.add_comm]

theorem group_cells_length {n : Nat} {cs : List AV} {sz i : Nat} {x : AV} (hl : n * sz ≤ cs.length) (hx : (group n cs sz)[i]? = some x) : x.cells.length = sz := by
  rw [group_get n cs sz i x hl hx]
  have hi : i < n := by have := (List.getElem?_eq_some_iff.1 hx).1; rw [group_length] at this; exact this
  have : (i + 1) * sz ≤ n * sz := Nat.mul_le_mul_right _ hi
  rw [Nat.succ_mul] at this
  simp
  omega

theorem group_cell {n : Nat} {cs : List AV} {sz i j : Nat} {x y : AV} (hl : n * sz ≤ cs.length) (hx : (group n cs sz)[i]? = some x) (hy : x.cells[j]? = some y) : cs[i * sz + j]? = some y := by
  rw [group_get n cs sz i x hl hx, List.getElem?_take] at hy
  split at hy
  · simpa using hy
  · cases hy

theorem group_flat (n : Nat) : ∀ (cs : List AV) (sz : Nat), n * sz ≤ cs.length → ((group n cs sz).map AV.cells).flatten = cs.take (n * sz) := by
  induction n with
  | zero => intro cs sz _; simp [group]
  | succ n ih =>
    intro cs sz hl
    rw [Nat.succ_mul] at hl
    have h0 := group_get (n + 1) cs sz 0 _ (by rw [Nat.succ_mul]; exact hl) rfl
    simp only [group, List.map_cons, List.flatten_cons]
    simp only [Nat.zero_mul, List.drop_zero] at h0
    rw [h0, ih (cs.drop sz) sz (by simp; omega), Nat.succ_mul, Nat.add_comm (n * sz) sz, List.take_add]

/-- A row of cells that is never written, read as a slice. -/
theorem lst_of_cells {cs : List AV} {b off n sz c : Nat} {room : Room} (hI : 0 < n → s.I b) (hl : n * sz ≤ cs.length) (hr : Reads s h w b off cs) (hroom : room.ok c) (hc : n ≤ c) :
    VR s h w (.lst (group n cs sz) sz room) (.slice (some ⟨b, off, none⟩) n c) := by
  have := VR.lst (s := s) (h := h) (w := w) (group n cs sz) sz room b off c (fun i j => (w.cell? ⟨b, off + i * sz + j, none⟩).getD undef) (by rw [group_length]; exact hI) hroom (by rw [group_length]; exact hc)
    (fun i x hx => group_cells_length hl hx)
    (fun i j x y hx hy => by
      obtain ⟨v, hv, _⟩ := hr _ y (group_cell hl hx hy)
      rw [show off + i * sz + j = off + (i * sz + j) from by omega, hv]; rfl)
    (fun i j x y hx hy => by
      obtain ⟨v, hv, hvr⟩ := hr _ y (group_cell hl hx hy)
      rw [show off + i * sz + j = off + (i * sz + j) from by omega, hv]; exact hvr)
  rw [group_length] at this
  exact this

theorem buildSlice_rel (TT : TabOk P C) (R : Rel s h w) {t el len : Nat} {ti te : TI} {ps : List (Nat × AV)} {qs : Array (Nat × Value)} {cs : List AV} (hti : C.ty t = some ti) (htd : ti.td = .slice el) (hte : C.ty el = some te)
    (hz : te.zero.length = te.size) (hle : len * te.size ≤ 16777216) (hl : ps.length = qs.size)
    (hpq : ∀ (i : Nat) p q, ps[i]? = some p → qs.toList[i]? = some q → p.1 = q.1 ∧ VR s h w p.2 q.2 ∧ p.2 ≠ .junk)
    (hf : fillA (fun i => some (i * te.size, te.size)) (copies len te.zero) ps = some cs) :
    HRun P s h w (Instr.buildSlice t len qs) (.lst (group len cs te.size) te.size (.exact len)) h ∧
    HRun P s h w (Instr.buildSlice t len qs) (.msl h.length 0 len te.size 0 (some len)) (h ++ [.cells cs 0]) := by
  obtain ⟨d, hd, hok⟩ := (TT t ti hti).und
  rw [htd] at hok
  cases d <;> simp only [TD.ok] at hok
  rw [hok] at hd
  obtain ⟨z, hz1, hz2⟩ := zero_rel (s := s) (h := h) (w := w) (TT el te hte)
  have hzs : z.cells.size = te.size := by have := hz2.1; simp at this; omega
  have hzr := zeros_rel hz2 len
  obtain ⟨us, hus, hr⟩ := fill_rel (place' := fun i => some (i * te.size, te.size)) (fun i x hx => hx) ps qs.toList _ cs _ (by simpa using hl) hpq hzr hf
  have hcl : cs.length = len * te.size := by
    have h1 : ∀ (ps : List (Nat × AV)) (c c' : List AV), fillA (fun i => some (i * te.size, te.size)) c ps = some c' → c'.length = c.length := by
      intro ps
      induction ps with
      | nil => intro c c' hc; simp [fillA] at hc; rw [hc]
      | cons p ps ih =>
        intro c c' hc
        obtain ⟨i, x⟩ := p
        simp only [fillA, Option.bind_eq_bind, Option.bind_some] at hc
        split at hc
        · rw [ih _ _ hc, setCells_length]
        · cases hc
    rw [h1 ps _ cs hf, copies_length, hz]
  have hrun : (Instr.buildSlice t len qs).run P w = .ok (.slice (some ⟨w.heap.size, 0, none⟩) len len) (w.alloc (.cells us el)) := by
    have tail : (newRow el us >>= fun a => (pure (Value.slice (some a) len len) : Sem Value)).run P w = .ok (.slice (some ⟨w.heap.size, 0, none⟩) len len) (w.alloc (.cells us el)) := by
      simp only [newRow, Sem.run_bind, run_newObj, Result.andThen_ok, Sem.run_pure]
      rfl
    rw [hzs] at hus
    simp only [Instr.buildSlice, Sem.run_bind, run_und hd, Result.andThen_ok, run_sizeA (TT _ _ hte), show ¬ len * te.size > 2 ^ 24 from by omega, if_false, Sem.run_pure]
    by_cases h0 : len * te.size = 0
    · have r0 : ∀ f : Nat → Value, Array.map f (Array.range 0) = #[] := fun f => by apply Array.ext'; simp
      have hus0 : Instr.fill (fun i => some (i * te.size, te.size)) #[] qs.toList = some us := by rw [h0, r0] at hus; exact hus
      simp only [h0, if_true, Sem.run_bind, Sem.run_pure, Result.andThen_ok]
      rw [r0, hus0]
      exact tail
    · simp only [h0, if_false, Sem.run_bind, hz1, Sem.run_pure, Result.andThen_ok, hzs]
      rw [hus]
      exact tail
  refine ⟨⟨_, _, _, hrun, Ext.block s h w _ true, R.block _ true, ?_⟩, ?_⟩
  · refine lst_of_cells (fun _ => .inr ⟨rfl, rfl⟩) (by omega) (fun i c hi => ?_) rfl (Nat.le_refl _)
    obtain ⟨v, hv, hvr⟩ := hr.2 i c hi
    refine ⟨v, ?_, hvr.ext R.apart (Ext.block s h w _ true)⟩
    simp only [Nat.zero_add, World.cell?, heap_alloc_at]
    simpa using hv
  · have key := new_cells R (cs := cs) (vs := us) el (by have := hr.1; simp at this; omega) (fun i c hi => by
      obtain ⟨v, h1, h2⟩ := hr.2 i c hi; exact ⟨v, by simpa using h1, h2⟩)
    refine ⟨_, _, _, hrun, key.1, key.2, .msl _ _ _ _ _ _ w.heap.size len el us.size 0 (.inl rfl) (by rw [genOf_new]) (by simp [Sim.add]) (Nat.le_refl _) (fun m hm => by injection hm) (fun hn => by cases hn) ?_ ?_⟩
    · simp only [World.shape?, heap_alloc_at]
    · have := hr.1; simp at this; omega

/-- A variable that is never written. -/
theorem boxImm_rel (R : Rel s h w) (t : Nat) {a : AV} {u : Value} (ha : VR s h w a u) (hj : a ≠ .junk) : HRun P s h w (Instr.box t u) (.ref a.cells) h := by
  have hv := agg_cells ha hj
  have hrun : (Instr.box t u).run P w = .ok (.pointer (some ⟨w.heap.size, 0, none⟩)) (w.alloc (.cells u.cells t)) := by
    simp only [Instr.box, newVar, newRow, Sem.run_bind, run_newObj, Result.andThen_ok, Sem.run_pure]
    rfl
  refine ⟨_, _, _, hrun, Ext.block s h w _ true, R.block _ true, .ref _ w.heap.size 0 (fun i => u.cells.getD i undef) (fun _ => .inr ⟨rfl, rfl⟩) (fun i c hi => ?_) (fun i c hi => ?_)⟩
  · obtain ⟨v, hv1, _⟩ := hv.2 i c hi
    simp only [Nat.zero_add, World.cell?, heap_alloc_at]
    have hv1' : u.cells[i]? = some v := by simpa using hv1
    rw [Array.getD_eq_getD_getElem?, hv1']
    simp [hv1']
  · obtain ⟨v, hv1, hvr⟩ := hv.2 i c hi
    have hv1' : u.cells[i]? = some v := by simpa using hv1
    rw [Array.getD_eq_getD_getElem?, hv1']
    exact hvr.ext R.apart (Ext.block s h w _ true)


theorem part_rel {t : Nat} {ti : TI} (T : TyOk P t ti) {cs : List AV} {vs : Array Value} {off : Nat} {v : AV} (hl : cs.length = vs.size) (hr : ∀ (i : Nat) c, cs[i]? = some c → VR s h w c (vs.getD i undef)) (hp : Rv.part ti (cs.drop off) = some v) :
    PRun P s h w (Go.part t vs off) v := by
  unfold Rv.part at hp
  unfold PRun
  simp only [Go.part, Sem.run_bind, run_isAggA T, Result.andThen_ok]
  split at hp
  · rename_i hagg
    split at hp
    · rename_i hle
      injection hp with hp; subst hp
      have hle' : off + ti.size ≤ vs.size ∨ ti.size = 0 := by simp at hle; omega
      simp only [hagg, if_true, Sem.run_bind, run_sizeA T, Result.andThen_ok, Sem.run_pure]
      refine ⟨_, rfl, .agg _ _ (by simp at hle ⊢; omega) fun i c hi => ?_⟩
      rw [List.getElem?_take] at hi
      split at hi
      · rename_i hlt
        rw [List.getElem?_drop] at hi
        have := hr _ c hi
        have hb : off + i < vs.size := by rw [← hl]; exact (List.getElem?_eq_some_iff.1 hi).1
        have e : (vs.extract off (off + ti.size)).getD i undef = vs.getD (off + i) undef := by
          have h1 : i < min (off + ti.size) vs.size - off := by omega
          simp [Array.getD, hb, h1]
        rw [e]; exact this
      · cases hi
    · cases hp
  · rename_i hagg
    have hagg' : ti.td.isAgg = false := by simpa using hagg
    have h0 : cs[off]? = some v := by
      have : (cs.drop off)[0]? = some v := by rw [← List.head?_eq_getElem?]; exact hp
      simpa using this
    have hb : off < vs.size := by rw [← hl]; exact (List.getElem?_eq_some_iff.1 h0).1
    have := hr off v h0
    simp only [hagg', Bool.false_eq_true, if_false]
    refine ⟨vs[off], by simp [hb], ?_⟩
    simpa [hb] using this

theorem field_rel (TT : TabOk P C) {t k : Nat} {a v : AV} {u : Value} (ha : VR s h w a u) (hv : fieldA C t a k = some v) : PRun P s h w (Instr.field t u k) v := by
  unfold fieldA at hv
  simp only [Option.bind_eq_bind] at hv
  replace hv := Option.bind_eq_some_iff.1 hv
  obtain ⟨ti, hti, hv⟩ := hv
  obtain ⟨d, hd, hok⟩ := (TT t ti hti).und
  generalize ti.td = td at hok hv
  split at hv
  · rename_i fs cs
    replace hv := Option.bind_eq_some_iff.1 hv
    obtain ⟨⟨ft, off⟩, hf, hv⟩ := hv
    replace hv := Option.bind_eq_some_iff.1 hv
    obtain ⟨tf, htf, hv⟩ := hv
    cases d <;> simp only [TD.ok] at hok
    rename_i l
    rw [← hok] at hf
    simp only [List.getElem?_map, Option.map_eq_some_iff, Prod.mk.injEq] at hf
    obtain ⟨fld, h1, rfl, rfl⟩ := hf
    have h1' : l[k]? = some fld := by simpa using h1
    cases ha with
    | agg _ vs hl hr =>
      have := part_rel (P := P) (TT _ _ htf) hl hr hv
      obtain ⟨x, hx, hxr⟩ := this
      refine ⟨x, ?_, hxr⟩
      simp only [Instr.field, Sem.run_bind, run_und hd, Result.andThen_ok, h1', asAgg, Sem.run_pure, hx]
  · cases hv

theorem index_rel (TT : TabOk P C) {t : Nat} {a i v : AV} {u ui : Value} (ha : VR s h w a u) (hi : VR s h w i ui) (hv : indexA C t a i = some v) : PRun P s h w (Instr.index t u ui) v := by
  unfold indexA at hv
  simp only [Option.bind_eq_bind] at hv
  replace hv := Option.bind_eq_some_iff.1 hv
  obtain ⟨ti, hti, hv⟩ := hv
  obtain ⟨d, hd, hok⟩ := (TT t ti hti).und
  generalize ti.td = td at hok hv
  split at hv
  · rename_i l k n
    cases ha; cases hi
    split at hv
    · cases hv
    · rename_i hn
      obtain ⟨c, hc, rfl⟩ := Option.map_eq_some_iff.1 hv
      cases d <;> simp only [TD.ok] at hok
      refine ⟨.int .u8 c.toNat, ?_, .int _ _⟩
      have hlt : n.toNat < l.length := (List.getElem?_eq_some_iff.1 hc).1
      have hb : (⟨l.toArray⟩ : ByteArray)[n.toNat]? = some c := by
        have h1 : n.toNat < (⟨l.toArray⟩ : ByteArray).size := by simpa [ByteArray.size] using hlt
        have h2 : l[n.toNat] = c := by rw [List.getElem?_eq_getElem hlt] at hc; injection hc
        rw [getElem?_pos (⟨l.toArray⟩ : ByteArray) n.toNat h1]
        rw [← h2]
        rfl
      simp only [Instr.index, asIntOf, Sem.run_bind, Sem.run_pure, Result.andThen_ok, run_und hd, show 0 ≤ n from by omega, if_true, hb]
  · rename_i len e cs k n
    split at hv
    · cases hv
    · rename_i hn
      split at hv
      · rename_i hlt
        replace hv := Option.bind_eq_some_iff.1 hv
        obtain ⟨te, hte, hv⟩ := hv
        simp only [hte, Option.bind_some] at hv
        cases d <;> simp only [TD.ok] at hok
        obtain ⟨ea, eb⟩ := hok
        rw [ea, eb] at hd
        cases hi
        cases ha with
        | agg _ vs hl hr =>
          obtain ⟨x, hx, hxr⟩ := part_rel (P := P) (TT _ _ hte) hl hr hv
          refine ⟨x, ?_, hxr⟩
          simp only [Instr.index, asIntOf, Sem.run_bind, Sem.run_pure, Result.andThen_ok, run_und hd, show 0 ≤ n ∧ n < (len : Int) from ⟨by omega, by omega⟩, and_self, if_true, run_sizeA (TT _ _ hte), hx]
      · cases hv
  · cases hv
end
end Go.Rv

/-
  Slices that are cut, appended to, made.
-/
set_option linter.unusedSimpArgs false
set_option linter.unusedVariables false
namespace Go.Rv
section
variable {P : Program} {C : Cfg} {s : Sim} {h : Heap} {w : World}

def VRo (s : Sim) (h : Heap) (w : World) : Option AV → Option Value → Prop
  | none, none => True
  | some x, some v => VR s h w x v
  | _, _ => False

theorem bound_run {x : AV} {u : Value} {d most y n : Nat} (hx : VR s h w x u) (hb : boundA (some x) d most = some n) (hm : most ≤ y) : n ≤ most ∧ ∀ code, (Instr.sliceBound u y code).run P w = .ok n w := by
  unfold boundA at hb
  cases x <;> simp only [reduceCtorEq] at hb
  case int k i =>
    cases hx
    split at hb
    · rename_i hc
      simp only [Bool.and_eq_true, decide_eq_true_eq] at hc
      injection hb with hb; subst hb
      refine ⟨by omega, fun code => ?_⟩
      simp only [Instr.sliceBound, asIntOf, Sem.run_bind, Sem.run_pure, Result.andThen_ok, show 0 ≤ i ∧ i ≤ (y : Int) from ⟨by omega, by omega⟩, and_self, if_true]
    · cases hb

theorem bounds_run {isSlice : Bool} {len cap most a b : Nat} {lo hi : Option AV} {lov hiv : Option Value} (hlo : VRo s h w lo lov) (hhi : VRo s h w hi hiv) (hb : boundA hi len most = some b) (ha : boundA lo 0 b = some a) (hm : most ≤ cap) (hl : len ≤ cap) :
    a ≤ b ∧ b ≤ cap ∧ (hi = none → b = len) ∧ (hi ≠ none → b ≤ most) ∧ (Instr.sliceBounds isSlice len cap lov hiv none).run P w = .ok (a, b, cap) w := by
  have hA : ∀ {a : Nat} {lo : Option AV} {lov : Option Value}, VRo s h w lo lov → boundA lo 0 b = some a → a ≤ b ∧ ∀ x, lov = some x → (Instr.sliceBound x b .sliceB).run P w = .ok a w := by
    intro a lo lov hlo ha
    cases lo with
    | none =>
      cases lov with
      | none =>
        simp only [boundA, Option.some.injEq] at ha
        subst ha
        exact ⟨Nat.zero_le _, fun x hx => by cases hx⟩
      | some v => exact hlo.elim
    | some x =>
      cases lov with
      | none => exact hlo.elim
      | some v =>
        obtain ⟨h3, h4⟩ := bound_run (P := P) hlo ha (Nat.le_refl _)
        exact ⟨h3, fun y hy => by injection hy with hy; subst hy; exact h4 _⟩
  obtain ⟨hab, hrunA⟩ := hA hlo ha
  have hnone : lov = none → a = 0 := by
    rintro rfl
    cases lo with
    | none => simpa [boundA] using ha.symm
    | some x => exact hlo.elim
  cases hi with
  | none =>
    cases hiv with
    | some v => exact hhi.elim
    | none =>
      simp only [boundA, Option.some.injEq] at hb
      subst hb
      refine ⟨hab, hl, fun _ => rfl, fun h => absurd rfl h, ?_⟩
      cases lov with
      | none =>
        obtain rfl := hnone rfl
        simp [Instr.sliceBounds]
      | some x => simp [Instr.sliceBounds, hrunA x rfl]
  | some y =>
    cases hiv with
    | none => exact hhi.elim
    | some v =>
      obtain ⟨h2, h3⟩ := bound_run (P := P) hhi hb hm
      refine ⟨hab, (by omega), (fun h => by cases h), (fun _ => h2), ?_⟩
      cases lov with
      | none =>
        obtain rfl := hnone rfl
        simp [Instr.sliceBounds, h3]
      | some x => simp [Instr.sliceBounds, h3, hrunA x rfl]

theorem lst_empty (z : Nat) (r : Room) (b off c : Nat) (hr : r.ok c) : VR s h w (.lst [] z r) (.slice (some ⟨b, off, none⟩) 0 c) :=
  .lst [] z r b off c (fun _ _ => .nilFunc) (fun h0 => by simp at h0) hr (Nat.zero_le _) (fun i x hx => by simp at hx) (fun i j x y hx => by simp at hx) (fun i j x y hx => by simp at hx)

theorem lst_cut {xs : List AV} {z sz a b b0 off : Nat} {r' : Room} {f : Nat → Nat → Value} (hI : 0 < xs.length → s.I b0) (hz : ∀ (i : Nat) x, xs[i]? = some x → x.cells.length = z)
    (hc : ∀ (i j : Nat) x y, xs[i]? = some x → x.cells[j]? = some y → w.cell? ⟨b0, off + i * z + j, none⟩ = some (f i j)) (hr : ∀ (i j : Nat) x y, xs[i]? = some x → x.cells[j]? = some y → VR s h w y (f i j))
    (hab : a ≤ b) (hb : b ≤ xs.length) (hsz : z = sz ∨ xs = []) (m : Nat) (hm : b ≤ m) (hroom : r'.ok (m - a)) :
    VR s h w (.lst ((xs.take b).drop a) z r') (.slice (some (if m = a then ⟨b0, off, none⟩ else (⟨b0, off, none⟩ : Addr).add (a * sz))) (b - a) (m - a)) := by
  by_cases he : b = a
  · subst he
    have e : (xs.take b).drop b = [] := by apply List.drop_eq_nil_of_le; simp; omega
    rw [e, Nat.sub_self]
    split
    · exact lst_empty _ _ _ _ _ hroom
    · rw [addr_add]; exact lst_empty _ _ _ _ _ hroom
  · have hlt : a < b := by omega
    have hne : xs ≠ [] := by rintro rfl; simp at hb; omega
    obtain rfl : z = sz := hsz.resolve_right hne
    rw [if_neg (by omega), addr_add]
    have hlen : ((xs.take b).drop a).length = b - a := by simp; omega
    have get : ∀ (i : Nat) x, ((xs.take b).drop a)[i]? = some x → xs[a + i]? = some x := fun i x hx => by
      rw [List.getElem?_drop, List.getElem?_take] at hx
      split at hx
      · exact hx
      · cases hx
    have := VR.lst (s := s) (h := h) (w := w) ((xs.take b).drop a) z r' b0 (off + a * z) (m - a) (fun i j => f (a + i) j) (fun _ => hI (by omega)) hroom (by omega)
      (fun i x hx => hz _ x (get i x hx))
      (fun i j x y hx hy => by
        have := hc _ j x y (get i x hx) hy
        rw [Nat.add_mul, ← Nat.add_assoc] at this
        exact this)
      (fun i j x y hx hy => hr _ j x y (get i x hx) hy)
    rw [hlen] at this
    exact this

theorem slice_rel (TT : TabOk P C) (R : Rel s h w) {t : Nat} {a v : AV} {u : Value} {lo hi : Option AV} {lov hiv : Option Value} (ha : VR s h w a u) (hlo : VRo s h w lo lov) (hhi : VRo s h w hi hiv) (hv : sliceA C h t a lo hi none = some v) :
    PRun P s h w (Instr.sliceAt t u lov hiv none) v := by
  unfold sliceA at hv
  simp only [Option.bind_eq_bind] at hv
  replace hv := Option.bind_eq_some_iff.1 hv
  obtain ⟨ti, hti, hv⟩ := hv
  obtain ⟨d, hd, hok⟩ := (TT t ti hti).und
  generalize ti.td = td at hok hv
  split at hv
  · -- a string
    rename_i l
    simp only [Option.isSome_none, Bool.false_eq_true, if_false] at hv
    replace hv := Option.bind_eq_some_iff.1 hv
    obtain ⟨b, hb, hv⟩ := hv
    replace hv := Option.bind_eq_some_iff.1 hv
    obtain ⟨x, hx, hv⟩ := hv
    injection hv with hv; subst hv
    cases ha
    cases d <;> simp only [TD.ok] at hok
    have hsz : (⟨l.toArray⟩ : ByteArray).size = l.length := by simp [ByteArray.size]
    obtain ⟨h1, h2, _, _, h5⟩ := bounds_run (P := P) (isSlice := false) hlo hhi hb hx (Nat.le_refl _) (Nat.le_refl _)
    refine ⟨.string ⟨((l.take b).drop x).toArray⟩, ?_, .str _⟩
    simp only [Instr.sliceAt, Sem.run_bind, run_und hd, Result.andThen_ok, Instr.slice, Option.isSome_none, Bool.false_eq_true, if_false, hsz, h5, Sem.run_pure]
    rw [Lib.extract_eq]
    simp [List.drop_take]
  · -- a slice that is never written
    rename_i e xs z r
    replace hv := Option.bind_eq_some_iff.1 hv
    obtain ⟨te, hte, hv⟩ := hv
    split at hv
    · cases hv
    · rename_i hz0
      have hz1 : z = te.size ∨ xs = [] := by
        simp only [Bool.not_eq_true', Bool.or_eq_false_iff, not_and, Bool.not_eq_false, beq_eq_false_iff_ne, ne_eq] at hz0
        by_cases e1 : z = te.size
        · exact .inl e1
        · exact .inr (by simpa using hz0 e1)
      replace hv := Option.bind_eq_some_iff.1 hv
      obtain ⟨b, hb, hv⟩ := hv
      replace hv := Option.bind_eq_some_iff.1 hv
      obtain ⟨x, hx, hv⟩ := hv
      injection hv with hv
      cases d <;> simp only [TD.ok] at hok
      rw [hok] at hd
      cases ha with
      | lstNil =>
        obtain ⟨h1, h2, _, _, h5⟩ := bounds_run (P := P) (isSlice := true) hlo hhi hb hx (Nat.le_refl _) (Nat.le_refl _)
        have : b = 0 := by simpa using h2
        subst this
        have : x = 0 := by omega
        subst this
        simp only [List.take_zero, List.drop_nil] at hv
        subst hv
        simp only [List.length_nil] at h5
        refine ⟨.slice none 0 0, ?_, .lstNil _⟩
        simp only [Instr.sliceAt, Sem.run_bind, run_und hd, Result.andThen_ok, Instr.slice, h5, run_sizeA (TT _ _ hte), Sem.run_pure]
        rfl
      | lstEmpty _ A =>
        obtain ⟨h1, h2, _, _, h5⟩ := bounds_run (P := P) (isSlice := true) hlo hhi hb hx (Nat.le_refl _) (Nat.le_refl _)
        have : b = 0 := by simpa using h2
        subst this
        have : x = 0 := by omega
        subst this
        simp only [List.take_zero, List.drop_nil] at hv
        subst hv
        simp only [List.length_nil] at h5
        refine ⟨.slice (some A) 0 0, ?_, .lstEmpty _ A⟩
        simp only [Instr.sliceAt, Sem.run_bind, run_und hd, Result.andThen_ok, Instr.slice, h5, run_sizeA (TT _ _ hte), Sem.run_pure]
        rfl
      | lst _ _ _ b0 off c f hI hr hle hz hc hrr =>
        obtain ⟨h1, h2, h3, h4, h5⟩ := bounds_run (P := P) (isSlice := true) hlo hhi hb hx (Nat.le_trans (Nat.le_refl _) hle) hle
        have hbl : b ≤ xs.length := by
          cases hi with
          | none => exact Nat.le_of_eq (h3 rfl)
          | some y => exact h4 (by simp)
        subst hv
        refine ⟨.slice (some (if c = x then ⟨b0, off, none⟩ else (⟨b0, off, none⟩ : Addr).add (x * te.size))) (b - x) (c - x), ?_, ?_⟩
        · simp only [Instr.sliceAt, Sem.run_bind, run_und hd, Result.andThen_ok, Instr.slice, h5, run_sizeA (TT _ _ hte), Sem.run_pure]
          congr 2
          split <;> rfl
        · refine lst_cut hI hz hc hrr h1 hbl hz1 c (by omega) ?_
          cases r with
          | nil => exact hr.elim
          | exact n =>
            have hr' : c = n := hr
            subst hr'
            rfl
          | «open» => trivial
  · -- an object's slice
    rename_i e o off len sz g cap
    replace hv := Option.bind_eq_some_iff.1 hv
    obtain ⟨cs, ho, hv⟩ := hv
    replace hv := Option.bind_eq_some_iff.1 hv
    obtain ⟨te, hte, hv⟩ := hv
    simp only [Option.isSome_none, Bool.false_or, bne_iff_ne, ne_eq, ite_not] at hv
    split at hv
    · rename_i hsz
      replace hv := Option.bind_eq_some_iff.1 hv
      obtain ⟨b, hb, hv⟩ := hv
      replace hv := Option.bind_eq_some_iff.1 hv
      obtain ⟨x, hx, hv⟩ := hv
      injection hv with hv; subst hv
      cases d <;> simp only [TD.ok] at hok
      rw [hok] at hd
      obtain ⟨hg, _, hlen⟩ := genOf_obj ho
      cases ha with
      | msl _ _ _ _ _ _ b0 c el n off' hoff h1 h2 h3 h4 h5 h6 h7 =>
        have hm : (match (generalizing := false) cap with | some c => c | none => if sz == 0 then len else (cs.length - off) / sz) ≤ c := by
          cases cap with
          | some m => exact Nat.le_of_eq (h4 m rfl).symm
          | none =>
            simp only
            split
            · exact h3
            · rename_i hs
              have hs' : 0 < sz := by have : ¬ sz = 0 := by simpa using hs
                                      omega
              have := h5 rfl
              rw [hlen] at this
              exact Nat.le_of_lt_succ ((Nat.div_lt_iff_lt_mul hs').2 (by rw [Nat.succ_mul]; omega))
        obtain ⟨e1, e2, e3, e4, e5⟩ := bounds_run (P := P) (isSlice := true) hlo hhi hb hx hm h3
        refine ⟨.slice (some (if c = x then ⟨b0, off', none⟩ else (⟨b0, off', none⟩ : Addr).add (x * te.size))) (b - x) (c - x), ?_, ?_⟩
        · simp only [Instr.sliceAt, Sem.run_bind, run_und hd, Result.andThen_ok, Instr.slice, e5, run_sizeA (TT _ _ hte), Sem.run_pure]
          congr 2
          split <;> rfl
        · have hcx : off + x * sz + (c - x) * sz = off + c * sz := by
            rw [Nat.add_assoc, ← Nat.add_mul, Nat.add_sub_cancel' (by omega : x ≤ c)]
          have mk : ∀ off'', (off'' = off + x * sz ∨ c - x = 0) → VR s h w (.msl o (off + x * sz) (b - x) sz g (cap.map (· - x))) (.slice (some ⟨b0, off'', none⟩) (b - x) (c - x)) := fun off'' ho'' =>
            .msl _ _ _ _ _ _ b0 (c - x) el n off'' ho'' h1 h2 (by omega) (fun m hm' => by
              obtain ⟨m', hm1, hm2⟩ := Option.map_eq_some_iff.1 hm'
              rw [h4 m' hm1, ← hm2]) (fun hn => by
              have : cap = none := by simpa using hn
              rw [hcx]; exact h5 this) h6 (by rw [hcx]; exact h7)
          split
          · rename_i hcc
            exact mk _ (.inr (by omega))
          · rw [addr_add]
            rcases hoff with hoff | hoff
            · exact mk _ (.inl (by rw [hoff, hsz]))
            · exact mk _ (.inr (by omega))
      | mslOld _ _ _ _ _ _ g' a n c h1 h2 => rw [hg] at h1; injection h1; omega
    · cases hv
  · -- an array of an object
    rename_i len e o off g
    simp only [Option.isSome_none, Bool.false_eq_true, if_false] at hv
    replace hv := Option.bind_eq_some_iff.1 hv
    obtain ⟨cs, ho, hv⟩ := hv
    replace hv := Option.bind_eq_some_iff.1 hv
    obtain ⟨te, hte, hv⟩ := hv
    split at hv
    · cases hv
    rename_i hfit
    replace hv := Option.bind_eq_some_iff.1 hv
    obtain ⟨b, hb, hv⟩ := hv
    replace hv := Option.bind_eq_some_iff.1 hv
    obtain ⟨x, hx, hv⟩ := hv
    injection hv with hv; subst hv
    cases d <;> simp only [TD.ok] at hok
    obtain ⟨ea, eb⟩ := hok
    rw [ea, eb] at hd
    obtain ⟨hg, hobj, hlen⟩ := genOf_obj ho
    obtain ⟨e1, e2, e3, e4, e5⟩ := bounds_run (P := P) (isSlice := false) hlo hhi hb hx (Nat.le_refl _) (Nat.le_refl _)
    cases ha with
    | ptr _ _ _ b0 h1 h2 =>
      obtain ⟨y, hy, hyr⟩ := R.obj o b0 h2
      rw [hobj] at hy
      injection hy with hy; subst hy
      obtain ⟨bc, el, hbc, hbl, _⟩ := hyr
      have hcx : off + x * te.size + (len - x) * te.size = off + len * te.size := by
        rw [Nat.add_assoc, ← Nat.add_mul, Nat.add_sub_cancel' (by omega : x ≤ len)]
      refine ⟨.slice (some (if len = x then ⟨b0, off, none⟩ else (⟨b0, off, none⟩ : Addr).add (x * te.size))) (b - x) (len - x), ?_, ?_⟩
      · simp only [Instr.sliceAt, Sem.run_bind, run_und hd, Result.andThen_ok, Instr.sureAddr, e5, run_sizeA (TT _ _ hte), Sem.run_pure]
      · have mk : ∀ off'', (off'' = off + x * te.size ∨ len - x = 0) → VR s h w (.msl o (off + x * te.size) (b - x) te.size g (some (len - x))) (.slice (some ⟨b0, off'', none⟩) (b - x) (len - x)) := fun off'' ho'' =>
          .msl _ _ _ _ _ _ b0 (len - x) el bc.size off'' ho'' h1 h2 (by omega) (fun m hm' => by injection hm') (fun hn => by cases hn) (by simp [World.shape?, hbc]) (by rw [hcx]; omega)
        split
        · exact mk _ (.inr (by omega))
        · rw [addr_add]; exact mk _ (.inl rfl)
    | ptrOld _ _ _ g' a h1 h2 => rw [hg] at h1; injection h1; omega
  · -- an array that is never written
    rename_i len e cs
    simp only [Option.isSome_none, Bool.false_eq_true, if_false] at hv
    replace hv := Option.bind_eq_some_iff.1 hv
    obtain ⟨te, hte, hv⟩ := hv
    split at hv
    · cases hv
    rename_i hfit
    simp only [Bool.or_eq_true, beq_iff_eq, decide_eq_true_eq, not_or, Nat.not_lt] at hfit
    obtain ⟨hfit0, hfit⟩ := hfit
    replace hv := Option.bind_eq_some_iff.1 hv
    obtain ⟨b, hb, hv⟩ := hv
    replace hv := Option.bind_eq_some_iff.1 hv
    obtain ⟨x, hx, hv⟩ := hv
    injection hv with hv; subst hv
    cases d <;> simp only [TD.ok] at hok
    obtain ⟨ea, eb⟩ := hok
    rw [ea, eb] at hd
    obtain ⟨e1, e2, e3, e4, e5⟩ := bounds_run (P := P) (isSlice := false) hlo hhi hb hx (Nat.le_refl _) (Nat.le_refl _)
    cases ha with
    | ref _ b0 off f hI hc hr =>
      refine ⟨.slice (some (if len = x then ⟨b0, off, none⟩ else (⟨b0, off, none⟩ : Addr).add (x * te.size))) (b - x) (len - x), ?_, ?_⟩
      · simp only [Instr.sliceAt, Sem.run_bind, run_und hd, Result.andThen_ok, Instr.sureAddr, e5, run_sizeA (TT _ _ hte), Sem.run_pure]
      · by_cases he : b = x
        · subst he
          rw [Nat.sub_self]
          simp only [group]
          split
          · exact lst_empty _ _ _ _ _ rfl
          · rw [addr_add]; exact lst_empty _ _ _ _ _ rfl
        · rw [if_neg (by omega), addr_add]
          refine lst_of_cells (cs := cs.drop (x * te.size)) (fun h0 => hI ?_) ?_ (fun i c hi => ?_) rfl (by omega)
          · have : 1 * 1 ≤ len * te.size := Nat.mul_le_mul (by omega) (by omega)
            omega
          · have : (b - x) * te.size + x * te.size ≤ len * te.size := by
              rw [← Nat.add_mul]; exact Nat.mul_le_mul_right _ (by omega)
            simp; omega
          · rw [List.getElem?_drop] at hi
            exact ⟨_, by rw [Nat.add_assoc]; exact hc _ c hi, hr _ c hi⟩
  · cases hv
end
end Go.Rv

/-
  append and make.
-/
set_option linter.unusedSimpArgs false
set_option linter.unusedVariables false
namespace Go.Rv
section
variable {P : Program} {C : Cfg} {s : Sim} {h : Heap} {w : World}

theorem flat_get {z : Nat} : ∀ (xs : List AV), (∀ (i : Nat) x, xs[i]? = some x → x.cells.length = z) → ∀ (k : Nat) (y : AV), (xs.map AV.cells).flatten[k]? = some y → ∃ i j x, xs[i]? = some x ∧ x.cells[j]? = some y ∧ k = i * z + j
  | [], _, k, y, hk => by simp at hk
  | x :: xs, hz, k, y, hk => by
    simp only [List.map_cons, List.flatten_cons] at hk
    have hx := hz 0 x rfl
    rw [List.getElem?_append] at hk
    split at hk
    · exact ⟨0, k, x, rfl, hk, by omega⟩
    · rename_i hlt
      obtain ⟨i, j, x', h1, h2, h3⟩ := flat_get xs (fun i x hi => hz (i + 1) x (by simpa using hi)) _ y hk
      exact ⟨i + 1, j, x', by simpa using h1, h2, by rw [Nat.succ_mul]; omega⟩
theorem flat_length {z : Nat} : ∀ (xs : List AV), (∀ (i : Nat) x, xs[i]? = some x → x.cells.length = z) → (xs.map AV.cells).flatten.length = xs.length * z
  | [], _ => by simp
  | x :: xs, hz => by
    have hx := hz 0 x rfl
    have := flat_length xs (fun i x hi => hz (i + 1) x (by simpa using hi))
    simp only [List.map_cons, List.flatten_cons, List.length_append, List.length_cons, Nat.succ_mul]
    omega

/-- A slice whose elements are known: where its cells lie. -/
theorem elems_reads (R : Rel s h w) {y : AV} {u : Value} {ys : List AV} (hy : VR s h w y u) (he : elems h y = some ys) :
    ∃ A c, u = .slice A ys.length c ∧ (0 < ys.length → ∃ b off, A = some ⟨b, off, none⟩ ∧ Reads s h w b off (ys.map AV.cells).flatten) := by
  cases y <;> simp only [elems, reduceCtorEq, Option.some.injEq] at he
  case lst xs z r =>
    subst he
    cases hy with
    | lstNil => exact ⟨none, 0, rfl, fun h0 => by simp at h0⟩
    | lstEmpty _ A => exact ⟨some A, 0, rfl, fun h0 => by simp at h0⟩
    | lst _ _ _ b off c f hI hr hle hz hc hrr =>
      refine ⟨_, c, rfl, fun h0 => ⟨b, off, rfl, fun k x hk => ?_⟩⟩
      obtain ⟨i, j, x', h1, h2, h3⟩ := flat_get xs hz k x hk
      subst h3
      exact ⟨f i j, by rw [← Nat.add_assoc]; exact hc i j x' x h1 h2, hrr i j x' x h1 h2⟩
  case msl o off len sz g cap =>
    simp only [Option.bind_eq_bind] at he
    replace he := Option.bind_eq_some_iff.1 he
    obtain ⟨cs, ho, he⟩ := he
    split at he
    · rename_i hle
      injection he with he; subst he
      obtain ⟨hg, hobj, hlen⟩ := genOf_obj ho
      cases hy with
      | msl _ _ _ _ _ _ b c el n off' hoff h1 h2 h3 h4 h5 h6 h7 =>
        refine ⟨some ⟨b, off', none⟩, c, by rw [group_length], fun h0 => ?_⟩
        rw [group_length] at h0
        obtain rfl : off' = off := hoff.resolve_right (by omega)
        refine ⟨b, off', rfl, ?_⟩
        rw [group_flat _ _ _ (by simp; omega)]
        have := ((obj_reads R ho h2).drop off').take (len * sz)
        simpa using this
      | mslOld _ _ _ _ _ _ g' a n c h1 h2 => rw [hg] at h1; injection h1; omega
    · cases he

/-- Where nothing is appended nothing is done. -/
theorem append_none {t el : TypeId} (hd : P.underlying t = some (.slice el)) {te : TI} (T : TyOk P el te) {A A' : Option Addr} {n c c' : Nat} (hle : n ≤ c) (ty : TypeId) :
    (Builtin.append_ #[t, t] ty #[.slice A n c, .slice A' 0 c']).run P w = .ok (.slice A n c) w := by
  have hf : (Builtin.firstCells te.size 0 (.slice A' 0 c')).run P w = .ok #[] w := by
    cases A' with
    | none => simp [Builtin.firstCells]
    | some a => exact run_firstCells_some w te.size 0 a 0 c' [] (by simp) (fun j v hj => by simp at hj)
  simp only [Builtin.append_, List.getElem?_toArray, Sem.run_bind, Sem.run_pure, Result.andThen_ok]
  simp only [List.getElem?_cons_zero, List.getElem?_cons_succ, Sem.run_bind, run_und hd, Result.andThen_ok, run_sizeA T, Sem.run_pure, Bool.false_eq_true, if_false, Builtin.lenOf, Nat.add_zero, hle, if_true, Bool.not_false, hf]
  cases A with
  | none => rfl
  | some a => rfl

theorem append_fit {t el : TypeId} (hd : P.underlying t = some (.slice el)) {te : TI} (T : TyOk P el te) {a a' : Addr} {len c n c' : Nat} {news : List Value} (hl : news.length = n * te.size)
    (hn : ∀ j v, news[j]? = some v → w.cell? (a'.add j) = some v) (hle : len + n ≤ c) {w' : World} (hst : (storeCells (a.add (len * te.size)) news 0).run P w = .ok () w') (ty : TypeId) :
    (Builtin.append_ #[t, t] ty #[.slice (some a) len c, .slice (some a') n c']).run P w = .ok (.slice (some a) (len + n) c) w' := by
  have hf := run_firstCells_some (P := P) w te.size n a' n c' news hl hn
  simp only [Builtin.append_, List.getElem?_toArray, Sem.run_bind, Sem.run_pure, Result.andThen_ok]
  simp only [List.getElem?_cons_zero, List.getElem?_cons_succ, Sem.run_bind, run_und hd, Result.andThen_ok, run_sizeA T, Sem.run_pure, Bool.false_eq_true, if_false, Builtin.lenOf, hle, if_true, Bool.not_false, hf, hst]

theorem zeroCells_size (z : Array Value) (n : Nat) : (Builtin.zeroCells z n).size = n * z.size := by simp [Builtin.zeroCells]

theorem grown_le {w : World} {need old : Nat} {e : TypeId} : need ≤ grownCap w need old e := by simp [grownCap, Question.cut]

/-- What an append that grows lays: the old cells, the new ones, more. -/
theorem append_grow {t el : TypeId} (hd : P.underlying t = some (.slice el)) {te : TI} (T : TyOk P el te) {A : Option Addr} {a' : Addr} {len c n c' : Nat} {olds news : List Value}
    (hA : (A = none ∧ len = 0 ∧ c = 0 ∧ olds = []) ∨ ∃ a, A = some a ∧ olds.length = len * te.size ∧ ∀ j v, olds[j]? = some v → w.cell? (a.add j) = some v)
    (hl : news.length = n * te.size) (hn : ∀ j v, news[j]? = some v → w.cell? (a'.add j) = some v) (hg : c < len + n) (hm : len + n ≤ mostLen) (ty : TypeId) :
    ∃ cap rest, len + n ≤ cap ∧ (olds.toArray ++ news.toArray ++ rest).size = cap * te.size ∧
      (Builtin.append_ #[t, t] ty #[.slice A len c, .slice (some a') n c']).run P w = .ok (.slice (some ⟨w.heap.size, 0, none⟩) (len + n) cap) (w.drew.alloc (.cells (olds.toArray ++ news.toArray ++ rest) el)) := by
  obtain ⟨i, z, h1, h2, h3, h4, h5, _⟩ := T.info
  have hzs : z.cells.size = te.size := by rw [h5, T.zsize]
  simp only [mostLen] at hm
  have hb : Builtin.nextslicecap (len + n) c * i.bytes ≤ 281474976710656 := by
    have e1 := nextslicecap_le hg
    have e2 := T.small
    calc Builtin.nextslicecap (len + n) c * i.bytes ≤ (2 * (len + n)) * 4096 := Nat.mul_le_mul e1 (by omega)
      _ ≤ 281474976710656 := by omega
  have hsz : ∀ cap, len + n ≤ cap → olds.length + news.length + (cap - (len + n)) * te.size = cap * te.size := by
    intro cap hc
    have ho : olds.length = len * te.size := by
      rcases hA with ⟨_, rfl, _, rfl⟩ | ⟨a, _, ho, _⟩
      · simp
      · exact ho
    rw [ho, hl, ← Nat.add_mul, ← Nat.add_mul, Nat.add_sub_cancel' hc]
  rcases hA with ⟨rfl, rfl, rfl, rfl⟩ | ⟨a, rfl, ho, hor⟩
  · have hrun := run_append_nil (P := P) w t ty el i z hd h1 h4 a' n c' news (by rw [h2]; exact hl) hn (by omega) (by omega) (by
      rw [nextslicecap_zero (by omega)] at hb; simpa using hb)
    refine ⟨grownCap w n 0 el, Builtin.zeroCells z.cells (grownCap w n 0 el - n), by simpa using grown_le, ?_, ?_⟩
    · have := hsz (grownCap w n 0 el) (by simpa using grown_le)
      simp only [Array.size_append, List.size_toArray, zeroCells_size, hzs]
      simpa using this
    · simpa using hrun
  · have hrun := run_append_grow (P := P) w t ty el i z hd h1 h4 a len c olds (by rw [h2]; exact ho) hor a' n c' news (by rw [h2]; exact hl) hn hg (by omega) hb
    refine ⟨grownCap w (len + n) c el, Builtin.zeroCells z.cells (grownCap w (len + n) c el - (len + n)), grown_le, ?_, hrun⟩
    have := hsz (grownCap w (len + n) c el) grown_le
    simp only [Array.size_append, List.size_toArray, zeroCells_size, hzs]
    exact this

theorem drew_eq (w : World) : w.drew = { w with drawn := w.drawn + 1 } := rfl

/-- A new object laid by an append that grows. -/
theorem append_new (R : Rel s h w) {t el : TypeId} (hd : P.underlying t = some (.slice el)) {te : TI} (T : TyOk P el te) {A : Option Addr} {a' : Addr} {len c n c' : Nat} {olds news : List Value} {os ns : List AV}
    (hA : (A = none ∧ len = 0 ∧ c = 0 ∧ olds = []) ∨ ∃ a, A = some a ∧ olds.length = len * te.size ∧ ∀ j v, olds[j]? = some v → w.cell? (a.add j) = some v)
    (hl : news.length = n * te.size) (hn : ∀ j v, news[j]? = some v → w.cell? (a'.add j) = some v) (hg : c < len + n) (hm : len + n ≤ mostLen) (ty : TypeId)
    (ho : VRs s h w os olds) (hns : VRs s h w ns news) :
    HRun P s h w (Builtin.append_ #[t, t] ty #[.slice A len c, .slice (some a') n c']) (.msl h.length 0 (len + n) te.size 0 none) (h ++ [.cells (os ++ ns) 0]) := by
  obtain ⟨cap, rest, h1, h2, h3⟩ := append_grow (P := P) hd T hA hl hn hg hm ty
  have R1 : Rel s h w.drew := R.draw _
  have E1 : Ext s h w s h w.drew := Ext.draw s h w _
  have hall := (ho.append hns).ext R.apart E1
  have key := new_cells R1 (cs := os ++ ns) (vs := olds.toArray ++ news.toArray ++ rest) el (by have := hall.1; simp at this ⊢; omega) (fun i x hi => by
    obtain ⟨v, hv, hr⟩ := hall.2 i x hi
    refine ⟨v, ?_, hr⟩
    have hlt := (List.getElem?_eq_some_iff.1 hv).1
    rw [Array.getElem?_append_left (by simpa using hlt)]
    simpa using hv)
  refine ⟨_, _, _, h3, E1.trans key.1, key.2, ?_⟩
  have hlen : (os ++ ns).length = (len + n) * te.size := by
    have e1 := ho.1
    have e2 := hns.1
    have e3 : olds.length = len * te.size := by
      rcases hA with ⟨_, rfl, _, rfl⟩ | ⟨a, _, ho', _⟩
      · simp
      · exact ho'
    simp only [List.length_append]
    rw [e1, e2, e3, hl, Nat.add_mul]
  refine .msl _ _ _ _ _ _ w.drew.heap.size cap el (cap * te.size) 0 (.inl rfl) (by rw [genOf_new]) (by simp [Sim.add]) h1 (fun m hm => by cases hm) (fun _ => ?_) ?_ (by omega)
  · rw [lenOf_new, hlen]
    have := Nat.mul_le_mul_right te.size h1
    omega
  · simp only [World.shape?, heap_alloc_at, h2]

theorem append_rel (TT : TabOk P C) (R : Rel s h w) {t el : TypeId} (hd : P.underlying t = some (.slice el)) {te : TI} (hte : C.ty el = some te) {sv yv v : AV} {us uy : Value} {ys : List AV} {h' : Heap}
    (hs : VR s h w sv us) (hy : VR s h w yv uy) (he : elems h yv = some ys) (ha : appendA h te.size sv ys = some (v, h')) (ty : TypeId) :
    HRun P s h w (Builtin.append_ #[t, t] ty #[us, uy]) v h' := by
  have T := TT el te hte
  obtain ⟨A', c', rfl, hread⟩ := elems_reads R hy he
  unfold appendA at ha
  simp only at ha
  split at ha
  · cases ha
  rename_i hc0
  simp only [Bool.or_eq_true, bne_iff_ne, ne_eq, Bool.not_eq_true', beq_iff_eq, not_or, Decidable.not_not, Bool.not_eq_false] at hc0
  obtain ⟨⟨hcl, hleaf⟩, hsz0⟩ := hc0
  -- the new cells
  have hnew : ∀ (hne : 0 < ys.length), ∃ a' news, A' = some a' ∧ news.length = ys.length * te.size ∧ (∀ j v, news[j]? = some v → w.cell? (a'.add j) = some v) ∧ VRs s h w (ys.map AV.cells).flatten news := by
    intro hne
    obtain ⟨b, off, rfl, hr⟩ := hread hne
    obtain ⟨vs, h1, h2, h3⟩ := reads_list hr
    refine ⟨_, vs, rfl, by rw [h1, hcl], fun j v hj => by rw [addr_add]; exact h2 j v hj, h1.symm, fun i c hi => ?_⟩
    have hlt : i < vs.length := by rw [h1]; exact (List.getElem?_eq_some_iff.1 hi).1
    refine ⟨vs[i], List.getElem?_eq_getElem hlt, ?_⟩
    have := h3 i c hi
    simpa [hlt] using this
  cases sv <;> simp only [reduceCtorEq] at ha
  case lst xs z r =>
    by_cases hye : ys = []
    · subst hye
      simp only [List.isEmpty_nil, if_true, Option.some.injEq, Prod.mk.injEq] at ha
      obtain ⟨rfl, rfl⟩ := ha
      obtain ⟨A, n, c, rfl, hle⟩ : ∃ A n c, us = .slice A n c ∧ n ≤ c := by
        cases hs with
        | lstNil => exact ⟨_, _, _, rfl, Nat.le_refl _⟩
        | lstEmpty => exact ⟨_, _, _, rfl, Nat.le_refl _⟩
        | lst _ _ _ b off c f h1 h2 h3 => exact ⟨_, _, _, rfl, h3⟩
      exact ⟨s, w, _, append_none hd T hle ty, Ext.refl _ _ _, R, hs⟩
    · have hne : 0 < ys.length := List.length_pos_iff.2 hye
      have hie : ys.isEmpty = false := by simpa using hye
      obtain ⟨a', news, rfl, hl, hn, hns⟩ := hnew hne
      simp only [hie, Bool.false_eq_true, if_false] at ha
      split at ha
      · rename_i hc
        simp only [Bool.and_eq_true, decide_eq_true_eq, Bool.or_eq_true, beq_iff_eq] at hc
        obtain ⟨⟨hfull, hz⟩, hm⟩ := hc
        simp only [Option.some.injEq, Prod.mk.injEq] at ha
        obtain ⟨rfl, rfl⟩ := ha
        cases hs with
        | lstNil =>
          have := append_new (P := P) R hd T (A := none) (a' := a') (len := 0) (c := 0) (n := ys.length) (c' := c') (olds := []) (os := []) (.inl ⟨rfl, rfl, rfl, rfl⟩) hl hn (by omega) (by simpa using hm) ty VRs.nil hns
          simpa using this
        | lstEmpty _ A =>
          have := append_new (P := P) R hd T (A := some A) (a' := a') (len := 0) (c := 0) (n := ys.length) (c' := c') (olds := []) (os := []) (.inr ⟨_, rfl, by simp, fun j v hj => by simp at hj⟩) hl hn (by omega) (by simpa using hm) ty VRs.nil hns
          simpa using this
        | lst _ _ _ b off c f hI hr hle hzc hcell hrr =>
          have hcx : xs.length = c := by
            cases r with
            | nil => exact hr.elim
            | exact m => have hr' : c = m := hr
                         rw [hr']; simpa [Room.full] using hfull
            | «open» => simp [Room.full] at hfull
          have hread : Reads s h w b off (xs.map AV.cells).flatten := fun k x hk => by
            obtain ⟨i, j, x', e1, e2, e3⟩ := flat_get xs hzc k x hk
            subst e3
            exact ⟨f i j, by rw [← Nat.add_assoc]; exact hcell i j x' x e1 e2, hrr i j x' x e1 e2⟩
          obtain ⟨vs, g1, g2, g3⟩ := reads_list hread
          have hlen : (xs.map AV.cells).flatten.length = xs.length * te.size := by
            rcases hz with rfl | hz
            · exact flat_length xs hzc
            · have : xs = [] := by simpa using hz
              subst this; simp
          exact append_new (P := P) R hd T (a' := a') (len := xs.length) (c := c) (n := ys.length) (c' := c') (olds := vs) (.inr ⟨_, rfl, by rw [g1, hlen], fun j v hj => by rw [addr_add]; exact g2 j v hj⟩) hl hn (by omega) hm ty
            ⟨g1.symm, fun i c hi => by
              have hlt : i < vs.length := by rw [g1]; exact (List.getElem?_eq_some_iff.1 hi).1
              refine ⟨vs[i], List.getElem?_eq_getElem hlt, ?_⟩
              have := g3 i c hi
              simpa [hlt] using this⟩ hns
      · cases ha
  case msl o off len sz' g cap =>
    simp only [Option.bind_eq_bind] at ha
    replace ha := Option.bind_eq_some_iff.1 ha
    obtain ⟨cs, ho, ha⟩ := ha
    obtain ⟨hg, hobj, hlen⟩ := genOf_obj ho
    split at ha
    · cases ha
    rename_i hsz'
    obtain rfl : sz' = te.size := by simpa using hsz'
    have hsrc := hs
    cases hs with
    | mslOld _ _ _ _ _ _ g' a n c h1 h2 => rw [hg] at h1; injection h1; omega
    | msl _ _ _ _ _ _ b c el' nb off' hoff h1 h2 h3 h4 h5 h6 h7 =>
      by_cases hye : ys = []
      · subst hye
        simp only [List.isEmpty_nil, if_true, Option.some.injEq, Prod.mk.injEq] at ha
        obtain ⟨rfl, rfl⟩ := ha
        exact ⟨s, w, _, append_none hd T h3 ty, Ext.refl _ _ _, R, hsrc⟩
      · have hne : 0 < ys.length := List.length_pos_iff.2 hye
        have hie : ys.isEmpty = false := by simpa using hye
        obtain ⟨a', news, rfl, hl, hn, hns⟩ := hnew hne
        simp only [hie, Bool.false_eq_true, if_false] at ha
        have hone := all_one hns (by simpa using hleaf)
        obtain ⟨x, hx, hxr⟩ := R.obj o b h2
        rw [hobj] at hx
        injection hx with hx; subst hx
        obtain ⟨bc, el0, hheap, hbl, hbcell⟩ := hxr
        have hnb : nb = bc.size := by simp [World.shape?, hheap] at h6; omega
        split at ha
        · -- in place
          rename_i hc
          simp only [Bool.and_eq_true, decide_eq_true_eq] at hc
          obtain ⟨hfit, hcap⟩ := hc
          simp only [Option.some.injEq, Prod.mk.injEq] at ha
          obtain ⟨rfl, rfl⟩ := ha
          rw [hcl] at hfit
          have hle : len + ys.length ≤ c := by
            cases cap with
            | some m => rw [h4 m rfl]; simpa [capOk] using hcap
            | none =>
              have := h5 rfl
              rw [hlen] at this
              have : (len + ys.length) * te.size ≤ c * te.size := by rw [Nat.add_mul]; omega
              exact Nat.le_of_mul_le_mul_right this (by omega)
          obtain rfl : off' = off := hoff.resolve_right (by omega)
          obtain ⟨w', hrun, E, R'⟩ := store_cells (P := P) R h2 ho (off := off' + len * te.size) (by rw [hcl]; omega) hns hone 0
          refine ⟨s, w', _, append_fit hd T hl hn hle (by rw [addr_add]; exact hrun _ rfl) ty, E, R', ?_⟩
          have hlt : o < h.length := (List.getElem?_eq_some_iff.1 hobj).1
          refine .msl _ _ _ _ _ _ b c el' nb off' (.inl rfl) (by rw [genOf_set (g := g)]; simp [hlt]) h2 hle h4 (fun hc => ?_) (E.shape _ _ h6) h7
          have e1 := h5 hc
          rw [hlen] at e1
          unfold lenOf
          rw [List.getElem?_set_self hlt]
          simp only [setCells_length]
          exact e1
        · split at ha
          · -- it grows
            rename_i hc
            simp only [Bool.and_eq_true, decide_eq_true_eq, beq_iff_eq] at hc
            obtain ⟨⟨hat, rfl⟩, hm⟩ := hc
            have hcs : cs.length = len * te.size := by omega
            have hoff0 : off' = 0 ∨ c = 0 := hoff
            obtain ⟨olds, g1, g2, g3⟩ := reads_list (obj_reads R ho h2)
            have hVold : VRs s h w cs olds := ⟨g1.symm, fun i c hi => by
              have hlt : i < olds.length := by rw [g1]; exact (List.getElem?_eq_some_iff.1 hi).1
              refine ⟨olds[i], List.getElem?_eq_getElem hlt, ?_⟩
              have := g3 i c hi
              simpa [hlt] using this⟩
            have hAold : (some (⟨b, off', none⟩ : Addr) = none ∧ len = 0 ∧ c = 0 ∧ olds = []) ∨ ∃ a, some (⟨b, off', none⟩ : Addr) = some a ∧ olds.length = len * te.size ∧ ∀ j v, olds[j]? = some v → w.cell? (a.add j) = some v := by
              refine .inr ⟨_, rfl, by rw [g1, hcs], fun j v hj => ?_⟩
              rcases hoff0 with rfl | h0
              · rw [addr_add]; exact g2 j v hj
              · have : len = 0 := by omega
                subst this
                have : olds = [] := by rw [← List.length_eq_zero_iff, g1, hcs]; simp
                subst this
                simp at hj
            cases cap with
            | some m =>
              simp only [growA] at ha
              split at ha
              · rename_i hlm
                simp only [Option.some.injEq, Prod.mk.injEq] at ha
                obtain ⟨rfl, rfl⟩ := ha
                have hcm := h4 m rfl
                have : len = m := by simpa using hlm
                exact append_new (P := P) R hd T hAold hl hn (by omega) hm ty hVold hns
              · cases ha
            | none =>
              simp only [growA, Option.some.injEq, Prod.mk.injEq] at ha
              obtain ⟨rfl, rfl⟩ := ha
              have hlt : o < h.length := (List.getElem?_eq_some_iff.1 hobj).1
              have hnl : ((ys.map AV.cells).flatten).length = ys.length * te.size := hcl
              have hres : ∀ (w' : World) (b' cap' n' : Nat), (h.set o (.cells (cs ++ (ys.map AV.cells).flatten) (g + 1))).length = h.length → len + ys.length ≤ cap' → w'.shape? b' = some (el, n') ∨ (∃ e, w'.shape? b' = some (e, n')) → cap' * te.size ≤ n' →
                  VR (s.add o b') (h.set o (.cells (cs ++ (ys.map AV.cells).flatten) (g + 1))) w' (.msl o 0 (len + ys.length) te.size (g + 1) none) (.slice (some ⟨b', 0, none⟩) (len + ys.length) cap') := by
                intro w' b' cap' n' _ hle hsh hn'
                obtain ⟨e, hsh⟩ : ∃ e, w'.shape? b' = some (e, n') := by
                  rcases hsh with hsh | hsh
                  · exact ⟨_, hsh⟩
                  · exact hsh
                refine .msl _ _ _ _ _ _ b' cap' e n' 0 (.inl rfl) (by rw [genOf_set (g := g)]; simp [hlt]) (by simp [Sim.add]) hle (fun m hm => by cases hm) (fun _ => ?_) hsh (by omega)
                unfold lenOf
                rw [List.getElem?_set_self hlt]
                simp only [List.length_append, hnl, hcs]
                rw [← Nat.add_mul]
                have := Nat.mul_le_mul_right te.size hle
                omega
              by_cases hle : len + ys.length ≤ c
              · -- in the same block
                obtain rfl : off' = 0 := hoff0.resolve_right (by omega)
                have hroom : (len + ys.length) * te.size ≤ bc.size := by
                  have := Nat.mul_le_mul_right te.size hle
                  omega
                rw [Nat.add_mul] at hroom
                have hstore := run_storeCells_at (P := P) b (len * te.size) el0 news 0 bc w hheap (by omega) hone
                have hW := Wrote.row hheap (bc.toList.take (len * te.size + 0) ++ news ++ bc.toList.drop (len * te.size + 0 + news.length)).toArray (by simp; omega)
                have key := write_cells R (b' := b) (g' := g + 1) (cs' := cs ++ (ys.map AV.cells).flatten) (w' := w.setRow b (bc.toList.take (len * te.size + 0) ++ news ++ bc.toList.drop (len * te.size + 0 + news.length)).toArray) (bc' := (bc.toList.take (len * te.size + 0) ++ news ++ bc.toList.drop (len * te.size + 0 + news.length)).toArray) (el := el0) h2 hobj (by omega) (fun e => by omega) (.inl rfl)
                  hW (setRow_heap w b bc _ el0 (0, 0) hheap) (by simp only [List.length_append, hnl, hcs]; simp; omega) (fun i x hi => by
                    simp only [List.getElem?_toArray]
                    rw [List.getElem?_append] at hi
                    split at hi
                    · rename_i hil
                      obtain ⟨v, hv, hvr⟩ := hbcell i x hi
                      refine ⟨v, ?_, hvr⟩
                      rw [List.append_assoc, List.getElem?_append_left (by simp; omega), List.getElem?_take_of_lt (by omega)]
                      simpa using hv
                    · rename_i hil
                      obtain ⟨v, hv, hvr⟩ := hns.2 _ x hi
                      refine ⟨v, ?_, hvr⟩
                      have hvl := (List.getElem?_eq_some_iff.1 hv).1
                      rw [List.append_assoc, List.getElem?_append_right (by simp; omega), List.getElem?_append_left (by simp; omega)]
                      simp only [List.length_take, Array.length_toList, Nat.add_zero, Nat.min_eq_left (show len * te.size ≤ bc.size by omega)]
                      rw [hcs] at hv
                      exact hv)
                refine ⟨_, _, _, append_fit hd T hl hn hle (by rw [addr_add, Nat.zero_add]; exact hstore) ty, key.1, key.2, ?_⟩
                exact hres _ b c nb (by simp) hle (.inr ⟨_, hW.shape _ _ h6⟩) (by omega)
              · -- in a new block
                obtain ⟨cap', rest, k1, k2, k3⟩ := append_grow (P := P) hd T hAold hl hn (by omega) hm ty
                have hW : Wrote w (w.drew.alloc (.cells (olds.toArray ++ news.toArray ++ rest) el)) b := by
                  refine ⟨by rw [size_alloc]; show w.heap.size ≤ w.heap.size + 1; omega, fun k hk _ => heap_alloc_lt w.drew _ hk, fun k x hx => ?_, rfl, rfl, rfl⟩
                  rw [shape_of (w := w) (w' := w.drew.alloc (.cells (olds.toArray ++ news.toArray ++ rest) el)) (heap_alloc_lt w.drew _ (shape_lt hx))]
                  exact hx
                have key := write_cells R (b' := w.heap.size) (g' := g + 1) (cs' := cs ++ (ys.map AV.cells).flatten) (w' := w.drew.alloc (.cells (olds.toArray ++ news.toArray ++ rest) el)) (bc' := olds.toArray ++ news.toArray ++ rest) (el := el) h2 hobj (by omega) (fun e => by omega) (.inr ⟨by omega, Nat.le_refl _⟩)
                  hW (heap_alloc_at w.drew _) (by rw [k2]; simp only [List.length_append, hnl, hcs]; rw [← Nat.add_mul]; exact Nat.mul_le_mul_right _ k1) (fun i x hi => by
                    have hall := hVold.append hns
                    obtain ⟨v, hv, hvr⟩ := hall.2 i x hi
                    refine ⟨v, ?_, hvr⟩
                    have hlt' := (List.getElem?_eq_some_iff.1 hv).1
                    rw [Array.getElem?_append_left (by simpa using hlt')]
                    simpa using hv)
                refine ⟨_, _, _, k3, key.1, key.2, ?_⟩
                exact hres _ w.heap.size cap' (cap' * te.size) (by simp) k1 (.inl (by
                  have := heap_alloc_at w.drew (.cells (olds.toArray ++ news.toArray ++ rest) el)
                  simp only [World.shape?]
                  rw [show w.heap.size = w.drew.heap.size from rfl, this]
                  simp only [k2])) (Nat.le_refl _)
          · cases ha

theorem makeSlice_rel (TT : TabOk P C) (R : Rel s h w) {t : Nat} {l c v : AV} {ul uc : Value} {h' : Heap} (hl : VR s h w l ul) (hc : VR s h w c uc) (hv : makeSliceA C h t l c = some (v, h')) : HRun P s h w (Instr.makeSlice t ul uc) v h' := by
  unfold makeSliceA at hv
  simp only [Option.bind_eq_bind] at hv
  replace hv := Option.bind_eq_some_iff.1 hv
  obtain ⟨ti, hti, hv⟩ := hv
  obtain ⟨d, hd, hok⟩ := (TT t ti hti).und
  generalize ti.td = td at hok hv
  split at hv
  · rename_i e kl l kc c
    cases hl; cases hc
    replace hv := Option.bind_eq_some_iff.1 hv
    obtain ⟨te, hte, hv⟩ := hv
    split at hv
    · rename_i hcond
      simp only [Bool.and_eq_true, decide_eq_true_eq, beq_iff_eq] at hcond
      obtain ⟨⟨⟨h0, hlc⟩, hcm⟩, hz⟩ := hcond
      simp only [Option.some.injEq, Prod.mk.injEq] at hv
      obtain ⟨rfl, rfl⟩ := hv
      cases d <;> simp only [TD.ok] at hok
      rw [hok] at hd
      have T := TT e te hte
      obtain ⟨i, z, h1, h2, h3, h4, h5, h6⟩ := T.info
      obtain ⟨z', hz1, hz2⟩ := zero_rel (P := P) (s := s) (h := h) (w := w) T
      have hzz : z' = z := by
        have := hz1 w
        simp [zeroValue, typeInfo, h1, h4] at this
        exact this.symm
      subst hzz
      simp only [mostLen] at hcm
      have hrun := run_make (P := P) w t e i z' hd h1 h4 kl kc l c h0 hlc (by
        have e2 := T.small
        have : (i.bytes : Int) * c ≤ 4096 * 4294967296 := Int.mul_le_mul (by omega) (by omega) (by omega) (by omega)
        omega) (by omega)
      have hzs : z'.cells.size = te.size := by rw [h5, T.zsize]
      have hzr := zeros_rel hz2 c.toNat
      rw [hzs] at hzr
      have key := new_cells R (cs := copies c.toNat te.zero) (vs := madeCells z'.cells (c.toNat * i.size)) e (by rw [size_madeCells, copies_length, T.zsize, h2]; exact Nat.le_refl _) (fun k x hk => by
        obtain ⟨v, hv, hr⟩ := hzr.2 k x hk
        refine ⟨v, ?_, hr⟩
        unfold madeCells
        rw [h2, ← Array.getElem?_toList]
        rw [← hzs] at hv ⊢
        exact hv)
      refine ⟨_, _, _, hrun, key.1, key.2, .msl _ _ _ _ _ _ w.heap.size c.toNat e (c.toNat * te.size) 0 (.inl rfl) (by rw [genOf_new]) (by simp [Sim.add]) (by omega) (fun m hm => by injection hm) (fun hn => by cases hn) ?_ (by omega)⟩
      simp only [World.shape?, heap_alloc_at, size_madeCells, h2]
    · cases hv
  · cases hv
end
end Go.Rv

/-
  Maps: made, asked, written.
-/
set_option linter.unusedSimpArgs false
set_option linter.unusedVariables false
namespace Go.Rv
section
variable {P : Program} {C : Cfg} {s : Sim} {h : Heap} {w : World}

def Ents (s : Sim) (h : Heap) (w : World) (es : List (AV × AV)) (en : List MapEntry) : Prop :=
  es.length = en.length ∧ ∀ (i : Nat) e, es[i]? = some e → ∃ m, en[i]? = some m ∧ VR s h w e.1 m.key ∧ VR s h w e.2 m.val

theorem Ents.tail {e : AV × AV} {es : List (AV × AV)} {m : MapEntry} {en : List MapEntry} (H : Ents s h w (e :: es) (m :: en)) : (VR s h w e.1 m.key ∧ VR s h w e.2 m.val) ∧ Ents s h w es en := by
  obtain ⟨h1, h2⟩ := H
  refine ⟨?_, by simpa using h1, fun i x hi => h2 (i + 1) x (by simpa using hi)⟩
  obtain ⟨m', hm, hr⟩ := h2 0 e rfl
  simp only [List.getElem?_cons_zero, Option.some.injEq] at hm
  subst hm
  exact hr

theorem mapAt_some {o : Nat} {es : List (AV × AV)} (ho : h.mapAt o = some es) : h[o]? = some (.map es) := by
  unfold Heap.mapAt at ho
  split at ho
  · rename_i es' hx
    injection ho with ho; subst ho
    exact hx
  · cases ho

/-- Of a map of the model: its entries. -/
theorem map_obj (R : Rel s h w) {o : Nat} {es : List (AV × AV)} (ho : h.mapAt o = some es) {u : Value} (hv : VR s h w (.map o) u) : ∃ b en clock, u = .map (some b) ∧ s.μ o = some b ∧ w.heap[b]? = some (.map en clock) ∧ Ents s h w es en.toList ∧ MapKept.Stamped en clock := by
  cases hv with
  | map _ b hm hb =>
    obtain ⟨x, hx, hr⟩ := R.obj o b hb
    rw [mapAt_some ho] at hx
    injection hx with hx; subst hx
    obtain ⟨en, cl, h1, h2, hst, h3⟩ := hr
    refine ⟨b, en, cl, rfl, hb, h1, ⟨by simpa using h2, fun i e hi => ?_⟩, hst⟩
    obtain ⟨m, hm, hr⟩ := h3 i e hi
    exact ⟨m, by simpa using hm, hr⟩

theorem bytes_eq (a b : List UInt8) : ((⟨a.toArray⟩ : ByteArray) == ⟨b.toArray⟩) = (a == b) := by
  change (a.toArray == b.toArray) = (a == b)
  simp

theorem sameKey_rel {td : TD} {d : TypeDesc} (hd : TD.ok d td) {k k' : AV} (hk : keyTd td k = true) {u u' : Value} (hu : VR s h w k u) (hu' : VR s h w k' u') {p : Bool} (hp : sameKey k k' = some p) : Instr.sameNow d u u' = some p := by
  cases td <;> cases k <;> simp only [keyTd, Bool.false_eq_true] at hk <;> cases k' <;> simp only [sameKey, reduceCtorEq] at hp <;> cases d <;> simp only [TD.ok] at hd <;> cases hu <;> cases hu' <;> simp only [Instr.sameNow]
  · exact hp
  · split at hp
    · rename_i he
      simp only [beq_iff_eq] at he
      rw [if_pos he]; exact hp
    · cases hp
  · rename_i a b
    rw [← hp, bytes_eq]

theorem find_rel {td : TD} {d : TypeDesc} (hd : TD.ok d td) {k : AV} (hk : keyTd td k = true) {u : Value} (hu : VR s h w k u) : ∀ {es : List (AV × AV)} {en : List MapEntry} (i : Nat) {r : Option AV}, Ents s h w es en → findA k es = some r →
    ∃ r', Instr.findNow d u en i = some r' ∧ match r, r' with
      | none, none => True
      | some v, some (j, x) => VR s h w v x
      | _, _ => False
  | [], [], i, r, _, hf => by
    simp only [findA, Option.some.injEq] at hf
    subst hf
    exact ⟨none, rfl, trivial⟩
  | [], _ :: _, _, _, H, _ => by have := H.1; simp at this
  | _ :: _, [], _, _, H, _ => by have := H.1; simp at this
  | (k', v) :: es, m :: en, i, r, H, hf => by
    obtain ⟨⟨hk', hv⟩, ht⟩ := H.tail
    simp only [findA, Option.bind_eq_bind] at hf
    obtain ⟨p, hp, hf⟩ := Option.bind_eq_some_iff.1 hf
    have := sameKey_rel hd hk hu hk' hp
    simp only [Instr.findNow, this]
    cases p with
    | true =>
      simp only [if_true, Option.some.injEq] at hf
      subst hf
      exact ⟨_, rfl, hv⟩
    | false => exact find_rel hd hk hu (i + 1) ht (by simpa using hf)

theorem keyDesc {td : TD} {d : TypeDesc} (hd : TD.ok d td) {k : AV} (hk : keyTd td k = true) : d = .bool ∨ (∃ n, d = .int n) ∨ d = .string := by
  cases td <;> simp only [keyTd, Bool.false_eq_true] at hk <;> cases d <;> simp only [TD.ok] at hd
  · exact .inl rfl
  · exact .inr (.inl ⟨_, rfl⟩)
  · exact .inr (.inr rfl)

theorem run_checkKey {t : Nat} {d : TypeDesc} (hu : P.underlying t = some d) (hd : d = .bool ∨ (∃ n, d = .int n) ∨ d = .string) (b : Bool) (n : Nat) (u : Value) (w : World) : (Instr.checkKey b (n + 1) t u).run P w = .ok () w := by
  unfold Instr.checkKey
  simp only [Sem.run_bind, run_und hu, Result.andThen_ok]
  rcases hd with rfl | ⟨k, rfl⟩ | rfl <;> rfl

theorem run_findKey {t : Nat} {d : TypeDesc} (hu : P.underlying t = some d) {u : Value} {en : List MapEntry} {r : Option (Nat × Value)} (hr : Instr.findNow d u en 0 = some r) (w : World) : (Instr.findKey t u en).run P w = .ok r w := by
  unfold Instr.findKey
  simp only [Sem.run_bind, run_und hu, Result.andThen_ok, hr, Sem.run_pure]

theorem run_getMap {b : Nat} {en : Array MapEntry} {cl : Nat} (hb : w.heap[b]? = some (.map en cl)) : (getObj b).run P w = .ok (.map en cl) w := by
  simp [getObj, Sem.run, hb]

/-- A type's zero, whole. -/
theorem zero_whole {t : Nat} {ti : TI} (T : TyOk P t ti) {v : AV} (hp : Rv.part ti ti.zero = some v) : ∃ z, (∀ w, (zeroValue t).run P w = .ok z w) ∧ VR s h w v z := by
  obtain ⟨i, z, h1, h2, h3, h4, h5, h6⟩ := T.info
  have hw := T.whole i z h1 h4
  refine ⟨z, fun w => by simp [zeroValue, typeInfo, h1, h4], ?_⟩
  unfold Rv.part at hp
  split at hp
  · rename_i ha
    rw [ha] at hw
    split at hp
    · injection hp with hp; subst hp
      cases z <;> simp only [wholeB, Bool.not_true, Bool.false_eq_true] at hw
      rename_i cs
      rw [List.take_of_length_le (by rw [T.zsize]; omega)]
      refine .agg _ _ (by simpa [Value.cells] using h5.symm) fun j c hj => ?_
      exact ofValue_rel (by simpa [Value.cells] using h6 j c hj)
    · cases hp
  · rename_i ha
    have ha' : ti.td.isAgg = false := by simpa using ha
    rw [ha'] at hw
    have hc : z.cells = #[z] := by cases z <;> first | rfl | (simp [wholeB] at hw)
    have h0 : ti.zero[0]? = some v := by rw [← List.head?_eq_getElem?]; exact hp
    have := h6 0 v h0
    rw [hc] at this
    exact ofValue_rel (by simpa using this)

theorem lookup_rel (TT : TabOk P C) (R : Rel s h w) {t : Nat} {m k : AV} {um uk : Value} {ok : Bool} {v : AV} (hm : VR s h w m um) (hk : VR s h w k uk) (hv : lookupA C h t m k ok = some v) : PRun P s h w (Instr.lookup t um uk ok) v := by
  unfold lookupA at hv
  simp only [Option.bind_eq_bind] at hv
  obtain ⟨ti, hti, hv⟩ := Option.bind_eq_some_iff.1 hv
  obtain ⟨d, hd, hok⟩ := (TT t ti hti).und
  generalize htd : ti.td = td at hv hok
  cases td <;> simp only [reduceCtorEq] at hv
  case map kt e =>
  obtain ⟨ki, hki, hv⟩ := Option.bind_eq_some_iff.1 hv
  split at hv
  · cases hv
  rename_i hkt
  simp only [Bool.not_eq_true', Bool.not_eq_false] at hkt
  obtain ⟨es, hes, hv⟩ := Option.bind_eq_some_iff.1 hv
  obtain ⟨r, hr, hv⟩ := Option.bind_eq_some_iff.1 hv
  obtain ⟨te, hte, hv⟩ := Option.bind_eq_some_iff.1 hv
  obtain ⟨z, hz, hv⟩ := Option.bind_eq_some_iff.1 hv
  simp only [Option.some.injEq] at hv
  subst hv
  cases d <;> simp only [TD.ok] at hok
  obtain ⟨e1, e2⟩ := hok
  rw [e1, e2] at hd
  obtain ⟨dk, hdk, hdok⟩ := (TT _ ki hki).und
  have hkd := keyDesc hdok hkt
  have tail : ∀ en : Array MapEntry, Ents s h w es en.toList → ∃ x, (do
    Instr.checkKey en.isEmpty 10000 kt uk
    let (v, ok') ← match ← Instr.findKey kt uk en.toList with
      | some (_, v) => pure (v, true)
      | none => pure (← zeroValue e, false)
    pure (if ok then .tuple #[v, .bool ok'] else v) : Sem Value).run P w = .ok x w ∧ VR s h w (if ok = true then AV.tup [r.getD z, AV.bool r.isSome] else r.getD z) x := by
    intro en hents
    obtain ⟨r', hr', hrr⟩ := find_rel hdok hkt hk 0 hents hr
    simp only [Sem.run_bind, run_checkKey hdk hkd, Result.andThen_ok, run_findKey hdk hr']
    have fin : ∀ (x : Value) (y : AV) (b : Bool), VR s h w y x → VR s h w (if ok = true then AV.tup [y, AV.bool b] else y) (if ok = true then .tuple #[x, .bool b] else x) := by
      intro x y b hxy
      cases ok with
      | false => exact hxy
      | true =>
        refine .tup _ _ rfl fun i c hi => ?_
        rcases i with _ | _ | i
        · simp at hi; subst hi; exact hxy
        · simp at hi; subst hi; exact .bool _
        · simp at hi
    cases r with
    | none =>
      cases r' with
      | some x => exact hrr.elim
      | none =>
        obtain ⟨zz, hz1, hz2⟩ := zero_whole (s := s) (h := h) (w := w) (TT e te hte) hz
        simp only [Sem.run_bind, hz1, Sem.run_pure, Result.andThen_ok]
        exact ⟨_, rfl, fin _ _ _ hz2⟩
    | some y =>
      cases r' with
      | none => exact hrr.elim
      | some x =>
        obtain ⟨j, x⟩ := x
        simp only [Sem.run_bind, Sem.run_pure, Result.andThen_ok]
        exact ⟨_, rfl, fin _ _ _ hrr⟩
  unfold PRun Instr.lookup
  simp only [Sem.run_bind, run_und hd, Result.andThen_ok]
  unfold Heap.ents at hes
  cases m <;> simp only [reduceCtorEq] at hes
  case nilMap =>
    simp only [Option.some.injEq] at hes
    subst hes
    cases hm
    have := tail #[] ⟨rfl, fun i e hi => by simp at hi⟩
    simp only [Sem.run_bind, Sem.run_pure, Result.andThen_ok] at this ⊢
    exact this
  case map o =>
    obtain ⟨b, en, cl, rfl, hb, hheap, hE, hSt⟩ := map_obj R hes hm
    have := tail en hE
    simp only [Sem.run_bind, run_getMap hheap, Sem.run_pure, Result.andThen_ok] at this ⊢
    exact this

theorem makeMap_rel (R : Rel s h w) (t : Nat) : HRun P s h w (Instr.makeMap t none) (.map h.length) (h ++ [.map []]) := by
  refine ⟨_, _, _, rfl, Ext.new R (.map #[] 0) (.map []), Rel.new R (.map #[] 0) (.map []) ⟨#[], 0, heap_alloc_at w _, rfl, MapKept.stamped_empty 0, fun i e hi => by simp at hi⟩, ?_⟩
  refine .map _ w.heap.size ?_ (by simp [Sim.add])
  unfold isMap
  rw [List.getElem?_append_right (Nat.le_refl _)]
  simp

theorem map_write (R : Rel s h w) {o b : Nat} {es es' : List (AV × AV)} {en en' : Array MapEntry} {cl cl' : Nat} (hb : s.μ o = some b) (ho : h[o]? = some (.map es)) (hheap : w.heap[b]? = some (.map en cl)) (hE : Ents s h w es' en'.toList) (hS : MapKept.Stamped en' cl') :
    Ext s h w s (h.set o (.map es')) { w with heap := w.heap.setIfInBounds b (.map en' cl') } ∧ Rel s (h.set o (.map es')) { w with heap := w.heap.setIfInBounds b (.map en' cl') } := by
  have hlt := (List.getElem?_eq_some_iff.1 ho).1
  have hbl := (Array.getElem?_eq_some_iff.1 hheap).1
  have hfar : ∀ k, k ≠ b → (w.heap.setIfInBounds b (.map en' cl'))[k]? = w.heap[k]? := fun k hk => by
    rw [Array.getElem?_setIfInBounds_ne (Ne.symm hk)]
  have hat : (w.heap.setIfInBounds b (.map en' cl'))[b]? = some (.map en' cl') := by
    rw [Array.getElem?_setIfInBounds_self_of_lt hbl]
  have E : Ext s h w s (h.set o (.map es')) { w with heap := w.heap.setIfInBounds b (.map en' cl') } := by
    refine ⟨⟨by simp, fun k _ hn => hfar k (fun e => hn o (e ▸ hb)), fun k x hx => ?_, fun _ h => h, fun k g0 hg0 => ?_, fun k g0 _ _ => ⟨fun _ h => h, ?_⟩, fun k hk => ?_, fun k c hc => .inl ⟨k, hc⟩, rfl, rfl, rfl, fun k hk => ?_, rfl⟩, fun k c _ hc => ⟨c, hc⟩, fun k _ hn => ?_⟩
    · by_cases e : k = b
      · subst e
        simp [World.shape?, hheap] at hx
      · rw [shape_of (hfar k e)]; exact hx
    · rw [genOf_set (g := g0)]
      by_cases e : o = k
      · subst e
        have : g0 = 0 := by simp [genOf, ho] at hg0; omega
        exact ⟨0, by simp [hlt], by omega⟩
      · exact ⟨g0, by simp [e, hg0], Nat.le_refl _⟩
    · by_cases e : o = k
      · subst e
        unfold lenOf
        rw [ho, List.getElem?_set_self hlt]
      · exact lenOf_set e
    · by_cases e : o = k
      · subst e
        unfold isMap
        rw [List.getElem?_set_self hlt]
      · rw [isMap_set e]; exact hk
    · by_cases e : o = k
      · subst e; simp [isLoop, ho] at hk
      · rw [isLoop_set e]; exact hk
    · have : o ≠ k := by rintro rfl; rw [hb] at hn; cases hn
      exact List.getElem?_set_ne this
  refine ⟨E, R.inj, fun k c hk => ?_, R.apart, fun c hI => by have := R.imm c hI; simpa using this⟩
  by_cases e : k = o
  · subst e
    rw [hb] at hk; injection hk with hk; subst hk
    refine ⟨.map es', by rw [List.getElem?_set_self hlt], en', cl', hat, by simpa using hE.1, hS, fun i x hi => ?_⟩
    obtain ⟨m, hm, h1, h2⟩ := hE.2 i x hi
    exact ⟨m, by simpa using hm, h1.ext R.apart E, h2.ext R.apart E⟩
  · obtain ⟨x, hx, hr⟩ := R.obj k c hk
    have hne : c ≠ b := fun e' => e (R.inj k o c hk (e' ▸ hb))
    exact ⟨x, by rw [List.getElem?_set_ne (Ne.symm e)]; exact hx, hr.ext R.apart E (hfar c hne)⟩

theorem run_setMap {b : Nat} {en : Array MapEntry} {cl : Nat} (hb : w.heap[b]? = some (.map en cl)) (o : Obj) : (setObj b o).run P w = .ok () { w with heap := w.heap.setIfInBounds b o } := by
  simp [setObj, Sem.run, hb]

theorem sameKey_eq {td : TD} {k k' : AV} (hk : keyTd td k = true) {u u' : Value} (hu : VR s h w k u) (hu' : VR s h w k' u') (hp : sameKey k k' = some true) : u' = u ∧ Instr.sameBits 10000 u u = true := by
  cases td <;> cases k <;> simp only [keyTd, Bool.false_eq_true] at hk <;> cases k' <;> simp only [sameKey, reduceCtorEq] at hp <;> cases hu <;> cases hu'
  · simp at hp; subst hp; exact ⟨rfl, by simp [Instr.sameBits]⟩
  · split at hp
    · rename_i he
      simp at he hp
      subst he hp
      exact ⟨rfl, by simp [Instr.sameBits]⟩
    · cases hp
  · simp at hp; subst hp
    refine ⟨rfl, ?_⟩
    simp only [Instr.sameBits, bytes_eq, beq_self_eq_true]

theorem Ents.cons {e : AV × AV} {es : List (AV × AV)} {m : MapEntry} {en : List MapEntry} (h1 : VR s h w e.1 m.key ∧ VR s h w e.2 m.val) (H : Ents s h w es en) : Ents s h w (e :: es) (m :: en) := by
  refine ⟨by simp [H.1], fun i x hi => ?_⟩
  cases i with
  | zero => simp at hi; subst hi; exact ⟨m, rfl, h1⟩
  | succ i => exact H.2 i x (by simpa using hi)

theorem put_rel {td : TD} {d : TypeDesc} (hd : TD.ok d td) {k v : AV} (hk : keyTd td k = true) {u x : Value} (hu : VR s h w k u) (hx : VR s h w v x) (born : Nat) : ∀ {es es' : List (AV × AV)} {en : List MapEntry} (j : Nat), Ents s h w es en → putA k v es = some es' →
    (∃ i y, Instr.findNow d u en j = some (some (j + i, y)) ∧ (en[i]?).map (·.key) = some u ∧ Ents s h w es' (en.modify i fun e => { e with key := u, val := x })) ∨
    (Instr.findNow d u en j = some none ∧ Ents s h w es' (en ++ [{ key := u, val := x, born := born }]))
  | [], _, [], j, _, hp => by
    simp only [putA, Option.some.injEq] at hp
    subst hp
    exact .inr ⟨rfl, Ents.cons ⟨hu, hx⟩ ⟨rfl, fun i e hi => by simp at hi⟩⟩
  | [], _, _ :: _, _, H, _ => by have := H.1; simp at this
  | _ :: _, _, [], _, H, _ => by have := H.1; simp at this
  | (k', v') :: es, es', m :: en, j, H, hp => by
    obtain ⟨⟨hk', hv'⟩, ht⟩ := H.tail
    simp only [putA, Option.bind_eq_bind] at hp
    obtain ⟨p, hp1, hp⟩ := Option.bind_eq_some_iff.1 hp
    have hs := sameKey_rel hd hk hu hk' hp1
    simp only [Instr.findNow, hs]
    cases p with
    | true =>
      simp only [if_true, Option.some.injEq] at hp
      subst hp
      obtain ⟨he, _⟩ := sameKey_eq hk hu hk' hp1
      refine .inl ⟨0, m.val, rfl, by simp [he], ?_⟩
      simp only [List.modify_zero_cons]
      exact Ents.cons ⟨by rw [he] at hk'; exact hk', hx⟩ ht
    | false =>
      simp only [Bool.false_eq_true, if_false] at hp
      obtain ⟨es2, hp2, rfl⟩ := Option.map_eq_some_iff.1 hp
      rcases put_rel hd hk hu hx born (j + 1) ht hp2 with ⟨i, y, h1, h2, h3⟩ | ⟨h1, h2⟩
      · refine .inl ⟨i + 1, y, by rw [h1, show j + 1 + i = j + (i + 1) from by omega], by simpa using h2, ?_⟩
        simp only [List.modify_succ_cons]
        exact Ents.cons ⟨hk', hv'⟩ h3
      · exact .inr ⟨h1, Ents.cons ⟨hk', hv'⟩ h2⟩

theorem sameNow_self {td : TD} {d : TypeDesc} (hd : TD.ok d td) {k : AV} (hk : keyTd td k = true) {u : Value} (hu : VR s h w k u) : Instr.sameNow d u u = some true := by
  cases td <;> cases k <;> simp only [keyTd, Bool.false_eq_true] at hk <;> cases d <;> simp only [TD.ok] at hd <;> cases hu <;> simp only [Instr.sameNow, bytes_eq, beq_self_eq_true, if_true]

theorem findNow_ne {td : TD} {d : TypeDesc} (hd : TD.ok d td) {k : AV} (hk : keyTd td k = true) {u : Value} (hu : VR s h w k u) : ∀ {en : List MapEntry} {j : Nat}, Instr.findNow d u en j = some none → ∀ x ∈ en, x.key ≠ u
  | [], _, _, x, hx => by simp at hx
  | m :: en, j, hf, x, hx => by
    simp only [Instr.findNow] at hf
    rcases List.mem_cons.1 hx with rfl | hx
    · intro e
      rw [e, sameNow_self hd hk hu] at hf
      simp at hf
    · cases hs : Instr.sameNow d u m.key with
      | none => rw [hs] at hf; simp at hf
      | some b =>
        rw [hs] at hf
        cases b with
        | true => simp at hf
        | false => exact findNow_ne hd hk hu (by simpa using hf) x hx

theorem update_rel (TT : TabOk P C) (R : Rel s h w) {t : Nat} {m k v : AV} {um uk uv : Value} {h' : Heap} (hm : VR s h w m um) (hk : VR s h w k uk) (hv : VR s h w v uv) (hu : updateA C h t m k v = some h') :
    ∃ w', (Instr.mapUpdate t um uk uv).run P w = .ok () w' ∧ Ext s h w s h' w' ∧ Rel s h' w' := by
  unfold updateA at hu
  simp only [Option.bind_eq_bind] at hu
  obtain ⟨ti, hti, hu⟩ := Option.bind_eq_some_iff.1 hu
  obtain ⟨d, hd, hok⟩ := (TT t ti hti).und
  generalize htd : ti.td = td at hu hok
  cases td <;> cases m <;> simp only [reduceCtorEq] at hu
  rename_i kt e o
  obtain ⟨ki, hki, hu⟩ := Option.bind_eq_some_iff.1 hu
  split at hu
  · cases hu
  rename_i hkt
  simp only [Bool.not_eq_true', Bool.not_eq_false] at hkt
  obtain ⟨es, hes, hu⟩ := Option.bind_eq_some_iff.1 hu
  obtain ⟨es', hes', hu⟩ := Option.bind_eq_some_iff.1 hu
  simp only [Option.some.injEq] at hu
  subst hu
  cases d <;> simp only [TD.ok] at hok
  obtain ⟨e1, e2⟩ := hok
  rw [e1, e2] at hd
  obtain ⟨dk, hdk, hdok⟩ := (TT _ ki hki).und
  have hkd := keyDesc hdok hkt
  obtain ⟨b, en, cl, rfl, hb, hheap, hE, hSt⟩ := map_obj R hes hm
  unfold Instr.mapUpdate
  simp only [Sem.run_bind, run_und hd, Result.andThen_ok, run_getMap hheap, run_checkKey hdk hkd]
  rcases put_rel hdok hkt hk hv cl 0 hE hes' with ⟨i, y, h1, h2, h3⟩ | ⟨h1, h2⟩
  · simp only [run_findKey hdk h1, Result.andThen_ok, Nat.zero_add]
    have hkey : ((en[i]?).map (·.key)).getD uk = uk := by
      have : (en[i]?).map (·.key) = some uk := by simpa using h2
      rw [this]; rfl
    have hbits : Instr.sameBits 10000 uk uk = true := by
      obtain ⟨c, hc, _⟩ : ∃ c, (en[i]?) = some c ∧ True := by
        cases hx : en[i]? with
        | none => simp [hx] at h2
        | some c => exact ⟨c, rfl, trivial⟩
      cases hki' : ki.td <;> rw [hki'] at hkt <;> cases k <;> simp only [keyTd, Bool.false_eq_true] at hkt <;> cases hk
      · simp [Instr.sameBits]
      · simp [Instr.sameBits]
      · simp only [Instr.sameBits, bytes_eq, beq_self_eq_true]
    simp only [Sem.run_bind, hkey, Instr.keyThatStays, hbits, if_true, Sem.run_pure, Result.andThen_ok, run_setMap hheap]
    have key := map_write R (en' := en.modify i fun e => { e with key := uk, val := uv }) (cl' := cl) hb (mapAt_some hes) hheap (by simpa using h3) (MapKept.stamped_modify hSt i _ (fun _ _ => rfl) (fun x hx hxi => by
      have : (en[i]?).map (·.key) = some uk := by simpa using h2
      rw [hxi] at this
      simpa using this.symm))
    exact ⟨_, rfl, key.1, key.2⟩
  · simp only [run_findKey hdk h1, Result.andThen_ok, run_setMap hheap]
    have key := map_write R (en' := en.push { key := uk, val := uv, born := cl }) (cl' := cl + 1) hb (mapAt_some hes) hheap (by simpa using h2) (MapKept.stamped_push hSt (fun x hx e => findNow_ne hdok hkt hk h1 x (by simpa using hx) e))
    exact ⟨_, rfl, key.1, key.2⟩
end
end Go.Rv

/-
  More built-in functions: cap, clear, copy, delete, max, min; bytes to a string.
-/
set_option linter.unusedSimpArgs false
set_option linter.unusedVariables false
namespace Go.Rv
section
variable {P : Program} {C : Cfg} {s : Sim} {h : Heap} {w : World}

theorem bytesOf_cells : ∀ {ys : List AV} {l : List UInt8}, bytesOf ys = some l → ∃ ns : List Int, ys = ns.map (AV.int .u8) ∧ l = ns.map fun n => UInt8.ofNat n.toNat
  | [], l, hb => by
    simp only [bytesOf, Option.some.injEq] at hb
    exact ⟨[], rfl, by rw [← hb]; rfl⟩
  | y :: ys, l, hb => by
    cases y <;> simp only [bytesOf, reduceCtorEq] at hb
    rename_i k n
    split at hb
    · rename_i hk
      have hk' : k = .u8 := by simpa using hk
      subst hk'
      obtain ⟨r, hr, rfl⟩ := Option.map_eq_some_iff.1 hb
      obtain ⟨ns, rfl, rfl⟩ := bytesOf_cells hr
      exact ⟨n :: ns, rfl, rfl⟩
    · cases hb

theorem ints_flat : ∀ ns : List Int, ((ns.map (AV.int .u8)).map AV.cells).flatten = ns.map (AV.int .u8)
  | [] => rfl
  | n :: ns => by simp only [List.map_cons, List.flatten_cons, ints_flat ns]; rfl

theorem convH_rel (TT : TabOk P C) (R : Rel s h w) {src dst : Nat} {a v : AV} {u : Value} (ha : VR s h w a u) (hv : convH C h src dst a = some v) : PRun P s h w (convert src dst u) v := by
  unfold convH at hv
  simp only [Option.bind_eq_bind] at hv
  replace hv := Option.bind_eq_some_iff.1 hv
  obtain ⟨ts, hts, hv⟩ := hv
  obtain ⟨d, hd, hok⟩ := (TT src ts hts).und
  generalize ts.td = td at hv hok
  cases td <;> simp only at hv <;> first | exact conv_rel TT ⟨d, hd⟩ ha hv | skip
  rename_i e
  cases d <;> simp only [TD.ok] at hok
  rw [hok] at hd
  replace hv := Option.bind_eq_some_iff.1 hv
  obtain ⟨te, hte, hv⟩ := hv
  replace hv := Option.bind_eq_some_iff.1 hv
  obtain ⟨ti, hti, hv⟩ := hv
  obtain ⟨de, hde, hoke⟩ := (TT e te hte).und
  obtain ⟨dd, hdd, hokd⟩ := (TT dst ti hti).und
  generalize te.td = tde at hv hoke
  generalize ti.td = tdd at hv hokd
  cases tde <;> cases tdd <;> simp only [reduceCtorEq] at hv
  rename_i k
  split at hv
  · rename_i hk
    have hk' : k = .u8 := by simpa using hk
    subst hk'
    cases de <;> simp only [TD.ok] at hoke
    subst hoke
    cases dd <;> simp only [TD.ok] at hokd
    replace hv := Option.bind_eq_some_iff.1 hv
    obtain ⟨ys, hys, hv⟩ := hv
    obtain ⟨l, hl, rfl⟩ := Option.map_eq_some_iff.1 hv
    obtain ⟨ns, rfl, rfl⟩ := bytesOf_cells hl
    obtain ⟨A, c, rfl, hread⟩ := elems_reads R ha hys
    have hcells := ints_flat ns
    by_cases h0 : 0 < (ns.map (AV.int .u8)).length
    · obtain ⟨b, off, rfl, hr⟩ := hread h0
      rw [hcells] at hr
      refine ⟨_, run_convert_bytes_arg w src e hd hde b off _ c ns (by simp) (fun i hi => ?_) dst hdd, ?_⟩
      · have hi' : i < ns.length := by simpa using hi
        obtain ⟨x, hx, hxr⟩ := hr i (.int .u8 ns[i]) (by simp [hi'])
        cases hxr
        rw [hx]; simp [List.getD, hi']
      · unfold strOfNums
        exact .str _
    · have hn : ns = [] := by cases ns with | nil => rfl | cons _ _ => simp at h0
      subst hn
      refine ⟨.string ⟨#[]⟩, ?_, .str []⟩
      rw [run_convert_bytes_string w src dst e _ _ _ hd hde hdd]
      cases A with
      | none => simp [Conv.bytesToString]; rfl
      | some A =>
        have := run_bytesToString (P := P) w A 0 c [] (by simp [loadCells, loadCellsFrom])
        exact this
  · cases hv

theorem cap_rel (TT : TabOk P C) {t n : Nat} {ti : TI} {e : Nat} (hti : C.ty t = some ti) (htd : ti.td = .slice e) {x : AV} {u : Value} (hx : VR s h w x u) (hc : capA h x = some n) (ty : TypeId) :
    (Builtin.cap_ #[t] ty #[u]).run P w = .ok (.int .i64 n) w := by
  obtain ⟨d, hd, hok⟩ := (TT t ti hti).und
  rw [htd] at hok
  cases d <;> simp only [TD.ok] at hok
  simp only [Builtin.cap_, List.getElem?_toArray, List.getElem?_cons_zero, Sem.run_bind, Sem.run_pure, Result.andThen_ok, run_und hd]
  cases x <;> simp only [capA, reduceCtorEq] at hc
  case lst xs z r =>
    cases xs with
    | nil =>
      cases r <;> simp only [capA, Option.some.injEq, reduceCtorEq] at hc
      · subst hc
        cases hx with
        | lstNil => rfl
        | lst _ _ _ b off c f h1 h2 => exact h2.elim
      · subst hc
        cases hx with
        | lstEmpty => rfl
        | lst _ _ _ b off c f h1 h2 => have : c = _ := h2; subst this; rfl
    | cons a xs =>
      cases r <;> simp only [capA, Option.some.injEq, reduceCtorEq] at hc
      subst hc
      cases hx with
      | lst _ _ _ b off c f h1 h2 => have : c = _ := h2; subst this; rfl
  case msl o off len sz g cap =>
    cases cap <;> simp only [capA, reduceCtorEq] at hc
    split at hc
    · rename_i hl
      injection hc with hc; subst hc
      cases hx with
      | msl _ _ _ _ _ _ b c el n off' hoff h1 h2 h3 h4 => rw [h4 _ rfl]; rfl
      | mslOld _ _ _ _ _ _ g' a n c h1 h2 => have := genOf_live hl; rw [this] at h1; injection h1; omega
    · cases hc

theorem goInt_eq (n : Int) : goInt n = .int .i64 n := rfl

theorem clear_rel (TT : TabOk P C) (R : Rel s h w) {t : Nat} {x v : AV} {u : Value} {h' : Heap} (hx : VR s h w x u) (hm : moreA C h .clear [t] [x] = some (v, h')) (ty : TypeId) : HRun P s h w (Builtin.clear_ #[t] ty #[u]) v h' := by
  simp only [moreA, Option.bind_eq_bind] at hm
  replace hm := Option.bind_eq_some_iff.1 hm
  obtain ⟨ti, hti, hm⟩ := hm
  obtain ⟨d, hd, hok⟩ := (TT t ti hti).und
  generalize ti.td = td at hok hm
  have tup : ∀ {s' : Sim} {h' : Heap} {w' : World}, VR s' h' w' (.tup []) (.tuple #[]) := .tup [] #[] rfl fun i c hi => by simp at hi
  cases td <;> cases x <;> (try simp only [reduceCtorEq] at hm)
  case slice.lst e xs z r =>
    cases xs with
    | cons a xs => cases hm
    | nil =>
    simp only [Option.some.injEq, Prod.mk.injEq] at hm
    obtain ⟨rfl, rfl⟩ := hm
    cases d <;> simp only [TD.ok] at hok
    refine ⟨s, w, .tuple #[], ?_, Ext.refl _ _ _, R, tup⟩
    cases hx <;> simp [Builtin.clear_, run_und hd, Sem.run_bind]
  case slice.msl e o off len sz g cap =>
    replace hm := Option.bind_eq_some_iff.1 hm
    obtain ⟨te, hte, hm⟩ := hm
    replace hm := Option.bind_eq_some_iff.1 hm
    obtain ⟨cs, hcs, hm⟩ := hm
    cases d <;> simp only [TD.ok] at hok
    rw [hok] at hd
    have T := TT e te hte
    cases hx with
    | mslOld _ _ _ _ _ _ g' a n c h1 h2 => have := (genOf_obj hcs).1; rw [this] at h1; injection h1; omega
    | msl _ _ _ _ _ _ b c el n off' hoff h1 h2 h3 h4 h5 h6 h7 =>
      split at hm
      · rename_i h0
        have h0' : len = 0 := by simpa using h0
        subst h0'
        simp only [Option.some.injEq, Prod.mk.injEq] at hm
        obtain ⟨rfl, rfl⟩ := hm
        exact ⟨s, w, .tuple #[], by simp [Builtin.clear_, run_und hd, Sem.run_bind], Ext.refl _ _ _, R, tup⟩
      rename_i h0
      have h0' : len ≠ 0 := by simpa using h0
      split at hm
      · rename_i hc
        simp only [Bool.and_eq_true, beq_iff_eq, decide_eq_true_eq] at hc
        obtain ⟨⟨⟨c1, c2⟩, c3⟩, c4⟩ := hc
        simp only [Option.some.injEq, Prod.mk.injEq] at hm
        obtain ⟨rfl, rfl⟩ := hm
        obtain rfl : off' = off := hoff.resolve_right (by omega)
        obtain ⟨z, hz1, hz2⟩ := zero_rel (P := P) (s := s) (h := h) (w := w) T
        have hzr := zeros_rel hz2 len
        have hzl : z.cells.size = te.size := by have := hz2.1; simp at this; omega
        obtain ⟨w', k1, k2, k3⟩ := store_cells (P := P) R h2 hcs (off := off') (xs := copies len te.zero) (by rw [copies_length, c3, ← c1]; exact c2) hzr (all_one hzr (by
          rw [List.all_eq_true]
          intro y hy
          obtain ⟨i, hi⟩ := List.mem_iff_getElem?.1 hy
          have hlt := (List.getElem?_eq_some_iff.1 hi).1
          rw [copies_length] at hlt
          rw [copies_get _ _ _ hlt] at hi
          exact List.all_eq_true.1 c4 y (List.mem_of_getElem? hi))) 0
        have hrun := k1 off' (by omega)
        refine ⟨s, w', .tuple #[], ?_, k2, k3, tup⟩
        obtain ⟨m, rfl⟩ : ∃ m, len = m + 1 := ⟨len - 1, by omega⟩
        simp only [Builtin.clear_, List.getElem?_toArray, List.getElem?_cons_zero, Sem.run_bind, Sem.run_pure, Result.andThen_ok, run_und hd, hz1]
        simp only [Builtin.zeroCells] at hrun ⊢
        rw [hrun]
        rfl
      · cases hm
  case map.nilMap kt et =>
    simp only [Option.some.injEq, Prod.mk.injEq] at hm
    obtain ⟨rfl, rfl⟩ := hm
    cases hx
    exact ⟨s, w, .tuple #[], by simp [Builtin.clear_, run_und hd, Sem.run_bind], Ext.refl _ _ _, R, tup⟩
  case map.map kt et o =>
    replace hm := Option.bind_eq_some_iff.1 hm
    obtain ⟨es, hes, hm⟩ := hm
    simp only [Option.some.injEq, Prod.mk.injEq] at hm
    obtain ⟨rfl, rfl⟩ := hm
    obtain ⟨b, en, cl, rfl, hb, hheap, hE, hSt⟩ := map_obj R hes hx
    obtain ⟨E, R'⟩ := map_write (es' := []) (en' := #[]) (cl' := cl) R hb (mapAt_some hes) hheap ⟨rfl, fun i e hi => by simp at hi⟩ (MapKept.stamped_empty _)
    refine ⟨s, _, .tuple #[], ?_, E, R', tup⟩
    simp only [Builtin.clear_, List.getElem?_toArray, List.getElem?_cons_zero, Sem.run_bind, Sem.run_pure, Result.andThen_ok, run_und hd, run_getMap hheap, run_setMap hheap]

theorem copy_rel (TT : TabOk P C) (R : Rel s h w) {t t2 : Nat} {x y v : AV} {u ux : Value} {h' : Heap} (hx : VR s h w x u) (hy : VR s h w y ux) (hm : moreA C h .copy [t, t2] [x, y] = some (v, h')) (ty : TypeId) : HRun P s h w (Builtin.copy_ #[t, t2] ty #[u, ux]) v h' := by
  simp only [moreA, Option.bind_eq_bind] at hm
  replace hm := Option.bind_eq_some_iff.1 hm
  obtain ⟨ti, hti, hm⟩ := hm
  obtain ⟨d, hd, hok⟩ := (TT t ti hti).und
  generalize ti.td = td at hok hm
  cases td <;> simp only [reduceCtorEq] at hm
  rename_i e
  cases d <;> simp only [TD.ok] at hok
  rw [hok] at hd
  replace hm := Option.bind_eq_some_iff.1 hm
  obtain ⟨te, hte, hm⟩ := hm
  have T := TT e te hte
  replace hm := Option.bind_eq_some_iff.1 hm
  obtain ⟨ys, hys, hm⟩ := hm
  obtain ⟨A, cy, rfl, hread⟩ := elems_reads R hy hys
  have load0 : ∀ (A : Option Addr) (l c : Nat), (Builtin.firstCells te.size 0 (.slice A l c)).run P w = .ok #[] w := by
    intro A l c
    cases A with
    | none => rfl
    | some A => simp [Builtin.firstCells, loadCells, loadCellsFrom]
  have zero : ∀ (B : Option Addr) (dl dc : Nat), Nat.min ys.length dl = 0 → (Builtin.copy_ #[t, t2] ty #[.slice B dl dc, .slice A ys.length cy]).run P w = .ok (.int .i64 0) w := by
    intro B dl dc hmin
    simp only [Builtin.copy_, List.getElem?_toArray, List.getElem?_cons_zero, List.getElem?_cons_succ, Sem.run_bind, Sem.run_pure, Result.andThen_ok, run_und hd, Builtin.lenOf, run_sizeA T, hmin, load0]
    cases B <;> simp [storeCells, goInt_eq]
  cases x <;> (try simp only [reduceCtorEq] at hm)
  case lst xs z r =>
    cases xs with
    | cons a xs => cases hm
    | nil =>
    simp only [Option.some.injEq, Prod.mk.injEq] at hm
    obtain ⟨rfl, rfl⟩ := hm
    cases hx with
    | lstNil => exact ⟨s, w, .int .i64 0, zero _ _ _ (by simp), Ext.refl _ _ _, R, .int _ _⟩
    | lstEmpty => exact ⟨s, w, .int .i64 0, zero _ _ _ (by simp), Ext.refl _ _ _, R, .int _ _⟩
    | lst _ _ _ b off c f => exact ⟨s, w, .int .i64 0, zero _ _ _ (by simp), Ext.refl _ _ _, R, .int _ _⟩
  case msl o off len sz g cap =>
    replace hm := Option.bind_eq_some_iff.1 hm
    obtain ⟨cs, hcs, hm⟩ := hm
    cases hx with
    | mslOld _ _ _ _ _ _ g' a n c h1 h2 => have := (genOf_obj hcs).1; rw [this] at h1; injection h1; omega
    | msl _ _ _ _ _ _ b c el n off' hoff h1 h2 h3 h4 h5 h6 h7 =>
      split at hm
      · rename_i h0
        have h0' : Nat.min ys.length len = 0 := by simpa using h0
        simp only [Option.some.injEq, Prod.mk.injEq] at hm
        obtain ⟨rfl, rfl⟩ := hm
        exact ⟨s, w, .int .i64 0, zero _ _ _ h0', Ext.refl _ _ _, R, .int _ _⟩
      rename_i h0
      have h0' : Nat.min ys.length len ≠ 0 := by simpa using h0
      split at hm
      · rename_i hc
        simp only [Bool.and_eq_true, beq_iff_eq, decide_eq_true_eq] at hc
        obtain ⟨⟨⟨c1, c2⟩, c3⟩, c4⟩ := hc
        simp only [Option.some.injEq, Prod.mk.injEq] at hm
        obtain ⟨rfl, rfl⟩ := hm
        have hl1 : Nat.min ys.length len ≤ len := Nat.min_le_right _ _
        have hl2 : Nat.min ys.length len ≤ ys.length := Nat.min_le_left _ _
        obtain rfl : off' = off := hoff.resolve_right (by omega)
        obtain ⟨by_, offy, rfl, hr⟩ := hread (by omega)
        obtain ⟨vs, v1, v2, v3⟩ := reads_list (hr.take (Nat.min ys.length len * te.size))
        have hVs : VRs s h w (((ys.map AV.cells).flatten).take (Nat.min ys.length len * te.size)) vs := ⟨v1.symm, fun i c hi => by
          have hlt : i < vs.length := by rw [v1]; exact (List.getElem?_eq_some_iff.1 hi).1
          refine ⟨vs[i], List.getElem?_eq_getElem hlt, ?_⟩
          have := v3 i c hi
          simpa [hlt] using this⟩
        have hload := run_loadCells_list (P := P) (w := w) ⟨by_, offy, none⟩ vs (fun j v hj => by rw [addr_add]; exact v2 j v hj)
        rw [v1, c3] at hload
        have hmul : Nat.min ys.length len * te.size ≤ len * sz := by rw [← c1]; exact Nat.mul_le_mul_right _ hl1
        obtain ⟨w', k1, k2, k3⟩ := store_cells (P := P) R h2 hcs (off := off') (by rw [c3]; omega) hVs (all_one hVs c4) 0
        have hrun := k1 off' (by omega)
        refine ⟨s, w', .int .i64 (Nat.min ys.length len), ?_, k2, k3, .int _ _⟩
        simp only [Builtin.copy_, List.getElem?_toArray, List.getElem?_cons_zero, List.getElem?_cons_succ, Sem.run_bind, Sem.run_pure, Result.andThen_ok, run_und hd, Builtin.lenOf, run_sizeA T, Builtin.firstCells, hload, hrun, goInt_eq]
      · cases hm

theorem erase_rel {td : TD} {d : TypeDesc} (hd : TD.ok d td) {k : AV} (hk : keyTd td k = true) {u : Value} (hu : VR s h w k u) : ∀ {es es' : List (AV × AV)} {en : List MapEntry} (j : Nat), Ents s h w es en → eraseA k es = some es' →
    (∃ i y, Instr.findNow d u en j = some (some (j + i, y)) ∧ i < en.length ∧ Ents s h w es' (en.eraseIdx i)) ∨ (Instr.findNow d u en j = some none ∧ Ents s h w es' en)
  | [], _, [], j, _, hp => by
    simp only [eraseA, Option.some.injEq] at hp
    subst hp
    exact .inr ⟨rfl, rfl, fun i e hi => by simp at hi⟩
  | [], _, _ :: _, _, H, _ => by have := H.1; simp at this
  | _ :: _, _, [], _, H, _ => by have := H.1; simp at this
  | (k', v') :: es, es', m :: en, j, H, hp => by
    obtain ⟨⟨hk', hv'⟩, ht⟩ := H.tail
    simp only [eraseA, Option.bind_eq_bind] at hp
    obtain ⟨p, hp1, hp⟩ := Option.bind_eq_some_iff.1 hp
    have hs := sameKey_rel hd hk hu hk' hp1
    simp only [Instr.findNow, hs]
    cases p with
    | true =>
      simp only [if_true, Option.some.injEq] at hp
      subst hp
      exact .inl ⟨0, m.val, rfl, by simp, by simpa using ht⟩
    | false =>
      simp only [Bool.false_eq_true, if_false] at hp
      obtain ⟨es2, hp2, rfl⟩ := Option.map_eq_some_iff.1 hp
      rcases erase_rel hd hk hu (j + 1) ht hp2 with ⟨i, y, h1, h2, h3⟩ | ⟨h1, h2⟩
      · refine .inl ⟨i + 1, y, by rw [h1, show j + 1 + i = j + (i + 1) from by omega], by simpa using h2, ?_⟩
        simp only [List.eraseIdx_cons_succ]
        exact Ents.cons ⟨hk', hv'⟩ h3
      · exact .inr ⟨h1, Ents.cons ⟨hk', hv'⟩ h2⟩

theorem delete_rel (TT : TabOk P C) (R : Rel s h w) {t t2 : Nat} {x k v : AV} {u uk : Value} {h' : Heap} (hx : VR s h w x u) (hk : VR s h w k uk) (hm : moreA C h .delete [t, t2] [x, k] = some (v, h')) (ty : TypeId) : HRun P s h w (Builtin.delete_ #[t, t2] ty #[u, uk]) v h' := by
  simp only [moreA, Option.bind_eq_bind] at hm
  replace hm := Option.bind_eq_some_iff.1 hm
  obtain ⟨ti, hti, hm⟩ := hm
  obtain ⟨d, hd, hok⟩ := (TT t ti hti).und
  generalize ti.td = td at hok hm
  cases td <;> simp only [reduceCtorEq] at hm
  rename_i kt et
  replace hm := Option.bind_eq_some_iff.1 hm
  obtain ⟨tk, htk, hm⟩ := hm
  by_cases hkey0 : keyTd tk.td k = false
  · simp [hkey0] at hm
  have hkey : keyTd tk.td k = true := by simpa using hkey0
  simp only [hkey, Bool.not_true, Bool.false_eq_true, if_false] at hm
  obtain ⟨dk, hdk, hokk⟩ := (TT kt tk htk).und
  cases d <;> simp only [TD.ok] at hok
  obtain ⟨rfl, rfl⟩ := hok
  have hkd := keyDesc hokk hkey
  have tup : ∀ {s' : Sim} {h' : Heap} {w' : World}, VR s' h' w' (.tup []) (.tuple #[]) := .tup [] #[] rfl fun i c hi => by simp at hi
  cases x <;> simp only [reduceCtorEq] at hm
  case nilMap =>
    simp only [Option.some.injEq, Prod.mk.injEq] at hm
    obtain ⟨rfl, rfl⟩ := hm
    cases hx
    refine ⟨s, w, .tuple #[], ?_, Ext.refl _ _ _, R, tup⟩
    simp only [Builtin.delete_, List.getElem?_toArray, List.getElem?_cons_zero, List.getElem?_cons_succ, Sem.run_bind, Sem.run_pure, Result.andThen_ok, run_und hd, run_checkKey hdk hkd]
  case map o =>
    replace hm := Option.bind_eq_some_iff.1 hm
    obtain ⟨es, hes, hm⟩ := hm
    replace hm := Option.bind_eq_some_iff.1 hm
    obtain ⟨es', hes', hm⟩ := hm
    simp only [Option.some.injEq, Prod.mk.injEq] at hm
    obtain ⟨rfl, rfl⟩ := hm
    obtain ⟨b, en, cl, rfl, hb, hheap, hE, hSt⟩ := map_obj R hes hx
    rcases erase_rel hokk hkey hk 0 hE hes' with ⟨i, y, h1, h2, h3⟩ | ⟨h1, h2⟩
    · have hE' : Ents s h w es' (en.eraseIdxIfInBounds i).toList := by
        have : (en.eraseIdxIfInBounds i).toList = en.toList.eraseIdx i := by simp
        rw [this]; exact h3
      obtain ⟨E, R'⟩ := map_write (cl' := cl) R hb (mapAt_some hes) hheap hE' (MapKept.stamped_erase hSt i)
      refine ⟨s, _, .tuple #[], ?_, E, R', tup⟩
      simp only [Nat.zero_add] at h1
      simp only [Builtin.delete_, List.getElem?_toArray, List.getElem?_cons_zero, List.getElem?_cons_succ, Sem.run_bind, Sem.run_pure, Result.andThen_ok, run_und hd, run_getMap hheap, run_checkKey hdk hkd, run_findKey hdk h1, run_setMap hheap]
    · obtain ⟨E, R'⟩ := map_write (en' := en) (cl' := cl) R hb (mapAt_some hes) hheap h2 hSt
      refine ⟨s, _, .tuple #[], ?_, E, R', tup⟩
      simp only [Builtin.delete_, List.getElem?_toArray, List.getElem?_cons_zero, List.getElem?_cons_succ, Sem.run_bind, Sem.run_pure, Result.andThen_ok, run_und hd, run_getMap hheap, run_checkKey hdk hkd, run_findKey hdk h1, run_setMap hheap]

/-- All of them. -/
theorem more_rel (TT : TabOk P C) (R : Rel s h w) {b : Builtin} {ts : List Nat} {vs : List AV} {us : List Value} {v : AV} {h' : Heap} (hr : VRs s h w vs us) (hm : moreA C h b ts vs = some (v, h')) (ty : TypeId) :
    ∃ m, (∀ cs : Array Bool, builtin b ts.toArray ty cs us.toArray = (do pure (Next.value (← m)))) ∧ HRun P s h w m v h' := by
  have one : ∀ {x : AV}, VRs s h w [x] us → ∃ u, us = [u] ∧ VR s h w x u := fun {x} H => by
    obtain ⟨u, rfl⟩ := List.length_eq_one_iff.1 (show us.length = 1 by rw [← H.1]; rfl)
    obtain ⟨u', h1, h2⟩ := H.2 0 x rfl
    simp at h1; subst h1
    exact ⟨_, rfl, h2⟩
  have two : ∀ {x y : AV}, VRs s h w [x, y] us → ∃ u u2, us = [u, u2] ∧ VR s h w x u ∧ VR s h w y u2 := fun {x y} H => by
    have hl : us.length = 2 := by rw [← H.1]; rfl
    match us, hl, H with
    | [u, u2], _, H =>
      obtain ⟨u', h1, h2⟩ := H.2 0 x rfl
      obtain ⟨u2', h3, h4⟩ := H.2 1 y rfl
      simp at h1 h3; subst h1 h3
      exact ⟨_, _, rfl, h2, h4⟩
  have hm0 := hm
  unfold moreA at hm
  split at hm
  · obtain ⟨u, rfl, hx⟩ := one hr
    simp only [Option.bind_eq_bind] at hm
    replace hm := Option.bind_eq_some_iff.1 hm
    obtain ⟨ti, hti, hm⟩ := hm
    split at hm
    · rename_i e htd
      obtain ⟨n, hn, he⟩ := Option.map_eq_some_iff.1 hm
      simp only [Prod.mk.injEq] at he
      obtain ⟨rfl, rfl⟩ := he
      exact ⟨_, fun _ => rfl, s, w, _, cap_rel TT hti htd hx hn ty, Ext.refl _ _ _, R, .int _ _⟩
    · cases hm
  · obtain ⟨u, rfl, hx⟩ := one hr
    exact ⟨_, fun _ => rfl, clear_rel TT R hx hm0 ty⟩
  · obtain ⟨u, u2, rfl, hx, hy⟩ := two hr
    exact ⟨_, fun _ => rfl, copy_rel TT R hx hy hm0 ty⟩
  · obtain ⟨u, u2, rfl, hx, hy⟩ := two hr
    exact ⟨_, fun _ => rfl, delete_rel TT R hx hy hm0 ty⟩
  · obtain ⟨u, u2, rfl, hx, hy⟩ := two hr
    split at hm
    · simp only [Option.some.injEq, Prod.mk.injEq] at hm
      obtain ⟨rfl, rfl⟩ := hm
      cases hx; cases hy
      exact ⟨_, fun _ => rfl, s, w, _, rfl, Ext.refl _ _ _, R, .int _ _⟩
    · cases hm
  · obtain ⟨u, u2, rfl, hx, hy⟩ := two hr
    split at hm
    · simp only [Option.some.injEq, Prod.mk.injEq] at hm
      obtain ⟨rfl, rfl⟩ := hm
      cases hx; cases hy
      exact ⟨_, fun _ => rfl, s, w, _, rfl, Ext.refl _ _ _, R, .int _ _⟩
    · cases hm
  · cases hm
end
end Go.Rv
