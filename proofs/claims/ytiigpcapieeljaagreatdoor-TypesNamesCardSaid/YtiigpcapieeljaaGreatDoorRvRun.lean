/-
  A twin of the interpreter that the kernel can run: what it answers, the interpreter answers.
-/
import Derived.Test.YtiigpcapieeljaaGreatDoorPtE
set_option linter.unusedSimpArgs false
set_option linter.unusedVariables false
namespace Go.Rv
noncomputable section

def entsEq : List (AV × AV) → List (AV × AV) → Bool
  | [], [] => true
  | (a, b) :: x, (c, d) :: y => AV.eqb a c && AV.eqb b d && entsEq x y
  | _, _ => false
theorem entsEq_eq : ∀ (x y : List (AV × AV)), entsEq x y = true → x = y
  | [], [], _ => rfl
  | [], _ :: _, h => by simp [entsEq] at h
  | _ :: _, [], h => by simp [entsEq] at h
  | (a, b) :: x, (c, d) :: y, h => by
    simp only [entsEq, Bool.and_eq_true] at h
    rw [AV.eqb_eq _ _ h.1.1, AV.eqb_eq _ _ h.1.2, entsEq_eq _ _ h.2]

/-- Does a heap begin with another one? -/
def heapPre : Heap → Heap → Bool
  | [], _ => true
  | .cells cs g :: x, .cells cs' g' :: y => Nat.beq g g' && AV.eqbs cs cs' && heapPre x y
  | .map es :: x, .map es' :: y => entsEq es es' && heapPre x y
  | .iter k es :: x, .iter k' es' :: y => Nat.beq k k' && entsEq es es' && heapPre x y
  | _, _ => false
theorem heapPre_take : ∀ (x y : Heap), heapPre x y = true → y.take x.length = x
  | [], y, _ => by simp
  | a :: x, [], h => by cases a <;> simp [heapPre] at h
  | a :: x, b :: y, h => by
    cases a <;> cases b <;> simp only [heapPre, Bool.and_eq_true, Bool.false_eq_true] at h
    · rw [Nat.eq_of_beqb h.1.1, AV.eqbs_eq _ _ h.1.2]
      simp [heapPre_take x y h.2]
    · rw [entsEq_eq _ _ h.1]
      simp [heapPre_take x y h.2]
    · rw [Nat.eq_of_beqb h.1.1, entsEq_eq _ _ h.1.2]
      simp [heapPre_take x y h.2]

def envEq : Env → Env → Bool
  | [], [] => true
  | (a, b) :: x, (c, d) :: y => Nat.beq a c && AV.eqb b d && envEq x y
  | _, _ => false
theorem envEq_eq : ∀ (x y : Env), envEq x y = true → x = y
  | [], [], _ => rfl
  | [], _ :: _, h => by simp [envEq] at h
  | _ :: _, [], h => by simp [envEq] at h
  | (a, b) :: x, (c, d) :: y, h => by
    simp only [envEq, Bool.and_eq_true] at h
    rw [Nat.eq_of_beqb h.1.1, AV.eqb_eq _ _ h.1.2, envEq_eq _ _ h.2]
def stEq (a b : Env × Heap) : Bool := envEq a.1 b.1 && Nat.beq a.2.length b.2.length && heapPre a.2 b.2
theorem stEq_eq {a b : Env × Heap} (h : stEq a b = true) : a = b := by
  obtain ⟨a1, a2⟩ := a
  obtain ⟨b1, b2⟩ := b
  simp only [stEq, Bool.and_eq_true] at h
  have h1 := envEq_eq _ _ h.1.1
  have h2 := heapPre_take _ _ h.2
  rw [Nat.eq_of_beqb h.1.2, List.take_length] at h2
  rw [h1, h2]

variable (C : Cfg)

def leaveK (f : Nat) (h : Heap) (v : AV) (h' : Heap) : Option (CRes × Heap) :=
  match C.pure f with
  | true => match heapPre h h' with
    | true => (freezeV h' h.length 40 v).map fun v => (.ret v, h)
    | false => none
  | false => some (.ret v, h')

theorem leaveK_le (f : Nat) (h : Heap) (v : AV) (h' : Heap) : LeO (leaveK C f h v h') (leaveA C f h v h') := by
  intro r hr
  unfold leaveK at hr
  unfold leaveA
  cases hp : C.pure f with
  | false =>
    rw [hp] at hr
    simpa using hr
  | true =>
    rw [hp] at hr
    simp only at hr
    cases hq : heapPre h h' with
    | false => rw [hq] at hr; cases hr
    | true =>
      rw [hq] at hr
      rw [if_pos rfl, if_pos (heapPre_take h h' hq)]
      exact hr

/-! ### The twin: it says where it got stuck -/

inductive KR (α : Type) where
  | ok (a : α)
  | bad (f t : Nat)

def KR.bind {α β : Type} (x : KR α) (g : α → KR β) : KR β :=
  match x with
  | .ok a => g a
  | .bad f t => .bad f t

def KR.opt {α : Type} : KR α → Option α
  | .ok a => some a
  | .bad _ _ => none

def lift {α : Type} (f t : Nat) : Option α → KR α
  | some a => .ok a
  | none => .bad f t

theorem opt_lift {α : Type} (f t : Nat) (x : Option α) : (lift f t x).opt = x := by cases x <;> rfl
theorem opt_bind {α β : Type} (x : KR α) (g : α → KR β) : (x.bind g).opt = x.opt.bind fun a => (g a).opt := by cases x <;> rfl

def argsE : Nat → List AV → Env
  | _, [] => []
  | i, v :: r => (i, v) :: argsE (i + 1) r
theorem argsE_eq : ∀ (l : List AV) (i : Nat), argsE i l = (l.zipIdx i).map fun (v, i) => (i, v)
  | [], _ => rfl
  | v :: r, i => by simp [argsE, argsE_eq r (i + 1)]

/-- A value, gone into: what is done with it sees its form. -/
def forceN {β : Type} (n : Nat) (k : Nat → β) : β := Nat.casesOn (motive := fun _ => β) n (k (nat_lit 0)) fun m => k (Nat.succ m)
theorem forceN_eq {β : Type} (n : Nat) (k : Nat → β) : forceN n k = k n := by cases n <;> rfl
def forceI {β : Type} (n : Int) (k : Int → β) : β := match n with
  | .ofNat m => forceN m fun m => k (.ofNat m)
  | .negSucc m => forceN m fun m => k (.negSucc m)
theorem forceI_eq {β : Type} (n : Int) (k : Int → β) : forceI n k = k n := by cases n <;> simp only [forceI, forceN_eq]
def forceL {α β : Type} (l : List α) : (List α → β) → β := List.rec (motive := fun _ => (List α → β) → β) (fun k => k []) (fun x _ ih k => ih fun r => k (x :: r)) l
theorem forceL_eq {α β : Type} : ∀ (l : List α) (k : List α → β), forceL l k = k l
  | [], k => rfl
  | x :: r, k => by
    show forceL r (fun r => k (x :: r)) = _
    rw [forceL_eq r]
def AV.force {β : Type} (v : AV) (k : AV → β) : β :=
  match v with
  | .bool b => k (.bool b)
  | .int i n => forceI n fun n => k (.int i n)
  | .str s => k (.str s)
  | .nilPtr => k .nilPtr
  | .nilMap => k .nilMap
  | .nilFunc => k .nilFunc
  | .nilIface => k .nilIface
  | .ptr o a g => k (.ptr o a g)
  | .ref cs => k (.ref cs)
  | .lst xs z r => k (.lst xs z r)
  | .msl o a l z g c => k (.msl o a l z g c)
  | .clo f cs => k (.clo f cs)
  | .bnd f cs => k (.bnd f cs)
  | .yld l => k (.yld l)
  | .map o => k (.map o)
  | .iface t x => k (.iface t x)
  | .agg cs => k (.agg cs)
  | .tup cs => k (.tup cs)
  | .junk => k .junk
theorem AV.force_eq {β : Type} (v : AV) (k : AV → β) : AV.force v k = k v := by cases v <;> first | rfl | simp only [AV.force, forceI_eq]

def keepK (e : Env) : List Nat → Env
  | [] => []
  | t :: r => (e.get t).force fun v => (t, v) :: keepK e r
theorem keepK_eq (e : Env) : ∀ l, keepK e l = e.keep l
  | [] => rfl
  | t :: r => by simp only [keepK, AV.force_eq, keepK_eq e r, Env.keep]

/-- An operation, its own parts first: what is known of it is gone through once. -/
def opK : Op → Option Nat → Nat → Env → Heap → Option (AV × Heap)
  | .move x => fun _ _ e h => (evalA C e x).bind fun v => some (v, h)
  | .assign x => fun _ _ e h => (evalA C e x).bind fun v => some (v, h)
  | .load t a => fun d f e h => (evalA C e a).bind fun x => match (d.map (C.quiet f)).getD false && !x.isRef with
    | true => none
    | false => (loadA C h t x).bind fun v => some (v, h)
  | .store t a x => fun _ _ e h => (evalA C e a).bind fun u => (evalA C e x).bind fun v => (storeA C h t u v).bind fun h' => some (.tup [], h')
  | .fieldAddr t x k => fun _ _ e h => (evalA C e x).bind fun u => (fieldAddrA C h t u k).bind fun z => some (z, h)
  | .field t x k => fun _ _ e h => (evalA C e x).bind fun u => (fieldA C t u k).bind fun z => some (z, h)
  | .indexAddr t x y => fun _ _ e h => (evalA C e x).bind fun u => (evalA C e y).bind fun v => (indexAddrA C h t u v).bind fun z => some (z, h)
  | .index t x y => fun _ _ e h => (evalA C e x).bind fun u => (evalA C e y).bind fun v => (indexA C t u v).bind fun z => some (z, h)
  | .unOp op _ x => fun _ _ e h => (evalA C e x).bind fun u => (unA op u).bind fun z => some (z, h)
  | .lookup t x k ok => fun _ _ e h => (evalA C e x).bind fun u => (evalA C e k).bind fun v => (lookupA C h t u v ok).bind fun z => some (z, h)
  | op => fun d f e h => opA C f e h { dst := d, op := op, type := 0, pos := "", after := #[], guard := none }

theorem opA_op (f : Nat) (e : Env) (h : Heap) (o : Oper) : opA C f e h { dst := o.dst, op := o.op, type := 0, pos := "", after := #[], guard := none } = opA C f e h o := rfl

theorem opK_eq (f : Nat) (e : Env) (h : Heap) (o : Oper) : opK C o.op o.dst f e h = opA C f e h o := by
  rw [← opA_op]
  cases ho : o.op <;> first | rfl | skip
  simp only [opK, opA, Option.bind_eq_bind]
  congr 1
  funext x
  cases (o.dst.map (C.quiet f)).getD false && !x.isRef <;> rfl

def goOn (f : Nat) (ops : Array Oper) (dk d : Option Nat) (cont : Env → Heap → KR (Out × Env × Heap)) (e : Env) (v : AV) (h : Heap) : KR (Out × Env × Heap) :=
  match looseAll C f ops dk e h with
  | true => v.force fun v => cont (e.putAt d v) h
  | false => .bad f (7000000 + d.getD 99999)

def stepC (f : Nat) (ops : Array Oper) (dk d : Option Nat) (ga : Operand × Array Operand) (cv : AV → List AV → Heap → KR (CRes × Heap)) (cont : Env → Heap → KR (Out × Env × Heap)) (e : Env) (h : Heap) : KR (Out × Env × Heap) :=
  match mapO (evalA C e) ga.2.toList with
  | none => .bad f (4000000 + d.getD 99999)
  | some vs => match evalA C e ga.1 with
    | none => .bad f (5000000 + d.getD 99999)
    | some gv => match (d.map (C.quiet f)).getD false && !pureV C gv with
      | true => .bad f (6000000 + d.getD 99999)
      | false => (cv gv vs h).bind fun x => match x.1 with
        | .ret v => goOn C f ops dk d cont e v x.2
        | .pan v => .ok (.pan v, e, x.2)

def stepO (f : Nat) (ops : Array Oper) (o : Oper) (cv : AV → List AV → Heap → KR (CRes × Heap)) (cont : Env → Heap → KR (Out × Env × Heap)) (e : Env) (h : Heap) : KR (Out × Env × Heap) :=
  match callee o with
  | none => (lift f (3000000 + o.dst.getD 99999) (opK C o.op o.dst f e h)).bind fun x => goOn C f ops (dkey o) o.dst cont e x.1 x.2
  | some ga => stepC C f ops (dkey o) o.dst ga cv cont e h

def stepK (f : Nat) (ops : Array Oper) (o : Oper) (cv : AV → List AV → Heap → KR (CRes × Heap)) (cont : Env → Heap → KR (Out × Env × Heap)) (e : Env) (h : Heap) : KR (Out × Env × Heap) :=
  match wantA ops e o with
  | none => .bad f (2000000 + o.dst.getD 99999)
  | some false => cont (e.putAt o.dst (.tup [])) h
  | some true => stepO C f ops o cv cont e h

def seqK (a b : Env → Heap → KR (Out × Env × Heap)) (e : Env) (h : Heap) : KR (Out × Env × Heap) := (a e h).bind fun x => match x.1 with
  | .nrm => b x.2.1 x.2.2
  | _ => .ok x

def condK (f : Nat) (c : Operand) (a b : Env → Heap → KR (Out × Env × Heap)) (e : Env) (h : Heap) : KR (Out × Env × Heap) := match evalA C e c with
  | some (.bool true) => a e h
  | some (.bool false) => b e h
  | _ => .bad f 999986

def blockK (id : Nat) (b : Env → Heap → KR (Out × Env × Heap)) (e : Env) (h : Heap) : KR (Out × Env × Heap) := (b e h).bind fun x => match x.1 with
  | .exit id' => match Nat.beq id' id with
    | true => .ok (.nrm, x.2.1, x.2.2)
    | false => .ok x
  | _ => .ok x

def regionK (f id : Nat) (draw : Bool) (y : KR (Out × Env × Heap)) : KR (Out × Env × Heap) := y.bind fun x => match x.1 with
  | .nrm => (match C.live f id with | some l => .ok (.nrm, keepK x.2.1 l, x.2.2) | none => .ok (.nrm, x.2.1, x.2.2))
  | _ => match draw with
    | true => .bad f (1000000 + id)
    | false => .ok x

def rangeK (f : Nat) (g : Operand) (ps : Array Nat) (assign body : Code) (cl : Nat → List AV → Heap → KR (CRes × Heap)) (e : Env) (h : Heap) : KR (Out × Env × Heap) := match evalA C e g with
  | some (.clo g caps) => (cl g (.yld h.length :: caps) (h ++ [.loop { st := .ready, pend := none, f, env := e, ps := ps.toList, assign, body }])).bind fun x =>
    (lift f 999985 (x.2.loopAt h.length)).bind fun r => match x.1 with
    | .ret _ => match r.st == .busy with
      | true => .bad f 999984
      | false => match r.pend with
        | none => .ok (.nrm, e, x.2.set h.length (.cells [] 1))
        | some .ret => .ok (.ret, e, x.2.set h.length (.cells [] 1))
        | some (.exit id) => .ok (.exit id, e, x.2.set h.length (.cells [] 1))
        | _ => .bad f 999983
    | .pan _ => .bad f 999982
  | _ => .bad f 999981

def roundK (o : Nat) (vs : List AV) (ex : Nat → Code → Env → Heap → KR (Out × Env × Heap)) (h : Heap) : KR (CRes × Heap) := (lift 0 999993 (h.loopAt o)).bind fun r =>
  match r.st != .ready || r.ps.length != vs.length with
  | true => .bad r.f 999992
  | false => (ex r.f r.assign (r.env.puts r.ps vs) h).bind fun x => match x.1 with
    | .nrm => (lift r.f 999991 (x.2.2.loopAt o)).bind fun r1 =>
      match r1.st != .ready with
      | true => .bad r.f 999990
      | false => (ex r.f r.body x.2.1 (x.2.2.set o (.loop { r1 with st := .busy }))).bind fun y =>
        lift r.f 999989 ((y.2.2.loopAt o).bind fun r2 => (jumpOf y.1).bind fun j =>
          some (.ret (.bool j.isNone), y.2.2.set o (.loop { r2 with st := if j.isNone then .ready else .done, pend := j })))
    | _ => .bad r.f 999988

def endK (f : Nat) (fi : FI) (h : Heap) (y : KR (Out × Env × Heap)) : KR (CRes × Heap) := y.bind fun x => match x.1 with
  | .nrm | .ret => lift f 999995 ((resultsA C x.2.2 x.2.1 fi.results).bind fun vs => leaveK C f h (packA vs) x.2.2)
  | .pan v => .ok (.pan v, x.2.2)
  | .exit _ => .bad f 999994

def aloneK (f : Nat) (fi : FI) (h : Heap) (y : KR (Out × Env × Heap)) : KR (CRes × Heap) := y.bind fun x => match x.1 with
  | .nrm | .ret => lift f 999978 ((resultsA C x.2.2 x.2.1 fi.results).bind fun rs => match (packA rs).plain with
    | true => some (.ret (packA rs), h)
    | false => none)
  | _ => .bad f 999977

def mapK {α β : Type} (g : α → KR β) : List α → KR (List β)
  | [] => .ok []
  | x :: r => (g x).bind fun y => (mapK g r).bind fun ys => .ok (y :: ys)

def mapRoundK (f : Nat) (ex : Env → Heap → KR (Out × Env × Heap)) (m : MapLoop) (l : List Nat) (o : Nat) (s : Env × Heap) (p : AV × AV) : KR (Env × Heap) :=
  (ex ((s.1.put m.t0 (.tup [.bool true, p.1, p.2])).put m.t1 (.bool true)) (s.2.set o (.iter 2 [p]))).bind fun x => match x.1, x.2.2.iterAt o with
  | .nrm, some (2, _) => match keptB s.2.length (x.2.1.keep l) (x.2.2.set o (.iter 1 [])) with
    | true => .ok (x.2.1.keep l, (x.2.2.set o (.iter 1 [])).take s.2.length)
    | false => .bad f 999968
  | _, _ => .bad f 999976

def mapRoundsK (f : Nat) (ex : Env → Heap → KR (Out × Env × Heap)) (m : MapLoop) (l : List Nat) (o : Nat) (es : List (AV × AV)) (s0 : Env × Heap) : KR (Env × Heap) :=
  match stEq s0 s0 with
  | false => .bad f 999975
  | true => (mapK (mapRoundK f ex m l o s0) es).bind fun ps =>
    (mapK (mapRoundK f ex m l o ((ps.find? fun s => !stEq s s0).getD s0)) es).bind fun qs =>
    match ps.all (fun s => stEq s s0 || stEq s ((ps.find? fun s => !stEq s s0).getD s0)) && qs.all (fun s => stEq s ((ps.find? fun s => !stEq s s0).getD s0)) with
    | true => .ok ((ps.find? fun s => !stEq s s0).getD s0)
    | false => .bad f 999974

def mapLoopK (m : MapLoop) (f : Nat) (ex : Env → Heap → KR (Out × Env × Heap)) (e : Env) (h : Heap) : KR (Out × Env × Heap) :=
  match evalA C e m.it with
  | some (.ptr o 0 0) => match h.iterAt o with
    | some (0, es) => match C.live f m.id with
      | some l => (mapRoundsK f ex m l o es (e.keep l, h.set o (.iter 1 []))).bind fun s =>
        match itIs C (e.keep l) m o && itIs C s.1 m o with
        | true => (ex ((s.1.put m.t0 (.tup [.bool false])).put m.t1 (.bool false)) s.2).bind fun x => match x.1 with
          | .nrm => .bad f 999973
          | .exit id => .ok (.exit id, x.2.1, x.2.2)
          | .ret => .ok (.ret, x.2.1, x.2.2)
          | .pan v => .ok (.pan v, x.2.1, x.2.2)
        | false => .bad f 999972
      | none => .bad f 999971
    | _ => .bad f 999970
  | _ => .bad f 999969

mutual
def callK : Nat → Nat → List AV → Heap → KR (CRes × Heap)
  | 0, f, _, _ => .bad f 999999
  | k + 1, f, args, h =>
    match C.prim f with
    | some p => lift f 999998 (p args h)
    | none =>
      match C.fn f with
      | none => .bad f 999997
      | some fi =>
        match args.length != fi.params with
        | true => .bad f 999996
        | false => match C.alone f with
          | true => match mapO (freezeV h 0 40) args with
            | none => .bad f 999979
            | some avs => aloneK C f fi h (execK k f fi.body (argsE 0 avs) [])
          | false => endK C f fi h (execK k f fi.body (argsE 0 args) h)
def callVK : Nat → AV → List AV → Heap → KR (CRes × Heap)
  | 0, _, _, _ => .bad 0 999999
  | k + 1, g, vs, h =>
    match g with
    | .clo g caps => callK k g (vs ++ caps) h
    | .bnd g first => callK k g (first ++ vs) h
    | .yld o => roundK o vs (execK k) h
    | _ => .bad 0 999987
def execK : Nat → Nat → Code → Env → Heap → KR (Out × Env × Heap)
  | 0, f, _, _, _ => .bad f 999999
  | k + 1, f, c, e, h =>
    match c with
    | .skip | .label _ => .ok (.nrm, e, h)
    | .seq a b => seqK (execK k f a) (execK k f b) e h
    | .cond c a b => condK C f c (execK k f a) (execK k f b) e h
    | .block id b => blockK id (execK k f b) e h
    | .loop b => match C.roundsOf f b with
      | some m => mapLoopK C m f (execK k f m.rest) e h
      | none => seqK (execK k f b) (execK k f (.loop b)) e h
    | .exit id => .ok (.exit id, e, h)
    | .scope b => execK k f b e h
    | .ret => .ok (.ret, e, h)
    | .region id ops draw => regionK C f id draw (opsK k f ops (sched ops draw) e h)
    | .rangeFunc g ps assign body => rangeK C f g ps assign body (callK k) e h
    | _ => .bad f 999980
def opsK : Nat → Nat → Array Oper → List Oper → Env → Heap → KR (Out × Env × Heap)
  | 0, f, _, l, _, _ => .bad f (9000000 + match l with | o :: _ => o.dst.getD 9999 | [] => 99999)
  | _ + 1, _, _, [], e, h => .ok (.nrm, e, h)
  | k + 1, f, ops, o :: r, e, h => stepK C f ops o (callVK k) (opsK k f ops r) e h
end

structure TwinAt (k : Nat) : Prop where
  val : ∀ g vs h, LeO (callVK C k g vs h).opt (callV C k g vs h)
  call : ∀ f args h, LeO (callK C k f args h).opt (callF C k f args h)
  exec : ∀ f c e h, LeO (execK C k f c e h).opt (execF C k f c e h)
  ops : ∀ f ops l e h, LeO (opsK C k f ops l e h).opt (opsF C k f ops l e h)

theorem LeO.bind' {α β : Type} {a : KR α} {b : Option α} {f : α → KR β} {g : α → Option β} (h : LeO a.opt b) (h' : ∀ x, LeO (f x).opt (g x)) : LeO (a.bind f).opt (b.bind g) := by
  rw [opt_bind]; exact LeO.bind h h'
theorem LeO.lift {α : Type} {f t : Nat} (a : Option α) : LeO (Go.Rv.lift f t a).opt a := by rw [opt_lift]; exact LeO.refl _
theorem LeO.bad {α : Type} {f t : Nat} (a : Option α) : LeO (KR.bad f t : KR α).opt a := fun _ h => by cases h
theorem LeO.of_eq {α : Type} {a b : Option α} (h : a = b) : LeO a b := h ▸ LeO.refl a

theorem mapK_le {α β : Type} {g : α → KR β} {g' : α → Option β} (hg : ∀ x, LeO (g x).opt (g' x)) : ∀ l, LeO (mapK g l).opt (mapO g' l)
  | [] => by simp only [mapK, mapO]; exact LeO.refl _
  | x :: r => by
    simp only [mapK, mapO]
    exact LeO.bind' (hg x) fun y => LeO.bind' (mapK_le hg r) fun _ => LeO.refl _

theorem mapRoundK_le {f : Nat} {ex : Env → Heap → KR (Out × Env × Heap)} {ex' : Env → Heap → Option (Out × Env × Heap)} (hx : ∀ e h, LeO (ex e h).opt (ex' e h)) (m : MapLoop) (l : List Nat) (o : Nat) (s : Env × Heap) (p : AV × AV) : LeO (mapRoundK f ex m l o s p).opt (mapRound ex' m l o s p) := by
  refine LeO.bind' (hx _ _) fun x => ?_
  obtain ⟨out, e, h⟩ := x
  dsimp only
  cases out <;> first | exact LeO.bad _ | skip
  cases hi : h.iterAt o with
  | none => exact LeO.bad _
  | some q =>
    obtain ⟨k, es⟩ := q
    match k with
    | 0 => exact LeO.bad _
    | 1 => exact LeO.bad _
    | 2 =>
      cases hk : keptB s.2.length (e.keep l) (h.set o (.iter 1 [])) with
      | true => simp only [if_true]; exact LeO.refl _
      | false => exact LeO.bad _
    | k + 3 => exact LeO.bad _

open Classical in
theorem mapRoundsK_le {f : Nat} {ex : Env → Heap → KR (Out × Env × Heap)} {ex' : Env → Heap → Option (Out × Env × Heap)} (hx : ∀ e h, LeO (ex e h).opt (ex' e h)) (m : MapLoop) (l : List Nat) (o : Nat) (es : List (AV × AV)) (s0 : Env × Heap) : LeO (mapRoundsK f ex m l o es s0).opt (mapRounds ex' m l o es s0) := by
  unfold mapRoundsK mapRounds
  cases hr : stEq s0 s0 with
  | false => exact LeO.bad _
  | true =>
    have hd : (fun s => !stEq s s0) = fun s : Env × Heap => !decide (s = s0) := by
      funext s
      congr 1
      by_cases e : s = s0
      · subst e; simp [hr]
      · have : stEq s s0 ≠ true := fun h => e (stEq_eq h)
        simp [e, this]
    simp only [Option.bind_eq_bind, hd]
    refine LeO.bind' (mapK_le (mapRoundK_le hx m l o s0) es) fun ps => LeO.bind' (mapK_le (mapRoundK_le hx m l o _) es) fun qs => ?_
    generalize (List.find? (fun s => !decide (s = s0)) ps).getD s0 = s1
    cases hc : ps.all (fun s => stEq s s0 || stEq s s1) && qs.all (fun s => stEq s s1) with
    | false => exact LeO.bad _
    | true =>
      simp only [Bool.and_eq_true, List.all_eq_true, Bool.or_eq_true] at hc
      rw [if_pos ⟨fun s hs => (hc.1 s hs).imp stEq_eq stEq_eq, fun s hs => stEq_eq (hc.2 s hs)⟩]
      exact LeO.refl _

theorem mapLoopK_le {ex : Env → Heap → KR (Out × Env × Heap)} {ex' : Env → Heap → Option (Out × Env × Heap)} (m : MapLoop) (f : Nat) (hx : ∀ e h, LeO (ex e h).opt (ex' e h)) (e : Env) (h : Heap) : LeO (mapLoopK C m f ex e h).opt (mapLoopA C m f ex' e h) := by
  unfold mapLoopK mapLoopA
  split <;> first | exact LeO.bad _ | skip
  rename_i o ho
  split <;> first | exact LeO.bad _ | skip
  rename_i es hi
  split <;> first | exact LeO.bad _ | skip
  rename_i l hl
  simp only [ho, hi, hl, Option.bind_eq_bind, Option.bind_some]
  refine LeO.bind' (mapRoundsK_le hx _ _ _ _ _) fun s => ?_
  cases hc : itIs C (e.keep l) m o && itIs C s.1 m o with
  | false => exact LeO.bad _
  | true =>
    simp only [if_true]
    refine LeO.bind' (hx _ _) fun x => ?_
    obtain ⟨out, e1, h1⟩ := x
    cases out <;> first | exact LeO.bad _ | exact LeO.refl _

theorem twin_at : ∀ k, TwinAt C k
  | 0 => ⟨fun _ _ _ r h => by simp [callVK, KR.opt] at h, fun _ _ _ r h => by simp [callK, KR.opt] at h, fun _ _ _ _ r h => by simp [execK, KR.opt] at h, fun _ _ _ _ _ r h => by simp [opsK, KR.opt] at h⟩
  | k + 1 => by
    have ih := twin_at k
    refine ⟨?_, ?_, ?_, ?_⟩
    · intro g vs h
      cases g <;> simp only [callVK, roundK, callV, Option.bind_eq_bind] <;> first | exact LeO.bad _ | exact ih.call _ _ _ | skip
      refine LeO.bind' (LeO.lift _) fun r => ?_
      cases hc : (r.st != .ready || r.ps.length != vs.length) with
      | true => exact LeO.bad _
      | false =>
        simp only [Bool.false_eq_true, if_false]
        refine LeO.bind' (ih.exec _ _ _ _) fun x => ?_
        obtain ⟨out, e1, h1⟩ := x
        cases out <;> first | exact LeO.bad _ | skip
        refine LeO.bind' (LeO.lift _) fun r1 => ?_
        dsimp only
        cases hc1 : (r1.st != .ready) with
        | true => exact LeO.bad _
        | false =>
          simp only [Bool.false_eq_true, if_false]
          refine LeO.bind' (ih.exec _ _ _ _) fun y => ?_
          exact LeO.lift _
    · intro f args h
      rw [callK, callF]
      cases hp : C.prim f with
      | some p => exact LeO.lift _
      | none =>
        simp only [Option.bind_eq_bind]
        cases hf : C.fn f with
        | none => exact LeO.bad _
        | some fi =>
          simp only [Option.bind_some]
          cases hl : args.length != fi.params with
          | true => exact LeO.bad _
          | false =>
            simp only [Bool.false_eq_true, if_false]
            cases hal : C.alone f with
            | true =>
              simp only [if_true]
              cases has : mapO (freezeV h 0 40) args with
              | none => exact LeO.bad _
              | some avs =>
                simp only [Option.bind_some]
                rw [argsE_eq]
                unfold aloneK
                refine LeO.bind' (ih.exec _ _ _ _) fun x => ?_
                obtain ⟨out, e1, h1⟩ := x
                have key : LeO (lift f 999978 ((resultsA C h1 e1 fi.results).bind fun rs => match (packA rs).plain with
                    | true => some (CRes.ret (packA rs), h)
                    | false => none)).opt ((resultsA C h1 e1 fi.results).bind fun rs => if (packA rs).plain then some (CRes.ret (packA rs), h) else none) := by
                  rw [opt_lift]
                  refine LeO.bind (LeO.refl _) fun rs => ?_
                  cases (packA rs).plain <;> exact LeO.refl _
                cases out <;> first | exact key | exact LeO.bad _
            | false =>
            simp only [Bool.false_eq_true, if_false]
            rw [argsE_eq]
            unfold endK
            refine LeO.bind' (ih.exec _ _ _ _) fun x => ?_
            obtain ⟨out, e1, h1⟩ := x
            cases out <;> simp only
            · rw [opt_lift]
              exact LeO.bind (LeO.refl _) fun vs => leaveK_le C _ _ _ _
            · exact LeO.bad _
            · rw [opt_lift]
              exact LeO.bind (LeO.refl _) fun vs => leaveK_le C _ _ _ _
            · exact LeO.refl _
    · intro f c e h
      cases c <;> simp only [execK, seqK, condK, blockK, regionK, rangeK, execF, Option.bind_eq_bind] <;> first | exact LeO.bad _ | exact LeO.refl _ | exact ih.exec _ _ _ _ | skip
      · refine LeO.bind' (ih.ops _ _ _ _ _) fun x => ?_
        obtain ⟨out, e1, h1⟩ := x
        rename_i d
        cases out with
        | nrm =>
          dsimp only
          cases C.live f _ with
          | none => exact LeO.refl _
          | some l => dsimp only; rw [keepK_eq]; exact LeO.refl _
        | _ => cases d <;> first | exact LeO.refl _ | exact LeO.bad _
      · refine LeO.bind' (ih.exec _ _ _ _) fun x => ?_
        obtain ⟨out, e1, h1⟩ := x
        cases out <;> first | exact ih.exec _ _ _ _ | exact LeO.refl _
      · cases hv : evalA C e _ with
        | none => exact LeO.bad _
        | some v =>
          simp only [Option.bind_some]
          cases v <;> first | exact LeO.bad _ | skip
          rename_i b
          cases b <;> exact ih.exec _ _ _ _
      · refine LeO.bind' (ih.exec _ _ _ _) fun x => ?_
        obtain ⟨out, e1, h1⟩ := x
        cases out <;> first | exact LeO.refl _ | skip
        dsimp only
        split <;> rename_i hb
        · have he := Nat.eq_of_beqb hb
          subst he
          intro r hr
          simpa [KR.opt] using hr
        · have he := Nat.ne_of_beq_eq_false hb
          intro r hr
          simp only [beq_iff_eq, he, if_false]
          exact hr
      · rename_i b
        cases hro : C.roundsOf f b with
        | some m => exact mapLoopK_le C m f (ih.exec _ _) e h
        | none =>
          refine LeO.bind' (ih.exec _ _ _ _) fun x => ?_
          obtain ⟨out, e1, h1⟩ := x
          cases out <;> first | exact ih.exec _ _ _ _ | exact LeO.refl _
      · cases hv : evalA C e _ with
        | none => exact LeO.bad _
        | some v =>
          simp only [Option.bind_some]
          cases v <;> first | exact LeO.bad _ | skip
          refine LeO.bind' (ih.call _ _ _) fun x => ?_
          refine LeO.bind' (LeO.lift _) fun r => ?_
          obtain ⟨res, h1⟩ := x
          cases res with
          | pan v => exact LeO.bad _
          | ret v =>
            simp only
            cases hb : (r.st == LoopState.busy) with
            | true => exact LeO.bad _
            | false =>
              simp only [Bool.false_eq_true, if_false]
              cases hpd : r.pend with
              | none => simp only [hpd]; exact LeO.refl _
              | some c => cases c <;> first | exact LeO.bad _ | exact LeO.refl _
    · intro f ops l e h
      cases l with
      | nil => simp only [opsK, opsF]; exact LeO.refl _
      | cons o r =>
        rw [opsF_cons]
        simp only [opsK, stepK, stepO, stepC, goOn, opK_eq, AV.force_eq]
        cases hw : wantA ops e o with
        | none => exact LeO.bad _
        | some b =>
          simp only [Option.bind_some]
          cases b with
          | false => exact ih.ops _ _ _ _ _
          | true =>
            simp only
            cases hc : callee o with
            | none =>
              cases hp : panO C e o with
              | some v =>
                have hop : opA C f e h o = none := by
                  unfold panO at hp
                  split at hp <;> first | (cases hp; done) | skip
                  rename_i x hx
                  unfold opA
                  simp only [hx]
                rw [hop]
                exact LeO.bad _
              | none =>
              refine LeO.bind' (LeO.lift _) fun x => ?_
              cases hl : looseAll C f ops (dkey o) e x.2 with
              | true => simp only [if_true]; exact ih.ops _ _ _ _ _
              | false => exact LeO.bad _
            | some ga =>
              simp only
              cases hvs : mapO (evalA C e) ga.2.toList with
              | none => exact LeO.bad _
              | some vs =>
                simp only [Option.bind_some]
                cases hg : evalA C e ga.1 with
                | none => exact LeO.bad _
                | some gv =>
                  simp only [Option.bind_some]
                  cases hq : ((o.dst.map (C.quiet f)).getD false && !pureV C gv) with
                  | true => exact LeO.bad _
                  | false =>
                    simp only [Bool.false_eq_true, if_false]
                    refine LeO.bind' (ih.val _ _ _) fun x => ?_
                    obtain ⟨res, h1⟩ := x
                    cases res with
                    | pan v => exact LeO.refl _
                    | ret v =>
                      dsimp only
                      cases hl : looseAll C f ops (dkey o) e h1 with
                      | true => simp only [if_true]; exact ih.ops _ _ _ _ _
                      | false => exact LeO.bad _

/-- What the twin answers. -/
theorem call_of_run {k f : Nat} {args : List AV} {h : Heap} {r : CRes × Heap} (hr : (callK C k f args h).opt = some r) : call C f args h = some r :=
  (call_iff C).2 ⟨k, (twin_at C k).call f args h r hr⟩

/-- Is the answer true? -/
def isTrueK : KR (CRes × Heap) → Bool
  | .ok (.ret (.bool b), _) => b
  | _ => false

theorem runs_true {k f : Nat} {args : List AV} {h : Heap} (hr : isTrueK (callK C k f args h) = true) : ∃ h', call C f args h = some (.ret (.bool true), h') := by
  have h2 : ∀ x : KR (CRes × Heap), isTrueK x = true → ∃ h', x.opt = some (.ret (.bool true), h') := by
    intro x hx
    unfold isTrueK at hx
    split at hx
    · rename_i b h'
      subst hx
      exact ⟨h', rfl⟩
    · cases hx
  obtain ⟨h', hh⟩ := h2 _ hr
  exact ⟨h', call_of_run C hh⟩
end
end Go.Rv
