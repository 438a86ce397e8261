/-
  A twin of the interpreter that the kernel can run: what it answers, the interpreter answers.
-/
import Derived.Test.YtpnafmeehjfnaaaGreatDoorPtG
import Derived.Test.YtpnafmeehjfnaaaGreatDoorPtI
import Derived.Test.YtpnafmeehjfnaaaGreatDoorPtH
import Derived.Laws.BitsLemmas
set_option linter.unusedSectionVars false
set_option linter.unusedSimpArgs false
set_option linter.unusedVariables false
set_option linter.defProp false
namespace Go.Rv
noncomputable section
def entsEq : List (AV × AV) → List (AV × AV) → Bool
  | [], [] => true
  | (a, b) :: x, (c, d) :: y => AV.eqb a c && AV.eqb b d && entsEq x y
  | _, _ => false
theorem entsEq_eq : ∀ (x y : List (AV × AV)), entsEq x y = true → x = y
  | [], [], _ => rfl
  | [], _ :: _, h => by simp [entsEq] at h
  | _ :: _, [], h => by simp [entsEq] at h
  | (a, b) :: x, (c, d) :: y, h => by
    simp only [entsEq, Bool.and_eq_true] at h
    rw [AV.eqb_eq _ _ h.1.1, AV.eqb_eq _ _ h.1.2, entsEq_eq _ _ h.2]
def heapPre : Heap → Heap → Bool
  | [], _ => true
  | .cells cs g :: x, .cells cs' g' :: y => Nat.beq g g' && AV.eqbs cs cs' && heapPre x y
  | .map es :: x, .map es' :: y => entsEq es es' && heapPre x y
  | .iter k es :: x, .iter k' es' :: y => Nat.beq k k' && entsEq es es' && heapPre x y
  | _, _ => false
theorem heapPre_take : ∀ (x y : Heap), heapPre x y = true → y.take x.length = x
  | [], y, _ => by simp
  | a :: x, [], h => by cases a <;> simp [heapPre] at h
  | a :: x, b :: y, h => by
    cases a <;> cases b <;> simp only [heapPre, Bool.and_eq_true, Bool.false_eq_true] at h
    · rw [Nat.eq_of_beqb h.1.1, AV.eqbs_eq _ _ h.1.2]
      simp [heapPre_take x y h.2]
    · rw [entsEq_eq _ _ h.1]
      simp [heapPre_take x y h.2]
    · rw [Nat.eq_of_beqb h.1.1, entsEq_eq _ _ h.1.2]
      simp [heapPre_take x y h.2]
def envEq : Env → Env → Bool
  | [], [] => true
  | (a, b) :: x, (c, d) :: y => Nat.beq a c && AV.eqb b d && envEq x y
  | _, _ => false
theorem envEq_eq : ∀ (x y : Env), envEq x y = true → x = y
  | [], [], _ => rfl
  | [], _ :: _, h => by simp [envEq] at h
  | _ :: _, [], h => by simp [envEq] at h
  | (a, b) :: x, (c, d) :: y, h => by
    simp only [envEq, Bool.and_eq_true] at h
    rw [Nat.eq_of_beqb h.1.1, AV.eqb_eq _ _ h.1.2, envEq_eq _ _ h.2]
def stEq (a b : Env × Heap) : Bool := envEq a.1 b.1 && Nat.beq a.2.length b.2.length && heapPre a.2 b.2
theorem stEq_eq {a b : Env × Heap} (h : stEq a b = true) : a = b := by
  obtain ⟨a1, a2⟩ := a
  obtain ⟨b1, b2⟩ := b
  simp only [stEq, Bool.and_eq_true] at h
  have h1 := envEq_eq _ _ h.1.1
  have h2 := heapPre_take _ _ h.2
  rw [Nat.eq_of_beqb h.1.2, List.take_length] at h2
  rw [h1, h2]
variable (C : Cfg)
def leaveK (f : Nat) (h : Heap) (v : AV) (h' : Heap) : Option (CRes × Heap) :=
  match C.pure f with
  | true => match heapPre h h' with
    | true => (freezeV h' h.length 40 v).map fun v => (.ret v, h)
    | false => none
  | false => some (.ret v, h')
inductive KR (α : Type) where
  | ok (a : α)
  | bad (f t : Nat)
def KR.bind {α β : Type} (x : KR α) (g : α → KR β) : KR β :=
  match x with
  | .ok a => g a
  | .bad f t => .bad f t
def KR.opt {α : Type} : KR α → Option α
  | .ok a => some a
  | .bad _ _ => none
def lift {α : Type} (f t : Nat) : Option α → KR α
  | some a => .ok a
  | none => .bad f t
theorem opt_lift {α : Type} (f t : Nat) (x : Option α) : (lift f t x).opt = x := by cases x <;> rfl
theorem opt_bind {α β : Type} (x : KR α) (g : α → KR β) : (x.bind g).opt = x.opt.bind fun a => (g a).opt := by cases x <;> rfl
def argsE : Nat → List AV → Env
  | _, [] => []
  | i, v :: r => (i, v) :: argsE (i + 1) r
def forceN {β : Type} (n : Nat) (k : Nat → β) : β := Nat.casesOn (motive := fun _ => β) n (k (nat_lit 0)) fun m => k (Nat.succ m)
theorem forceN_eq {β : Type} (n : Nat) (k : Nat → β) : forceN n k = k n := by cases n <;> rfl
def forceI {β : Type} (n : Int) (k : Int → β) : β := match n with
  | .ofNat m => forceN m fun m => k (.ofNat m)
  | .negSucc m => forceN m fun m => k (.negSucc m)
theorem forceI_eq {β : Type} (n : Int) (k : Int → β) : forceI n k = k n := by cases n <;> simp only [forceI, forceN_eq]
def AV.force {β : Type} (v : AV) (k : AV → β) : β :=
  match v with
  | .bool b => k (.bool b)
  | .int i n => forceI n fun n => k (.int i n)
  | .str s => k (.str s)
  | .nilPtr => k .nilPtr
  | .nilMap => k .nilMap
  | .nilFunc => k .nilFunc
  | .nilIface => k .nilIface
  | .ptr o a g => k (.ptr o a g)
  | .ref cs => k (.ref cs)
  | .lst xs z r => k (.lst xs z r)
  | .msl o a l z g c => k (.msl o a l z g c)
  | .clo f cs => k (.clo f cs)
  | .bnd f cs => k (.bnd f cs)
  | .yld l => k (.yld l)
  | .map o => k (.map o)
  | .iface t x => k (.iface t x)
  | .agg cs => k (.agg cs)
  | .tup cs => k (.tup cs)
  | .junk => k .junk
theorem AV.force_eq {β : Type} (v : AV) (k : AV → β) : AV.force v k = k v := by cases v <;> first | rfl | simp only [AV.force, forceI_eq]
def keepK (e : Env) : List Nat → Env
  | [] => []
  | t :: r => (e.get t).force fun v => (t, v) :: keepK e r
def opK : Op → Option Nat → Nat → Env → Heap → Option (AV × Heap)
  | .move x => fun _ _ e h => (evalA C e x).bind fun v => some (v, h)
  | .assign x => fun _ _ e h => (evalA C e x).bind fun v => some (v, h)
  | .load t a => fun d f e h => (evalA C e a).bind fun x => match (d.map (C.quiet f)).getD false && !x.isRef with
    | true => none
    | false => (loadA C h t x).bind fun v => some (v, h)
  | .store t a x => fun _ _ e h => (evalA C e a).bind fun u => (evalA C e x).bind fun v => (storeA C h t u v).bind fun h' => some (.tup [], h')
  | .fieldAddr t x k => fun _ _ e h => (evalA C e x).bind fun u => (fieldAddrA C h t u k).bind fun z => some (z, h)
  | .field t x k => fun _ _ e h => (evalA C e x).bind fun u => (fieldA C t u k).bind fun z => some (z, h)
  | .indexAddr t x y => fun _ _ e h => (evalA C e x).bind fun u => (evalA C e y).bind fun v => (indexAddrA C h t u v).bind fun z => some (z, h)
  | .index t x y => fun _ _ e h => (evalA C e x).bind fun u => (evalA C e y).bind fun v => (indexA C t u v).bind fun z => some (z, h)
  | .unOp op _ x => fun _ _ e h => (evalA C e x).bind fun u => (unA op u).bind fun z => some (z, h)
  | .lookup t x k ok => fun _ _ e h => (evalA C e x).bind fun u => (evalA C e k).bind fun v => (lookupA C h t u v ok).bind fun z => some (z, h)
  | op => fun d f e h => opA C f e h { dst := d, op := op, type := 0, pos := "", after := #[], guard := none }
def goOn (f : Nat) (ops : Array Oper) (dk d : Option Nat) (cont : Env → Heap → KR (Out × Env × Heap)) (e : Env) (v : AV) (h : Heap) : KR (Out × Env × Heap) :=
  match looseAll C f ops dk e h with
  | true => v.force fun v => cont (e.putAt d v) h
  | false => .bad f (7000000 + d.getD 99999)
def stepC (f : Nat) (ops : Array Oper) (dk d : Option Nat) (ga : Operand × Array Operand) (cv : AV → List AV → Heap → KR (CRes × Heap)) (cont : Env → Heap → KR (Out × Env × Heap)) (e : Env) (h : Heap) : KR (Out × Env × Heap) :=
  match mapO (evalA C e) ga.2.toList with
  | none => .bad f (4000000 + d.getD 99999)
  | some vs => match evalA C e ga.1 with
    | none => .bad f (5000000 + d.getD 99999)
    | some gv => match (d.map (C.quiet f)).getD false && !pureV C gv with
      | true => .bad f (6000000 + d.getD 99999)
      | false => (cv gv vs h).bind fun x => match x.1 with
        | .ret v => goOn C f ops dk d cont e v x.2
        | .pan v => .ok (.pan v, e, x.2)
def stepO (f : Nat) (ops : Array Oper) (o : Oper) (cv : AV → List AV → Heap → KR (CRes × Heap)) (cont : Env → Heap → KR (Out × Env × Heap)) (e : Env) (h : Heap) : KR (Out × Env × Heap) :=
  match callee o with
  | none => (lift f (3000000 + o.dst.getD 99999) (opK C o.op o.dst f e h)).bind fun x => goOn C f ops (dkey o) o.dst cont e x.1 x.2
  | some ga => stepC C f ops (dkey o) o.dst ga cv cont e h
def stepK (f : Nat) (ops : Array Oper) (o : Oper) (cv : AV → List AV → Heap → KR (CRes × Heap)) (cont : Env → Heap → KR (Out × Env × Heap)) (e : Env) (h : Heap) : KR (Out × Env × Heap) :=
  match wantA ops e o with
  | none => .bad f (2000000 + o.dst.getD 99999)
  | some false => cont (e.putAt o.dst (.tup [])) h
  | some true => stepO C f ops o cv cont e h
def seqK (a b : Env → Heap → KR (Out × Env × Heap)) (e : Env) (h : Heap) : KR (Out × Env × Heap) := (a e h).bind fun x => match x.1 with
  | .nrm => b x.2.1 x.2.2
  | _ => .ok x
def condK (f : Nat) (c : Operand) (a b : Env → Heap → KR (Out × Env × Heap)) (e : Env) (h : Heap) : KR (Out × Env × Heap) := match evalA C e c with
  | some (.bool true) => a e h
  | some (.bool false) => b e h
  | _ => .bad f 999986
def blockK (id : Nat) (b : Env → Heap → KR (Out × Env × Heap)) (e : Env) (h : Heap) : KR (Out × Env × Heap) := (b e h).bind fun x => match x.1 with
  | .exit id' => match Nat.beq id' id with
    | true => .ok (.nrm, x.2.1, x.2.2)
    | false => .ok x
  | _ => .ok x
def regionK (f id : Nat) (draw : Bool) (y : KR (Out × Env × Heap)) : KR (Out × Env × Heap) := y.bind fun x => match x.1 with
  | .nrm => (match C.live f id with | some l => .ok (.nrm, keepK x.2.1 l, x.2.2) | none => .ok (.nrm, x.2.1, x.2.2))
  | _ => match draw with
    | true => .bad f (1000000 + id)
    | false => .ok x
def rangeK (f : Nat) (g : Operand) (ps : Array Nat) (assign body : Code) (cl : Nat → List AV → Heap → KR (CRes × Heap)) (e : Env) (h : Heap) : KR (Out × Env × Heap) := match evalA C e g with
  | some (.clo g caps) => (cl g (.yld h.length :: caps) (h ++ [.loop { st := .ready, pend := none, f, env := e, ps := ps.toList, assign, body }])).bind fun x =>
    (lift f 999985 (x.2.loopAt h.length)).bind fun r => match x.1 with
    | .ret _ => match r.st == .busy with
      | true => .bad f 999984
      | false => match r.pend with
        | none => .ok (.nrm, e, x.2.set h.length (.cells [] 1))
        | some .ret => .ok (.ret, e, x.2.set h.length (.cells [] 1))
        | some (.exit id) => .ok (.exit id, e, x.2.set h.length (.cells [] 1))
        | _ => .bad f 999983
    | .pan _ => .bad f 999982
  | _ => .bad f 999981
def roundK (o : Nat) (vs : List AV) (ex : Nat → Code → Env → Heap → KR (Out × Env × Heap)) (h : Heap) : KR (CRes × Heap) := (lift 0 999993 (h.loopAt o)).bind fun r =>
  match r.st != .ready || r.ps.length != vs.length with
  | true => .bad r.f 999992
  | false => (ex r.f r.assign (r.env.puts r.ps vs) h).bind fun x => match x.1 with
    | .nrm => (lift r.f 999991 (x.2.2.loopAt o)).bind fun r1 =>
      match r1.st != .ready with
      | true => .bad r.f 999990
      | false => (ex r.f r.body x.2.1 (x.2.2.set o (.loop { r1 with st := .busy }))).bind fun y =>
        lift r.f 999989 ((y.2.2.loopAt o).bind fun r2 => (jumpOf y.1).bind fun j =>
          some (.ret (.bool j.isNone), y.2.2.set o (.loop { r2 with st := if j.isNone then .ready else .done, pend := j })))
    | _ => .bad r.f 999988
def endK (f : Nat) (fi : FI) (h : Heap) (y : KR (Out × Env × Heap)) : KR (CRes × Heap) := y.bind fun x => match x.1 with
  | .nrm | .ret => lift f 999995 ((resultsA C x.2.2 x.2.1 fi.results).bind fun vs => leaveK C f h (packA vs) x.2.2)
  | .pan v => .ok (.pan v, x.2.2)
  | .exit _ => .bad f 999994
def aloneK (f : Nat) (fi : FI) (h : Heap) (y : KR (Out × Env × Heap)) : KR (CRes × Heap) := y.bind fun x => match x.1 with
  | .nrm | .ret => lift f 999978 ((resultsA C x.2.2 x.2.1 fi.results).bind fun rs => match (packA rs).plain with
    | true => some (.ret (packA rs), h)
    | false => none)
  | _ => .bad f 999977
def mapK {α β : Type} (g : α → KR β) : List α → KR (List β)
  | [] => .ok []
  | x :: r => (g x).bind fun y => (mapK g r).bind fun ys => .ok (y :: ys)
def mapRoundK (f : Nat) (ex : Env → Heap → KR (Out × Env × Heap)) (m : MapLoop) (l : List Nat) (o : Nat) (s : Env × Heap) (p : AV × AV) : KR (Env × Heap) :=
  (ex ((s.1.put m.t0 (.tup [.bool true, p.1, p.2])).put m.t1 (.bool true)) (s.2.set o (.iter 2 [p]))).bind fun x => match x.1, x.2.2.iterAt o with
  | .nrm, some (2, _) => match keptB s.2.length (x.2.1.keep l) (x.2.2.set o (.iter 1 [])) with
    | true => .ok (x.2.1.keep l, (x.2.2.set o (.iter 1 [])).take s.2.length)
    | false => .bad f 999968
  | _, _ => .bad f 999976
def mapRoundsK (f : Nat) (ex : Env → Heap → KR (Out × Env × Heap)) (m : MapLoop) (l : List Nat) (o : Nat) (es : List (AV × AV)) (s0 : Env × Heap) : KR (Env × Heap) :=
  match stEq s0 s0 with
  | false => .bad f 999975
  | true => (mapK (mapRoundK f ex m l o s0) es).bind fun ps =>
    (mapK (mapRoundK f ex m l o ((ps.find? fun s => !stEq s s0).getD s0)) es).bind fun qs =>
    match ps.all (fun s => stEq s s0 || stEq s ((ps.find? fun s => !stEq s s0).getD s0)) && qs.all (fun s => stEq s ((ps.find? fun s => !stEq s s0).getD s0)) with
    | true => .ok ((ps.find? fun s => !stEq s s0).getD s0)
    | false => .bad f 999974
def mapLoopK (m : MapLoop) (f : Nat) (ex : Env → Heap → KR (Out × Env × Heap)) (e : Env) (h : Heap) : KR (Out × Env × Heap) :=
  match evalA C e m.it with
  | some (.ptr o 0 0) => match h.iterAt o with
    | some (0, es) => match C.live f m.id with
      | some l => (mapRoundsK f ex m l o es (e.keep l, h.set o (.iter 1 []))).bind fun s =>
        match itIs C (e.keep l) m o && itIs C s.1 m o with
        | true => (ex ((s.1.put m.t0 (.tup [.bool false])).put m.t1 (.bool false)) s.2).bind fun x => match x.1 with
          | .nrm => .bad f 999973
          | .exit id => .ok (.exit id, x.2.1, x.2.2)
          | .ret => .ok (.ret, x.2.1, x.2.2)
          | .pan v => .ok (.pan v, x.2.1, x.2.2)
        | false => .bad f 999972
      | none => .bad f 999971
    | _ => .bad f 999970
  | _ => .bad f 999969
mutual
def callK : Nat → Nat → List AV → Heap → KR (CRes × Heap)
  | 0, f, _, _ => .bad f 999999
  | k + 1, f, args, h =>
    match C.prim f with
    | some p => lift f 999998 (p args h)
    | none =>
      match C.fn f with
      | none => .bad f 999997
      | some fi =>
        match args.length != fi.params with
        | true => .bad f 999996
        | false => match C.alone f with
          | true => match mapO (freezeV h 0 40) args with
            | none => .bad f 999979
            | some avs => aloneK C f fi h (execK k f fi.body (argsE 0 avs) [])
          | false => endK C f fi h (execK k f fi.body (argsE 0 args) h)
def callVK : Nat → AV → List AV → Heap → KR (CRes × Heap)
  | 0, _, _, _ => .bad 0 999999
  | k + 1, g, vs, h =>
    match g with
    | .clo g caps => callK k g (vs ++ caps) h
    | .bnd g first => callK k g (first ++ vs) h
    | .yld o => roundK o vs (execK k) h
    | _ => .bad 0 999987
def execK : Nat → Nat → Code → Env → Heap → KR (Out × Env × Heap)
  | 0, f, _, _, _ => .bad f 999999
  | k + 1, f, c, e, h =>
    match c with
    | .skip | .label _ => .ok (.nrm, e, h)
    | .seq a b => seqK (execK k f a) (execK k f b) e h
    | .cond c a b => condK C f c (execK k f a) (execK k f b) e h
    | .block id b => blockK id (execK k f b) e h
    | .loop b => match C.roundsOf f b with
      | some m => mapLoopK C m f (execK k f m.rest) e h
      | none => seqK (execK k f b) (execK k f (.loop b)) e h
    | .exit id => .ok (.exit id, e, h)
    | .scope b => execK k f b e h
    | .ret => .ok (.ret, e, h)
    | .region id ops draw => regionK C f id draw (opsK k f ops (sched ops draw) e h)
    | .rangeFunc g ps assign body => rangeK C f g ps assign body (callK k) e h
    | _ => .bad f 999980
def opsK : Nat → Nat → Array Oper → List Oper → Env → Heap → KR (Out × Env × Heap)
  | 0, f, _, l, _, _ => .bad f (9000000 + match l with | o :: _ => o.dst.getD 9999 | [] => 99999)
  | _ + 1, _, _, [], e, h => .ok (.nrm, e, h)
  | k + 1, f, ops, o :: r, e, h => stepK C f ops o (callVK k) (opsK k f ops r) e h
end
structure TwinAt (k : Nat) : Prop where
  val : ∀ g vs h, LeO (callVK C k g vs h).opt (callV C k g vs h)
  call : ∀ f args h, LeO (callK C k f args h).opt (callF C k f args h)
  exec : ∀ f c e h, LeO (execK C k f c e h).opt (execF C k f c e h)
  ops : ∀ f ops l e h, LeO (opsK C k f ops l e h).opt (opsF C k f ops l e h)
theorem LeO.bind' {α β : Type} {a : KR α} {b : Option α} {f : α → KR β} {g : α → Option β} (h : LeO a.opt b) (h' : ∀ x, LeO (f x).opt (g x)) : LeO (a.bind f).opt (b.bind g) := by
  rw [opt_bind]; exact LeO.bind h h'
theorem LeO.lift {α : Type} {f t : Nat} (a : Option α) : LeO (Go.Rv.lift f t a).opt a := by rw [opt_lift]; exact LeO.refl _
theorem LeO.bad {α : Type} {f t : Nat} (a : Option α) : LeO (KR.bad f t : KR α).opt a := fun _ h => by cases h
theorem LeO.of_eq {α : Type} {a b : Option α} (h : a = b) : LeO a b := h ▸ LeO.refl a
theorem mapK_le {α β : Type} {g : α → KR β} {g' : α → Option β} (hg : ∀ x, LeO (g x).opt (g' x)) : ∀ l, LeO (mapK g l).opt (mapO g' l)
  | [] => by simp only [mapK, mapO]; exact LeO.refl _
  | x :: r => by
    simp only [mapK, mapO]
    exact LeO.bind' (hg x) fun y => LeO.bind' (mapK_le hg r) fun _ => LeO.refl _
theorem mapRoundK_le {f : Nat} {ex : Env → Heap → KR (Out × Env × Heap)} {ex' : Env → Heap → Option (Out × Env × Heap)} (hx : ∀ e h, LeO (ex e h).opt (ex' e h)) (m : MapLoop) (l : List Nat) (o : Nat) (s : Env × Heap) (p : AV × AV) : LeO (mapRoundK f ex m l o s p).opt (mapRound ex' m l o s p) := by
  refine LeO.bind' (hx _ _) fun x => ?_
  obtain ⟨out, e, h⟩ := x
  dsimp only
  cases out <;> first | exact LeO.bad _ | skip
  cases hi : h.iterAt o with
  | none => exact LeO.bad _
  | some q =>
    obtain ⟨k, es⟩ := q
    match k with
    | 0 => exact LeO.bad _
    | 1 => exact LeO.bad _
    | 2 =>
      cases hk : keptB s.2.length (e.keep l) (h.set o (.iter 1 [])) with
      | true => simp only [if_true]; exact LeO.refl _
      | false => exact LeO.bad _
    | k + 3 => exact LeO.bad _
open Classical in
theorem mapRoundsK_le {f : Nat} {ex : Env → Heap → KR (Out × Env × Heap)} {ex' : Env → Heap → Option (Out × Env × Heap)} (hx : ∀ e h, LeO (ex e h).opt (ex' e h)) (m : MapLoop) (l : List Nat) (o : Nat) (es : List (AV × AV)) (s0 : Env × Heap) : LeO (mapRoundsK f ex m l o es s0).opt (mapRounds ex' m l o es s0) := by
  unfold mapRoundsK mapRounds
  cases hr : stEq s0 s0 with
  | false => exact LeO.bad _
  | true =>
    have hd : (fun s => !stEq s s0) = fun s : Env × Heap => !decide (s = s0) := by
      funext s
      congr 1
      by_cases e : s = s0
      · subst e; simp [hr]
      · have : stEq s s0 ≠ true := fun h => e (stEq_eq h)
        simp [e, this]
    simp only [Option.bind_eq_bind, hd]
    refine LeO.bind' (mapK_le (mapRoundK_le hx m l o s0) es) fun ps => LeO.bind' (mapK_le (mapRoundK_le hx m l o _) es) fun qs => ?_
    generalize (List.find? (fun s => !decide (s = s0)) ps).getD s0 = s1
    cases hc : ps.all (fun s => stEq s s0 || stEq s s1) && qs.all (fun s => stEq s s1) with
    | false => exact LeO.bad _
    | true =>
      simp only [Bool.and_eq_true, List.all_eq_true, Bool.or_eq_true] at hc
      rw [if_pos ⟨fun s hs => (hc.1 s hs).imp stEq_eq stEq_eq, fun s hs => stEq_eq (hc.2 s hs)⟩]
      exact LeO.refl _
theorem mapLoopK_le {ex : Env → Heap → KR (Out × Env × Heap)} {ex' : Env → Heap → Option (Out × Env × Heap)} (m : MapLoop) (f : Nat) (hx : ∀ e h, LeO (ex e h).opt (ex' e h)) (e : Env) (h : Heap) : LeO (mapLoopK C m f ex e h).opt (mapLoopA C m f ex' e h) := by
  unfold mapLoopK mapLoopA
  split <;> first | exact LeO.bad _ | skip
  rename_i o ho
  split <;> first | exact LeO.bad _ | skip
  rename_i es hi
  split <;> first | exact LeO.bad _ | skip
  rename_i l hl
  simp only [ho, hi, hl, Option.bind_eq_bind, Option.bind_some]
  refine LeO.bind' (mapRoundsK_le hx _ _ _ _ _) fun s => ?_
  cases hc : itIs C (e.keep l) m o && itIs C s.1 m o with
  | false => exact LeO.bad _
  | true =>
    simp only [if_true]
    refine LeO.bind' (hx _ _) fun x => ?_
    obtain ⟨out, e1, h1⟩ := x
    cases out <;> first | exact LeO.bad _ | exact LeO.refl _
end
end Go.Rv
namespace Go.Rv
noncomputable section
inductive FT (α : Type) where
  | nil
  | node (x : α) (l r : FT α)
def FT.get {α : Type} (d : α) (t : FT α) : Nat → α :=
  FT.rec (motive := fun _ => Nat → α) (fun _ => d) (fun x _ _ ihl ihr i =>
    Bool.rec (motive := fun _ => α) (Bool.rec (motive := fun _ => α) (ihr (Nat.pred (Nat.div i (nat_lit 2)))) (ihl (Nat.div i (nat_lit 2))) (Nat.beq (Nat.mod i (nat_lit 2)) (nat_lit 1))) x (Nat.beq i (nat_lit 0))) t
def FT.putA {α : Type} (d v : α) (fuel : Nat) : Nat → FT α → FT α :=
  Nat.rec (motive := fun _ => Nat → FT α → FT α) (fun _ t => t) (fun _ ih i t =>
    FT.rec (motive := fun _ => FT α)
      (Bool.rec (motive := fun _ => FT α) (Bool.rec (motive := fun _ => FT α) (.node d .nil (ih (Nat.pred (Nat.div i (nat_lit 2))) .nil)) (.node d (ih (Nat.div i (nat_lit 2)) .nil) .nil) (Nat.beq (Nat.mod i (nat_lit 2)) (nat_lit 1))) (.node v .nil .nil) (Nat.beq i (nat_lit 0)))
      (fun x l r _ _ => Bool.rec (motive := fun _ => FT α) (Bool.rec (motive := fun _ => FT α) (.node x l (ih (Nat.pred (Nat.div i (nat_lit 2))) r)) (.node x (ih (Nat.div i (nat_lit 2)) l) r) (Nat.beq (Nat.mod i (nat_lit 2)) (nat_lit 1))) (.node v l r) (Nat.beq i (nat_lit 0))) t) fuel
def FT.put {α : Type} (d : α) (i : Nat) (v : α) (t : FT α) : FT α := FT.putA d v (Nat.succ i) i t
theorem FT.get_nil {α : Type} (d : α) (i : Nat) : (FT.nil : FT α).get d i = d := rfl
theorem FT.get_node {α : Type} (d x : α) (l r : FT α) (i : Nat) : (FT.node x l r).get d i = if i = 0 then x else if i % 2 = 1 then l.get d (i / 2) else r.get d (i / 2 - 1) := by
  show Bool.rec (motive := fun _ => α) (Bool.rec (motive := fun _ => α) (r.get d (i / 2 - 1)) (l.get d (i / 2)) (Nat.beq (i % 2) 1)) x (Nat.beq i 0) = _
  cases h : Nat.beq i 0 with
  | true => rw [if_pos (Nat.eq_of_beq_eq_true h)]
  | false =>
    rw [if_neg (Nat.ne_of_beq_eq_false h)]
    cases h2 : Nat.beq (i % 2) 1 with
    | true => rw [if_pos (Nat.eq_of_beq_eq_true h2)]
    | false => rw [if_neg (Nat.ne_of_beq_eq_false h2)]
def FT.top {α : Type} (d : α) : FT α → α
  | .nil => d
  | .node x _ _ => x
def FT.le {α : Type} : FT α → FT α
  | .nil => .nil
  | .node _ l _ => l
def FT.ri {α : Type} : FT α → FT α
  | .nil => .nil
  | .node _ _ r => r
theorem FT.get_eq {α : Type} (d : α) (t : FT α) (i : Nat) : t.get d i = if i = 0 then t.top d else if i % 2 = 1 then t.le.get d (i / 2) else t.ri.get d (i / 2 - 1) := by
  cases t with
  | nil => simp only [FT.top, FT.le, FT.ri, FT.get_nil, ite_self]
  | node x l r => exact FT.get_node d x l r i
theorem FT.putA_succ {α : Type} (d v : α) (fuel i : Nat) (t : FT α) : FT.putA d v (fuel + 1) i t = if i = 0 then .node v t.le t.ri else if i % 2 = 1 then .node (t.top d) (FT.putA d v fuel (i / 2) t.le) t.ri else .node (t.top d) t.le (FT.putA d v fuel (i / 2 - 1) t.ri) := by
  have key : ∀ a b c : FT α, Bool.rec (motive := fun _ => FT α) (Bool.rec (motive := fun _ => FT α) c b (Nat.beq (i % 2) 1)) a (Nat.beq i 0) = if i = 0 then a else if i % 2 = 1 then b else c := by
    intro a b c
    cases h : Nat.beq i 0 with
    | true => rw [if_pos (Nat.eq_of_beq_eq_true h)]
    | false =>
      rw [if_neg (Nat.ne_of_beq_eq_false h)]
      cases h2 : Nat.beq (i % 2) 1 with
      | true => rw [if_pos (Nat.eq_of_beq_eq_true h2)]
      | false => rw [if_neg (Nat.ne_of_beq_eq_false h2)]
  cases t with
  | nil => exact key _ _ _
  | node x l r => exact key _ _ _
theorem FT.get_putA {α : Type} (d v : α) : ∀ (fuel i : Nat) (t : FT α) (j : Nat), i < fuel → (FT.putA d v fuel i t).get d j = if j = i then v else t.get d j
  | 0, _, _, _, h => by omega
  | fuel + 1, i, t, j, h => by
    rw [FT.putA_succ]
    by_cases hi : i = 0
    · subst hi
      rw [if_pos rfl, FT.get_node, FT.get_eq d t j]
      by_cases hj : j = 0 <;> simp [hj]
    · rw [if_neg hi]
      by_cases ho : i % 2 = 1
      · rw [if_pos ho, FT.get_node, FT.get_eq d t j]
        by_cases hj : j = 0
        · subst hj; rw [if_pos rfl, if_pos rfl, if_neg (by omega)]
        · rw [if_neg hj, if_neg hj]
          by_cases hjo : j % 2 = 1
          · rw [if_pos hjo, if_pos hjo, FT.get_putA d v fuel (i / 2) t.le (j / 2) (by omega)]
            by_cases e : j = i
            · subst e; simp
            · rw [if_neg e, if_neg (by omega)]
          · rw [if_neg hjo, if_neg hjo, if_neg (by rintro rfl; exact hjo ho)]
      · rw [if_neg ho, FT.get_node, FT.get_eq d t j]
        by_cases hj : j = 0
        · subst hj; rw [if_pos rfl, if_pos rfl, if_neg (by omega)]
        · rw [if_neg hj, if_neg hj]
          by_cases hjo : j % 2 = 1
          · rw [if_pos hjo, if_pos hjo, if_neg (by rintro rfl; exact ho hjo)]
          · rw [if_neg hjo, if_neg hjo, FT.get_putA d v fuel (i / 2 - 1) t.ri (j / 2 - 1) (by omega)]
            by_cases e : j = i
            · subst e; simp
            · rw [if_neg e, if_neg (by omega)]
theorem FT.get_put {α : Type} (d : α) (i : Nat) (v : α) (t : FT α) (j : Nat) : (t.put d i v).get d j = if j = i then v else t.get d j := FT.get_putA d v (i + 1) i t j (Nat.lt_succ_self i)
def FT.topR {α : Type} (d : α) (t : FT α) : α := FT.rec (motive := fun _ => α) d (fun x _ _ _ _ => x) t
def FT.leR {α : Type} (t : FT α) : FT α := FT.rec (motive := fun _ => FT α) .nil (fun _ l _ _ _ => l) t
def FT.riR {α : Type} (t : FT α) : FT α := FT.rec (motive := fun _ => FT α) .nil (fun _ _ r _ _ => r) t
theorem FT.topR_eq {α : Type} (d : α) (t : FT α) : t.topR d = t.top d := by cases t <;> rfl
theorem FT.leR_eq {α : Type} (t : FT α) : t.leR = t.le := by cases t <;> rfl
theorem FT.riR_eq {α : Type} (t : FT α) : t.riR = t.ri := by cases t <;> rfl
def FT.accA {α : Type} (d : α) (fuel : Nat) : Nat → FT α → α :=
  Nat.rec (motive := fun _ => Nat → FT α → α) (fun _ t => t.topR d) (fun _ ih i =>
    Bool.rec (motive := fun _ => FT α → α) (Bool.rec (motive := fun _ => FT α → α) (fun t => ih (Nat.pred (Nat.div i (nat_lit 2))) t.riR) (fun t => ih (Nat.div i (nat_lit 2)) t.leR) (Nat.beq (Nat.mod i (nat_lit 2)) (nat_lit 1))) (fun t => t.topR d) (Nat.beq i (nat_lit 0))) fuel
def FT.mk {α : Type} (d : α) (k : α → FT α → FT α → FT α) (t : FT α) : FT α := FT.rec (motive := fun _ => FT α) (k d .nil .nil) (fun x l r _ _ => k x l r) t
theorem FT.mk_eq {α : Type} (d : α) (k : α → FT α → FT α → FT α) (t : FT α) : FT.mk d k t = k (t.top d) t.le t.ri := by cases t <;> rfl
def FT.setA {α : Type} (d : α) (fuel : Nat) : Nat → α → FT α → FT α :=
  Nat.rec (motive := fun _ => Nat → α → FT α → FT α) (fun _ _ t => t) (fun _ ih i =>
    Bool.rec (motive := fun _ => α → FT α → FT α) (Bool.rec (motive := fun _ => α → FT α → FT α) (fun v => FT.mk d fun x l r => .node x l (ih (Nat.pred (Nat.div i (nat_lit 2))) v r)) (fun v => FT.mk d fun x l r => .node x (ih (Nat.div i (nat_lit 2)) v l) r) (Nat.beq (Nat.mod i (nat_lit 2)) (nat_lit 1))) (fun v => FT.mk d fun _ l r => .node v l r) (Nat.beq i (nat_lit 0))) fuel
theorem bools {α : Type} (i : Nat) (a b c : α) : Bool.rec (motive := fun _ => α) (Bool.rec (motive := fun _ => α) c b (Nat.beq (i % 2) 1)) a (Nat.beq i 0) = if i = 0 then a else if i % 2 = 1 then b else c := by
  cases h : Nat.beq i 0 with
  | true => rw [if_pos (Nat.eq_of_beq_eq_true h)]
  | false =>
    rw [if_neg (Nat.ne_of_beq_eq_false h)]
    cases h2 : Nat.beq (i % 2) 1 with
    | true => rw [if_pos (Nat.eq_of_beq_eq_true h2)]
    | false => rw [if_neg (Nat.ne_of_beq_eq_false h2)]
theorem FT.accA_eq {α : Type} (d : α) : ∀ (fuel i : Nat) (t : FT α), i < fuel → FT.accA d fuel i t = t.get d i
  | 0, _, _, h => by omega
  | fuel + 1, i, t, h => by
    have e : FT.accA d (fuel + 1) i = if i = 0 then (fun t => t.topR d) else if i % 2 = 1 then (fun t => FT.accA d fuel (i / 2) t.leR) else (fun t => FT.accA d fuel (i / 2 - 1) t.riR) := bools i _ _ _
    rw [e, FT.get_eq d t i]
    by_cases hi : i = 0
    · rw [if_pos hi, if_pos hi, FT.topR_eq]
    · rw [if_neg hi, if_neg hi]
      by_cases ho : i % 2 = 1
      · rw [if_pos ho, if_pos ho, FT.leR_eq, FT.accA_eq d fuel (i / 2) t.le (by omega)]
      · rw [if_neg ho, if_neg ho, FT.riR_eq, FT.accA_eq d fuel (i / 2 - 1) t.ri (by omega)]
theorem FT.setA_eq {α : Type} (d v : α) : ∀ (fuel i : Nat) (t : FT α), FT.setA d fuel i v t = FT.putA d v fuel i t
  | 0, _, _ => rfl
  | fuel + 1, i, t => by
    have e : FT.setA d (fuel + 1) i = if i = 0 then (fun v => FT.mk d fun _ l r => .node v l r) else if i % 2 = 1 then (fun v => FT.mk d fun x l r => .node x (FT.setA d fuel (i / 2) v l) r) else (fun v => FT.mk d fun x l r => .node x l (FT.setA d fuel (i / 2 - 1) v r)) := bools i _ _ _
    rw [e, FT.putA_succ]
    by_cases hi : i = 0
    · rw [if_pos hi, if_pos hi, FT.mk_eq]
    · rw [if_neg hi, if_neg hi]
      by_cases ho : i % 2 = 1
      · rw [if_pos ho, if_pos ho, FT.mk_eq, FT.setA_eq d v fuel]
      · rw [if_neg ho, if_neg ho, FT.mk_eq, FT.setA_eq d v fuel]
def FT.acc {α : Type} (d : α) (i : Nat) : FT α → α := FT.accA d (Nat.succ i) i
def FT.sto {α : Type} (d : α) (i : Nat) : α → FT α → FT α := FT.setA d (Nat.succ i) i
theorem FT.acc_eq {α : Type} (d : α) (i : Nat) (t : FT α) : FT.acc d i t = t.get d i := FT.accA_eq d _ _ _ (Nat.lt_succ_self i)
theorem FT.sto_eq {α : Type} (d : α) (i : Nat) (v : α) (t : FT α) : FT.sto d i v t = t.put d i v := FT.setA_eq d v _ _ _
inductive QT (α : Type) where
  | nil
  | node (x : α) (a b c e : QT α)
def pick4 {β : Type} (m : Nat) (a b c e : β) : β := Bool.rec (motive := fun _ => β) (Bool.rec (motive := fun _ => β) (Bool.rec (motive := fun _ => β) e c (Nat.beq m (nat_lit 2))) b (Nat.beq m (nat_lit 1))) a (Nat.beq m (nat_lit 0))
theorem pick4_eq {β : Type} (m : Nat) (a b c e : β) : pick4 m a b c e = if m = 0 then a else if m = 1 then b else if m = 2 then c else e := by
  unfold pick4
  cases h : Nat.beq m (nat_lit 0) with
  | true => rw [if_pos (Nat.eq_of_beq_eq_true h)]
  | false =>
    rw [if_neg (Nat.ne_of_beq_eq_false h)]
    cases h1 : Nat.beq m (nat_lit 1) with
    | true => rw [if_pos (Nat.eq_of_beq_eq_true h1)]
    | false =>
      rw [if_neg (Nat.ne_of_beq_eq_false h1)]
      cases h2 : Nat.beq m (nat_lit 2) with
      | true => rw [if_pos (Nat.eq_of_beq_eq_true h2)]
      | false => rw [if_neg (Nat.ne_of_beq_eq_false h2)]
def QT.get {α : Type} (t : QT α) (d : α) : Nat → α :=
  QT.rec (motive := fun _ => Nat → α) (fun _ => d) (fun x _ _ _ _ ga gb gc ge i =>
    Bool.rec (motive := fun _ => α) (pick4 (Nat.mod (Nat.pred i) (nat_lit 4)) ga gb gc ge (Nat.div (Nat.pred i) (nat_lit 4))) x (Nat.beq i (nat_lit 0))) t
def QT.putA {α : Type} (d v : α) (fuel : Nat) : Nat → QT α → QT α :=
  Nat.rec (motive := fun _ => Nat → QT α → QT α) (fun _ t => t) (fun _ ih i t =>
    QT.rec (motive := fun _ => QT α)
      (Bool.rec (motive := fun _ => QT α) (pick4 (Nat.mod (Nat.pred i) (nat_lit 4)) (.node d (ih (Nat.div (Nat.pred i) (nat_lit 4)) .nil) .nil .nil .nil) (.node d .nil (ih (Nat.div (Nat.pred i) (nat_lit 4)) .nil) .nil .nil) (.node d .nil .nil (ih (Nat.div (Nat.pred i) (nat_lit 4)) .nil) .nil) (.node d .nil .nil .nil (ih (Nat.div (Nat.pred i) (nat_lit 4)) .nil))) (.node v .nil .nil .nil .nil) (Nat.beq i (nat_lit 0)))
      (fun x a b c e _ _ _ _ => Bool.rec (motive := fun _ => QT α) (pick4 (Nat.mod (Nat.pred i) (nat_lit 4)) (.node x (ih (Nat.div (Nat.pred i) (nat_lit 4)) a) b c e) (.node x a (ih (Nat.div (Nat.pred i) (nat_lit 4)) b) c e) (.node x a b (ih (Nat.div (Nat.pred i) (nat_lit 4)) c) e) (.node x a b c (ih (Nat.div (Nat.pred i) (nat_lit 4)) e))) (.node v a b c e) (Nat.beq i (nat_lit 0))) t) fuel
def QT.put {α : Type} (t : QT α) (d : α) (i : Nat) (v : α) : QT α := QT.putA d v (Nat.succ i) i t
theorem QT.get_nil {α : Type} (d : α) (i : Nat) : (QT.nil : QT α).get d i = d := rfl
def QT.top {α : Type} (d : α) : QT α → α
  | .nil => d
  | .node x _ _ _ _ => x
def QT.kid {α : Type} : QT α → Nat → QT α
  | .nil, _ => .nil
  | .node _ a b c e, m => if m = 0 then a else if m = 1 then b else if m = 2 then c else e
theorem bool0 {β : Type} (i : Nat) (a b : β) : Bool.rec (motive := fun _ => β) b a (Nat.beq i (nat_lit 0)) = if i = 0 then a else b := by
  cases h : Nat.beq i (nat_lit 0) with
  | true => rw [if_pos (Nat.eq_of_beq_eq_true h)]
  | false => rw [if_neg (Nat.ne_of_beq_eq_false h)]
theorem QT.get_eq {α : Type} (d : α) (t : QT α) (i : Nat) : t.get d i = if i = 0 then t.top d else (t.kid ((i - 1) % 4)).get d ((i - 1) / 4) := by
  cases t with
  | nil => simp only [QT.get_nil, QT.top, QT.kid, ite_self]
  | node x a b c e =>
    have h : (QT.node x a b c e).get d i = if i = 0 then x else (pick4 ((i - 1) % 4) (a.get d) (b.get d) (c.get d) (e.get d)) ((i - 1) / 4) := bool0 i _ _
    rw [h, pick4_eq]
    simp only [QT.top, QT.kid]
    split
    · rfl
    · split
      · rfl
      · split
        · rfl
        · split <;> rfl
theorem QT.get_mk {α : Type} (d x : α) (a b c e : QT α) (i : Nat) : (QT.node x a b c e).get d i = if i = 0 then x else (if (i - 1) % 4 = 0 then a else if (i - 1) % 4 = 1 then b else if (i - 1) % 4 = 2 then c else e).get d ((i - 1) / 4) := QT.get_eq d _ i
theorem QT.putA_succ {α : Type} (d v : α) (fuel i : Nat) (t : QT α) : QT.putA d v (fuel + 1) i t = if i = 0 then .node v (t.kid 0) (t.kid 1) (t.kid 2) (t.kid 3) else
    .node (t.top d) (if (i - 1) % 4 = 0 then QT.putA d v fuel ((i - 1) / 4) (t.kid 0) else t.kid 0) (if (i - 1) % 4 = 1 then QT.putA d v fuel ((i - 1) / 4) (t.kid 1) else t.kid 1)
      (if (i - 1) % 4 = 2 then QT.putA d v fuel ((i - 1) / 4) (t.kid 2) else t.kid 2) (if (i - 1) % 4 = 3 then QT.putA d v fuel ((i - 1) / 4) (t.kid 3) else t.kid 3) := by
  have hm : (i - 1) % 4 < 4 := Nat.mod_lt _ (by omega)
  cases t with
  | nil =>
    have h : QT.putA d v (fuel + 1) i (.nil : QT α) = if i = 0 then .node v .nil .nil .nil .nil else pick4 ((i - 1) % 4) (.node d (QT.putA d v fuel ((i - 1) / 4) .nil) .nil .nil .nil) (.node d .nil (QT.putA d v fuel ((i - 1) / 4) .nil) .nil .nil) (.node d .nil .nil (QT.putA d v fuel ((i - 1) / 4) .nil) .nil) (.node d .nil .nil .nil (QT.putA d v fuel ((i - 1) / 4) .nil)) := bool0 i _ _
    rw [h, pick4_eq]
    simp only [QT.top, QT.kid]
    split
    · rfl
    · generalize (i - 1) % 4 = m at hm
      match m, hm with
      | 0, _ => rfl
      | 1, _ => rfl
      | 2, _ => rfl
      | 3, _ => rfl
  | node x a b c e =>
    have h : QT.putA d v (fuel + 1) i (.node x a b c e) = if i = 0 then .node v a b c e else pick4 ((i - 1) % 4) (.node x (QT.putA d v fuel ((i - 1) / 4) a) b c e) (.node x a (QT.putA d v fuel ((i - 1) / 4) b) c e) (.node x a b (QT.putA d v fuel ((i - 1) / 4) c) e) (.node x a b c (QT.putA d v fuel ((i - 1) / 4) e)) := bool0 i _ _
    rw [h, pick4_eq]
    simp only [QT.top, QT.kid]
    split
    · rfl
    · generalize (i - 1) % 4 = m at hm
      match m, hm with
      | 0, _ => rfl
      | 1, _ => rfl
      | 2, _ => rfl
      | 3, _ => rfl
theorem QT.get_putA {α : Type} (d v : α) : ∀ (fuel i : Nat) (t : QT α) (j : Nat), i < fuel → (QT.putA d v fuel i t).get d j = if j = i then v else t.get d j
  | 0, _, _, _, h => by omega
  | fuel + 1, i, t, j, h => by
    rw [QT.putA_succ, QT.get_eq d t j]
    have hjm : (j - 1) % 4 < 4 := Nat.mod_lt _ (by omega)
    have kid : ∀ m, m < 4 → (if m = 0 then t.kid 0 else if m = 1 then t.kid 1 else if m = 2 then t.kid 2 else t.kid 3) = t.kid m := by
      intro m hm
      match m, hm with
      | 0, _ => rfl
      | 1, _ => rfl
      | 2, _ => rfl
      | 3, _ => rfl
    by_cases hi : i = 0
    · subst hi
      rw [if_pos rfl, QT.get_mk]
      by_cases hj : j = 0
      · simp [hj]
      · rw [if_neg hj, if_neg hj, if_neg hj, kid _ hjm]
    · rw [if_neg hi, QT.get_mk]
      by_cases hj : j = 0
      · subst hj; rw [if_pos rfl, if_pos rfl, if_neg (Ne.symm hi)]
      · rw [if_neg hj, if_neg hj]
        have him : (i - 1) % 4 < 4 := Nat.mod_lt _ (by omega)
        by_cases hmm : (j - 1) % 4 = (i - 1) % 4
        · have e1 : (if (j - 1) % 4 = 0 then (if (i - 1) % 4 = 0 then QT.putA d v fuel ((i - 1) / 4) (t.kid 0) else t.kid 0) else if (j - 1) % 4 = 1 then (if (i - 1) % 4 = 1 then QT.putA d v fuel ((i - 1) / 4) (t.kid 1) else t.kid 1)
            else if (j - 1) % 4 = 2 then (if (i - 1) % 4 = 2 then QT.putA d v fuel ((i - 1) / 4) (t.kid 2) else t.kid 2) else (if (i - 1) % 4 = 3 then QT.putA d v fuel ((i - 1) / 4) (t.kid 3) else t.kid 3)) = QT.putA d v fuel ((i - 1) / 4) (t.kid ((j - 1) % 4)) := by
            rw [hmm]
            generalize (i - 1) % 4 = m at him
            match m, him with
            | 0, _ => rfl
            | 1, _ => rfl
            | 2, _ => rfl
            | 3, _ => rfl
          rw [e1, QT.get_putA d v fuel _ _ _ (by omega)]
          by_cases hq : (j - 1) / 4 = (i - 1) / 4
          · have : j = i := by omega
            rw [if_pos hq, if_pos this]
          · rw [if_neg hq, if_neg (by rintro rfl; exact hq rfl)]
        · have e1 : (if (j - 1) % 4 = 0 then (if (i - 1) % 4 = 0 then QT.putA d v fuel ((i - 1) / 4) (t.kid 0) else t.kid 0) else if (j - 1) % 4 = 1 then (if (i - 1) % 4 = 1 then QT.putA d v fuel ((i - 1) / 4) (t.kid 1) else t.kid 1)
            else if (j - 1) % 4 = 2 then (if (i - 1) % 4 = 2 then QT.putA d v fuel ((i - 1) / 4) (t.kid 2) else t.kid 2) else (if (i - 1) % 4 = 3 then QT.putA d v fuel ((i - 1) / 4) (t.kid 3) else t.kid 3)) = t.kid ((j - 1) % 4) := by
            generalize (j - 1) % 4 = m at hjm hmm
            match m, hjm with
            | 0, _ => rw [if_pos rfl, if_neg (fun h => hmm h.symm)]
            | 1, _ => rw [if_neg (by omega), if_pos rfl, if_neg (fun h => hmm h.symm)]
            | 2, _ => rw [if_neg (by omega), if_neg (by omega), if_pos rfl, if_neg (fun h => hmm h.symm)]
            | 3, _ => rw [if_neg (by omega), if_neg (by omega), if_neg (by omega), if_neg (fun h => hmm h.symm)]
          rw [e1, if_neg (by rintro rfl; exact hmm rfl)]
theorem QT.get_put {α : Type} (d : α) (i : Nat) (v : α) (t : QT α) (j : Nat) : (t.put d i v).get d j = if j = i then v else t.get d j := QT.get_putA d v (i + 1) i t j (Nat.lt_succ_self i)
abbrev TE := FT AV
structure Bx (α : Type) where
  fn : α
def Bx.use {α β : Type} (b : Bx α) (k : α → β) : β := Bx.rec (motive := fun _ => β) (fun f => k f) b
theorem Bx.use_eq {α β : Type} (b : Bx α) (k : α → β) : b.use k = k b.fn := rfl
def accB (fuel : Nat) : Nat → Bx (TE → AV) :=
  Nat.rec (motive := fun _ => Nat → Bx (TE → AV)) (fun _ => ⟨fun t => t.topR .junk⟩) (fun _ ih i =>
    Bool.rec (motive := fun _ => Bx (TE → AV)) (Bool.rec (motive := fun _ => Bx (TE → AV)) ((ih (Nat.pred (Nat.div i (nat_lit 2)))).use fun g => ⟨fun t => g t.riR⟩) ((ih (Nat.div i (nat_lit 2))).use fun g => ⟨fun t => g t.leR⟩) (Nat.beq (Nat.mod i (nat_lit 2)) (nat_lit 1))) ⟨fun t => t.topR .junk⟩ (Nat.beq i (nat_lit 0))) fuel
theorem accB_eq : ∀ (fuel i : Nat), (accB fuel i).fn = FT.accA .junk fuel i
  | 0, _ => rfl
  | fuel + 1, i => by
    have h1 := accB_eq fuel (i / 2)
    have h2 := accB_eq fuel (i / 2 - 1)
    have e : accB (fuel + 1) i = if i = 0 then ⟨fun t => t.topR .junk⟩ else if i % 2 = 1 then ((accB fuel (i / 2)).use fun g => ⟨fun t => g t.leR⟩) else ((accB fuel (i / 2 - 1)).use fun g => ⟨fun t => g t.riR⟩) := bools i _ _ _
    have e' : FT.accA (α := AV) .junk (fuel + 1) i = if i = 0 then (fun t => t.topR .junk) else if i % 2 = 1 then (fun t => FT.accA .junk fuel (i / 2) t.leR) else (fun t => FT.accA .junk fuel (i / 2 - 1) t.riR) := bools i _ _ _
    rw [e, e']
    by_cases hi : i = 0
    · rw [if_pos hi, if_pos hi]
    · rw [if_neg hi, if_neg hi]
      by_cases ho : i % 2 = 1
      · rw [if_pos ho, if_pos ho, Bx.use_eq, h1]
      · rw [if_neg ho, if_neg ho, Bx.use_eq, h2]
def setB (fuel : Nat) : Nat → Bx (AV → TE → TE) :=
  Nat.rec (motive := fun _ => Nat → Bx (AV → TE → TE)) (fun _ => ⟨fun _ t => t⟩) (fun _ ih i =>
    Bool.rec (motive := fun _ => Bx (AV → TE → TE)) (Bool.rec (motive := fun _ => Bx (AV → TE → TE)) ((ih (Nat.pred (Nat.div i (nat_lit 2)))).use fun g => ⟨fun v => FT.mk .junk fun x l r => .node x l (g v r)⟩) ((ih (Nat.div i (nat_lit 2))).use fun g => ⟨fun v => FT.mk .junk fun x l r => .node x (g v l) r⟩) (Nat.beq (Nat.mod i (nat_lit 2)) (nat_lit 1))) ⟨fun v => FT.mk .junk fun _ l r => .node v l r⟩ (Nat.beq i (nat_lit 0))) fuel
theorem setB_eq : ∀ (fuel i : Nat), (setB fuel i).fn = FT.setA .junk fuel i
  | 0, _ => rfl
  | fuel + 1, i => by
    have h1 := setB_eq fuel (i / 2)
    have h2 := setB_eq fuel (i / 2 - 1)
    have e : setB (fuel + 1) i = if i = 0 then ⟨fun v => FT.mk .junk fun _ l r => .node v l r⟩ else if i % 2 = 1 then ((setB fuel (i / 2)).use fun g => ⟨fun v => FT.mk .junk fun x l r => .node x (g v l) r⟩) else ((setB fuel (i / 2 - 1)).use fun g => ⟨fun v => FT.mk .junk fun x l r => .node x l (g v r)⟩) := bools i _ _ _
    have e' : FT.setA (α := AV) .junk (fuel + 1) i = if i = 0 then (fun v => FT.mk .junk fun _ l r => .node v l r) else if i % 2 = 1 then (fun v => FT.mk .junk fun x l r => .node x (FT.setA .junk fuel (i / 2) v l) r) else (fun v => FT.mk .junk fun x l r => .node x l (FT.setA .junk fuel (i / 2 - 1) v r)) := bools i _ _ _
    rw [e, e']
    by_cases hi : i = 0
    · rw [if_pos hi, if_pos hi]
    · rw [if_neg hi, if_neg hi]
      by_cases ho : i % 2 = 1
      · rw [if_pos ho, if_pos ho, Bx.use_eq, h1]
      · rw [if_neg ho, if_neg ho, Bx.use_eq, h2]
def accT (i : Nat) (E : TE) : AV := (accB (Nat.succ i) i).use fun g => g E
def stoT (i : Nat) (v : AV) (E : TE) : TE := (setB (Nat.succ i) i).use fun g => g v E
theorem accT_eq (i : Nat) (E : TE) : accT i E = E.get .junk i := by
  show (accB (Nat.succ i) i).fn E = _
  rw [accB_eq]
  exact FT.acc_eq _ _ _
theorem stoT_eq (i : Nat) (v : AV) (E : TE) : stoT i v E = E.put .junk i v := by
  show (setB (Nat.succ i) i).fn v E = _
  rw [setB_eq]
  exact FT.sto_eq _ _ _ _
def RepE (E : TE) (e : Env) : Prop := ∀ t, E.get .junk t = e.get t
def putD (E : TE) : Option Nat → AV → TE
  | some t => fun v => stoT t v E
  | none => fun _ => E
def outT (E : TE) (ops : Array Oper) : TE := ops.toList.foldl (fun E o => putD E o.dst .junk) E
theorem RepE.putD {E : TE} {e : Env} (H : RepE E e) (d : Option Nat) (v : AV) : RepE (putD E d v) (e.putAt d v) := by
  cases d with
  | none => exact H
  | some t =>
    intro u
    show (stoT t v E).get .junk u = (e.put t v).get u
    rw [stoT_eq, FT.get_put, Env.get_put, H u]
    by_cases h : u = t
    · subst h; simp
    · rw [if_neg h, if_neg (Ne.symm h)]
def AV.got (v : AV) : Option AV :=
  match v with
  | .bool b => some (.bool b)
  | .int i n => some (.int i n)
  | .str s => some (.str s)
  | .nilPtr => some .nilPtr
  | .nilMap => some .nilMap
  | .nilFunc => some .nilFunc
  | .nilIface => some .nilIface
  | .ptr o a g => some (.ptr o a g)
  | .ref cs => some (.ref cs)
  | .lst xs z r => some (.lst xs z r)
  | .msl o a l z g c => some (.msl o a l z g c)
  | .clo f cs => some (.clo f cs)
  | .bnd f cs => some (.bnd f cs)
  | .yld l => some (.yld l)
  | .map o => some (.map o)
  | .iface t x => some (.iface t x)
  | .agg cs => some (.agg cs)
  | .tup cs => some (.tup cs)
  | .junk => none
variable (C : Cfg)
def evalT (E : TE) : Operand → Option AV
  | .tmp t => (accT t E).got
  | .const v => ofValue v
  | .global g => C.glob g
  | .func f => some (.clo f [])
theorem evalT_eq {E : TE} {e : Env} (H : RepE E e) : evalT C E = evalA C e := by
  funext x
  cases x with
  | tmp t =>
    simp only [evalT, evalA, accT_eq, H t]
    cases e.get t <;> rfl
  | _ => rfl
def wantT (ops : Array Oper) (E : TE) (o : Oper) : Option Bool :=
  match o.guard with
  | none => some true
  | some (j, want) =>
    match ((ops[j]?).bind (·.dst)).map (E.get .junk) with
    | some (.bool b) => some (b == want)
    | some (.tup []) => some false
    | none => some false
    | _ => none
theorem wantT_eq {E : TE} {e : Env} (H : RepE E e) (ops : Array Oper) (o : Oper) : wantT ops E o = wantA ops e o := by
  have : E.get .junk = e.get := funext H
  unfold wantT wantA
  rw [this]
  rfl
def putsT (E : TE) : List Nat → List AV → TE
  | t :: ts, v :: vs => putsT (E.put .junk t v) ts vs
  | _, _ => E
theorem RepE.outT {E : TE} {e : Env} (H : RepE E e) (ops : Array Oper) : RepE (Rv.outT E ops) (e.outside ops) := by
  have key : ∀ (l : List Oper) {E : TE} {e : Env}, RepE E e → RepE (l.foldl (fun E o => Rv.putD E o.dst .junk) E) (l.foldl (fun e o => e.putAt o.dst .junk) e) := by
    intro l
    induction l with
    | nil => intro E e H; exact H
    | cons o r ih => intro E e H; exact ih (H.putD o.dst .junk)
  exact key ops.toList H
theorem RepE.puts : ∀ {ts : List Nat} {vs : List AV} {E : TE} {e : Env}, RepE E e → RepE (putsT E ts vs) (e.puts ts vs)
  | [], _, _, _, H => H
  | _ :: _, [], _, _, H => H
  | t :: ts, v :: vs, E, e, H => RepE.puts (ts := ts) (vs := vs) (fun u => by have := H.putD (some t) v u; simp only [Rv.putD, stoT_eq] at this; exact this)
def argsT : Nat → List AV → TE → TE
  | _, [], E => E
  | i, v :: r, E => argsT (Nat.succ i) r (E.put .junk i v)
theorem zip_get (l : List AV) : ∀ (i t : Nat), Env.get ((l.zipIdx i).map fun (v, i) => (i, v)) t = if i ≤ t then (l[t - i]?).getD .junk else .junk := by
  induction l with
  | nil => intro i t; simp [Env.get_nil]
  | cons v r ih =>
    intro i t
    simp only [List.zipIdx_cons, List.map_cons, Env.get_cons, ih]
    by_cases h : i = t
    · subst h; simp
    · simp only [h, beq_iff_eq, if_false]
      by_cases h2 : i ≤ t
      · rw [if_pos (by omega), if_pos h2, show t - i = (t - (i + 1)) + 1 from by omega, List.getElem?_cons_succ]
      · rw [if_neg (by omega), if_neg h2]
theorem get_args (l : List AV) : ∀ (i : Nat) (E : TE) (t : Nat), (argsT i l E).get .junk t = if i ≤ t ∧ t - i < l.length then (l[t - i]?).getD .junk else E.get .junk t := by
  induction l with
  | nil => intro i E t; simp [argsT]
  | cons v r ih =>
    intro i E t
    simp only [argsT, ih, Nat.succ_eq_add_one, FT.get_put]
    by_cases h : t = i
    · subst h; rw [if_neg (by omega)]; simp
    · rw [if_neg h]
      by_cases h2 : i + 1 ≤ t ∧ t - (i + 1) < r.length
      · rw [if_pos h2, if_pos ⟨by omega, by simp; omega⟩, show t - i = (t - (i + 1)) + 1 from by omega, List.getElem?_cons_succ]
      · rw [if_neg h2, if_neg (by simp; omega)]
theorem RepE.args (l : List AV) : RepE (argsT 0 l .nil) (l.zipIdx.map fun (v, i) => (i, v)) := by
  intro t
  rw [get_args, zip_get]
  rw [if_pos (Nat.zero_le t)]
  simp only [Nat.zero_le, true_and, Nat.sub_zero, FT.get_nil]
  by_cases h : t < l.length
  · rw [if_pos h]
  · rw [if_neg h, List.getElem?_eq_none (by omega)]; rfl
def keepT (E : TE) : List Nat → TE
  | [] => .nil
  | t :: r => (keepT E r).put .junk t (E.get .junk t)
theorem RepE.keepT {E : TE} {e : Env} (H : RepE E e) : ∀ l, RepE (Rv.keepT E l) (e.keep l)
  | [] => fun _ => rfl
  | t :: r => by
    have := (RepE.keepT H r).putD (some t) (E.get .junk t)
    rw [H t] at this
    exact fun u => by
      have hu := this u
      show (FT.put .junk t (E.get .junk t) (Rv.keepT E r)).get .junk u = _
      rw [H t]
      simp only [Rv.putD, stoT_eq] at hu
      exact hu
def ofEnv : Env → TE
  | [] => .nil
  | (t, v) :: r => (ofEnv r).put .junk t v
theorem RepE.ofEnv : ∀ e, RepE (Rv.ofEnv e) e
  | [] => fun _ => rfl
  | (t, v) :: r => fun u => by have := (RepE.ofEnv r).putD (some t) v u; simp only [Rv.putD, stoT_eq] at this; exact this
structure TLoop where
  st : LoopState
  pend : Option Code
  f : Nat
  env : TE
  ps : List Nat
  assign : Code
  body : Code
inductive TObj where
  | ob (x : AObj)
  | lp (r : TLoop)
abbrev TH := QT (Option TObj)
structure RepL (r : TLoop) (a : ALoop) : Prop where
  st : r.st = a.st
  pend : r.pend = a.pend
  f : r.f = a.f
  ps : r.ps = a.ps
  assign : r.assign = a.assign
  body : r.body = a.body
  env : RepE r.env a.env
def RepO : TObj → AObj → Prop
  | .ob x, y => x = y ∧ ∀ r, x ≠ .loop r
  | .lp r, .loop a => RepL r a
  | .lp _, _ => False
def RepX : Option TObj → Option AObj → Prop
  | some x, some y => RepO x y
  | none, none => True
  | _, _ => False
structure Rep (H : TH) (n : Nat) (h : Heap) : Prop where
  len : h.length = n
  at_ : ∀ i, RepX (H.get none i) h[i]?
def objT (H : TH) (o g : Nat) : Option (List AV) := match H.get none o with
  | some (.ob (.cells cs g')) => Bool.rec (motive := fun _ => Option (List AV)) none (some cs) (Nat.beq g' g)
  | _ => none
def RT (H : TH) : Rdr := ⟨objT H, fun o => match H.get none o with | some (.ob (.map es)) => some es | _ => none, fun o => match H.get none o with | some (.ob (.iter k es)) => some (k, es) | _ => none⟩
theorem RT_eq {H : TH} {n : Nat} {h : Heap} (R : Rep H n h) : RT H = Rdr.of h := by
  unfold RT Rdr.of
  congr 1
  · funext o g
    have := R.at_ o
    unfold objT Heap.obj
    generalize H.get none o = x at this ⊢
    generalize h[o]? = y at this ⊢
    cases x with
    | none => cases y with
      | none => rfl
      | some y => exact this.elim
    | some x => cases y with
      | none => exact this.elim
      | some y => cases x with
        | ob x =>
          obtain ⟨rfl, _⟩ := this
          cases x <;> first | rfl | skip
          rename_i cs g' _
          show Bool.rec (motive := fun _ => Option (List AV)) none (some cs) (Nat.beq g' g) = if g' == g then some cs else none
          cases hb : Nat.beq g' g with
          | true => have := Nat.eq_of_beq_eq_true hb; subst this; simp
          | false => have := Nat.ne_of_beq_eq_false hb; simp [this]
        | lp r => cases y <;> first | rfl | exact this.elim
  · funext o
    have := R.at_ o
    unfold Heap.mapAt
    generalize H.get none o = x at this ⊢
    generalize h[o]? = y at this ⊢
    cases x with
    | none => cases y with
      | none => rfl
      | some y => exact this.elim
    | some x => cases y with
      | none => exact this.elim
      | some y => cases x with
        | ob x => obtain ⟨rfl, _⟩ := this; cases x <;> rfl
        | lp r => cases y <;> first | rfl | exact this.elim
  · funext o
    have := R.at_ o
    unfold Heap.iterAt
    generalize H.get none o = x at this ⊢
    generalize h[o]? = y at this ⊢
    cases x with
    | none => cases y with
      | none => rfl
      | some y => exact this.elim
    | some x => cases y with
      | none => exact this.elim
      | some y => cases x with
        | ob x => obtain ⟨rfl, _⟩ := this; cases x <;> rfl
        | lp r => cases y <;> first | rfl | exact this.elim
def loopT (H : TH) (o : Nat) : Option TLoop := match H.get none o with
  | some (.lp r) => some r
  | _ => none
theorem loopT_at {H : TH} {n : Nat} {h : Heap} (R : Rep H n h) {o : Nat} {r : TLoop} (hr : loopT H o = some r) : ∃ a, h.loopAt o = some a ∧ RepL r a := by
  have := R.at_ o
  unfold loopT at hr
  unfold Heap.loopAt
  generalize H.get none o = x at this hr
  generalize h[o]? = y at this ⊢
  cases x with
  | none => cases hr
  | some x => cases x with
    | ob x => cases hr
    | lp r' =>
      injection hr with hr; subst hr
      cases y with
      | none => exact this.elim
      | some y => cases y <;> first | exact this.elim | exact ⟨_, rfl, this⟩
theorem Rep.set {H : TH} {n : Nat} {h : Heap} (R : Rep H n h) {o : Nat} {x : TObj} {y : AObj} (hx : RepO x y) (ho : o < n) : Rep (H.put none o (some x)) n (h.set o y) := by
  refine ⟨by simp [R.len], fun i => ?_⟩
  rw [QT.get_put, List.getElem?_set]
  have hl := R.len
  by_cases e : i = o
  · subst e; rw [if_pos rfl, if_pos rfl, if_pos (by omega)]; exact hx
  · rw [if_neg e, if_neg (Ne.symm e)]; exact R.at_ i
theorem Rep.push {H : TH} {n : Nat} {h : Heap} (R : Rep H n h) {x : TObj} {y : AObj} (hx : RepO x y) : Rep (H.put none n (some x)) (n + 1) (h ++ [y]) := by
  have hl := R.len
  refine ⟨by simp [hl], fun i => ?_⟩
  rw [QT.get_put]
  by_cases e : i = n
  · subst e
    rw [if_pos rfl, List.getElem?_append_right (by omega), hl, Nat.sub_self]
    exact hx
  · rw [if_neg e]
    rcases Nat.lt_or_ge i n with h1 | h1
    · rw [List.getElem?_append_left (by omega)]; exact R.at_ i
    · rw [List.getElem?_eq_none (by simp; omega)]
      have := R.at_ i
      rw [List.getElem?_eq_none (by omega)] at this
      exact this
def isLp : AObj → Bool
  | .loop _ => true
  | _ => false
def hasT (H : TH) (o : Nat) : Bool := match H.get none o with | some _ => true | none => false
theorem hasT_lt {H : TH} {n : Nat} {h : Heap} (R : Rep H n h) {o : Nat} (ho : hasT H o = true) : o < n := by
  have := R.at_ o
  unfold hasT at ho
  generalize H.get none o = x at this ho
  cases x with
  | none => cases ho
  | some x =>
    rcases Nat.lt_or_ge o n with h1 | h1
    · exact h1
    · rw [List.getElem?_eq_none (by rw [R.len]; exact h1)] at this
      exact this.elim
abbrev Res := KR Bool
abbrev Kont := Out → TE → TH → Nat → Res
abbrev KontC := CRes → TH → Nat → Res
abbrev Caller := AV → List AV → TH → Nat → KontC → Res
def effT (f t : Nat) (y : Eff) (H : TH) (n : Nat) (k : TH → Nat → Res) : Res := match y with
  | .keep => k H n
  | .set o x => match hasT H o, isLp x with
    | true, false => k (H.put none o (some (.ob x))) n
    | _, _ => .bad f (11000000 + t)
  | .push x => match isLp x with
    | false => k (H.put none n (some (.ob x))) (Nat.succ n)
    | true => .bad f (12000000 + t)
  | .both o x y => match hasT H o, isLp x, isLp y with
    | true, false, false => k ((H.put none o (some (.ob x))).put none n (some (.ob y))) (Nat.succ n)
    | _, _, _ => .bad f (13000000 + t)
theorem isLp_no {x : AObj} (h : isLp x = false) : RepO (.ob x) x := by
  cases x <;> first | (cases h; done) | exact ⟨rfl, fun r h => by cases h⟩
theorem effT_ok {f t : Nat} {y : Eff} {H : TH} {n : Nat} {h : Heap} {k : TH → Nat → Res} {b : Bool} (R : Rep H n h) (hk : effT f t y H n k = .ok b) : ∃ H' n', Rep H' n' (y.app h) ∧ k H' n' = .ok b := by
  cases y with
  | keep => exact ⟨H, n, R, hk⟩
  | set o x =>
    unfold effT at hk
    cases h1 : hasT H o <;> cases h2 : isLp x <;> simp only [h1, h2, reduceCtorEq] at hk
    exact ⟨_, _, R.set (isLp_no h2) (hasT_lt R h1), hk⟩
  | push x =>
    unfold effT at hk
    cases h2 : isLp x <;> simp only [h2, reduceCtorEq] at hk
    exact ⟨_, _, R.push (isLp_no h2), hk⟩
  | both o x y =>
    unfold effT at hk
    cases h1 : hasT H o <;> cases h2 : isLp x <;> cases h3 : isLp y <;> simp only [h1, h2, h3, reduceCtorEq] at hk
    exact ⟨_, _, (R.set (isLp_no h2) (hasT_lt R h1)).push (isLp_no h3), hk⟩
def looseBT (f : Nat) (ops : Array Oper) (E : TE) (H : TH) (n : Nat) (i : Nat) : Bool :=
  match ops[i]? with
  | none => false
  | some p =>
    match wantT ops E p with
    | some false => true
    | some true =>
      match p.dst, opF C f p.dst p.op (evalT C E) (RT H) n with
      | some t, some (v, _) => AV.eqb v (E.get .junk t)
      | _, _ => false
    | none => false
def looseT (f : Nat) (ops : Array Oper) (d : Option Nat) (E : TE) (H : TH) (n : Nat) : Bool :=
  match d with
  | none => true
  | some t => (C.loose f t).all (looseBT C f ops E H n)
theorem looseT_eq {f : Nat} {ops : Array Oper} {d : Option Nat} {E : TE} {e : Env} {H : TH} {n : Nat} {h : Heap} (RE : RepE E e) (R : Rep H n h) : looseT C f ops d E H n = looseAll C f ops d e h := by
  cases d with
  | none => rfl
  | some t =>
    show (C.loose f t).all _ = (C.loose f t).all _
    congr 1
    funext i
    unfold looseBT looseB
    cases ops[i]? with
    | none => rfl
    | some p =>
      simp only [wantT_eq RE, evalT_eq C RE, RT_eq R]
      cases wantA ops e p with
      | none => rfl
      | some b => cases b with
        | false => rfl
        | true =>
          simp only
          have := opF_eq C f e h p
          rw [R.len] at this
          rw [← this]
          cases p.dst with
          | none => rfl
          | some t =>
            cases opF C f (some t) p.op (evalA C e) (Rdr.of h) n with
            | none => rfl
            | some y => simp only [fin, Option.map_some, RE t]
def stepT (f : Nat) (ops : Array Oper) (o : Oper) : TE → TH → Nat → (TE → TH → Nat → Res) → Res := fun E H n k =>
  match opF C f o.dst o.op (evalT C E) (RT H) n with
  | none => .bad f (3000000 + o.dst.getD 99999)
  | some (v, y) => effT f (o.dst.getD 99999) y H n fun H n =>
    match looseT C f ops (dkey o) E H n with
    | true => v.force fun v => k (putD E o.dst v) H n
    | false => .bad f (7000000 + o.dst.getD 99999)
def stepCT (f : Nat) (ops : Array Oper) (o : Oper) (g : Operand) (args : List Operand) : Caller → TE → TH → Nat → Kont → (TE → TH → Nat → Res) → Res := fun call E H n kp k =>
  match mapO (evalT C E) args with
  | none => .bad f (4000000 + o.dst.getD 99999)
  | some vs => match evalT C E g with
    | none => .bad f (5000000 + o.dst.getD 99999)
    | some gv => call gv vs H n fun res H n => match res with
      | .pan v => kp (.pan v) E H n
      | .ret v => match looseT C f ops (dkey o) E H n with
        | true => v.force fun v => k (putD E o.dst v) H n
        | false => .bad f (7000000 + o.dst.getD 99999)
def AV.forceJ (v : AV) (k : AV → Res) : Res :=
  match v with
  | .bool b => k (.bool b)
  | .int i n => k (.int i n)
  | .str s => k (.str s)
  | .nilPtr => k .nilPtr
  | .nilMap => k .nilMap
  | .nilFunc => k .nilFunc
  | .nilIface => k .nilIface
  | .ptr o a g => k (.ptr o a g)
  | .ref cs => k (.ref cs)
  | .lst xs z r => k (.lst xs z r)
  | .msl o a l z g c => k (.msl o a l z g c)
  | .clo f cs => k (.clo f cs)
  | .bnd f cs => k (.bnd f cs)
  | .yld l => k (.yld l)
  | .map o => k (.map o)
  | .iface t x => k (.iface t x)
  | .agg cs => k (.agg cs)
  | .tup cs => k (.tup cs)
  | .junk => .bad 0 15000000
def fetchT : Operand → Option (TE → (AV → Res) → Res)
  | .tmp t => some fun E k => (accT t E).forceJ k
  | .const v => match ofValue v with
    | some c => some fun _ k => k c
    | none => none
  | .func f => some fun _ k => k (.clo f [])
  | .global _ => none
theorem fetchT_ok {x : Operand} {g : TE → (AV → Res) → Res} (hg : fetchT x = some g) {E : TE} {k : AV → Res} {b : Bool} (hs : g E k = .ok b) : ∃ v, evalT C E x = some v ∧ k v = .ok b := by
  cases x with
  | tmp t =>
    simp only [fetchT, Option.some.injEq] at hg
    subst hg
    replace hs : (accT t E).forceJ k = .ok b := hs
    simp only [evalT]
    generalize accT t E = v at hs ⊢
    cases v <;> first | (cases hs; done) | exact ⟨_, rfl, hs⟩
  | const v =>
    simp only [fetchT] at hg
    simp only [evalT]
    cases hv : ofValue v with
    | none => rw [hv] at hg; cases hg
    | some c =>
      rw [hv] at hg
      simp only [Option.some.injEq] at hg
      subst hg
      exact ⟨c, rfl, hs⟩
  | func f =>
    simp only [fetchT, Option.some.injEq] at hg
    subst hg
    exact ⟨_, rfl, hs⟩
  | global g => cases hg
def intLt : Int → Int → Bool
  | .ofNat m, .ofNat n => Nat.blt m n
  | .negSucc _, .ofNat _ => true
  | .ofNat _, .negSucc _ => false
  | .negSucc m, .negSucc n => Nat.blt n m
theorem intLt_eq (a b : Int) : intLt a b = decide (a < b) := by
  cases a <;> cases b <;> simp only [intLt] <;> rw [Bool.eq_iff_iff] <;> simp [Nat.blt_eq] <;> omega
def intEq : Int → Int → Bool
  | .ofNat m, .ofNat n => Nat.beq m n
  | .negSucc m, .negSucc n => Nat.beq m n
  | _, _ => false
theorem intEq_eq (a b : Int) : intEq a b = (a == b) := by
  cases a <;> cases b <;> simp only [intEq] <;> rw [Bool.eq_iff_iff] <;> simp [Nat.beq_eq] <;> omega
def maxI64 : Nat := nat_lit 9223372036854775807
def addT (k : IntKind) (a b : Int) : AV := match k, a, b with
  | .i64, .ofNat m, .ofNat n => Bool.rec (motive := fun _ => AV) (.int k (k.wrap (a + b))) (.int .i64 (.ofNat (Nat.add m n))) (Nat.ble (Nat.add m n) maxI64)
  | k, a, b => .int k (k.wrap (a + b))
def subT (k : IntKind) (a b : Int) : AV := match k, a, b with
  | .i64, .ofNat m, .ofNat n => Bool.rec (motive := fun _ => AV) (.int k (k.wrap (a - b))) (Bool.rec (motive := fun _ => AV) (.int k (k.wrap (a - b))) (.int .i64 (.ofNat (Nat.sub m n))) (Nat.ble m maxI64)) (Nat.ble n m)
  | k, a, b => .int k (k.wrap (a - b))
theorem wrap_small (n : Nat) (h : n ≤ 9223372036854775807) : IntKind.i64.wrap (Int.ofNat n) = Int.ofNat n := by
  rw [IntKind.wrap_i64]
  show ((n : Int) + 9223372036854775808) % 18446744073709551616 - 9223372036854775808 = (n : Int)
  omega
theorem addT_eq (k : IntKind) (a b : Int) : addT k a b = .int k (k.wrap (a + b)) := by
  cases k <;> first | rfl | skip
  cases a <;> first | rfl | skip
  cases b <;> first | rfl | skip
  rename_i m n
  show Bool.rec (motive := fun _ => AV) _ _ (Nat.ble (m + n) maxI64) = _
  cases h : Nat.ble (m + n) maxI64 with
  | false => rfl
  | true =>
    have h := Nat.le_of_ble_eq_true h
    show AV.int .i64 (Int.ofNat (m + n)) = AV.int .i64 (IntKind.i64.wrap (Int.ofNat (m + n)))
    rw [wrap_small _ h]
theorem subT_eq (k : IntKind) (a b : Int) : subT k a b = .int k (k.wrap (a - b)) := by
  cases k <;> first | rfl | skip
  cases a <;> first | rfl | skip
  cases b <;> first | rfl | skip
  rename_i m n
  show Bool.rec (motive := fun _ => AV) _ (Bool.rec (motive := fun _ => AV) _ _ (Nat.ble m maxI64)) (Nat.ble n m) = _
  cases h : Nat.ble n m with
  | false => rfl
  | true =>
    cases h2 : Nat.ble m maxI64 with
    | false => rfl
    | true =>
      have h := Nat.le_of_ble_eq_true h
      have h2 : m ≤ 9223372036854775807 := Nat.le_of_ble_eq_true h2
      show AV.int .i64 (Int.ofNat (m - n)) = AV.int .i64 (IntKind.i64.wrap (Int.ofNat m - Int.ofNat n))
      have : (Int.ofNat m - Int.ofNat n) = Int.ofNat (m - n) := by
        show (m : Int) - (n : Int) = ((m - n : Nat) : Int)
        omega
      rw [this, wrap_small _ (by omega)]
def kindEq (k k' : IntKind) : Bool := match k, k' with
  | .i64, .i64 => true
  | .u8, .u8 => true
  | k, k' => k == k'
theorem kindEq_eq (k k' : IntKind) : kindEq k k' = (k == k') := by cases k <;> cases k' <;> rfl
def arithT : BinOp → Option (IntKind → Int → Int → AV)
  | .add => some addT
  | .sub => some subT
  | .eql => some fun _ a b => .bool (intEq a b)
  | .neq => some fun _ a b => .bool (!intEq a b)
  | .lss => some fun _ a b => .bool (intLt a b)
  | .gtr => some fun _ a b => .bool (intLt b a)
  | .leq => some fun _ a b => .bool (!intLt b a)
  | .geq => some fun _ a b => .bool (!intLt a b)
  | _ => none
theorem arithT_eq {op : BinOp} {g : IntKind → Int → Int → AV} (hg : arithT op = some g) (k : IntKind) (a b : Int) : arithA op k a b = some (g k a b) := by
  cases op <;> simp only [arithT, reduceCtorEq, Option.some.injEq] at hg <;> subst hg <;> simp only [arithA, addT_eq, subT_eq, intEq_eq, intLt_eq, gt_iff_lt]
  · rfl
  · congr 2
    rw [Bool.eq_iff_iff]; simp
  · congr 2
    rw [Bool.eq_iff_iff]; simp
def nthT (cs : List AV) : Nat → (AV → Res) → Res :=
  List.rec (motive := fun _ => Nat → (AV → Res) → Res) (fun _ _ => .bad 0 16000000) (fun x _ ih i k => Bool.rec (motive := fun _ => Res) (ih (Nat.pred i) k) (x.force k) (Nat.beq i (nat_lit 0))) cs
theorem nthT_ok : ∀ {cs : List AV} {i : Nat} {k : AV → Res} {b : Bool}, nthT cs i k = .ok b → ∃ x, (cs.drop i).head? = some x ∧ k x = .ok b
  | [], _, _, _, h => by cases h
  | x :: r, 0, k, b, h => ⟨x, rfl, by
      have h : x.force k = .ok b := h
      rw [AV.force_eq] at h; exact h⟩
  | x :: r, i + 1, k, b, h => nthT_ok (cs := r) (i := i) h
def isPlain (C : Cfg) (t : Nat) : Bool := match C.ty t with
  | some ti => !ti.td.isAgg
  | none => false
def fieldOff (C : Cfg) (t k : Nat) : Option Nat := match C.ty t with
  | some ti => match ti.td with
    | .struct fs => match fs[k]? with
      | some (ft, off) => match C.ty ft with
        | some tf => if tf.size == 0 then none else some off
        | none => none
      | none => none
    | _ => none
  | none => none
def noLoose (f : Nat) (o : Oper) : Bool := match dkey o with
  | none => true
  | some t => (C.loose f t).isEmpty
def Quick := TE → TH → Nat → (TE → TH → Nat → Res) → Res
def quickT (f : Nat) (ops : Array Oper) (o : Oper) (d : Nat) : Option Quick := match o.op with
  | .move x => (fetchT x).map fun gx E H n k => gx E fun v => k (stoT d v E) H n
  | .assign x => (fetchT x).map fun gx E H n k => gx E fun v => k (stoT d v E) H n
  | .binOp op _ x y _ => match arithT op, fetchT x, fetchT y with
    | some ar, some gx, some gy => some fun E H n k => gx E fun u => gy E fun v => match u, v with
      | .int ka a, .int kb b => Bool.rec (motive := fun _ => Res) (.bad f 17000000) ((ar ka a b).force fun z => k (stoT d z E) H n) (kindEq ka kb)
      | _, _ => Rv.stepT C f ops o E H n k
    | _, _, _ => none
  | .load t a => match isPlain C t, (C.quiet f d), fetchT a with
    | true, false, some ga => some fun E H n k => ga E fun v => match v with
      | .ptr p off g => (match H.get none p with
        | some (.ob (.cells cs g')) => Bool.rec (motive := fun _ => Res) (.bad f 17000001) (nthT cs off fun z => k (stoT d z E) H n) (Nat.beq g' g)
        | _ => .bad f 17000002)
      | _ => Rv.stepT C f ops o E H n k
    | _, _, _ => none
  | .fieldAddr t x j => match fieldOff C t j, fetchT x with
    | some off, some gx => some fun E H n k => gx E fun v => match v with
      | .ptr p off' g => (match H.get none p with
        | some (.ob (.cells cs g')) => Bool.rec (motive := fun _ => Res) (.bad f 17000003) (k (stoT d (.ptr p (Nat.add off' off) g) E) H n) (Nat.beq g' g)
        | _ => .bad f 17000004)
      | _ => Rv.stepT C f ops o E H n k
    | _, _ => none
  | _ => none
def stageT (f : Nat) (ops : Array Oper) (o : Oper) : Option Quick := match o.guard, o.dst, noLoose C f o with
  | none, some d, true => quickT C f ops o d
  | _, _, _ => none
theorem stage_ok {f : Nat} {ops : Array Oper} {o : Oper} {q : Quick} (hq : stageT C f ops o = some q) {E : TE} {H : TH} {n : Nat} {k : TE → TH → Nat → Res} {b : Bool} (hs : q E H n k = .ok b) : o.guard = none ∧ callee o = none ∧ Rv.stepT C f ops o E H n k = .ok b := by
  unfold stageT at hq
  cases hg : o.guard with
  | some g => rw [hg] at hq; cases hq
  | none =>
    rw [hg] at hq
    cases hd : o.dst with
    | none => rw [hd] at hq; cases hq
    | some d =>
      rw [hd] at hq
      cases hl : noLoose C f o with
      | false => rw [hl] at hq; cases hq
      | true =>
        rw [hl] at hq
        simp only at hq
        have hloose : ∀ E H n, looseT C f ops (dkey o) E H n = true := by
          intro E H n
          unfold noLoose at hl
          cases hk : dkey o with
          | none => rfl
          | some t =>
            rw [hk] at hl
            simp only [List.isEmpty_iff] at hl
            simp only [looseT, hl, List.all_nil]
        have fin : ∀ v, opF C f (some d) o.op (evalT C E) (RT H) n = some (v, .keep) → k (stoT d v E) H n = .ok b → Rv.stepT C f ops o E H n k = .ok b := by
          intro v hv hk
          unfold Rv.stepT
          rw [hd, hv]
          simp only [effT, hloose, AV.force_eq, Rv.putD]
          exact hk
        have hcl : ∀ {op : Op}, o.op = op → (∀ c, op ≠ .call c) → callee o = none := by
          intro op he hne
          unfold callee
          rw [he]
          cases op <;> first | rfl | (exact absurd rfl (hne _))
        unfold quickT at hq
        cases hop : o.op <;> rw [hop] at hq <;> simp only [reduceCtorEq] at hq
        case move x =>
          refine ⟨rfl, hcl hop (fun c => by simp), ?_⟩
          obtain ⟨gx, hgx, rfl⟩ := Option.map_eq_some_iff.1 hq
          obtain ⟨v, hv, hk⟩ := fetchT_ok C hgx hs
          exact fin v (by rw [hop]; simp only [opF, hv, Option.bind_some]) hk
        case assign x =>
          refine ⟨rfl, hcl hop (fun c => by simp), ?_⟩
          obtain ⟨gx, hgx, rfl⟩ := Option.map_eq_some_iff.1 hq
          obtain ⟨v, hv, hk⟩ := fetchT_ok C hgx hs
          exact fin v (by rw [hop]; simp only [opF, hv, Option.bind_some]) hk
        case binOp op t x y t' =>
          refine ⟨rfl, hcl hop (fun c => by simp), ?_⟩
          split at hq <;> first | (cases hq; done) | skip
          rename_i ar gx gy har hgx hgy
          injection hq with hq
          subst hq
          obtain ⟨u, hu, hk⟩ := fetchT_ok C hgx hs
          obtain ⟨v, hv, hk⟩ := fetchT_ok C hgy hk
          split at hk
          · rename_i ka a kb b' _
            cases hkk : kindEq ka kb with
            | false => rw [hkk] at hk; cases hk
            | true =>
              rw [hkk] at hk
              simp only [AV.force_eq] at hk
              rw [kindEq_eq] at hkk
              have hn : nilI y = false := by
                unfold nilI
                split
                · simp only [evalT, ofValue, Option.some.injEq, reduceCtorEq] at hv
                · rfl
              exact fin _ (by rw [hop]; simp only [opF, hn, Bool.false_eq_true, if_false, hu, hv, Option.bind_some, binF, hkk, if_true, arithT_eq har]) hk
          · exact hk
        case load t a =>
          refine ⟨rfl, hcl hop (fun c => by simp), ?_⟩
          split at hq <;> first | (cases hq; done) | skip
          rename_i ga hpl hqu hga
          injection hq with hq
          subst hq
          obtain ⟨v, hv, hk⟩ := fetchT_ok C hga hs
          split at hk
          · rename_i p off g
            split at hk <;> first | (cases hk; done) | skip
            rename_i cs g' hobj
            cases hb : Nat.beq g' g with
            | false => rw [hb] at hk; cases hk
            | true =>
              rw [hb] at hk
              obtain ⟨z, hz, hk⟩ := nthT_ok hk
              unfold isPlain at hpl
              cases hty : C.ty t with
              | none => rw [hty] at hpl; cases hpl
              | some ti =>
                rw [hty] at hpl
                have hpl : ti.td.isAgg = false := by simpa using hpl
                refine fin z ?_ hk
                rw [hop]
                have ho : (RT H).obj p g = some cs := by
                  show objT H p g = some cs
                  unfold objT
                  rw [hobj]
                  simp only [hb]
                simp only [opF, hv, Option.bind_some, Option.map_some, Option.getD_some, hqu, Bool.false_and, Bool.false_eq_true, if_false, loadF, hty, cellsF, ho, part, hpl, hz]
          · exact hk
        case fieldAddr t x j =>
          refine ⟨rfl, hcl hop (fun c => by simp), ?_⟩
          split at hq <;> first | (cases hq; done) | skip
          rename_i off gx hoff hgx
          injection hq with hq
          subst hq
          obtain ⟨v, hv, hk⟩ := fetchT_ok C hgx hs
          split at hk
          · rename_i p off' g
            split at hk <;> first | (cases hk; done) | skip
            rename_i cs g' hobj
            cases hb : Nat.beq g' g with
            | false => rw [hb] at hk; cases hk
            | true =>
              rw [hb] at hk
              refine fin _ ?_ hk
              rw [hop]
              have ho : (RT H).live p g = true := by
                have : (RT H).obj p g = some cs := by
                  show objT H p g = some cs
                  unfold objT
                  rw [hobj]
                  simp only [hb]
                unfold Rdr.live
                rw [this]
              unfold fieldOff at hoff
              cases hty : C.ty t with
              | none => rw [hty] at hoff; cases hoff
              | some ti =>
                rw [hty] at hoff
                simp only at hoff
                split at hoff <;> first | (cases hoff; done) | skip
                rename_i fs htd
                cases hfs : fs[j]? with
                | none => rw [hfs] at hoff; cases hoff
                | some pr =>
                  obtain ⟨ft, fo⟩ := pr
                  rw [hfs] at hoff
                  simp only at hoff
                  cases htf : C.ty ft with
                  | none => rw [htf] at hoff; cases hoff
                  | some tf =>
                    rw [htf] at hoff
                    simp only at hoff
                    split at hoff
                    · cases hoff
                    · rename_i hsz
                      simp only [Option.some.injEq] at hoff
                      subst hoff
                      simp only [opF, hv, Option.bind_some, fieldAddrF, hty, htd, hfs, htf, hsz, ho, if_true]
                      rfl
          · exact hk
def panT (E : TE) (o : Oper) : Option AV := match o.op with
  | .panic x => match evalT C E x with
    | some (.iface t v) => some (.iface t v)
    | _ => none
  | _ => none
def opsT (f : Nat) (ops : Array Oper) : List Oper → Caller → TE → TH → Nat → Kont → Res
  | [] => fun _ E H n k => k .nrm E H n
  | o :: r => match stageT C f ops o with
   | some q => fun call E H n k => q E H n fun E H n => opsT f ops r call E H n k
   | none => fun call E H n k => match wantT ops E o with
    | none => .bad f (2000000 + o.dst.getD 99999)
    | some false => opsT f ops r call (putD E o.dst (.tup [])) H n k
    | some true => match callee o with
      | none => match panT C E o with
        | some v => k (.pan v) E H n
        | none => stepT C f ops o E H n fun E H n => opsT f ops r call E H n k
      | some ga => stepCT C f ops o ga.1 ga.2.toList call E H n k fun E H n => opsT f ops r call E H n k
def envFor (E : TE) (l : List Nat) : Env := l.map fun t => (t, E.get .junk t)
def heapGo (H : TH) : Nat → Heap → Option Heap
  | 0, acc => some acc
  | n + 1, acc => match H.get none n with
    | some (.ob x) => heapGo H n (x :: acc)
    | _ => none
def heapOf (H : TH) (n : Nat) : Option Heap := heapGo H n []
def ofHeap : List AObj → Nat → TH → Option TH
  | [], _, H => some H
  | x :: r, n, H => match isLp x with
    | true => none
    | false => ofHeap r (Nat.succ n) (H.put none n (some (.ob x)))
def rangeT (f : Nat) (g : Operand) (ps : Array Nat) (assign body : Code) : Caller → TE → TH → Nat → Kont → Res := fun call E H n k =>
  match evalT C E g with
  | some (.clo g caps) => call (.clo g caps) [.yld n] (H.put none n (some (.lp { st := .ready, pend := none, f, env := E, ps := ps.toList, assign, body }))) (Nat.succ n) fun res H1 n1 =>
    match res, loopT H1 n with
    | .ret _, some r => match r.st, r.pend with
      | .busy, _ => .bad f 999984
      | _, none => k .nrm E (H1.put none n (some (.ob (.cells [] 1)))) n1
      | _, some .ret => k .ret E (H1.put none n (some (.ob (.cells [] 1)))) n1
      | _, some (.exit id) => k (.exit id) E (H1.put none n (some (.ob (.cells [] 1)))) n1
      | _, _ => .bad f 999983
    | _, _ => .bad f 999982
  | _ => .bad f 999981
def iterT (H : TH) (o : Nat) : Option (Nat × List (AV × AV)) := match H.get none o with
  | some (.ob (.iter k es)) => some (k, es)
  | _ => none
def roundsF (rest : TE → TH → Nat → Kont → Res) (m : MapLoop) (f : Nat) (l : List Nat) (o : Nat) : List (AV × AV) → List (Env × Heap) → Env × Heap → (List (Env × Heap) → Res) → Res
  | [], acc => fun _ K => K acc.reverse
  | p :: r, acc => fun s K => match ofHeap s.2 0 .nil, Nat.blt o s.2.length with
    | some Hs, true => rest (stoT m.t1 (.bool true) (stoT m.t0 (.tup [.bool true, p.1, p.2]) (ofEnv s.1))) (Hs.put none o (some (.ob (.iter 2 [p])))) s.2.length fun out E1 H1 n1 => match out, iterT H1 o with
      | .nrm, some (2, _) => (match heapOf (H1.put none o (some (.ob (.iter 1 [])))) s.2.length, Nat.ble s.2.length n1 with
        | some h2, true => (match keptB s.2.length (envFor E1 l) h2 with
          | true => roundsF rest m f l o r ((envFor E1 l, h2) :: acc) s K
          | false => .bad f 18000000)
        | _, _ => .bad f 18000001)
      | _, _ => .bad f 18000002
    | _, _ => .bad f 18000003
def mapLoopF (rest : TE → TH → Nat → Kont → Res) (m : MapLoop) (f : Nat) (E : TE) (H : TH) (n : Nat) (k : Kont) : Res := match evalT C E m.it with
  | some (.ptr o 0 0) => match iterT H o, C.live f m.id with
    | some (0, es), some l => match heapOf (H.put none o (some (.ob (.iter 1 [])))) n with
      | some h0 => match stEq (envFor E l, h0) (envFor E l, h0) with
        | true => roundsF rest m f l o es [] (envFor E l, h0) fun ps => roundsF rest m f l o es [] ((ps.find? fun s => !stEq s (envFor E l, h0)).getD (envFor E l, h0)) fun qs =>
          match ps.all (fun s => stEq s (envFor E l, h0) || stEq s ((ps.find? fun s => !stEq s (envFor E l, h0)).getD (envFor E l, h0))) && qs.all (fun s => stEq s ((ps.find? fun s => !stEq s (envFor E l, h0)).getD (envFor E l, h0))) with
          | true => (match itIs C (envFor E l) m o && itIs C ((ps.find? fun s => !stEq s (envFor E l, h0)).getD (envFor E l, h0)).1 m o, ofHeap ((ps.find? fun s => !stEq s (envFor E l, h0)).getD (envFor E l, h0)).2 0 .nil with
            | true, some H1 => rest (stoT m.t1 (.bool false) (stoT m.t0 (.tup [.bool false]) (ofEnv ((ps.find? fun s => !stEq s (envFor E l, h0)).getD (envFor E l, h0)).1))) H1 ((ps.find? fun s => !stEq s (envFor E l, h0)).getD (envFor E l, h0)).2.length fun out E2 H2 n2 => match out with
              | .nrm => .bad f 999973
              | .exit id => k (.exit id) E2 H2 n2
              | .ret => k .ret E2 H2 n2
              | .pan v => k (.pan v) E2 H2 n2
            | _, _ => .bad f 18000004)
          | false => .bad f 999974
        | false => .bad f 999975
      | none => .bad f 18000005
    | _, _ => .bad f 18000006
  | _ => .bad f 999969
def loopFuel : Nat := nat_lit 1000000
def loopGo (f : Nat) (bd : TE → TH → Nat → Kont → Res) (k : Kont) (fuel : Nat) : TE → TH → Nat → Res :=
  Nat.rec (motive := fun _ => TE → TH → Nat → Res) (fun _ _ _ => .bad f 999970) (fun _ ih E H n => bd E H n fun out E H n => match out with
    | .nrm => ih E H n
    | .ret => k .ret E H n
    | .exit id => k (.exit id) E H n
    | .pan v => k (.pan v) E H n) fuel
def codeT (f : Nat) : Code → Caller → TE → TH → Nat → Kont → Res
  | .skip => fun _ E H n k => k .nrm E H n
  | .label _ => fun _ E H n k => k .nrm E H n
  | .exit id => fun _ E H n k => k (.exit id) E H n
  | .ret => fun _ E H n k => k .ret E H n
  | .seq a b => fun call E H n k => codeT f a call E H n fun out E H n => match out with
    | .nrm => codeT f b call E H n k
    | .ret => k .ret E H n
    | .exit id => k (.exit id) E H n
    | .pan v => k (.pan v) E H n
  | .cond c a b => fun call E H n k => match evalT C E c with
    | some (.bool true) => codeT f a call E H n k
    | some (.bool false) => codeT f b call E H n k
    | _ => .bad f 999986
  | .block id b => fun call E H n k => codeT f b call E H n fun out E H n => match out with
    | .exit id' => Bool.rec (motive := fun _ => Res) (k (.exit id') E H n) (k .nrm E H n) (Nat.beq id' id)
    | .nrm => k .nrm E H n
    | .ret => k .ret E H n
    | .pan v => k (.pan v) E H n
  | .scope b => codeT f b
  | .loop b => match C.roundsOf f b, b with
    | some m, .seq _ rest => fun call E H n k => mapLoopF C (codeT f rest call) m f E H n k
    | some _, _ => fun _ _ _ _ _ => .bad f 18000007
    | none, b => fun call E H n k => loopGo f (codeT f b call) k loopFuel E H n
  | .region id ops draw => fun call E H n k => opsT C f ops (sched ops draw) call E H n fun out E H n => match out with
    | .nrm => k .nrm (match C.live f id with | some l => keepT E l | none => E) H n
    | .pan v => (match draw with
      | true => (match panOk ops with
        | true => k (.pan v) (outT E ops) H n
        | false => .bad f (1000000 + id))
      | false => k (.pan v) E H n)
    | out => match draw with
      | true => .bad f (1000000 + id)
      | false => k out E H n
  | .rangeFunc g ps assign body => rangeT C f g ps assign body
  | _ => fun _ _ _ _ _ => .bad f 999980
abbrev PrimT := Nat → Option (List AV → Rdr → Nat → Option (CRes × Eff))
variable (TP : PrimT) (FN : Nat → Option FI)
def resultsF (ev : Operand → Option AV) (R : Rdr) : List ResultVar → Option (List AV)
  | [] => some []
  | .tmp t :: r => (ev (.tmp t)).bind fun v => (resultsF ev R r).bind fun vs => some (v :: vs)
  | .cell a t :: r => (ev (.tmp a)).bind fun p => (loadF C R t p).bind fun v => (resultsF ev R r).bind fun vs => some (v :: vs)
theorem results_of (e : Env) (h : Heap) : ∀ rs, resultsF C (evalA C e) (Rdr.of h) rs = resultsA C h e rs
  | [] => rfl
  | .tmp t :: r => by simp only [resultsF, resultsA, results_of e h r]; rfl
  | .cell a t :: r => by simp only [resultsF, resultsA, results_of e h r, load_of]; rfl
abbrev CallQ := Nat → Option (List AV → TH → Nat → KontC → Res)
variable (QP : CallQ)
def callT (f : Nat) : Caller → List AV → TH → Nat → KontC → Res := match QP f with
  | some q => fun _ args H n k => q args H n k
  | none => match TP f with
    | some p => fun _ args H n k => match p args (RT H) n with
      | none => .bad f 999998
      | some (res, y) => effT f 0 y H n fun H n => k res H n
    | none => match FN f with
      | none => fun _ _ _ _ _ => .bad f 999997
      | some fi => fun call args H n k => match Nat.beq args.length fi.params with
        | false => .bad f 999996
        | true => codeT C f fi.body call (argsT (nat_lit 0) args .nil) H n fun out E H n => match out with
          | .nrm | .ret => (match resultsF C (evalT C E) (RT H) fi.results with
            | none => .bad f 999995
            | some vs => k (.ret (packA vs)) H n)
          | .pan v => k (.pan v) H n
          | .exit _ => .bad f 999994
def roundT (call : Caller) (o : Nat) (vs : List AV) (H : TH) (n : Nat) (k : KontC) : Res := match loopT H o with
  | some ⟨.ready, _, f, env, ps, assign, body⟩ => match Nat.beq ps.length vs.length with
    | false => .bad f 999992
    | true => codeT C f assign call (putsT env ps vs) H n fun out E1 H1 n1 => match out, loopT H1 o with
      | .nrm, some ⟨.ready, pend1, f1, env1, ps1, assign1, body1⟩ =>
        codeT C f body call E1 (H1.put none o (some (.lp ⟨.busy, pend1, f1, env1, ps1, assign1, body1⟩))) n1 fun out E2 H2 n2 => match loopT H2 o, jumpOf out with
          | some ⟨_, _, f2, env2, ps2, assign2, body2⟩, some j => k (.ret (.bool j.isNone)) (H2.put none o (some (.lp ⟨match j with | none => .ready | some _ => .done, j, f2, env2, ps2, assign2, body2⟩))) n2
          | _, _ => .bad f 999989
      | _, _ => .bad f 999991
  | _ => .bad 0 999993
def runT (fuel : Nat) : Caller := Nat.rec (motive := fun _ => Caller) (fun _ _ _ _ _ => .bad 0 999999) (fun _ ih g vs H n k => match g with
  | .clo f caps => callT C TP FN QP f ih (vs ++ caps) H n k
  | .bnd f first => callT C TP FN QP f ih (first ++ vs) H n k
  | .yld o => roundT C ih o vs H n k
  | _ => .bad 0 999987) fuel
end
end Go.Rv
namespace Go.Rv
noncomputable section
def fnsB (P : Program) (f : Nat) : Option FI :=
  match P.funcs[f]? with
  | some fn => match fn.body with
    | some b => some ⟨fn.params.size + fn.nfree, fn.results.toList, b⟩
    | none => none
  | none => none
def fnOk (P : Program) (C : Cfg) (f : Nat) : Bool :=
  match P.funcs[f]? with
  | some fn => match fn.body with
    | some b => okB C f fn b
    | none => true
  | none => true
theorem fnsB_eq {P : Program} {C : Cfg} {f : Nat} (h : fnOk P C f = true) : fnsOf P C f = fnsB P f := by
  unfold fnOk at h
  unfold fnsOf fnsB
  revert h
  generalize P.funcs[f]? = x
  intro h
  cases x with
  | none => rfl
  | some fn =>
    revert h
    show (match fn.body with | some b => okB C f fn b | none => true) = true → (match fn.body with | some b => if okB C f fn b then some (FI.mk (fn.params.size + fn.nfree) fn.results.toList b) else none | none => none) = (match fn.body with | some b => some (FI.mk (fn.params.size + fn.nfree) fn.results.toList b) | none => none)
    cases fn.body with
    | none => intro _; rfl
    | some b => intro h; exact if_pos h
def cloneF (args : List AV) (R : Rdr) (n : Nat) : Option (CRes × Eff) :=
  match args with
  | [.map o] => (R.map o).bind fun es => match intEs es with
    | some l => some (.ret (.map n), .push (.map (ofInts (sortE l))))
    | none => some (.ret (.map n), .push (.map es))
  | _ => none
def copyF (args : List AV) (R : Rdr) (n : Nat) : Option (CRes × Eff) :=
  match args with
  | [.map o, .map o'] => match Nat.beq o o' with
    | true => none
    | false => (R.map o).bind fun ds => (intEs ds).bind fun d => (R.map o').bind fun ss => (intEs ss).bind fun s =>
      if d.length + s.length ≤ 1000000 then some (.ret (.tup []), .set o (.map (ofInts (sortE (mergeE d s))))) else none
  | _ => none
def strikeF (clo : Nat) (args : List AV) (R : Rdr) (n : Nat) : Option (CRes × Eff) :=
  match args with
  | [.map o, .clo g [.ptr p 0 gen]] => match Nat.beq g clo with
    | false => none
    | true => (R.obj p gen).bind fun cs => match cs with
      | .map t :: _ => (match Nat.beq o t with
        | true => none
        | false =>
        (R.map o).bind fun ds => (intEs ds).bind fun d => (R.map t).bind fun ts => (intEs ts).bind fun u =>
          if d.length + u.length ≤ 1000000 then some (.ret (.tup []), .set o (.map (ofInts (d.filter fun q => bearsE u q.1)))) else none)
      | _ => none
  | _ => none
def sortStrF (args : List AV) (R : Rdr) (n : Nat) : Option (CRes × Eff) :=
  match args with
  | [.lst [] _ _] => some (.ret (.tup []), .keep)
  | [.msl o 0 len 1 g _] => (R.obj o g).bind fun cs => if cs.length = len ∧ len ≤ 1000000000 then (strsOf cs).map fun ss => (.ret (.tup []), .set o (.cells ((sortedS ss).map AV.str) g)) else none
  | _ => none
def sortedMF (clo : Nat) (args : List AV) (R : Rdr) (n : Nat) : Option (CRes × Eff) :=
  match args with
  | [.clo g [.ptr o 0 gen]] => match Nat.beq g clo with
    | false => none
    | true => (R.obj o gen).bind fun cs => match cs with
      | .map m :: _ => (R.map m).bind fun es => (keysI es).bind fun ks => if es.length ≤ 1000000 then (match isort ks with
        | [] => some (.ret (.lst [] 1 .nil), .keep)
        | x :: r => some (.ret (.msl n 0 (x :: r).length 1 0 none), .push (.cells (intCells (x :: r)) 0))) else none
      | _ => none
  | _ => none
def constP (v : AV) (args : List AV) (h : Heap) : Option (CRes × Heap) := match args with
  | [] => some (.ret v, h)
  | _ => none
def TwinP (q : List AV → Rdr → Nat → Option (CRes × Eff)) (p : List AV → Heap → Option (CRes × Heap)) : Prop :=
  ∀ args h res y, q args (Rdr.of h) h.length = some (res, y) → p args h = some (res, y.app h)
theorem clone_twin : TwinP cloneF cloneMap := fun args h res y hq => by
  unfold cloneF at hq
  split at hq <;> first | (cases hq; done) | skip
  rename_i o
  obtain ⟨es, hes, hq⟩ := Option.bind_eq_some_iff.1 hq
  have hes : h.mapAt o = some es := hes
  simp only [cloneMap, hes, Option.bind_some]
  cases hi : intEs es with
  | some l =>
    rw [hi] at hq
    simp only [Option.some.injEq, Prod.mk.injEq] at hq
    obtain ⟨rfl, rfl⟩ := hq
    rfl
  | none =>
    rw [hi] at hq
    simp only [Option.some.injEq, Prod.mk.injEq] at hq
    obtain ⟨rfl, rfl⟩ := hq
    rfl
theorem copy_twin : TwinP copyF copyMap := fun args h res y hq => by
  unfold copyF at hq
  split at hq <;> first | (cases hq; done) | skip
  rename_i o o'
  cases hb : Nat.beq o o' with
  | true => rw [hb] at hq; cases hq
  | false =>
    rw [hb] at hq
    have hne := Nat.ne_of_beq_eq_false hb
    obtain ⟨ds, hds, hq⟩ := Option.bind_eq_some_iff.1 hq
    obtain ⟨d, hd, hq⟩ := Option.bind_eq_some_iff.1 hq
    obtain ⟨ss, hss, hq⟩ := Option.bind_eq_some_iff.1 hq
    obtain ⟨s, hs, hq⟩ := Option.bind_eq_some_iff.1 hq
    have hds : h.mapAt o = some ds := hds
    have hss : h.mapAt o' = some ss := hss
    simp only [copyMap, hne, if_false, hds, hd, hss, hs, Option.bind_some]
    split at hq
    · rename_i hl
      rw [if_pos hl]
      simp only [Option.some.injEq, Prod.mk.injEq] at hq
      obtain ⟨rfl, rfl⟩ := hq
      rfl
    · cases hq
theorem strike_twin (clo : Nat) : TwinP (strikeF clo) (strikeMap clo) := fun args h res y hq => by
  unfold strikeF at hq
  split at hq <;> first | (cases hq; done) | skip
  rename_i o g p gen
  cases hb : Nat.beq g clo with
  | false => rw [hb] at hq; cases hq
  | true =>
    rw [hb] at hq
    have hg := Nat.eq_of_beq_eq_true hb
    obtain ⟨cs, hcs, hq⟩ := Option.bind_eq_some_iff.1 hq
    have hcs : h.obj p gen = some cs := hcs
    simp only [strikeMap, hg, if_true, hcs, Option.bind_some]
    split at hq <;> first | (cases hq; done) | skip
    rename_i t cr _
    cases hb2 : Nat.beq o t with
    | true => rw [hb2] at hq; cases hq
    | false =>
      rw [hb2] at hq
      have hne := Nat.ne_of_beq_eq_false hb2
      obtain ⟨ds, hds, hq⟩ := Option.bind_eq_some_iff.1 hq
      obtain ⟨d, hd, hq⟩ := Option.bind_eq_some_iff.1 hq
      obtain ⟨ss, hss, hq⟩ := Option.bind_eq_some_iff.1 hq
      obtain ⟨s, hs, hq⟩ := Option.bind_eq_some_iff.1 hq
      have hds : h.mapAt o = some ds := hds
      have hss : h.mapAt t = some ss := hss
      simp only [hne, if_false, hds, hd, hss, hs, Option.bind_some]
      split at hq
      · rename_i hl
        rw [if_pos hl]
        simp only [Option.some.injEq, Prod.mk.injEq] at hq
        obtain ⟨rfl, rfl⟩ := hq
        rfl
      · cases hq
theorem sortedM_twin (clo : Nat) : TwinP (sortedMF clo) (sortedKeysM clo) := fun args h res y hq => by
  unfold sortedMF at hq
  split at hq <;> first | (cases hq; done) | skip
  rename_i g o gen
  cases hb : Nat.beq g clo with
  | false => rw [hb] at hq; cases hq
  | true =>
    rw [hb] at hq
    have hg := Nat.eq_of_beq_eq_true hb
    obtain ⟨cs, hcs, hq⟩ := Option.bind_eq_some_iff.1 hq
    have hcs : h.obj o gen = some cs := hcs
    simp only [sortedKeysM, hg, if_true, hcs, Option.bind_some]
    split at hq <;> first | (cases hq; done) | skip
    rename_i m cr _
    obtain ⟨es, hes, hq⟩ := Option.bind_eq_some_iff.1 hq
    obtain ⟨ks, hks, hq⟩ := Option.bind_eq_some_iff.1 hq
    have hes : h.mapAt m = some es := hes
    simp only [hes, hks, Option.bind_some]
    split at hq
    · rename_i hl
      rw [if_pos hl]
      cases hi : isort ks with
      | nil =>
        rw [hi] at hq
        simp only [Option.some.injEq, Prod.mk.injEq] at hq
        obtain ⟨rfl, rfl⟩ := hq
        rfl
      | cons x r =>
        rw [hi] at hq
        simp only [Option.some.injEq, Prod.mk.injEq] at hq
        obtain ⟨rfl, rfl⟩ := hq
        rfl
    · cases hq
theorem sortStr_twin : TwinP sortStrF sortStr := fun args h res y hq => by
  unfold sortStrF at hq
  split at hq
  · simp only [Option.some.injEq, Prod.mk.injEq] at hq
    obtain ⟨rfl, rfl⟩ := hq
    rfl
  · rename_i o len g cap
    obtain ⟨cs, hcs, hq⟩ := Option.bind_eq_some_iff.1 hq
    have hcs : h.obj o g = some cs := hcs
    simp only [sortStr, hcs, Option.bind_some]
    split at hq
    · rename_i hl
      rw [if_pos hl]
      obtain ⟨ss, hss, hq⟩ := Option.map_eq_some_iff.1 hq
      simp only [Prod.mk.injEq] at hq
      obtain ⟨rfl, rfl⟩ := hq
      simp only [hss, Option.map_some]
      rfl
    · cases hq
  · cases hq
end
end Go.Rv
