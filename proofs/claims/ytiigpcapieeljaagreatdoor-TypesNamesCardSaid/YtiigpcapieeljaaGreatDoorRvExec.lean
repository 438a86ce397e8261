/-
  Calls, statements, regions whose order is that of the text.
-/
import Derived.Test.YtiigpcapieeljaaGreatDoorRvFreeze
import Derived.LoopNIn
import Derived.RangeFuncRecord
import Derived.OrdersIn
set_option linter.unusedSimpArgs false
set_option linter.unusedVariables false
namespace Go.Rv
section
variable {P : Program} {C : Cfg} {s : Sim} {h : Heap} {w : World}

/-- How a call ends. -/
def EndOk (s : Sim) (h : Heap) (w : World) (res : CRes) (h' : Heap) (e : Ending) (w' : World) : Prop :=
  ∃ s', Ext s h w s' h' w' ∧ Rel s' h' w' ∧ match res, e with
    | .ret v, .returned u => VR s' h' w' v u
    | .pan v, .panicked chain => ∃ u, chain = [{ v := u, recovered := false }] ∧ VR s' h' w' v u
    | _, _ => False

def CallOk (P : Program) (f : Nat) (vs : List Value) (s : Sim) (h : Heap) (w : World) (res : CRes) (h' : Heap) : Prop :=
  Calls P f vs.toArray w (EndOk s h w res h')

/-- A function that may be called. -/
def Known (P : Program) (f : Nat) : Prop := ∃ fn c, P.funcs[f]? = some fn ∧ fn.body = some c ∧ (fn.name == "runtime.NumGoroutine") = false

def PrimOk (P : Program) (C : Cfg) : Prop := ∀ f p, C.prim f = some p → Known P f ∧ (C.pure f = true → ∀ args h v h', p args h = some (.ret v, h') → h' = h) ∧ ∀ args h res h', p args h = some (res, h') →
  ∀ s w vs, Rel s h w → Glob C s h w → VRs s h w args vs → CallOk P f vs s h w res h'

/-- Does a drawn region's order not matter? (Stated in the next text.) -/
structure CodeOk (ord : Nat → Array Oper → Bool) (f N : Nat) (c : Code) : Prop where
  ok : True

def dstsOk (N : Nat) (ops : Array Oper) : Bool := ops.all fun o => match o.dst with | some d => d < N | none => true

def codeOk (ord : Array Oper → Bool) (N : Nat) : Code → Bool
  | .region _ ops draw => dstsOk N ops && (!draw || ord ops)
  | .seq a b => codeOk ord N a && codeOk ord N b
  | .cond _ a b => codeOk ord N a && codeOk ord N b
  | .block _ b | .loop b | .scope b => codeOk ord N b
  | .rangeFunc _ ps a b => ps.toList.all (fun t => decide (t < N)) && codeOk ord N a && codeOk ord N b
  | _ => true

/-- What code a round may have. -/
def goodOf (ord : Nat → Array Oper → Bool) (f N : Nat) (ps : List Nat) (a b : Code) : Prop := ps.all (fun t => decide (t < N)) = true ∧ codeOk (ord f) N a = true ∧ codeOk (ord f) N b = true

/-- Globals, and which code rounds have. -/
structure GG (C : Cfg) (ord : Nat → Array Oper → Bool) (s : Sim) (h : Heap) (w : World) : Prop where
  g : Glob C s h w
  good : s.good.good = goodOf ord
theorem GG.ext {ord : Nat → Array Oper → Bool} {s' : Sim} {h' : Heap} {w' : World} (hd : ∀ o b, s.μ o = some b → ¬ s.I b) (E : Ext s h w s' h' w') (G : GG C ord s h w) : GG C ord s' h' w' := ⟨G.g.ext hd E, by rw [E.good]; exact G.good⟩

/-- The fence of a frame: of a function's activation, or of a round. -/
def Fr (r : Option Nat) : Fence := { Fence.wide with round := r }
theorem Fr_none : Fr none = Fence.wide := rfl
theorem Fr_in (r : Option Nat) (l : Nat) : (Fr r).inRound l = Fr (some l) := rfl
theorem Fr_fn (r : Option Nat) (f : Nat) : (Fr r).fn f := trivial
theorem Fr_depth (r : Option Nat) : (Fr r).depth.isSome = true → 1 ≤ 0 := fun h => by simp [Fr, Fence.wide] at h
theorem callsIn_fr {r : Option Nat} {n : Nat} {f : FuncId} {args : Array Value} {R : Ending → World → Prop} : CallsIn (Fr r) n P f args w R ↔ Calls P f args w R := callsIn_wide (n := n)

/-- The loop in whose round it goes on is known. -/
def Around (s : Sim) (h : Heap) : Option Nat → Prop
  | none => True
  | some l => ∃ o, isLoop h o = true ∧ s.μ o = some l
theorem Around.ext0 {s' : Sim} {h' : Heap} {w' : World} (E : Ext0 s h w s' h' w') {r : Option Nat} (A : Around s h r) : Around s' h' r := by
  cases r with
  | none => trivial
  | some l =>
    obtain ⟨o, h1, h2⟩ := A
    have hk := E.kindL o h1
    exact ⟨o, hk, (E.same o 0 (genOf_loop h1) (genOf_loop hk)).1 l h2⟩

/-- A deferred call of a function, not a loop's mark. -/
def Deferred.plain (d : Deferred) : Prop := ∀ b, d.target ≠ .collected b

/-- The marks of loops among the deferred calls; what else is due is told. -/
def MarksT (B : Nat) (s : Sim) (w : World) : List Deferred → List Deferred → Prop
  | T, [] => T = []
  | T, d :: ds => ((∃ b, d.target = .collected b ∧ B ≤ b ∧ b < w.heap.size ∧ (∀ o, s.μ o ≠ some b) ∧ w.heap[b]? = some (.deferred (some [])) ∧ ∀ e ∈ ds, e.target ≠ .collected b) ∧ MarksT B s w T ds) ∨
    (Deferred.plain d ∧ ∃ T', T = d :: T' ∧ MarksT B s w T' ds)
def Marks (B : Nat) (s : Sim) (w : World) (ds : List Deferred) : Prop := MarksT B s w s.good.tail ds

def Dues (B : Nat) (s : Sim) (w : World) (ds : List Deferred) : Prop := B ≤ w.heap.size ∧ Marks B s w ds

theorem MarksT.ext0 {B : Nat} {s' : Sim} {h' : Heap} {w' : World} (E : Ext0 s h w s' h' w') : ∀ {ds T : List Deferred}, MarksT B s w T ds → MarksT B s' w' T ds
  | [], _, h => h
  | d :: ds, _, .inl ⟨⟨b, h1, h2, h3, h4, h5, h6⟩, h7⟩ => .inl ⟨⟨b, h1, h2, Nat.lt_of_lt_of_le h3 E.size, fun o ho => by
      rcases E.own o b ho with ⟨o', ho'⟩ | hle
      · exact h4 o' ho'
      · omega, by rw [E.far b h3 h4]; exact h5, h6⟩, MarksT.ext0 E h7⟩
  | d :: ds, _, .inr ⟨h1, T', h2, h3⟩ => .inr ⟨h1, T', h2, MarksT.ext0 E h3⟩
theorem Marks.ext0 {B : Nat} {s' : Sim} {h' : Heap} {w' : World} (E : Ext0 s h w s' h' w') {ds : List Deferred} (H : Marks B s w ds) : Marks B s' w' ds := by
  unfold Marks
  rw [E.good]
  exact MarksT.ext0 E H
theorem Dues.ext0 {B : Nat} {s' : Sim} {h' : Heap} {w' : World} (E : Ext0 s h w s' h' w') {ds : List Deferred} (D : Dues B s w ds) : Dues B s' w' ds := ⟨Nat.le_trans D.1 E.size, D.2.ext0 E⟩
theorem MarksT.lt {B : Nat} : ∀ {ds T : List Deferred}, MarksT B s w T ds → ∀ e ∈ ds, e.target ≠ .collected w.heap.size
  | [], _, _, e, he => by simp at he
  | d :: ds, _, H, e, he => by
    rcases H with ⟨⟨b, h1, _, h3, _⟩, h7⟩ | ⟨h1, T', _, h7⟩
    · rcases List.mem_cons.1 he with rfl | he
      · rw [h1]; intro hx; injection hx with hx; omega
      · exact MarksT.lt h7 e he
    · rcases List.mem_cons.1 he with rfl | he
      · exact h1 _
      · exact MarksT.lt h7 e he
theorem Marks.lt {B : Nat} {ds : List Deferred} (H : Marks B s w ds) : ∀ e ∈ ds, e.target ≠ .collected w.heap.size := MarksT.lt H
theorem Marks.cons {B b : Nat} {d : Deferred} {ds : List Deferred} (h1 : d.target = .collected b) (h2 : B ≤ b) (h3 : b < w.heap.size) (h4 : ∀ o, s.μ o ≠ some b) (h5 : w.heap[b]? = some (.deferred (some []))) (h6 : ∀ e ∈ ds, e.target ≠ .collected b) (H : Marks B s w ds) : Marks B s w (d :: ds) := .inl ⟨⟨b, h1, h2, h3, h4, h5, h6⟩, H⟩
theorem Marks.nil {B : Nat} (h : s.good.tail = []) : Marks B s w [] := h

def FnOk (P : Program) (C : Cfg) (ord : Nat → Array Oper → Bool) : Prop := ∀ f fi, C.fn f = some fi → ∃ fn, P.funcs[f]? = some fn ∧ fn.body = some fi.body ∧ fn.results.toList = fi.results ∧ (fn.name == "runtime.NumGoroutine") = false ∧
  fi.params ≤ fn.ntmps ∧ codeOk (ord f) fn.ntmps fi.body = true

structure Ok (P : Program) (C : Cfg) (ord : Nat → Array Oper → Bool) : Prop where
  ty : TabOk P C
  glob : GlobOk C
  prim : PrimOk P C
  fn : FnOk P C ord
  close : ∀ g v, C.glob g = some v → ∀ h, freezeV h 0 40 v = some v
  mixed : P.follows .mixedOrders = true

/-- How a statement ends. -/
def OutOk (B : Nat) (s : Sim) (h : Heap) (w : World) (N : Nat) (out : Out) (e' : Env) (h' : Heap) (ex : Exit) (a' : Act) (w' : World) : Prop :=
  ∃ s', Ext s h w s' h' w' ∧ Rel s' h' w' ∧ a'.tmps.size = N ∧ Dues B s' w' a'.defers ∧ match out, ex with
    | .nrm, .normal => EnvRel s' h' w' e' a'.tmps
    | .exit id, .exit id' => id' = id ∧ EnvRel s' h' w' e' a'.tmps
    | .ret, .ret => EnvRel s' h' w' e' a'.tmps
    | .pan v, .panic chain => (∃ u, chain = [{ v := u, recovered := false }] ∧ VR s' h' w' v u) ∧ EnvRel s' h' w' e' a'.tmps
    | _, _ => False

/-- What a call of a value comes to. -/
def ValOk (P : Program) (C : Cfg) (ord : Nat → Array Oper → Bool) (g : AV) (vs : List AV) (h : Heap) (res : CRes) (h' : Heap) : Prop :=
  match g with
  | .clo f caps => Known P f ∧ ∀ s w us, Rel s h w → GG C ord s h w → VRs s h w (vs ++ caps) us → CallOk P f us s h w res h'
  | .bnd f first => Known P f ∧ ∀ s w us, Rel s h w → GG C ord s h w → VRs s h w (first ++ vs) us → CallOk P f us s h w res h'
  | .yld o => ∀ s w b us rec, s.μ o = some b → w.heap[b]? = some (.loop rec) → Rel s h w → GG C ord s h w → VRs s h w vs us →
      us.length = rec.params.size ∧ RoundIn Fence.wide 0 P b rec.fn ((rec.params.zip us.toArray).foldl (fun tmps (t, a) => tmps.setIfInBounds t a) rec.tmps) rec.assign rec.body w (EndOk s h w res h')
  | _ => False

/-- What is known of calls with less fuel. -/
structure CallsAt (P : Program) (C : Cfg) (ord : Nat → Array Oper → Bool) (k : Nat) : Prop where
  fn : ∀ k', k' ≤ k → ∀ f args h res h', callF C k' f args h = some (res, h') → Known P f ∧ ∀ s w vs, Rel s h w → GG C ord s h w → VRs s h w args vs → CallOk P f vs s h w res h'
  val : ∀ k', k' ≤ k → ∀ g vs h res h', callV C k' g vs h = some (res, h') → ValOk P C ord g vs h res h'
theorem CallsAt.le {ord : Nat → Array Oper → Bool} {k k' : Nat} (hk : k' ≤ k) (H : CallsAt P C ord k) : CallsAt P C ord k' := ⟨fun j hj => H.fn j (by omega), fun j hj => H.val j (by omega)⟩

theorem want_rel {N : Nat} {ops : Array Oper} (hd : dstsOk N ops = true) {e : Env} {a : Act} (hN : a.tmps.size = N) (H : EnvRel s h w e a.tmps) {o : Oper} {b : Bool} (hw : wantA ops e o = some b) : Region.wanted o (yielded ops a.tmps) = b := by
  unfold wantA at hw
  unfold Region.wanted
  cases hg : o.guard with
  | none => simp only [hg, Option.some.injEq] at hw ⊢; exact hw
  | some jw =>
    obtain ⟨j, want⟩ := jw
    simp only [hg] at hw ⊢
    unfold yielded
    cases hj : (ops[j]?).bind (·.dst) with
    | none =>
      simp only [hj, Option.map_none, Option.some.injEq] at hw
      subst hw
      rfl
    | some d =>
      simp only [hj, Option.map_some] at hw
      have hlt : d < a.tmps.size := by
        rw [hN]
        obtain ⟨oj, h1, h2⟩ := Option.bind_eq_some_iff.1 hj
        have := Array.all_eq_true.1 hd j (Array.getElem?_eq_some_iff.1 h1).1
        rw [(Array.getElem?_eq_some_iff.1 h1).2, h2] at this
        simpa using this
      have hr := H d
      have hget : a.tmps[d]? = some (a.tmps.getD d undef) := by simp [hlt]
      simp only [Option.bind_some, hget]
      generalize a.tmps.getD d undef = u at hr
      generalize e.get d = x at hr hw
      cases hr <;> first | (cases hw; done) | skip
      case bool b' =>
        simp only [Option.some.injEq] at hw
        subst hw
        rfl
      case tup cs vs hl hr' =>
        cases cs with
        | nil =>
          simp only [Option.some.injEq] at hw
          subst hw
          rfl
        | cons c r => cases hw

theorem dst_lt {N : Nat} {ops : Array Oper} (hd : dstsOk N ops = true) {i : Nat} {o : Oper} (ho : ops[i]? = some o) : ∀ t, o.dst = some t → t < N := fun t ht => by
  have := Array.all_eq_true.1 hd i (Array.getElem?_eq_some_iff.1 ho).1
  rw [(Array.getElem?_eq_some_iff.1 ho).2, ht] at this
  simpa using this

theorem run_call {g : Nat} (hk : Known P g) {o : Oper} {args : Array Operand} {gx : Operand} {ct : Array TypeId} {a : Act} {us : Array Value} (ho : o.op = .call { callee := .value gx, args, argTypes := ct }) (hg : a.eval gx = .func (.func g) #[] us) :
    (execOp a.eval o).run P w = .ok (.enter g (args.map a.eval ++ us)) w := by
  obtain ⟨fn, c, h1, h2, h3⟩ := hk
  unfold execOp
  simp only [ho, resolve, hg, Deferred.ofValue, Sem.run_bind, Sem.run_pure, Result.andThen_ok, invoke, callFunc, run_program, h1, h3, h2, Option.isNone_some, Bool.false_eq_true, if_false, Array.empty_append]

theorem run_bound {g : Nat} (hk : Known P g) {o : Oper} {args : Array Operand} {gx : Operand} {ct : Array TypeId} {a : Act} {us : Array Value} (ho : o.op = .call { callee := .value gx, args, argTypes := ct }) (hg : a.eval gx = .func (.func g) us #[]) :
    (execOp a.eval o).run P w = .ok (.enter g (us ++ args.map a.eval)) w := by
  obtain ⟨fn, c, h1, h2, h3⟩ := hk
  unfold execOp
  simp only [ho, resolve, hg, Deferred.ofValue, Sem.run_bind, Sem.run_pure, Result.andThen_ok, invoke, callFunc, run_program, h1, h3, h2, Option.isNone_some, Bool.false_eq_true, if_false, Array.append_empty]

theorem run_yieldCall {o : Oper} {args : Array Operand} {gx : Operand} {ct : Array TypeId} {a : Act} {b : Nat} {rec : Loop} (ho : o.op = .call { callee := .value gx, args, argTypes := ct }) (hg : a.eval gx = .func (.yield b) #[] #[]) (hb : w.heap[b]? = some (.loop rec)) (hs : args.size = rec.params.size) :
    (execOp a.eval o).run P w = .ok (.round b rec.fn ((rec.params.zip (args.map a.eval)).foldl (fun tmps (t, a) => tmps.setIfInBounds t a) rec.tmps) rec.assign rec.body) w := by
  have := run_yield (P := P) (args := args.map a.eval) hb (by simpa using hs)
  unfold execOp
  simp only [ho, resolve, hg, Deferred.ofValue, Sem.run_bind, Sem.run_pure, Result.andThen_ok, invoke, Array.empty_append]
  exact this

/-- One operation: what the interpreter makes of it holds of the model's. -/
theorem oper_sound {ord : Nat → Array Oper → Bool} (K : Ok P C ord) {r : Option Nat} {f : Nat} {Q : Exit → Act → World → Prop} {next : Act → World → Prop} {o : Oper}
    {e : Env} {a : Act} (R : Rel s h w) (G : GG C ord s h w) (H : EnvRel s h w e a.tmps)
    {v : AV} {h' : Heap} (hv : opA C f e h o = some (v, h'))
    (hnext : ∀ s' w' u, Ext s h w s' h' w' → Rel s' h' w' → VR s' h' w' v u → next (a.put o.dst u) w') : o.wpIn (Fr r) 0 P a w next Q := by
  have hnd : ∀ c, o.op ≠ .defer c := fun c hc => by unfold opA at hv; simp only [hc, reduceCtorEq] at hv
  obtain ⟨s', w', n, u, h1, h2, h3, h4, h5⟩ := op_sound K.ty K.glob R G.g H hv
  refine ⟨fun _ _ => trivial, ?_⟩
  rw [Oper.semAt_eq _ _ _ hnd, h1]
  rcases h2 with rfl | ⟨rfl, rfl⟩
  · exact hnext s' w' u h3 h4 h5
  · exact hnext s' w' undef h3 h4 h5

theorem callee_op {o : Oper} {g : Operand} {args : Array Operand} (hc : callee o = some (g, args)) : ∃ ct, o.op = .call { callee := .value g, args, argTypes := ct } := by
  unfold callee at hc
  split at hc
  · rename_i g' args' ct ho
    simp only [Option.some.injEq, Prod.mk.injEq] at hc
    obtain ⟨rfl, rfl⟩ := hc
    exact ⟨ct, ho⟩
  · cases hc

theorem opsF_cons (k f : Nat) (os : Array Oper) (o : Oper) (r : List Oper) (e : Env) (h : Heap) : opsF C (k + 1) f os (o :: r) e h = (wantA os e o).bind fun w => match w with
    | false => opsF C k f os r (e.putAt o.dst (.tup [])) h
    | true => match callee o with
      | none => match panO C e o with
        | some v => some (.pan v, e, h)
        | none => (opA C f e h o).bind fun x => if looseAll C f os (dkey o) e x.2 then opsF C k f os r (e.putAt o.dst x.1) x.2 else none
      | some ga => (mapO (evalA C e) ga.2.toList).bind fun vs => (evalA C e ga.1).bind fun gv =>
        if (o.dst.map (C.quiet f)).getD false && !pureV C gv then none else (callV C k gv vs h).bind fun x => match x.1 with
          | .ret v => if looseAll C f os (dkey o) e x.2 then opsF C k f os r (e.putAt o.dst v) x.2 else none
          | .pan v => some (.pan v, e, x.2) := by
  simp only [opsF, Option.bind_eq_bind]
  cases hw : wantA os e o with
  | none => rfl
  | some b =>
    simp only [Option.bind_some]
    cases b with
    | false => simp
    | true =>
      simp only [if_true]
      cases hc : callee o with
      | some ga =>
        obtain ⟨g, args⟩ := ga
        obtain ⟨ct, ho⟩ := callee_op hc
        simp only [ho]
        rfl
      | none =>
        split
        · rename_i g args ct ho
          simp [callee, ho] at hc
        · rfl

theorem yld_live {k o : Nat} {vs : List AV} {h : Heap} {x : CRes × Heap} (hc : callV C k (.yld o) vs h = some x) : genOf h o = some 0 := by
  cases k with
  | zero => simp [callV] at hc
  | succ k =>
    simp only [callV, Option.bind_eq_bind] at hc
    obtain ⟨r, hr, _⟩ := Option.bind_eq_some_iff.1 hc
    unfold Heap.loopAt at hr
    unfold genOf
    split at hr
    · rename_i r' h'; rw [h']
    · cases hr

theorem callop_sound {ord : Nat → Array Oper → Bool} {k : Nat} (HC : CallsAt P C ord k) {r : Option Nat} {Q : Exit → Act → World → Prop} {next : Act → World → Prop} {o : Oper} {e : Env} {a : Act} (R : Rel s h w) (G : GG C ord s h w) (H : EnvRel s h w e a.tmps)
    {g : Operand} {args : Array Operand} (hc : callee o = some (g, args)) {vs : List AV} (hvs : mapO (evalA C e) args.toList = some vs) {gv : AV} (hg : evalA C e g = some gv)
    {res : CRes} {h' : Heap} (hcall : callV C k gv vs h = some (res, h'))
    (hret : ∀ v, res = .ret v → ∀ s' w' u, Ext s h w s' h' w' → Rel s' h' w' → VR s' h' w' v u → next (a.put o.dst u) w')
    (hpan : ∀ v, res = .pan v → ∀ s' w' u, Ext s h w s' h' w' → Rel s' h' w' → VR s' h' w' v u → Q (.panic [{ v := u, recovered := false }]) a w') : o.wpIn (Fr r) 0 P a w next Q := by
  obtain ⟨ct, ho⟩ := callee_op hc
  have hnd : ∀ c, o.op ≠ .defer c := fun c hc => by rw [ho] at hc; cases hc
  have hok := HC.val k (Nat.le_refl _) _ _ _ _ _ hcall
  have hgr := evalA_rel G.g H hg
  refine ⟨fun _ _ => trivial, ?_⟩
  rw [Oper.semAt_eq _ _ _ hnd]
  have fin : ∀ en w', EndOk s h w res h' en w' → (match en, w' with
      | .returned v, w'' => next (a.put o.dst v) w''
      | .panicked chain, w'' => Q (.panic chain) a w''
      | .outgrown, _ => LetsOut Q) := fun en w' hend => by
    obtain ⟨s', h1, h2, h3⟩ := hend
    cases res with
    | ret v =>
      cases en with
      | returned u => exact hret v rfl s' w' u h1 h2 h3
      | panicked chain => exact h3.elim
      | outgrown => exact h3.elim
    | pan v =>
      cases en with
      | returned u => exact h3.elim
      | panicked chain =>
        obtain ⟨u, rfl, hu⟩ := h3
        exact hpan v rfl s' w' u h1 h2 hu
      | outgrown => exact h3.elim
  generalize hag : a.eval g = ag at hgr
  cases gv <;> simp only [ValOk] at hok
  case clo g' caps =>
    obtain ⟨hk, hok⟩ := hok
    cases hgr with
    | clo _ _ us hl hr =>
    have hargs := (args_rel G.g H hvs).append (us := us.toList) ⟨by simpa using hl, fun i c hi => by
      have hlt : i < us.size := by rw [← hl]; exact (List.getElem?_eq_some_iff.1 hi).1
      refine ⟨us[i], by simp [hlt], ?_⟩
      have := hr i c hi
      simpa [hlt] using this⟩
    have hC := hok s w _ R G hargs
    rw [run_call hk ho hag]
    rw [Oper.uponIn_enter]
    have harr : (args.toList.map a.eval ++ us.toList).toArray = args.map a.eval ++ us := by apply Array.ext'; simp
    rw [← harr]
    exact ⟨Fr_depth r, callsIn_fr.2 (Calls.mono hC fun en w' hend => fin en w' hend)⟩
  case bnd g' first =>
    obtain ⟨hk, hok⟩ := hok
    cases hgr with
    | bnd _ _ us hl hr =>
    have hfirst : VRs s h w first us.toList := ⟨by simpa using hl, fun i c hi => by
      have hlt : i < us.size := by rw [← hl]; exact (List.getElem?_eq_some_iff.1 hi).1
      refine ⟨us[i], by simp [hlt], ?_⟩
      have := hr i c hi
      simpa [hlt] using this⟩
    have hargs := hfirst.append (args_rel G.g H hvs)
    have hC := hok s w _ R G hargs
    rw [run_bound hk ho hag]
    rw [Oper.uponIn_enter]
    have harr : (us.toList ++ args.toList.map a.eval).toArray = us ++ args.map a.eval := by apply Array.ext'; simp
    rw [← harr]
    exact ⟨Fr_depth r, callsIn_fr.2 (Calls.mono hC fun en w' hend => fin en w' hend)⟩
  case yld o' =>
    cases hgr with
    | yldOld _ g' b hg' hlt => have h1 := yld_live hcall; rw [h1] at hg'; injection hg' with hg'; omega
    | yld _ b hl hb =>
    obtain ⟨x, hx, hxr⟩ := R.obj o' b hb
    unfold isLoop at hl
    rw [hx] at hl
    cases x <;> simp only [Bool.false_eq_true] at hl
    rename_i lr
    obtain ⟨rec, hrec, _⟩ := hxr
    have hargs := args_rel G.g H hvs
    obtain ⟨hlen, hC⟩ := hok s w b _ rec hb hrec R G hargs
    rw [run_yieldCall ho hag hrec (by simpa using hlen)]
    rw [Oper.uponIn_round]
    have harr : (args.toList.map a.eval).toArray = args.map a.eval := by apply Array.ext'; simp
    rw [← harr]
    exact ⟨Fr_depth r, RoundIn.mono (F := Fr r) hC fun en w' hend => fin en w' hend⟩

theorem oper_mono {F : Fence} {n : Nat} {o : Oper} {Q Q' : Exit → Act → World → Prop} {K K' : Act → World → Prop} (hq : ∀ ex a w, Q ex a w → Q' ex a w) (hk : ∀ a w, K a w → K' a w) {a : Act} {w : World} (H : o.wpIn F n P a w K Q) : o.wpIn F n P a w K' Q' := by
  unfold Oper.wpIn at *
  refine ⟨H.1, ?_⟩
  have H := H.2
  generalize (o.semAt F.round a.eval).run P w = r at *
  have lets : LetsOut Q → LetsOut Q' := fun ⟨a, w, h⟩ => ⟨a, w, hq _ _ _ h⟩
  cases r with
  | ok n w' =>
    cases n <;> simp only [Oper.uponIn] at H ⊢ <;>
      first
        | exact hk _ _ H
        | exact ⟨H.1, CallsIn.mono H.2 (fun e w'' he => by cases e <;> first | exact hk _ _ he | exact hq _ _ _ he | exact lets he)⟩
        | exact ⟨H.1, RowsIn.mono H.2 (fun _ _ he => hk _ _ he)⟩
        | exact ⟨H.1, RoundIn.mono H.2 (fun e w'' he => by cases e <;> first | exact hk _ _ he | exact hq _ _ _ he | exact lets he)⟩
        | exact hq _ _ _ H
        | exact H
  | halt x w' => cases x <;> simp only [Oper.uponIn] at H ⊢ <;> first | exact hq _ _ _ H | exact H

theorem wpOps_mono {F : Fence} {n : Nat} {ops : Array Oper} {Q Q' : Exit → Act → World → Prop} (hq : ∀ ex a w, Q ex a w → Q' ex a w) : ∀ (l : List Nat) (a : Act) (w : World), wpOpsIn F n P ops Q l a w → wpOpsIn F n P ops Q' l a w
  | [], a, w, H => hq _ _ _ H
  | i :: r, a, w, H => by
    simp only [wpOpsIn] at H ⊢
    cases ho : ops[i]? with
    | none => simp only [ho] at H ⊢; exact wpOps_mono hq r a w H
    | some o =>
      simp only [ho] at H ⊢
      split
      · rename_i hw
        simp only [hw, if_true] at H
        exact oper_mono hq (fun a w => wpOps_mono hq r a w) H
      · rename_i hw
        simp only [hw, if_false] at H
        exact ⟨H.1, wpOps_mono hq r _ w H.2⟩

theorem pan_run {e : Env} {a : Act} (G : Glob C s h w) (H : EnvRel s h w e a.tmps) {o : Oper} {v : AV} (hp : panO C e o = some v) : ∃ u, VR s h w v u ∧ (execOp a.eval o).run P w = .halt (.panic u) w ∧ ∀ c, o.op ≠ .defer c := by
  unfold panO at hp
  split at hp <;> first | (cases hp; done) | skip
  rename_i x hop
  split at hp <;> first | (cases hp; done) | skip
  rename_i t v' hv
  injection hp with hp
  subst hp
  have hr := evalA_rel G H hv
  refine ⟨a.eval x, hr, ?_, fun c hc => by rw [hop] at hc; cases hc⟩
  generalize hax : a.eval x = u at hr
  cases hr
  unfold execOp
  simp only [hop, hax, Instr.panic, goPanic, Sem.run_bind]
  rfl

/-- Operations in the text's order. -/
theorem ops_sound {ord : Nat → Array Oper → Bool} (K : Ok P C ord) {N f : Nat} {ops : Array Oper} (hd : dstsOk N ops = true) {r : Option Nat} {B : Nat} :
    ∀ (k : Nat), CallsAt P C ord k → ∀ (l : List Oper) (is : List Nat), is.map (ops[·]?) = l.map some → ∀ (e : Env) (h : Heap) (out : Out) (e' : Env) (h' : Heap), opsF C k f ops l e h = some (out, e', h') →
    ∀ (s : Sim) (w : World) (a : Act), a.tmps.size = N → Dues B s w a.defers → Rel s h w → GG C ord s h w → EnvRel s h w e a.tmps → wpOpsIn (Fr r) 0 P ops (OutOk B s h w N out e' h') is a w := by
  intro k
  induction k with
  | zero => intro _ l is _ e h out e' h' hf; simp [opsF] at hf
  | succ k ih =>
    intro HC l is hl e h out e' h' hf s w a hN hdf R G H
    have HC' : CallsAt P C ord k := HC.le (by omega)
    cases l with
    | nil =>
      have : is = [] := by simpa using hl
      subst this
      simp only [opsF, Option.some.injEq, Prod.mk.injEq] at hf
      obtain ⟨rfl, rfl, rfl⟩ := hf
      exact ⟨s, Ext.refl _ _ _, R, hN, hdf, H⟩
    | cons o l =>
      cases is with
      | nil => simp at hl
      | cons i is =>
        simp only [List.map_cons, List.cons.injEq] at hl
        obtain ⟨ho, hl⟩ := hl
        rw [opsF_cons] at hf
        replace hf := Option.bind_eq_some_iff.1 hf
        obtain ⟨b, hw, hf⟩ := hf
        have hwant := want_rel hd hN H hw
        simp only [wpOpsIn, ho, hwant]
        -- what is left, behind a step
        have rest : ∀ {e1 : Env} {h1 : Heap}, opsF C k f ops l e1 h1 = some (out, e', h') → ∀ s1 w1 a1, Ext s h w s1 h1 w1 → a1.tmps.size = N → a1.defers = a.defers → Rel s1 h1 w1 → EnvRel s1 h1 w1 e1 a1.tmps → wpOpsIn (Fr r) 0 P ops (OutOk B s h w N out e' h') is a1 w1 := by
          intro e1 h1 hf1 s1 w1 a1 E hN1 hdf1 R1 H1
          have := ih HC' l is hl e1 h1 out e' h' hf1 s1 w1 a1 hN1 (by rw [hdf1]; exact hdf.ext0 E.toExt0) R1 (G.ext R.apart E) H1
          exact wpOps_mono (fun ex a' w' hq => by
            obtain ⟨s', k1, k2, k3⟩ := hq
            exact ⟨s', E.trans k1, k2, k3⟩) is a1 w1 this
        have hput : ∀ {s1 : Sim} {h1 : Heap} {w1 : World} {v : AV} {u : Value}, Ext s h w s1 h1 w1 → VR s1 h1 w1 v u → EnvRel s1 h1 w1 (e.putAt o.dst v) (a.put o.dst u).tmps ∧ (a.put o.dst u).tmps.size = N ∧ (a.put o.dst u).defers = a.defers := by
          intro s1 h1 w1 v u E hv
          refine ⟨(H.ext R.apart E).put o.dst (fun t ht => by rw [hN]; exact dst_lt hd ho t ht) hv, ?_, ?_⟩
          · cases o.dst <;> simp [Act.put, hN]
          · cases o.dst <;> simp [Act.put]
        cases b with
        | false =>
          simp only [Bool.false_eq_true, if_false]
          have hu : VR s h w (.tup []) undef := .tup [] #[] rfl fun i c hi => by simp at hi
          obtain ⟨g1, g2, g3⟩ := hput (Ext.refl s h w) hu
          exact ⟨fun _ _ => trivial, rest hf s w _ (Ext.refl _ _ _) g2 g3 R g1⟩
        | true =>
          simp only [if_true]
          cases hc : callee o with
          | none =>
            simp only [hc] at hf
            cases hp : panO C e o with
            | some v =>
              simp only [hp, Option.some.injEq, Prod.mk.injEq] at hf
              obtain ⟨rfl, rfl, rfl⟩ := hf
              obtain ⟨u, hu, hrun, hnd⟩ := pan_run (w := w) G.g H hp
              refine ⟨fun _ _ => trivial, ?_⟩
              rw [Oper.semAt_eq _ _ _ hnd, hrun]
              exact ⟨s, Ext.refl _ _ _, R, hN, hdf, ⟨u, rfl, hu⟩, H⟩
            | none =>
            simp only [hp] at hf
            replace hf := Option.bind_eq_some_iff.1 hf
            obtain ⟨⟨v, h1⟩, hv, hf⟩ := hf
            split at hf <;> first | cases hf | skip
            refine oper_sound K R G H hv fun s1 w1 u E R1 hu => ?_
            obtain ⟨g1, g2, g3⟩ := hput E hu
            exact rest hf s1 w1 _ E g2 g3 R1 g1
          | some ga =>
            obtain ⟨g, args⟩ := ga
            simp only [hc] at hf
            replace hf := Option.bind_eq_some_iff.1 hf
            obtain ⟨vs, hvs, hf⟩ := hf
            replace hf := Option.bind_eq_some_iff.1 hf
            obtain ⟨gv, hgv, hf⟩ := hf
            split at hf
            · cases hf
            replace hf := Option.bind_eq_some_iff.1 hf
            obtain ⟨⟨res, h1⟩, hcall, hf⟩ := hf
            refine callop_sound HC' R G H hc hvs hgv hcall (fun v hres s1 w1 u E R1 hu => ?_) (fun v hres s1 w1 u E R1 hu => ?_)
            · subst hres
              dsimp only at hf
              split at hf <;> first | cases hf | skip
              obtain ⟨g1, g2, g3⟩ := hput E hu
              exact rest hf s1 w1 _ E g2 g3 R1 g1
            · subst hres
              simp only [Option.some.injEq, Prod.mk.injEq] at hf
              obtain ⟨rfl, rfl, rfl⟩ := hf
              exact ⟨s1, E, R1, hN, hdf.ext0 E.toExt0, ⟨u, rfl, hu⟩, H.ext R.apart E⟩
end
end Go.Rv
