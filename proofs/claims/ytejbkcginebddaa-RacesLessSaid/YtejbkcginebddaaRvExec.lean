/-
  Calls, statements, regions whose order is that of the text.
-/
import Derived.Test.YtejbkcginebddaaRvFreeze
import Derived.LoopN
set_option linter.unusedSimpArgs false
set_option linter.unusedVariables false
namespace Go.Rv
section
variable {P : Program} {C : Cfg} {s : Sim} {h : Heap} {w : World}

/-- How a call ends. -/
def EndOk (s : Sim) (h : Heap) (w : World) (res : CRes) (h' : Heap) (e : Ending) (w' : World) : Prop :=
  ∃ s', Ext s h w s' h' w' ∧ Rel s' h' w' ∧ match res, e with
    | .ret v, .returned u => VR s' h' w' v u
    | .pan v, .panicked chain => ∃ u, chain = [{ v := u, recovered := false }] ∧ VR s' h' w' v u
    | _, _ => False

def CallOk (P : Program) (f : Nat) (vs : List Value) (s : Sim) (h : Heap) (w : World) (res : CRes) (h' : Heap) : Prop :=
  Calls P f vs.toArray w (EndOk s h w res h')

/-- A function that may be called. -/
def Known (P : Program) (f : Nat) : Prop := ∃ fn c, P.funcs[f]? = some fn ∧ fn.body = some c ∧ (fn.name == "runtime.NumGoroutine") = false

def PrimOk (P : Program) (C : Cfg) : Prop := ∀ f p, C.prim f = some p → Known P f ∧ (C.pure f = true → ∀ args h v h', p args h = some (.ret v, h') → h' = h) ∧ ∀ args h res h', p args h = some (res, h') →
  ∀ s w vs, Rel s h w → Glob C s h w → VRs s h w args vs → CallOk P f vs s h w res h'

/-- Does a drawn region's order not matter? (Stated in the next text.) -/
structure CodeOk (ord : Nat → Array Oper → Bool) (f N : Nat) (c : Code) : Prop where
  ok : True

def dstsOk (N : Nat) (ops : Array Oper) : Bool := ops.all fun o => match o.dst with | some d => d < N | none => true

def codeOk (ord : Array Oper → Bool) (N : Nat) : Code → Bool
  | .region _ ops draw => dstsOk N ops && (!draw || ord ops)
  | .seq a b => codeOk ord N a && codeOk ord N b
  | .cond _ a b => codeOk ord N a && codeOk ord N b
  | .block _ b | .loop b | .scope b => codeOk ord N b
  | _ => true

def FnOk (P : Program) (C : Cfg) (ord : Nat → Array Oper → Bool) : Prop := ∀ f fi, C.fn f = some fi → ∃ fn, P.funcs[f]? = some fn ∧ fn.body = some fi.body ∧ fn.results.toList = fi.results ∧ (fn.name == "runtime.NumGoroutine") = false ∧
  fi.params ≤ fn.ntmps ∧ codeOk (ord f) fn.ntmps fi.body = true

structure Ok (P : Program) (C : Cfg) (ord : Nat → Array Oper → Bool) : Prop where
  ty : TabOk P C
  glob : GlobOk C
  prim : PrimOk P C
  fn : FnOk P C ord
  mixed : P.follows .mixedOrders = true

/-- How a statement ends. -/
def OutOk (s : Sim) (h : Heap) (w : World) (N : Nat) (out : Out) (e' : Env) (h' : Heap) (ex : Exit) (a' : Act) (w' : World) : Prop :=
  ∃ s', Ext s h w s' h' w' ∧ Rel s' h' w' ∧ a'.tmps.size = N ∧ a'.defers = [] ∧ match out, ex with
    | .nrm, .normal => EnvRel s' h' w' e' a'.tmps
    | .exit id, .exit id' => id' = id ∧ EnvRel s' h' w' e' a'.tmps
    | .ret, .ret => EnvRel s' h' w' e' a'.tmps
    | .pan v, .panic chain => ∃ u, chain = [{ v := u, recovered := false }] ∧ VR s' h' w' v u
    | _, _ => False

/-- What is known of calls with less fuel. -/
def CallsAt (P : Program) (C : Cfg) (k : Nat) : Prop := ∀ k', k' ≤ k → ∀ f args h res h', callF C k' f args h = some (res, h') → Known P f ∧ ∀ s w vs, Rel s h w → Glob C s h w → VRs s h w args vs → CallOk P f vs s h w res h'

theorem want_rel {N : Nat} {ops : Array Oper} (hd : dstsOk N ops = true) {e : Env} {a : Act} (hN : a.tmps.size = N) (H : EnvRel s h w e a.tmps) {o : Oper} {b : Bool} (hw : wantA ops e o = some b) : Region.wanted o (yielded ops a.tmps) = b := by
  unfold wantA at hw
  unfold Region.wanted
  cases hg : o.guard with
  | none => simp only [hg, Option.some.injEq] at hw ⊢; exact hw
  | some jw =>
    obtain ⟨j, want⟩ := jw
    simp only [hg] at hw ⊢
    unfold yielded
    cases hj : (ops[j]?).bind (·.dst) with
    | none =>
      simp only [hj, Option.map_none, Option.some.injEq] at hw
      subst hw
      rfl
    | some d =>
      simp only [hj, Option.map_some] at hw
      have hlt : d < a.tmps.size := by
        rw [hN]
        obtain ⟨oj, h1, h2⟩ := Option.bind_eq_some_iff.1 hj
        have := Array.all_eq_true.1 hd j (Array.getElem?_eq_some_iff.1 h1).1
        rw [(Array.getElem?_eq_some_iff.1 h1).2, h2] at this
        simpa using this
      have hr := H d
      have hget : a.tmps[d]? = some (a.tmps.getD d undef) := by simp [hlt]
      simp only [Option.bind_some, hget]
      generalize a.tmps.getD d undef = u at hr
      generalize e.get d = x at hr hw
      cases hr <;> first | (cases hw; done) | skip
      case bool b' =>
        simp only [Option.some.injEq] at hw
        subst hw
        rfl
      case tup cs vs hl hr' =>
        cases cs with
        | nil =>
          simp only [Option.some.injEq] at hw
          subst hw
          rfl
        | cons c r => cases hw

theorem dst_lt {N : Nat} {ops : Array Oper} (hd : dstsOk N ops = true) {i : Nat} {o : Oper} (ho : ops[i]? = some o) : ∀ t, o.dst = some t → t < N := fun t ht => by
  have := Array.all_eq_true.1 hd i (Array.getElem?_eq_some_iff.1 ho).1
  rw [(Array.getElem?_eq_some_iff.1 ho).2, ht] at this
  simpa using this

theorem run_call {g : Nat} (hk : Known P g) {o : Oper} {args : Array Operand} {gx : Operand} {ct : Array TypeId} {a : Act} {us : Array Value} (ho : o.op = .call { callee := .value gx, args, argTypes := ct }) (hg : a.eval gx = .func (.func g) #[] us) :
    (execOp a.eval o).run P w = .ok (.enter g (args.map a.eval ++ us)) w := by
  obtain ⟨fn, c, h1, h2, h3⟩ := hk
  unfold execOp
  simp only [ho, resolve, hg, Deferred.ofValue, Sem.run_bind, Sem.run_pure, Result.andThen_ok, invoke, callFunc, run_program, h1, h3, h2, Option.isNone_some, Bool.false_eq_true, if_false, Array.empty_append]

/-- One operation: what the interpreter makes of it holds of the model's. -/
theorem oper_sound {ord : Nat → Array Oper → Bool} (K : Ok P C ord) {k : Nat} (HC : CallsAt P C k) {N f : Nat} {Q : Exit → Act → World → Prop} {next : Act → World → Prop} {i : Nat} {o : Oper} (hd : ∀ t, o.dst = some t → t < N)
    {e : Env} {a : Act} (hN : a.tmps.size = N) (hdf : a.defers = []) (R : Rel s h w) (G : Glob C s h w) (H : EnvRel s h w e a.tmps)
    (hc : callee o = none) {v : AV} {h' : Heap} (hv : opA C f e h o = some (v, h'))
    (hnext : ∀ s' w' u, Ext s h w s' h' w' → Rel s' h' w' → VR s' h' w' v u → next (a.put o.dst u) w') : o.wp P a w next Q := by
  obtain ⟨s', w', n, u, h1, h2, h3, h4, h5⟩ := op_sound K.ty K.glob R G H hv
  unfold Oper.wp
  rw [h1]
  rcases h2 with rfl | ⟨rfl, rfl⟩
  · exact hnext s' w' u h3 h4 h5
  · exact hnext s' w' undef h3 h4 h5

theorem callee_op {o : Oper} {g : Operand} {args : Array Operand} (hc : callee o = some (g, args)) : ∃ ct, o.op = .call { callee := .value g, args, argTypes := ct } := by
  unfold callee at hc
  split at hc
  · rename_i g' args' ct ho
    simp only [Option.some.injEq, Prod.mk.injEq] at hc
    obtain ⟨rfl, rfl⟩ := hc
    exact ⟨ct, ho⟩
  · cases hc

theorem opsF_cons (k f : Nat) (os : Array Oper) (o : Oper) (r : List Oper) (e : Env) (h : Heap) : opsF C (k + 1) f os (o :: r) e h = (wantA os e o).bind fun w => match w with
    | false => opsF C k f os r (e.putAt o.dst (.tup [])) h
    | true => match callee o with
      | none => (opA C f e h o).bind fun x => opsF C k f os r (e.putAt o.dst x.1) x.2
      | some ga => (mapO (evalA C e) ga.2.toList).bind fun vs => (evalA C e ga.1).bind fun gv => match gv with
        | .clo g caps => if (o.dst.map (C.quiet f)).getD false && !C.pure g then none else (callF C k g (vs ++ caps) h).bind fun x => match x.1 with
          | .ret v => opsF C k f os r (e.putAt o.dst v) x.2
          | .pan v => some (.pan v, e, x.2)
        | _ => none := by
  simp only [opsF, Option.bind_eq_bind]
  cases hw : wantA os e o with
  | none => rfl
  | some b =>
    simp only [Option.bind_some]
    cases b with
    | false => simp
    | true =>
      simp only [if_true]
      cases hc : callee o with
      | some ga =>
        obtain ⟨g, args⟩ := ga
        obtain ⟨ct, ho⟩ := callee_op hc
        simp only [ho]
        rfl
      | none =>
        split
        · rename_i g args ct ho
          simp [callee, ho] at hc
        · rfl

theorem callop_sound {k : Nat} (HC : CallsAt P C k) {N f : Nat} {Q : Exit → Act → World → Prop} {next : Act → World → Prop} {o : Oper} {e : Env} {a : Act} (R : Rel s h w) (G : Glob C s h w) (H : EnvRel s h w e a.tmps)
    {g : Operand} {args : Array Operand} (hc : callee o = some (g, args)) {vs : List AV} (hvs : mapO (evalA C e) args.toList = some vs) {g' : Nat} {caps : List AV} (hg : evalA C e g = some (.clo g' caps))
    {res : CRes} {h' : Heap} (hcall : callF C k g' (vs ++ caps) h = some (res, h'))
    (hret : ∀ v, res = .ret v → ∀ s' w' u, Ext s h w s' h' w' → Rel s' h' w' → VR s' h' w' v u → next (a.put o.dst u) w')
    (hpan : ∀ v, res = .pan v → ∀ s' w' u, Ext s h w s' h' w' → Rel s' h' w' → VR s' h' w' v u → Q (.panic [{ v := u, recovered := false }]) a w') : o.wp P a w next Q := by
  obtain ⟨ct, ho⟩ := callee_op hc
  obtain ⟨hk, hok⟩ := HC k (Nat.le_refl _) _ _ _ _ _ hcall
  have hgr := evalA_rel G H hg
  generalize hag : a.eval g = ag at hgr
  cases hgr with
  | clo _ _ us hl hr =>
    have hargs := (args_rel G H hvs).append (us := us.toList) ⟨by simpa using hl, fun i c hi => by
      have hlt : i < us.size := by rw [← hl]; exact (List.getElem?_eq_some_iff.1 hi).1
      refine ⟨us[i], by simp [hlt], ?_⟩
      have := hr i c hi
      simpa [hlt] using this⟩
    have hC := hok s w _ R G hargs
    unfold Oper.wp
    rw [run_call hk ho hag]
    rw [Oper.upon_enter]
    have harr : (args.toList.map a.eval ++ us.toList).toArray = args.map a.eval ++ us := by apply Array.ext'; simp
    rw [← harr]
    refine Calls.mono hC fun en w' hend => ?_
    obtain ⟨s', h1, h2, h3⟩ := hend
    cases res with
    | ret v =>
      cases en with
      | returned u => exact hret v rfl s' w' u h1 h2 h3
      | panicked chain => exact h3.elim
      | outgrown => exact h3.elim
    | pan v =>
      cases en with
      | returned u => exact h3.elim
      | panicked chain =>
        obtain ⟨u, rfl, hu⟩ := h3
        exact hpan v rfl s' w' u h1 h2 hu
      | outgrown => exact h3.elim

theorem oper_mono {o : Oper} {Q Q' : Exit → Act → World → Prop} {K K' : Act → World → Prop} (hq : ∀ ex a w, Q ex a w → Q' ex a w) (hk : ∀ a w, K a w → K' a w) {a : Act} {w : World} (H : o.wp P a w K Q) : o.wp P a w K' Q' := by
  unfold Oper.wp at *
  generalize (execOp a.eval o).run P w = r at *
  cases r with
  | ok n w' =>
    cases n <;> simp only [Oper.upon] at H ⊢ <;>
      first
        | exact hk _ _ H
        | exact Calls.mono H (fun e w'' he => by cases e <;> first | exact hk _ _ he | exact hq _ _ _ he | exact (let ⟨a, w, h⟩ := he; ⟨a, w, hq _ _ _ h⟩))
        | exact Rows.mono H (fun _ _ he => hk _ _ he)
        | exact hq _ _ _ H
        | exact H
  | halt x w' => cases x <;> simp only [Oper.upon] at H ⊢ <;> first | exact hq _ _ _ H | exact H

theorem wpOps_mono {ops : Array Oper} {Q Q' : Exit → Act → World → Prop} (hq : ∀ ex a w, Q ex a w → Q' ex a w) : ∀ (l : List Nat) (a : Act) (w : World), wpOps P ops Q l a w → wpOps P ops Q' l a w
  | [], a, w, H => hq _ _ _ H
  | i :: r, a, w, H => by
    simp only [wpOps] at H ⊢
    cases ho : ops[i]? with
    | none => simp only [ho] at H ⊢; exact wpOps_mono hq r a w H
    | some o =>
      simp only [ho] at H ⊢
      split
      · rename_i hw
        simp only [hw, if_true] at H
        rcases H with H | ⟨H1, a0, w0, H2⟩
        · exact .inl (oper_mono hq (fun a w => wpOps_mono hq r a w) H)
        · exact .inr ⟨H1, a0, w0, hq _ _ _ H2⟩
      · rename_i hw
        simp only [hw, if_false] at H
        exact wpOps_mono hq r _ w H

/-- Operations in the text's order. -/
theorem ops_sound {ord : Nat → Array Oper → Bool} (K : Ok P C ord) {N f : Nat} {ops : Array Oper} (hd : dstsOk N ops = true) :
    ∀ (k : Nat), CallsAt P C k → ∀ (l : List Oper) (is : List Nat), is.map (ops[·]?) = l.map some → ∀ (e : Env) (h : Heap) (out : Out) (e' : Env) (h' : Heap), opsF C k f ops l e h = some (out, e', h') →
    ∀ (s : Sim) (w : World) (a : Act), a.tmps.size = N → a.defers = [] → Rel s h w → Glob C s h w → EnvRel s h w e a.tmps → wpOps P ops (OutOk s h w N out e' h') is a w := by
  intro k
  induction k with
  | zero => intro _ l is _ e h out e' h' hf; simp [opsF] at hf
  | succ k ih =>
    intro HC l is hl e h out e' h' hf s w a hN hdf R G H
    have HC' : CallsAt P C k := fun k' hk => HC k' (by omega)
    cases l with
    | nil =>
      have : is = [] := by simpa using hl
      subst this
      simp only [opsF, Option.some.injEq, Prod.mk.injEq] at hf
      obtain ⟨rfl, rfl, rfl⟩ := hf
      exact ⟨s, Ext.refl _ _ _, R, hN, hdf, H⟩
    | cons o r =>
      cases is with
      | nil => simp at hl
      | cons i is =>
        simp only [List.map_cons, List.cons.injEq] at hl
        obtain ⟨ho, hl⟩ := hl
        rw [opsF_cons] at hf
        replace hf := Option.bind_eq_some_iff.1 hf
        obtain ⟨b, hw, hf⟩ := hf
        have hwant := want_rel hd hN H hw
        simp only [wpOps, ho, hwant]
        -- what is left, behind a step
        have rest : ∀ {e1 : Env} {h1 : Heap}, opsF C k f ops r e1 h1 = some (out, e', h') → ∀ s1 w1 a1, Ext s h w s1 h1 w1 → a1.tmps.size = N → a1.defers = [] → Rel s1 h1 w1 → EnvRel s1 h1 w1 e1 a1.tmps → wpOps P ops (OutOk s h w N out e' h') is a1 w1 := by
          intro e1 h1 hf1 s1 w1 a1 E hN1 hdf1 R1 H1
          have := ih HC' r is hl e1 h1 out e' h' hf1 s1 w1 a1 hN1 hdf1 R1 (G.ext R.apart E) H1
          exact wpOps_mono (fun ex a' w' hq => by
            obtain ⟨s', k1, k2, k3⟩ := hq
            exact ⟨s', E.trans k1, k2, k3⟩) is a1 w1 this
        have hput : ∀ {s1 : Sim} {h1 : Heap} {w1 : World} {v : AV} {u : Value}, Ext s h w s1 h1 w1 → VR s1 h1 w1 v u → EnvRel s1 h1 w1 (e.putAt o.dst v) (a.put o.dst u).tmps ∧ (a.put o.dst u).tmps.size = N ∧ (a.put o.dst u).defers = [] := by
          intro s1 h1 w1 v u E hv
          refine ⟨(H.ext R.apart E).put o.dst (fun t ht => by rw [hN]; exact dst_lt hd ho t ht) hv, ?_, ?_⟩
          · cases o.dst <;> simp [Act.put, hN]
          · cases o.dst <;> simp [Act.put, hdf]
        cases b with
        | false =>
          simp only [Bool.false_eq_true, if_false]
          have hu : VR s h w (.tup []) undef := .tup [] #[] rfl fun i c hi => by simp at hi
          obtain ⟨g1, g2, g3⟩ := hput (Ext.refl s h w) hu
          exact rest hf s w _ (Ext.refl _ _ _) g2 g3 R g1
        | true =>
          simp only [if_true]
          left
          cases hc : callee o with
          | none =>
            simp only [hc] at hf
            replace hf := Option.bind_eq_some_iff.1 hf
            obtain ⟨⟨v, h1⟩, hv, hf⟩ := hf
            refine oper_sound K HC' (i := i) (dst_lt hd ho) hN hdf R G H hc hv fun s1 w1 u E R1 hu => ?_
            obtain ⟨g1, g2, g3⟩ := hput E hu
            exact rest hf s1 w1 _ E g2 g3 R1 g1
          | some ga =>
            obtain ⟨g, args⟩ := ga
            simp only [hc] at hf
            replace hf := Option.bind_eq_some_iff.1 hf
            obtain ⟨vs, hvs, hf⟩ := hf
            replace hf := Option.bind_eq_some_iff.1 hf
            obtain ⟨gv, hgv, hf⟩ := hf
            cases gv <;> simp only [reduceCtorEq] at hf
            case clo g' caps =>
              split at hf
              · cases hf
              replace hf := Option.bind_eq_some_iff.1 hf
              obtain ⟨⟨res, h1⟩, hcall, hf⟩ := hf
              refine callop_sound HC' (N := N) (f := f) R G H hc hvs hgv hcall (fun v hres s1 w1 u E R1 hu => ?_) (fun v hres s1 w1 u E R1 hu => ?_)
              · subst hres
                obtain ⟨g1, g2, g3⟩ := hput E hu
                exact rest hf s1 w1 _ E g2 g3 R1 g1
              · subst hres
                simp only [Option.some.injEq, Prod.mk.injEq] at hf
                obtain ⟨rfl, rfl, rfl⟩ := hf
                exact ⟨s1, E, R1, hN, hdf, u, rfl, hu⟩
end
end Go.Rv
