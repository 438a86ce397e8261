/-
  Functions that defer a call which may recover: their calls, put together from runs under a told that knows no defer.
-/
import Derived.Test.YtiigpcapieeljaaGreatDoorRvIce
import Derived.RecoverIn
set_option linter.unusedSimpArgs false
set_option linter.unusedVariables false
namespace Go.Rv
noncomputable section

/-- Is the region of that number in there? -/
def hasReg (d : Nat) : Code → Bool
  | .region id _ _ => Nat.beq id d
  | .seq a b => hasReg d a || hasReg d b
  | .scope b => hasReg d b
  | _ => false

/-- A region whose last operation is a deferred call without arguments: the other ones, it, what is called. -/
def deferOf (ops : Array Oper) : Option (List Oper × Oper × Operand) :=
  match ops.toList.getLast? with
  | some o => match o.op, o.guard with
    | .defer { callee := .value g, args, .. }, none => if args.size == 0 then some (ops.toList.dropLast, o, g) else none
    | _, _ => none
  | none => none

/-- How a run ended, and which call was deferred. -/
abbrev DRes := Out × Env × Heap × Option AV

section
variable (C : Cfg)
def execD (f d : Nat) : Code → Env → Heap → Option DRes
  | .seq a b => fun e h => match hasReg d a with
    | true => (execD f d a e h).bind fun x => match x.1 with
      | .nrm => (exec C f b x.2.1 x.2.2.1).bind fun y => some (y.1, y.2.1, y.2.2, x.2.2.2)
      | _ => some x
    | false => (exec C f a e h).bind fun x => match x.1 with
      | .nrm => execD f d b x.2.1 x.2.2
      | _ => some (x.1, x.2.1, x.2.2, none)
  | .scope b => execD f d b
  | .region _ os false => fun e h => (deferOf os).bind fun q => (ops C f os q.1 e h).bind fun x => match x.1 with
    | .nrm => (evalA C x.2.1 q.2.2).bind fun gv => match gv with
      | .clo g caps => some (.nrm, x.2.1.putAt q.2.1.dst (.tup []), x.2.2, some (.clo g caps))
      | _ => none
    | _ => none
  | _ => fun _ _ => none

/-! ### The deferred call: its body begins with recover -/

/-- Operations one behind the other, no call of a function among them. -/
def flatOps (os : List Oper) : Bool := os.all fun o => (callee o).isNone

/-- Operations that read, or write, alone. -/
def plainOp (o : Oper) : Bool := match o.op with
  | .move _ | .assign _ | .load .. | .store .. | .fieldAddr .. => true
  | _ => false

/-- A body of regions without calls, and of branches. -/
def execS (g : Nat) : Code → Env → Heap → Option (Env × Heap)
  | .seq a b => fun e h => (execS g a e h).bind fun x => execS g b x.1 x.2
  | .cond c a b => fun e h => (evalA C e c).bind fun v => match v with
    | .bool true => execS g a e h
    | .bool false => execS g b e h
    | _ => none
  | .skip => fun e h => some (e, h)
  | .region _ os false => fun e h => match flatOps os.toList with
    | true => (ops C g os os.toList e h).bind fun x => match x.1 with
      | .nrm => some x.2
      | _ => none
    | false => none
  | .region _ os true => fun e h => match os.toList.all plainOp with
    | true => (ops C g os (sched os true) e h).bind fun x => match x.1 with
      | .nrm => some x.2
      | _ => none
    | false => none
  | _ => fun _ _ => none

def recOf : Code → Option (Nat × Array Oper × List Oper × Code)
  | .seq (.region _ os false) rest => match os.toList with
    | o :: r => match o.op, o.dst, o.guard with
      | .call { callee := .builtin .recover, .. }, some t, none => if flatOps r then some (t, os, r, rest) else none
      | _, _, _ => none
    | [] => none
  | _ => none

/-- The deferred call: behind a panic of that value, or behind none. -/
def runD (gv : AV) (pn : Option AV) (h : Heap) : Option Heap :=
  match gv with
  | .clo g caps => (C.fn g).bind fun fi => if caps.length != fi.params then none else
    (recOf fi.body).bind fun q => (ops C g q.2.1 q.2.2.1 (Env.put (caps.zipIdx.map fun (v, i) => (i, v)) q.1 (pn.getD .nilIface)) h).bind fun x => match x.1 with
      | .nrm => (execS C g q.2.2.2 x.2.1 x.2.2).bind fun y => (resultsA C y.2 y.1 fi.results).bind fun _ => some y.2
      | _ => none
  | _ => none

/-- A call of a function that defers. -/
def callD (f d : Nat) (args : List AV) (h : Heap) : Option (CRes × Heap) :=
  if !noLoop h then none else
  (C.fn f).bind fun fi => if args.length != fi.params then none else
  (execD C f d fi.body (args.zipIdx.map fun (v, i) => (i, v)) h).bind fun x => match x.2.2.2 with
    | none => (match x.1 with
      | .nrm | .ret => (resultsA C x.2.2.1 x.2.1 fi.results).bind fun vs => if noLoop x.2.2.1 then some (.ret (packA vs), x.2.2.1) else none
      | _ => none)
    | some gv => (match x.1 with
      | .nrm | .ret => (runD C gv none x.2.2.1).bind fun h2 => (resultsA C h2 x.2.1 fi.results).bind fun vs => if noLoop h2 then some (.ret (packA vs), h2) else none
      | .pan v => (runD C gv (some v) x.2.2.1).bind fun h2 => (resultsA C h2 x.2.1 fi.results).bind fun vs => if noLoop h2 then some (.ret (packA vs), h2) else none
      | _ => none)
end

/-! ### What it answers, the model's call comes to -/
section
variable {P : Program} {C : Cfg} {s : Sim} {h : Heap} {w : World}

theorem exec_limit {ord : Nat → Array Oper → Bool} (K : Ok P C ord) (hord : ∀ f os, ord f os = true → ordOk C f os = true) {f N : Nat} {c : Code} {e : Env} {h : Heap} {out : Out} {e' : Env} {h' : Heap} (hc : codeOk (ord f) N c = true) (hx : exec C f c e h = some (out, e', h')) {r : Option Nat} {B : Nat} {s : Sim} {w : World} {a : Act} (hN : a.tmps.size = N) (hdf : Dues B s w a.defers) (A : Around s h r) (R : Rel s h w) (G : GG C ord s h w) (H : EnvRel s h w e a.tmps) :
    c.wpIn (Fr r) 0 P (OutOk B s h w N out e' h') a w := by
  obtain ⟨k, hk⟩ := (exec_iff C).1 hx
  exact (exec_at K hord k (calls_at K hord k)).1 k (Nat.le_refl _) f N c e h out e' h' hc hk r B s w a hN hdf A R G H

theorem ops_limit {ord : Nat → Array Oper → Bool} (K : Ok P C ord) (hord : ∀ f os, ord f os = true → ordOk C f os = true) {N f : Nat} {os : Array Oper} (hd : dstsOk N os = true) {l : List Oper} {is : List Nat} (hl : is.map (os[·]?) = l.map some) {e : Env} {h : Heap} {out : Out} {e' : Env} {h' : Heap} (hx : ops C f os l e h = some (out, e', h')) {r : Option Nat} {B : Nat}
    {s : Sim} {w : World} {a : Act} (hN : a.tmps.size = N) (hdf : Dues B s w a.defers) (R : Rel s h w) (G : GG C ord s h w) (H : EnvRel s h w e a.tmps) : wpOpsIn (Fr r) 0 P os (OutOk B s h w N out e' h') is a w := by
  obtain ⟨k, hk⟩ := (ops_iff C).1 hx
  exact ops_sound K hd k (calls_at K hord k) l is hl e h out e' h' hk s w a hN hdf R G H

theorem oper_mono2 {F : Fence} {n : Nat} {o : Oper} {Q Q' : Exit → Act → World → Prop} {K K' : Act → World → Prop} (hq : ∀ ex a w, ex ≠ .normal → Q ex a w → Q' ex a w) (hk : ∀ a w, K a w → K' a w) {a : Act} {w : World} (H : o.wpIn F n P a w K Q) : o.wpIn F n P a w K' Q' := by
  unfold Oper.wpIn at *
  refine ⟨H.1, ?_⟩
  have H := H.2
  generalize (o.semAt F.round a.eval).run P w = r at *
  have lets : LetsOut Q → LetsOut Q' := fun ⟨a, w, h⟩ => ⟨a, w, hq _ _ _ (by simp) h⟩
  have pan : ∀ ch a w, Q (.panic ch) a w → Q' (.panic ch) a w := fun ch a w h => hq _ _ _ (by simp) h
  cases r with
  | ok n w' =>
    cases n <;> simp only [Oper.uponIn] at H ⊢ <;>
      first
        | exact hk _ _ H
        | exact ⟨H.1, CallsIn.mono H.2 (fun e w'' he => by cases e <;> first | exact hk _ _ he | exact pan _ _ _ he | exact lets he)⟩
        | exact ⟨H.1, RowsIn.mono H.2 (fun _ _ he => hk _ _ he)⟩
        | exact ⟨H.1, RoundIn.mono H.2 (fun e w'' he => by cases e <;> first | exact hk _ _ he | exact pan _ _ _ he | exact lets he)⟩
        | exact pan _ _ _ H
        | exact H
  | halt x w' => cases x <;> simp only [Oper.uponIn] at H ⊢ <;> first | exact pan _ _ _ H | exact H

theorem wpOps_append {F : Fence} {n : Nat} {os : Array Oper} {Q1 Q : Exit → Act → World → Prop} {l2 : List Nat} (h2 : ∀ a w, Q1 .normal a w → wpOpsIn F n P os Q l2 a w) (h3 : ∀ ex a w, ex ≠ .normal → Q1 ex a w → Q ex a w) : ∀ (l1 : List Nat) (a : Act) (w : World), wpOpsIn F n P os Q1 l1 a w → wpOpsIn F n P os Q (l1 ++ l2) a w
  | [], a, w, H => h2 a w H
  | i :: r, a, w, H => by
    simp only [List.cons_append, wpOpsIn] at H ⊢
    cases ho : os[i]? with
    | none => simp only [ho] at H ⊢; exact wpOps_append h2 h3 r a w H
    | some o =>
      simp only [ho] at H ⊢
      split
      · rename_i hw
        simp only [hw, if_true] at H
        exact oper_mono2 h3 (fun a w => wpOps_append h2 h3 r a w) H
      · rename_i hw
        simp only [hw, if_false] at H
        exact ⟨H.1, wpOps_append h2 h3 r _ w H.2⟩

theorem wp_defer {o : Oper} {g : Operand} {args : Array Operand} {ct : Array TypeId} {g' : Nat} {us : Array Value} {a : Act} {next : Act → World → Prop} {Q : Exit → Act → World → Prop} (ho : o.op = .defer { callee := .value g, args, argTypes := ct }) (hs : args.size = 0) (hg : a.eval g = .func (.func g') #[] us)
    (hn : next ({ a with defers := { target := .fn (.func g') us, args := #[] } :: a.defers }.put o.dst undef) w) : o.wpIn (Fr none) 0 P a w next Q := by
  refine ⟨fun _ _ => trivial, ?_⟩
  have hr : (Fr none).round = none := rfl
  have he : args = #[] := by simpa using hs
  rw [hr, Oper.semAt_none]
  have : (execOp a.eval o).run P w = .ok (.defer { target := .fn (.func g') us, args := #[] }) w := by
    unfold execOp
    simp only [ho, he, resolve, hg, Deferred.ofValue, Sem.run_bind, Sem.run_pure, Result.andThen_ok, Array.map_empty, Array.append_empty]
  rw [this]
  exact hn

def tl (s : Sim) (d : Deferred) : Sim := s.fix { s.good with tail := [d] }
theorem tl_rel (R : Rel s h w) (d : Deferred) : Rel (tl s d) h w := R.fix _ rfl fun _ _ _ _ _ _ hx => hx
theorem tl_gg {ord : Nat → Array Oper → Bool} (G : GG C ord s h w) (d : Deferred) : GG C ord (tl s d) h w := ⟨fun g v hg => (G.g g v hg).regood _, G.good⟩

/-- How a run ended that may have deferred a call. -/
def OutD (B : Nat) (s : Sim) (h : Heap) (w : World) (N : Nat) (x : DRes) (ex : Exit) (a' : Act) (w' : World) : Prop :=
  match x.2.2.2 with
  | none => OutOk B s h w N x.1 x.2.1 x.2.2.1 ex a' w'
  | some gv => ∃ (s1 : Sim) (h1 : Heap) (w1 : World) (g : Nat) (caps : List AV) (us : Array Value), gv = .clo g caps ∧ Ext s h w s1 h1 w1 ∧ Rel s1 h1 w1 ∧ VR s1 h1 w1 gv (.func (.func g) #[] us) ∧
      OutOk B (tl s1 { target := .fn (.func g) us, args := #[] }) h1 w1 N x.1 x.2.1 x.2.2.1 ex a' w'

theorem OutD.noGoto {B N : Nat} {x : DRes} {ex : Exit} {a' : Act} {w' : World} (H : OutD B s h w N x ex a' w') : Exit.noGoto (OutD B s h w N x) ex a' w' := by
  cases ex <;> first | exact H | skip
  unfold OutD at H
  cases hg : x.2.2.2 with
  | none => rw [hg] at H; exact H.noGoto
  | some gv =>
    rw [hg] at H
    obtain ⟨s1, h1, w1, g, caps, us, k1, k2, k3, k4, k5⟩ := H
    exact k5.noGoto

theorem outD_other {B N : Nat} {x : DRes} {next : Act → World → Prop} {ex : Exit} {a : Act} {w' : World} (hn : x.1 ≠ .nrm) (H : OutD B s h w N x ex a w') : Exit.then next (OutD B s h w N x) ex a w' := by
  cases ex <;> first | exact H | skip
  unfold OutD at H
  exfalso
  cases hg : x.2.2.2 with
  | none =>
    rw [hg] at H
    obtain ⟨s', k1, k2, k3, k4, k5⟩ := H
    generalize x.1 = out at hn k5
    cases out <;> first | exact absurd rfl hn | exact k5.elim
  | some gv =>
    rw [hg] at H
    obtain ⟨_, _, _, _, _, _, _, _, _, _, s', k1, k2, k3, k4, k5⟩ := H
    generalize x.1 = out at hn k5
    cases out <;> first | exact absurd rfl hn | exact k5.elim

theorem range_split (n : Nat) : List.range (n + 1) = List.range n ++ [n] := List.range_succ

theorem execD_sound {ord : Nat → Array Oper → Bool} (K : Ok P C ord) (hord : ∀ f os, ord f os = true → ordOk C f os = true) {f d N : Nat} : ∀ (c : Code) (e : Env) (h : Heap) (x : DRes), codeOk (ord f) N c = true → execD C f d c e h = some x →
    ∀ (B : Nat) (s : Sim) (w : World) (a : Act), a.tmps.size = N → s.good.tail = [] → Dues B s w a.defers → Rel s h w → GG C ord s h w → EnvRel s h w e a.tmps → c.wpIn (Fr none) 0 P (OutD B s h w N x) a w := by
  intro c
  induction c with
  | seq b c ihb ihc =>
    intro e h x hok hx B s w a hN ht hdf R G H
    simp only [codeOk, Bool.and_eq_true] at hok
    simp only [execD] at hx
    cases hr : hasReg d b with
    | true =>
      rw [hr] at hx
      obtain ⟨y, hy, hx⟩ := Option.bind_eq_some_iff.1 hx
      have hb := ihb e h y hok.1 hy B s w a hN ht hdf R G H
      refine wpIn_seq (wpIn_mono hb fun ex a1 w1 hq => ?_)
      obtain ⟨o1, e1, h1, g1⟩ := y
      cases o1 with
      | nrm =>
        simp only at hx
        obtain ⟨⟨o2, e2, h2⟩, hz, hx⟩ := Option.bind_eq_some_iff.1 hx
        simp only [Option.some.injEq] at hx
        subst hx
        unfold OutD at hq
        cases g1 with
        | none =>
          exact out_nrm hq fun s1 a1 w1 E1 R1 hN1 hdf1 H1 => wpIn_mono (exec_limit K hord hok.2 hz hN1 hdf1 trivial R1 (G.ext R.apart E1) H1) fun _ _ _ hq => hq.then E1
        | some gv =>
          obtain ⟨s1, h1', w1', g, caps, us, k1, k2, k3, k4, k5⟩ := hq
          refine out_nrm k5 fun s2 a2 w2 E2 R2 hN2 hdf2 H2 => ?_
          have G1 := tl_gg (G.ext R.apart k2) { target := .fn (.func g) us, args := #[] }
          have G2 := G1.ext (tl_rel k3 _).apart E2
          exact wpIn_mono (exec_limit K hord hok.2 hz hN2 hdf2 trivial R2 G2 H2) fun _ _ _ hq => ⟨s1, h1', w1', g, caps, us, k1, k2, k3, k4, hq.then E2⟩
      | _ =>
        simp only [Option.some.injEq] at hx
        subst hx
        exact outD_other (by simp) hq
    | false =>
      rw [hr] at hx
      obtain ⟨⟨o1, e1, h1⟩, hy, hx⟩ := Option.bind_eq_some_iff.1 hx
      have hb := exec_limit K hord hok.1 hy (r := none) (B := B) hN hdf trivial R G H
      refine wpIn_seq (wpIn_mono hb fun ex a1 w1 hq => ?_)
      cases o1 with
      | nrm =>
        simp only at hx
        refine out_nrm hq fun s1 a1 w1 E1 R1 hN1 hdf1 H1 => wpIn_mono (ihc e1 h1 x hok.2 hx B s1 w1 a1 hN1 (by rw [E1.good]; exact ht) hdf1 R1 (G.ext R.apart E1) H1) fun ex a2 w2 hq => ?_
        unfold OutD at hq ⊢
        cases hg : x.2.2.2 with
        | none => rw [hg] at hq; exact hq.then E1
        | some gv =>
          rw [hg] at hq
          obtain ⟨s2, h2, w2', g, caps, us, k1, k2, k3, k4, k5⟩ := hq
          exact ⟨s2, h2, w2', g, caps, us, k1, E1.trans k2, k3, k4, k5⟩
      | _ =>
        simp only [Option.some.injEq] at hx
        subst hx
        exact outD_other (x := (_, e1, h1, none)) (by simp) hq
  | scope b ih =>
    intro e h x hok hx B s w a hN ht hdf R G H
    simp only [codeOk] at hok
    exact wpIn_scope_straight (wpIn_mono (ih e h x hok hx B s w a hN ht hdf R G H) fun _ _ _ hq => hq.noGoto)
  | region id os draw =>
    intro e h x hok hx B s w a hN ht hdf R G H
    cases draw with
    | true => cases hx
    | false =>
      simp only [codeOk, Bool.and_eq_true] at hok
      simp only [execD] at hx
      obtain ⟨q, hq, hx⟩ := Option.bind_eq_some_iff.1 hx
      obtain ⟨⟨o1, e1, h1⟩, hy, hx⟩ := Option.bind_eq_some_iff.1 hx
      unfold deferOf at hq
      split at hq <;> first | (cases hq; done) | skip
      rename_i o hlast
      split at hq <;> first | (cases hq; done) | skip
      rename_i g args ct hop hgd
      split at hq <;> first | (cases hq; done) | skip
      rename_i has
      injection hq with hq
      subst hq
      cases o1 <;> first | (cases hx; done) | skip
      simp only at hx hy
      obtain ⟨gv, hgv, hx⟩ := Option.bind_eq_some_iff.1 hx
      cases gv <;> first | (cases hx; done) | skip
      rename_i g' caps
      simp only [Option.some.injEq] at hx
      subst hx
      obtain ⟨n, hn⟩ : ∃ n, os.size = n + 1 := by
        cases hsz : os.size with
        | zero => have : os = #[] := by simpa using hsz
                  subst this; simp at hlast
        | succ n => exact ⟨n, rfl⟩
      have hlo : os[n]? = some o := by
        rw [← Array.getElem?_toList]
        rw [List.getLast?_eq_getElem?] at hlast
        simpa [hn] using hlast
      have hmap : (List.range n).map (os[·]?) = os.toList.dropLast.map some := by
        have h0 := map_range os
        rw [hn, range_split] at h0
        have h1 := congrArg List.dropLast h0
        rw [List.map_append, List.map_cons, List.map_nil, List.dropLast_concat] at h1
        rw [h1]
        simp [List.map_dropLast]
      have hb := ops_limit K hord hok.1 hmap hy (r := none) (B := B) hN hdf R G H
      refine wpIn_region ?_
      rw [hn, range_split]
      refine wpOps_append (fun a1 w1 hq1 => ?_) (fun ex a1 w1 hne hq1 => ?_) _ _ _ hb
      · obtain ⟨s1, k1, k2, k3, k4, k5⟩ := hq1
        simp only [wpOpsIn, hlo]
        have hw : Region.wanted o (yielded os a1.tmps) = true := by unfold Region.wanted; rw [hgd]
        simp only [hw, if_true]
        have hgr := evalA_rel (G.ext R.apart k1).g k5 hgv
        generalize hag : a1.eval g = ag at hgr
        have hgr0 := hgr
        cases hgr with
        | clo _ _ us hl hr =>
        refine wp_defer (w := w1) hop (by simpa using has) hag ?_
        refine ⟨s1, h1, w1, g', caps, us, rfl, k1, k2, hgr0, ?_⟩
        have hdst : ∀ t, o.dst = some t → t < a1.tmps.size := fun t ht => by rw [k3]; exact dst_lt hok.1 hlo t ht
        have hu : VR s1 h1 w1 (.tup []) undef := .tup [] #[] rfl fun i c hi => by simp at hi
        have henv : EnvRel s1 h1 w1 (e1.putAt o.dst (.tup [])) (Act.put a1 o.dst undef).tmps := EnvRel.put k5 o.dst hdst hu
        refine ⟨tl s1 _, Ext.refl _ _ _, tl_rel k2 _, ?_, ?_, ?_⟩
        · cases o.dst <;> simp [Act.put, k3]
        · have hdf1 : Dues B s1 w1 a1.defers := k4
          have : Dues B (tl s1 { target := .fn (.func g') us, args := #[] }) w1 ({ target := .fn (.func g') us, args := #[] } :: a1.defers) := by
            refine ⟨hdf1.1, .inr ⟨fun b hb => by simp at hb, [], rfl, ?_⟩⟩
            have hm : MarksT B s1 w1 s1.good.tail a1.defers := hdf1.2
            rw [show s1.good.tail = [] from by rw [k1.good]; exact ht] at hm
            exact MarksT.fix _ hm
          cases o.dst <;> simpa [Act.put] using this
        · show EnvRel _ _ _ _ _
          have he : (Act.put { tmps := a1.tmps, defers := { target := .fn (.func g') us, args := #[] } :: a1.defers } o.dst undef).tmps = (Act.put a1 o.dst undef).tmps := by cases o.dst <;> rfl
          rw [he]
          exact fun t => (henv t).regood _
      · obtain ⟨s1, k1, k2, k3, k4, k5⟩ := hq1
        cases ex <;> first | exact absurd rfl hne | exact k5.elim
  | _ =>
    intro e h x hok hx
    cases hx

/-! ### The deferred call -/
theorem evalA_env {e : Env} {a a' : Act} (h : a.tmps = a'.tmps) (x : Operand) : a.eval x = a'.eval x := by
  unfold Act.eval
  rw [h]

/-- Operations without calls, where the stack is a part of the state. -/
theorem opsS_sound {ord : Nat → Array Oper → Bool} (K : Ok P C ord) {g N : Nat} {os : Array Oper} (hd : dstsOk N os = true) : ∀ (l : List Oper) (is : List Nat), is.map (os[·]?) = l.map some → flatOps l = true → ∀ (e : Env) (h : Heap) (out : Out) (e' : Env) (h' : Heap), ops C g os l e h = some (out, e', h') →
    ∀ (s : Sim) (w : World) (a : Act) (cs : List Frame) (Q : Exit → Act → List Frame → World → Prop), a.tmps.size = N → Rel s h w → GG C ord s h w → EnvRel s h w e a.tmps →
    (out = .nrm → ∀ s' w' a', Ext s h w s' h' w' → Rel s' h' w' → a'.tmps.size = N → a'.defers = a.defers → EnvRel s' h' w' e' a'.tmps → Q .normal a' cs w') → out = .nrm → wpOpsSIn (Fr none) 0 P os Q is a cs w := by
  intro l
  induction l with
  | nil =>
    intro is hl _ e h out e' h' hx s w a cs Q hN R G H hq ho
    have : is = [] := by simpa using hl
    subst this
    rw [ops_nil] at hx
    simp only [Option.some.injEq, Prod.mk.injEq] at hx
    obtain ⟨rfl, rfl, rfl⟩ := hx
    exact hq rfl s w a (Ext.refl _ _ _) R hN rfl H
  | cons o l ih =>
    intro is hl hf e h out e' h' hx s w a cs Q hN R G H hq ho
    cases is with
    | nil => simp at hl
    | cons i is =>
      simp only [List.map_cons, List.cons.injEq] at hl
      obtain ⟨hi, hl⟩ := hl
      simp only [flatOps, List.all_cons, Bool.and_eq_true] at hf
      obtain ⟨hf1, hf2⟩ := hf
      have hc : callee o = none := by simpa using hf1
      rw [ops_cons] at hx
      obtain ⟨b, hw, hx⟩ := Option.bind_eq_some_iff.1 hx
      have hwant := want_rel hd hN H hw
      simp only [wpOpsSIn, hi, hwant]
      refine ⟨fun _ _ => trivial, ?_⟩
      have rest : ∀ {e1 : Env} {h1 : Heap}, ops C g os l e1 h1 = some (out, e', h') → ∀ s1 w1 a1, Ext s h w s1 h1 w1 → a1.tmps.size = N → a1.defers = a.defers → Rel s1 h1 w1 → EnvRel s1 h1 w1 e1 a1.tmps → wpOpsSIn (Fr none) 0 P os Q is a1 cs w1 := by
        intro e1 h1 hx1 s1 w1 a1 E hN1 hdf1 R1 H1
        exact ih is hl hf2 e1 h1 out e' h' hx1 s1 w1 a1 cs Q hN1 R1 (G.ext R.apart E) H1 (fun ho s' w' a' E' R' hN' hd' H' => hq ho s' w' a' (E.trans E') R' hN' (hd'.trans hdf1) H') ho
      have hput : ∀ {s1 : Sim} {h1 : Heap} {w1 : World} {v : AV} {u : Value}, Ext s h w s1 h1 w1 → VR s1 h1 w1 v u → EnvRel s1 h1 w1 (e.putAt o.dst v) (a.put o.dst u).tmps ∧ (a.put o.dst u).tmps.size = N ∧ (a.put o.dst u).defers = a.defers := by
        intro s1 h1 w1 v u E hv
        refine ⟨(H.ext R.apart E).put o.dst (fun t ht => by rw [hN]; exact dst_lt hd hi t ht) hv, ?_, ?_⟩
        · cases o.dst <;> simp [Act.put, hN]
        · cases o.dst <;> simp [Act.put]
      cases b with
      | false =>
        simp only [Bool.false_eq_true, if_false]
        have hu : VR s h w (.tup []) undef := .tup [] #[] rfl fun i c hi => by simp at hi
        obtain ⟨g1, g2, g3⟩ := hput (Ext.refl s h w) hu
        exact rest hx s w _ (Ext.refl _ _ _) g2 g3 R g1
      | true =>
        simp only [if_true, hc] at hx ⊢
        cases hp : panO C e o with
        | some v =>
          simp only [hp, Option.some.injEq, Prod.mk.injEq] at hx
          obtain ⟨rfl, _⟩ := hx
          cases ho
        | none =>
        simp only [hp] at hx
        obtain ⟨⟨v, h1⟩, hv, hx⟩ := Option.bind_eq_some_iff.1 hx
        split at hx <;> first | (cases hx; done) | skip
        obtain ⟨s1, w1, n, u, k1, k2, k3, k4, k5⟩ := op_sound K.ty K.glob R G.g H hv
        rw [k1]
        obtain ⟨g1, g2, g3⟩ := hput k3 k5
        rcases k2 with rfl | ⟨rfl, rfl⟩
        · exact rest hx s1 w1 _ k3 g2 g3 k4 g1
        · exact rest hx s1 w1 _ k3 g2 g3 k4 g1

/-! ### Drawn regions of a deferred call -/
theorem value_ok {α : Type} {s : Sem α} {f : α → Next} {w w' : World} {x : Next} (h : (s >>= fun v => pure (f v)).run P w = .ok x w') : ∃ v, x = f v := by
  rw [Sem.run_bind] at h
  cases hs : s.run P w with
  | ok v w1 =>
    rw [hs] at h
    simp only [Result.andThen, Sem.run_pure, Result.ok.injEq] at h
    exact ⟨v, h.1.symm⟩
  | halt e w1 =>
    rw [hs] at h
    cases h
theorem plain_next {o : Oper} (hp : plainOp o = true) (ρ : Operand → Value) {w w' : World} {x : Next} (h : (execOp ρ o).run P w = .ok x w') : (∃ v, x = .value v) ∨ x = .skip := by
  unfold plainOp at hp
  split at hp <;> first | (cases hp; done) | skip
  all_goals
    rename_i ho
    unfold execOp at h
    rw [ho] at h
    simp only at h
  · simp only [Sem.run_pure, Result.ok.injEq] at h; exact .inl ⟨_, h.1.symm⟩
  · simp only [Sem.run_pure, Result.ok.injEq] at h; exact .inl ⟨_, h.1.symm⟩
  · exact .inl (value_ok (f := Next.value) h)
  · exact .inr (let ⟨_, hv⟩ := value_ok (f := fun _ => Next.skip) h; hv)
  · exact .inl (value_ok (f := Next.value) h)
theorem put_defers (a : Act) (d : Option Nat) (v : Value) : (a.put d v).defers = a.defers := by cases d <;> rfl
theorem plain_wp {o : Oper} (hp : plainOp o = true) {a : Act} {w : World} {K K' : Act → World → Prop} {Q Q' : Exit → Act → World → Prop} (hK : ∀ a' w', a'.defers = a.defers → K a' w' → K' a' w') (hQ : ∀ c a' w', Q (.panic c) a' w' → Q' (.panic c) a' w')
    (h : o.wpIn (Fr none) 0 P a w K Q) : o.wpIn (Fr none) 0 P a w K' Q' := by
  unfold Oper.wpIn at *
  refine ⟨h.1, ?_⟩
  have h2 := h.2
  have hn : ∀ x w', (o.semAt (Fr none).round a.eval).run P w = .ok x w' → (∃ v, x = .value v) ∨ x = .skip := fun x w' hx => plain_next hp a.eval (by
    rw [Oper.semAt_eq _ _ _ (by intro c hc; unfold plainOp at hp; rw [hc] at hp; cases hp)] at hx; exact hx)
  generalize (o.semAt (Fr none).round a.eval).run P w = r at h2 hn ⊢
  cases r with
  | ok x w' =>
    rcases hn x w' rfl with ⟨v, rfl⟩ | rfl
    · exact hK _ _ (put_defers _ _ _) h2
    · exact hK _ _ (put_defers _ _ _) h2
  | halt x w' =>
    cases x <;> simp only [Oper.uponIn] at h2 ⊢ <;> first | exact hQ _ _ _ h2 | exact h2
theorem any_defers {os : Array Oper} (hp : os.toList.all plainOp = true) {Q : Exit → Act → World → Prop} {d : List Deferred} : ∀ (fuel : Nat) (listed : Array Bool) (a : Act) (w : World), a.defers = d →
    wpAnyIn (Fr none) 0 P .any os Q fuel listed a w → wpAnyIn (Fr none) 0 P .any os (fun ex a' w' => Q ex a' w' ∧ (ex = .normal → a'.defers = d)) fuel listed a w := by
  intro fuel
  induction fuel with
  | zero => intro listed a w hd h; exact ⟨h.1, h.2, fun _ => hd⟩
  | succ fuel ih =>
    intro listed a w hd h
    refine ⟨fun hr => ⟨h.1 hr, fun _ => hd⟩, fun i hi => ?_⟩
    have h2 := h.2 i hi
    unfold wpOpIn at h2 ⊢
    cases ho : os[i]? with
    | none => rw [ho] at h2; exact ih _ _ _ hd h2
    | some o =>
      rw [ho] at h2
      simp only at h2 ⊢
      have hpo : plainOp o = true := by
        have : o ∈ os.toList := by
          rw [← Array.getElem?_toList] at ho
          exact List.mem_of_getElem? ho
        exact List.all_eq_true.1 hp o this
      split
      · rename_i hw
        rw [if_pos hw] at h2
        exact plain_wp hpo (fun a' w' hd' hk => ih _ _ _ (hd'.trans hd) hk) (fun c a' w' hq => ⟨hq, fun hc => by cases hc⟩) h2
      · rename_i hw
        rw [if_neg hw] at h2
        exact ⟨h2.1, ih _ _ _ ((put_defers _ _ _).trans hd) h2.2⟩
theorem draw_flat {ord : Nat → Array Oper → Bool} (K : Ok P C ord) (hord : ∀ f os, ord f os = true → ordOk C f os = true) {g N : Nat} {id : Nat} {os : Array Oper} (hd : dstsOk N os = true) (ho : ordOk C g os = true) (hp : os.toList.all plainOp = true) {e : Env} {h : Heap} {e' : Env} {h' : Heap} (hx : ops C g os (sched os true) e h = some (.nrm, e', h'))
    {s : Sim} {w : World} {a : Act} {cs : List Frame} {Q : Exit → Act → List Frame → World → Prop} (hN : a.tmps.size = N) (ha : a.defers = []) (R : Rel s h w) (G : GG C ord s h w) (H : EnvRel s h w e a.tmps)
    (hq : ∀ s' w' a', Ext s h w s' h' w' → Rel s' h' w' → a'.tmps.size = N → a'.defers = [] → EnvRel s' h' w' e' a'.tmps → Q .normal a' cs w') : (Code.region id os true).wpSIn (Fr none) 0 P Q a cs w := by
  obtain ⟨k, hk⟩ := (ops_iff C).1 hx
  have R0 : Rel (s.fix { s.good with tail := [] }) h w := R.fix _ rfl fun _ _ _ _ _ _ hx => hx
  have G0 : GG C ord (s.fix { s.good with tail := [] }) h w := ⟨fun g v hg => (G.g g v hg).regood _, G.good⟩
  have H0 : EnvRel (s.fix { s.good with tail := [] }) h w e a.tmps := fun t => (H t).regood _
  have E := Ext.draw (s.fix { s.good with tail := [] }) h w (w.drawn + 1)
  have D0 : Dues 0 (s.fix { s.good with tail := [] }) w a.defers := by rw [ha]; exact ⟨Nat.zero_le _, Marks.nil rfl⟩
  have hb := draw_sound K hd ho (calls_at K hord k) (r0 := none) (B := 0) hk hN (D0.ext0 E.toExt0) (R0.draw (w.drawn + 1)) (G0.ext R0.apart E) (H0.ext R0.apart E)
  refine wpSIn_of_wpIn rfl (wpIn_mono (wpIn_region_any K.mixed (any_defers hp _ _ _ _ ha hb)) fun ex a1 w1 hq1 => ?_)
  obtain ⟨⟨s1, k1, k2, k3, _, k5⟩, hd1⟩ := hq1
  cases ex <;> first | exact k5.elim | skip
  have E1 := E.trans k1
  have Ef : Ext s h w (s1.fix s.good) h' w1 := Ext.fix (s := s) (g := { s.good with tail := [] }) E1
  have hgood : s1.good = { s.good with tail := [] } := by rw [E1.good]; rfl
  exact hq (s1.fix s.good) w1 a1 Ef (k2.fix s.good (by rw [hgood]) (fun o b es _ _ x hx => by rw [hgood] at hx; exact hx)) k3 (hd1 rfl) (fun t => (k5 t).regood _)

theorem execS_sound {ord : Nat → Array Oper → Bool} (K : Ok P C ord) (hord : ∀ f os, ord f os = true → ordOk C f os = true) {g N : Nat} : ∀ (c : Code) (e : Env) (h : Heap) (e' : Env) (h' : Heap), codeOk (ord g) N c = true → execS C g c e h = some (e', h') →
    ∀ (s : Sim) (w : World) (a : Act) (cs : List Frame) (Q : Exit → Act → List Frame → World → Prop), a.tmps.size = N → a.defers = [] → Rel s h w → GG C ord s h w → EnvRel s h w e a.tmps →
    (∀ s' w' a', Ext s h w s' h' w' → Rel s' h' w' → a'.tmps.size = N → a'.defers = [] → EnvRel s' h' w' e' a'.tmps → Q .normal a' cs w') → c.wpSIn (Fr none) 0 P Q a cs w := by
  intro c
  induction c with
  | seq x y ihx ihy =>
    intro e h e' h' hok hx s w a cs Q hN ha R G H hq
    simp only [codeOk, Bool.and_eq_true] at hok
    simp only [execS] at hx
    obtain ⟨⟨e1, h1⟩, h1x, hx⟩ := Option.bind_eq_some_iff.1 hx
    refine wpSIn_seq (ihx e h e1 h1 hok.1 h1x s w a cs _ hN ha R G H fun s1 w1 a1 E1 R1 hN1 hd1 H1 => ?_)
    exact ihy e1 h1 e' h' hok.2 hx s1 w1 a1 cs _ hN1 hd1 R1 (G.ext R.apart E1) H1 fun s2 w2 a2 E2 R2 hN2 hd2 H2 => hq s2 w2 a2 (E1.trans E2) R2 hN2 hd2 H2
  | cond x b c ihb ihc =>
    intro e h e' h' hok hx s w a cs Q hN ha R G H hq
    simp only [codeOk, Bool.and_eq_true] at hok
    simp only [execS] at hx
    obtain ⟨v, hv, hx⟩ := Option.bind_eq_some_iff.1 hx
    have hvr := evalA_rel G.g H hv
    split at hx <;> first | (cases hx; done) | skip
    all_goals
      generalize hae : a.eval x = u at hvr
      cases hvr
      refine wpSIn_cond hae ?_
    · exact ihb e h e' h' hok.1 hx s w a cs Q hN ha R G H hq
    · exact ihc e h e' h' hok.2 hx s w a cs Q hN ha R G H hq
  | skip =>
    intro e h e' h' hok hx s w a cs Q hN ha R G H hq
    simp only [execS, Option.some.injEq, Prod.mk.injEq] at hx
    obtain ⟨rfl, rfl⟩ := hx
    exact wpSIn_of_wpIn rfl (wpIn_skip (hq s w a (Ext.refl _ _ _) R hN ha H))
  | region id os draw =>
    intro e h e' h' hok hx s w a cs Q hN ha R G H hq
    cases draw with
    | true =>
      simp only [codeOk, Bool.and_eq_true] at hok
      simp only [execS] at hx
      cases hf : os.toList.all plainOp with
      | false => rw [hf] at hx; cases hx
      | true =>
        rw [hf] at hx
        obtain ⟨⟨o1, e1, h1⟩, hy, hx⟩ := Option.bind_eq_some_iff.1 hx
        cases o1 <;> first | (cases hx; done) | skip
        simp only [Option.some.injEq, Prod.mk.injEq] at hx
        obtain ⟨rfl, rfl⟩ := hx
        exact draw_flat K hord hok.1 (hord g os (by simpa using hok.2)) hf hy hN ha R G H hq
    | false =>
      simp only [codeOk, Bool.and_eq_true] at hok
      simp only [execS] at hx
      cases hf : flatOps os.toList with
      | false => rw [hf] at hx; cases hx
      | true =>
        rw [hf] at hx
        obtain ⟨⟨o1, e1, h1⟩, hy, hx⟩ := Option.bind_eq_some_iff.1 hx
        cases o1 <;> first | (cases hx; done) | skip
        simp only [Option.some.injEq, Prod.mk.injEq] at hx
        obtain ⟨rfl, rfl⟩ := hx
        exact wpSIn_region (opsS_sound K hok.1 os.toList (List.range os.size) (map_range os) hf e h .nrm _ _ hy s w a cs Q hN R G H (fun _ s' w' a' E' R' hN' hd' H' => hq s' w' a' E' R' hN' (hd'.trans ha) H') rfl)
  | _ =>
    intro e h e' h' hok hx
    cases hx

/-- In what state a frame is that runs its deferred calls: behind a panic, or not. -/
inductive Mode (s : Sim) (h : Heap) (w : World) : Option AV → FrameMode → Prop
  | calm : Mode s h w none .returning
  | pan (v : AV) (u : Value) : VR s h w v u → Mode s h w (some v) (.panicking [{ v := u, recovered := false }])

theorem runD_sound {ord : Nat → Array Oper → Bool} (K : Ok P C ord) (hord : ∀ f os, ord f os = true → ordOk C f os = true) {g : Nat} {caps : List AV} {pn : Option AV} {h h2 : Heap} (hx : runD C (.clo g caps) pn h = some h2) {s : Sim} {w : World} {us : Array Value} (R : Rel s h w) (G : GG C ord s h w) (H : VRs s h w caps us.toList) {u : FrameMode} (M : Mode s h w pn u) :
    CallsDIn (Fr none) 0 P g us u w (fun e u' w' => (∃ v, e = .returned v) ∧ settle u' = .returning ∧ ∃ s', Ext s h w s' h2 w' ∧ Rel s' h2 w') ∧ ∃ fn c, P.funcs[g]? = some fn ∧ fn.body = some c ∧ (fn.name == "runtime.NumGoroutine") = false := by
  simp only [runD] at hx
  obtain ⟨fi, hfi, hx⟩ := Option.bind_eq_some_iff.1 hx
  obtain ⟨fn, f1, f2, f3, f4, f5, f6⟩ := K.fn g fi hfi
  split at hx <;> first | (cases hx; done) | skip
  rename_i hlen
  have hlen : caps.length = fi.params := by simpa using hlen
  obtain ⟨q, hq, hx⟩ := Option.bind_eq_some_iff.1 hx
  obtain ⟨⟨o1, e1, h1⟩, hy, hx⟩ := Option.bind_eq_some_iff.1 hx
  cases o1 <;> first | (cases hx; done) | skip
  simp only at hx hy
  obtain ⟨⟨e2, h2'⟩, hz, hx⟩ := Option.bind_eq_some_iff.1 hx
  obtain ⟨vs, hvs, hx⟩ := Option.bind_eq_some_iff.1 hx
  simp only [Option.some.injEq] at hx
  subst hx
  refine ⟨?_, fn, fi.body, f1, f2, f4⟩
  unfold recOf at hq
  split at hq <;> first | (cases hq; done) | skip
  rename_i id os rest hbody
  split at hq <;> first | (cases hq; done) | skip
  rename_i o r hos
  split at hq <;> first | (cases hq; done) | skip
  rename_i rargs rct t hop hdst hgd
  split at hq <;> first | (cases hq; done) | skip
  rename_i hflat
  injection hq with hq
  subst hq
  simp only at hy hz
  refine callsDIn_of_wpSIn f1 f2 trivial fun c₀ cs hm => ?_
  rw [hbody] at f6 ⊢
  simp only [codeOk, Bool.and_eq_true] at f6
  have hN : (us ++ Array.replicate (fn.ntmps - us.size) undef).size = fn.ntmps := by
    have := H.1
    simp at this ⊢; omega
  have hsz : ∃ n, os.size = n + 1 := ⟨r.length, by rw [← Array.length_toList, hos]; rfl⟩
  obtain ⟨n, hn⟩ := hsz
  have hrange : List.range os.size = 0 :: (List.range n).map Nat.succ := by rw [hn, List.range_succ_eq_map]
  have ho0 : os[0]? = some o := by rw [← Array.getElem?_toList, hos]; rfl
  have hmap : ((List.range n).map Nat.succ).map (os[·]?) = r.map some := by
    have h0 := map_range os
    rw [hrange, hos] at h0
    simpa using (List.cons.inj (by simpa using h0)).2
  have hcall : ∀ a : Act, (execOp a.eval o).run P w = .ok .recover w := fun a => by
    unfold execOp
    simp only [hop, resolve, invoke, builtin, Sem.run_bind, Sem.run_pure, Result.andThen_ok]
  have henv0 := envRel_args H fn.ntmps
  have htlt : t < (us ++ Array.replicate (fn.ntmps - us.size) undef).size := by rw [hN]; exact dst_lt f6.1.1 ho0 t hdst
  have fin : ∀ (uv : Value) (u' : FrameMode) (cs' : List Frame), cs' = { c₀ with mode := u' } :: cs → settle u' = .returning → VR s h w (pn.getD .nilIface) uv →
      wpOpsSIn (Fr none) 0 P os (Exit.thenS (rest.wpSIn (Fr none) 0 P (bodyPostS P fn c₀ cs fun e u' w' => (∃ v, e = .returned v) ∧ settle u' = .returning ∧ ∃ s', Ext s h w s' h2' w' ∧ Rel s' h2' w')) (bodyPostS P fn c₀ cs fun e u' w' => (∃ v, e = .returned v) ∧ settle u' = .returning ∧ ∃ s', Ext s h w s' h2' w' ∧ Rel s' h2' w')) ((List.range n).map Nat.succ)
        (Act.put { tmps := us ++ Array.replicate (fn.ntmps - us.size) undef, defers := [] } (some t) uv) cs' w := by
    intro uv u' cs' hcs hse hv
    have H0 : EnvRel s h w (Env.put (caps.zipIdx.map fun (v, i) => (i, v)) t (pn.getD .nilIface)) (Act.put { tmps := us ++ Array.replicate (fn.ntmps - us.size) undef, defers := [] } (some t) uv).tmps :=
      EnvRel.put (a := { tmps := us ++ Array.replicate (fn.ntmps - us.size) undef, defers := [] }) (by simpa using henv0) (some t) (fun t' ht' => by injection ht' with ht'; subst ht'; exact htlt) hv
    refine opsS_sound K f6.1.1 r _ hmap hflat _ h .nrm e1 h1 hy s w _ cs' _ (by simp [Act.put, hN]) R G H0 (fun _ s1 w1 a1 E1 R1 hN1 hd1 H1 => ?_) rfl
    refine execS_sound K hord rest e1 h1 e2 h2' f6.2 hz s1 w1 a1 cs' _ hN1 (by rw [hd1]; rfl) R1 (G.ext R.apart E1) H1 fun s2 w2 a2 E2 R2 hN2 hd2 H2 => ?_
    rw [← f3] at hvs
    obtain ⟨u2, hu2, _⟩ := results_rel K R2 ((G.ext R.apart E1).ext R1.apart E2).g H2 hvs
    refine ⟨hd2, u', hcs, u2, hu2, ⟨u2, rfl⟩, hse, s2, E1.trans E2, R2⟩
  refine wpSIn_seq (wpSIn_region ?_)
  rw [hrange]
  simp only [wpOpsSIn, ho0]
  refine ⟨fun _ _ => trivial, ?_⟩
  have hw : ∀ y, Region.wanted o y = true := fun y => by unfold Region.wanted; rw [hgd]
  rw [if_pos (hw _), hcall]
  cases M with
  | calm =>
    have hr : recoverD (c₀ :: cs) = none := by simp only [recoverD, hm]
    simp only [hr, hdst]
    refine fin .nilIface c₀.mode (c₀ :: cs) rfl (by rw [hm]; rfl) .nilIface
  | pan v uv hv =>
    have hr : recoverD (c₀ :: cs) = some (uv, { c₀ with mode := .panicking [{ v := uv, recovered := true }] } :: cs) := by simp only [recoverD, hm]
    simp only [hr, hdst]
    exact fin uv (.panicking [{ v := uv, recovered := true }]) _ rfl rfl hv

theorem callD_sound {ord : Nat → Array Oper → Bool} (K : Ok P C ord) (hord : ∀ f os, ord f os = true → ordOk C f os = true) {f d : Nat} {args : List AV} {h : Heap} {res : CRes} {h' : Heap} (hc : callD C f d args h = some (res, h')) {s : Sim} {w : World} {vs : List Value} (ht : s.good.tail = []) (R : Rel s h w) (G : GG C ord s h w) (H : VRs s h w args vs) : CallOk P f vs s h w res h' := by
  unfold callD at hc
  split at hc <;> first | (cases hc; done) | skip
  obtain ⟨fi, hfi, hc⟩ := Option.bind_eq_some_iff.1 hc
  obtain ⟨fn, f1, f2, f3, f4, f5, f6⟩ := K.fn f fi hfi
  split at hc <;> first | (cases hc; done) | skip
  rename_i hlen
  have hlen : args.length = fi.params := by simpa using hlen
  obtain ⟨x, hx, hc⟩ := Option.bind_eq_some_iff.1 hc
  have hN : (vs.toArray ++ Array.replicate (fn.ntmps - vs.toArray.size) undef).size = fn.ntmps := by
    have := H.1
    simp; omega
  have hw := execD_sound K hord fi.body _ h x f6 hx w.heap.size s w { tmps := vs.toArray ++ Array.replicate (fn.ntmps - vs.toArray.size) undef, defers := [] } hN ht ⟨Nat.le_refl _, Marks.nil ht⟩ R G (envRel_args H fn.ntmps)
  refine callsIn_fr.1 (callsIn_of_wp_marks (F := Fr none) (n := 0) f1 f2 trivial (wpIn_mono hw fun ex a1 w1 hq => ?_))
  obtain ⟨out, e1, h1, gv⟩ := x
  unfold OutD at hq
  cases gv with
  | none =>
    simp only at hc hq
    obtain ⟨s1, k1, k2, k3, k4, k5⟩ := hq
    have fin : EnvRel s1 h1 w1 e1 a1.tmps → ((resultsA C h1 e1 fi.results).bind fun vs => if noLoop h1 then some (CRes.ret (packA vs), h1) else none) = some (res, h') → LeavesInM (Fr none) 0 P fn a1.tmps (EndOk s h w res h') a1.defers .returning w1 := by
      intro H1 hl
      obtain ⟨rs, hrs, hl⟩ := Option.bind_eq_some_iff.1 hl
      split at hl <;> first | (cases hl; done) | skip
      simp only [Option.some.injEq, Prod.mk.injEq] at hl
      obtain ⟨rfl, rfl⟩ := hl
      rw [← f3] at hrs
      refine leaves_marks (by simp) (by rw [k1.good]; exact ht) k4.2 fun w2 hp => ?_
      have k1' := k1.patch hp
      obtain ⟨u, hu1, hu2⟩ := results_rel K (k2.patch hp) (G.ext R.apart k1').g (a := a1) (fun t => (H1 t).patch hp) hrs
      exact ⟨u, hu1, s1, k1', k2.patch hp, hu2⟩
    cases out with
    | nrm => cases ex <;> first | exact k5.elim | exact fin k5 hc
    | ret => cases ex <;> first | exact k5.elim | exact fin k5 hc
    | pan v => cases hc
    | exit id => cases hc
  | some gv =>
    simp only at hc hq
    obtain ⟨s1, h0, w0, g, caps, us, rfl, k1, k2, k3, s2, E2, R2, hN2, D2, k5⟩ := hq
    have E2' : Ext s1 h0 w0 (s2.fix s1.good) h1 w1 := E2.fix
    have Etot := k1.trans E2'
    have G1 := tl_gg (G.ext R.apart k1) { target := .fn (.func g) us, args := #[] }
    have G2 := G1.ext (tl_rel k2 _).apart E2
    have hcaps : VRs s2 h1 w1 caps us.toList := by
      have k3' : VR s2 h1 w1 (.clo g caps) (.func (.func g) #[] us) := (k3.regood _).ext (tl_rel k2 _).apart E2
      cases k3' with
      | clo _ _ _ hl hr =>
        refine ⟨by simpa using hl, fun i c hi => ?_⟩
        have hlt : i < us.size := by rw [← hl]; exact (List.getElem?_eq_some_iff.1 hi).1
        refine ⟨us[i], by simp [hlt], ?_⟩
        have := hr i c hi
        simpa [hlt] using this
    have fin : ∀ (pn : Option AV) (u : FrameMode), u ≠ .run → Mode s2 h1 w1 pn u → EnvRel s2 h1 w1 e1 a1.tmps →
        ((runD C (.clo g caps) pn h1).bind fun h2 => (resultsA C h2 e1 fi.results).bind fun vs => if noLoop h2 then some (CRes.ret (packA vs), h2) else none) = some (res, h') → LeavesInM (Fr none) 0 P fn a1.tmps (EndOk s h w res h') a1.defers u w1 := by
      intro pn u hu M H1 hl
      obtain ⟨h2, hrun, hl⟩ := Option.bind_eq_some_iff.1 hl
      obtain ⟨rs, hrs, hl⟩ := Option.bind_eq_some_iff.1 hl
      split at hl <;> first | (cases hl; done) | skip
      simp only [Option.some.injEq, Prod.mk.injEq] at hl
      obtain ⟨rfl, rfl⟩ := hl
      rw [← f3] at hrs
      have htail : s2.good.tail = [{ target := .fn (.func g) us, args := #[] }] := by rw [E2.good]; rfl
      have hM : MarksT w.heap.size s2 w1 [{ target := .fn (.func g) us, args := #[] }] a1.defers := by
        have := D2.2
        unfold Marks at this
        rw [htail] at this
        exact this
      refine leaves_tail hu hM (fun hT => by cases hT) fun dc T' hT ds' w3 hp hM' => ?_
      simp only [List.cons.injEq] at hT
      obtain ⟨rfl, rfl⟩ := hT
      have R3 := R2.patch hp
      have G3 : GG C ord s2 h1 w3 := ⟨fun g v hg => (G2.g g v hg).patch hp, G2.good⟩
      have M3 : Mode s2 h1 w3 pn u := by
        cases M with
        | calm => exact .calm
        | pan v u hv => exact .pan v u (hv.patch hp)
      obtain ⟨hD, fn', c', p1, p2, p3⟩ := runD_sound K hord hrun R3 G3 ⟨hcaps.1, fun i c hi => let ⟨u, q1, q2⟩ := hcaps.2 i c hi; ⟨u, q1, q2.patch hp⟩⟩ M3
      refine ⟨hu, .inr ⟨Fr_depth none, .func g, us, g, us, rfl, ?_, fun _ _ => trivial, ?_⟩⟩
      · simp only [invoke, callFunc, Sem.run_bind, run_program, Result.andThen_ok, p1, p3, p2, Option.isNone_some, Bool.false_eq_true, if_false, Sem.run_pure, Array.empty_append]
      · refine CallsDIn.mono hD fun e u' w4 he => ?_
        obtain ⟨⟨v, rfl⟩, hset, s4, E4, R4⟩ := he
        show LeavesInM (Fr none) 0 P fn a1.tmps (EndOk s h w _ _) ds' (settle u') w4
        rw [hset]
        refine leaves_tail (by simp) (MarksT.ext0 E4.toExt0 hM') (fun _ w5 hp5 => ?_) (fun d T' hT => by cases hT)
        have E4' : Ext (s2.fix s1.good) h1 w3 (s4.fix s1.good) h2 w4 := Ext.fix (s := s2.fix s1.good) (g := s2.good) E4
        have Ef := ((Etot.patch hp).trans E4').patch hp5
        have hgood : s4.good = { s1.good with tail := [{ target := .fn (.func g) us, args := #[] }] } := by rw [E4.good, E2.good]; rfl
        have Rf : Rel (s4.fix s1.good) h2 w5 := (R4.fix s1.good (by rw [hgood]) (fun o b es _ _ x hx => by rw [hgood] at hx; exact hx)).patch hp5
        have Hf : EnvRel (s4.fix s1.good) h2 w5 e1 a1.tmps := fun t => ((((H1 t).patch hp).ext R3.apart E4).regood s1.good).patch hp5
        obtain ⟨u5, hu1, hu2⟩ := results_rel K Rf (G.ext R.apart Ef).g (a := a1) Hf hrs
        exact ⟨u5, hu1, s4.fix s1.good, Ef, Rf, hu2⟩
    cases out with
    | nrm => cases ex <;> first | exact k5.elim | exact fin none .returning (by simp) .calm k5 hc
    | ret => cases ex <;> first | exact k5.elim | exact fin none .returning (by simp) .calm k5 hc
    | pan v =>
      cases ex <;> first | exact k5.elim | skip
      obtain ⟨⟨u, rfl, hu⟩, k5⟩ := k5
      exact fin (some v) _ (by simp) (.pan v u hu) k5 hc
    | exit id => cases hc

theorem callD_loops {f d : Nat} {args : List AV} {h : Heap} {res : CRes} {h' : Heap} (hc : callD C f d args h = some (res, h')) : noLoop h = true ∧ noLoop h' = true ∧ ∃ v, res = .ret v := by
  unfold callD at hc
  split at hc <;> first | (cases hc; done) | skip
  rename_i hn
  have hn : noLoop h = true := by simpa using hn
  obtain ⟨fi, hfi, hc⟩ := Option.bind_eq_some_iff.1 hc
  split at hc <;> first | (cases hc; done) | skip
  obtain ⟨⟨out, e1, h1, gv⟩, hx, hc⟩ := Option.bind_eq_some_iff.1 hc
  have key : ∀ {h2 : Heap} {rs : Option (List AV)}, (rs.bind fun vs => if noLoop h2 then some (CRes.ret (packA vs), h2) else none) = some (res, h') → noLoop h' = true ∧ ∃ v, res = .ret v := by
    intro h2 rs hl
    obtain ⟨vs, _, hl⟩ := Option.bind_eq_some_iff.1 hl
    split at hl <;> first | (cases hl; done) | skip
    rename_i hn2
    simp only [Option.some.injEq, Prod.mk.injEq] at hl
    obtain ⟨rfl, rfl⟩ := hl
    exact ⟨hn2, _, rfl⟩
  refine ⟨hn, ?_⟩
  cases gv with
  | none =>
    simp only at hc
    cases out <;> first | (cases hc; done) | exact key hc
  | some gv =>
    simp only at hc
    cases out <;> first | (cases hc; done) | skip
    all_goals
      obtain ⟨h2, _, hc⟩ := Option.bind_eq_some_iff.1 hc
      exact key hc

/-- Such a call as one step under another told. -/
theorem callD_ok {T : RvTold} {P : Program} (hg : GlobOk (T.cfg P)) (hcl : ∀ g v, T.glob g = some v → ∀ h, freezeV h 0 40 v = some v) (hp : PrimOk P (T.cfg P)) (hm : P.follows .mixedOrders = true) {C : Cfg} (hC : ∀ g v, T.glob g = some v → C.glob g = some v)
    {f d : Nat} {args : List AV} {h : Heap} {res : CRes} {h' : Heap} (hc : callD (T.cfg P) f d args h = some (res, h')) {s : Sim} {w : World} {vs : List Value} (R : Rel s h w) (G : Glob C s h w) (H : VRs s h w args vs) : CallOk P f vs s h w res h' := by
  obtain ⟨hn, hn', v, rfl⟩ := callD_loops hc
  have G1 : GG (T.cfg P) (ordOk (T.cfg P)) (s.re (goodOf (ordOk (T.cfg P)))) h w := ⟨fun g v hv => (G g v (hC g v hv)).regood _, rfl⟩
  have R1 := R.re (goodOf (ordOk (T.cfg P))) hn
  have := callD_sound (RvTold.ok hg hcl hp hm) (fun _ _ h => h) hc (s := nt (s.re (goodOf (ordOk (T.cfg P))))) rfl (nt_rel R1) (nt_gg G1) (nt_vrs (H.regood _))
  refine Calls.mono this fun e w' he => ?_
  obtain ⟨s', E, R', hv⟩ := nt_end he
  refine ⟨s'.re s.good.good, E.re _, R'.re _ hn', ?_⟩
  cases e with
  | returned u => exact hv.regood _
  | panicked _ => exact hv.elim
  | outgrown => exact hv.elim
end
end
end Go.Rv
