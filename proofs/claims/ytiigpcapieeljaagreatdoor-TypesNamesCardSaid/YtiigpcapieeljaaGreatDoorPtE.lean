/-
  The interpreter's tables, taken from the program itself: nothing to be laid by hand.
-/
import Derived.Test.YtiigpcapieeljaaGreatDoorRvSound
import Derived.ChangeSame
import Derived.RowKit3
import Derived.JoinedOf
import Derived.JoinedAt
import Derived.Lib.SmallJoins
import Derived.Carry
import Derived.OpenShut
import Derived.ChangeArms
set_option linter.unusedSectionVars false
set_option linter.unusedSimpArgs false
set_option linter.unusedVariables false
set_option linter.defProp false
set_option linter.unusedSimpArgs false
set_option linter.unusedVariables false
namespace Go.Rv

def tdOf : TypeDesc → Option TD
  | .bool => some .bool
  | .int k => some (.int k)
  | .string => some .str
  | .pointer _ => some .ptr
  | .func .. => some .func
  | .interface _ => some .iface
  | .slice e => some (.slice e)
  | .array n e => some (.array n e)
  | .map k e => some (.map k e)
  | .struct fs => some (.struct (fs.toList.map fun f => (f.type, f.offset)))
  | _ => none

theorem tdOf_ok {d : TypeDesc} {t : TD} (h : tdOf d = some t) : TD.ok d t := by
  cases d <;> simp only [tdOf, Option.some.injEq, reduceCtorEq] at h <;> subst h <;> simp [TD.ok]

def fieldsOk (P : Program) : TypeDesc → Bool
  | .struct fs => fs.all fun f => (P.info? f.type).isSome
  | _ => true

def tiOf (P : Program) (t : Nat) : Option TI :=
  match P.info? t, P.underlying t with
  | some i, some d => match i.zero, tdOf d with
    | some z, some td => match mapO ofValue z.cells.toList with
      | some zs => if decide (i.bytes ≤ 4096) && zs.length == i.size && fieldsOk P d && wholeB td.isAgg z then some ⟨td, i.size, i.bytes, zs⟩ else none
      | none => none
    | _, _ => none
  | _, _ => none

theorem tiOf_ok {P : Program} {t : Nat} {ti : TI} (h : tiOf P t = some ti) : TyOk P t ti := by
  unfold tiOf at h
  split at h
  · rename_i i d hi hd
    split at h
    · rename_i z td hz htd
      split at h
      · rename_i zs hzs
        split at h
        · rename_i hb
          simp only [Bool.and_eq_true, decide_eq_true_eq, beq_iff_eq] at hb
          obtain ⟨⟨⟨b1, b2⟩, b3⟩, b4⟩ := hb
          simp only [Option.some.injEq] at h
          subst h
          obtain ⟨m1, m2⟩ := mapO_get hzs
          refine ⟨⟨i, z, hi, rfl, rfl, hz, by simpa using m1.symm, fun j c hj => ?_⟩, ⟨d, hd, tdOf_ok htd⟩, b1, b2, fun fs hfs f hf => ?_, fun i' z' hi' hz' => ?_⟩
          · have hlt : j < z.cells.toList.length := by rw [← m1]; exact (List.getElem?_eq_some_iff.1 hj).1
            obtain ⟨b, k1, k2⟩ := m2 j _ (List.getElem?_eq_getElem hlt)
            rw [hj] at k1
            injection k1 with k1; subst k1
            rw [← k2]
            congr 1
            rw [Array.getD_eq_getD_getElem?]
            simp at hlt
            simp [hlt]
          · rw [hd] at hfs
            injection hfs with hfs; subst hfs
            have := Array.all_eq_true_iff_forall_mem.1 b3 f hf
            exact Option.isSome_iff_exists.1 this
          · rw [hi] at hi'; injection hi' with hi'; subst hi'
            rw [hz] at hz'; injection hz' with hz'; subst hz'
            exact b4
        · cases h
      · cases h
    · cases h
  · cases h

def okB (C : Cfg) (f : Nat) (fn : Func) (b : Code) : Bool := !(fn.name == "runtime.NumGoroutine") && decide (fn.params.size + fn.nfree ≤ fn.ntmps) && codeOk (ordOk C f) fn.ntmps b

def fnsOf (P : Program) (C : Cfg) (f : Nat) : Option FI :=
  match P.funcs[f]? with
  | some fn => match fn.body with
    | some b => if okB C f fn b then some ⟨fn.params.size + fn.nfree, fn.results.toList, b⟩ else none
    | none => none
  | none => none

/-- What the interpreter is told beside the program. -/
structure RvTold where
  glob : Nat → Option AV := fun _ => none
  pure : Nat → Bool := fun _ => true
  imm : Nat → Nat → Bool := fun _ _ => false
  live : Nat → Nat → Option (List Nat) := fun _ _ => none
  prim : Nat → Option (List AV → Heap → Option (CRes × Heap)) := fun _ => none
  quiet : Nat → Nat → Bool := fun _ _ => false
  loose : Nat → Nat → List Nat := fun _ _ => []
  alone : Nat → Bool := fun _ => false
  rounds : Nat → Bool := fun _ => false

def RvTold.bare (T : RvTold) (P : Program) : Cfg := { ty := tiOf P, fn := fun _ => none, glob := T.glob, pure := T.pure, imm := T.imm, live := T.live, prim := T.prim, quiet := T.quiet, loose := T.loose, alone := T.alone, rounds := T.rounds, flat := fun t cs => flatKey P t cs && !P.eqGuardType P.depth t }
def RvTold.cfg (T : RvTold) (P : Program) : Cfg := { T.bare P with fn := fnsOf P (T.bare P) }

theorem fn_of {T : RvTold} {P : Program} {f : Nat} {fn : Func} {b : Code} (h1 : P.funcs[f]? = some fn) (h2 : fn.body = some b) (h3 : okB (T.bare P) f fn b = true) : (T.cfg P).fn f = some ⟨fn.params.size + fn.nfree, fn.results.toList, b⟩ := by
  show fnsOf P (T.bare P) f = _
  unfold fnsOf
  rw [h1]
  simp only [h2, h3, if_true]

theorem pairs_bare (T : RvTold) (P : Program) (f : Nat) (ops : Array Oper) (b : Array Nat) : ∀ l, pairsOk (T.bare P) f ops b l = pairsOk (T.cfg P) f ops b l
  | [] => rfl
  | i :: r => by
    simp only [pairsOk, pairs_bare T P f ops b r]
    rfl
theorem ord_bare (T : RvTold) (P : Program) : ordOk (T.bare P) = ordOk (T.cfg P) := by
  funext f ops
  simp only [ordOk, pairs_bare]

theorem RvTold.ok {T : RvTold} {P : Program} (hg : GlobOk (T.cfg P)) (hcl : ∀ g v, T.glob g = some v → ∀ h, freezeV h 0 40 v = some v) (hp : PrimOk P (T.cfg P)) (hm : P.follows .mixedOrders = true) : Ok P (T.cfg P) (ordOk (T.cfg P)) where
  ty := ⟨fun t ti h => tiOf_ok h, fun t cs h => by
      have h : (flatKey P t cs && !P.eqGuardType P.depth t) = true := h
      simp only [Bool.and_eq_true] at h; exact h.1, fun t cs h => by
      have h : (flatKey P t cs && !P.eqGuardType P.depth t) = true := h
      simp only [Bool.and_eq_true, Bool.not_eq_true'] at h; exact h.2⟩
  glob := hg
  close := hcl
  prim := hp
  fn f fi h := by
    change fnsOf P (T.bare P) f = some fi at h
    unfold fnsOf at h
    split at h
    · rename_i fn hfn
      split at h
      · rename_i b hb
        split at h
        · rename_i hok
          simp only [okB, Bool.and_eq_true, Bool.not_eq_true', decide_eq_true_eq] at hok
          obtain ⟨⟨k1, k2⟩, k3⟩ := hok
          simp only [Option.some.injEq] at h
          subst h
          exact ⟨fn, hfn, hb, rfl, k1, k2, by rw [← ord_bare]; exact k3⟩
        · cases h
      · cases h
    · cases h
  mixed := hm

theorem RvTold.sound {T : RvTold} {P : Program} (hg : GlobOk (T.cfg P)) (hcl : ∀ g v, T.glob g = some v → ∀ h, freezeV h 0 40 v = some v) (hp : PrimOk P (T.cfg P)) (hm : P.follows .mixedOrders = true) {s : Sim} {h : Heap} {w : World} {f : Nat} {args : List AV} {res : CRes} {h' : Heap} (hc : call (T.cfg P) f args h = some (res, h'))
    {vs : List Value} (R : Rel s h w) (G : GG (T.cfg P) (ordOk (T.cfg P)) s h w) (H : VRs s h w args vs) : Calls P f vs.toArray w (EndOk s h w res h') :=
  call_sound (RvTold.ok hg hcl hp hm) (fun _ _ h => h) hc R G H
end Go.Rv

/-
  From the interpreter's answer to a claim's post-condition: the world is as it was, but for new memory.
-/
set_option linter.unusedSimpArgs false
set_option linter.unusedVariables false
namespace Go.Rv

def bare : Sim := { μ := fun _ => none, I := fun _ => False, good := ⟨fun _ _ _ _ _ => False, fun _ _ => False, []⟩ }

/-- What was there is as it was. -/
structure Same (w w' : World) : Prop where
  kept : w.keptBut w' (fun _ => False)
  frozen : ∀ a : Addr, a.block < w.heap.size → w'.frozen? a = w.frozen? a
  size : w.heap.size ≤ w'.heap.size

theorem same_of_ext {s' : Sim} {h' : Heap} {w w' : World} {g : Fixed} (E : Ext { bare with good := g } [] w s' h' w') : Same w w' where
  kept := by
    refine ⟨E.os, E.output, fun i hi => ?_⟩
    rw [E.far i hi (fun o hx => by cases hx)]
    cases w.heap[i]? with
    | none => rfl
    | some o =>
      cases o <;> first | rfl | exact ⟨rfl, rfl, rfl, fun _ _ => rfl⟩ | exact .inr ⟨rfl, rfl⟩
  frozen a ha := by
    unfold World.frozen?
    rw [E.far a.block ha (fun o hx => by cases hx)]
  size := E.size

theorem bare_rel (g : Fixed) (w : World) : Rel { bare with good := g } [] w where
  inj _ _ _ h := by cases h
  obj _ _ h := by cases h
  apart _ _ h := by cases h
  imm _ h := h.elim

/-- A function of plain values. -/
theorem entry {T : RvTold} {P : Program} (hg : ∀ g, T.glob g = none) (hp : ∀ f, T.prim f = none) (hm : P.follows .mixedOrders = true) {f : Nat} {args : List AV} {v : AV} {h' : Heap} (hc : call (T.cfg P) f args [] = some (.ret v, h'))
    {w : World} {vs : List Value} (H : VRs bare [] w args vs) : Calls P f vs.toArray w (fun e w' => Same w w' ∧ ∃ u s', e = .returned u ∧ VR s' h' w' v u) := by
  have G : GG (T.cfg P) (ordOk (T.cfg P)) { bare with good := ⟨goodOf (ordOk (T.cfg P)), fun _ _ => True, []⟩ } [] w := ⟨fun g x hx => absurd hx (by change T.glob g ≠ some x; rw [hg]; simp), rfl⟩
  have := RvTold.sound (T := T) (P := P) (fun g x hx => by change T.glob g = some x at hx; rw [hg] at hx; cases hx) (fun g x hx => by rw [hg] at hx; cases hx) (fun g x hx => by change T.prim g = some x at hx; rw [hp] at hx; cases hx) hm hc (bare_rel _ w) G (H.regood _)
  refine Calls.mono this fun e w' he => ?_
  obtain ⟨s', E, R, hv⟩ := he
  refine ⟨same_of_ext E, ?_⟩
  cases e with
  | returned u => exact ⟨u, s', rfl, hv⟩
  | panicked _ => exact hv.elim
  | outgrown => exact hv.elim

section
open Go.ChangeShapes Go.WideShapes Go.ChangeAt Go.RowKit
variable {H : Type} {enc : TypeId × Value → H} {P : Program}
/-- As the kit's 'post_of_same', but asking of the frozen cells only where they are old. -/
theorem post_of_kept {f : Func} {s : ChangeSpec} {apart fresh handsOn again : Bool} {W W' : World} {args : Array Value} {v : Value} {ds gs : List (DataW H)} {before pa pv : List MemPlace}
    (hW : DataW.Whole enc P f.params.toList s.vars apart W args.toList ds gs before)
    (hres : ∀ (b : Nat) (sp : Nat → Bool) (hd : Bool), DataW.TrodAll enc P W' b sp hd f.resultTypes.toList (v.resultList f.resultTypes.size) (s.fn H (ds ++ gs)).results [])
    (hargs : ∀ sp : Nat → Bool, (∀ p ∈ before, sp p.block = true) → DataW.TrodAll enc P W' 0 sp true f.params.toList args.toList (s.fn H (ds ++ gs)).args pa)
    (hvars : ∀ sp : Nat → Bool, (∀ p ∈ before, sp p.block = true) → DataW.TrodVars enc P W' sp s.vars (s.fn H (ds ++ gs)).vars pv)
    (hps : before = pa ++ pv) (hS : Same W W')
    (hok : ∀ (j : Nat) (t : TypeId) (r : Value), f.resultTypes[j]? = some t → (v.resultList f.resultTypes.size)[j]? = some r → Value.okWide P W' .any 0 t r) :
    s.post enc P f apart fresh handsOn again W args v W' := by
  have hlt : ∀ p ∈ before, p.block < W.heap.size := fun p hp => hW.lt p hp
  have hold : ∀ p ∈ before, (fun b => decide (b < W.heap.size)) p.block = true := fun p hp => by simpa using hlt p hp
  refine ⟨ds, gs, before, [], pa, pv, hW, hres _ _ _, hargs _ hold, hvars _ hold, World.keptBut_mono (fun p hp => hp.elim) hS.kept, fun _ => ?_⟩
  obtain ⟨_, _, _, _, _, hz, hn⟩ := hW
  refine ⟨hok, _, _, ([] ++ pa) ++ pv, ⟨[] ++ pa, pv, trodAll_append (hargs _ (fun _ _ => rfl)) (hres _ _ _), hvars _ (fun _ _ => rfl), rfl, ?_, ?_⟩, ?_⟩
  · intro b off hp
    have hp' : (MemPlace.cell b off) ∈ before := by rw [hps]; simpa using hp
    rw [hS.frozen _ (hlt _ hp')]
    exact hz b off hp'
  · intro ha
    have := hn ha
    rw [hps] at this
    simpa using this
  · intro p hp _
    rw [hps]
    simpa using hp
end
end Go.Rv

/-
  Arguments read: from a row's reading to the interpreter's values. What lies in old blocks is never written.
-/
set_option linter.unusedSimpArgs false
set_option linter.unusedVariables false
namespace Go.Rv
open Go.ChangeShapes Go.WideShapes Go.Deep Go.RowKit

/-- All that was there at the start is never written. -/
def old (w : World) : Sim := { μ := fun _ => none, I := fun b => b < w.heap.size, good := ⟨fun _ _ _ _ _ => False, fun _ _ => False, []⟩ }

theorem old_rel (g : Fixed) (w : World) : Rel { old w with good := g } [] w where
  inj _ _ _ h := by cases h
  obj _ _ h := by cases h
  apart _ _ h := by cases h
  imm _ h := h

theorem below_of_ext {s' : Sim} {h' : Heap} {w w' : World} {g : Fixed} (E : Ext { old w with good := g } [] w s' h' w') : Below w.heap.size w w' where
  os := E.os
  tape := E.tape
  output := E.output
  size := E.size
  block k hk := E.far k hk (fun o hx => by cases hx)

theorem same_of_below {w w' : World} (B : Below w.heap.size w w') : Same w w' where
  kept := by
    refine ⟨B.os, B.output, fun i hi => ?_⟩
    rw [B.block i hi]
    cases w.heap[i]? with
    | none => rfl
    | some o =>
      cases o <;> first | rfl | exact ⟨rfl, rfl, rfl, fun _ _ => rfl⟩ | exact .inr ⟨rfl, rfl⟩
  frozen a ha := by
    unfold World.frozen?
    rw [B.block a.block ha]
  size := B.size

/-- A function whose arguments are read, of a program without state. -/
theorem entry_old {T : RvTold} {P : Program} (hg : ∀ g, T.glob g = none) (hp : PrimOk P (T.cfg P)) (hm : P.follows .mixedOrders = true) {f : Nat} {args : List AV} {v : AV} {h' : Heap} (hc : call (T.cfg P) f args [] = some (.ret v, h'))
    {w : World} {vs : List Value} (H : VRs (old w) [] w args vs) : Calls P f vs.toArray w (fun e w' => Below w.heap.size w w' ∧ ∃ u s', e = .returned u ∧ VR s' h' w' v u) := by
  have G : GG (T.cfg P) (ordOk (T.cfg P)) { old w with good := ⟨goodOf (ordOk (T.cfg P)), fun _ _ => True, []⟩ } [] w := ⟨fun g x hx => absurd hx (by change T.glob g ≠ some x; rw [hg]; simp), rfl⟩
  have := RvTold.sound (T := T) (P := P) (fun g x hx => by change T.glob g = some x at hx; rw [hg] at hx; cases hx) (fun g x hx => by rw [hg] at hx; cases hx) hp hm hc (old_rel _ w) G (H.regood _)
  refine Calls.mono this fun e w' he => ?_
  obtain ⟨s', E, R, hv⟩ := he
  refine ⟨below_of_ext E, ?_⟩
  cases e with
  | returned u => exact ⟨u, s', rfl, hv⟩
  | panicked _ => exact hv.elim
  | outgrown => exact hv.elim

/-- How much a reading holds: what is asked of such a measure. -/
structure Bulk {H : Type} (μ : DataW H → Nat) (μs : List (DataW H) → Nat) : Prop where
  str (l : List UInt8) : l.length ≤ μ (.lit (.string l))
  slice (e s : List (DataW H)) : μs e ≤ μ (.slice e s)
  agg (e : List (DataW H)) : μs e ≤ μ (.agg e)
  cons (d : DataW H) (r : List (DataW H)) : μs (d :: r) = μ d + μs r
  pos (d : DataW H) : 1 ≤ μ d
theorem Bulk.mem {H : Type} {μ : DataW H → Nat} {μs : List (DataW H) → Nat} (U : Bulk μ μs) {d : DataW H} : ∀ {l : List (DataW H)}, d ∈ l → μ d ≤ μs l
  | x :: r, h => by
    rw [U.cons]
    rcases List.mem_cons.1 h with h | h
    · subst h; omega
    · have := U.mem h; omega
theorem Bulk.len {H : Type} {μ : DataW H → Nat} {μs : List (DataW H) → Nat} (U : Bulk μ μs) : ∀ (l : List (DataW H)), l.length ≤ μs l
  | [] => by simp
  | x :: r => by rw [U.cons]; have := U.pos x; have := U.len r; simp; omega

section
variable {H : Type} {enc : TypeId × Value → H} {P : Program} {μ : DataW H → Nat} {μs : List (DataW H) → Nat} {B : Nat}

/-- Whatever is read at this type, of no more than so much, is the picture of some a. -/
def Opens (enc : TypeId × Value → H) (P : Program) (μ : DataW H → Nat) (B : Nat) (t : TypeId) {α : Type} (pic : α → List AV) (ok : α → Prop) : Prop :=
  ∀ (w : World) (n : Nat) (cs : List Value) (x : DataW H × List MemPlace), DataW.trod enc P w 0 (fun _ => true) true n t cs = some x → (∀ p ∈ x.2, p.block < w.heap.size) → μ x.1 ≤ B → ∃ a, ok a ∧ VRs (old w) [] w (pic a) cs

theorem opens_int {t : TypeId} {k : IntKind} (ht : P.underlying t = some (.int k)) : Opens enc P μ B t (fun n : Int => [.int k n]) (fun n => (Lit.int k n).wf = true) := by
  intro w n cs x h _ _
  obtain ⟨a, rfl, hc, hw⟩ : ∃ a, cs = [.int k a] ∧ True ∧ (Lit.int k a).wf = true := by
    cases n with
    | zero => simp [DataW.trod] at h
    | succ n =>
      unfold DataW.trod at h
      rw [ht] at h
      split at h <;> simp_all
  exact ⟨a, hw, rfl, fun i c hi => by
    cases i with
    | zero => simp at hi; subst hi; exact ⟨_, rfl, .int _ _⟩
    | succ i => simp at hi⟩

theorem opens_bool {t : TypeId} (ht : P.underlying t = some .bool) : Opens enc P μ B t (fun b : Bool => [.bool b]) (fun _ => True) := by
  intro w n cs x h _ _
  obtain ⟨a, rfl⟩ : ∃ a, cs = [.bool a] := by
    cases n with
    | zero => simp [DataW.trod] at h
    | succ n =>
      unfold DataW.trod at h
      rw [ht] at h
      split at h <;> simp_all
  exact ⟨a, trivial, rfl, fun i c hi => by
    cases i with
    | zero => simp at hi; subst hi; exact ⟨_, rfl, .bool _⟩
    | succ i => simp at hi⟩

theorem opens_string (U : Bulk μ μs) {t : TypeId} (ht : P.underlying t = some .string) : Opens enc P μ B t (fun l : List UInt8 => [.str l]) (fun l => l.length ≤ B) := by
  intro w n cs x h _ hb
  obtain ⟨a, rfl, ha⟩ : ∃ a : ByteArray, cs = [.string a] ∧ x.1 = .lit (.string a.data.toList) := by
    cases n with
    | zero => simp [DataW.trod] at h
    | succ n =>
      unfold DataW.trod at h
      rw [ht] at h
      split at h <;> simp_all
      rw [← h.2]
  refine ⟨a.data.toList, by rw [ha] at hb; exact Nat.le_trans (U.str _) hb, rfl, fun i c hi => ?_⟩
  cases i with
  | zero =>
    simp at hi; subst hi
    refine ⟨_, rfl, ?_⟩
    have := VR.str (s := old w) (h := []) (w := w) a.data.toList
    simpa using this
  | succ i => simp at hi

/-- A slice of the input: nil, or so many elements and so much room. -/
inductive GS (α : Type) where
  | nil
  | mk (l : List α) (cap : Nat)

def GS.pic {α : Type} (el : α → AV) (z : Nat) : GS α → List AV
  | .nil => [.lst [] z .nil]
  | .mk l cap => [.lst (l.map el) z (.exact cap)]
def GS.ok {α : Type} (B : Nat) (ok : α → Prop) : GS α → Prop
  | .nil => True
  | .mk l _ => l.length ≤ B ∧ ∀ a ∈ l, ok a

theorem choose_list {α : Type} {Q : Nat → α → Prop} : ∀ n : Nat, (∀ i, i < n → ∃ a, Q i a) → ∃ l : List α, l.length = n ∧ ∀ (i : Nat) a, l[i]? = some a → Q i a
  | 0, _ => ⟨[], rfl, fun i a h => by simp at h⟩
  | n + 1, H => by
    obtain ⟨l, h1, h2⟩ := choose_list n (fun i hi => H i (by omega))
    obtain ⟨a, ha⟩ := H n (by omega)
    refine ⟨l ++ [a], by simp [h1], fun i b hb => ?_⟩
    by_cases hi : i < n
    · rw [List.getElem?_append_left (by omega)] at hb
      exact h2 i b hb
    · rw [List.getElem?_append_right (by omega)] at hb
      have : i - l.length = 0 := by
        have := (List.getElem?_eq_some_iff.1 hb).1
        simp at this; omega
      rw [this] at hb
      simp at hb
      subst hb
      have : i = n := by omega
      rw [this]; exact ha

theorem opens_slice (U : Bulk μ μs) {t e : TypeId} (ht : P.underlying t = some (.slice e)) {α : Type} {pic : α → List AV} {ok : α → Prop} (O : Opens enc P μ B e pic ok) {z : Nat} (hz : P.cellsOf e = z) (hpos : 0 < z) (el : α → AV) (hel : ∀ a, (el a).cells = pic a) (hpl : ∀ a, (pic a).length = z) :
    Opens enc P μ B t (GS.pic el z) (GS.ok B ok) := by
  intro w n cs x h hpl2 hb
  rcases open_slice ht h with ⟨rfl, _⟩ | ⟨A, len, cap, m, n', D, Pl, rfl, _, hle, hcap, hm, hx, hi⟩
  · exact ⟨.nil, trivial, rfl, fun i c hi => by
      cases i with
      | zero => simp [GS.pic] at hi; subst hi; exact ⟨_, rfl, .lstNil _⟩
      | succ i => simp [GS.pic] at hi⟩
  · simp only [if_true] at hm
    subst hm
    have hfit : ∀ i, i < m → ∀ p ∈ Pl i, p.block < w.heap.size := fun i him p hp => hpl2 p (by
      rw [hx]
      simp only [List.mem_append, List.mem_flatMap, List.mem_range]
      exact .inr ⟨i, him, hp⟩)
    have hb1 : μs ((List.range len).map D) ≤ B := by rw [hx] at hb; exact Nat.le_trans (U.slice _ _) hb
    have hbD : ∀ i, i < len → μ (D i) ≤ B := fun i hi => Nat.le_trans (U.mem (List.mem_map.2 ⟨i, List.mem_range.2 hi, rfl⟩)) hb1
    have hbl : len ≤ B := by have := U.len ((List.range len).map D); simp at this; omega
    obtain ⟨l, hl, hl2⟩ := choose_list (Q := fun i a => ok a ∧ ∃ cs', w.cells? 0 (A.add (i * z)) z = some cs' ∧ VRs (old w) [] w (pic a) cs') len (fun i hil => by
      obtain ⟨cs', h1, h2⟩ := hi i (by omega)
      obtain ⟨a, h3, h4⟩ := O w n' cs' _ h2 (hfit i (by omega)) (hbD i hil)
      rw [hz] at h1
      exact ⟨a, h3, cs', h1, h4⟩)
    have hok : ∀ a ∈ l, ok a := fun a ha => by
      obtain ⟨i, hia⟩ := List.mem_iff_getElem?.1 ha
      exact (hl2 i a hia).1
    refine ⟨.mk l m, ⟨by omega, hok⟩, rfl, fun i c hic => ?_⟩
    cases i with
    | succ i => simp [GS.pic] at hic
    | zero =>
      simp only [GS.pic, List.getElem?_cons_zero, Option.some.injEq] at hic
      subst hic
      refine ⟨_, rfl, ?_⟩
      by_cases h0 : m = 0
      · subst h0
        have : len = 0 := by omega
        subst this
        have : l = [] := by simpa using hl
        subst this
        exact .lstEmpty _ _
      · obtain ⟨cs', h1, _⟩ := hi 0 (by omega)
        rw [hz] at h1
        obtain ⟨_, hcl, hat⟩ := World.cells?_some h1
        have hc0 := hat 0 hpos
        have hA : (A.add (0 * z)).add 0 = A := by simp [Addr.add]
        rw [hA, List.getElem?_eq_getElem (by omega)] at hc0
        have hspot : A.spot = none := by
          unfold World.cell? at hc0
          split at hc0
          · split at hc0
            · cases hc0
            · rename_i hs; simpa using hs
          all_goals cases hc0
        obtain ⟨b, off, sp⟩ := A
        simp only at hspot
        subst hspot
        have hb : b < w.heap.size := cell_block hc0
        have hlen : (l.map el).length = len := by simp [hl]
        have get : ∀ (i : Nat) x, (l.map el)[i]? = some x → ∃ a, x = el a ∧ ∃ cs', w.cells? 0 ((⟨b, off, none⟩ : Addr).add (i * z)) z = some cs' ∧ VRs (old w) [] w (pic a) cs' := fun i x hx => by
          rw [List.getElem?_map] at hx
          obtain ⟨a, ha, rfl⟩ := Option.map_eq_some_iff.1 hx
          exact ⟨a, rfl, (hl2 i a ha).2⟩
        have cell : ∀ (i j : Nat) x y, (l.map el)[i]? = some x → x.cells[j]? = some y → ∃ v, w.cell? ⟨b, off + i * z + j, none⟩ = some v ∧ VR (old w) [] w y v := by
          intro i j x y hx hy
          obtain ⟨a, rfl, cs', h1, h2⟩ := get i x hx
          rw [hel] at hy
          obtain ⟨v, hv, hr⟩ := h2.2 j y hy
          obtain ⟨_, hcl, hat⟩ := World.cells?_some h1
          have hj : j < z := by rw [← hcl]; exact (List.getElem?_eq_some_iff.1 hv).1
          have := hat j hj
          rw [addr_add, addr_add, hv] at this
          exact ⟨v, this, hr⟩
        have := VR.lst (s := old w) (h := []) (w := w) (l.map el) z (.exact m) b off m (fun i j => (w.cell? ⟨b, off + i * z + j, none⟩).getD undef) (fun _ => hb) rfl (by omega)
          (fun i x hx => by
            obtain ⟨a, rfl, _⟩ := get i x hx
            rw [hel, hpl])
          (fun i j x y hx hy => by
            obtain ⟨v, hv, _⟩ := cell i j x y hx hy
            rw [hv]; rfl)
          (fun i j x y hx hy => by
            obtain ⟨v, hv, hr⟩ := cell i j x y hx hy
            rw [hv]; exact hr)
        rw [hlen] at this
        exact this

/-- Fields, one behind the other. -/
def OpensF (enc : TypeId × Value → H) (P : Program) (μ : DataW H → Nat) (B : Nat) (fs : List Field) {α : Type} (pic : α → List AV) (ok : α → Prop) : Prop :=
  ∀ (w : World) (n : Nat) (cs : List Value) (xs : List (DataW H × List MemPlace)), fs.mapM (fun f => DataW.trod enc P w 0 (fun _ => true) true n f.type ((cs.drop f.offset).take (P.cellsOf f.type))) = some xs →
    (∀ p ∈ xs.flatMap (·.2), p.block < w.heap.size) → (∀ y ∈ xs, μ y.1 ≤ B) → ∃ a, ok a ∧ VRs (old w) [] w (pic a) (fs.flatMap fun f => (cs.drop f.offset).take (P.cellsOf f.type))

theorem opensF_nil : OpensF enc P μ B [] (fun _ : Unit => []) (fun _ => True) := fun w n cs xs _ _ _ => ⟨(), trivial, rfl, fun i c hi => by simp at hi⟩

theorem opensF_cons {f : Field} {fs : List Field} {α β : Type} {pic : α → List AV} {ok : α → Prop} {pic' : β → List AV} {ok' : β → Prop} (O : Opens enc P μ B f.type pic ok) (F : OpensF enc P μ B fs pic' ok') :
    OpensF enc P μ B (f :: fs) (fun p : α × β => pic p.1 ++ pic' p.2) (fun p => ok p.1 ∧ ok' p.2) := by
  intro w n cs xs h hp hb
  rw [List.mapM_cons] at h
  simp only [Option.bind_eq_bind, Option.pure_def] at h
  obtain ⟨x, hx, h⟩ := Option.bind_eq_some_iff.1 h
  obtain ⟨ys, hys, h⟩ := Option.bind_eq_some_iff.1 h
  simp only [Option.some.injEq] at h
  subst h
  obtain ⟨a, h1, h2⟩ := O w n _ x hx (fun p h => hp p (by simp [h])) (hb x (by simp))
  obtain ⟨b, h3, h4⟩ := F w n cs ys hys (fun p h => hp p (by
    rw [List.flatMap_cons]
    exact List.mem_append_right _ h)) (fun y hy => hb y (List.mem_cons_of_mem _ hy))
  exact ⟨(a, b), ⟨h1, h3⟩, by
    rw [List.flatMap_cons]
    exact h2.append h4⟩

/-- Do the fields lie one behind the other? Behind them all. -/
def lay (P : Program) : List Field → Nat → Option Nat
  | [], o => some o
  | f :: r, o => if f.offset = o then lay P r (o + P.cellsOf f.type) else none

theorem lay_le : ∀ {fs : List Field} {o T : Nat}, lay P fs o = some T → o ≤ T
  | [], o, T, h => by simp [lay] at h; omega
  | f :: r, o, T, h => by
    simp only [lay] at h
    split at h
    · have := lay_le h; omega
    · cases h

theorem lay_flat (cs : List Value) : ∀ {fs : List Field} {o T : Nat}, lay P fs o = some T → T ≤ cs.length → (fs.flatMap fun f => (cs.drop f.offset).take (P.cellsOf f.type)) = (cs.drop o).take (T - o)
  | [], o, T, h, _ => by
    simp only [lay, Option.some.injEq] at h
    subst h
    simp
  | f :: r, o, T, h, hT => by
    simp only [lay] at h
    split at h
    · rename_i he
      have hle := lay_le h
      rw [List.flatMap_cons, lay_flat cs h hT, he]
      rw [show T - o = P.cellsOf f.type + (T - (o + P.cellsOf f.type)) from by omega, List.take_add, List.drop_drop]
    · cases h

theorem mapM_get {β γ : Type} {f : β → Option γ} : ∀ {l : List β} {xs : List γ}, xs.length = l.length → (∀ (i : Nat) b, l[i]? = some b → f b = xs[i]?) → l.mapM f = some xs
  | [], [], _, _ => rfl
  | [], _ :: _, h, _ => by simp at h
  | _ :: _, [], h, _ => by simp at h
  | b :: l, x :: xs, h, H => by
    have h0 := H 0 b rfl
    simp only [List.getElem?_cons_zero] at h0
    rw [List.mapM_cons, h0, mapM_get (l := l) (xs := xs) (by simpa using h) (fun i b hb => by simpa using H (i + 1) b (by simpa using hb))]
    rfl

theorem opens_struct (U : Bulk μ μs) {t : TypeId} {fs : Array Field} (ht : P.underlying t = some (.struct fs)) {α : Type} {pic : α → List AV} {ok : α → Prop} (F : OpensF enc P μ B fs.toList pic ok) (hl : lay P fs.toList 0 = some (P.cellsOf t)) : Opens enc P μ B t pic ok := by
  intro w n cs x h hp hb
  obtain ⟨xs, n', hxs, hx, hlen⟩ : ∃ xs n', fs.toList.mapM (fun f => DataW.trod enc P w 0 (fun _ => true) true n' f.type ((cs.drop f.offset).take (P.cellsOf f.type))) = some xs ∧ x = (.agg (xs.map (·.1)), xs.flatMap (·.2)) ∧ cs.length = P.cellsOf t := by
    obtain ⟨xs, n', _, hx, hl', hlen, hf⟩ := DataW.trod_struct ht h
    exact ⟨xs, n', mapM_get (by simpa using hlen) (fun i f hif => hf i f (by simpa using hif)), hx, hl'⟩
  obtain ⟨a, h1, h2⟩ := F w n' cs xs hxs (by rw [hx] at hp; exact hp) (fun y hy => by
    rw [hx] at hb
    exact Nat.le_trans (U.mem (List.mem_map.2 ⟨y, hy, rfl⟩)) (Nat.le_trans (U.agg _) hb))
  refine ⟨a, h1, ?_⟩
  rw [lay_flat cs hl (by omega)] at h2
  simpa [← hlen] using h2

/-- A struct that is an argument. -/
theorem open_arg {t : TypeId} {fs : Array Field} (ht : P.underlying t = some (.struct fs)) {α : Type} {pic : α → List AV} {ok : α → Prop} (O : Opens enc P μ B t pic ok) {w : World} {r : Reach} {b0 : Nat} {v : Value} {d : DataW H} {ps : List MemPlace}
    (hv : Value.okWide P w r b0 t v) (h : DataW.Trod enc P w 0 (fun _ => true) true t v d ps) (hp : ∀ p ∈ ps, p.block < w.heap.size) (hb : μ d ≤ B) : ∃ a, ok a ∧ VR (old w) [] w (.agg (pic a)) v := by
  obtain ⟨cs, rfl, _⟩ := okWide_struct ht hv
  obtain ⟨n, hn⟩ := h
  obtain ⟨a, h1, h2⟩ := O w n _ _ hn hp hb
  refine ⟨a, h1, .agg _ _ (by simpa [Value.cells] using h2.1) fun i c hi => ?_⟩
  obtain ⟨u, hu, hr⟩ := h2.2 i c hi
  have hu' : cs[i]? = some u := by simpa [Value.cells] using hu
  rw [Array.getD_eq_getD_getElem?, hu']
  exact hr
end
end Go.Rv

/-
  Package-level variables that a row lists: what lies in them when the call begins.
-/
set_option linter.unusedSimpArgs false
set_option linter.unusedVariables false
namespace Go.Rv
open Go.ChangeShapes Go.WideShapes Go.Deep Go.RowKit

/-- The cells of plain parts. -/
def litParts (P : Program) (rec : TypeId → DataW Unit → Option (List Value)) : List (TypeId × Nat) → List (DataW Unit) → Nat → Option (List Value)
  | [], [], _ => some []
  | (t, off) :: fs, d :: ds, o =>
    if off = o then (rec t d).bind fun v => if v.length = P.cellsOf t then (litParts P rec fs ds (o + v.length)).map (v ++ ·) else none else none
  | _, _, _ => none

/-- The cells of a plain datum at a type. -/
def litC (P : Program) : Nat → TypeId → DataW Unit → Option (List Value)
  | 0, _, _ => none
  | n + 1, t, d => match P.underlying t, d with
    | some .bool, .lit (.bool b) => some [.bool b]
    | some (.int k), .lit (.int _ z) => some [.int k z]
    | some .string, .lit (.string l) => some [.string ⟨l.toArray⟩]
    | some (.struct fs), .agg ds => (litParts P (litC P n) (fs.toList.map fun f => (f.type, f.offset)) ds 0).bind fun vs => if vs.length = P.cellsOf t then some vs else none
    | some (.array m e), .agg ds => (litParts P (litC P n) ((List.range m).map fun i => (e, i * P.cellsOf e)) ds 0).bind fun vs => if vs.length = P.cellsOf t then some vs else none
    | _, _ => none

section
variable {P : Program} {w : World}
abbrev tr (P : Program) (w : World) (b : Nat) (sp : Nat → Bool) (hd : Bool) := DataW.trod (fun _ => ()) P w b sp hd

theorem litParts_eq {b : Nat} {sp : Nat → Bool} {hd : Bool} {m : Nat} {rec : TypeId → DataW Unit → Option (List Value)} (hrec : ∀ t cs d ps v, tr P w b sp hd m t cs = some (d, ps) → rec t d = some v → cs = v) {cs : List Value} :
    ∀ (fs : List (TypeId × Nat)) (ds : List (DataW Unit)) (o : Nat) (vs : List Value), litParts P rec fs ds o = some vs →
    (∀ (i : Nat) t off, fs[i]? = some (t, off) → ∃ d ps, ds[i]? = some d ∧ tr P w b sp hd m t ((cs.drop off).take (P.cellsOf t)) = some (d, ps)) → o + vs.length = cs.length → cs.drop o = vs
  | [], [], o, vs, h, _, hl => by
    simp only [litParts, Option.some.injEq] at h
    subst h
    simp at hl
    simp [List.drop_eq_nil_iff, hl]
  | [], _ :: _, o, vs, h, _, _ => by simp [litParts] at h
  | _ :: _, [], o, vs, h, _, _ => by simp [litParts] at h
  | (t, off) :: fs, d :: ds, o, vs, h, H, hl => by
    simp only [litParts] at h
    split at h
    · rename_i ho
      subst ho
      obtain ⟨v, hv, h⟩ := Option.bind_eq_some_iff.1 h
      split at h
      · rename_i hvl
        obtain ⟨r, hr, rfl⟩ := Option.map_eq_some_iff.1 h
        obtain ⟨d', ps, hd', ht⟩ := H 0 t off rfl
        simp at hd'
        subst hd'
        have h1 := hrec _ _ _ _ _ ht hv
        have h2 := litParts_eq hrec fs ds (off + v.length) r hr (fun i t' off' hi => by
          obtain ⟨d', ps, k1, k2⟩ := H (i + 1) t' off' (by simpa using hi)
          exact ⟨d', ps, by simpa using k1, k2⟩) (by simp at hl; omega)
        rw [← h2]
        have h3 : cs.drop off = (cs.drop off).take v.length ++ (cs.drop off).drop v.length := (List.take_append_drop _ _).symm
        rw [h3, List.drop_drop]
        rw [hvl] at *
        rw [h1]
      · cases h
    · cases h

theorem litC_eq {b : Nat} {sp : Nat → Bool} {hd : Bool} : ∀ (n m : Nat) (t : TypeId) (cs : List Value) (d : DataW Unit) (ps : List MemPlace) (vs : List Value), tr P w b sp hd m t cs = some (d, ps) → litC P n t d = some vs → cs = vs
  | 0, _, _, _, _, _, _, _, h => by simp [litC] at h
  | n + 1, m, t, cs, d, ps, vs, ht, h => by
    simp only [litC] at h
    split at h
    · rename_i hu
      obtain ⟨b', rfl, hx⟩ := DataW.trod_bool hu ht
      simp only [Prod.mk.injEq, DataW.lit.injEq, Lit.bool.injEq] at hx
      simp only [Option.some.injEq] at h
      rw [← h, ← hx.1]
    · rename_i hu
      obtain ⟨b', rfl, hx, _⟩ := DataW.trod_int hu ht
      simp only [Prod.mk.injEq, DataW.lit.injEq, Lit.int.injEq] at hx
      simp only [Option.some.injEq] at h
      rw [← h, ← hx.1.2]
    · rename_i hu
      obtain ⟨b', rfl, hx, _⟩ := DataW.trod_string hu ht
      simp only [Prod.mk.injEq, DataW.lit.injEq, Lit.string.injEq] at hx
      simp only [Option.some.injEq] at h
      rw [← h, hx.1]
    · rename_i fs ds hu
      obtain ⟨xs, m', rfl, hx, hcl, hxl, hel⟩ := DataW.trod_struct hu ht
      simp only [Prod.mk.injEq, DataW.agg.injEq] at hx
      obtain ⟨vs', h1, h⟩ := Option.bind_eq_some_iff.1 h
      split at h <;> first | cases h | skip
      rename_i hlen
      have := litParts_eq (w := w) (b := b) (sp := sp) (hd := hd) (m := m') (cs := cs) (fun t cs d ps v k1 k2 => litC_eq n m' t cs d ps v k1 k2) _ _ 0 vs h1 (fun i t' off hi => ?_) (by omega)
      · simpa using this
      · rw [List.getElem?_map] at hi
        obtain ⟨f, hf, hfe⟩ := Option.map_eq_some_iff.1 hi
        simp only [Prod.mk.injEq] at hfe
        obtain ⟨rfl, rfl⟩ := hfe
        have hlt : i < fs.size := by have := (List.getElem?_eq_some_iff.1 hf).1; simpa using this
        have he := hel i f (by rw [← Array.getElem?_toList]; exact hf)
        rw [List.getElem?_eq_getElem (by omega)] at he
        refine ⟨(xs[i]).1, (xs[i]).2, ?_, he⟩
        rw [hx.1, List.getElem?_map, List.getElem?_eq_getElem (by omega)]
        rfl
    · rename_i k e ds hu
      obtain ⟨xs, m', rfl, hx, hcl, hxl, hel⟩ := DataW.trod_array hu ht
      simp only [Prod.mk.injEq, DataW.agg.injEq] at hx
      obtain ⟨vs', h1, h⟩ := Option.bind_eq_some_iff.1 h
      split at h <;> first | cases h | skip
      rename_i hlen
      have := litParts_eq (w := w) (b := b) (sp := sp) (hd := hd) (m := m') (cs := cs) (fun t cs d ps v k1 k2 => litC_eq n m' t cs d ps v k1 k2) _ _ 0 vs h1 (fun i t' off hi => ?_) (by omega)
      · simpa using this
      · rw [List.getElem?_map] at hi
        obtain ⟨i', hi', hfe⟩ := Option.map_eq_some_iff.1 hi
        have hlt : i < k := by have := (List.getElem?_eq_some_iff.1 hi').1; simpa using this
        rw [List.getElem?_range hlt] at hi'
        injection hi' with hi'; subst hi'
        simp only [Prod.mk.injEq] at hfe
        obtain ⟨rfl, rfl⟩ := hfe
        have he := hel i hlt
        rw [List.getElem?_eq_getElem (by omega)] at he
        refine ⟨(xs[i]).1, (xs[i]).2, ?_, he⟩
        rw [hx.1, List.getElem?_map, List.getElem?_eq_getElem (by omega)]
        rfl
    · cases h

/-- The cells that the interpreter is told of a variable. -/
def globA (P : Program) (t : TypeId) (d : DataW Unit) : Option AV := ((litC P 8 t d).bind fun vs => mapO ofValue vs).map .ref

/-- A listed variable: what the interpreter is told of it. -/
theorem glob_rel {n : String} {g : Nat} {t : TypeId} {d : DataW Unit} {cs : Array Value} {b fuel : Nat} {sp : Nat → Bool} {hd : Bool} {ps : List MemPlace} {v : AV} (hg : P.globalNamed n = some g) (hv : w.var? P n = some cs)
    (ht : tr P w b sp hd fuel t cs.toList = some (d, ps)) (ha : globA P t d = some v) : v ≠ .junk ∧ VR (old w) [] w v (.pointer (some ⟨g, 0, none⟩)) := by
  unfold globA at ha
  obtain ⟨avs, h1, rfl⟩ := Option.map_eq_some_iff.1 ha
  obtain ⟨vs, h2, h3⟩ := Option.bind_eq_some_iff.1 h1
  have hcs := litC_eq 8 fuel t cs.toList d ps vs ht h2
  obtain ⟨m1, m2⟩ := mapO_get h3
  have hcell : ∀ (i : Nat) c, avs[i]? = some c → w.cell? ⟨g, 0 + i, none⟩ = some (vs.getD i undef) ∧ VR (old w) [] w c (vs.getD i undef) := fun i c hi => by
    have hlt : i < vs.length := by rw [← m1]; exact (List.getElem?_eq_some_iff.1 hi).1
    obtain ⟨a, k1, k2⟩ := m2 i vs[i] (List.getElem?_eq_getElem hlt)
    rw [hi] at k1
    injection k1 with k1; subst k1
    have hget : vs.getD i undef = vs[i] := by simp [List.getD, hlt]
    rw [hget]
    refine ⟨?_, ofValue_rel k2⟩
    rw [Nat.zero_add, World.var?_cell hg hv i]
    rw [← Array.getElem?_toList, hcs, List.getElem?_eq_getElem hlt]
  refine ⟨by simp, .ref avs g 0 (fun i => vs.getD i undef) (fun h0 => ?_) (fun i c hi => (hcell i c hi).1) (fun i c hi => (hcell i c hi).2)⟩
  exact cell_block (hcell 0 _ (List.getElem?_eq_getElem h0)).1

/-- A function of a program some of whose variables are known. -/
theorem entry_glob {T : RvTold} {P : Program} (hp : PrimOk P (T.cfg P)) (hm : P.follows .mixedOrders = true) {f : Nat} {args : List AV} {v : AV} {h' : Heap} (hc : call (T.cfg P) f args [] = some (.ret v, h'))
    {w : World} (hcl : ∀ g v, T.glob g = some v → ∀ h, freezeV h 0 40 v = some v) (hg : ∀ g v, T.glob g = some v → v ≠ .junk ∧ VR (old w) [] w v (.pointer (some ⟨g, 0, none⟩))) {vs : List Value} (H : VRs (old w) [] w args vs) : Calls P f vs.toArray w (fun e w' => Below w.heap.size w w' ∧ ∃ u s', e = .returned u ∧ VR s' h' w' v u) := by
  have G : GG (T.cfg P) (ordOk (T.cfg P)) { old w with good := ⟨goodOf (ordOk (T.cfg P)), fun _ _ => True, []⟩ } [] w := ⟨fun g x hx => (hg g x hx).2.regood _, rfl⟩
  have := RvTold.sound (T := T) (P := P) (fun g x hx => (hg g x hx).1) hcl hp hm hc (old_rel _ w) G (H.regood _)
  refine Calls.mono this fun e w' he => ?_
  obtain ⟨s', E, R, hv⟩ := he
  refine ⟨below_of_ext E, ?_⟩
  cases e with
  | returned u => exact ⟨u, s', rfl, hv⟩
  | panicked _ => exact hv.elim
  | outgrown => exact hv.elim
end
end Go.Rv
