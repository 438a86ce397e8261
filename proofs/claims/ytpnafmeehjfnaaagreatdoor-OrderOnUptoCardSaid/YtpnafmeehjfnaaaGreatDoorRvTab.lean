/-
  The interpreter's tables, taken from the program itself: nothing to be laid by hand.
-/
import Derived.Test.YtpnafmeehjfnaaaGreatDoorRvSound
set_option linter.unusedSimpArgs false
set_option linter.unusedVariables false
namespace Go.Rv

def tdOf : TypeDesc → Option TD
  | .bool => some .bool
  | .int k => some (.int k)
  | .string => some .str
  | .pointer _ => some .ptr
  | .func .. => some .func
  | .interface _ => some .iface
  | .slice e => some (.slice e)
  | .array n e => some (.array n e)
  | .map k e => some (.map k e)
  | .struct fs => some (.struct (fs.toList.map fun f => (f.type, f.offset)))
  | _ => none

theorem tdOf_ok {d : TypeDesc} {t : TD} (h : tdOf d = some t) : TD.ok d t := by
  cases d <;> simp only [tdOf, Option.some.injEq, reduceCtorEq] at h <;> subst h <;> simp [TD.ok]

def fieldsOk (P : Program) : TypeDesc → Bool
  | .struct fs => fs.all fun f => (P.info? f.type).isSome
  | _ => true

def tiOf (P : Program) (t : Nat) : Option TI :=
  match P.info? t, P.underlying t with
  | some i, some d => match i.zero, tdOf d with
    | some z, some td => match mapO ofValue z.cells.toList with
      | some zs => if decide (i.bytes ≤ 4096) && zs.length == i.size && fieldsOk P d && wholeB td.isAgg z then some ⟨td, i.size, i.bytes, zs⟩ else none
      | none => none
    | _, _ => none
  | _, _ => none

theorem tiOf_ok {P : Program} {t : Nat} {ti : TI} (h : tiOf P t = some ti) : TyOk P t ti := by
  unfold tiOf at h
  split at h
  · rename_i i d hi hd
    split at h
    · rename_i z td hz htd
      split at h
      · rename_i zs hzs
        split at h
        · rename_i hb
          simp only [Bool.and_eq_true, decide_eq_true_eq, beq_iff_eq] at hb
          obtain ⟨⟨⟨b1, b2⟩, b3⟩, b4⟩ := hb
          simp only [Option.some.injEq] at h
          subst h
          obtain ⟨m1, m2⟩ := mapO_get hzs
          refine ⟨⟨i, z, hi, rfl, rfl, hz, by simpa using m1.symm, fun j c hj => ?_⟩, ⟨d, hd, tdOf_ok htd⟩, b1, b2, fun fs hfs f hf => ?_, fun i' z' hi' hz' => ?_⟩
          · have hlt : j < z.cells.toList.length := by rw [← m1]; exact (List.getElem?_eq_some_iff.1 hj).1
            obtain ⟨b, k1, k2⟩ := m2 j _ (List.getElem?_eq_getElem hlt)
            rw [hj] at k1
            injection k1 with k1; subst k1
            rw [← k2]
            congr 1
            rw [Array.getD_eq_getD_getElem?]
            simp at hlt
            simp [hlt]
          · rw [hd] at hfs
            injection hfs with hfs; subst hfs
            have := Array.all_eq_true_iff_forall_mem.1 b3 f hf
            exact Option.isSome_iff_exists.1 this
          · rw [hi] at hi'; injection hi' with hi'; subst hi'
            rw [hz] at hz'; injection hz' with hz'; subst hz'
            exact b4
        · cases h
      · cases h
    · cases h
  · cases h

def okB (C : Cfg) (f : Nat) (fn : Func) (b : Code) : Bool := !(fn.name == "runtime.NumGoroutine") && decide (fn.params.size + fn.nfree ≤ fn.ntmps) && codeOk (ordOk C f) fn.ntmps b

def fnsOf (P : Program) (C : Cfg) (f : Nat) : Option FI :=
  match P.funcs[f]? with
  | some fn => match fn.body with
    | some b => if okB C f fn b then some ⟨fn.params.size + fn.nfree, fn.results.toList, b⟩ else none
    | none => none
  | none => none

/-- What the interpreter is told beside the program. -/
structure RvTold where
  glob : Nat → Option AV := fun _ => none
  pure : Nat → Bool := fun _ => true
  imm : Nat → Nat → Bool := fun _ _ => false
  live : Nat → Nat → Option (List Nat) := fun _ _ => none
  prim : Nat → Option (List AV → Heap → Option (CRes × Heap)) := fun _ => none
  quiet : Nat → Nat → Bool := fun _ _ => false
  loose : Nat → Nat → List Nat := fun _ _ => []
  alone : Nat → Bool := fun _ => false
  rounds : Nat → Bool := fun _ => false

def RvTold.bare (T : RvTold) (P : Program) : Cfg := { ty := tiOf P, fn := fun _ => none, glob := T.glob, pure := T.pure, imm := T.imm, live := T.live, prim := T.prim, quiet := T.quiet, loose := T.loose, alone := T.alone, rounds := T.rounds, flat := fun t cs => flatKey P t cs && !P.eqGuardType P.depth t }
def RvTold.cfg (T : RvTold) (P : Program) : Cfg := { T.bare P with fn := fnsOf P (T.bare P) }

theorem fn_of {T : RvTold} {P : Program} {f : Nat} {fn : Func} {b : Code} (h1 : P.funcs[f]? = some fn) (h2 : fn.body = some b) (h3 : okB (T.bare P) f fn b = true) : (T.cfg P).fn f = some ⟨fn.params.size + fn.nfree, fn.results.toList, b⟩ := by
  show fnsOf P (T.bare P) f = _
  unfold fnsOf
  rw [h1]
  simp only [h2, h3, if_true]

theorem pairs_bare (T : RvTold) (P : Program) (f : Nat) (ops : Array Oper) (b : Array Nat) : ∀ l, pairsOk (T.bare P) f ops b l = pairsOk (T.cfg P) f ops b l
  | [] => rfl
  | i :: r => by
    simp only [pairsOk, pairs_bare T P f ops b r]
    rfl
theorem ord_bare (T : RvTold) (P : Program) : ordOk (T.bare P) = ordOk (T.cfg P) := by
  funext f ops
  simp only [ordOk, pairs_bare]

theorem RvTold.ok {T : RvTold} {P : Program} (hg : GlobOk (T.cfg P)) (hcl : ∀ g v, T.glob g = some v → ∀ h, freezeV h 0 40 v = some v) (hp : PrimOk P (T.cfg P)) (hm : P.follows .mixedOrders = true) : Ok P (T.cfg P) (ordOk (T.cfg P)) where
  ty := ⟨fun t ti h => tiOf_ok h, fun t cs h => by
      have h : (flatKey P t cs && !P.eqGuardType P.depth t) = true := h
      simp only [Bool.and_eq_true] at h; exact h.1, fun t cs h => by
      have h : (flatKey P t cs && !P.eqGuardType P.depth t) = true := h
      simp only [Bool.and_eq_true, Bool.not_eq_true'] at h; exact h.2⟩
  glob := hg
  close := hcl
  prim := hp
  fn f fi h := by
    change fnsOf P (T.bare P) f = some fi at h
    unfold fnsOf at h
    split at h
    · rename_i fn hfn
      split at h
      · rename_i b hb
        split at h
        · rename_i hok
          simp only [okB, Bool.and_eq_true, Bool.not_eq_true', decide_eq_true_eq] at hok
          obtain ⟨⟨k1, k2⟩, k3⟩ := hok
          simp only [Option.some.injEq] at h
          subst h
          exact ⟨fn, hfn, hb, rfl, k1, k2, by rw [← ord_bare]; exact k3⟩
        · cases h
      · cases h
    · cases h
  mixed := hm

theorem RvTold.sound {T : RvTold} {P : Program} (hg : GlobOk (T.cfg P)) (hcl : ∀ g v, T.glob g = some v → ∀ h, freezeV h 0 40 v = some v) (hp : PrimOk P (T.cfg P)) (hm : P.follows .mixedOrders = true) {s : Sim} {h : Heap} {w : World} {f : Nat} {args : List AV} {res : CRes} {h' : Heap} (hc : call (T.cfg P) f args h = some (res, h'))
    {vs : List Value} (R : Rel s h w) (G : GG (T.cfg P) (ordOk (T.cfg P)) s h w) (H : VRs s h w args vs) : Calls P f vs.toArray w (EndOk s h w res h') :=
  call_sound (RvTold.ok hg hcl hp hm) (fun _ _ h => h) hc R G H
end Go.Rv
