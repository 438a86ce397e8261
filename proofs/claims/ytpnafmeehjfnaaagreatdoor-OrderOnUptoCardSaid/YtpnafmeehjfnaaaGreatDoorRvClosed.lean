/-
  Closed calls: orders looked at ahead; a call whose answer is known, as one step.
-/
import Derived.Test.YtpnafmeehjfnaaaGreatDoorRvFastS
import Derived.Test.YtpnafmeehjfnaaaGreatDoorRvGlob
import Derived.Test.YtpnafmeehjfnaaaGreatDoorRvSortOk
set_option linter.unusedSimpArgs false
set_option linter.unusedVariables false
namespace Go.Rv

section
variable {C C' : Cfg}
theorem loud_same (h1 : C.pure = C'.pure) (h2 : C.imm = C'.imm) (h3 : C.quiet = C'.quiet) (f : Nat) (o : Oper) : loudOp C f o = loudOp C' f o := by unfold loudOp; rw [h1, h2, h3]
theorem touch_same (h2 : C.imm = C'.imm) (h3 : C.quiet = C'.quiet) (h5 : C.ty = C'.ty) (f : Nat) (o : Oper) : touchOp C f o = touchOp C' f o := by unfold touchOp; rw [h2, h3, h5]
theorem heapC_same (h1 : C.pure = C'.pure) (h2 : C.imm = C'.imm) (h3 : C.quiet = C'.quiet) (h5 : C.ty = C'.ty) (f : Nat) (x y : Oper) : heapC C f x y = heapC C' f x y := by
  unfold heapC
  rw [loud_same h1 h2 h3, loud_same h1 h2 h3, touch_same h2 h3 h5, touch_same h2 h3 h5]
theorem looseP_same (h1 : C.pure = C'.pure) (h2 : C.imm = C'.imm) (h3 : C.quiet = C'.quiet) (h4 : C.loose = C'.loose) (f i : Nat) (x y : Oper) : looseP C f i x y = looseP C' f i x y := by
  unfold looseP
  rw [loud_same h1 h2 h3, h4]
theorem anyLoose_same (h4 : C.loose = C'.loose) (f : Nat) (ops : Array Oper) : anyLoose C f ops = anyLoose C' f ops := by unfold anyLoose; rw [h4]
theorem pairs_same (h1 : C.pure = C'.pure) (h2 : C.imm = C'.imm) (h3 : C.quiet = C'.quiet) (h4 : C.loose = C'.loose) (h5 : C.ty = C'.ty) (f : Nat) (ops : Array Oper) (b : Array Nat) : ∀ l, pairsOk C f ops b l = pairsOk C' f ops b l
  | [] => rfl
  | i :: r => by
    simp only [pairsOk, pairs_same h1 h2 h3 h4 h5 f ops b r, heapC_same h1 h2 h3 h5, looseP_same h1 h2 h3 h4, anyLoose_same h4]
theorem okB_same (h1 : C.pure = C'.pure) (h2 : C.imm = C'.imm) (h3 : C.quiet = C'.quiet) (h4 : C.loose = C'.loose) (h5 : C.ty = C'.ty) (f : Nat) (fn : Func) (b : Code) : okB C f fn b = okB C' f fn b := by
  have : ordOk C f = ordOk C' f := by
    funext ops
    simp only [ordOk, pairs_same h1 h2 h3 h4 h5]
  unfold okB
  rw [this]
theorem fnOk_same (h1 : C.pure = C'.pure) (h2 : C.imm = C'.imm) (h3 : C.quiet = C'.quiet) (h4 : C.loose = C'.loose) (h5 : C.ty = C'.ty) (P : Program) (f : Nat) : fnOk P C f = fnOk P C' f := by
  unfold fnOk
  simp only [okB_same h1 h2 h3 h4 h5]
end

/-- Functions whose orders were looked at. -/
def hasN (l : List Nat) (f : Nat) : Bool := l.any (Nat.beq f)
noncomputable def fnsL (P : Program) (l : List Nat) (f : Nat) : Option FI := match hasN l f with
  | true => fnsB P f
  | false => none
theorem fnsL_ok {P : Program} {T T0 : RvTold} {l : List Nat} (hl : l.all (fnOk P (T0.bare P)) = true) (h1 : T.pure = T0.pure) (h2 : T.imm = T0.imm) (h3 : T.quiet = T0.quiet) (h4 : T.loose = T0.loose) {f : Nat} {fi : FI} (hf : fnsL P l f = some fi) : (T.cfg P).fn f = some fi := by
  unfold fnsL at hf
  cases hh : hasN l f with
  | false => rw [hh] at hf; cases hf
  | true =>
    rw [hh] at hf
    simp only at hf
    obtain ⟨x, hx, hb⟩ := List.any_eq_true.1 hh
    obtain rfl := Nat.eq_of_beq_eq_true hb
    have := List.all_eq_true.1 hl f hx
    show fnsOf P (T.bare P) f = _
    rw [fnsB_eq (by rw [fnOk_same (C := T.bare P) (C' := T0.bare P) h1 h2 h3 h4 rfl]; exact this)]
    exact hf

/-- Taken, told twice. -/
abbrev Taken := Nat → Option ((List AV → Rdr → Nat → Option (CRes × Eff)) × (List AV → Heap → Option (CRes × Heap)))
def Taken.q (S : Taken) : PrimT := fun f => match S f with
  | some x => some x.1
  | none => none
def Taken.p (S : Taken) (f : Nat) : Option (List AV → Heap → Option (CRes × Heap)) := match S f with
  | some x => some x.2
  | none => none

theorem steps_twin {P : Program} {T T0 : RvTold} {S : Taken} {l : List Nat} (hS : ∀ f q p, S f = some (q, p) → TwinP q p) (hp : T.prim = S.p) (hl : l.all (fnOk P (T0.bare P)) = true) (h1 : T.pure = T0.pure) (h2 : T.imm = T0.imm) (h3 : T.quiet = T0.quiet) (h4 : T.loose = T0.loose) :
    TwinOk (T.cfg P) S.q (fnsL P l) where
  prim f q hq := by
    unfold Taken.q at hq
    cases hs : S f with
    | none => rw [hs] at hq; cases hq
    | some x =>
      rw [hs] at hq
      simp only [Option.some.injEq] at hq
      subst hq
      refine ⟨x.2, ?_, hS f x.1 x.2 hs⟩
      show T.prim f = _
      rw [hp]
      unfold Taken.p
      rw [hs]
  fn f fi hq hf := by
    refine ⟨?_, fnsL_ok hl h1 h2 h3 h4 hf⟩
    show T.prim f = none
    rw [hp]
    unfold Taken.q at hq
    unfold Taken.p
    cases hs : S f with
    | none => rfl
    | some x => rw [hs] at hq; cases hq

section
variable {P : Program}
/-- A call without arguments that was run on the empty heap: on any heap it answers the same. -/
theorem closed_call {T : RvTold} (hp : PrimOk P (T.cfg P)) (hm : P.follows .mixedOrders = true) (hcl : ∀ g v, T.glob g = some v → ∀ h, freezeV h 0 40 v = some v) (hgk : ∀ g v, T.glob g = some v → v ≠ .junk) {f : Nat} {v : AV} {h0 : Heap} (hpl : v.plain = true)
    (hc : call (T.cfg P) f [] [] = some (.ret v, h0)) {C2 : Cfg} (hG : C2.glob = T.glob) {s : Sim} {h : Heap} {w : World} (R : Rel s h w) (G : Glob C2 s h w) : CallOk P f [] s h w (.ret v) h := by
  let s0 : Sim := { s.cut 0 with good := ⟨goodOf (ordOk (T.cfg P)), fun _ _ => True⟩ }
  have Rz := rel_zero R
  have R0 : Rel s0 [] w := ⟨Rz.inj, fun o b hb => by simp [s0, Sim.cut] at hb, fun o b hb => by simp [s0, Sim.cut] at hb, Rz.imm⟩
  have G0 : GG (T.cfg P) (ordOk (T.cfg P)) s0 [] w := ⟨fun g x hg => (freeze_zero R (hcl g x hg h) (G g x (by rw [hG]; exact hg))).regood _, rfl⟩
  have run := RvTold.sound (T := T) (P := P) hgk hcl hp hm hc (vs := []) R0 G0 ⟨rfl, fun i c hi => by simp at hi⟩
  refine Calls.mono run fun e w' he => ?_
  obtain ⟨s', E, R', hv⟩ := he
  obtain ⟨E2, R2⟩ := ext_same R E.size (fun b hb => E.far b hb (fun o ho => by simp [s0, Sim.cut] at ho)) E.os E.tape E.output
  refine ⟨s, E2, R2, ?_⟩
  cases e with
  | returned u => exact plain_rel v hpl hv
  | panicked _ => exact hv.elim
  | outgrown => exact hv.elim

theorem const_ok {T : RvTold} (hp : PrimOk P (T.cfg P)) (hm : P.follows .mixedOrders = true) (hcl : ∀ g v, T.glob g = some v → ∀ h, freezeV h 0 40 v = some v) (hgk : ∀ g v, T.glob g = some v → v ≠ .junk) {f : Nat} {v : AV} {h0 : Heap} (hpl : v.plain = true)
    (hc : call (T.cfg P) f [] [] = some (.ret v, h0)) {C2 : Cfg} (hG : C2.glob = T.glob) {args : List AV} {h h' : Heap} {res : CRes} (hq : constP v args h = some (res, h')) {s : Sim} {w : World} {vs : List Value} (R : Rel s h w) (G : Glob C2 s h w) (H : VRs s h w args vs) : CallOk P f vs s h w res h' := by
  cases args with
  | cons a r => cases hq
  | nil =>
    simp only [constP, Option.some.injEq, Prod.mk.injEq] at hq
    obtain ⟨rfl, rfl⟩ := hq
    have : vs = [] := List.length_eq_zero_iff.1 H.1.symm
    subst this
    exact closed_call hp hm hcl hgk hpl hc hG R G

theorem prims_of {T : RvTold} {S : Taken} (hT : T.prim = S.p) (hpu : ∀ f, T.pure f = false) (hS : ∀ f q p, S f = some (q, p) → Known P f ∧ ∀ args h res h', p args h = some (res, h') → ∀ s w vs, Rel s h w → Glob (T.cfg P) s h w → VRs s h w args vs → CallOk P f vs s h w res h') : PrimOk P (T.cfg P) := fun f p hp => by
  have hp : T.prim f = some p := hp
  rw [hT] at hp
  unfold Taken.p at hp
  cases hs : S f with
  | none => rw [hs] at hp; cases hp
  | some x =>
    rw [hs] at hp
    simp only [Option.some.injEq] at hp
    subst hp
    obtain ⟨k1, k2⟩ := hS f x.1 x.2 hs
    refine ⟨k1, fun hpure => ?_, k2⟩
    have : T.pure f = true := hpure
    rw [hpu f] at this
    cases this
end
end Go.Rv
