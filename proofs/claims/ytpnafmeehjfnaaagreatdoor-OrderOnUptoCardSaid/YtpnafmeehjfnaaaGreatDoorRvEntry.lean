/-
  From the interpreter's answer to a claim's post-condition: the world is as it was, but for new memory.
-/
import Derived.Test.YtpnafmeehjfnaaaGreatDoorRvTab
import Derived.ChangeSame
import Derived.RowKit3
import Derived.JoinedOf
import Derived.JoinedAt
import Derived.Lib.SmallJoins
set_option linter.unusedSimpArgs false
set_option linter.unusedVariables false
namespace Go.Rv

def bare : Sim := { μ := fun _ => none, I := fun _ => False, good := ⟨fun _ _ _ _ _ => False, fun _ _ => False⟩ }

/-- What was there is as it was. -/
structure Same (w w' : World) : Prop where
  kept : w.keptBut w' (fun _ => False)
  frozen : ∀ a : Addr, a.block < w.heap.size → w'.frozen? a = w.frozen? a
  size : w.heap.size ≤ w'.heap.size

theorem same_of_ext {s' : Sim} {h' : Heap} {w w' : World} {g : Fixed} (E : Ext { bare with good := g } [] w s' h' w') : Same w w' where
  kept := by
    refine ⟨E.os, E.output, fun i hi => ?_⟩
    rw [E.far i hi (fun o hx => by cases hx)]
    cases w.heap[i]? with
    | none => rfl
    | some o =>
      cases o <;> first | rfl | exact ⟨rfl, rfl, rfl, fun _ _ => rfl⟩ | exact .inr ⟨rfl, rfl⟩
  frozen a ha := by
    unfold World.frozen?
    rw [E.far a.block ha (fun o hx => by cases hx)]
  size := E.size

theorem bare_rel (g : Fixed) (w : World) : Rel { bare with good := g } [] w where
  inj _ _ _ h := by cases h
  obj _ _ h := by cases h
  apart _ _ h := by cases h
  imm _ h := h.elim

/-- A function of plain values. -/
theorem entry {T : RvTold} {P : Program} (hg : ∀ g, T.glob g = none) (hp : ∀ f, T.prim f = none) (hm : P.follows .mixedOrders = true) {f : Nat} {args : List AV} {v : AV} {h' : Heap} (hc : call (T.cfg P) f args [] = some (.ret v, h'))
    {w : World} {vs : List Value} (H : VRs bare [] w args vs) : Calls P f vs.toArray w (fun e w' => Same w w' ∧ ∃ u s', e = .returned u ∧ VR s' h' w' v u) := by
  have G : GG (T.cfg P) (ordOk (T.cfg P)) { bare with good := ⟨goodOf (ordOk (T.cfg P)), fun _ _ => True⟩ } [] w := ⟨fun g x hx => absurd hx (by change T.glob g ≠ some x; rw [hg]; simp), rfl⟩
  have := RvTold.sound (T := T) (P := P) (fun g x hx => by change T.glob g = some x at hx; rw [hg] at hx; cases hx) (fun g x hx => by rw [hg] at hx; cases hx) (fun g x hx => by change T.prim g = some x at hx; rw [hp] at hx; cases hx) hm hc (bare_rel _ w) G (H.regood _)
  refine Calls.mono this fun e w' he => ?_
  obtain ⟨s', E, R, hv⟩ := he
  refine ⟨same_of_ext E, ?_⟩
  cases e with
  | returned u => exact ⟨u, s', rfl, hv⟩
  | panicked _ => exact hv.elim
  | outgrown => exact hv.elim

section
open Go.ChangeShapes Go.WideShapes Go.ChangeAt Go.RowKit
variable {H : Type} {enc : TypeId × Value → H} {P : Program}
/-- As the kit's 'post_of_same', but asking of the frozen cells only where they are old. -/
theorem post_of_kept {f : Func} {s : ChangeSpec} {apart fresh handsOn again : Bool} {W W' : World} {args : Array Value} {v : Value} {ds gs : List (DataW H)} {before pa pv : List MemPlace}
    (hW : DataW.Whole enc P f.params.toList s.vars apart W args.toList ds gs before)
    (hres : ∀ (b : Nat) (sp : Nat → Bool) (hd : Bool), DataW.TrodAll enc P W' b sp hd f.resultTypes.toList (v.resultList f.resultTypes.size) (s.fn H (ds ++ gs)).results [])
    (hargs : ∀ sp : Nat → Bool, (∀ p ∈ before, sp p.block = true) → DataW.TrodAll enc P W' 0 sp true f.params.toList args.toList (s.fn H (ds ++ gs)).args pa)
    (hvars : ∀ sp : Nat → Bool, (∀ p ∈ before, sp p.block = true) → DataW.TrodVars enc P W' sp s.vars (s.fn H (ds ++ gs)).vars pv)
    (hps : before = pa ++ pv) (hS : Same W W')
    (hok : ∀ (j : Nat) (t : TypeId) (r : Value), f.resultTypes[j]? = some t → (v.resultList f.resultTypes.size)[j]? = some r → Value.okWide P W' .any 0 t r) :
    s.post enc P f apart fresh handsOn again W args v W' := by
  have hlt : ∀ p ∈ before, p.block < W.heap.size := fun p hp => hW.lt p hp
  have hold : ∀ p ∈ before, (fun b => decide (b < W.heap.size)) p.block = true := fun p hp => by simpa using hlt p hp
  refine ⟨ds, gs, before, [], pa, pv, hW, hres _ _ _, hargs _ hold, hvars _ hold, World.keptBut_mono (fun p hp => hp.elim) hS.kept, fun _ => ?_⟩
  obtain ⟨_, _, _, _, _, hz, hn⟩ := hW
  refine ⟨hok, _, _, ([] ++ pa) ++ pv, ⟨[] ++ pa, pv, trodAll_append (hargs _ (fun _ _ => rfl)) (hres _ _ _), hvars _ (fun _ _ => rfl), rfl, ?_, ?_⟩, ?_⟩
  · intro b off hp
    have hp' : (MemPlace.cell b off) ∈ before := by rw [hps]; simpa using hp
    rw [hS.frozen _ (hlt _ hp')]
    exact hz b off hp'
  · intro ha
    have := hn ha
    rw [hps] at this
    simpa using this
  · intro p hp _
    rw [hps]
    simpa using hp
end
end Go.Rv
