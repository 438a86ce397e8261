/-
  Layers: a call under another told as one step (callP); arguments made immutable for good ahead of it (iceA).
-/
import Derived.Test.YtiigpcapieeljaaGreatDoorPtE
set_option linter.unusedSimpArgs false
set_option linter.unusedVariables false
namespace Go.Rv
noncomputable section

/-! ### Which rounds' code may be, is of no weight where there are no rounds -/
def noLoop (h : Heap) : Bool := h.all fun x => match x with | .loop _ => false | _ => true
def Sim.re (s : Sim) (g : Nat → Nat → List Nat → Code → Code → Prop) : Sim := { s with good := ⟨g, s.good.pin, s.good.tail⟩ }
section
variable {s : Sim} {h : Heap} {w : World}
theorem noLoop_at (hn : noLoop h = true) {o : Nat} {r : ALoop} (hx : h[o]? = some (.loop r)) : False := by
  have := List.all_eq_true.1 hn _ (List.mem_of_getElem? hx)
  cases this
theorem Rel.re (g : Nat → Nat → List Nat → Code → Code → Prop) (hn : noLoop h = true) (R : Rel s h w) : Rel (s.re g) h w where
  inj := R.inj
  obj o b hb := by
    obtain ⟨x, hx, hr⟩ := R.obj o b hb
    refine ⟨x, hx, ?_⟩
    cases x with
    | cells cs gn =>
      obtain ⟨bc, el, k1, k2, k3⟩ := hr
      exact ⟨bc, el, k1, k2, fun i c hi => let ⟨v, h1, h2⟩ := k3 i c hi; ⟨v, h1, h2.regood _⟩⟩
    | map es =>
      obtain ⟨es0, hp0, en, cl, k1, k2, k3, k4⟩ := hr
      exact ⟨es0, hp0, en, cl, k1, k2, k3, fun i e hi => let ⟨m, h1, h2, h3⟩ := k4 i e hi; ⟨m, h1, h2.regood _, h3.regood _⟩⟩
    | loop r => exact (noLoop_at hn hx).elim
    | iter k es =>
      obtain ⟨bm, since, seen, last, en, cl, k1, k2, k3, k4, k5⟩ := hr
      refine ⟨bm, since, seen, last, en, cl, k1, k2, k3, fun hk => ?_, fun hk => ?_⟩
      · obtain ⟨q1, q2, q3, q4, q5, es0, hp0, q6⟩ := k4 hk
        exact ⟨q1, q2, q3, q4, q5, es0, hp0, fun i e hi => let ⟨m, hm, h6, h7⟩ := q6 i e hi; ⟨m, hm, h6.regood _, h7.regood _⟩⟩
      · obtain ⟨q1, q2, q3, q4⟩ := k5 hk
        exact ⟨q1, q2, q3, fun e he => let ⟨m, hm, h6, h7, h8⟩ := q4 e he; ⟨m, hm, h6, h7.regood _, h8.regood _⟩⟩
  apart := R.apart
  imm := R.imm
theorem Ext.re {s' : Sim} {h' : Heap} {w' : World} (g : Nat → Nat → List Nat → Code → Code → Prop) (E : Ext (s.re g) h w s' h' w') : Ext s h w (s'.re s.good.good) h' w' where
  size := E.size
  far := E.far
  shape := E.shape
  imm := E.imm
  gen := E.gen
  same := E.same
  kind := E.kind
  own := E.own
  os := E.os
  tape := E.tape
  output := E.output
  kindL := E.kindL
  good := by show (⟨s.good.good, s'.good.pin, s'.good.tail⟩ : Fixed) = s.good; rw [E.good]; rfl
  old := E.old
  kept := E.kept
  immOld := E.immOld
end

/-- A call under that told, as one step. -/
def callP (C : Cfg) (f : Nat) (args : List AV) (h : Heap) : Option (CRes × Heap) :=
  if noLoop h then (call C f args h).bind fun x => if noLoop x.2 then some x else none else none

theorem known_of {P : Program} {f : Nat} {fn : Func} {b : Code} (h1 : P.funcs[f]? = some fn) (h2 : fn.body = some b) (h3 : (fn.name == "runtime.NumGoroutine") = false) : Known P f := ⟨fn, b, h1, h2, h3⟩

theorem callP_ok {T : RvTold} {P : Program} (hg : GlobOk (T.cfg P)) (hcl : ∀ g v, T.glob g = some v → ∀ h, freezeV h 0 40 v = some v) (hp : PrimOk P (T.cfg P)) (hm : P.follows .mixedOrders = true) {C : Cfg} (hC : ∀ g v, T.glob g = some v → C.glob g = some v)
    {f : Nat} {args : List AV} {h : Heap} {res : CRes} {h' : Heap} (hc : callP (T.cfg P) f args h = some (res, h')) {s : Sim} {w : World} {vs : List Value} (R : Rel s h w) (G : Glob C s h w) (H : VRs s h w args vs) : CallOk P f vs s h w res h' := by
  unfold callP at hc
  split at hc <;> first | cases hc | skip
  rename_i hn
  obtain ⟨x, hx, hc⟩ := Option.bind_eq_some_iff.1 hc
  split at hc <;> first | cases hc | skip
  rename_i hn'
  have G1 : GG (T.cfg P) (ordOk (T.cfg P)) (s.re (goodOf (ordOk (T.cfg P)))) h w := ⟨fun g v hv => (G g v (hC g v hv)).regood _, rfl⟩
  have := RvTold.sound hg hcl hp hm hx (R.re _ hn) G1 (H.regood _)
  refine Calls.mono this fun e w' he => ?_
  obtain ⟨s', E, R', hv⟩ := he
  refine ⟨s'.re s.good.good, E.re _, R'.re _ hn', ?_⟩
  cases res with
  | ret v =>
    cases e with
    | returned u => exact hv.regood _
    | panicked _ => exact hv.elim
    | outgrown => exact hv.elim
  | pan v =>
    cases e with
    | returned u => exact hv.elim
    | panicked c =>
      obtain ⟨u, h1, h2⟩ := hv
      exact ⟨u, h1, h2.regood _⟩
    | outgrown => exact hv.elim

theorem callP_pure {T : RvTold} {P : Program} (hg : GlobOk (T.cfg P)) (hcl : ∀ g v, T.glob g = some v → ∀ h, freezeV h 0 40 v = some v) (hp : PrimOk P (T.cfg P)) (hm : P.follows .mixedOrders = true)
    {f : Nat} (hpu : T.pure f = true) {args : List AV} {h : Heap} {v : AV} {h' : Heap} (hc : callP (T.cfg P) f args h = some (.ret v, h')) : h' = h := by
  unfold callP at hc
  split at hc <;> first | cases hc | skip
  obtain ⟨x, hx, hc⟩ := Option.bind_eq_some_iff.1 hc
  split at hc <;> first | cases hc | skip
  obtain ⟨k, hk⟩ := (call_iff (T.cfg P)).1 hx
  exact callF_pure (RvTold.ok hg hcl hp hm) hpu hk

/-! ### Made immutable for good -/
/-- The objects that a value comes to. -/
def visV (h : Heap) : Nat → AV → List Nat
  | 0, _ => []
  | d + 1, v =>
    match v with
    | .ptr o off g => o :: (((h.obj o g).getD []).drop off).flatMap (visV h d)
    | .msl o off len sz g _ => o :: ((((h.obj o g).getD []).drop off).take (len * sz)).flatMap (visV h d)
    | .ref cs => cs.flatMap (visV h d)
    | .agg cs => cs.flatMap (visV h d)
    | .tup cs => cs.flatMap (visV h d)
    | .clo _ cs => cs.flatMap (visV h d)
    | .bnd _ cs => cs.flatMap (visV h d)
    | .lst xs _ _ => xs.flatMap (visV h d)
    | .iface _ v => visV h d v
    | _ => []
def killX (S : List Nat) (o : Nat) (x : AObj) : AObj :=
  match x with
  | .cells cs g => if S.contains o then .cells cs (g + 1) else .cells cs g
  | .iter k es => if S.contains o then .cells [] 1 else .iter k es
  | x => x
/-- These objects are forgotten: what points to them is old. -/
def killO (S : List Nat) (h : Heap) : Heap := h.mapIdx (killX S)
def iceA (h : Heap) (vs : List AV) : Option (List AV × Heap) := (mapO (freezeV h 0 40) vs).map fun avs => (avs, killO (vs.flatMap (visV h 40)) h)
def Sim.ice (s : Sim) (S : List Nat) : Sim := { μ := fun o => if o ∈ S then none else s.μ o, I := fun b => s.I b ∨ ∃ o ∈ S, s.μ o = some b, good := s.good }

section
variable {s : Sim} {h : Heap} {w : World} {S : List Nat}
theorem killO_get (o : Nat) : (killO S h)[o]? = (h[o]?).map (killX S o) := by
  unfold killO
  rw [List.getElem?_mapIdx]
theorem killX_out {o : Nat} (ho : o ∉ S) (x : AObj) : killX S o x = x := by
  cases x <;> simp [killX, ho]
theorem killO_out {o : Nat} (ho : o ∉ S) : (killO S h)[o]? = h[o]? := by
  rw [killO_get]
  cases h[o]? with
  | none => rfl
  | some x => simp [killX_out ho]
theorem genOf_kill (o g : Nat) (hg : genOf h o = some g) : ∃ g', genOf (killO S h) o = some g' ∧ g ≤ g' ∧ (o ∈ S → isMap h o = false → isLoop h o = false → g < g') := by
  unfold genOf isMap isLoop at *
  rw [killO_get]
  cases hx : h[o]? with
  | none => rw [hx] at hg; cases hg
  | some x =>
    rw [hx] at hg
    cases x with
    | cells cs gn =>
      simp only [Option.some.injEq] at hg
      subst hg
      by_cases ho : o ∈ S
      · exact ⟨gn + 1, by simp [killX, ho], by omega, fun _ _ _ => by omega⟩
      · exact ⟨gn, by simp [killX, ho], by omega, fun h => absurd h ho⟩
    | map es =>
      simp only [Option.some.injEq] at hg
      subst hg
      exact ⟨0, by simp [killX], by omega, fun _ h => by simp at h⟩
    | loop r =>
      simp only [Option.some.injEq] at hg
      subst hg
      exact ⟨0, by simp [killX], by omega, fun _ _ h => by simp at h⟩
    | iter k es =>
      simp only [Option.some.injEq] at hg
      subst hg
      by_cases ho : o ∈ S
      · exact ⟨1, by simp [killX, ho], by omega, fun _ _ _ => by omega⟩
      · exact ⟨0, by simp [killX, ho], by omega, fun h => absurd h ho⟩

/-- All of them have blocks, and are objects of cells. -/
def Has (s : Sim) (h : Heap) (S : List Nat) : Prop := ∀ o ∈ S, (∃ b, s.μ o = some b) ∧ isMap h o = false ∧ isLoop h o = false

theorem ext_ice (hS : Has s h S) : Ext s h w (s.ice S) (killO S h) w where
  size := Nat.le_refl _
  far := fun _ _ _ => rfl
  shape := fun _ _ h => h
  imm := fun b hb => .inl hb
  gen := fun o g hg => let ⟨g', h1, h2, _⟩ := genOf_kill (S := S) o g hg; ⟨g', h1, h2⟩
  same := fun o g hg hg' => by
    obtain ⟨g', h1, h2, h3⟩ := genOf_kill (S := S) o g hg
    rw [hg'] at h1
    injection h1 with h1
    by_cases ho : o ∈ S
    · obtain ⟨_, m1, m2⟩ := hS o ho
      have := h3 ho m1 m2
      omega
    · refine ⟨fun b hb => by simp [Sim.ice, ho, hb], ?_⟩
      unfold lenOf; rw [killO_out ho]
  kind := fun o hm _ => by
    have ho : o ∉ S := fun ho => by rw [(hS o ho).2.1] at hm; cases hm
    unfold isMap at *; rw [killO_out ho]; exact hm
  own := fun o b hb => by
    simp only [Sim.ice] at hb
    split at hb
    · cases hb
    · exact .inl ⟨o, hb⟩
  os := rfl
  tape := rfl
  output := rfl
  kindL := fun o hm => by
    have ho : o ∉ S := fun ho => by rw [(hS o ho).2.2] at hm; cases hm
    unfold isLoop at *; rw [killO_out ho]; exact hm
  good := rfl
  old := fun o b _ hb => by
    simp only [Sim.ice] at hb
    split at hb
    · cases hb
    · exact ⟨b, hb⟩
  kept := fun o _ hn => by
    have ho : o ∉ S := fun ho => by
      obtain ⟨⟨b, hb⟩, _⟩ := hS o ho
      rw [hn] at hb; cases hb
    exact killO_out ho
  immOld := fun b _ h => by
    rcases h with h | ⟨o, _, ho⟩
    · exact .inl h
    · exact .inr ⟨o, ho⟩

theorem rel_ice (R : Rel s h w) (hS : Has s h S) : Rel (s.ice S) (killO S h) w where
  inj := fun o o' b h1 h2 => by
    simp only [Sim.ice] at h1 h2
    split at h1 <;> split at h2 <;> first | cases h1 | cases h2 | exact R.inj _ _ _ h1 h2
  obj := fun o b hb => by
    simp only [Sim.ice] at hb
    split at hb
    · cases hb
    · rename_i ho
      obtain ⟨x, hx, hr⟩ := R.obj o b hb
      exact ⟨x, by rw [killO_out ho]; exact hx, hr.ext R.apart (ext_ice hS) rfl⟩
  apart := fun o b hb hI => by
    simp only [Sim.ice] at hb hI
    split at hb
    · cases hb
    · rename_i ho
      rcases hI with hI | ⟨o', ho', hb'⟩
      · exact R.apart o b hb hI
      · have := R.inj o o' b hb hb'
        subst this
        exact ho ho'
  imm := fun b hI => by
    rcases hI with hI | ⟨o', _, hb'⟩
    · exact R.imm b hI
    · exact R.lt hb'

theorem obj_kind {o g : Nat} {cs : List AV} (ho : h.obj o g = some cs) : isMap h o = false ∧ isLoop h o = false := by
  have := (genOf_obj ho).2.1
  unfold isMap isLoop
  rw [this]
  exact ⟨rfl, rfl⟩

/-- What is made immutable has blocks. -/
theorem vis_has (R : Rel s h w) : ∀ (D : Nat) {d : Nat}, d ≤ D → ∀ {v v' : AV} {u : Value}, freezeV h 0 d v = some v' → VR s h w v u → Has s h (visV h d v) := by
  intro D
  induction D with
  | zero =>
    intro d hd v v' u hf _
    obtain rfl : d = 0 := by omega
    simp [freezeV] at hf
  | succ D ih =>
    intro d hd v v' u hf hv
    cases d with
    | zero => simp [freezeV] at hf
    | succ d =>
      have ih' : ∀ {v v' : AV} {u : Value}, freezeV h 0 d v = some v' → VR s h w v u → Has s h (visV h d v) := fun hf hv => ih (d := d) (by omega) hf hv
      have many : ∀ {cs cs' : List AV}, mapO (freezeV h 0 d) cs = some cs' → (∀ (i : Nat) c, cs[i]? = some c → ∃ u, VR s h w c u) → Has s h (cs.flatMap (visV h d)) := by
        intro cs cs' hm hr o ho
        obtain ⟨c, hc, ho⟩ := List.mem_flatMap.1 ho
        obtain ⟨i, hi⟩ := List.mem_iff_getElem?.1 hc
        obtain ⟨b, _, hb⟩ := (mapO_get hm).2 i c hi
        obtain ⟨u, hu⟩ := hr i c hi
        exact ih' hb hu o ho
      have nope : Has s h [] := fun o ho => by simp at ho
      cases v <;> simp only [freezeV, Nat.not_lt_zero, if_false] at hf <;> simp only [visV] <;> try exact nope
      case ptr o off g =>
        simp only [Option.bind_eq_bind] at hf
        obtain ⟨cs, hcs, hf⟩ := Option.bind_eq_some_iff.1 hf
        obtain ⟨cs', hcs', hf⟩ := Option.bind_eq_some_iff.1 hf
        rw [hcs]
        cases hv with
        | ptrOld _ _ _ g' a e1 e2 => have := (genOf_obj hcs).1; rw [this] at e1; injection e1; omega
        | ptr _ _ _ b e1 e2 =>
          have hread := (obj_reads R hcs e2).drop off
          intro o' ho'
          rcases List.mem_cons.1 ho' with ho' | ho'
          · subst ho'; exact ⟨⟨b, e2⟩, obj_kind hcs⟩
          · exact many hcs' (fun i c hi => let ⟨v, _, hvr⟩ := hread i c hi; ⟨v, hvr⟩) o' ho'
      case msl o off len sz g cap =>
        simp only [Option.bind_eq_bind] at hf
        obtain ⟨cs, hcs, hf⟩ := Option.bind_eq_some_iff.1 hf
        split at hf <;> first | cases hf | skip
        obtain ⟨cs', hcs', hf⟩ := Option.bind_eq_some_iff.1 hf
        rw [hcs]
        cases hv with
        | mslOld _ _ _ _ _ _ g' a m c e1 e2 => have := (genOf_obj hcs).1; rw [this] at e1; injection e1; omega
        | msl _ _ _ _ _ _ b c el m off' e0 e1 e2 e3 e4 e5 e6 e7 =>
          have hread := ((obj_reads R hcs e2).drop off).take (len * sz)
          intro o' ho'
          rcases List.mem_cons.1 ho' with ho' | ho'
          · subst ho'; exact ⟨⟨b, e2⟩, obj_kind hcs⟩
          · exact many hcs' (fun i c hi => let ⟨v, _, hvr⟩ := hread i c hi; ⟨v, hvr⟩) o' ho'
      case ref cs =>
        obtain ⟨cs', hcs, rfl⟩ := Option.map_eq_some_iff.1 hf
        cases hv with
        | ref _ b off f e1 e2 e3 => exact many hcs fun i c hi => ⟨_, e3 i c hi⟩
      case lst xs z r =>
        obtain ⟨xs', hxs, rfl⟩ := Option.map_eq_some_iff.1 hf
        cases hv with
        | lstNil => exact nope
        | lstEmpty _ A => exact nope
        | lst _ _ _ b off c f e1 e2 e3 e4 e5 e6 =>
          intro o ho
          obtain ⟨x, hx, ho⟩ := List.mem_flatMap.1 ho
          obtain ⟨i, hi⟩ := List.mem_iff_getElem?.1 hx
          obtain ⟨x', _, hfx⟩ := (mapO_get hxs).2 i x hi
          -- an element is one cell, or cells put together
          cases d with
          | zero => simp [freezeV] at hfx
          | succ d =>
            have hone : x.cells = [x] → Has s h (visV h (d + 1) x) := fun hc => ih' hfx (e6 i 0 x x hi (by rw [hc]; rfl))
            cases x with
            | agg cs =>
              simp only [freezeV] at hfx
              obtain ⟨cs', hcs, _⟩ := Option.map_eq_some_iff.1 hfx
              simp only [visV] at ho
              obtain ⟨c, hc, ho⟩ := List.mem_flatMap.1 ho
              obtain ⟨j, hj⟩ := List.mem_iff_getElem?.1 hc
              obtain ⟨c', _, hfc⟩ := (mapO_get hcs).2 j c hj
              exact ih (d := d) (by omega) hfc (e6 i j _ c hi hj) o ho
            | _ => exact hone rfl o ho
      case clo f cs =>
        obtain ⟨cs', hcs, rfl⟩ := Option.map_eq_some_iff.1 hf
        cases hv with
        | clo _ _ vs hl hr => exact many hcs fun i c hi => ⟨_, hr i c hi⟩
      case bnd f cs =>
        obtain ⟨cs', hcs, rfl⟩ := Option.map_eq_some_iff.1 hf
        cases hv with
        | bnd _ _ vs hl hr => exact many hcs fun i c hi => ⟨_, hr i c hi⟩
      case agg cs =>
        obtain ⟨cs', hcs, rfl⟩ := Option.map_eq_some_iff.1 hf
        cases hv with
        | agg _ vs hl hr => exact many hcs fun i c hi => ⟨_, hr i c hi⟩
      case tup cs =>
        obtain ⟨cs', hcs, rfl⟩ := Option.map_eq_some_iff.1 hf
        cases hv with
        | tup _ vs hl hr => exact many hcs fun i c hi => ⟨_, hr i c hi⟩
      case iface t x =>
        obtain ⟨x', hx, rfl⟩ := Option.map_eq_some_iff.1 hf
        cases hv with
        | iface _ _ v hv => exact ih' hx hv

theorem ice_rel (R : Rel s h w) : ∀ (D : Nat) {d : Nat}, d ≤ D → ∀ {v v' : AV} {u : Value}, freezeV h 0 d v = some v' → (∀ o ∈ visV h d v, o ∈ S) → VR s h w v u → VR (s.ice S) (killO S h) w v' u := by
  intro D
  induction D with
  | zero =>
    intro d hd v v' u hf _ _
    obtain rfl : d = 0 := by omega
    simp [freezeV] at hf
  | succ D ih =>
    intro d hd v v' u hf hs hv
    cases d with
    | zero => simp [freezeV] at hf
    | succ d =>
      have ih' : ∀ {v v' : AV} {u : Value}, freezeV h 0 d v = some v' → (∀ o ∈ visV h d v, o ∈ S) → VR s h w v u → VR (s.ice S) (killO S h) w v' u := fun hf hs hv => ih (d := d) (by omega) hf hs hv
      have sub : ∀ {cs : List AV}, (∀ o ∈ cs.flatMap (visV h d), o ∈ S) → ∀ {i : Nat} {c : AV}, cs[i]? = some c → ∀ o ∈ visV h d c, o ∈ S := fun hs i c hi o ho => hs o (List.mem_flatMap.2 ⟨c, List.mem_of_getElem? hi, ho⟩)
      cases v <;> simp only [freezeV, Nat.not_lt_zero, if_false] at hf <;> simp only [visV] at hs
      case bool b => injection hf with hf; subst hf; cases hv; exact .bool _
      case int k i => injection hf with hf; subst hf; cases hv; exact .int _ _
      case str l => injection hf with hf; subst hf; cases hv; exact .str _
      case nilPtr => injection hf with hf; subst hf; cases hv; exact .nilPtr
      case nilMap => injection hf with hf; subst hf; cases hv; exact .nilMap
      case nilFunc => injection hf with hf; subst hf; cases hv; exact .nilFunc
      case nilIface => injection hf with hf; subst hf; cases hv; exact .nilIface
      case junk => injection hf with hf; subst hf; exact .junk _
      case yld l => cases hf
      case map o => cases hf
      case ptr o off g =>
        simp only [Option.bind_eq_bind] at hf
        replace hf := Option.bind_eq_some_iff.1 hf
        obtain ⟨cs, hcs, hf⟩ := hf
        replace hf := Option.bind_eq_some_iff.1 hf
        obtain ⟨cs', hcs', hf⟩ := hf
        injection hf with hf; subst hf
        rw [hcs] at hs
        obtain ⟨k1, k2⟩ := mapO_get hcs'
        cases hv with
        | ptrOld _ _ _ g' a e1 e2 => have := (genOf_obj hcs).1; rw [this] at e1; injection e1; omega
        | ptr _ _ _ b e1 e2 =>
          have hread := (obj_reads R hcs e2).drop off
          have key : ∀ (i : Nat) c', cs'[i]? = some c' → ∃ v, w.cell? ⟨b, off + i, none⟩ = some v ∧ VR (s.ice S) (killO S h) w c' v := by
            intro i c' hi
            have hlt : i < (cs.drop off).length := by rw [← k1]; exact (List.getElem?_eq_some_iff.1 hi).1
            obtain ⟨b', hb', hfb⟩ := k2 i _ (List.getElem?_eq_getElem hlt)
            rw [hi] at hb'
            injection hb' with hb'; subst hb'
            obtain ⟨v, hv, hvr⟩ := hread i _ (List.getElem?_eq_getElem hlt)
            exact ⟨v, by simpa using hv, ih' hfb (sub (fun o' ho' => hs o' (List.mem_cons_of_mem _ ho')) (List.getElem?_eq_getElem hlt)) hvr⟩
          refine .ref cs' b off (fun i => (w.cell? ⟨b, off + i, none⟩).getD undef) (fun _ => .inr ⟨o, hs o (List.mem_cons_self ..), e2⟩) (fun i c hi => ?_) (fun i c hi => ?_)
          · obtain ⟨v, hv, _⟩ := key i c hi
            rw [hv]; rfl
          · obtain ⟨v, hv, hvr⟩ := key i c hi
            rw [hv]; exact hvr
      case msl o off len sz g cap =>
        simp only [Option.bind_eq_bind] at hf
        replace hf := Option.bind_eq_some_iff.1 hf
        obtain ⟨cs, hcs, hf⟩ := hf
        split at hf
        · rename_i hle
          replace hf := Option.bind_eq_some_iff.1 hf
          obtain ⟨cs', hcs', hf⟩ := hf
          injection hf with hf; subst hf
          rw [hcs] at hs
          obtain ⟨k1, k2⟩ := mapO_get hcs'
          cases hv with
          | mslOld _ _ _ _ _ _ g' a m c e1 e2 => have := (genOf_obj hcs).1; rw [this] at e1; injection e1; omega
          | msl _ _ _ _ _ _ b c el m off' e0 e1 e2 e3 e4 e5 e6 e7 =>
            by_cases hl0 : len = 0
            · subst hl0
              exact lst_empty _ _ _ _ _ trivial
            · obtain rfl : off' = off := e0.resolve_right (by omega)
              have hread := ((obj_reads R hcs e2).drop off').take (len * sz)
              refine lst_of_cells (fun _ => .inr ⟨o, hs o (List.mem_cons_self ..), e2⟩) (by rw [k1]; simp; omega) (fun i c' hi => ?_) trivial e3
              have hlt : i < ((cs.drop off').take (len * sz)).length := by rw [← k1]; exact (List.getElem?_eq_some_iff.1 hi).1
              obtain ⟨b', hb', hfb⟩ := k2 i _ (List.getElem?_eq_getElem hlt)
              rw [hi] at hb'
              injection hb' with hb'; subst hb'
              obtain ⟨v, hv, hvr⟩ := hread i _ (List.getElem?_eq_getElem hlt)
              exact ⟨v, by simpa using hv, ih' hfb (sub (fun o' ho' => hs o' (List.mem_cons_of_mem _ ho')) (List.getElem?_eq_getElem hlt)) hvr⟩
        · cases hf
      case ref cs =>
        obtain ⟨cs', hcs, rfl⟩ := Option.map_eq_some_iff.1 hf
        obtain ⟨k1, k2⟩ := mapO_get hcs
        cases hv with
        | ref _ b off f e1 e2 e3 =>
          have key : ∀ (i : Nat) c', cs'[i]? = some c' → ∃ c, cs[i]? = some c ∧ freezeV h 0 d c = some c' := by
            intro i c' hi
            have hlt : i < cs.length := by rw [← k1]; exact (List.getElem?_eq_some_iff.1 hi).1
            obtain ⟨b', hb', hfb⟩ := k2 i _ (List.getElem?_eq_getElem hlt)
            rw [hi] at hb'
            injection hb' with hb'; subst hb'
            exact ⟨_, List.getElem?_eq_getElem hlt, hfb⟩
          refine .ref _ b off f (fun h0 => .inl (e1 (by omega))) (fun i c' hi => ?_) (fun i c' hi => ?_)
          · obtain ⟨c, hc, _⟩ := key i c' hi
            exact e2 i c hc
          · obtain ⟨c, hc, hfc⟩ := key i c' hi
            exact ih' hfc (sub hs hc) (e3 i c hc)
      case lst xs z r =>
        obtain ⟨xs', hxs, rfl⟩ := Option.map_eq_some_iff.1 hf
        obtain ⟨k1, k2⟩ := mapO_get hxs
        cases hv with
        | lstNil =>
          simp only [mapO, Option.some.injEq] at hxs
          subst hxs
          exact .lstNil _
        | lstEmpty _ A =>
          simp only [mapO, Option.some.injEq] at hxs
          subst hxs
          exact .lstEmpty _ A
        | lst _ _ _ b off c f e1 e2 e3 e4 e5 e6 =>
          have key : ∀ (i : Nat) x', xs'[i]? = some x' → ∃ x, xs[i]? = some x ∧ freezeV h 0 d x = some x' := by
            intro i x' hi
            have hlt : i < xs.length := by rw [← k1]; exact (List.getElem?_eq_some_iff.1 hi).1
            obtain ⟨b', hb', hfb⟩ := k2 i _ (List.getElem?_eq_getElem hlt)
            rw [hi] at hb'
            injection hb' with hb'; subst hb'
            exact ⟨_, List.getElem?_eq_getElem hlt, hfb⟩
          have cell : ∀ (i j : Nat) x' y', xs'[i]? = some x' → x'.cells[j]? = some y' → ∃ x y d', d' ≤ d ∧ xs[i]? = some x ∧ x.cells[j]? = some y ∧ freezeV h 0 d' y = some y' ∧ ∀ o ∈ visV h d' y, o ∈ S := by
            intro i j x' y' hi hj
            obtain ⟨x, hx, hfx⟩ := key i x' hi
            have hsx := sub hs hx
            cases d with
            | zero => simp [freezeV] at hfx
            | succ d =>
              by_cases hagg : ∃ cs, x = .agg cs
              · obtain ⟨cs, rfl⟩ := hagg
                simp only [freezeV] at hfx
                obtain ⟨cs', hcs, rfl⟩ := Option.map_eq_some_iff.1 hfx
                have hj' : cs'[j]? = some y' := hj
                have hlt : j < cs.length := by rw [← (mapO_get hcs).1]; exact (List.getElem?_eq_some_iff.1 hj').1
                obtain ⟨b', hb', hfb⟩ := (mapO_get hcs).2 j _ (List.getElem?_eq_getElem hlt)
                rw [hj'] at hb'
                injection hb' with hb'; subst hb'
                simp only [visV] at hsx
                exact ⟨_, _, d, by omega, hx, List.getElem?_eq_getElem hlt, hfb, fun o ho => hsx o (List.mem_flatMap.2 ⟨_, List.getElem_mem hlt, ho⟩)⟩
              · obtain ⟨m1, m2⟩ := freeze_cells hfx
                have hxc : x.cells = [x] := by
                  cases x <;> first | rfl | exact (hagg ⟨_, rfl⟩).elim
                have hlt : j < x.cells.length := by rw [← m1]; exact (List.getElem?_eq_some_iff.1 hj).1
                rw [hxc] at hlt
                obtain rfl : j = 0 := by simpa using hlt
                have hxc' : x'.cells = [x'] := by
                  cases x <;> simp only [freezeV, Nat.not_lt_zero, if_false] at hfx <;> first
                    | (injection hfx with hfx; subst hfx; rfl)
                    | (obtain ⟨_, _, rfl⟩ := Option.map_eq_some_iff.1 hfx; first | rfl | exact (hagg ⟨_, rfl⟩).elim)
                    | (simp only [Option.bind_eq_bind] at hfx
                       obtain ⟨_, _, hfx⟩ := Option.bind_eq_some_iff.1 hfx
                       obtain ⟨_, _, hfx⟩ := Option.bind_eq_some_iff.1 hfx
                       injection hfx with hfx; subst hfx; rfl)
                    | (simp only [Option.bind_eq_bind] at hfx
                       obtain ⟨_, _, hfx⟩ := Option.bind_eq_some_iff.1 hfx
                       split at hfx
                       · obtain ⟨_, _, hfx⟩ := Option.bind_eq_some_iff.1 hfx
                         injection hfx with hfx; subst hfx; rfl
                       · cases hfx)
                    | cases hfx
                rw [hxc'] at hj
                simp at hj; subst hj
                exact ⟨x, x, d + 1, Nat.le_refl _, hx, by rw [hxc]; rfl, hfx, hsx⟩
          have := VR.lst (s := s.ice S) (h := killO S h) (w := w) xs' z r b off c f (fun h0 => .inl (e1 (by omega))) e2 (by omega)
            (fun i x' hi => by
              obtain ⟨x, hx, hfx⟩ := key i x' hi
              rw [(freeze_cells hfx).1]; exact e4 i x hx)
            (fun i j x' y' hi hj => by
              obtain ⟨x, y, d', _, hx, hy, _⟩ := cell i j x' y' hi hj
              exact e5 i j x y hx hy)
            (fun i j x' y' hi hj => by
              obtain ⟨x, y, d', hd', hx, hy, hfy, hsy⟩ := cell i j x' y' hi hj
              exact ih (d := d') (by omega) hfy hsy (e6 i j x y hx hy))
          rw [k1] at this
          exact this
      case clo f cs =>
        obtain ⟨cs', hcs, rfl⟩ := Option.map_eq_some_iff.1 hf
        obtain ⟨k1, k2⟩ := mapO_get hcs
        cases hv with
        | clo _ _ vs hl hr =>
          refine .clo _ _ vs (by omega) fun i c' hi => ?_
          have hlt : i < cs.length := by rw [← k1]; exact (List.getElem?_eq_some_iff.1 hi).1
          obtain ⟨b', hb', hfb⟩ := k2 i _ (List.getElem?_eq_getElem hlt)
          rw [hi] at hb'
          injection hb' with hb'; subst hb'
          exact ih' hfb (sub hs (List.getElem?_eq_getElem hlt)) (hr i _ (List.getElem?_eq_getElem hlt))
      case bnd f cs =>
        obtain ⟨cs', hcs, rfl⟩ := Option.map_eq_some_iff.1 hf
        obtain ⟨k1, k2⟩ := mapO_get hcs
        cases hv with
        | bnd _ _ vs hl hr =>
          refine .bnd _ _ vs (by omega) fun i c' hi => ?_
          have hlt : i < cs.length := by rw [← k1]; exact (List.getElem?_eq_some_iff.1 hi).1
          obtain ⟨b', hb', hfb⟩ := k2 i _ (List.getElem?_eq_getElem hlt)
          rw [hi] at hb'
          injection hb' with hb'; subst hb'
          exact ih' hfb (sub hs (List.getElem?_eq_getElem hlt)) (hr i _ (List.getElem?_eq_getElem hlt))
      case agg cs =>
        obtain ⟨cs', hcs, rfl⟩ := Option.map_eq_some_iff.1 hf
        obtain ⟨k1, k2⟩ := mapO_get hcs
        cases hv with
        | agg _ vs hl hr =>
          refine .agg _ vs (by omega) fun i c' hi => ?_
          have hlt : i < cs.length := by rw [← k1]; exact (List.getElem?_eq_some_iff.1 hi).1
          obtain ⟨b', hb', hfb⟩ := k2 i _ (List.getElem?_eq_getElem hlt)
          rw [hi] at hb'
          injection hb' with hb'; subst hb'
          exact ih' hfb (sub hs (List.getElem?_eq_getElem hlt)) (hr i _ (List.getElem?_eq_getElem hlt))
      case tup cs =>
        obtain ⟨cs', hcs, rfl⟩ := Option.map_eq_some_iff.1 hf
        obtain ⟨k1, k2⟩ := mapO_get hcs
        cases hv with
        | tup _ vs hl hr =>
          refine .tup _ vs (by omega) fun i c' hi => ?_
          have hlt : i < cs.length := by rw [← k1]; exact (List.getElem?_eq_some_iff.1 hi).1
          obtain ⟨b', hb', hfb⟩ := k2 i _ (List.getElem?_eq_getElem hlt)
          rw [hi] at hb'
          injection hb' with hb'; subst hb'
          exact ih' hfb (sub hs (List.getElem?_eq_getElem hlt)) (hr i _ (List.getElem?_eq_getElem hlt))
      case iface t x =>
        obtain ⟨x', hx, rfl⟩ := Option.map_eq_some_iff.1 hf
        cases hv with
        | iface _ _ v hv => exact .iface _ _ _ (ih' hx hs hv)

/-- Arguments made immutable. -/
theorem ice_ok (R : Rel s h w) {args avs : List AV} {h1 : Heap} (hi : iceA h args = some (avs, h1)) {vs : List Value} (H : VRs s h w args vs) : ∃ s1, Ext s h w s1 h1 w ∧ Rel s1 h1 w ∧ VRs s1 h1 w avs vs := by
  unfold iceA at hi
  obtain ⟨as', hm, hx⟩ := Option.map_eq_some_iff.1 hi
  simp only [Prod.mk.injEq] at hx
  obtain ⟨rfl, rfl⟩ := hx
  obtain ⟨k1, k2⟩ := mapO_get hm
  have hS : Has s h (args.flatMap (visV h 40)) := fun o ho => by
    obtain ⟨c, hc, ho⟩ := List.mem_flatMap.1 ho
    obtain ⟨i, hi⟩ := List.mem_iff_getElem?.1 hc
    obtain ⟨b, _, hb⟩ := k2 i c hi
    obtain ⟨v, _, hv⟩ := H.2 i c hi
    exact vis_has R 40 (Nat.le_refl _) hb hv o ho
  refine ⟨_, ext_ice hS, rel_ice R hS, by rw [k1]; exact H.1, fun i c hi => ?_⟩
  have hlt : i < args.length := by rw [← k1]; exact (List.getElem?_eq_some_iff.1 hi).1
  obtain ⟨b, hb, hfb⟩ := k2 i _ (List.getElem?_eq_getElem hlt)
  rw [hi] at hb
  injection hb with hb; subst hb
  obtain ⟨v, hv, hvr⟩ := H.2 i _ (List.getElem?_eq_getElem hlt)
  exact ⟨v, hv, ice_rel R 40 (Nat.le_refl _) hfb (fun o ho => List.mem_flatMap.2 ⟨_, List.getElem_mem hlt, ho⟩) hvr⟩
end

/-- A call under that told, its arguments made immutable for good. -/
def callIce (C : Cfg) (f : Nat) (args : List AV) (h : Heap) : Option (CRes × Heap) := (iceA h args).bind fun x => callP C f x.1 x.2

theorem callIce_ok {T : RvTold} {P : Program} (hg : GlobOk (T.cfg P)) (hcl : ∀ g v, T.glob g = some v → ∀ h, freezeV h 0 40 v = some v) (hp : PrimOk P (T.cfg P)) (hm : P.follows .mixedOrders = true) {C : Cfg} (hC : ∀ g v, T.glob g = some v → C.glob g = some v)
    {f : Nat} {args : List AV} {h : Heap} {res : CRes} {h' : Heap} (hc : callIce (T.cfg P) f args h = some (res, h')) {s : Sim} {w : World} {vs : List Value} (R : Rel s h w) (G : Glob C s h w) (H : VRs s h w args vs) : CallOk P f vs s h w res h' := by
  unfold callIce at hc
  obtain ⟨⟨avs, h1⟩, hi, hc⟩ := Option.bind_eq_some_iff.1 hc
  obtain ⟨s1, E, R1, H1⟩ := ice_ok R hi H
  refine Calls.mono (callP_ok hg hcl hp hm hC hc R1 (G.ext R.apart E) H1) fun e w' he => ?_
  obtain ⟨s', E', R', hv⟩ := he
  exact ⟨s', E.trans E', R', hv⟩
end
end Go.Rv
