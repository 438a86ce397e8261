/-
  Calls with plain arguments whose answers are known, as single steps.
-/
import Derived.Test.YtiigpcapieeljaaGreatDoorRvDfrT
set_option linter.unusedSectionVars false
set_option linter.unusedSimpArgs false
set_option linter.unusedVariables false
set_option linter.defProp false
set_option linter.unusedSimpArgs false
set_option linter.unusedVariables false
namespace Go.Rv
noncomputable section
/-- Rows of arguments and answers. -/
abbrev Tab := List (List AV × AV)
def tabP (l : Tab) (args : List AV) (h : Heap) : Option (CRes × Heap) := match l.find? fun r => AV.eqbs args r.1 with
  | some r => some (.ret r.2, h)
  | none => none
def tabF (l : Tab) (args : List AV) (R : Rdr) (n : Nat) : Option (CRes × Eff) := match l.find? fun r => AV.eqbs args r.1 with
  | some r => some (.ret r.2, .keep)
  | none => none
/-- By what the arguments read as. -/
def tabR (l : Tab) (args : List AV) (h : Heap) : Option (CRes × Heap) := (mapO (freezeV h 0 40) args).bind fun avs => tabP l avs h
theorem tab_twin (l : Tab) : TwinP (tabF l) (tabP l) := fun args h res y hq => by
  unfold tabF at hq
  unfold tabP
  cases hf : l.find? (fun r => AV.eqbs args r.1) with
  | none => rw [hf] at hq; cases hq
  | some r =>
    rw [hf] at hq
    simp only [Option.some.injEq, Prod.mk.injEq] at hq
    obtain ⟨rfl, rfl⟩ := hq
    rfl

mutual
def AV.still : AV → Bool
  | .ptr _ _ _ => false
  | .msl _ _ _ _ _ _ => false
  | .map _ => false
  | .yld _ => false
  | .junk => false
  | .ref cs => AV.stills cs
  | .lst xs _ _ => AV.stills xs
  | .clo _ cs => AV.stills cs
  | .bnd _ cs => AV.stills cs
  | .iface _ v => AV.still v
  | .agg cs => AV.stills cs
  | .tup cs => AV.stills cs
  | _ => true
def AV.stills : List AV → Bool
  | [] => true
  | v :: r => AV.still v && AV.stills r
end
theorem stills_at : ∀ {cs : List AV}, AV.stills cs = true → ∀ {i : Nat} {c : AV}, cs[i]? = some c → c.still = true
  | [], _, i, c, hi => by simp at hi
  | v :: r, hs, i, c, hi => by
    simp only [AV.stills, Bool.and_eq_true] at hs
    cases i with
    | zero => simp at hi; subst hi; exact hs.1
    | succ i => exact stills_at hs.2 (by simpa using hi)
theorem still_cells {x : AV} (hx : x.still = true) {j : Nat} {y : AV} (hj : x.cells[j]? = some y) : y.still = true := by
  cases x <;> simp only [AV.cells] at hj <;> first
    | (simp only [AV.still] at hx; exact stills_at hx hj)
    | (cases j with
      | zero => simp only [List.getElem?_cons_zero, Option.some.injEq] at hj; subst hj; exact hx
      | succ j => simp at hj)
theorem still_rel {s s' : Sim} {h h' : Heap} {w : World} (hI : ∀ b, s.I b → s'.I b) {v : AV} {u : Value} (H : VR s h w v u) : v.still = true → VR s' h' w v u := by
  induction H with
  | bool b => intro _; exact .bool b
  | int k n => intro _; exact .int k n
  | str l => intro _; exact .str l
  | nilPtr => intro _; exact .nilPtr
  | nilMap => intro _; exact .nilMap
  | nilFunc => intro _; exact .nilFunc
  | nilIface => intro _; exact .nilIface
  | ref cs b off f h0 hc _ ih => intro hs; simp only [AV.still] at hs; exact .ref cs b off f (fun hl => hI _ (h0 hl)) hc fun i c hi => ih i c hi (stills_at hs hi)
  | lstNil z => intro _; exact .lstNil z
  | lstEmpty z A => intro _; exact .lstEmpty z A
  | lst xs z r b off c f h0 hr hle hz hc _ ih => intro hs; simp only [AV.still] at hs; exact .lst xs z r b off c f (fun hl => hI _ (h0 hl)) hr hle hz hc fun i j x y hi hj => ih i j x y hi hj (still_cells (stills_at hs hi) hj)
  | clo f cs vs hl _ ih => intro hs; simp only [AV.still] at hs; exact .clo f cs vs hl fun i c hi => ih i c hi (stills_at hs hi)
  | bnd f cs vs hl _ ih => intro hs; simp only [AV.still] at hs; exact .bnd f cs vs hl fun i c hi => ih i c hi (stills_at hs hi)
  | iface t x v _ ih => intro hs; simp only [AV.still] at hs; exact .iface t x v (ih hs)
  | agg cs vs hl _ ih => intro hs; simp only [AV.still] at hs; exact .agg cs vs hl fun i c hi => ih i c hi (stills_at hs hi)
  | tup cs vs hl _ ih => intro hs; simp only [AV.still] at hs; exact .tup cs vs hl fun i c hi => ih i c hi (stills_at hs hi)
  | _ => intro hs; simp [AV.still] at hs

/-- What a value reads as, all memory in it made immutable. -/
def freezeF (R : Rdr) : Nat → AV → Option AV
  | 0, _ => none
  | d + 1, v =>
    match v with
    | .ptr o off g => (R.obj o g).bind fun cs => (mapO (freezeF R d) (cs.drop off)).bind fun cs => some (.ref cs)
    | .msl o off len sz g _ => (R.obj o g).bind fun cs =>
      if off + len * sz ≤ cs.length then
        (mapO (freezeF R d) ((cs.drop off).take (len * sz))).bind fun cs => some (.lst (group len cs sz) sz .open)
      else none
    | .map _ => none
    | .yld _ => none
    | .ref cs => (mapO (freezeF R d) cs).map .ref
    | .agg cs => (mapO (freezeF R d) cs).map .agg
    | .tup cs => (mapO (freezeF R d) cs).map .tup
    | .clo f cs => (mapO (freezeF R d) cs).map (.clo f)
    | .bnd f cs => (mapO (freezeF R d) cs).map (.bnd f)
    | .lst xs z r => (mapO (freezeF R d) xs).map (.lst · z r)
    | .iface t v => (freezeF R d v).map (.iface t)
    | v => some v
theorem freezeF_eq (h : Heap) : ∀ (d : Nat), freezeF (Rdr.of h) d = freezeV h 0 d
  | 0 => rfl
  | d + 1 => by
    funext v
    have ih := freezeF_eq h d
    cases v <;> simp only [freezeF, freezeV, ih] <;> rfl

/-- Does a call answer that, once all memory in it is made immutable? -/
def kFr (v : AV) : KontC := fun res H n => match res with
  | .ret u => (match freezeF (RT H) 40 u with
    | some u => match AV.eqb u v with
      | true => .ok true
      | false => .bad 1 n
    | none => .bad 4 n)
  | .pan _ => .bad 3 n

/-- Does a call answer that? -/
def kEq (v : AV) : KontC := fun res _ n => match res with
  | .ret u => match AV.eqb u v with
    | true => .ok true
    | false => .bad 1 n
  | .pan _ => .bad 3 n
theorem runs_boxA {C : Cfg} {TP : PrimT} {FN : Nat → Option FI} {QP : CallQ} (hP : Plainly C) (hT : TwinOk C TP FN QP) {f fuel : Nat} {args : List AV} {v : AV} (hs : runB C TP FN QP fuel (.clo f []) args .nil 0 (kEq v) = .ok true) : ∃ h', call C f args [] = some (.ret v, h') := by
  rw [runB_eq] at hs
  obtain ⟨res, h', H', n', q1, q2, q3⟩ := (runT_ok hP hT fuel).ok Rep.nil hs
  rw [callv_clo, List.append_nil] at q1
  unfold kEq at q3
  split at q3 <;> first | (cases q3; done) | skip
  rename_i u
  cases he : AV.eqb u v with
  | false => rw [he] at q3; cases q3
  | true =>
    have := AV.eqb_eq _ _ he
    subst this
    exact ⟨h', q1⟩

def tabRF (l : Tab) (args : List AV) (R : Rdr) (n : Nat) : Option (CRes × Eff) := (mapO (freezeF R 40) args).bind fun avs => tabF l avs R n
theorem tabR_twin (l : Tab) : TwinP (tabRF l) (tabR l) := fun args h res y hq => by
  unfold tabRF at hq
  unfold tabR
  rw [freezeF_eq] at hq
  obtain ⟨avs, has, hq⟩ := Option.bind_eq_some_iff.1 hq
  simp only [has, Option.bind_some]
  exact tab_twin l avs h res y hq
theorem runs_boxF {C : Cfg} {TP : PrimT} {FN : Nat → Option FI} {QP : CallQ} (hP : Plainly C) (hT : TwinOk C TP FN QP) {f fuel : Nat} {args : List AV} {v : AV} (hs : runB C TP FN QP fuel (.clo f []) args .nil 0 (kFr v) = .ok true) : ∃ v0 h', call C f args [] = some (.ret v0, h') ∧ freezeV h' 0 40 v0 = some v := by
  rw [runB_eq] at hs
  obtain ⟨res, h', H', n', q1, q2, q3⟩ := (runT_ok hP hT fuel).ok Rep.nil hs
  rw [callv_clo, List.append_nil] at q1
  unfold kFr at q3
  split at q3 <;> first | (cases q3; done) | skip
  rename_i u
  rw [RT_eq q2, freezeF_eq] at q3
  cases hf : freezeV h' 0 40 u with
  | none => rw [hf] at q3; cases q3
  | some u' =>
    rw [hf] at q3
    simp only at q3
    cases he : AV.eqb u' v with
    | false => rw [he] at q3; cases q3
    | true =>
      have := AV.eqb_eq _ _ he
      subst this
      exact ⟨u, h', q1, hf⟩

section
variable {P : Program}
theorem closed_callA {T : RvTold} (hp : PrimOk P (T.cfg P)) (hm : P.follows .mixedOrders = true) (hcl : ∀ g v, T.glob g = some v → ∀ h, freezeV h 0 40 v = some v) (hgk : ∀ g v, T.glob g = some v → v ≠ .junk) {f : Nat} {args : List AV} {v : AV} {h0 : Heap} (hpa : AV.plains args = true) (hpl : v.plain = true)
    (hc : call (T.cfg P) f args [] = some (.ret v, h0)) {C2 : Cfg} (hG : C2.glob = T.glob) {s : Sim} {h : Heap} {w : World} {vs : List Value} (R : Rel s h w) (G : Glob C2 s h w) (H : VRs s h w args vs) : CallOk P f vs s h w (.ret v) h := by
  let s0 : Sim := { s.cut 0 with good := ⟨goodOf (ordOk (T.cfg P)), fun _ _ => True, []⟩ }
  have Rz := rel_zero R
  have R0 : Rel s0 [] w := ⟨Rz.inj, fun o b hb => by simp [s0, Sim.cut] at hb, fun o b hb => by simp [s0, Sim.cut] at hb, Rz.imm⟩
  have G0 : GG (T.cfg P) (ordOk (T.cfg P)) s0 [] w := ⟨fun g x hg => (freeze_zero R (hcl g x hg h) (G g x (by rw [hG]; exact hg))).regood _, rfl⟩
  have H0 : VRs s0 [] w args vs := ⟨H.1, fun i c hi => by
    obtain ⟨u, hu, hr⟩ := H.2 i c hi
    have := plains_rel (s' := s0) (h' := []) (w' := w) args hpa (f := fun i => vs.getD i undef) (fun i c hi => by
      obtain ⟨u, hu, hr⟩ := H.2 i c hi
      simp only [List.getD, hu, Option.getD_some]
      exact hr) i c hi
    refine ⟨u, hu, ?_⟩
    simpa [List.getD, hu] using this⟩
  have run := RvTold.sound (T := T) (P := P) hgk hcl hp hm hc (vs := vs) R0 G0 H0
  refine Calls.mono run fun e w' he => ?_
  obtain ⟨s', E, R', hv⟩ := he
  obtain ⟨E2, R2⟩ := ext_same R E.size (fun b hb => E.far b hb (fun o ho => by simp [s0, Sim.cut] at ho)) E.os E.tape E.output
  refine ⟨s, E2, R2, ?_⟩
  cases e with
  | returned u => exact plain_rel v hpl hv
  | panicked _ => exact hv.elim
  | outgrown => exact hv.elim

theorem tab_ok {T : RvTold} (hp : PrimOk P (T.cfg P)) (hm : P.follows .mixedOrders = true) (hcl : ∀ g v, T.glob g = some v → ∀ h, freezeV h 0 40 v = some v) (hgk : ∀ g v, T.glob g = some v → v ≠ .junk) {f : Nat} {l : Tab}
    (hl : ∀ r ∈ l, AV.plains r.1 = true ∧ r.2.plain = true ∧ ∃ h0, call (T.cfg P) f r.1 [] = some (.ret r.2, h0)) {C2 : Cfg} (hG : C2.glob = T.glob) {args : List AV} {h h' : Heap} {res : CRes} (hq : tabP l args h = some (res, h')) {s : Sim} {w : World} {vs : List Value} (R : Rel s h w) (G : Glob C2 s h w) (H : VRs s h w args vs) : CallOk P f vs s h w res h' := by
  unfold tabP at hq
  cases hf : l.find? (fun r => AV.eqbs args r.1) with
  | none => rw [hf] at hq; cases hq
  | some r =>
    rw [hf] at hq
    simp only [Option.some.injEq, Prod.mk.injEq] at hq
    obtain ⟨rfl, rfl⟩ := hq
    have he : args = r.1 := AV.eqbs_eq _ _ (by have := List.find?_some hf; simpa using this)
    obtain ⟨k1, k2, h0, k3⟩ := hl r (List.mem_of_find?_eq_some hf)
    subst he
    exact closed_callA hp hm hcl hgk k1 k2 k3 hG R G H

theorem closed_callR {T : RvTold} (hp : PrimOk P (T.cfg P)) (hm : P.follows .mixedOrders = true) (hcl : ∀ g v, T.glob g = some v → ∀ h, freezeV h 0 40 v = some v) (hgk : ∀ g v, T.glob g = some v → v ≠ .junk) {f : Nat} {args avs : List AV} {v : AV} {h0 : Heap} (hpl : v.plain = true)
    (hc : call (T.cfg P) f avs [] = some (.ret v, h0)) {C2 : Cfg} (hG : C2.glob = T.glob) {s : Sim} {h : Heap} {w : World} {vs : List Value} (has : mapO (freezeV h 0 40) args = some avs) (R : Rel s h w) (G : Glob C2 s h w) (H : VRs s h w args vs) : CallOk P f vs s h w (.ret v) h := by
  let s0 : Sim := { s.cut 0 with good := ⟨goodOf (ordOk (T.cfg P)), fun _ _ => True, []⟩ }
  have Rz := rel_zero R
  have R0 : Rel s0 [] w := ⟨Rz.inj, fun o b hb => by simp [s0, Sim.cut] at hb, fun o b hb => by simp [s0, Sim.cut] at hb, Rz.imm⟩
  have G0 : GG (T.cfg P) (ordOk (T.cfg P)) s0 [] w := ⟨fun g x hg => (freeze_zero R (hcl g x hg h) (G g x (by rw [hG]; exact hg))).regood _, rfl⟩
  have hal : avs.length = args.length := (mapO_get has).1
  have H0 : VRs s0 [] w avs vs := ⟨by rw [hal]; exact H.1, fun i c hi => by
    have hlt : i < args.length := by rw [← hal]; exact (List.getElem?_eq_some_iff.1 hi).1
    obtain ⟨a', k1, k2⟩ := (mapO_get has).2 i args[i] (List.getElem?_eq_getElem hlt)
    rw [hi] at k1
    injection k1 with k1; subst k1
    obtain ⟨u, hu1, hu2⟩ := H.2 i args[i] (List.getElem?_eq_getElem hlt)
    exact ⟨u, hu1, (freeze_zero R k2 hu2).regood _⟩⟩
  have run := RvTold.sound (T := T) (P := P) hgk hcl hp hm hc (vs := vs) R0 G0 H0
  refine Calls.mono run fun e w' he => ?_
  obtain ⟨s', E, R', hv⟩ := he
  obtain ⟨E2, R2⟩ := ext_same R E.size (fun b hb => E.far b hb (fun o ho => by simp [s0, Sim.cut] at ho)) E.os E.tape E.output
  refine ⟨s, E2, R2, ?_⟩
  cases e with
  | returned u => exact plain_rel v hpl hv
  | panicked _ => exact hv.elim
  | outgrown => exact hv.elim

theorem tabR_ok {T : RvTold} (hp : PrimOk P (T.cfg P)) (hm : P.follows .mixedOrders = true) (hcl : ∀ g v, T.glob g = some v → ∀ h, freezeV h 0 40 v = some v) (hgk : ∀ g v, T.glob g = some v → v ≠ .junk) {f : Nat} {l : Tab}
    (hl : ∀ r ∈ l, r.2.plain = true ∧ ∃ h0, call (T.cfg P) f r.1 [] = some (.ret r.2, h0)) {C2 : Cfg} (hG : C2.glob = T.glob) {args : List AV} {h h' : Heap} {res : CRes} (hq : tabR l args h = some (res, h')) {s : Sim} {w : World} {vs : List Value} (R : Rel s h w) (G : Glob C2 s h w) (H : VRs s h w args vs) : CallOk P f vs s h w res h' := by
  unfold tabR at hq
  obtain ⟨avs, has, hq⟩ := Option.bind_eq_some_iff.1 hq
  unfold tabP at hq
  cases hf : l.find? (fun r => AV.eqbs avs r.1) with
  | none => rw [hf] at hq; cases hq
  | some r =>
    rw [hf] at hq
    simp only [Option.some.injEq, Prod.mk.injEq] at hq
    obtain ⟨rfl, rfl⟩ := hq
    have he : avs = r.1 := AV.eqbs_eq _ _ (by have := List.find?_some hf; simpa using this)
    obtain ⟨k2, h0, k3⟩ := hl r (List.mem_of_find?_eq_some hf)
    subst he
    exact closed_callR hp hm hcl hgk k2 k3 hG has R G H

/-- A closed call whose answer, made immutable, is that. -/
theorem closed_callS {T : RvTold} (hp : PrimOk P (T.cfg P)) (hm : P.follows .mixedOrders = true) (hcl : ∀ g v, T.glob g = some v → ∀ h, freezeV h 0 40 v = some v) (hgk : ∀ g v, T.glob g = some v → v ≠ .junk) (hst : ∀ g v, T.glob g = some v → v.still = true) {f : Nat} {args : List AV} {v v0 : AV} {h0 : Heap} (hpa : AV.plains args = true) (hpl : v.still = true)
    (hc : call (T.cfg P) f args [] = some (.ret v0, h0)) (hfr : freezeV h0 0 40 v0 = some v) {C2 : Cfg} (hG : C2.glob = T.glob) {s : Sim} {h : Heap} {w : World} {vs : List Value} (R : Rel s h w) (G : Glob C2 s h w) (H : VRs s h w args vs) : CallOk P f vs s h w (.ret v) h := by
  let s0 : Sim := { μ := fun _ => none, I := s.I, good := ⟨goodOf (ordOk (T.cfg P)), fun _ _ => True, []⟩ }
  have R0 : Rel s0 [] w := ⟨fun o o' b h1 => (by cases h1), fun o b hb => (by cases hb), fun o b hb => (by cases hb), fun b hI => R.imm b hI⟩
  have G0 : GG (T.cfg P) (ordOk (T.cfg P)) s0 [] w := ⟨fun g x hg => still_rel (s := s) (s' := s0) (h := h) (h' := []) (fun b hb => hb) (G g x (by rw [hG]; exact hg)) (hst g x hg), rfl⟩
  have H0 : VRs s0 [] w args vs := ⟨H.1, fun i c hi => by
    obtain ⟨u, hu, hr⟩ := H.2 i c hi
    have := plains_rel (s' := s0) (h' := []) (w' := w) args hpa (f := fun i => vs.getD i undef) (fun i c hi => by
      obtain ⟨u, hu, hr⟩ := H.2 i c hi
      simp only [List.getD, hu, Option.getD_some]
      exact hr) i c hi
    refine ⟨u, hu, ?_⟩
    simpa [List.getD, hu] using this⟩
  have run := RvTold.sound (T := T) (P := P) hgk hcl hp hm hc (vs := vs) R0 G0 H0
  refine Calls.mono run fun e w' he => ?_
  obtain ⟨s', E, R', hv⟩ := he
  have Ec : Ext s0 [] w (s'.cut 0) [] w' := E.cut rfl
  have Rc : Rel (s'.cut 0) [] w' := R0.cut R' E rfl
  have hfar : ∀ b, b < w.heap.size → w'.heap[b]? = w.heap[b]? := fun b hb => E.far b hb (fun o ho => by cases ho)
  have hIold : ∀ b, b < w.heap.size → (s'.cut 0).I b → s.I b := fun b hb hI => by
    rcases Ec.immOld b hb hI with h | ⟨o, ho⟩
    · exact h
    · cases ho
  let s2 : Sim := { μ := s.μ, I := fun b => s.I b ∨ (s'.cut 0).I b, good := s.good }
  have E2 : Ext s h w s2 h w' :=
    { size := E.size, far := fun b hb _ => hfar b hb, shape := E.shape, imm := fun b hb => .inl hb, gen := fun _ g hg => ⟨g, hg, Nat.le_refl _⟩, same := fun _ _ _ _ => ⟨fun _ h => h, rfl⟩, kind := fun _ h _ => h,
      own := fun o b hb => .inl ⟨o, hb⟩, os := E.os, tape := E.tape, output := E.output, kindL := fun _ h => h, good := rfl, old := fun o b _ hb => ⟨b, hb⟩, kept := fun _ _ _ => rfl,
      immOld := fun b hb hI => .inl (hI.elim id (hIold b hb)) }
  have R2 : Rel s2 h w' := ⟨R.inj, fun o b hb => by
    obtain ⟨x, hx, hr⟩ := R.obj o b hb
    exact ⟨x, hx, hr.ext R.apart E2 (hfar b (R.lt hb))⟩, fun o b hb hI => R.apart o b hb (hI.elim id (hIold b (R.lt hb))), fun b hI => by
    rcases hI with hI | hI
    · exact Nat.lt_of_lt_of_le (R.imm b hI) E.size
    · exact Rc.imm b hI⟩
  refine ⟨s2, E2, R2, ?_⟩
  cases e with
  | returned u =>
    have hz := freeze_zero R' hfr hv
    exact still_rel (s := s'.cut 0) (s' := s2) (h := []) (h' := h) (fun b hb => .inr hb) hz hpl
  | panicked _ => exact hv.elim
  | outgrown => exact hv.elim

theorem tabS_ok {T : RvTold} (hp : PrimOk P (T.cfg P)) (hm : P.follows .mixedOrders = true) (hcl : ∀ g v, T.glob g = some v → ∀ h, freezeV h 0 40 v = some v) (hgk : ∀ g v, T.glob g = some v → v ≠ .junk) (hst : ∀ g v, T.glob g = some v → v.still = true) {f : Nat} {l : Tab}
    (hl : ∀ r ∈ l, AV.plains r.1 = true ∧ r.2.still = true ∧ ∃ v0 h0, call (T.cfg P) f r.1 [] = some (.ret v0, h0) ∧ freezeV h0 0 40 v0 = some r.2) {C2 : Cfg} (hG : C2.glob = T.glob) {args : List AV} {h h' : Heap} {res : CRes} (hq : tabP l args h = some (res, h')) {s : Sim} {w : World} {vs : List Value} (R : Rel s h w) (G : Glob C2 s h w) (H : VRs s h w args vs) : CallOk P f vs s h w res h' := by
  unfold tabP at hq
  cases hf : l.find? (fun r => AV.eqbs args r.1) with
  | none => rw [hf] at hq; cases hq
  | some r =>
    rw [hf] at hq
    simp only [Option.some.injEq, Prod.mk.injEq] at hq
    obtain ⟨rfl, rfl⟩ := hq
    have he : args = r.1 := AV.eqbs_eq _ _ (by have := List.find?_some hf; simpa using this)
    obtain ⟨k1, k2, v0, h0, k3, k4⟩ := hl r (List.mem_of_find?_eq_some hf)
    subst he
    exact closed_callS hp hm hcl hgk hst k1 k2 k3 k4 hG R G H
end
end
end Go.Rv

/-
  Layers of a closed run: single steps, and calls as whole runs of their own.
-/
set_option linter.unusedSimpArgs false
set_option linter.unusedVariables false
namespace Go.Rv
noncomputable section
/-- Calls as whole runs: what they come to, and their twin. -/
abbrev Wholes := Nat → Option ((List AV → Heap → Option (CRes × Heap)) × (List AV → TH → Nat → KontC → Res))
def layPrim (S : Taken) (W : Wholes) (f : Nat) : Option (List AV → Heap → Option (CRes × Heap)) := match W f with
  | some x => some x.1
  | none => S.p f
def laySQ (S : Taken) (W : Wholes) : PrimT := fun f => match W f with
  | some _ => none
  | none => S.q f
def layQ (W : Wholes) : CallQ := fun f => match W f with
  | some x => some x.2
  | none => none
def layFn (P : Program) (l : List Nat) (W : Wholes) (f : Nat) : Option FI := match W f with
  | some _ => none
  | none => fnsL P l f
def noW : Wholes := fun _ => none

def WholeT (x : (List AV → Heap → Option (CRes × Heap)) × (List AV → TH → Nat → KontC → Res)) : Prop :=
  ∀ {args : List AV} {H : TH} {n : Nat} {k : KontC} {b : Bool} {h : Heap}, Rep H n h → x.2 args H n k = .ok b → ∃ res h' H' n', x.1 args h = some (res, h') ∧ Rep H' n' h' ∧ k res H' n' = .ok b

theorem lay_twin {P : Program} {T T0 : RvTold} {S : Taken} {W : Wholes} {l : List Nat} (hS : ∀ f q p, S f = some (q, p) → TwinP q p) (hW : ∀ f x, W f = some x → WholeT x) (hp : T.prim = layPrim S W) (hl : l.all (fnOk P (T0.bare P)) = true) (h1 : T.pure = T0.pure) (h2 : T.imm = T0.imm) (h3 : T.quiet = T0.quiet) (h4 : T.loose = T0.loose) :
    TwinOk (T.cfg P) (laySQ S W) (layFn P l W) (layQ W) where
  whole f q hq := by
    unfold layQ at hq
    cases hw : W f with
    | none => rw [hw] at hq; cases hq
    | some x =>
      rw [hw] at hq
      simp only [Option.some.injEq] at hq
      subst hq
      intro args H n k b h R hs
      obtain ⟨res, h', H', n', q1, q2, q3⟩ := hW f x hw R hs
      refine ⟨res, h', H', n', ?_, q2, q3⟩
      have hpr : (T.cfg P).prim f = some x.1 := by
        show T.prim f = _
        rw [hp]
        unfold layPrim
        rw [hw]
      exact (call_prim (C := T.cfg P) f h args x.1 hpr).trans q1
  prim f q hq := by
    unfold laySQ at hq
    cases hw : W f with
    | some x => rw [hw] at hq; cases hq
    | none =>
      rw [hw] at hq
      simp only at hq
      unfold Taken.q at hq
      cases hs : S f with
      | none => rw [hs] at hq; cases hq
      | some x =>
        rw [hs] at hq
        simp only [Option.some.injEq] at hq
        subst hq
        refine ⟨x.2, ?_, hS f x.1 x.2 hs⟩
        show T.prim f = _
        rw [hp]
        unfold layPrim Taken.p
        rw [hw, hs]
  fn f fi hq hf := by
    unfold layFn at hf
    cases hw : W f with
    | some x => rw [hw] at hf; cases hf
    | none =>
      rw [hw] at hf
      unfold laySQ at hq
      rw [hw] at hq
      simp only at hf hq
      refine ⟨?_, fnsL_ok hl h1 h2 h3 h4 hf⟩
      show T.prim f = none
      rw [hp]
      unfold layPrim Taken.p
      unfold Taken.q at hq
      rw [hw]
      simp only
      cases hs : S f with
      | none => rfl
      | some x => rw [hs] at hq; cases hq

theorem lay_prims {P : Program} {T : RvTold} {S : Taken} {W : Wholes} (hT : T.prim = layPrim S W) (hpu : ∀ f, T.pure f = false) (hS : ∀ f q p, S f = some (q, p) → Known P f ∧ ∀ args h res h', p args h = some (res, h') → ∀ s w vs, Rel s h w → Glob (T.cfg P) s h w → VRs s h w args vs → CallOk P f vs s h w res h')
    (hW : ∀ f x, W f = some x → Known P f ∧ ∀ args h res h', x.1 args h = some (res, h') → ∀ s w vs, Rel s h w → Glob (T.cfg P) s h w → VRs s h w args vs → CallOk P f vs s h w res h') : PrimOk P (T.cfg P) := fun f p hp => by
  have hp : T.prim f = some p := hp
  rw [hT] at hp
  unfold layPrim at hp
  have fin : (Known P f ∧ ∀ args h res h', p args h = some (res, h') → ∀ s w vs, Rel s h w → Glob (T.cfg P) s h w → VRs s h w args vs → CallOk P f vs s h w res h') → Known P f ∧ ((T.cfg P).pure f = true → ∀ args h v h', p args h = some (.ret v, h') → h' = h) ∧ ∀ args h res h', p args h = some (res, h') → ∀ s w vs, Rel s h w → Glob (T.cfg P) s h w → VRs s h w args vs → CallOk P f vs s h w res h' := fun hk =>
    ⟨hk.1, fun hpure => absurd (show T.pure f = true from hpure) (by rw [hpu f]; simp), hk.2⟩
  cases hw : W f with
  | some x =>
    rw [hw] at hp
    simp only [Option.some.injEq] at hp
    subst hp
    exact fin (hW f x hw)
  | none =>
    rw [hw] at hp
    simp only at hp
    unfold Taken.p at hp
    cases hs : S f with
    | none => rw [hs] at hp; cases hp
    | some x =>
      rw [hs] at hp
      simp only [Option.some.injEq] at hp
      subst hp
      exact fin (hS f x.1 x.2 hs)

/-- A call that defers, run under a layer without wholes. -/
def dfrW (P : Program) (T : RvTold) (S : Taken) (l : List Nat) (f d : Nat) : (List AV → Heap → Option (CRes × Heap)) × (List AV → TH → Nat → KontC → Res) :=
  (callD (T.cfg P) f d, fun args H n k => (callDB (T.cfg P) (fnsL P l) f d (runB (T.cfg P) S.q (fnsL P l) (fun _ => none) 100000)).use fun q => q args H n k)
theorem dfrW_twin {P : Program} {T T0 : RvTold} {S : Taken} {l : List Nat} {f d : Nat} (hP : Plainly (T.cfg P)) (hS : ∀ f q p, S f = some (q, p) → TwinP q p) (hp : T.prim = S.p) (hl : l.all (fnOk P (T0.bare P)) = true) (h1 : T.pure = T0.pure) (h2 : T.imm = T0.imm) (h3 : T.quiet = T0.quiet) (h4 : T.loose = T0.loose) : WholeT (dfrW P T S l f d) := by
  intro args H n k b h R hs
  have hT := steps_twin (P := P) (T := T) (T0 := T0) hS hp hl h1 h2 h3 h4
  refine callDB_ok (call := runB (T.cfg P) S.q (fnsL P l) (fun _ => none) 100000) hP (fun f fi hf => fnsL_ok hl h1 h2 h3 h4 hf) ?_ R hs
  rw [runB_eq]
  exact runT_ok hP hT 100000
end
end Go.Rv
