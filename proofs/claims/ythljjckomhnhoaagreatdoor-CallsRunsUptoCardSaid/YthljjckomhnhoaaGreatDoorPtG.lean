/-
  Statements and calls: what the interpreter answers, the model's calls come to.
-/
import Derived.Test.YthljjckomhnhoaaGreatDoorPtF
import Derived.Scope
import Derived.RangeFuncLeaves
import Derived.ChangeSame
import Derived.RowKit3
import Derived.JoinedOf
import Derived.JoinedAt
import Derived.Lib.SmallJoins
import Derived.Carry
set_option linter.unusedSectionVars false
set_option linter.unusedSimpArgs false
set_option linter.unusedVariables false
set_option linter.defProp false
namespace Go.Rv
open Go.ChangeMaps (setBlock)
section
variable {P : Program} {C : Cfg} {s : Sim} {h : Heap} {w : World}
theorem get_zip (args : List AV) (t : Nat) : ∀ (n : Nat), n <= t -> Env.get ((args.zipIdx n).map fun (v, i) => (i, v)) t = (args[t - n]?).getD .junk := by
 induction args with
 | nil => intro n _; simp [Env.get_nil]
 | cons a r ih =>
  intro n hn
  simp only [List.zipIdx_cons, qAm, Env.get_cons]
  by_cases he : n = t
  ·subst he; simp
  ·have : (n == t) = false := by simp [he]
   simp only [this, qAb, if_false]
   rw [ih (n + 1) (by omega)]
   obtain ⟨m, hm⟩ : ∃ m, t - n = m + 1 := ⟨t - n - 1, by omega⟩
   rw [hm, List.getElem?_cons_succ, show t - (n + 1) = m from by omega]
theorem envRel_args {args : List AV} {vs : List Value} (H : VRs s h w args vs) (n : Nat) : EnvRel s h w (args.zipIdx.map fun (v, i) => (i, v)) (vs.toArray ++ Array.replicate (n - vs.toArray.size) undef) := by
 intro t
 rw [get_zip args t 0 (Nat.zero_le _)]
 simp only [Nat.sub_zero]
 cases ht : args[t]? with
 | none => exact .junk _
 | some v =>
  obtain ⟨u, hu, hr⟩ := H.2 t v ht
  have hlt := (qAu.1 hu).1
  simp only [Option.getD_some]
  rw [Array.getD_eq_getD_getElem?, Array.getElem?_append_left (by simpa using hlt)]
  simp [hu, hr]
def resOne (tmps : Array Value) : ResultVar -> Sem Value
 | .tmp t => pure (tmps.getD t undef)
 | .cell a t => do loadVar t (← asAddr (tmps.getD a undef))
theorem resOne_tmp (tmps : Array Value) (t : Nat) : (resOne tmps (.tmp t)).run P w = .ok (tmps.getD t undef) w := rfl
theorem resOne_cell (tmps : Array Value) (x t : Nat) (a : Addr) (h : tmps.getD x undef = .pointer (some a)) : resOne tmps (.cell x t) = loadVar t a := by
 simp only [resOne, h, asAddr]; rfl
theorem resultsA_rel {ord : Nat -> Array Oper -> Bool} (K : Ok P C ord) (R : Rel s h w) (G : Glob C s h w) {e : Env} {a : Act} (H : EnvRel s h w e a.tmps) : ∀ {rs : List ResultVar} {vs : List AV}, resultsA C h e rs = some vs ->
  ∃ us, (rs.mapM (resOne a.tmps)).run P w = .ok us w /\ VRs s h w vs us := by
 intro rs
 induction rs with
 | nil =>
  intro vs hv
  simp only [resultsA, qAf] at hv
  subst hv
  exact ⟨[], by simp, rfl, fun i c hi => by simp at hi⟩
 | cons x r ih =>
  intro vs hv
  cases x with
  | tmp t =>
   simp only [resultsA, qAd] at hv
   replace hv := qAc.1 hv
   obtain ⟨v, hv1, hv⟩ := hv
   replace hv := qAc.1 hv
   obtain ⟨vs', hv2, hv⟩ := hv
   simp only [qAf] at hv
   subst hv
   obtain ⟨us, h1, h2⟩ := ih hv2
   have := evalA_rel G H hv1
   refine ⟨a.tmps.getD t undef :: us, ?_, VRs.cons this h2⟩
   simp only [List.mapM_cons, Sem.run_bind, resOne_tmp, Sem.run_pure, Result.andThen_ok, h1]
  | cell x t =>
   simp only [resultsA, qAd] at hv
   replace hv := qAc.1 hv
   obtain ⟨p, hp, hv⟩ := hv
   replace hv := qAc.1 hv
   obtain ⟨v, hv1, hv⟩ := hv
   replace hv := qAc.1 hv
   obtain ⟨vs', hv2, hv⟩ := hv
   simp only [qAf] at hv
   subst hv
   obtain ⟨us, h1, h2⟩ := ih hv2
   have hpr := evalA_rel G H hp
   unfold loadA at hv1
   simp only [qAd] at hv1
   replace hv1 := qAc.1 hv1
   obtain ⟨ti, hti, hv1⟩ := hv1
   replace hv1 := qAc.1 hv1
   obtain ⟨cs, hcs, hv1⟩ := hv1
   obtain ⟨b, off, hu, _⟩ := cellsAt_reads R hpr hcs
   obtain ⟨y, hy1, hy2⟩ := load_rel R (K.ty t ti hti) hpr hcs hv1
   rw [hu] at hy1
   simp only [Instr.loadAt, Instr.sureAddr, Sem.run_bind, Sem.run_pure, Result.andThen_ok] at hy1
   refine ⟨y :: us, ?_, VRs.cons hy2 h2⟩
   change a.tmps.getD x undef = _ at hu
   simp only [List.mapM_cons, Sem.run_bind, resOne_cell _ _ _ _ hu, Sem.run_pure, Result.andThen_ok, hy1, h1]
theorem results_rel {ord : Nat -> Array Oper -> Bool} (K : Ok P C ord) (R : Rel s h w) (G : Glob C s h w) {e : Env} {a : Act} (H : EnvRel s h w e a.tmps) {fn : Func} {vs : List AV} (hv : resultsA C h e fn.results.toList = some vs) :
  ∃ u, (results fn a.tmps).run P w = .ok u w /\ VR s h w (packA vs) u := by
 obtain ⟨us, h1, h2⟩ := resultsA_rel K R G H hv
 have hr : results fn a.tmps = (fn.results.mapM (resOne a.tmps)) >>= fun vs => pure (if h : vs.size = 1 then vs[0] else .tuple vs) := rfl
 rw [hr, Array.mapM_eq_mapM_toList]
 simp only [Sem.run_bind, Sem.run_map, Sem.run_pure, h1, Result.andThen_ok]
 refine ⟨_, rfl, ?_⟩
 obtain ⟨hl, hc⟩ := h2
 split
 ·rename_i h1
  simp only [List.size_toArray] at h1
  obtain ⟨v, rfl⟩ := List.length_eq_one_iff.1 (hl.trans h1)
  obtain ⟨u, rfl⟩ := List.length_eq_one_iff.1 h1
  obtain ⟨u', hu', hr'⟩ := hc 0 v rfl
  simp only [qBe, qAf] at hu'
  subst hu'
  exact hr'
 ·rename_i h1
  simp only [List.size_toArray] at h1
  have hp : packA vs = .tup vs := by
   unfold packA
   split
   ·simp at hl; omega
   ·rfl
  rw [hp]
  refine .tup _ _ (by simpa using hl) fun i c hi => ?_
  obtain ⟨u', hu', hr'⟩ := hc i c hi
  simpa [hu'] using hr'
theorem wpIn_scope_straight {F : Fence} {n : Nat} {Q : Exit -> Act -> World -> Prop} {a : Act} {c : Code} (h : c.wpIn F n P (Exit.noGoto Q) a w) : (Code.scope c).wpIn F n P Q a w := by
 intro b k cs hro hb hr
 have step_scope : step P (lone (b.atR a (.code (.scope c) :: k)) cs w) = .next (lone (b.atR a (.code c :: .inScope c :: k)) cs w) :=
  step_lone_go (by simp [stepG, stepG.exec, Frame.atR])
 have step_inScope : ∀ (a : Act) (w : World), step P (lone (b.atR a (.inScope c :: k)) cs w) = .next (lone (b.atR a k) cs w) := fun a w =>
  step_lone_go (by simp [stepG, stepG.exec, Frame.atR])
 have h1 := StepsIn.one (I := Machine.fenced P F) (fenced_calm (fr := b.atR a (.code (.scope c) :: k)) (cs := cs) (w := w) hb hr rfl) step_scope
 obtain ⟨e, a₁, w₁, hq, harr⟩ := h b (.inScope c :: k) cs hro hb hr
 cases e with
 | normal => exact ⟨.normal, a₁, w₁, hq, StepsIn.trans h1 (StepsIn.trans harr (.one (fenced_calm (fr := b.atR a₁ (.inScope c :: k)) hb hr rfl) (step_inScope _ _)))⟩
 | exit id => exact ⟨.exit id, a₁, w₁, hq, .of_steps h1 ⟨fun k' hk => harr.1 k' (by simp [exitTo, hk]), fun hs hk => harr.2 hs (by simp [exitTo, hk])⟩⟩
 | goto l => exact hq.elim
 | ret => exact ⟨_, a₁, w₁, hq, .of_steps h1 harr⟩
 | panic ch => exact ⟨_, a₁, w₁, hq, .of_steps h1 harr⟩
 | outgrown => exact ⟨_, a₁, w₁, hq, .of_steps h1 harr⟩
theorem loopAt_some {o : Nat} {r : ALoop} (ho : h.loopAt o = some r) : h[o]? = some (.loop r) := by
 unfold Heap.loopAt at ho
 split at ho
 ·rename_i r' hr
  injection ho with ho
  rw [hr, ho]
 ·cases ho
theorem loop_obj (R : Rel s h w) {o b : Nat} {r : ALoop} (hb : s.μ o = some b) (ho : h.loopAt o = some r) : ∃ rec, w.heap[b]? = some (.loop rec) /\ (rec.state = r.st /\ rec.pending = r.pend /\ rec.params.toList = r.ps /\ rec.assign = r.assign /\ rec.body = r.body) /\
  EnvRel s h w r.env rec.tmps /\ s.good.good r.f rec.tmps.size r.ps r.assign r.body := by
 obtain ⟨x, hx, hr⟩ := R.obj o b hb
 rw [loopAt_some ho] at hx
 injection hx with hx; subst hx
 exact hr
theorem loop_write (R : Rel s h w) {o b : Nat} {r : ALoop} {rec : Loop} (hb : s.μ o = some b) (ho : h.loopAt o = some r) (hheap : w.heap[b]? = some (.loop rec)) (st : LoopState) (pend : Option Code) :
  Ext s h w s (h.set o (.loop { r with st := st, pend := pend })) (w.putObj b (.loop { rec with state := st, pending := pend })) /\ Rel s (h.set o (.loop { r with st := st, pend := pend })) (w.putObj b (.loop { rec with state := st, pending := pend })) := by
 have ho' := loopAt_some ho
 have hlt := (qAu.1 ho').1
 have hbl := (qAq.1 hheap).1
 have hfar : ∀ k, k ≠ b -> (w.putObj b (.loop { rec with state := st, pending := pend })).heap[k]? = w.heap[k]? := fun k hk => World.putObj_heap_other hk
 have hat : (w.putObj b (.loop { rec with state := st, pending := pend })).heap[b]? = some (.loop { rec with state := st, pending := pend }) := World.putObj_heap_same hbl
 have E : Ext s h w s (h.set o (.loop { r with st := st, pend := pend })) (w.putObj b (.loop { rec with state := st, pending := pend })) := by
  refine ⟨⟨by simp, fun k _ hn => hfar k (fun e => hn o (e ▸ hb)), fun k x hx => ?_, fun _ h => h, fun k g0 hg0 => ?_, fun k g0 _ _ => ⟨fun _ h => h, ?_⟩, fun k hk _ => ?_, fun k c hc => .inl ⟨k, hc⟩, rfl, rfl, rfl, fun k hk => ?_, rfl⟩, fun k c _ hc => ⟨c, hc⟩, fun k _ hn => ?_, fun _ _ h => .inl h⟩
  ·by_cases e : k = b
   ·subst e
    simp [World.shape?, hheap] at hx
   ·rw [shape_of (hfar k e)]; exact hx
  ·rw [genOf_set (g := g0)]
   by_cases e : o = k
   ·subst e
    have : g0 = 0 := by simp [genOf, ho'] at hg0; omega
    exact ⟨0, by simp [hlt], by omega⟩
   ·exact ⟨g0, by simp [e, hg0], qAr _⟩
  ·by_cases e : o = k
   ·subst e
    unfold lenOf
    rw [ho', qAz hlt]
   ·exact lenOf_set e
  ·by_cases e : o = k
   ·subst e; simp [isMap, ho'] at hk
   ·rw [isMap_set e]; exact hk
  ·by_cases e : o = k
   ·subst e
    unfold isLoop
    rw [qAz hlt]
   ·rw [isLoop_set e]; exact hk
  ·have : o ≠ k := by rintro rfl; rw [hb] at hn; cases hn
   exact qAw this
 refine ⟨E, R.inj, fun k c hk => ?_, R.apart, fun c hI => by have := R.imm c hI; simpa using this⟩
 by_cases e : k = o
 ·subst e
  rw [hb] at hk; injection hk with hk; subst hk
  obtain ⟨rec', h1, h2, h3, h4⟩ := loop_obj R hb ho
  rw [hheap] at h1
  injection h1 with h1; injection h1 with h1; subst h1
  exact ⟨.loop { r with st := st, pend := pend }, by rw [qAz hlt], _, hat, ⟨rfl, rfl, h2.2.2⟩, fun t => (h3 t).ext R.apart E, h4⟩
 ·obtain ⟨x, hx, hr⟩ := R.obj k c hk
  have hne : c ≠ b := fun e' => e (R.inj k o c hk (e' ▸ hb))
  exact ⟨x, by rw [qAw (Ne.symm e)]; exact hx, hr.ext R.apart E (hfar c hne)⟩
structure Patch (B : Nat) (w w' : World) : Prop where
 size : w'.heap.size = w.heap.size
 far : ∀ b : Nat, w'.heap[b]? = w.heap[b]? ∨ (B <= b /\ ∃ ds, w.heap[b]? = some (.deferred ds))
 os : w'.os = w.os
 tape : w'.tape = w.tape
 output : w'.output = w.output
theorem Patch.refl (B : Nat) (w : World) : Patch B w w := ⟨rfl, fun _ => .inl rfl, rfl, rfl, rfl⟩
theorem Patch.put {B b : Nat} {ds : Option (List Deferred)} (hB : B <= b) (hb : w.heap[b]? = some (.deferred ds)) (o : Obj) : Patch B w (w.putObj b o) :=
 ⟨by simp, fun k => by
  by_cases e : k = b
  ·subst e; exact .inr ⟨hB, _, hb⟩
  ·exact .inl (World.putObj_heap_other e), rfl, rfl, rfl⟩
theorem Patch.trans {B : Nat} {w1 w2 w3 : World} (p : Patch B w1 w2) (q : Patch B w2 w3) : Patch B w1 w3 :=
 ⟨q.size.trans p.size, fun k => by
  rcases p.far k with h1 | h1
  ·rcases q.far k with h2 | ⟨h2, ds, h3⟩
   ·exact .inl (h2.trans h1)
   ·exact .inr ⟨h2, ds, by rw [← h1]; exact h3⟩
  ·exact .inr h1, q.os.trans p.os, q.tape.trans p.tape, q.output.trans p.output⟩
theorem Patch.cell {B : Nat} {w w' : World} (p : Patch B w w') {a : Addr} {v : Value} (hv : w.cell? a = some v) : w'.cell? a = some v := by
 rcases p.far a.block with h1 | ⟨_, ds, h1⟩
 ·unfold World.cell? at *; rw [h1]; exact hv
 ·unfold World.cell? at hv; rw [h1] at hv; cases hv
theorem Patch.shape {B : Nat} {w w' : World} (p : Patch B w w') {b : Nat} {x : TypeId × Nat} (hv : w.shape? b = some x) : w'.shape? b = some x := by
 rcases p.far b with h1 | ⟨_, ds, h1⟩
 ·unfold World.shape? at *; rw [h1]; exact hv
 ·unfold World.shape? at hv; rw [h1] at hv; cases hv
theorem VR.patch {B : Nat} {w w' : World} (p : Patch B w w') {x : AV} {v : Value} (H : VR s h w x v) : VR s h w' x v := by
 induction H with
 | bool b => exact .bool b
 | int k n => exact .int k n
 | str l => exact .str l
 | nilPtr => exact .nilPtr
 | nilMap => exact .nilMap
 | nilFunc => exact .nilFunc
 | nilIface => exact .nilIface
 | junk v => exact .junk v
 | ptr o off g b hg hb => exact .ptr o off g b hg hb
 | ptrOld o off g g1 a hg hlt => exact .ptrOld o off g g1 a hg hlt
 | ref cs b off f hI hc _ ih => exact .ref cs b off f hI (fun i c hi => p.cell (hc i c hi)) ih
 | lstNil z => exact .lstNil z
 | lstEmpty z A => exact .lstEmpty z A
 | lst xs z r b off c f hI hr hle hz hc _ ih => exact .lst xs z r b off c f hI hr hle hz (fun i j x y hi hj => p.cell (hc i j x y hi hj)) ih
 | msl o off len z g cap b c el n off' hoff hg hb hle hcap hnone hsh hn => exact .msl o off len z g cap b c el n off' hoff hg hb hle hcap hnone (p.shape hsh) hn
 | mslOld o off len z g cap g1 a n c hg hlt => exact .mslOld o off len z g cap g1 a n c hg hlt
 | clo f cs vs hl _ ih => exact .clo f cs vs hl ih
 | bnd f cs vs hl _ ih => exact .bnd f cs vs hl ih
 | map o b hg hb => exact .map o b hg hb
 | mapOld o g b hg hb => exact .mapOld o g b hg hb
 | yld o b hg hb => exact .yld o b hg hb
 | yldOld o g b hg hb => exact .yldOld o g b hg hb
 | iface t x v hx ih => exact .iface t x v ih
 | agg cs vs hl _ ih => exact .agg cs vs hl ih
 | tup cs vs hl _ ih => exact .tup cs vs hl ih
theorem Rel.patch {B : Nat} {w w' : World} (R : Rel s h w) (p : Patch B w w') : Rel s h w' :=
 ⟨R.inj, fun o b hb => by
  obtain ⟨x, hx, hr⟩ := R.obj o b hb
  refine ⟨x, hx, ?_⟩
  have hat : ∀ {y : Obj}, w.heap[b]? = some y -> (∀ ds, y ≠ .deferred ds) -> w'.heap[b]? = some y := fun {y} hy hn => by
   rcases p.far b with h1 | ⟨_, ds, h1⟩
   ·rw [h1]; exact hy
   ·rw [hy] at h1; injection h1 with h1; exact absurd h1 (hn ds)
  cases x with
  | cells cs g =>
   obtain ⟨bc, el, h1, h2, h3⟩ := hr
   exact ⟨bc, el, hat h1 (fun _ => by simp), h2, fun i c hi => let ⟨v, hv, hr⟩ := h3 i c hi; ⟨v, hv, hr.patch p⟩⟩
  | map es =>
   obtain ⟨es0, hp0, en, cl, h1, h2, h3⟩ := hr
   exact ⟨es0, hp0, en, cl, hat h1 (fun _ => by simp), h2, h3.1, fun i c hi => let ⟨m, hm, h4, h5⟩ := h3.2 i c hi; ⟨m, hm, h4.patch p, h5.patch p⟩⟩
  | loop r =>
   obtain ⟨rec, h1, h2, h3, h4⟩ := hr
   exact ⟨rec, hat h1 (fun _ => by simp), h2, fun t => (h3 t).patch p, h4⟩
  | iter k es =>
   obtain ⟨bm, since, seen, last, en, cl, k1, k2, k3, k4, k5⟩ := hr
   have hat' : w'.heap[bm]? = some (.map en cl) := by
    rcases p.far bm with h1 | ⟨_, ds, h1⟩
    ·rw [h1]; exact k3
    ·rw [k3] at h1; cases h1
   refine ⟨bm, since, seen, last, en, cl, hat k1 (fun _ => by simp), k2, hat', fun hk => ?_, fun hk => ?_⟩
   ·obtain ⟨q1, q2, q3, q4, q5, es0, hp0, q6⟩ := k4 hk
    exact ⟨q1, q2, q3, q4, q5, es0, hp0, fun i e hi => let ⟨m, hm, h6, h7⟩ := q6 i e hi; ⟨m, hm, h6.patch p, h7.patch p⟩⟩
   ·obtain ⟨q1, q2, q3, q4⟩ := k5 hk
    exact ⟨q1, q2, q3, fun e he => let ⟨m, hm, h6, h7, h8⟩ := q4 e he; ⟨m, hm, h6, h7.patch p, h8.patch p⟩⟩, R.apart, fun b hI => by rw [p.size]; exact R.imm b hI⟩
theorem Ext.patch {s1 : Sim} {h1 : Heap} {w1 w2 : World} (E : Ext s h w s1 h1 w1) (p : Patch w.heap.size w1 w2) : Ext s h w s1 h1 w2 where
 size := by rw [p.size]; exact E.size
 far := fun b hb hn => by
  rcases p.far b with h1 | ⟨h1, _⟩
  ·rw [h1]; exact E.far b hb hn
  ·omega
 shape := fun b x hx => p.shape (E.shape b x hx)
 imm := E.imm
 gen := E.gen
 same := E.same
 kind := E.kind
 own := E.own
 os := p.os.trans E.os
 tape := p.tape.trans E.tape
 output := p.output.trans E.output
 kindL := E.kindL
 good := E.good
 old := E.old
 kept := E.kept
 immOld := E.immOld
theorem MarksT.put {B b : Nat} {o : Obj} : ∀ {ds T : List Deferred}, (∀ e ∈ ds, e.target ≠ .collected b) -> MarksT B s w T ds -> MarksT B s (w.putObj b o) T ds
 | [], _, _, h => h
 | d :: ds, _, hn, .inl ⟨⟨b', h1, h2, h3, h4, h5, h6⟩, h7⟩ => .inl ⟨⟨b', h1, h2, by simpa using h3, h4, by
   rw [World.putObj_heap_other (fun e => hn d (by simp) (by rw [h1, e]))]; exact h5, h6⟩, MarksT.put (fun e he => hn e (by simp [he])) h7⟩
 | d :: ds, _, hn, .inr ⟨h1, T', h2, h3⟩ => .inr ⟨h1, T', h2, MarksT.put (fun e he => hn e (by simp [he])) h3⟩
theorem leaves_tail {B : Nat} {F : Fence} {n : Nat} {fn : Func} {tmps : Array Value} {R : Ending -> World -> Prop} {u : FrameMode} (hu : u ≠ .run) : ∀ {ds T : List Deferred} {w : World}, MarksT B s w T ds ->
  (T = [] -> ∀ w', Patch B w w' -> LeavesIn F n P fn tmps R [] u w') -> (∀ d T', T = d :: T' -> ∀ ds' w', Patch B w w' -> MarksT B s w' T' ds' -> LeavesInM F n P fn tmps R (d :: ds') u w') -> LeavesInM F n P fn tmps R ds u w
 | [], T, w, hT, H, _ => H hT w (Patch.refl B w)
 | _ :: _, T, _, .inl ⟨⟨_, h1, h2, _, _, h5, h6⟩, h7⟩, H, H2 => ⟨hu, .inl ⟨_, _, h1, run_takeDeferred h5, leaves_tail hu (h7.put h6) (fun hT w' hp => H hT w' ((Patch.put h2 h5 _).trans hp))
   (fun d T' hT ds' w' hp => H2 d T' hT ds' w' ((Patch.put h2 h5 _).trans hp))⟩⟩
 | _ :: ds, T, w, .inr ⟨_, T', hT, h3⟩, _, H2 => H2 _ T' hT ds w (Patch.refl B w) h3
theorem leaves_marks {B : Nat} {F : Fence} {n : Nat} {fn : Func} {tmps : Array Value} {R : Ending -> World -> Prop} {u : FrameMode} (hu : u ≠ .run) (ht : s.good.tail = []) {ds : List Deferred} {w : World} (M : Marks B s w ds)
  (H : ∀ w', Patch B w w' -> LeavesIn F n P fn tmps R [] u w') : LeavesInM F n P fn tmps R ds u w :=
 leaves_tail hu M (fun _ => H) (fun d T' hT => by rw [ht] at hT; cases hT)
def ExecAt (P : Program) (C : Cfg) (ord : Nat -> Array Oper -> Bool) (k : Nat) : Prop := ∀ (f N : Nat) (c : Code) (e : Env) (h : Heap) (out : Out) (e' : Env) (h' : Heap), codeOk (ord f) N c = true -> execF C k f c e h = some (out, e', h') ->
 ∀ (r : Option Nat) (B : Nat) (s : Sim) (w : World) (a : Act), a.tmps.size = N -> Dues B s w a.defers -> Around s h r -> Rel s h w -> GG C ord s h w -> EnvRel s h w e a.tmps ->
  c.wpIn (Fr r) 0 P (OutOk B s h w N out e' h') a w
theorem OutOk.then {B : Nat} {s1 : Sim} {h1 : Heap} {w1 : World} {N : Nat} {out : Out} {e' : Env} {h' : Heap} (E : Ext s h w s1 h1 w1) {ex : Exit} {a : Act} {w' : World} (H : OutOk B s1 h1 w1 N out e' h' ex a w') : OutOk B s h w N out e' h' ex a w' := by
 obtain ⟨s', k1, k2, k3⟩ := H
 exact ⟨s', E.trans k1, k2, k3⟩
theorem out_other {B : Nat} {N : Nat} {out : Out} {e' : Env} {h' : Heap} {next : Act -> World -> Prop} {ex : Exit} {a : Act} {w' : World} (hn : out ≠ .nrm) (H : OutOk B s h w N out e' h' ex a w') : Exit.then next (OutOk B s h w N out e' h') ex a w' := by
 cases ex <;> first | exact H | skip
 obtain ⟨s', k1, k2, k3, k4, k5⟩ := H
 cases out <;> first | exact absurd rfl hn | exact k5.elim
theorem out_nrm {B : Nat} {N : Nat} {e' : Env} {h' : Heap} {Q : Exit -> Act -> World -> Prop} {next : Act -> World -> Prop} {ex : Exit} {a : Act} {w' : World} (H : OutOk B s h w N .nrm e' h' ex a w')
  (hnext : ∀ s' a w', Ext s h w s' h' w' -> Rel s' h' w' -> a.tmps.size = N -> Dues B s' w' a.defers -> EnvRel s' h' w' e' a.tmps -> next a w') : Exit.then next Q ex a w' := by
 obtain ⟨s', k1, k2, k3, k4, k5⟩ := H
 cases ex <;> first | exact k5.elim | exact hnext s' _ _ k1 k2 k3 k4 k5
theorem OutOk.noGoto {B : Nat} {N : Nat} {out : Out} {e' : Env} {h' : Heap} {ex : Exit} {a : Act} {w' : World} (H : OutOk B s h w N out e' h' ex a w') : Exit.noGoto (OutOk B s h w N out e' h') ex a w' := by
 cases ex <;> first | exact H | skip
 obtain ⟨s', k1, k2, k3, k4, k5⟩ := H
 cases out <;> exact k5.elim
theorem OutOk.keep {B : Nat} {N : Nat} {e' : Env} {h' : Heap} {ex : Exit} {a : Act} {w' : World} (l : Option (List Nat)) (H : OutOk B s h w N .nrm e' h' ex a w') : OutOk B s h w N .nrm (match l with | some l => e'.keep l | none => e') h' ex a w' := by
 cases l with
 | none => exact H
 | some l =>
  obtain ⟨s', k1, k2, k3, k4, k5⟩ := H
  refine ⟨s', k1, k2, k3, k4, ?_⟩
  cases ex <;> first | exact k5.elim | exact k5.keep l
theorem rounds_mono {F : Fence} {m : Nat} {b : Code} {Q Q' : Exit -> Act -> World -> Prop} (hq : ∀ ex a w, Q ex a w -> Q' ex a w) : ∀ (n : Nat) (a : Act) (w : World), Code.roundsIn F m P b Q n a w -> Code.roundsIn F m P b Q' n a w
 | 0, _, _, H => H
 | n + 1, a, w, H => wpIn_mono H fun ex a w h => by
  cases ex <;> first | exact hq _ _ _ h | exact rounds_mono hq n a w h
theorem loopAt_is {o : Nat} {r : ALoop} (ho : h.loopAt o = some r) : isLoop h o = true := by
 unfold isLoop; rw [loopAt_some ho]
theorem not_busy {st : LoopState} (hb : (st == LoopState.busy) = false) : st ≠ .busy := by
 rintro rfl; exact absurd hb (by decide)
theorem is_ready {st : LoopState} (hb : (st != LoopState.ready) = false) : st = .ready := by
 cases st <;> first | rfl | exact absurd hb (by decide)
theorem MarksT.drop {B o : Nat} : ∀ {ds T : List Deferred}, MarksT B s w T ds -> MarksT B (s.drop o) w T ds
 | [], _, h => h
 | _ :: _, _, .inl ⟨⟨b, h1, h2, h3, h4, h5, h6⟩, h7⟩ => .inl ⟨⟨b, h1, h2, h3, fun k hk => by
   simp only [Sim.drop] at hk
   split at hk
   ·cases hk
   ·exact h4 k hk, h5, h6⟩, MarksT.drop h7⟩
 | _ :: _, _, .inr ⟨h1, T', h2, h3⟩ => .inr ⟨h1, T', h2, MarksT.drop h3⟩
theorem Dues.drop {B o : Nat} {ds : List Deferred} (h : Dues B s w ds) : Dues B (s.drop o) w ds := ⟨h.1, MarksT.drop (T := s.good.tail) h.2⟩
theorem range_core {ord : Nat -> Array Oper -> Bool} {k : Nat} (HC : CallsAt P C ord k) {f N : Nat} {g : Operand} {ps : Array Nat} {assign body : Code} {e : Env} {out : Out} {e' : Env} {h' : Heap}
  (hok : codeOk (ord f) N (.rangeFunc g ps assign body) = true) (hx : execF C (k + 1) f (.rangeFunc g ps assign body) e h = some (out, e', h')) {r : Option Nat} {B : Nat} {a : Act} (hN : a.tmps.size = N)
  (H : EnvRel s h w e a.tmps) (G : GG C ord s h w) (hap : ∀ o b, s.μ o = some b -> ¬ s.I b)
  {sA : Sim} {wA : World} (EA : Ext s h w sA h wA) (RA : Rel sA h wA) {rec : Loop} (h1 : rec.state = .ready) (h2 : rec.pending = none) (h3 : rec.tmps = a.tmps) (h4 : rec.params = ps) (h5 : rec.assign = assign) (h6 : rec.body = body)
  {mark : List Deferred} (D : Dues B sA wA (mark ++ a.defers)) :
  ∃ (d : Deferred) (w1' : World) (f' : FuncId) (args' : Array Value) (w2 : World), (resolve a.eval (rangeCall g wA.heap.size) 0).run P (wA.alloc (.loop rec)) = .ok d w1' /\
   (∀ f'', Target.leads P w1' d.target d.args = some f'' -> (Fr r).fn f'') /\ (invoke d.target d.args).run P w1' = .ok (.enter f' args') w2 /\ ((Fr r).depth.isSome = true -> 1 <= 0) /\
   CallsIn (Fr r) (0 - 1) P f' args' w2 (rangePost (Fr r) 0 P wA.heap.size (OutOk B s h w N out e' h') { a with defers := mark ++ a.defers }) := by
 simp only [codeOk, qAa] at hok
 simp only [execF, qAd] at hx
 obtain ⟨gv, hgv, hx⟩ := qAc.1 hx
 have hgr := evalA_rel G.g H hgv
 cases gv <;> simp only [reduceCtorEq] at hx
 rename_i g' caps
 obtain ⟨⟨res, h1'⟩, hcall, hx⟩ := qAc.1 hx
 obtain ⟨r1, hr1, hx⟩ := qAc.1 hx
 obtain ⟨hk, hfn⟩ := HC.fn k (qAr _) _ _ _ _ _ hcall
 have GA := G.ext hap EA
 have E1 := Ext.new RA (.loop rec) (.loop { st := .ready, pend := none, f := f, env := e, ps := ps.toList, assign := assign, body := body })
 have HA := H.ext hap EA
 have R1 := Rel.new RA (.loop rec) (.loop { st := .ready, pend := none, f := f, env := e, ps := ps.toList, assign := assign, body := body })
  ⟨rec, heap_alloc_at wA _, ⟨h1, h2, by rw [h4], h5, h6⟩, fun t => by rw [h3]; exact (HA t).ext RA.apart E1, by
   show sA.good.good _ _ _ _ _
   rw [GA.good, h3, hN]
   exact ⟨hok.1.1, hok.1.2, hok.2⟩⟩
 have G1 := GA.ext RA.apart E1
 generalize hag : a.eval g = ag at hgr
 cases hgr with
 | clo _ _ us hl hr =>
 obtain ⟨fn, c, f1, f2, f3⟩ := hk
 have hyl : VR (sA.add h.length wA.heap.size) (h ++ [.loop { st := .ready, pend := none, f := f, env := e, ps := ps.toList, assign := assign, body := body }]) (wA.alloc (.loop rec)) (.yld h.length) (.func (.yield wA.heap.size) #[] #[]) :=
  .yld _ _ (by unfold isLoop; rw [qAy (qAr _)]; simp) (by simp [Sim.add])
 have hargs : VRs (sA.add h.length wA.heap.size) (h ++ [.loop { st := .ready, pend := none, f := f, env := e, ps := ps.toList, assign := assign, body := body }]) (wA.alloc (.loop rec)) (.yld h.length :: caps) (.func (.yield wA.heap.size) #[] #[] :: us.toList) :=
  VRs.cons hyl ⟨by simpa using hl, fun i c hi => by
   have hlt : i < us.size := by rw [← hl]; exact (qAu.1 hi).1
   refine ⟨us[i], by simp [hlt], ?_⟩
   have := ((hr i c hi).ext hap EA).ext RA.apart E1
   simpa [hlt] using this⟩
 have hC := hfn _ _ _ R1 G1 hargs
 refine ⟨{ target := .fn (.func g') us, args := #[.func (.yield wA.heap.size) #[] #[]] }, wA.alloc (.loop rec), g', #[.func (.yield wA.heap.size) #[] #[]] ++ us, wA.alloc (.loop rec), ?_, fun _ _ => trivial, ?_, Fr_depth r, ?_⟩
 ·simp only [resolve, hag, Deferred.ofValue, Sem.run_pure]
  simp [Act.eval]
 ·simp only [invoke, callFunc, Sem.run_bind, run_program, Result.andThen_ok, f1, f3, f2, Option.isNone_some, qAb, if_false, Sem.run_pure]
 ·have harr : (.func (.yield wA.heap.size) #[] #[] :: us.toList).toArray = #[.func (.yield wA.heap.size) #[] #[]] ++ us := by apply Array.ext'; simp
  rw [← harr]
  refine callsIn_fr.2 (Calls.mono hC fun en w2 hend => ?_)
  obtain ⟨s2, E2, R2, hres⟩ := hend
  cases res with
  | pan v => simp only [reduceCtorEq] at hx
  | ret v =>
   cases en with
   | panicked chain => exact hres.elim
   | outgrown => exact hres.elim
   | returned u =>
    simp only at hx
    by_cases hbusy : (r1.st == LoopState.busy) = true
    ·rw [if_pos hbusy] at hx; cases hx
    rw [if_neg hbusy] at hx
    have hyl2 := hyl.ext R1.apart E2
    cases hyl2 with
    | yldOld _ g0 _ z1 z2 => have z3 := genOf_loop (loopAt_is hr1); rw [z3] at z1; injection z1 with z1; omega
    | yld _ _ y1 y2 =>
    obtain ⟨rec1, hrec1, q1, q2, q3⟩ := loop_obj R2 y2 hr1
    have hb1 : rec1.state ≠ .busy := by rw [q1.1]; exact not_busy (by simpa using hbusy)
    obtain ⟨E3, R3⟩ := loop_write R2 y2 hr1 hrec1 .exhausted r1.pend
    have ew : w2.putObj wA.heap.size (.loop { rec1 with state := .exhausted }) = w2.putObj wA.heap.size (.loop { rec1 with state := .exhausted, pending := r1.pend }) := by rw [← q1.2.1]
    have E4' := EA.trans (E1.trans (E2.trans E3))
    have hol : h.length < (h1'.set h.length (.loop { r1 with st := .exhausted, pend := r1.pend })).length := by
     rw [List.length_set]; exact (qAu.1 (loopAt_some hr1)).1
    obtain ⟨E4, R4⟩ := drop_new E4' R3 (qAr h.length) hol (by rw [genOf_set (g := 0)]; simp at hol; simp [hol])
    rw [List.set_set] at E4 R4
    have D4 : Dues B (s2.drop h.length) (w2.putObj wA.heap.size (.loop { rec1 with state := .exhausted, pending := r1.pend })) (mark ++ a.defers) := (((D.ext0 E1.toExt0).ext0 E2.toExt0).ext0 E3.toExt0).drop
    refine ⟨rec1.pending, _, run_endLoop hrec1 hb1, ?_⟩
    rw [ew, q1.2.1]
    cases hp : r1.pend with
    | none =>
     simp only [hp, qAf, qAg] at hx
     obtain ⟨rfl, rfl, rfl⟩ := hx
     rw [hp] at E4 R4 D4
     exact ⟨s2.drop h.length, E4, R4, hN, D4, H.ext hap E4⟩
    | some c =>
     cases c <;> simp only [hp, reduceCtorEq, qAf, qAg] at hx
     ·obtain ⟨rfl, rfl, rfl⟩ := hx
      rw [hp] at E4 R4 D4
      exact wpIn_exit ⟨s2.drop h.length, E4, R4, hN, D4, rfl, H.ext hap E4⟩
     ·obtain ⟨rfl, rfl, rfl⟩ := hx
      rw [hp] at E4 R4 D4
      exact wpIn_ret ⟨s2.drop h.length, E4, R4, hN, D4, H.ext hap E4⟩
theorem MarksT.fix {B : Nat} (g : Fixed) : ∀ {ds T : List Deferred}, MarksT B s w T ds -> MarksT B (s.fix g) w T ds
 | [], _, h => h
 | _ :: _, _, .inl h => .inl ⟨h.1, MarksT.fix g h.2⟩
 | _ :: _, _, .inr ⟨h1, T', h2, h3⟩ => .inr ⟨h1, T', h2, MarksT.fix g h3⟩
theorem Dues.fix {B : Nat} (g : Fixed) (hg : g.tail = s.good.tail) {ds : List Deferred} (h : Dues B s w ds) : Dues B (s.fix g) w ds := ⟨h.1, by
 show MarksT B (s.fix g) w g.tail ds
 rw [hg]; exact MarksT.fix g h.2⟩
theorem exec_at {ord : Nat -> Array Oper -> Bool} (K : Ok P C ord) (hord : ∀ f ops, ord f ops = true -> ordOk C f ops = true) : ∀ k, CallsAt P C ord k -> (∀ k', k' <= k -> ExecAt P C ord k') /\
  ∀ (f N : Nat) (b : Code) (e : Env) (h : Heap) (out : Out) (e' : Env) (h' : Heap), C.roundsOf f b = none -> codeOk (ord f) N b = true -> execF C k f (.loop b) e h = some (out, e', h') ->
   ∀ (r : Option Nat) (B : Nat) (s : Sim) (w : World) (a : Act), a.tmps.size = N -> Dues B s w a.defers -> Around s h r -> Rel s h w -> GG C ord s h w -> EnvRel s h w e a.tmps -> Code.roundsIn (Fr r) 0 P b (OutOk B s h w N out e' h') k a w := by
 intro k
 induction k with
 | zero =>
  intro _
  refine ⟨fun k' hk => ?_, ?_⟩
  ·obtain rfl : k' = 0 := by omega
   intro f N c e h out e' h' _ hx
   simp [execF] at hx
  ·intro f N c e h out e' h' _ _ hx
   simp [execF] at hx
 | succ k ih =>
  intro HC
  have HC' : CallsAt P C ord k := HC.le (by omega)
  obtain ⟨ihE, ihL⟩ := ih HC'
  have ihk := ihE k (qAr _)
  have loops : ∀ (f N : Nat) (b : Code) (e : Env) (h : Heap) (out : Out) (e' : Env) (h' : Heap), C.roundsOf f b = none -> codeOk (ord f) N b = true -> execF C (k + 1) f (.loop b) e h = some (out, e', h') ->
   ∀ (r : Option Nat) (B : Nat) (s : Sim) (w : World) (a : Act), a.tmps.size = N -> Dues B s w a.defers -> Around s h r -> Rel s h w -> GG C ord s h w -> EnvRel s h w e a.tmps -> Code.roundsIn (Fr r) 0 P b (OutOk B s h w N out e' h') (k + 1) a w := by
   intro f N b e h out e' h' hro hok hx r B s w a hN hdf A R G H
   rw [execF] at hx
   simp only [hro, qAd] at hx
   replace hx := qAc.1 hx
   obtain ⟨⟨o1, e1, h1⟩, hx1, hx⟩ := hx
   have hb := ihk f N b e h o1 e1 h1 hok hx1 r B s w a hN hdf A R G H
   rw [roundsIn_succ]
   refine wpIn_mono hb fun ex a1 w1 hq => ?_
   cases o1 with
   | nrm =>
    simp only at hx
    exact out_nrm hq fun s1 a1 w1 E1 R1 hN1 hdf1 H1 => rounds_mono (fun _ _ _ hq => hq.then E1) k _ _ (ihL f N b e1 h1 out e' h' hro hok hx r B s1 w1 a1 hN1 hdf1 (A.ext0 E1.toExt0) R1 (G.ext R.apart E1) H1)
   | _ =>
    simp only [qAf, qAg] at hx
    obtain ⟨rfl, rfl, rfl⟩ := hx
    exact out_other (by simp) hq
  refine ⟨fun k' hk => ?_, loops⟩
  by_cases hk' : k' <= k
  ·exact ihE k' hk'
  obtain rfl : k' = k + 1 := by omega
  intro f N c e h out e' h' hok hx r B s w a hN hdf A R G H
  cases c <;> simp only [execF, qAd, reduceCtorEq] at hx
  case skip =>
   simp only [qAf, qAg] at hx
   obtain ⟨rfl, rfl, rfl⟩ := hx
   exact wpIn_skip ⟨s, Ext.refl _ _ _, R, hN, hdf, H⟩
  case label l =>
   simp only [qAf, qAg] at hx
   obtain ⟨rfl, rfl, rfl⟩ := hx
   exact wpIn_label ⟨s, Ext.refl _ _ _, R, hN, hdf, H⟩
  case exit id =>
   simp only [qAf, qAg] at hx
   obtain ⟨rfl, rfl, rfl⟩ := hx
   exact wpIn_exit ⟨s, Ext.refl _ _ _, R, hN, hdf, rfl, H⟩
  case ret =>
   simp only [qAf, qAg] at hx
   obtain ⟨rfl, rfl, rfl⟩ := hx
   exact wpIn_ret ⟨s, Ext.refl _ _ _, R, hN, hdf, H⟩
  case scope b =>
   simp only [codeOk] at hok
   exact wpIn_scope_straight (wpIn_mono (ihk f N b e h out e' h' hok hx r B s w a hN hdf A R G H) fun _ _ _ hq => hq.noGoto)
  case loop b =>
   simp only [codeOk] at hok
   cases hro : C.roundsOf f b with
   | none =>
    exact wpIn_loop_rounds (k + 1) (loops f N b e h out e' h' hro hok (by rw [execF]; simp only [hro, qAd] at hx ⊢; exact hx) r B s w a hN hdf A R G H)
   | some m =>
    simp only [hro] at hx
    exact absurd hro (by unfold Cfg.roundsOf mapLoopOf; split <;> simp)
  case seq b c =>
   simp only [codeOk, qAa] at hok
   replace hx := qAc.1 hx
   obtain ⟨⟨o1, e1, h1⟩, hx1, hx⟩ := hx
   have hb := ihk f N b e h o1 e1 h1 hok.1 hx1 r B s w a hN hdf A R G H
   refine wpIn_seq (wpIn_mono hb fun ex a1 w1 hq => ?_)
   cases o1 with
   | nrm =>
    simp only at hx
    exact out_nrm hq fun s1 a1 w1 E1 R1 hN1 hdf1 H1 => wpIn_mono (ihk f N c e1 h1 out e' h' hok.2 hx r B s1 w1 a1 hN1 hdf1 (A.ext0 E1.toExt0) R1 (G.ext R.apart E1) H1) fun _ _ _ hq => hq.then E1
   | _ =>
    simp only [qAf, qAg] at hx
    obtain ⟨rfl, rfl, rfl⟩ := hx
    exact out_other (by simp) hq
  case cond x b c =>
   simp only [codeOk, qAa] at hok
   replace hx := qAc.1 hx
   obtain ⟨v, hv, hx⟩ := hx
   have hvr := evalA_rel G.g H hv
   split at hx
   all_goals (try (cases hx; done))
   all_goals
    generalize hae : a.eval x = u at hvr
    cases hvr
    refine wpIn_cond hae ?_
   ·exact ihk f N b e h out e' h' hok.1 hx r B s w a hN hdf A R G H
   ·exact ihk f N c e h out e' h' hok.2 hx r B s w a hN hdf A R G H
  case block id b =>
   simp only [codeOk] at hok
   replace hx := qAc.1 hx
   obtain ⟨⟨o1, e1, h1⟩, hx1, hx⟩ := hx
   have hb := ihk f N b e h o1 e1 h1 hok hx1 r B s w a hN hdf A R G H
   refine wpIn_block (wpIn_mono hb fun ex a1 w1 hq => ?_)
   obtain ⟨s', k1, k2, k3, k4, k5⟩ := hq
   cases o1 with
   | exit id' =>
    cases ex with
    | exit id2 =>
    obtain ⟨k5, k6⟩ := k5
    subst k5
    simp only [Exit.inBlock]
    by_cases hid : id2 = id
    ·simp only [hid, beq_self_eq_true, if_true, qAf, qAg] at hx
     obtain ⟨rfl, rfl, rfl⟩ := hx
     rw [if_pos hid]
     exact ⟨s', k1, k2, k3, k4, k6⟩
    ·have : (id2 == id) = false := by simp [hid]
     simp only [this, qAb, if_false, qAf, qAg] at hx
     obtain ⟨rfl, rfl, rfl⟩ := hx
     rw [if_neg hid]
     exact ⟨s', k1, k2, k3, k4, rfl, k6⟩
    | _ => exact k5.elim
   | _ =>
    simp only [qAf, qAg] at hx
    obtain ⟨rfl, rfl, rfl⟩ := hx
    cases ex <;> first | exact k5.elim | exact ⟨s', k1, k2, k3, k4, k5⟩
  case region id ops draw =>
   simp only [codeOk, qAa] at hok
   replace hx := qAc.1 hx
   obtain ⟨⟨o1, e1, h1⟩, hx1, hx⟩ := hx
   cases draw with
   | false =>
    have hb := ops_sound K hok.1 (r := r) (B := B) k HC' ops.toList (List.range ops.size) (map_range ops) e h o1 e1 h1 (by simpa [sched] using hx1) s w a hN hdf R G H
    refine wpIn_region (wpOps_mono (fun ex a w hq => ?_) _ _ _ hb)
    cases o1 with
    | nrm =>
     simp only [qAf, qAg] at hx
     obtain ⟨rfl, rfl, rfl⟩ := hx
     exact hq.keep _
    | _ =>
     simp only [qAb, if_false, qAf, qAg] at hx
     obtain ⟨rfl, rfl, rfl⟩ := hx
     exact hq
   | true =>
    cases o1 with
    | nrm =>
     simp only [qAf, qAg] at hx
     obtain ⟨rfl, rfl, rfl⟩ := hx
     have E := Ext.draw s h w (w.drawn + 1)
     have hb := draw_sound K hok.1 (hord f ops (by simpa using hok.2)) HC' (r0 := r) (B := B) hx1 hN (hdf.ext0 E.toExt0) (R.draw (w.drawn + 1)) (G.ext R.apart E) (H.ext R.apart E)
     exact wpIn_mono (wpIn_region_any K.mixed hb) fun ex a w hq => (hq.then E).keep _
    | pan v =>
     simp only [if_true] at hx
     split at hx
     ·rename_i hpk; exact absurd (show false = true from hpk) (by decide)
     ·cases hx
    | _ => simp at hx
  case rangeFunc g ps assign body =>
   have hx' : execF C (k + 1) f (.rangeFunc g ps assign body) e h = some (out, e', h') := by simp only [execF, qAd]; exact hx
   refine wpIn_rangeFunc fun fn _ => ?_
   cases r with
   | none =>
    have EA := Ext.block s h w (.deferred (some [])) false
    have RA := R.block (.deferred (some [])) false
    have D : Dues B { s with I := fun b => s.I b ∨ (false = true /\ b = w.heap.size) } (w.alloc (.deferred (some []))) ([{ target := .collected w.heap.size, args := #[] }] ++ a.defers) :=
     ⟨Nat.le_trans hdf.1 EA.size, Marks.cons rfl hdf.1 (by rw [size_alloc]; omega) (fun o ho => by have := R.lt ho; omega) (heap_alloc_at w _) hdf.2.lt (hdf.2.ext0 EA.toExt0)⟩
    obtain ⟨d, w1', f', args', w2, k1, k2, k3, k4, k5⟩ := range_core (r := none) HC' hok hx' hN H G R.apart EA RA (rec := { state := .ready, pending := none, fn, tmps := a.tmps, params := ps, assign, body, defers := w.heap.size }) rfl rfl rfl rfl rfl rfl D
    rw [size_alloc] at k1 k5
    exact ⟨_, _, _, d, w1', f', args', w2, run_enterLoop_outer fn a.tmps ps assign body, k1, k2, k3, k4, k5⟩
   | some l =>
    obtain ⟨o, ho, hl⟩ := A
    obtain ⟨x, hxo, hxr⟩ := R.obj o l hl
    unfold isLoop at ho
    rw [hxo] at ho
    cases x <;> simp only [qAb] at ho
    obtain ⟨rec0, hrec0, _⟩ := hxr
    obtain ⟨d, w1', f', args', w2, k1, k2, k3, k4, k5⟩ := range_core (r := some l) HC' hok hx' hN H G R.apart (Ext.refl s h w) R (rec := { state := .ready, pending := none, fn, tmps := a.tmps, params := ps, assign, body, defers := rec0.defers }) (mark := []) rfl rfl rfl rfl rfl rfl (by simpa using hdf)
    refine ⟨w.heap.size, [], w.alloc (.loop { state := .ready, pending := none, fn, tmps := a.tmps, params := ps, assign, body, defers := rec0.defers }), d, w1', f', args', w2, ?_, k1, k2, k3, k4, k5⟩
    show (Instr.enterLoop fn a.tmps ps assign body (some l)).run P w = _
    unfold Instr.enterLoop
    simp only [Sem.run_bind, run_getLoop hrec0, run_newObj_alloc, Result.andThen, Sem.run_pure]
theorem leave_ok {f : Nat} {v : AV} {h1 : Heap} {res : CRes} {h' : Heap} (hl : leaveA C f h v h1 = some (res, h')) (R : Rel s h w) {s1 : Sim} {w1 : World} (E : Ext s h w s1 h1 w1) (R1 : Rel s1 h1 w1) {u : Value} (hv : VR s1 h1 w1 v u) :
  EndOk s h w res h' (.returned u) w1 := by
 unfold leaveA at hl
 split at hl
 ·split at hl
  ·rename_i hh
   obtain ⟨v', hv', hx⟩ := qAl.1 hl
   simp only [qAg] at hx
   obtain ⟨rfl, rfl⟩ := hx
   have hn : h.length <= h1.length := by
    have := congrArg List.length hh
    simp at this; omega
   have hz := freeze_rel R1 hn 40 (qAr _) hv' hv
   rw [hh] at hz
   exact ⟨s1.cut h.length, E.cut hh, R.cut R1 E hh, hz⟩
  ·cases hl
 ·simp only [qAf, qAg] at hl
  obtain ⟨rfl, rfl⟩ := hl
  exact ⟨s1, E, R1, hv⟩
theorem Env.puts_rel {ps : List Nat} : ∀ {vs : List AV} {us : List Value} {e : Env} {tmps : Array Value}, (∀ t ∈ ps, t < tmps.size) -> VRs s h w vs us -> EnvRel s h w e tmps -> EnvRel s h w (e.puts ps vs) ((ps.zip us).foldl (fun tmps (t, a) => tmps.setIfInBounds t a) tmps) := by
 induction ps with
 | nil => intro vs us e tmps _ _ H; cases vs <;> exact H
 | cons t ps ih =>
  intro vs us e tmps ht HV H
  cases vs with
  | nil =>
   have : us = [] := by have := HV.1; cases us with | nil => rfl | cons _ _ => simp at this
   subst this
   exact H
  | cons v vs =>
   cases us with
   | nil => have := HV.1; simp at this
   | cons u us =>
    have hv : VR s h w v u := by obtain ⟨u', h1, h2⟩ := HV.2 0 v rfl; simp at h1; subst h1; exact h2
    have hvs : VRs s h w vs us := ⟨by have := HV.1; simpa using this, fun i c hi => HV.2 (i + 1) c (by simpa using hi)⟩
    simp only [Env.puts, List.zip_cons_cons, List.foldl_cons]
    refine ih (fun t' h' => by simpa using ht t' (by simp [h'])) hvs ?_
    have := EnvRel.put (a := { tmps := tmps, defers := [] }) H (some t) (fun t' h' => by injection h' with h'; subst h'; exact ht t (by simp)) hv
    simpa [Env.putAt, Act.put] using this
theorem zip_fold (ps : Array Nat) (us : List Value) (tmps : Array Value) : (ps.zip us.toArray).foldl (fun tmps (t, a) => tmps.setIfInBounds t a) tmps = (ps.toList.zip us).foldl (fun tmps (t, a) => tmps.setIfInBounds t a) tmps := by
 rw [← Array.foldl_toList]
 simp
theorem puts_size (ps : List Nat) (us : List Value) : ∀ (tmps : Array Value), ((ps.zip us).foldl (fun tmps (t, a) => tmps.setIfInBounds t a) tmps).size = tmps.size := by
 induction ps generalizing us with
 | nil => intro _; rfl
 | cons t ps ih =>
  intro tmps
  cases us with
  | nil => rfl
  | cons u us => simp only [List.zip_cons_cons, List.foldl_cons]; rw [ih]; simp
def nt (s : Sim) : Sim := s.fix { s.good with tail := [] }
theorem nt_rel (R : Rel s h w) : Rel (nt s) h w := R.fix _ rfl fun _ _ _ _ _ _ hx => hx
theorem nt_gg {ord : Nat -> Array Oper -> Bool} (G : GG C ord s h w) : GG C ord (nt s) h w := ⟨fun g v hg => (G.g g v hg).regood _, G.good⟩
theorem nt_vrs {xs : List AV} {us : List Value} (H : VRs s h w xs us) : VRs (nt s) h w xs us := H.regood _
theorem nt_end {res : CRes} {h' : Heap} {e : Ending} {w' : World} (H : EndOk (nt s) h w res h' e w') : EndOk s h w res h' e w' := by
 obtain ⟨s', E, R, hm⟩ := H
 refine ⟨s'.fix s.good, E.fix, R.fix s.good (by rw [E.good]; rfl) (fun o b es _ _ x hx => by rw [E.good] at hx; exact hx), ?_⟩
 cases res <;> cases e <;> first | exact hm.elim | exact VR.regood _ hm | (obtain ⟨u, h1, h2⟩ := hm; exact ⟨u, h1, h2.regood _⟩)
theorem round_sound {ord : Nat -> Array Oper -> Bool} {k : Nat} (HX : ExecAt P C ord k) {o : Nat} {vs : List AV} {h : Heap} {res : CRes} {h' : Heap} (hc : callV C (k + 1) (.yld o) vs h = some (res, h')) : ValOk P C ord (.yld o) vs h res h' := by
 intro s0 w b us rec hb0 hrec R0 G0 HV0
 have wl : ∀ s : Sim, s.good.tail = [] -> s.μ o = some b -> Rel s h w -> GG C ord s h w -> VRs s h w vs us -> us.length = rec.params.size /\ RoundIn Fence.wide 0 P b rec.fn ((rec.params.zip us.toArray).foldl (fun tmps (t, a) => tmps.setIfInBounds t a) rec.tmps) rec.assign rec.body w (EndOk s h w res h') := by
  intro s ht hb R G HV
  simp only [callV, qAd] at hc
  obtain ⟨r, hr, hc⟩ := qAc.1 hc
  split at hc
  ·cases hc
  rename_i hcond
  simp only [Bool.or_eq_true, not_or, Bool.not_eq_true] at hcond
  obtain ⟨c1, c2⟩ := hcond
  have hst := is_ready c1
  have hlen : r.ps.length = vs.length := by simpa using c2
  obtain ⟨⟨o1, e1, h1⟩, hx1, hc⟩ := qAc.1 hc
  obtain ⟨rec', hrec', q1, q2, q3⟩ := loop_obj R hb hr
  rw [hrec] at hrec'
  injection hrec' with hrec'; injection hrec' with hrec'; subst hrec'
  have hpl : rec.params.size = r.ps.length := by rw [← q1.2.2.1]; simp
  refine ⟨by rw [← HV.1, ← hlen, hpl], ?_⟩
  rw [G.good] at q3
  obtain ⟨g1, g2, g3⟩ := q3
  have hps : ∀ t ∈ r.ps, t < rec.tmps.size := fun t ht => by simpa using qBd.1 g1 t ht
  have A : Around s h (some b) := ⟨o, loopAt_is hr, hb⟩
  refine roundIn_of_wpIn (F := Fr none) (n := 0) trivial ?_
  rw [zip_fold, q1.2.2.1]
  have henv := Env.puts_rel hps HV q2
  have hw1 := HX r.f rec.tmps.size r.assign _ h o1 e1 h1 g2 hx1 (some b) 0 s w { tmps := (r.ps.zip us).foldl (fun tmps (t, a) => tmps.setIfInBounds t a) rec.tmps, defers := [] } (puts_size _ _ _) ⟨Nat.zero_le _, Marks.nil ht⟩ A R G henv
  rw [q1.2.2.2.1]
  refine wpIn_mono hw1 fun ex a1 w1 hq => ?_
  cases o1 <;> simp only [reduceCtorEq] at hc
  obtain ⟨r1, hr1, hc⟩ := qAc.1 hc
  split at hc
  ·cases hc
  rename_i c3
  have hst1 := is_ready (by simpa using c3)
  obtain ⟨⟨o2, e2, h2⟩, hx2, hc⟩ := qAc.1 hc
  obtain ⟨r2, hr2, hc⟩ := qAc.1 hc
  obtain ⟨j, hj, hc⟩ := qAc.1 hc
  simp only [qAf, qAg] at hc
  obtain ⟨rfl, rfl⟩ := hc
  refine out_nrm hq fun s1 a1 w1 E1 R1 hN1 hD1 H1 => ?_
  have hyl : VR s h w (.yld o) (.func (.yield b) #[] #[]) := .yld _ _ (loopAt_is hr) hb
  cases hyl.ext R.apart E1 with
  | yldOld _ g0 _ z1 z2 => have z3 := genOf_loop (loopAt_is hr1); rw [z3] at z1; injection z1 with z1; omega
  | yld _ _ y1 y2 =>
  obtain ⟨rec1, hrec1, p1, p2, p3⟩ := loop_obj R1 y2 hr1
  refine ⟨_, run_beginRound hrec1 (by rw [p1.1]; exact hst1), ?_⟩
  obtain ⟨E2, R2⟩ := loop_write R1 y2 hr1 hrec1 .busy r1.pend
  have ew : w1.putObj b (.loop { rec1 with state := .busy }) = w1.putObj b (.loop { rec1 with state := .busy, pending := r1.pend }) := by rw [← p1.2.1]
  rw [ew, q1.2.2.2.2]
  have E12 := E1.trans E2
  have hw2 := HX r.f rec.tmps.size r.body e1 _ o2 e2 h2 g3 hx2 (some b) 0 s1 _ a1 hN1 (hD1.ext0 E2.toExt0) ((A.ext0 E1.toExt0).ext0 E2.toExt0) R2 (G.ext R.apart E12) (H1.ext R1.apart E2)
  refine wpIn_mono hw2 fun ex2 a2 w2 hq2 => ?_
  obtain ⟨s2, E3, R3, hN3, hD3, hq3⟩ := hq2
  cases hyl.ext R.apart (E12.trans E3) with
  | yldOld _ g0 _ z1 z2 => have z3 := genOf_loop (loopAt_is hr2); rw [z3] at z1; injection z1 with z1; omega
  | yld _ _ z1 z2 =>
  obtain ⟨rec2, hrec2, t1, t2, t3⟩ := loop_obj R3 z2 hr2
  obtain ⟨E4, R4⟩ := loop_write R3 z2 hr2 hrec2 (if j.isNone then .ready else .done) j
  have fin : EndOk s h w (.ret (.bool j.isNone)) (h2.set o (.loop { r2 with st := if j.isNone then .ready else .done, pend := j })) (.returned (.bool j.isNone)) (w2.putObj b (.loop { rec2 with state := if j.isNone then .ready else .done, pending := j })) :=
   ⟨s2, E12.trans (E3.trans E4), R4, .bool _⟩
  cases o2 <;> simp only [jumpOf, qAf, reduceCtorEq] at hj <;> subst hj <;> cases ex2 <;> first | exact hq3.elim | skip
  ·exact ⟨_, _, run_endRound none hrec2, fin⟩
  ·obtain ⟨rfl, _⟩ := hq3
   exact ⟨_, _, run_endRound _ hrec2, fin⟩
  ·exact ⟨_, _, run_endRound _ hrec2, fin⟩
 obtain ⟨h1, h2⟩ := wl (nt s0) rfl hb0 (nt_rel R0) (nt_gg G0) (nt_vrs HV0)
 exact ⟨h1, RoundIn.mono (F := Fence.wide) h2 fun e w' he => nt_end he⟩
mutual
theorem plain_rel {s' : Sim} {h' : Heap} {w' : World} : ∀ (v : AV), v.plain = true -> ∀ {u : Value}, VR s h w v u -> VR s' h' w' v u := fun v hp u H => by
  cases v <;> simp only [AV.plain, qAb] at hp <;> cases H
  · exact .bool _
  · exact .int _ _
  · exact .str _
  · exact .nilPtr
  · exact .nilMap
  · exact .nilFunc
  · exact .nilIface
  · rename_i cs vs hl hr
    exact .agg cs vs hl (plains_rel cs hp hr)
  · rename_i cs vs hl hr
    exact .tup cs vs hl (plains_rel cs hp hr)
theorem plains_rel {s' : Sim} {h' : Heap} {w' : World} : ∀ (cs : List AV), AV.plains cs = true -> ∀ {f : Nat -> Value}, (∀ (i : Nat) c, cs[i]? = some c -> VR s h w c (f i)) -> ∀ (i : Nat) c, cs[i]? = some c -> VR s' h' w' c (f i)
  | [], _, f, _, i, c, hi => by simp at hi
  | v :: r, hp, f, H, i, c, hi => by
    simp only [AV.plains, qAa] at hp
    cases i with
    | zero =>
      simp only [qBe, qAf] at hi
      subst hi
      exact plain_rel v hp.1 (H 0 v rfl)
    | succ i => exact plains_rel r hp.2 (f := fun i => f (i + 1)) (fun i c hi => H (i + 1) c (by simpa using hi)) i c (by simpa using hi)
end
theorem rel_zero (R : Rel s h w) : Rel (s.cut 0) [] w where
 inj o o' b h1 h2 := by simp [Sim.cut] at h1
 obj o b hb := by simp [Sim.cut] at hb
 apart o b hb := by simp [Sim.cut] at hb
 imm b hI := by
  rcases hI with hI | ⟨o, _, hb⟩
  ·exact R.imm b hI
  ·exact R.lt hb
theorem freeze_zero (R : Rel s h w) {d : Nat} {v v' : AV} {u : Value} (hf : freezeV h 0 d v = some v') (hv : VR s h w v u) : VR (s.cut 0) [] w v' u := by
 have := freeze_rel R (Nat.zero_le _) d (qAr _) hf hv
 simpa using this
theorem ext_alone {s1 : Sim} {h1 : Heap} {w1 : World} (R : Rel s h w) (E : Ext (s.cut 0) [] w s1 h1 w1) : Ext s h w s h w1 /\ Rel s h w1 := by
  have hfar : ∀ b, b < w.heap.size -> w1.heap[b]? = w.heap[b]? := fun b hb => E.far b hb (fun o ho => by simp [Sim.cut] at ho)
  have E' : Ext s h w s h w1 :=
    { size := E.size, far := fun b hb _ => hfar b hb, shape := E.shape, imm := fun b hb => hb, gen := fun _ g hg => ⟨g, hg, qAr _⟩, same := fun _ _ _ _ => ⟨fun _ h => h, rfl⟩, kind := fun _ h _ => h,
      own := fun o b hb => .inl ⟨o, hb⟩, os := E.os, tape := E.tape, output := E.output, kindL := fun _ h => h, good := rfl, old := fun o b _ hb => ⟨b, hb⟩, kept := fun _ _ _ => rfl }
  refine ⟨E', R.inj, fun o b hb => ?_, R.apart, fun b hI => Nat.lt_of_lt_of_le (R.imm b hI) E.size⟩
  obtain ⟨x, hx, hr⟩ := R.obj o b hb
  exact ⟨x, hx, hr.ext R.apart E' (hfar b (R.lt hb))⟩
theorem calls_at {ord : Nat -> Array Oper -> Bool} (K : Ok P C ord) (hord : ∀ f ops, ord f ops = true -> ordOk C f ops = true) : ∀ k, CallsAt P C ord k := by
 intro k
 induction k with
 | zero =>
  refine ⟨fun k' hk f args h res h' hc => ?_, fun k' hk g vs h res h' hc => ?_⟩
  ·obtain rfl : k' = 0 := by omega
   simp [callF] at hc
  ·obtain rfl : k' = 0 := by omega
   simp [callV] at hc
 | succ k ih =>
  have HX := (exec_at K hord k ih).1 k (qAr _)
  refine ⟨fun k' hk f args h res h' hc => ?_, fun k' hk g vs h res h' hc => ?_⟩
  ·by_cases hk' : k' <= k
   ·exact ih.fn k' hk' f args h res h' hc
   obtain rfl : k' = k + 1 := by omega
   simp only [callF, qAd] at hc
   split at hc
   ·rename_i p hp
    obtain ⟨h1, h2, h3⟩ := K.prim f p hp
    exact ⟨h1, fun s w vs R G H => h3 args h res h' hc s w vs R G.g H⟩
   ·replace hc := qAc.1 hc
    obtain ⟨fi, hfi, hc⟩ := hc
    obtain ⟨fn, f1, f2, f3, f4, f5, f6⟩ := K.fn f fi hfi
    split at hc
    ·cases hc
    rename_i hlen
    have hlen : args.length = fi.params := by simpa using hlen
    split at hc
    ·replace hc := qAc.1 hc
     obtain ⟨avs, has, hc⟩ := hc
     replace hc := qAc.1 hc
     obtain ⟨⟨out, e1, h1⟩, hx, hc⟩ := hc
     refine ⟨⟨fn, fi.body, f1, f2, f4⟩, fun s00 w vs R00 G00 H00 => ?_⟩
     refine Calls.mono (R := EndOk (nt s00) h w res h') ?_ fun e w' he => nt_end he
     have R := nt_rel R00
     have G := nt_gg G00
     have H := nt_vrs H00
     have ht : (nt s00).good.tail = [] := rfl
     generalize nt s00 = s at R G H ht ⊢
     have hal : avs.length = args.length := (mapO_get has).1
     have hN : (vs.toArray ++ Array.replicate (fn.ntmps - vs.toArray.size) undef).size = fn.ntmps := by
      have := H.1
      simp; omega
     have H0 : VRs (s.cut 0) [] w avs vs := ⟨by rw [hal]; exact H.1, fun i c hi => by
      have hlt : i < args.length := by rw [← hal]; exact (qAu.1 hi).1
      obtain ⟨a', k1, k2⟩ := (mapO_get has).2 i args[i] (qAs hlt)
      rw [hi] at k1
      injection k1 with k1; subst k1
      obtain ⟨u, hu1, hu2⟩ := H.2 i args[i] (qAs hlt)
      exact ⟨u, hu1, freeze_zero R k2 hu2⟩⟩
     have R0 := rel_zero R
     have G0 : GG C ord (s.cut 0) [] w := ⟨fun g v hg => freeze_zero R (K.close g v hg h) (G.g g v hg), G.good⟩
     have hw := HX f fn.ntmps fi.body _ [] out e1 h1 f6 hx none w.heap.size (s.cut 0) w { tmps := vs.toArray ++ Array.replicate (fn.ntmps - vs.toArray.size) undef, defers := [] } hN ⟨qAr _, Marks.nil ht⟩ trivial R0 G0 (envRel_args H0 fn.ntmps)
     refine callsIn_fr.1 (callsIn_of_wp_marks (F := Fr none) (n := 0) f1 f2 trivial (wpIn_mono hw fun ex a1 w1 hq => ?_))
     obtain ⟨s1, k1, k2, k3, k4, k5⟩ := hq
     have fin : EnvRel s1 h1 w1 e1 a1.tmps -> ((resultsA C h1 e1 fi.results).bind fun rs => if (packA rs).plain then some (CRes.ret (packA rs), h) else none) = some (res, h') -> LeavesInM (Fr none) 0 P fn a1.tmps (EndOk s h w res h') a1.defers .returning w1 := by
      intro H1 hl
      replace hl := qAc.1 hl
      obtain ⟨rs, hrs, hl⟩ := hl
      by_cases hpl : (packA rs).plain = true
      case neg => rw [if_neg hpl] at hl; cases hl
      rw [if_pos hpl] at hl
      simp only [qAf, qAg] at hl
      obtain ⟨rfl, rfl⟩ := hl
      rw [← f3] at hrs
      refine leaves_marks (by simp) (by rw [k1.good]; exact ht) k4.2 fun w2 hp => ?_
      have k1' := k1.patch hp
      obtain ⟨u, hu1, hu2⟩ := results_rel K (k2.patch hp) (G0.ext R0.apart k1').g (a := a1) (fun t => (H1 t).patch hp) hrs
      obtain ⟨E', R'⟩ := ext_alone R k1'
      exact ⟨u, hu1, s, E', R', plain_rel _ hpl hu2⟩
     cases out with
     | nrm =>
      simp only at hc
      cases ex <;> first | exact k5.elim | exact fin k5 hc
     | ret =>
      simp only at hc
      cases ex <;> first | exact k5.elim | exact fin k5 hc
     | pan v => simp at hc
     | exit id => simp at hc
    replace hc := qAc.1 hc
    obtain ⟨⟨out, e1, h1⟩, hx, hc⟩ := hc
    refine ⟨⟨fn, fi.body, f1, f2, f4⟩, fun s00 w vs R00 G00 H00 => ?_⟩
    refine Calls.mono (R := EndOk (nt s00) h w res h') ?_ fun e w' he => nt_end he
    have R := nt_rel R00
    have G := nt_gg G00
    have H := nt_vrs H00
    have ht : (nt s00).good.tail = [] := rfl
    generalize nt s00 = s at R G H ht ⊢
    have hN : (vs.toArray ++ Array.replicate (fn.ntmps - vs.toArray.size) undef).size = fn.ntmps := by
     have := H.1
     simp; omega
    have hw := HX f fn.ntmps fi.body _ h out e1 h1 f6 hx none w.heap.size s w { tmps := vs.toArray ++ Array.replicate (fn.ntmps - vs.toArray.size) undef, defers := [] } hN ⟨qAr _, Marks.nil ht⟩ trivial R G (envRel_args H fn.ntmps)
    refine callsIn_fr.1 (callsIn_of_wp_marks (F := Fr none) (n := 0) f1 f2 trivial (wpIn_mono hw fun ex a1 w1 hq => ?_))
    obtain ⟨s1, k1, k2, k3, k4, k5⟩ := hq
    have fin : EnvRel s1 h1 w1 e1 a1.tmps -> (resultsA C h1 e1 fi.results).bind (fun vs => leaveA C f h (packA vs) h1) = some (res, h') -> LeavesInM (Fr none) 0 P fn a1.tmps (EndOk s h w res h') a1.defers .returning w1 := by
     intro H1 hl
     replace hl := qAc.1 hl
     obtain ⟨rs, hrs, hl⟩ := hl
     rw [← f3] at hrs
     refine leaves_marks (by simp) (by rw [k1.good]; exact ht) k4.2 fun w2 hp => ?_
     have k1' := k1.patch hp
     obtain ⟨u, hu1, hu2⟩ := results_rel K (k2.patch hp) (G.ext R.apart k1').g (a := a1) (fun t => (H1 t).patch hp) hrs
     exact ⟨u, hu1, leave_ok hl R k1' (k2.patch hp) hu2⟩
    cases out with
    | nrm =>
     simp only at hc
     cases ex <;> first | exact k5.elim | exact fin k5 hc
    | ret =>
     simp only at hc
     cases ex <;> first | exact k5.elim | exact fin k5 hc
    | pan v =>
     simp only [qAf, qAg] at hc
     obtain ⟨rfl, rfl⟩ := hc
     cases ex <;> first | exact k5.elim | skip
     obtain ⟨⟨u, rfl, hu⟩, _⟩ := k5
     exact leaves_marks (by simp) (by rw [k1.good]; exact ht) k4.2 fun w2 hp => ⟨s1, k1.patch hp, k2.patch hp, u, rfl, hu.patch hp⟩
    | exit id => simp at hc
  ·by_cases hk' : k' <= k
   ·exact ih.val k' hk' g vs h res h' hc
   obtain rfl : k' = k + 1 := by omega
   cases g with
   | clo g caps =>
    simp only [callV] at hc
    exact ih.fn k (qAr _) _ _ _ _ _ hc
   | bnd g first =>
    simp only [callV] at hc
    exact ih.fn k (qAr _) _ _ _ _ _ hc
   | yld o => exact round_sound HX hc
   | _ => simp [callV] at hc
theorem call_sound {ord : Nat -> Array Oper -> Bool} (K : Ok P C ord) (hord : ∀ f ops, ord f ops = true -> ordOk C f ops = true) {f : Nat} {args : List AV} {res : CRes} {h' : Heap} (hc : call C f args h = some (res, h'))
  {vs : List Value} (R : Rel s h w) (G : GG C ord s h w) (H : VRs s h w args vs) : Calls P f vs.toArray w (EndOk s h w res h') := by
 obtain ⟨k, hk⟩ := (call_iff C).1 hc
 exact ((calls_at K hord k).fn k (qAr _) f args h res h' hk).2 s w vs R G H
end
end Go.Rv
namespace Go.Rv
def tdOf : TypeDesc -> Option TD
 | .bool => some .bool
 | .int k => some (.int k)
 | .string => some .str
 | .pointer _ => some .ptr
 | .func .. => some .func
 | .interface _ => some .iface
 | .slice e => some (.slice e)
 | .array n e => some (.array n e)
 | .map k e => some (.map k e)
 | .struct fs => some (.struct (fs.toList.map fun f => (f.type, f.offset)))
 | _ => none
theorem tdOf_ok {d : TypeDesc} {t : TD} (h : tdOf d = some t) : TD.ok d t := by
 cases d <;> simp only [tdOf, qAf, reduceCtorEq] at h <;> subst h <;> simp [TD.ok]
def fieldsOk (P : Program) : TypeDesc -> Bool
 | .struct fs => fs.all fun f => (P.info? f.type).isSome
 | _ => true
def tiOf (P : Program) (t : Nat) : Option TI :=
 match P.info? t, P.underlying t with
 | some i, some d => match i.zero, tdOf d with
  | some z, some td => match mapO ofValue z.cells.toList with
   | some zs => if decide (i.bytes <= 4096) && zs.length == i.size && fieldsOk P d && wholeB td.isAgg z then some ⟨td, i.size, i.bytes, zs⟩ else none
   | none => none
  | _, _ => none
 | _, _ => none
theorem tiOf_ok {P : Program} {t : Nat} {ti : TI} (h : tiOf P t = some ti) : TyOk P t ti := by
 unfold tiOf at h
 split at h
 ·rename_i i d hi hd
  split at h
  ·rename_i z td hz htd
   split at h
   ·rename_i zs hzs
    split at h
    ·rename_i hb
     simp only [qAa, decide_eq_true_eq, beq_iff_eq] at hb
     obtain ⟨⟨⟨b1, b2⟩, b3⟩, b4⟩ := hb
     simp only [qAf] at h
     subst h
     obtain ⟨m1, m2⟩ := mapO_get hzs
     refine ⟨⟨i, z, hi, rfl, rfl, hz, by simpa using m1.symm, fun j c hj => ?_⟩, ⟨d, hd, tdOf_ok htd⟩, b1, b2, fun fs hfs f hf => ?_, fun i' z' hi' hz' => ?_⟩
     ·have hlt : j < z.cells.toList.length := by rw [← m1]; exact (qAu.1 hj).1
      obtain ⟨b, k1, k2⟩ := m2 j _ (qAs hlt)
      rw [hj] at k1
      injection k1 with k1; subst k1
      rw [← k2]
      congr 1
      rw [Array.getD_eq_getD_getElem?]
      simp at hlt
      simp [hlt]
     ·rw [hd] at hfs
      injection hfs with hfs; subst hfs
      have := Array.all_eq_true_iff_forall_mem.1 b3 f hf
      exact Option.isSome_iff_exists.1 this
     ·rw [hi] at hi'; injection hi' with hi'; subst hi'
      rw [hz] at hz'; injection hz' with hz'; subst hz'
      exact b4
    ·cases h
   ·cases h
  ·cases h
 ·cases h
def okB (C : Cfg) (f : Nat) (fn : Func) (b : Code) : Bool := !(fn.name == "runtime.NumGoroutine") && decide (fn.params.size + fn.nfree <= fn.ntmps) && codeOk (ordOk C f) fn.ntmps b
def fnsOf (P : Program) (C : Cfg) (f : Nat) : Option FI :=
 match P.funcs[f]? with
 | some fn => match fn.body with
  | some b => if okB C f fn b then some ⟨fn.params.size + fn.nfree, fn.results.toList, b⟩ else none
  | none => none
 | none => none
structure RvTold where
 glob : Nat -> Option AV := fun _ => none
 pure : Nat -> Bool := fun _ => true
 imm : Nat -> Nat -> Bool := fun _ _ => false
 live : Nat -> Nat -> Option (List Nat) := fun _ _ => none
 prim : Nat -> Option (List AV -> Heap -> Option (CRes × Heap)) := fun _ => none
 quiet : Nat -> Nat -> Bool := fun _ _ => false
 loose : Nat -> Nat -> List Nat := fun _ _ => []
 alone : Nat -> Bool := fun _ => false
 rounds : Nat -> Bool := fun _ => false
def RvTold.bare (T : RvTold) (P : Program) : Cfg := { ty := tiOf P, fn := fun _ => none, glob := T.glob, pure := T.pure, imm := T.imm, live := T.live, prim := T.prim, quiet := T.quiet, loose := T.loose, alone := T.alone, rounds := T.rounds, flat := fun t cs => flatKey P t cs && !P.eqGuardType P.depth t }
def RvTold.cfg (T : RvTold) (P : Program) : Cfg := { T.bare P with fn := fnsOf P (T.bare P) }
theorem fn_of {T : RvTold} {P : Program} {f : Nat} {fn : Func} {b : Code} (h1 : P.funcs[f]? = some fn) (h2 : fn.body = some b) (h3 : okB (T.bare P) f fn b = true) : (T.cfg P).fn f = some ⟨fn.params.size + fn.nfree, fn.results.toList, b⟩ := by
 show fnsOf P (T.bare P) f = _
 unfold fnsOf
 rw [h1]
 simp only [h2, h3, if_true]
theorem pairs_bare (T : RvTold) (P : Program) (f : Nat) (ops : Array Oper) (b : Array Nat) : ∀ l, pairsOk (T.bare P) f ops b l = pairsOk (T.cfg P) f ops b l
 | [] => rfl
 | i :: r => by
  simp only [pairsOk, pairs_bare T P f ops b r]
  rfl
theorem ord_bare (T : RvTold) (P : Program) : ordOk (T.bare P) = ordOk (T.cfg P) := by
 funext f ops
 simp only [ordOk, pairs_bare]
theorem RvTold.ok {T : RvTold} {P : Program} (hg : GlobOk (T.cfg P)) (hcl : ∀ g v, T.glob g = some v -> ∀ h, freezeV h 0 40 v = some v) (hp : PrimOk P (T.cfg P)) (hm : P.follows .mixedOrders = true) : Ok P (T.cfg P) (ordOk (T.cfg P)) where
 ty := ⟨fun t ti h => tiOf_ok h, fun t cs h => by
   have h : (flatKey P t cs && !P.eqGuardType P.depth t) = true := h
   simp only [qAa] at h; exact h.1, fun t cs h => by
   have h : (flatKey P t cs && !P.eqGuardType P.depth t) = true := h
   simp only [qAa, qBh] at h; exact h.2⟩
 glob := hg
 close := hcl
 prim := hp
 fn f fi h := by
  change fnsOf P (T.bare P) f = some fi at h
  unfold fnsOf at h
  split at h
  ·rename_i fn hfn
   split at h
   ·rename_i b hb
    split at h
    ·rename_i hok
     simp only [okB, qAa, qBh, decide_eq_true_eq] at hok
     obtain ⟨⟨k1, k2⟩, k3⟩ := hok
     simp only [qAf] at h
     subst h
     exact ⟨fn, hfn, hb, rfl, k1, k2, by rw [← ord_bare]; exact k3⟩
    ·cases h
   ·cases h
  ·cases h
 mixed := hm
theorem RvTold.sound {T : RvTold} {P : Program} (hg : GlobOk (T.cfg P)) (hcl : ∀ g v, T.glob g = some v -> ∀ h, freezeV h 0 40 v = some v) (hp : PrimOk P (T.cfg P)) (hm : P.follows .mixedOrders = true) {s : Sim} {h : Heap} {w : World} {f : Nat} {args : List AV} {res : CRes} {h' : Heap} (hc : call (T.cfg P) f args h = some (res, h'))
  {vs : List Value} (R : Rel s h w) (G : GG (T.cfg P) (ordOk (T.cfg P)) s h w) (H : VRs s h w args vs) : Calls P f vs.toArray w (EndOk s h w res h') :=
 call_sound (RvTold.ok hg hcl hp hm) (fun _ _ h => h) hc R G H
end Go.Rv
namespace Go.Rv
def bare : Sim := { μ := fun _ => none, I := fun _ => False, good := ⟨fun _ _ _ _ _ => False, fun _ _ => False, []⟩ }
structure Same (w w' : World) : Prop where
 kept : w.keptBut w' (fun _ => False)
 frozen : ∀ a : Addr, a.block < w.heap.size -> w'.frozen? a = w.frozen? a
 size : w.heap.size <= w'.heap.size
theorem same_of_ext {s' : Sim} {h' : Heap} {w w' : World} {g : Fixed} (E : Ext { bare with good := g } [] w s' h' w') : Same w w' where
 kept := by
  refine ⟨E.os, E.output, fun i hi => ?_⟩
  rw [E.far i hi (fun o hx => by cases hx)]
  cases w.heap[i]? with
  | none => rfl
  | some o =>
   cases o <;> first | rfl | exact ⟨rfl, rfl, rfl, fun _ _ => rfl⟩ | exact .inr ⟨rfl, rfl⟩
 frozen a ha := by
  unfold World.frozen?
  rw [E.far a.block ha (fun o hx => by cases hx)]
 size := E.size
theorem bare_rel (g : Fixed) (w : World) : Rel { bare with good := g } [] w where
 inj _ _ _ h := by cases h
 obj _ _ h := by cases h
 apart _ _ h := by cases h
 imm _ h := h.elim
theorem entry {T : RvTold} {P : Program} (hg : ∀ g, T.glob g = none) (hp : ∀ f, T.prim f = none) (hm : P.follows .mixedOrders = true) {f : Nat} {args : List AV} {v : AV} {h' : Heap} (hc : call (T.cfg P) f args [] = some (.ret v, h'))
  {w : World} {vs : List Value} (H : VRs bare [] w args vs) : Calls P f vs.toArray w (fun e w' => Same w w' /\ ∃ u s', e = .returned u /\ VR s' h' w' v u) := by
 have G : GG (T.cfg P) (ordOk (T.cfg P)) { bare with good := ⟨goodOf (ordOk (T.cfg P)), fun _ _ => True, []⟩ } [] w := ⟨fun g x hx => absurd hx (by change T.glob g ≠ some x; rw [hg]; simp), rfl⟩
 have := RvTold.sound (T := T) (P := P) (fun g x hx => by change T.glob g = some x at hx; rw [hg] at hx; cases hx) (fun g x hx => by rw [hg] at hx; cases hx) (fun g x hx => by change T.prim g = some x at hx; rw [hp] at hx; cases hx) hm hc (bare_rel _ w) G (H.regood _)
 refine Calls.mono this fun e w' he => ?_
 obtain ⟨s', E, R, hv⟩ := he
 refine ⟨same_of_ext E, ?_⟩
 cases e with
 | returned u => exact ⟨u, s', rfl, hv⟩
 | panicked _ => exact hv.elim
 | outgrown => exact hv.elim
section
open Go.ChangeShapes Go.WideShapes Go.ChangeAt Go.RowKit
variable {H : Type} {enc : TypeId × Value -> H} {P : Program}
theorem post_of_kept {f : Func} {s : ChangeSpec} {apart fresh handsOn again : Bool} {W W' : World} {args : Array Value} {v : Value} {ds gs : List (DataW H)} {before pa pv : List MemPlace}
  (hW : DataW.Whole enc P f.params.toList s.vars apart W args.toList ds gs before)
  (hres : ∀ (b : Nat) (sp : Nat -> Bool) (hd : Bool), DataW.TrodAll enc P W' b sp hd f.resultTypes.toList (v.resultList f.resultTypes.size) (s.fn H (ds ++ gs)).results [])
  (hargs : ∀ sp : Nat -> Bool, (∀ p ∈ before, sp p.block = true) -> DataW.TrodAll enc P W' 0 sp true f.params.toList args.toList (s.fn H (ds ++ gs)).args pa)
  (hvars : ∀ sp : Nat -> Bool, (∀ p ∈ before, sp p.block = true) -> DataW.TrodVars enc P W' sp s.vars (s.fn H (ds ++ gs)).vars pv)
  (hps : before = pa ++ pv) (hS : Same W W')
  (hok : ∀ (j : Nat) (t : TypeId) (r : Value), f.resultTypes[j]? = some t -> (v.resultList f.resultTypes.size)[j]? = some r -> Value.okWide P W' .any 0 t r) :
  s.post enc P f apart fresh handsOn again W args v W' := by
 have hlt : ∀ p ∈ before, p.block < W.heap.size := fun p hp => hW.lt p hp
 have hold : ∀ p ∈ before, (fun b => decide (b < W.heap.size)) p.block = true := fun p hp => by simpa using hlt p hp
 refine ⟨ds, gs, before, [], pa, pv, hW, hres _ _ _, hargs _ hold, hvars _ hold, World.keptBut_mono (fun p hp => hp.elim) hS.kept, fun _ => ?_⟩
 obtain ⟨_, _, _, _, _, hz, hn⟩ := hW
 refine ⟨hok, _, _, ([] ++ pa) ++ pv, ⟨[] ++ pa, pv, trodAll_append (hargs _ (fun _ _ => rfl)) (hres _ _ _), hvars _ (fun _ _ => rfl), rfl, ?_, ?_⟩, ?_⟩
 ·intro b off hp
  have hp' : (MemPlace.cell b off) ∈ before := by rw [hps]; simpa using hp
  rw [hS.frozen _ (hlt _ hp')]
  exact hz b off hp'
 ·intro ha
  have := hn ha
  rw [hps] at this
  simpa using this
 ·intro p hp _
  rw [hps]
  simpa using hp
end
end Go.Rv
namespace Go.Rv
open Go.ChangeShapes Go.WideShapes Go.Deep Go.RowKit
def old (w : World) : Sim := { μ := fun _ => none, I := fun b => b < w.heap.size, good := ⟨fun _ _ _ _ _ => False, fun _ _ => False, []⟩ }
theorem old_rel (g : Fixed) (w : World) : Rel { old w with good := g } [] w where
 inj _ _ _ h := by cases h
 obj _ _ h := by cases h
 apart _ _ h := by cases h
 imm _ h := h
theorem below_of_ext {s' : Sim} {h' : Heap} {w w' : World} {g : Fixed} (E : Ext { old w with good := g } [] w s' h' w') : Below w.heap.size w w' where
 os := E.os
 tape := E.tape
 output := E.output
 size := E.size
 block k hk := E.far k hk (fun o hx => by cases hx)
theorem same_of_below {w w' : World} (B : Below w.heap.size w w') : Same w w' where
 kept := by
  refine ⟨B.os, B.output, fun i hi => ?_⟩
  rw [B.block i hi]
  cases w.heap[i]? with
  | none => rfl
  | some o =>
   cases o <;> first | rfl | exact ⟨rfl, rfl, rfl, fun _ _ => rfl⟩ | exact .inr ⟨rfl, rfl⟩
 frozen a ha := by
  unfold World.frozen?
  rw [B.block a.block ha]
 size := B.size
structure Bulk {H : Type} (μ : DataW H -> Nat) (μs : List (DataW H) -> Nat) : Prop where
 str (l : List UInt8) : l.length <= μ (.lit (.string l))
 slice (e s : List (DataW H)) : μs e <= μ (.slice e s)
 agg (e : List (DataW H)) : μs e <= μ (.agg e)
 cons (d : DataW H) (r : List (DataW H)) : μs (d :: r) = μ d + μs r
 pos (d : DataW H) : 1 <= μ d
theorem Bulk.mem {H : Type} {μ : DataW H -> Nat} {μs : List (DataW H) -> Nat} (U : Bulk μ μs) {d : DataW H} : ∀ {l : List (DataW H)}, d ∈ l -> μ d <= μs l
 | x :: r, h => by
  rw [U.cons]
  rcases qAj.1 h with h | h
  ·subst h; omega
  ·have := U.mem h; omega
theorem Bulk.len {H : Type} {μ : DataW H -> Nat} {μs : List (DataW H) -> Nat} (U : Bulk μ μs) : ∀ (l : List (DataW H)), l.length <= μs l
 | [] => by simp
 | x :: r => by rw [U.cons]; have := U.pos x; have := U.len r; simp; omega
section
variable {H : Type} {enc : TypeId × Value -> H} {P : Program} {μ : DataW H -> Nat} {μs : List (DataW H) -> Nat} {B : Nat}
def Opens (enc : TypeId × Value -> H) (P : Program) (μ : DataW H -> Nat) (B : Nat) (t : TypeId) {α : Type} (pic : α -> List AV) (ok : α -> Prop) : Prop :=
 ∀ (w : World) (n : Nat) (cs : List Value) (x : DataW H × List MemPlace), DataW.trod enc P w 0 (fun _ => true) true n t cs = some x -> (∀ p ∈ x.2, p.block < w.heap.size) -> μ x.1 <= B -> ∃ a, ok a /\ VRs (old w) [] w (pic a) cs
theorem opens_int {t : TypeId} {k : IntKind} (ht : P.underlying t = some (.int k)) : Opens enc P μ B t (fun n : Int => [.int k n]) (fun n => (Lit.int k n).wf = true) := by
 intro w n cs x h _ _
 obtain ⟨a, rfl, hc, hw⟩ : ∃ a, cs = [.int k a] /\ True /\ (Lit.int k a).wf = true := by
  cases n with
  | zero => simp [DataW.trod] at h
  | succ n =>
   unfold DataW.trod at h
   rw [ht] at h
   split at h <;> simp_all
 exact ⟨a, hw, rfl, fun i c hi => by
  cases i with
  | zero => simp at hi; subst hi; exact ⟨_, rfl, .int _ _⟩
  | succ i => simp at hi⟩
theorem opens_bool {t : TypeId} (ht : P.underlying t = some .bool) : Opens enc P μ B t (fun b : Bool => [.bool b]) (fun _ => True) := by
 intro w n cs x h _ _
 obtain ⟨a, rfl⟩ : ∃ a, cs = [.bool a] := by
  cases n with
  | zero => simp [DataW.trod] at h
  | succ n =>
   unfold DataW.trod at h
   rw [ht] at h
   split at h <;> simp_all
 exact ⟨a, trivial, rfl, fun i c hi => by
  cases i with
  | zero => simp at hi; subst hi; exact ⟨_, rfl, .bool _⟩
  | succ i => simp at hi⟩
theorem opens_string (U : Bulk μ μs) {t : TypeId} (ht : P.underlying t = some .string) : Opens enc P μ B t (fun l : List UInt8 => [.str l]) (fun l => l.length <= B) := by
 intro w n cs x h _ hb
 obtain ⟨a, rfl, ha⟩ : ∃ a : ByteArray, cs = [.string a] /\ x.1 = .lit (.string a.data.toList) := by
  cases n with
  | zero => simp [DataW.trod] at h
  | succ n =>
   unfold DataW.trod at h
   rw [ht] at h
   split at h <;> simp_all
   rw [← h.2]
 refine ⟨a.data.toList, by rw [ha] at hb; exact Nat.le_trans (U.str _) hb, rfl, fun i c hi => ?_⟩
 cases i with
 | zero =>
  simp at hi; subst hi
  refine ⟨_, rfl, ?_⟩
  have := VR.str (s := old w) (h := []) (w := w) a.data.toList
  simpa using this
 | succ i => simp at hi
inductive GS (α : Type) where
 | nil
 | mk (l : List α) (cap : Nat)
def GS.pic {α : Type} (el : α -> AV) (z : Nat) : GS α -> List AV
 | .nil => [.lst [] z .nil]
 | .mk l cap => [.lst (l.map el) z (.exact cap)]
def GS.ok {α : Type} (B : Nat) (ok : α -> Prop) : GS α -> Prop
 | .nil => True
 | .mk l _ => l.length <= B /\ ∀ a ∈ l, ok a
theorem choose_list {α : Type} {Q : Nat -> α -> Prop} : ∀ n : Nat, (∀ i, i < n -> ∃ a, Q i a) -> ∃ l : List α, l.length = n /\ ∀ (i : Nat) a, l[i]? = some a -> Q i a
 | 0, _ => ⟨[], rfl, fun i a h => by simp at h⟩
 | n + 1, H => by
  obtain ⟨l, h1, h2⟩ := choose_list n (fun i hi => H i (by omega))
  obtain ⟨a, ha⟩ := H n (by omega)
  refine ⟨l ++ [a], by simp [h1], fun i b hb => ?_⟩
  by_cases hi : i < n
  ·rw [qAx (by omega)] at hb
   exact h2 i b hb
  ·rw [qAy (by omega)] at hb
   have : i - l.length = 0 := by
    have := (qAu.1 hb).1
    simp at this; omega
   rw [this] at hb
   simp at hb
   subst hb
   have : i = n := by omega
   rw [this]; exact ha
theorem opens_slice (U : Bulk μ μs) {t e : TypeId} (ht : P.underlying t = some (.slice e)) {α : Type} {pic : α -> List AV} {ok : α -> Prop} (O : Opens enc P μ B e pic ok) {z : Nat} (hz : P.cellsOf e = z) (hpos : 0 < z) (el : α -> AV) (hel : ∀ a, (el a).cells = pic a) (hpl : ∀ a, (pic a).length = z) :
  Opens enc P μ B t (GS.pic el z) (GS.ok B ok) := by
 intro w n cs x h hpl2 hb
 rcases open_slice ht h with ⟨rfl, _⟩ | ⟨A, len, cap, m, n', D, Pl, rfl, _, hle, hcap, hm, hx, hi⟩
 ·exact ⟨.nil, trivial, rfl, fun i c hi => by
   cases i with
   | zero => simp [GS.pic] at hi; subst hi; exact ⟨_, rfl, .lstNil _⟩
   | succ i => simp [GS.pic] at hi⟩
 ·simp only [if_true] at hm
  subst hm
  have hfit : ∀ i, i < m -> ∀ p ∈ Pl i, p.block < w.heap.size := fun i him p hp => hpl2 p (by
   rw [hx]
   simp only [qAp, List.mem_flatMap, List.mem_range]
   exact .inr ⟨i, him, hp⟩)
  have hb1 : μs ((List.range len).map D) <= B := by rw [hx] at hb; exact Nat.le_trans (U.slice _ _) hb
  have hbD : ∀ i, i < len -> μ (D i) <= B := fun i hi => Nat.le_trans (U.mem (qBl.2 ⟨i, List.mem_range.2 hi, rfl⟩)) hb1
  have hbl : len <= B := by have := U.len ((List.range len).map D); simp at this; omega
  obtain ⟨l, hl, hl2⟩ := choose_list (Q := fun i a => ok a /\ ∃ cs', w.cells? 0 (A.add (i * z)) z = some cs' /\ VRs (old w) [] w (pic a) cs') len (fun i hil => by
   obtain ⟨cs', h1, h2⟩ := hi i (by omega)
   obtain ⟨a, h3, h4⟩ := O w n' cs' _ h2 (hfit i (by omega)) (hbD i hil)
   rw [hz] at h1
   exact ⟨a, h3, cs', h1, h4⟩)
  have hok : ∀ a ∈ l, ok a := fun a ha => by
   obtain ⟨i, hia⟩ := List.mem_iff_getElem?.1 ha
   exact (hl2 i a hia).1
  refine ⟨.mk l m, ⟨by omega, hok⟩, rfl, fun i c hic => ?_⟩
  cases i with
  | succ i => simp [GS.pic] at hic
  | zero =>
   simp only [GS.pic, qBe, qAf] at hic
   subst hic
   refine ⟨_, rfl, ?_⟩
   by_cases h0 : m = 0
   ·subst h0
    have : len = 0 := by omega
    subst this
    have : l = [] := by simpa using hl
    subst this
    exact .lstEmpty _ _
   ·obtain ⟨cs', h1, _⟩ := hi 0 (by omega)
    rw [hz] at h1
    obtain ⟨_, hcl, hat⟩ := World.cells?_some h1
    have hc0 := hat 0 hpos
    have hA : (A.add (0 * z)).add 0 = A := by simp [Addr.add]
    rw [hA, qAs (by omega)] at hc0
    have hspot : A.spot = none := by
     unfold World.cell? at hc0
     split at hc0
     ·split at hc0
      ·cases hc0
      ·rename_i hs; simpa using hs
     all_goals cases hc0
    obtain ⟨b, off, sp⟩ := A
    simp only at hspot
    subst hspot
    have hb : b < w.heap.size := cell_block hc0
    have hlen : (l.map el).length = len := by simp [hl]
    have get : ∀ (i : Nat) x, (l.map el)[i]? = some x -> ∃ a, x = el a /\ ∃ cs', w.cells? 0 ((⟨b, off, none⟩ : Addr).add (i * z)) z = some cs' /\ VRs (old w) [] w (pic a) cs' := fun i x hx => by
     rw [qBc] at hx
     obtain ⟨a, ha, rfl⟩ := qAl.1 hx
     exact ⟨a, rfl, (hl2 i a ha).2⟩
    have cell : ∀ (i j : Nat) x y, (l.map el)[i]? = some x -> x.cells[j]? = some y -> ∃ v, w.cell? ⟨b, off + i * z + j, none⟩ = some v /\ VR (old w) [] w y v := by
     intro i j x y hx hy
     obtain ⟨a, rfl, cs', h1, h2⟩ := get i x hx
     rw [hel] at hy
     obtain ⟨v, hv, hr⟩ := h2.2 j y hy
     obtain ⟨_, hcl, hat⟩ := World.cells?_some h1
     have hj : j < z := by rw [← hcl]; exact (qAu.1 hv).1
     have := hat j hj
     rw [addr_add, addr_add, hv] at this
     exact ⟨v, this, hr⟩
    have := VR.lst (s := old w) (h := []) (w := w) (l.map el) z (.exact m) b off m (fun i j => (w.cell? ⟨b, off + i * z + j, none⟩).getD undef) (fun _ => hb) rfl (by omega)
     (fun i x hx => by
      obtain ⟨a, rfl, _⟩ := get i x hx
      rw [hel, hpl])
     (fun i j x y hx hy => by
      obtain ⟨v, hv, _⟩ := cell i j x y hx hy
      rw [hv]; rfl)
     (fun i j x y hx hy => by
      obtain ⟨v, hv, hr⟩ := cell i j x y hx hy
      rw [hv]; exact hr)
    rw [hlen] at this
    exact this
def OpensF (enc : TypeId × Value -> H) (P : Program) (μ : DataW H -> Nat) (B : Nat) (fs : List Field) {α : Type} (pic : α -> List AV) (ok : α -> Prop) : Prop :=
 ∀ (w : World) (n : Nat) (cs : List Value) (xs : List (DataW H × List MemPlace)), fs.mapM (fun f => DataW.trod enc P w 0 (fun _ => true) true n f.type ((cs.drop f.offset).take (P.cellsOf f.type))) = some xs ->
  (∀ p ∈ xs.flatMap (·.2), p.block < w.heap.size) -> (∀ y ∈ xs, μ y.1 <= B) -> ∃ a, ok a /\ VRs (old w) [] w (pic a) (fs.flatMap fun f => (cs.drop f.offset).take (P.cellsOf f.type))
theorem opensF_nil : OpensF enc P μ B [] (fun _ : Unit => []) (fun _ => True) := fun w n cs xs _ _ _ => ⟨(), trivial, rfl, fun i c hi => by simp at hi⟩
theorem opensF_cons {f : Field} {fs : List Field} {α β : Type} {pic : α -> List AV} {ok : α -> Prop} {pic' : β -> List AV} {ok' : β -> Prop} (O : Opens enc P μ B f.type pic ok) (F : OpensF enc P μ B fs pic' ok') :
  OpensF enc P μ B (f :: fs) (fun p : α × β => pic p.1 ++ pic' p.2) (fun p => ok p.1 /\ ok' p.2) := by
 intro w n cs xs h hp hb
 rw [List.mapM_cons] at h
 simp only [qAd, Option.pure_def] at h
 obtain ⟨x, hx, h⟩ := qAc.1 h
 obtain ⟨ys, hys, h⟩ := qAc.1 h
 simp only [qAf] at h
 subst h
 obtain ⟨a, h1, h2⟩ := O w n _ x hx (fun p h => hp p (by simp [h])) (hb x (by simp))
 obtain ⟨b, h3, h4⟩ := F w n cs ys hys (fun p h => hp p (by
  rw [List.flatMap_cons]
  exact List.mem_append_right _ h)) (fun y hy => hb y (qAk _ hy))
 exact ⟨(a, b), ⟨h1, h3⟩, by
  rw [List.flatMap_cons]
  exact h2.append h4⟩
def lay (P : Program) : List Field -> Nat -> Option Nat
 | [], o => some o
 | f :: r, o => if f.offset = o then lay P r (o + P.cellsOf f.type) else none
theorem lay_le : ∀ {fs : List Field} {o T : Nat}, lay P fs o = some T -> o <= T
 | [], o, T, h => by simp [lay] at h; omega
 | f :: r, o, T, h => by
  simp only [lay] at h
  split at h
  ·have := lay_le h; omega
  ·cases h
theorem lay_flat (cs : List Value) : ∀ {fs : List Field} {o T : Nat}, lay P fs o = some T -> T <= cs.length -> (fs.flatMap fun f => (cs.drop f.offset).take (P.cellsOf f.type)) = (cs.drop o).take (T - o)
 | [], o, T, h, _ => by
  simp only [lay, qAf] at h
  subst h
  simp
 | f :: r, o, T, h, hT => by
  simp only [lay] at h
  split at h
  ·rename_i he
   have hle := lay_le h
   rw [List.flatMap_cons, lay_flat cs h hT, he]
   rw [show T - o = P.cellsOf f.type + (T - (o + P.cellsOf f.type)) from by omega, List.take_add, List.drop_drop]
  ·cases h
theorem mapM_get {β γ : Type} {f : β -> Option γ} : ∀ {l : List β} {xs : List γ}, xs.length = l.length -> (∀ (i : Nat) b, l[i]? = some b -> f b = xs[i]?) -> l.mapM f = some xs
 | [], [], _, _ => rfl
 | [], _ :: _, h, _ => by simp at h
 | _ :: _, [], h, _ => by simp at h
 | b :: l, x :: xs, h, H => by
  have h0 := H 0 b rfl
  simp only [qBe] at h0
  rw [List.mapM_cons, h0, mapM_get (l := l) (xs := xs) (by simpa using h) (fun i b hb => by simpa using H (i + 1) b (by simpa using hb))]
  rfl
theorem opens_struct (U : Bulk μ μs) {t : TypeId} {fs : Array Field} (ht : P.underlying t = some (.struct fs)) {α : Type} {pic : α -> List AV} {ok : α -> Prop} (F : OpensF enc P μ B fs.toList pic ok) (hl : lay P fs.toList 0 = some (P.cellsOf t)) : Opens enc P μ B t pic ok := by
 intro w n cs x h hp hb
 obtain ⟨xs, n', hxs, hx, hlen⟩ : ∃ xs n', fs.toList.mapM (fun f => DataW.trod enc P w 0 (fun _ => true) true n' f.type ((cs.drop f.offset).take (P.cellsOf f.type))) = some xs /\ x = (.agg (xs.map (·.1)), xs.flatMap (·.2)) /\ cs.length = P.cellsOf t := by
  obtain ⟨xs, n', _, hx, hl', hlen, hf⟩ := DataW.trod_struct ht h
  exact ⟨xs, n', mapM_get (by simpa using hlen) (fun i f hif => hf i f (by simpa using hif)), hx, hl'⟩
 obtain ⟨a, h1, h2⟩ := F w n' cs xs hxs (by rw [hx] at hp; exact hp) (fun y hy => by
  rw [hx] at hb
  exact Nat.le_trans (U.mem (qBl.2 ⟨y, hy, rfl⟩)) (Nat.le_trans (U.agg _) hb))
 refine ⟨a, h1, ?_⟩
 rw [lay_flat cs hl (by omega)] at h2
 simpa [← hlen] using h2
theorem open_arg {t : TypeId} {fs : Array Field} (ht : P.underlying t = some (.struct fs)) {α : Type} {pic : α -> List AV} {ok : α -> Prop} (O : Opens enc P μ B t pic ok) {w : World} {r : Reach} {b0 : Nat} {v : Value} {d : DataW H} {ps : List MemPlace}
  (hv : Value.okWide P w r b0 t v) (h : DataW.Trod enc P w 0 (fun _ => true) true t v d ps) (hp : ∀ p ∈ ps, p.block < w.heap.size) (hb : μ d <= B) : ∃ a, ok a /\ VR (old w) [] w (.agg (pic a)) v := by
 obtain ⟨cs, rfl, _⟩ := okWide_struct ht hv
 obtain ⟨n, hn⟩ := h
 obtain ⟨a, h1, h2⟩ := O w n _ _ hn hp hb
 refine ⟨a, h1, .agg _ _ (by simpa [Value.cells] using h2.1) fun i c hi => ?_⟩
 obtain ⟨u, hu, hr⟩ := h2.2 i c hi
 have hu' : cs[i]? = some u := by simpa [Value.cells] using hu
 rw [Array.getD_eq_getD_getElem?, hu']
 exact hr
end
end Go.Rv
namespace Go.Rv
theorem bind_left {α β : Type} {x y : Option α} (h : x = y) (f : α -> Option β) : x.bind f = y.bind f := by rw [h]
section
variable (h X : Heap) (k g : Nat)
theorem obj_app : Heap.obj (h ++ X) (h.length + k) g = Heap.obj X k g := by
 unfold Heap.obj
 rw [qAy (by omega), Nat.add_sub_cancel_left]
theorem obj_app0 : Heap.obj (h ++ X) h.length g = Heap.obj X 0 g := obj_app h X 0 g
theorem live_app : Heap.live (h ++ X) (h.length + k) g = Heap.live X k g := by unfold Heap.live; rw [obj_app]
theorem live_app0 : Heap.live (h ++ X) h.length g = Heap.live X 0 g := live_app h X 0 g
theorem set_app (y : AObj) : (h ++ X).set (h.length + k) y = h ++ X.set k y := by
 rw [List.set_append_right _ _ (by omega), Nat.add_sub_cancel_left]
theorem set_app0 (y : AObj) : (h ++ X).set h.length y = h ++ X.set 0 y := set_app h X 0 y
theorem obj_zero (cs : List AV) (r : Heap) : Heap.obj (.cells cs g :: r) 0 g = some cs := by simp [Heap.obj]
theorem obj_succ (x : AObj) (r : Heap) : Heap.obj (x :: r) (k + 1) g = Heap.obj r k g := by simp [Heap.obj]
theorem live_zero (cs : List AV) (r : Heap) : Heap.live (.cells cs g :: r) 0 g = true := by simp [Heap.live, obj_zero]
theorem live_succ (x : AObj) (r : Heap) : Heap.live (x :: r) (k + 1) g = Heap.live r k g := by simp [Heap.live, obj_succ]
end
section
variable {C : Cfg} (f : Nat) (h X : Heap) (hp : C.pure f = true)
include hp
end
def AV.dead : AV -> Bool
 | .bool _ | .int .. | .str _ | .nilPtr | .nilMap | .nilFunc | .nilIface | .junk => true
 | _ => false
theorem freeze_dead (h : Heap) (n d : Nat) {v : AV} (hv : v.dead = true) : freezeV h n (d + 1) v = some v := by
 cases v <;> simp only [AV.dead, qAb] at hv <;> rfl
theorem freeze_deads (h : Heap) (n d : Nat) : ∀ {l : List AV}, l.all AV.dead = true -> mapO (freezeV h n (d + 1)) l = some l
 | [], _ => rfl
 | v :: r, hv => by
  simp only [List.all_cons, qAa] at hv
  simp only [mapO, freeze_dead h n d hv.1, freeze_deads h n d hv.2]
  rfl
def known : AV -> Option AV
 | .junk => none
 | v => some v
theorem evalA_tmp {C : Cfg} (e : Env) (t : Nat) : evalA C e (.tmp t) = known (e.get t) := rfl
theorem evalA_int {C : Cfg} (e : Env) (k : IntKind) (n : Int) : evalA C e (.const (.int k n)) = some (.int k n) := rfl
theorem evalA_bool {C : Cfg} (e : Env) (b : Bool) : evalA C e (.const (.bool b)) = some (.bool b) := rfl
theorem evalA_func {C : Cfg} (e : Env) (g : Nat) : evalA C e (.func g) = some (.clo g []) := rfl
theorem known_int (k : IntKind) (n : Int) : known (.int k n) = some (.int k n) := rfl
theorem known_bool (b : Bool) : known (.bool b) = some (.bool b) := rfl
theorem known_str (b : List UInt8) : known (.str b) = some (.str b) := rfl
theorem known_ptr (o off g : Nat) : known (.ptr o off g) = some (.ptr o off g) := rfl
theorem known_ref (cs : List AV) : known (.ref cs) = some (.ref cs) := rfl
theorem known_agg (cs : List AV) : known (.agg cs) = some (.agg cs) := rfl
theorem known_tup (cs : List AV) : known (.tup cs) = some (.tup cs) := rfl
theorem known_lst (cs : List AV) (z : Nat) (r : Room) : known (.lst cs z r) = some (.lst cs z r) := rfl
theorem known_msl (o off len z g : Nat) (c : Option Nat) : known (.msl o off len z g c) = some (.msl o off len z g c) := rfl
theorem known_clo (g : Nat) (cs : List AV) : known (.clo g cs) = some (.clo g cs) := rfl
theorem cells_int (k : IntKind) (n : Int) : AV.cells (.int k n) = [.int k n] := rfl
theorem cells_bool (b : Bool) : AV.cells (.bool b) = [.bool b] := rfl
theorem cells_str (b : List UInt8) : AV.cells (.str b) = [.str b] := rfl
theorem cells_ptr (o off g : Nat) : AV.cells (.ptr o off g) = [.ptr o off g] := rfl
theorem cells_ref (cs : List AV) : AV.cells (.ref cs) = [.ref cs] := rfl
theorem cells_agg (cs : List AV) : AV.cells (.agg cs) = cs := rfl
theorem cells_lst (cs : List AV) (z : Nat) (r : Room) : AV.cells (.lst cs z r) = [.lst cs z r] := rfl
theorem leaf_int (k : IntKind) (n : Int) : AV.leaf (.int k n) = true := rfl
theorem leaf_bool (b : Bool) : AV.leaf (.bool b) = true := rfl
theorem leaf_str (b : List UInt8) : AV.leaf (.str b) = true := rfl
theorem leaf_lst (cs : List AV) (z : Nat) (r : Room) : AV.leaf (.lst cs z r) = true := rfl
theorem one_int (k : IntKind) (n : Int) : one (.int k n) = .int k n := rfl
theorem one_bool (b : Bool) : one (.bool b) = .bool b := rfl
theorem one_str (b : List UInt8) : one (.str b) = .str b := rfl
theorem isRef_ref (cs : List AV) : AV.isRef (.ref cs) = true := rfl
theorem putAt_some (e : Env) (d : Nat) (v : AV) : e.putAt (some d) v = e.put d v := rfl
theorem putAt_none (e : Env) (v : AV) : e.putAt none v = e := rfl
theorem binA_int {C : Cfg} (h : Heap) (op : BinOp) (t : Nat) (k : IntKind) (a b : Int) : binA C h op t (.int k a) (.int k b) = arithA op k a b := by simp [binA]
def pickA (c : AV) (x y : Option AV) : Option AV := match c with
 | .bool true => x
 | .bool false => y
 | _ => none
theorem pick_true (x y : Option AV) : pickA (.bool true) x y = x := rfl
theorem pick_false (x y : Option AV) : pickA (.bool false) x y = y := rfl
noncomputable def partsA (C : Cfg) (e : Env) (l : List (Nat × Operand)) : Option (List (Nat × AV)) := mapO (fun (p : Nat × Operand) => (evalA C e p.2).map (p.1, ·)) l
theorem parts_eq (C : Cfg) (e : Env) (l : List (Nat × Operand)) : mapO (fun (p : Nat × Operand) => (evalA C e p.2).map (p.1, ·)) l = partsA C e l := rfl
theorem parts_nil (C : Cfg) (e : Env) : partsA C e [] = some [] := rfl
theorem parts_cons (C : Cfg) (e : Env) (i : Nat) (x : Operand) (r : List (Nat × Operand)) : partsA C e ((i, x) :: r) = (evalA C e x).bind fun v => (partsA C e r).bind fun l => some ((i, v) :: l) := by
 unfold partsA
 simp only [mapO, qAd]
 cases evalA C e x <;> rfl
section
variable {C : Cfg} [Tight C] {f : Nat} {os : Array Oper} {d : Option Nat} {ty : TypeId} {ps : String} {af : Array Edge} {r : List Oper} {e : Env} {h : Heap}
def guardK {α : Type} (v : AV) (w : Bool) (x y : Option α) : Option α := match v with
 | .bool b => if b == w then x else y
 | .tup [] => y
 | _ => none
theorem guardK_left {α : Type} {a b : AV} (h : a = b) (w : Bool) (x y : Option α) : guardK a w x y = guardK b w x y := by rw [h]
end
end Go.Rv
