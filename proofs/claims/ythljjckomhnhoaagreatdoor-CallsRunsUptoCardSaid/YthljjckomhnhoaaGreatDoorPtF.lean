/-
  A region whose order is drawn: in whatever order, it comes to what the interpreter says.
-/
import Derived.Test.YthljjckomhnhoaaGreatDoorPtE
set_option linter.unusedSectionVars false
set_option linter.unusedSimpArgs false
set_option linter.unusedVariables false
set_option linter.defProp false
namespace Go.Rv
section
variable {P : Program} {C : Cfg}
theorem countP_lt {p p' : Nat -> Bool} : ∀ (l : List Nat), (∀ x ∈ l, p' x = true -> p x = true) -> (∃ x ∈ l, p x = true /\ p' x = false) -> l.countP p' < l.countP p
 | [], _, ⟨x, hx, _⟩ => by simp at hx
 | a :: l, h1, ⟨x, hx, h2, h3⟩ => by
  have hle : l.countP p' <= l.countP p := List.countP_mono_left (fun y hy => h1 y (by simp [hy]))
  rcases qAj.1 hx with rfl | hx'
  ·simp only [List.countP_cons, h2, h3]
   simp
   omega
  ·have := countP_lt l (fun y hy => h1 y (by simp [hy])) ⟨x, hx', h2, h3⟩
   have ha := h1 a (by simp)
   simp only [List.countP_cons]
   cases hp : p' a
   ·simp; omega
   ·simp [ha hp]; omega
theorem getD_set {listed : Array Bool} {i j : Nat} (hi : i < listed.size) : (listed.setIfInBounds i true).getD j false = if i = j then true else listed.getD j false := by
 by_cases e : i = j
 ·subst e; simp [hi]
 ·simp [e, Array.getElem?_setIfInBounds_ne e]
theorem Env.get_putAt (e : Env) (d : Option Nat) (v : AV) (t : Nat) : (e.putAt d v).get t = if d = some t then v else e.get t := by
 cases d with
 | none => simp [Env.putAt]
 | some d => simp only [Env.putAt, Env.get_put, qAf]
theorem put_get (a : Act) (d : Option Nat) (u : Value) (t : Nat) (hd : ∀ x, d = some x -> x < a.tmps.size) : (a.put d u).tmps.getD t undef = if d = some t then u else a.tmps.getD t undef := by
 cases d with
 | none => simp [Act.put]
 | some d =>
  have := hd d rfl
  simp only [Act.put, qAf]
  by_cases e : d = t
  ·subst e; simp [this]
  ·simp [e, Array.getElem?_setIfInBounds_ne e]
theorem Ext.pad (s : Sim) (h : Heap) (w : World) (X : Heap) : Ext s h w s (h ++ X) w := by
 have hget : ∀ {o}, o < h.length -> (h ++ X)[o]? = h[o]? := fun ho => qAx ho
 refine ⟨⟨qAr _, fun _ _ _ => rfl, fun _ _ h => h, fun _ h => h, fun o g hg => ⟨g, ?_, qAr _⟩, fun o g hg _ => ⟨fun _ h => h, ?_⟩, fun o hm _ => ?_, fun o b hb => .inl ⟨o, hb⟩, rfl, rfl, rfl, fun o hm => ?_, rfl⟩, fun o b _ hb => ⟨b, hb⟩, fun o ho _ => hget ho, fun _ _ h => .inl h⟩
 ·unfold genOf at *; rw [hget (genOf_lt hg)]; exact hg
 ·unfold lenOf; rw [hget (genOf_lt hg)]
 ·have := isMap_lt hm
  unfold isMap at *; rw [hget this]; exact hm
 ·have := isLoop_lt hm
  unfold isLoop at *; rw [hget this]; exact hm
theorem Rel.pad {s : Sim} {h : Heap} {w : World} (R : Rel s h w) (X : Heap) : Rel s (h ++ X) w :=
 ⟨R.inj, fun o b hb => by
  obtain ⟨x, hx, hr⟩ := R.obj o b hb
  exact ⟨x, by rw [qAx (R.old hb)]; exact hx, hr.ext R.apart (Ext.pad s h w X) rfl⟩, R.apart, R.imm⟩
noncomputable def Env.only (e : Env) (l : List Nat) : Env := e.keep l
theorem Env.get_only {e : Env} {l : List Nat} {t : Nat} (ht : t ∈ l) : (e.only l).get t = e.get t := by
 induction l with
 | nil => simp at ht
 | cons k r ih =>
  simp only [Env.only, Env.keep, Env.get_cons]
  by_cases hk : k = t
  ·subst hk; simp
  ·have : (k == t) = false := by simp [hk]
   rw [this]
   simp only [qAb, if_false]
   exact ih (by rcases qAj.1 ht with h | h; exact absurd h.symm hk; exact h)
theorem Env.get_only_not {e : Env} {l : List Nat} {t : Nat} (ht : t ∉ l) : (e.only l).get t = .junk := by
 induction l with
 | nil => rfl
 | cons k r ih =>
  simp only [Env.only, Env.keep, Env.get_cons]
  have hk : ¬ k = t := fun e => ht (by simp [e])
  have : (k == t) = false := by simp [hk]
  rw [this]
  simp only [qAb, if_false]
  exact ih (fun h => ht (by simp [h]))
theorem wantA_congr {ops : Array Oper} {e e' : Env} {o : Oper} (he : ∀ t, t ∈ reads ops o -> e.get t = e'.get t) : wantA ops e o = wantA ops e' o := by
 unfold wantA
 cases hg : o.guard with
 | none => rfl
 | some jw =>
  obtain ⟨j, want⟩ := jw
  simp only
  cases hj : (ops[j]?).bind (·.dst) with
  | none => rfl
  | some d =>
   simp only [qAo]
   rw [he d (by unfold reads; rw [hg]; simp [hj])]
theorem oper_alloc {o : Oper} (ha : isAlloc o = true) : ∃ t, o.op = .alloc t := by
 unfold isAlloc at ha
 split at ha
 ·rename_i t ho; exact ⟨t, ho⟩
 ·cases ha
theorem draw_sound {ord : Nat -> Array Oper -> Bool} (K : Ok P C ord) {N f : Nat} {ops : Array Oper} (hd : dstsOk N ops = true) (hord : ordOk C f ops = true) {k : Nat} (HC : CallsAt P C ord k) {r0 : Option Nat} {B : Nat}
    {e : Env} {h : Heap} {e' : Env} {h' : Heap} (hf : opsF C k f ops (sched ops true) e h = some (.nrm, e', h'))
    {s : Sim} {w : World} {a : Act} (hN : a.tmps.size = N) (hdf : Dues B s w a.defers) (R : Rel s h w) (G : GG C ord s h w) (H : EnvRel s h w e a.tmps) :
    wpAnyIn (Fr r0) 0 P .any ops (OutOk B s h w N .nrm e' h') ops.size (Array.replicate ops.size false) a w := by
  obtain ⟨tr, vl, t0, tn, ts⟩ := trace_of _ _ _ _ _ _ hf
  simp only [ordOk, qAa] at hord
  obtain ⟨hpairs, hsing⟩ := hord
  have hpair := pairs_spec (C := C) (f := f) (ops := ops) (b := Region.before ops) _ hpairs
  have hone : ∀ i o, ops[i]? = some o -> (isAlloc o = true -> o.guard = none) /\ (∀ e ∈ o.after, Region.binds .any e = true -> e.on < i) /\ (∀ d, o.dst = some d -> d ∉ reads ops o) := by
    intro i o ho
    have := qBd.1 hsing i (by simp; exact (qAq.1 ho).1)
    simp only [ho, qAa, Bool.or_eq_true, qBh, Array.all_eq_true_iff_forall_mem, decide_eq_true_eq] at this
    obtain ⟨⟨h1, h2⟩, h3⟩ := this
    refine ⟨fun ha => ?_, fun e he hb => ?_, fun d hdd => ?_⟩
    · rcases h1 with h1 | h1
      · rw [ha] at h1; cases h1
      · simpa using h1.1
    · rcases h2 e he with h2 | h2
      · rw [hb] at h2; cases h2
      · exact h2
    · rw [hdd] at h3
      simpa using h3
  generalize hl : sched ops true = l at *
  generalize hL : ordIdx ops = L at *
  have hLl : ∀ {p i : Nat}, L[p]? = some i -> ∃ o, ops[i]? = some o /\ l[p]? = some o := fun {p i} hp => by
    subst hL; subst hl; exact idx_at hp
  have hlL : ∀ {p : Nat} {o : Oper}, l[p]? = some o -> ∃ i, L[p]? = some i /\ ops[i]? = some o := fun {p o} hp => by
    subst hL; subst hl; exact sched_at hp
  have hLinj : ∀ {p q i : Nat}, L[p]? = some i -> L[q]? = some i -> p = q := fun {p q i} hp hq => by subst hL; exact idx_inj hp hq
  have hLmem : ∀ {i : Nat}, i < ops.size -> ∃ p : Nat, L[p]? = some i := fun {i} hi => by subst hL; exact idx_mem hi
  have halloc : ∀ {p : Nat} {o : Oper}, l[p]? = some o -> isAlloc o = decide (p < allocs ops) := fun {p o} hp => by subst hl; exact alloc_at hp
  have hql : allocs ops <= l.length := by
    subst hl
    rw [← idx_length, ← alloc_len]
    unfold ordIdx
    simp only [qBb]
    omega
  generalize hq0 : allocs ops = q0 at *
  have get_step : ∀ (p : Nat) o t, l[p]? = some o -> (tr (p + 1)).1.get t = if o.dst = some t then vl p else (tr p).1.get t := fun p o t hp => by
    rw [(ts p o hp).2, Env.get_putAt]
  have get_same : ∀ (q p t : Nat), p <= q -> q <= l.length -> (∀ (r : Nat) o, p <= r -> r < q -> l[r]? = some o -> o.dst ≠ some t) -> (tr q).1.get t = (tr p).1.get t := by
    intro q
    induction q with
    | zero => intro p t hp _ _; obtain rfl : p = 0 := by omega
              rfl
    | succ q ih =>
      intro p t hp hq hn
      by_cases he : p = q + 1
      · subst he; rfl
      · have hlt : q < l.length := by omega
        rw [get_step q _ t (qAs hlt), if_neg (hn q _ (by omega) (by omega) (qAs hlt))]
        exact ih p t (by omega) (by omega) (fun r o h1 h2 h3 => hn r o h1 (by omega) h3)
  have heap_same : ∀ (q p : Nat), p <= q -> q <= l.length -> (∀ (r : Nat) o, p <= r -> r < q -> l[r]? = some o -> loudOp C f o = false) -> (tr q).2 = (tr p).2 := by
    intro q
    induction q with
    | zero => intro p hp _ _; obtain rfl : p = 0 := by omega
              rfl
    | succ q ih =>
      intro p hp hq hn
      by_cases he : p = q + 1
      · subst he; rfl
      · have hlt : q < l.length := by omega
        rw [step_quiet K (hn q _ (by omega) (by omega) (qAs hlt)) (ts q _ (qAs hlt)).1]
        exact ih p (by omega) (by omega) (fun r o h1 h2 h3 => hn r o h1 (by omega) h3)
  have alloc_step : ∀ (p : Nat) o, p < q0 -> l[p]? = some o -> ∃ t ti, o.op = .alloc t /\ C.ty t = some ti /\ ti.zero.length = ti.size /\ vl p = .ptr (tr p).2.length 0 0 /\ (tr (p + 1)).2 = (tr p).2 ++ [.cells ti.zero 0] := by
    intro p o hp ho
    have ha : isAlloc o = true := by rw [halloc ho]; simpa using hp
    obtain ⟨t, hot⟩ := oper_alloc ha
    obtain ⟨i, hi, hoi⟩ := hlL ho
    have hg := (hone i o hoi).1 ha
    have hst := (ts p o ho).1
    have hw : wantA ops (tr p).1 o = some true := by unfold wantA; rw [hg]
    have hce : callee o = none := by unfold callee; rw [hot]
    rcases hst with ⟨h1, _⟩ | ⟨_, _, h3, _⟩ | ⟨_, g, args, vs, gv, j, h2, _⟩
    · rw [hw] at h1; cases h1
    · unfold opA at h3
      simp only [hot, qAd] at h3
      obtain ⟨ti, hti, h3⟩ := qAc.1 h3
      split at h3
      · rename_i hz
        simp only [qAf, qAg] at h3
        exact ⟨t, ti, hot, hti, by simpa using hz, h3.1.symm, h3.2.symm⟩
      · cases h3
    · rw [hce] at h2; cases h2
  have alloc_tr : ∀ p, p <= q0 -> ∃ X, (tr p).2 = h ++ X /\ X.length = p /\ ∀ r, r < p -> ∀ o, l[r]? = some o -> ∃ t ti, o.op = .alloc t /\ C.ty t = some ti /\ ti.zero.length = ti.size /\ X[r]? = some (.cells ti.zero 0) /\ vl r = .ptr (h.length + r) 0 0 := by
    intro p
    induction p with
    | zero => intro _; exact ⟨[], by rw [t0]; simp, rfl, fun r hr => by omega⟩
    | succ p ih =>
      intro hp
      obtain ⟨X, h1, h2, h3⟩ := ih (by omega)
      have hlt : p < l.length := by omega
      obtain ⟨t, ti, e1, e2, e3, e4, e5⟩ := alloc_step p _ (by omega) (qAs hlt)
      refine ⟨X ++ [.cells ti.zero 0], by rw [e5, h1, List.append_assoc], by simp [h2], fun r hr o ho => ?_⟩
      by_cases he : r = p
      · subst he
        rw [qAs hlt] at ho
        injection ho with ho; subst ho
        refine ⟨t, ti, e1, e2, e3, ?_, by rw [e4, h1]; simp [h2]⟩
        rw [qAy (by omega)]
        simp [h2]
      · obtain ⟨t', ti', k1, k2, k3, k4, k5⟩ := h3 r (by omega) o ho
        exact ⟨t', ti', k1, k2, k3, by rw [qAx (by omega)]; exact k4, k5⟩
  obtain ⟨X, hX, hXl, hXr⟩ := alloc_tr q0 (qAr _)
  let D (listed : Array Bool) (p : Nat) : Prop := ∃ i, L[p]? = some i /\ listed.getD i false = true
  let Rd (p t : Nat) : Prop := p = l.length ∨ ∃ o, l[p]? = some o /\ t ∈ reads ops o
  let Inv (listed : Array Bool) (a1 : Act) (w1 : World) : Prop := ∃ s1 m, q0 <= m /\ m <= l.length /\
    (∀ p o, q0 <= p -> p < m -> l[p]? = some o -> loudOp C f o = true -> D listed p) /\ (∀ p o, m <= p -> l[p]? = some o -> loudOp C f o = true -> ¬ D listed p) /\
    Ext s h w s1 (tr m).2 w1 /\ Rel s1 (tr m).2 w1 /\ a1.tmps.size = N /\ Dues B s1 w1 a1.defers /\
    (∀ p t, p <= l.length -> Rd p t -> (p < l.length -> ¬ D listed p) -> (∀ r o, r < p -> l[r]? = some o -> o.dst = some t -> D listed r) -> VR s1 (tr m).2 w1 ((tr p).1.get t) (a1.tmps.getD t undef)) /\
    (∀ p, p < q0 -> ¬ D listed p -> s1.μ (h.length + p) = none /\ (tr m).2[h.length + p]? = X[p]?) /\ h.length + q0 <= (tr m).2.length
  let cnt (listed : Array Bool) : Nat := (List.range ops.size).countP (fun i => !listed.getD i false)
  have main : ∀ (fuel : Nat) (listed : Array Bool) (a1 : Act) (w1 : World), listed.size = ops.size ->
      (∀ i o, ops[i]? = some o -> listed.getD i false = true -> ∀ e ∈ o.after, Region.binds .any e = true -> listed.getD e.on false = true) ->
      Inv listed a1 w1 -> cnt listed <= fuel -> wpAnyIn (Fr r0) 0 P .any ops (OutOk B s h w N .nrm e' h') fuel listed a1 w1 := by
    intro fuel
    have done : ∀ (listed : Array Bool) (a1 : Act) (w1 : World), listed.size = ops.size -> Inv listed a1 w1 -> Region.ready .any ops listed = [] -> OutOk B s h w N .nrm e' h' .normal a1 w1 := by
      intro listed a1 w1 hsz hI hr
      have hall : ∀ i, i < ops.size -> listed.getD i false = true := by
        intro i
        induction i using Nat.strongRecOn with
        | _ i ih =>
          intro hi
          cases hli : listed.getD i false with
          | true => rfl
          | false =>
            exfalso
            have hoi : ops[i]? = some ops[i] := Array.getElem?_eq_getElem hi
            have hmem : i ∈ Region.ready .any ops listed := by
              refine mem_ready.2 ⟨?_, _, hoi, fun e he hb => ?_⟩
              · have : i < listed.size := by omega
                simp [this] at hli ⊢
                exact hli
              · have hlt := (hone i _ hoi).2.1 e he hb
                exact ih e.on hlt (by omega)
            rw [hr] at hmem
            simp at hmem
      have hDall : ∀ p, p < l.length -> D listed p := by
        intro p hp
        obtain ⟨i, hi, ho⟩ := hlL (qAs hp)
        exact ⟨i, hi, hall i (qAq.1 ho).1⟩
      obtain ⟨s1, m, i1, i2, i3, i4, i5, i6, i7, i8, i9, _, _⟩ := hI
      have hm : (tr l.length).2 = (tr m).2 := heap_same _ _ i2 (qAr _) (fun r o h1 h2 h3 => by
        cases hlo : loudOp C f o with
        | false => rfl
        | true => exact absurd (hDall r h2) (i4 r o h1 h3 hlo))
      rw [tn] at hm
      simp only at hm
      rw [← hm] at i5 i6 i9
      refine ⟨s1, i5, i6, i7, i8, fun t => ?_⟩
      have := i9 l.length t (qAr _) (.inl rfl) (fun h => by omega) (fun r o h1 h2 h3 => hDall r h1)
      rw [tn] at this
      exact this
    induction fuel with
    | zero =>
      intro listed a1 w1 hsz hcl hI hc
      have hr : Region.ready .any ops listed = [] := by
        cases hrr : Region.ready .any ops listed with
        | nil => rfl
        | cons i r =>
          exfalso
          have hmem : i ∈ Region.ready .any ops listed := by rw [hrr]; simp
          obtain ⟨h1, o, ho, _⟩ := mem_ready.1 hmem
          have hi : i < ops.size := (qAq.1 ho).1
          have hpos : 0 < cnt listed := by
            refine List.countP_pos_iff.2 ⟨i, by simp [hi], ?_⟩
            have : i < listed.size := by omega
            simp [this] at h1 ⊢
            exact h1
          omega
      exact ⟨hr, done listed a1 w1 hsz hI hr⟩
    | succ fuel ih =>
      intro listed a1 w1 hsz hcl hI hc
      refine ⟨done listed a1 w1 hsz hI, fun i hi => ?_⟩
      obtain ⟨hli, o, ho, hready⟩ := mem_ready.1 hi
      have hio : i < ops.size := (qAq.1 ho).1
      have his : i < listed.size := by omega
      have hlif : listed.getD i false = false := by simp [his] at hli ⊢; exact hli
      obtain ⟨p, hp⟩ := hLmem hio
      obtain ⟨o', ho', hlp⟩ := hLl hp
      rw [ho] at ho'
      injection ho' with ho'; subst ho'
      have hpl : p < l.length := (qAu.1 hlp).1
      have hDp : ¬ D listed p := by
        rintro ⟨j, hj, hjd⟩
        rw [hp] at hj
        injection hj with hj; subst hj
        rw [hlif] at hjd; cases hjd
      have ahead : ∀ (r : Nat) x, r < p -> l[r]? = some x -> (dstC ops x o = true ∨ (heapC C f x o = true /\ loudOp C f x = true)) -> D listed r := by
        intro r x hr hx hc
        obtain ⟨j, hj, hjo⟩ := hlL hx
        refine ⟨j, hj, ?_⟩
        have hbit : ((Region.before ops).getD i 0).testBit j = true := by
          have hs := (hpair r p j i x o hr hj hp hjo ho).1
          rcases hc with hc | ⟨hc, hx⟩
          · exact hs.1 hc
          · exact hs.2 hc (by unfold looseP; rw [hx]; rfl)
        exact before_in (fun x => listed.getD x false = true) ops hcl i o ho hready j hbit
      have behind : ∀ (r : Nat) x, p < r -> l[r]? = some x -> (dstC ops o x = true ∨ (heapC C f o x = true /\ looseP C f i o x = false)) -> ¬ D listed r := by
        rintro r x hr hx hc ⟨j, hj, hjd⟩
        obtain ⟨j', hj', hjo⟩ := hlL hx
        rw [hj] at hj'
        injection hj' with hj'; subst hj'
        have hbit : ((Region.before ops).getD j 0).testBit i = true := by
          have hs := (hpair p r i j o x hr hp hj ho hjo).1
          rcases hc with hc | ⟨hc, hx⟩
          · exact hs.1 hc
          · exact hs.2 hc hx
        have := before_in (fun x => listed.getD x false = true) ops hcl j x hjo (hcl j x hjo hjd) i hbit
        simp only [hlif] at this
        cases this
      have hD' : ∀ r, D (listed.setIfInBounds i true) r ↔ D listed r ∨ r = p := by
        intro r
        constructor
        · rintro ⟨j, hj, hjd⟩
          rw [getD_set his] at hjd
          split at hjd
          · rename_i e; subst e; exact .inr (hLinj hj hp)
          · exact .inl ⟨j, hj, hjd⟩
        · rintro (⟨j, hj, hjd⟩ | rfl)
          · exact ⟨j, hj, by rw [getD_set his]; split <;> first | rfl | exact hjd⟩
          · exact ⟨i, hp, by rw [getD_set his]; simp⟩
      have hcl' : ∀ j x, ops[j]? = some x -> (listed.setIfInBounds i true).getD j false = true -> ∀ e ∈ x.after, Region.binds .any e = true -> (listed.setIfInBounds i true).getD e.on false = true := by
        intro j x hx hjd e he hb
        have hold : listed.getD e.on false = true := by
          rw [getD_set his] at hjd
          split at hjd
          · rename_i e'; subst e'
            rw [ho] at hx
            injection hx with hx; subst hx
            exact hready e he hb
          · exact hcl j x hx hjd e he hb
        rw [getD_set his]
        split <;> first | rfl | exact hold
      have hcnt : cnt (listed.setIfInBounds i true) <= fuel := by
        have : cnt (listed.setIfInBounds i true) < cnt listed := by
          refine countP_lt _ (fun x _ hx => ?_) ⟨i, by simp [hio], by simp only [hlif]; rfl, by rw [getD_set his]; simp⟩
          rw [getD_set his] at hx
          split at hx
          · cases hx
          · exact hx
        omega
      obtain ⟨s1, m, i1, i2, i3, i4, i5, i6, i7, i8, i9, i10, i11⟩ := hI
      have hdst : ∀ t, o.dst = some t -> t < a1.tmps.size := fun t ht => by rw [i7]; exact dst_lt hd ho t ht
      have hG1 : GG C ord s1 (tr m).2 w1 := G.ext R.apart i5
      have names : ∀ {s2 : Sim} {m2 : Nat} {w2 : World} {u : Value}, Ext0 s1 (tr m).2 w1 s2 (tr m2).2 w2 -> VR s2 (tr m2).2 w2 (vl p) u ->
          ∀ q t, q <= l.length -> Rd q t -> (q < l.length -> ¬ D (listed.setIfInBounds i true) q) -> (∀ r x, r < q -> l[r]? = some x -> x.dst = some t -> D (listed.setIfInBounds i true) r) -> VR s2 (tr m2).2 w2 ((tr q).1.get t) ((a1.put o.dst u).tmps.getD t undef) := by
        intro s2 m2 w2 u E hu q t hq hrd hnD hwr
        rw [put_get a1 o.dst u t hdst]
        by_cases hdt : o.dst = some t
        · rw [if_pos hdt]
          have hpq : p < q := by
            rcases Nat.lt_trichotomy p q with h1 | h1 | h1
            · exact h1
            · subst h1; exact absurd ((hD' p).2 (.inr rfl)) (hnD hpl)
            ·
              exfalso
              have hql' : q < l.length := by omega
              rcases hrd with h2 | ⟨x, hx, hxr⟩
              · omega
              · have hcf : dstC ops x o = true := by
                  unfold dstC
                  rw [hdt]
                  simp [hxr]
                exact hnD hql' ((hD' q).2 (.inl (ahead q x h1 hx (.inl hcf))))
          have hlast : (tr q).1.get t = (tr (p + 1)).1.get t := by
            refine get_same q (p + 1) t (by omega) hq (fun r x h1 h2 h3 hxd => ?_)
            have hcf : dstC ops o x = true := by
              unfold dstC
              rw [hdt]
              simp [hxd]
            have hnd := behind r x (by omega) h3 (.inl hcf)
            rcases (hD' r).1 (hwr r x h2 h3 hxd) with h4 | h4
            · exact hnd h4
            · omega
          rw [hlast, get_step p o t hlp, if_pos hdt]
          exact hu
        · rw [if_neg hdt]
          refine (i9 q t hq hrd (fun h1 h2 => hnD h1 ((hD' q).2 (.inl h2))) (fun r x h1 h2 h3 => ?_)).ext0 i6.apart E
          rcases (hD' r).1 (hwr r x h1 h2 h3) with h4 | h4
          · exact h4
          · subst h4
            rw [hlp] at h2
            injection h2 with h2; subst h2
            exact absurd h3 hdt
      have hputs : ∀ u, (a1.put o.dst u).tmps.size = N /\ (a1.put o.dst u).defers = a1.defers := fun u => by
        cases o.dst <;> simp [Act.put, i7]
      unfold wpOpIn
      simp only [ho]
      by_cases hpa : p < q0
      ·
        obtain ⟨t, ti, e1, e2, e3, e4, e5⟩ := hXr p hpa o hlp
        have hal : isAlloc o = true := by rw [halloc hlp]; simpa using hpa
        have hg := (hone i o ho).1 hal
        have hwant : Region.wanted o (yielded ops a1.tmps) = true := by unfold Region.wanted; rw [hg]
        rw [if_pos hwant]
        obtain ⟨z, hz1, hz2⟩ := zero_rel (P := P) (s := s1) (h := (tr m).2) (w := w1) (K.ty t ti e2)
        obtain ⟨hmu, hXp⟩ := i10 p hpa hDp
        rw [e4] at hXp
        have hlen : h.length + p < (tr m).2.length := by omega
        have hrun : (execOp a1.eval o).run P w1 = .ok (.value (.pointer (some ⟨w1.heap.size, 0, none⟩))) (w1.alloc (.cells z.cells t)) := by
          unfold execOp
          simp only [e1, Instr.alloc, Sem.run_bind, hz1, Result.andThen_ok, newVar, newRow, run_newObj, Sem.run_pure]
          rfl
        have E0 : Ext0 s1 (tr m).2 w1 (s1.add (h.length + p) w1.heap.size) (tr m).2 (w1.alloc (.cells z.cells t)) := by
          refine ⟨by rw [size_alloc]; omega, fun b hb _ => heap_alloc_lt w1 _ hb, fun b x hx => by rw [shape_of (heap_alloc_lt w1 _ (shape_lt hx))]; exact hx, fun _ h => h, fun _ g hg => ⟨g, hg, qAr _⟩, fun o' g hg _ => ⟨fun b hb => ?_, rfl⟩, fun _ h _ => h, fun o' b hb => ?_, rfl, rfl, rfl, fun _ h => h, rfl⟩
          · have : o' ≠ h.length + p := by rintro rfl; rw [hmu] at hb; cases hb
            simp [Sim.add, this, hb]
          · simp only [Sim.add] at hb
            split at hb
            · injection hb with hb; exact .inr (by omega)
            · exact .inl ⟨o', hb⟩
        have hR2 : Rel (s1.add (h.length + p) w1.heap.size) (tr m).2 (w1.alloc (.cells z.cells t)) := by
          refine ⟨fun x y b hx hy => ?_, fun x b hx => ?_, fun x b hx hI => ?_, fun b hI => ?_⟩
          · simp only [Sim.add] at hx hy
            split at hx <;> split at hy
            · omega
            · injection hx with hx; have := i6.lt hy; omega
            · injection hy with hy; have := i6.lt hx; omega
            · exact i6.inj _ _ _ hx hy
          · by_cases hxe : x = h.length + p
            · subst hxe
              simp only [Sim.add, if_true, qAf] at hx
              subst hx
              refine ⟨_, hXp, z.cells, t, heap_alloc_at w1 _, by have := hz2.1; simp at this; omega, fun j c hj => ?_⟩
              obtain ⟨v, hv, hvr⟩ := hz2.2 j c hj
              exact ⟨v, by simpa using hv, hvr.ext0 i6.apart E0⟩
            · simp only [Sim.add, hxe, if_false] at hx
              obtain ⟨y, hy, hyr⟩ := i6.obj x b hx
              refine ⟨y, hy, ?_⟩
              have hbk := heap_alloc_lt w1 (.cells z.cells t) (i6.lt hx)
              cases y with
              | cells cs g =>
                obtain ⟨bc, el, k1, k2, k3⟩ := hyr
                refine ⟨bc, el, hbk.trans k1, k2, fun j c hj => ?_⟩
                obtain ⟨v, hv, hvr⟩ := k3 j c hj
                exact ⟨v, hv, hvr.ext0 i6.apart E0⟩
              | map es =>
                obtain ⟨es0, hp0, en, cl, k1, k2, k3⟩ := hyr
                refine ⟨es0, hp0, en, cl, hbk.trans k1, k2, k3.1, fun j c hj => ?_⟩
                obtain ⟨mm, hm, hm1, hm2⟩ := k3.2 j c hj
                exact ⟨mm, hm, hm1.ext0 i6.apart E0, hm2.ext0 i6.apart E0⟩
              | loop lr =>
                obtain ⟨rec, k1, k2, k3, k4⟩ := hyr
                exact ⟨rec, hbk.trans k1, k2, fun t => (k3 t).ext0 i6.apart E0, k4⟩
              | iter kk es =>
                obtain ⟨bm, since, seen, last, en, cl, k1, k2, k3, k4, k5⟩ := hyr
                refine ⟨bm, since, seen, last, en, cl, hbk.trans k1, k2, (heap_alloc_lt w1 _ (i6.imm bm k2)).trans k3, fun hk => ?_, fun hk => ?_⟩
                · obtain ⟨q1, q2, q3, q4, q5, es0, hp0, q6⟩ := k4 hk
                  exact ⟨q1, q2, q3, q4, q5, es0, hp0, fun i e hi => let ⟨m, hm, h6, h7⟩ := q6 i e hi; ⟨m, hm, h6.ext0 i6.apart E0, h7.ext0 i6.apart E0⟩⟩
                · obtain ⟨q1, q2, q3, q4⟩ := k5 hk
                  exact ⟨q1, q2, q3, fun e he => let ⟨m, hm, h6, h7, h8⟩ := q4 e he; ⟨m, hm, h6, h7.ext0 i6.apart E0, h8.ext0 i6.apart E0⟩⟩
          · simp only [Sim.add] at hx hI
            split at hx
            · injection hx with hx; subst hx; have := i6.imm _ hI; omega
            · exact i6.apart _ _ hx hI
          · have := i6.imm b hI; rw [size_alloc]; omega
        have hv : VR (s1.add (h.length + p) w1.heap.size) (tr m).2 (w1.alloc (.cells z.cells t)) (vl p) (.pointer (some ⟨w1.heap.size, 0, none⟩)) := by
          rw [e5]
          exact .ptr _ _ _ _ (by simp [genOf, hXp]) (by simp [Sim.add])
        refine ⟨fun _ _ => trivial, ?_⟩
        rw [Oper.semAt_eq _ _ _ (fun c hc => by rw [e1] at hc; cases hc), hrun]
        obtain ⟨g1, g2⟩ := hputs (.pointer (some ⟨w1.heap.size, 0, none⟩))
        refine ih _ _ _ (by simpa using hsz) hcl' ⟨_, m, i1, i2, fun r x h1 h2 h3 h4 => (hD' r).2 (.inl (i3 r x h1 h2 h3 h4)), fun r x h1 h2 h3 h4 => ?_, ?_, hR2, g1, by rw [g2]; exact i8.ext0 E0, names E0 hv, fun r hr hnD => ?_, i11⟩ hcnt
        · rcases (hD' r).1 h4 with h5 | h5
          · exact i4 r x h1 h2 h3 h5
          · omega
        · refine ⟨i5.toExt0.trans E0, fun o' b ho' hb => ?_, fun o' ho' hn => i5.kept o' ho' hn, i5.immOld⟩
          have : o' ≠ h.length + p := by omega
          simp only [Sim.add, this, if_false] at hb
          exact i5.old o' b ho' hb
        · have hne : r ≠ p := fun e' => hnD ((hD' r).2 (.inr e'))
          obtain ⟨h1, h2⟩ := i10 r hr (fun h3 => hnD ((hD' r).2 (.inl h3)))
          exact ⟨by simp only [Sim.add]; rw [if_neg (show ¬ h.length + r = h.length + p from by omega)]; exact h1, h2⟩
      ·
        have hnal : isAlloc o = false := by rw [halloc hlp]; simpa using hpa
        have hrdp : ∀ t, t ∈ reads ops o -> VR s1 (tr m).2 w1 ((tr p).1.get t) (a1.tmps.getD t undef) := by
          intro t ht
          refine i9 p t (by omega) (.inr ⟨o, hlp, ht⟩) (fun _ => hDp) (fun r x h1 h2 h3 => ahead r x h1 h2 (.inl ?_))
          unfold dstC
          rw [h3]
          simp [ht]
        have henv : EnvRel s1 (tr m).2 w1 ((tr p).1.only (reads ops o)) a1.tmps := by
          intro t
          by_cases ht : t ∈ reads ops o
          · rw [Env.get_only ht]; exact hrdp t ht
          · rw [Env.get_only_not ht]; exact .junk _
        have hsame : ∀ t, t ∈ reads ops o -> (tr p).1.get t = ((tr p).1.only (reads ops o)).get t := fun t ht => (Env.get_only ht).symm
        have hsame' : ∀ t, t ∈ tmpsOf o.op.operands.toList -> (tr p).1.get t = ((tr p).1.only (reads ops o)).get t := fun t ht => hsame t (by unfold reads; simp [ht])
        have hwc := wantA_congr (e' := (tr p).1.only (reads ops o)) hsame
        have hloose : ∀ r x, p <= r -> r < m -> l[r]? = some x -> loudOp C f x = true -> touchOp C f o = true -> p < r /\ looseP C f i o x = true := by
          intro r x h1 h2 h3 h4 htc
          have hDr := i3 r x (by omega) h2 h3 h4
          have hne : r ≠ p := by rintro rfl; exact hDp hDr
          refine ⟨by omega, ?_⟩
          cases hlo : looseP C f i o x with
          | true => rfl
          | false =>
            refine absurd hDr (behind r x (by omega) h3 (.inr ⟨?_, hlo⟩))
            have hx : isAlloc x = false := by rw [halloc h3]; simp; omega
            unfold heapC
            simp [hx, hnal, h4, htc]
        have hahead : ∀ r x, m <= r -> r < p -> l[r]? = some x -> loudOp C f x = true -> touchOp C f o = true -> False := by
          intro r x h1 h2 h3 h4 htc
          refine i4 r x h1 h3 h4 (ahead r x h2 h3 (.inr ⟨?_, h4⟩))
          have hx : isAlloc x = false := by rw [halloc h3]; simp; omega
          unfold heapC
          simp [hx, hnal, h4, htc]
        have hexact : touchOp C f o = true -> (∀ r x, p <= r -> r < m -> l[r]? = some x -> loudOp C f x = true -> looseP C f i o x = false) -> (tr m).2 = (tr p).2 := by
          intro htc hn
          rcases Nat.le_total m p with hmp | hmp
          · exact (heap_same p m hmp (by omega) (fun r x h1 h2 h3 => by
              cases hlo : loudOp C f x with
              | false => rfl
              | true => exact (hahead r x h1 h2 h3 hlo htc).elim)).symm
          · exact heap_same m p hmp i2 (fun r x h1 h2 h3 => by
              cases hlo : loudOp C f x with
              | false => rfl
              | true => have := (hloose r x h1 h2 h3 hlo htc).2; rw [hn r x h1 h2 h3 hlo] at this; cases this)
        have hheap : touchOp C f o = true -> loudOp C f o = true -> (tr m).2 = (tr p).2 := fun htc hlo => hexact htc (fun r x _ _ _ _ => by unfold looseP; rw [hlo]; rfl)
        have hkeep : ∀ r t, p <= r -> r <= l.length -> looseI C f ops i = true -> (t ∈ reads ops o) -> (tr r).1.get t = (tr p).1.get t := by
          intro r t h1 h2 hany ht
          refine get_same r p t h1 h2 (fun q x h3 h4 h5 hxd => ?_)
          by_cases hq : q = p
          · subst hq
            rw [hlp] at h5
            injection h5 with h5; subst h5
            exact (hone i o ho).2.2 t hxd ht
          · obtain ⟨j, hj, hjo⟩ := hlL h5
            have := (hpair p q i j o x (by omega) hp hj ho hjo).2 hany
            unfold antiC at this
            rw [hxd] at this
            simp [ht] at this
        have hkeepd : ∀ r t, p < r -> r <= l.length -> looseI C f ops i = true -> o.dst = some t -> (tr r).1.get t = vl p := by
          intro r t h1 h2 hany ht
          rw [get_same r (p + 1) t (by omega) h2 (fun q x h3 h4 h5 hxd => ?_), get_step p o t hlp, if_pos ht]
          obtain ⟨j, hj, hjo⟩ := hlL h5
          have := (hpair p q i j o x (by omega) hp hj ho hjo).2 hany
          unfold antiC at this
          rw [hxd] at this
          simp [ht] at this
        have hlb : ∀ r x, p <= r -> r < m -> l[r]? = some x -> loudOp C f x = true -> touchOp C f o = true -> (tr (r + 1)).2 = (tr r).2 ∨ (looseB C f ops (tr r).1 (tr (r + 1)).2 i = true /\ p < r /\ looseI C f ops i = true) := by
          intro r x h1 h2 h3 h4 htc
          obtain ⟨hqp, hlp'⟩ := hloose r x h1 h2 h3 h4 htc
          have hcon : ∃ t, dkey x = some t /\ i ∈ C.loose f t := by
            unfold looseP at hlp'
            simp only [qAa] at hlp'
            obtain ⟨_, hlp'⟩ := hlp'
            cases hdx : dkey x with
            | none => rw [hdx] at hlp'; cases hlp'
            | some t => rw [hdx] at hlp'; exact ⟨t, rfl, by simpa using hlp'⟩
          obtain ⟨t, hdx, hit⟩ := hcon
          have hany : looseI C f ops i = true := by
            unfold looseI
            refine List.any_eq_true.2 ⟨x, ?_, ?_⟩
            · obtain ⟨j, _, hjo⟩ := hlL h3
              exact List.mem_iff_getElem?.2 ⟨j, by simpa using hjo⟩
            · rw [hdx]
              simpa using hit
          have hchk : looseAll C f ops (dkey x) (tr r).1 (tr (r + 1)).2 = true -> looseB C f ops (tr r).1 (tr (r + 1)).2 i = true := by
            intro hh1
            rw [hdx] at hh1
            exact qBd.1 hh1 i hit
          rcases (ts r x h3).1 with ⟨_, _, hs⟩ | ⟨_, _, _, hs⟩ | ⟨_, _, _, _, _, _, _, _, _, _, _, _, hs⟩
          · exact .inl hs
          · exact .inr ⟨hchk hs, hqp, hany⟩
          · exact .inr ⟨hchk hs, hqp, hany⟩
        have hback : m <= p -> touchOp C f o = true -> (tr p).2 = (tr m).2 := fun hmp htc => heap_same p m hmp (by omega) (fun r x h1 h2 h3 => by
          cases hlx : loudOp C f x with
          | false => rfl
          | true => exact (hahead r x h1 h2 h3 hlx htc).elim)
        have hread : wantA ops (tr p).1 o = some true -> opA C f (tr p).1 (tr p).2 o = some (vl p, (tr (p + 1)).2) -> loudOp C f o = false -> touchOp C f o = true ->
            opA C f (tr p).1 (tr m).2 o = some (vl p, (tr m).2) := by
          intro hw hv hlo htc
          have hv' : opA C f (tr p).1 (tr p).2 o = some (vl p, (tr p).2) := by
            rw [hv, opA_quiet hlo hv]
          have key : ∀ q, p <= q -> q <= m -> opA C f (tr p).1 (tr q).2 o = some (vl p, (tr q).2) := by
            intro q
            induction q with
            | zero => intro h1 _; obtain rfl : p = 0 := by omega
                      exact hv'
            | succ q ih =>
              intro h1 h2
              by_cases hpq : p = q + 1
              · rw [← hpq]; exact hv'
              have ihq := ih (by omega) (by omega)
              have hlt : q < l.length := by omega
              have hlq := qAs hlt
              cases hlx : loudOp C f l[q] with
              | false => rw [step_quiet K hlx (ts q _ hlq).1]; exact ihq
              | true =>
                rcases hlb q _ (by omega) (by omega) hlq hlx htc with hs | ⟨hb, hqp, hany⟩
                · rw [hs]; exact ihq
                · unfold looseB at hb
                  simp only [ho] at hb
                  have hwq : wantA ops (tr q).1 o = some true := by
                    rw [← hw]
                    exact wantA_congr fun t' ht' => hkeep q t' (by omega) (by omega) hany ht'
                  rw [hwq] at hb
                  simp only at hb
                  have hcg : opA C f (tr q).1 (tr (q + 1)).2 o = opA C f (tr p).1 (tr (q + 1)).2 o := opA_congr fun t' ht' => hkeep q t' (by omega) (by omega) hany (by unfold reads; simp [ht'])
                  rw [hcg] at hb
                  cases hdo : o.dst with
                  | none => simp only [hdo] at hb; cases hb
                  | some t' =>
                    simp only [hdo] at hb
                    cases hop : opA C f (tr p).1 (tr (q + 1)).2 o with
                    | none => simp only [hop] at hb; cases hb
                    | some y =>
                      obtain ⟨y1, y2⟩ := y
                      simp only [hop] at hb
                      have := AV.eqb_eq _ _ hb
                      rw [hkeepd q t' hqp (by omega) hany hdo] at this
                      rw [this, opA_quiet hlo hop]
          rcases Nat.le_total m p with hmp | hmp
          · rw [← hback hmp htc]; exact hv'
          · exact key m hmp (qAr _)
        have hcalls : wantA ops (tr p).1 o = some true -> (∀ e h, opA C f e h o = none) -> touchOp C f o = true -> (tr m).2 = (tr p).2 := by
          intro hw hno htc
          have key : ∀ q, p <= q -> q <= m -> (tr q).2 = (tr p).2 := by
            intro q
            induction q with
            | zero => intro h1 _; obtain rfl : p = 0 := by omega
                      rfl
            | succ q ih =>
              intro h1 h2
              by_cases hpq : p = q + 1
              · rw [← hpq]
              have ihq := ih (by omega) (by omega)
              have hlt : q < l.length := by omega
              have hlq := qAs hlt
              cases hlx : loudOp C f l[q] with
              | false => rw [step_quiet K hlx (ts q _ hlq).1]; exact ihq
              | true =>
                rcases hlb q _ (by omega) (by omega) hlq hlx htc with hs | ⟨hb, hqp, hany⟩
                · rw [hs]; exact ihq
                · unfold looseB at hb
                  simp only [ho] at hb
                  have hwq : wantA ops (tr q).1 o = some true := by
                    rw [← hw]
                    exact wantA_congr fun t' ht' => hkeep q t' (by omega) (by omega) hany ht'
                  rw [hwq] at hb
                  simp only [hno] at hb
                  cases hdo : o.dst <;> simp only [hdo] at hb <;> cases hb
          rcases Nat.le_total m p with hmp | hmp
          · exact (hback hmp htc).symm
          · exact key m hmp (qAr _)
        have hstep := (ts p o hlp).1
        have rest : ∀ {s2 : Sim} {w2 : World} {u : Value} {h2 : Heap}, (loudOp C f o = true -> h2 = (tr (p + 1)).2) -> (loudOp C f o = false -> h2 = (tr m).2) -> Ext s1 (tr m).2 w1 s2 h2 w2 -> Rel s2 h2 w2 -> VR s2 h2 w2 (vl p) u ->
            wpAnyIn (Fr r0) 0 P .any ops (OutOk B s h w N .nrm e' h') fuel (listed.setIfInBounds i true) (a1.put o.dst u) w2 := by
          intro s2 w2 u h2 ht1 ht2 E2 R2 hu
          obtain ⟨g1, g2⟩ := hputs u
          obtain ⟨m2, j1, j2, j3, j4, j5⟩ : ∃ m2, q0 <= m2 /\ m2 <= l.length /\ h2 = (tr m2).2 /\ (∀ r x, q0 <= r -> r < m2 -> l[r]? = some x -> loudOp C f x = true -> D (listed.setIfInBounds i true) r) /\ (∀ r x, m2 <= r -> l[r]? = some x -> loudOp C f x = true -> ¬ D (listed.setIfInBounds i true) r) := by
            cases hlo : loudOp C f o with
            | true =>
              have htc : touchOp C f o = true := loud_touch hlo
              refine ⟨p + 1, by omega, by omega, ht1 hlo, fun r x h1 h3 h4 h5 => ?_, fun r x h1 h3 h4 h5 => ?_⟩
              · by_cases he : r = p
                · exact (hD' r).2 (.inr he)
                · refine (hD' r).2 (.inl (ahead r x (by omega) h4 (.inr ⟨?_, h5⟩)))
                  have hx : isAlloc x = false := by rw [halloc h4]; simp; omega
                  unfold heapC
                  simp [hx, hnal, h5, htc]
              · rcases (hD' r).1 h5 with h6 | h6
                · refine behind r x (by omega) h3 (.inr ⟨?_, by unfold looseP; rw [hlo]; rfl⟩) h6
                  have hx : isAlloc x = false := by rw [halloc h3]; simp; omega
                  unfold heapC
                  simp [hx, hnal, h4, htc]
                · omega
            | false =>
              refine ⟨m, i1, i2, ht2 hlo, fun r x h1 h3 h4 h5 => (hD' r).2 (.inl (i3 r x h1 h3 h4 h5)), fun r x h1 h3 h4 h5 => ?_⟩
              · rcases (hD' r).1 h5 with h6 | h6
                · exact i4 r x h1 h3 h4 h6
                · subst h6
                  rw [hlp] at h3
                  injection h3 with h3; subst h3
                  rw [hlo] at h4; cases h4
          subst j3
          refine ih _ _ _ (by simpa using hsz) hcl' ⟨s2, m2, j1, j2, j4, j5, i5.trans E2, R2, g1, by rw [g2]; exact i8.ext0 E2.toExt0, names E2.toExt0 hu, fun r hr hnD => ?_, ?_⟩ hcnt
          · obtain ⟨k1, k2⟩ := i10 r hr (fun h3 => hnD ((hD' r).2 (.inl h3)))
            refine ⟨?_, by rw [E2.kept _ (by omega) k1]; exact k2⟩
            cases hx : s2.μ (h.length + r) with
            | none => rfl
            | some b =>
              obtain ⟨b0, hb0⟩ := E2.old _ b (by omega) hx
              rw [k1] at hb0; cases hb0
          · by_cases hq1 : q0 = 0
            · have := E2.toExt0
              by_cases hh0 : h.length = 0
              · omega
              · have := E2.toExt0.len (o := h.length - 1) (by omega)
                omega
            · have := E2.toExt0.len (o := h.length + q0 - 1) (by omega)
              omega
        rcases hstep with ⟨hw, hv, hh⟩ | ⟨hw, hce, hv⟩ | ⟨hw, g, args, vs, gv, k', hce, hvs, hg, hquiet, hk', hcall, hloo⟩
        ·
          rw [hwc] at hw
          have hwant := want_rel hd i7 henv hw
          rw [hwant]
          simp only [qAb, if_false]
          refine ⟨fun _ _ => trivial, rest (h2 := (tr m).2) (fun hlo => ?_) (fun _ => rfl) (Ext.refl _ _ _) i6 ?_⟩
          · rw [hh, hheap (loud_touch hlo) hlo]
          · rw [hv]; exact .tup [] #[] rfl fun i c hi => by simp at hi
        · rw [hwc] at hw
          have hwant := want_rel hd i7 henv hw
          rw [if_pos hwant]
          have hv2 : ∃ h2, opA C f ((tr p).1.only (reads ops o)) (tr m).2 o = some (vl p, h2) /\ (loudOp C f o = true -> h2 = (tr (p + 1)).2) /\ (loudOp C f o = false -> h2 = (tr m).2) := by
            rw [← hwc] at hw
            cases hlo : loudOp C f o with
            | true =>
              rw [← opA_congr hsame', hheap (loud_touch hlo) hlo]
              exact ⟨_, hv.1, fun _ => rfl, fun h => by cases h⟩
            | false =>
              rw [← opA_congr hsame']
              cases htc : touchOp C f o with
              | true => exact ⟨_, hread hw hv.1 hlo htc, fun h => (by cases h), fun _ => rfl⟩
              | false => exact ⟨_, (opA_still htc hnal hv.1).2 _, fun h => (by cases h), fun _ => rfl⟩
          obtain ⟨h2, hv2, hh1, hh2⟩ := hv2
          exact oper_sound K i6 hG1 henv hv2 fun s2 w2 u E2 R2 hu => rest hh1 hh2 E2 R2 hu
        · rw [hwc] at hw
          have hwant := want_rel hd i7 henv hw
          rw [if_pos hwant]
          obtain ⟨ct, hoc⟩ := callee_op hce
          have htc : touchOp C f o = true := by unfold touchOp; rw [hoc]
          have hops : ∀ x : Operand, x ∈ o.op.operands.toList -> evalA C (tr p).1 x = evalA C ((tr p).1.only (reads ops o)) x := fun x hx => evalA_congr fun t ht => hsame' t (mem_tmpsOf (ht ▸ hx))
          rw [mapO_congr (l := args.toList) (fun x hx => hops x (by rw [hoc]; simp [Op.operands, Call.operands]; right; simpa using hx))] at hvs
          rw [hops g (by rw [hoc]; simp [Op.operands, Call.operands])] at hg
          have hno : ∀ e h, opA C f e h o = none := fun e h => by unfold opA; simp only [hoc]
          have hsm : (tr m).2 = (tr p).2 := hcalls (by rw [hwc]; exact hw) hno htc
          rw [← hsm] at hcall
          refine callop_sound (HC.le hk') i6 hG1 henv hce hvs hg hcall (fun v hres s2 w2 u E2 R2 hu => ?_) (fun v hres => by cases hres)
          injection hres with hres
          rw [← hres] at hu
          exact rest (fun _ => rfl) (fun hlo => by rw [step_quiet K hlo (ts p o hlp).1, hsm]) E2 R2 hu
  have hrep : ∀ j : Nat, (Array.replicate ops.size false).getD j false = false := fun j => by
    rw [Array.getD_eq_getD_getElem?, Array.getElem?_replicate]; split <;> rfl
  refine main _ _ _ _ (by simp) (fun i o ho hi => ?_) ?_ ?_
  · rw [hrep] at hi; cases hi
  · refine ⟨s, q0, qAr _, hql, fun p o h1 h2 => by omega, fun p o _ _ _ hDp => ?_, ?_, ?_, hN, hdf, fun p t hp hrd hnD hwr => ?_, fun p hp _ => ?_, ?_⟩
    · obtain ⟨i, hi, hiD⟩ := hDp
      rw [hrep] at hiD; cases hiD
    · rw [hX]; exact Ext.pad s h w X
    · rw [hX]; exact R.pad X
    · have hno : (tr p).1.get t = (tr 0).1.get t := get_same p 0 t (Nat.zero_le _) hp (fun r o _ h2 h3 h4 => by
        obtain ⟨i, hi, hiD⟩ := hwr r o h2 h3 h4
        rw [hrep] at hiD; cases hiD)
      rw [hno, t0, hX]
      exact (H t).ext R.apart (Ext.pad s h w X)
    · refine ⟨?_, ?_⟩
      · cases hx : s.μ (h.length + p) with
        | none => rfl
        | some b => have := R.old hx; omega
      · rw [hX, qAy (by omega)]
        congr 1; omega
    · rw [hX]; simp [hXl]
  · exact Nat.le_trans List.countP_le_length (by simp)
end
end Go.Rv
namespace Go.Rv
open Go.ChangeMaps (setBlock)
section
variable {P : Program} {C : Cfg} {s : Sim} {h : Heap} {w : World}
def Sim.fix (s : Sim) (g : Fixed) : Sim := { s with good := g }
theorem Rel.fix (R : Rel s h w) (g : Fixed) (hg : g.good = s.good.good) (hp : ∀ o b es, s.μ o = some b -> h[o]? = some (.iter 2 es) -> ∀ x, s.good.pin b x -> g.pin b x) : Rel (s.fix g) h w where
 inj := R.inj
 obj o b hb := by
  obtain ⟨x, hx, hr⟩ := R.obj o b hb
  refine ⟨x, hx, ?_⟩
  cases x with
  | cells cs gn =>
   obtain ⟨bc, el, k1, k2, k3⟩ := hr
   exact ⟨bc, el, k1, k2, fun i c hi => let ⟨v, h1, h2⟩ := k3 i c hi; ⟨v, h1, h2.regood g⟩⟩
  | map es =>
   obtain ⟨es0, hp0, en, cl, k1, k2, k3, k4⟩ := hr
   exact ⟨es0, hp0, en, cl, k1, k2, k3, fun i e hi => let ⟨m, h1, h2, h3⟩ := k4 i e hi; ⟨m, h1, h2.regood g, h3.regood g⟩⟩
  | loop r =>
   obtain ⟨rec, k1, k2, k3, k4⟩ := hr
   exact ⟨rec, k1, k2, fun t => (k3 t).regood g, by show g.good _ _ _ _ _; rw [hg]; exact k4⟩
  | iter k es =>
   obtain ⟨bm, since, seen, last, en, cl, k1, k2, k3, k4, k5⟩ := hr
   refine ⟨bm, since, seen, last, en, cl, k1, k2, k3, fun hk => ?_, fun hk => ?_⟩
   ·obtain ⟨q1, q2, q3, q4, q5, es0, hp0, q6⟩ := k4 hk
    exact ⟨q1, q2, q3, q4, q5, es0, hp0, fun i e hi => let ⟨m, hm, h6, h7⟩ := q6 i e hi; ⟨m, hm, h6.regood g, h7.regood g⟩⟩
   ·subst hk
    obtain ⟨q1, q2, q3, q4⟩ := k5 rfl
    exact ⟨hp o b es hb hx _ q1, q2, q3, fun e he => let ⟨m, hm, h6, h7, h8⟩ := q4 e he; ⟨m, hm, h6, h7.regood g, h8.regood g⟩⟩
 apart := R.apart
 imm := R.imm
theorem Ext.fix {g : Fixed} {s' : Sim} {h' : Heap} {w' : World} (E : Ext (s.fix g) h w s' h' w') : Ext s h w (s'.fix s.good) h' w' where
 size := E.size
 far := E.far
 shape := E.shape
 imm := E.imm
 gen := E.gen
 same := E.same
 kind := E.kind
 own := E.own
 os := E.os
 tape := E.tape
 output := E.output
 kindL := E.kindL
 good := rfl
 old := E.old
 kept := E.kept
 immOld := E.immOld
def Sim.drop (s : Sim) (o : Nat) : Sim := { s with μ := fun k => if k = o then none else s.μ k }
theorem VR.drop {o : Nat} (hlt : o < h.length) (hg : genOf h o = some 0) {x : AV} {v : Value} (H : VR s h w x v) : VR (s.drop o) (h.set o (.cells [] 1)) w x v := by
 have hg1 : genOf (h.set o (.cells [] 1)) o = some 1 := by rw [genOf_set (g := 0)]; simp [hlt]
 have hgk : ∀ {k g}, o ≠ k -> genOf h k = some g -> genOf (h.set o (.cells [] 1)) k = some g := fun {k g} e hk => by rw [genOf_set (g := 0)]; simp [e, hk]
 have h0 : ∀ {g}, genOf h o = some g -> g = 0 := fun hk => by rw [hg] at hk; injection hk with hk; exact hk.symm
 induction H with
 | bool b => exact .bool b
 | int k n => exact .int k n
 | str l => exact .str l
 | nilPtr => exact .nilPtr
 | nilMap => exact .nilMap
 | nilFunc => exact .nilFunc
 | nilIface => exact .nilIface
 | junk v => exact .junk v
 | ptr k off g b hk hb =>
  by_cases e : o = k
  ·subst e; exact .ptrOld _ _ _ 1 _ hg1 (by rw [h0 hk]; omega)
  ·exact .ptr _ _ _ b (hgk e hk) (by simp [Sim.drop, Ne.symm e, hb])
 | ptrOld k off g g1 a hk hl =>
  by_cases e : o = k
  ·subst e; have := h0 hk; omega
  ·exact .ptrOld _ _ _ g1 a (hgk e hk) hl
 | ref cs b off f hI hc _ ih => exact .ref cs b off f hI hc ih
 | lstNil z => exact .lstNil z
 | lstEmpty z A => exact .lstEmpty z A
 | lst xs z r b off c f hI hr hle hz hc _ ih => exact .lst xs z r b off c f hI hr hle hz hc ih
 | msl k off len z g cap b c el n off' hoff hk hb hle hcap hnone hsh hn =>
  by_cases e : o = k
  ·subst e; exact .mslOld _ _ _ _ _ _ 1 _ _ _ hg1 (by rw [h0 hk]; omega)
  ·exact .msl _ off len z g cap b c el n off' hoff (hgk e hk) (by simp [Sim.drop, Ne.symm e, hb]) hle hcap (fun hc => by rw [lenOf_set e]; exact hnone hc) hsh hn
 | mslOld k off len z g cap g1 a n c hk hl =>
  by_cases e : o = k
  ·subst e; have := h0 hk; omega
  ·exact .mslOld _ off len z g cap g1 a n c (hgk e hk) hl
 | clo f cs vs hl _ ih => exact .clo f cs vs hl ih
 | bnd f cs vs hl _ ih => exact .bnd f cs vs hl ih
 | map k b hk hb =>
  by_cases e : o = k
  ·subst e; exact .mapOld _ 1 _ hg1 (by omega)
  ·exact .map _ b (by rw [isMap_set e]; exact hk) (by simp [Sim.drop, Ne.symm e, hb])
 | mapOld k g b hk hl =>
  by_cases e : o = k
  ·subst e; have := h0 hk; omega
  ·exact .mapOld _ g b (hgk e hk) hl
 | yld k b hk hb =>
  by_cases e : o = k
  ·subst e; exact .yldOld _ 1 _ hg1 (by omega)
  ·exact .yld _ b (by rw [isLoop_set e]; exact hk) (by simp [Sim.drop, Ne.symm e, hb])
 | yldOld k g b hk hl =>
  by_cases e : o = k
  ·subst e; have := h0 hk; omega
  ·exact .yldOld _ g b (hgk e hk) hl
 | iface t x v hx ih => exact .iface t x v ih
 | agg cs vs hl _ ih => exact .agg cs vs hl ih
 | tup cs vs hl _ ih => exact .tup cs vs hl ih
theorem drop_new {s1 : Sim} {h1 : Heap} {w1 : World} (E : Ext s h w s1 h1 w1) (R1 : Rel s1 h1 w1) {o : Nat} (ho : h.length <= o) (hlt : o < h1.length) (hg : genOf h1 o = some 0) :
  Ext s h w (s1.drop o) (h1.set o (.cells [] 1)) w1 /\ Rel (s1.drop o) (h1.set o (.cells [] 1)) w1 := by
 have hgk : ∀ {k}, k < h.length -> genOf (h1.set o (.cells [] 1)) k = genOf h1 k := fun {k} hk => by rw [genOf_set (g := 0)]; simp [show o ≠ k by omega]
 have hμ : ∀ {k}, k < h.length -> (s1.drop o).μ k = s1.μ k := fun {k} hk => by simp [Sim.drop, show k ≠ o by omega]
 have hμ' : ∀ {k b}, (s1.drop o).μ k = some b -> k ≠ o /\ s1.μ k = some b := fun {k b} hk => by
  simp only [Sim.drop] at hk
  split at hk
  ·cases hk
  ·exact ⟨by assumption, hk⟩
 refine ⟨⟨⟨E.size, E.far, E.shape, E.imm, fun k g hk => ?_, fun k g hk hk' => ?_, fun k hk hk' => ?_, fun k b hk => E.own k b (hμ' hk).2, E.os, E.tape, E.output, fun k hk => ?_, E.good⟩, fun k b hk hb => E.old k b hk (hμ' hb).2, fun k hk hn => ?_, E.immOld⟩, ?_⟩
 ·rw [hgk (genOf_lt hk)]; exact E.gen k g hk
 ·have hl := genOf_lt hk
  rw [hgk hl] at hk'
  obtain ⟨a1, a2⟩ := E.same k g hk hk'
  exact ⟨fun b hb => by rw [hμ hl]; exact a1 b hb, by rw [lenOf_set (by omega)]; exact a2⟩
 ·have hl := isMap_lt hk
  rw [hgk hl] at hk'
  rw [isMap_set (by omega)]; exact E.kind k hk hk'
 ·have hl := isLoop_lt hk
  rw [isLoop_set (by omega)]; exact E.kindL k hk
 ·rw [qAw (by omega)]; exact E.kept k hk hn
 ·refine ⟨fun k k' b hk hk' => R1.inj k k' b (hμ' hk).2 (hμ' hk').2, fun k b hk => ?_, fun k b hk hI => R1.apart k b (hμ' hk).2 hI, R1.imm⟩
  obtain ⟨hne, hk⟩ := hμ' hk
  obtain ⟨x, hx, hr⟩ := R1.obj k b hk
  refine ⟨x, by rw [qAw (Ne.symm hne)]; exact hx, ?_⟩
  cases x with
  | cells cs gn =>
   obtain ⟨bc, el, k1, k2, k3⟩ := hr
   exact ⟨bc, el, k1, k2, fun i c hi => let ⟨v, h1, h2⟩ := k3 i c hi; ⟨v, h1, h2.drop hlt hg⟩⟩
  | map es =>
   obtain ⟨es0, hp0, en, cl, k1, k2, k3, k4⟩ := hr
   exact ⟨es0, hp0, en, cl, k1, k2, k3, fun i e hi => let ⟨m, h1, h2, h3⟩ := k4 i e hi; ⟨m, h1, h2.drop hlt hg, h3.drop hlt hg⟩⟩
  | loop r =>
   obtain ⟨rec, k1, k2, k3, k4⟩ := hr
   exact ⟨rec, k1, k2, fun t => (k3 t).drop hlt hg, k4⟩
  | iter kk es =>
   obtain ⟨bm, since, seen, last, en, cl, k1, k2, k3, k4, k5⟩ := hr
   refine ⟨bm, since, seen, last, en, cl, k1, k2, k3, fun hk => ?_, fun hk => ?_⟩
   ·obtain ⟨q1, q2, q3, q4, q5, es0, hp0, q6⟩ := k4 hk
    exact ⟨q1, q2, q3, q4, q5, es0, hp0, fun i e hi => let ⟨m, hm, h6, h7⟩ := q6 i e hi; ⟨m, hm, h6.drop hlt hg, h7.drop hlt hg⟩⟩
   ·obtain ⟨q1, q2, q3, q4⟩ := k5 hk
    exact ⟨q1, q2, q3, fun e he => let ⟨m, hm, h6, h7, h8⟩ := q4 e he; ⟨m, hm, h6, h7.drop hlt hg, h8.drop hlt hg⟩⟩
end
end Go.Rv
