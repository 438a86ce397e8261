/-
  A region that draws its order: any row, up to its end or up to an operation that panics and that all behind it wait for.
-/
import Derived.Test.YtpnafmeehjfnaaaGreatDoorPtE
import Derived.Test.YtpnafmeehjfnaaaGreatDoorPtD
set_option linter.unusedSectionVars false
set_option linter.unusedSimpArgs false
set_option linter.unusedVariables false
set_option linter.defProp false
namespace Go.Rv
section
variable {P : Program} {C : Cfg}
def PanA (C : Cfg) (f : Nat) (ops : Array Oper) (k : Nat) (o : Oper) (x : Env × Heap) (v : AV) (h' : Heap) : Prop :=
  wantA ops x.1 o = some true ∧ ∃ g args vs gv k', callee o = some (g, args) ∧ mapO (evalA C x.1) args.toList = some vs ∧ evalA C x.1 g = some gv ∧ k' ≤ k ∧ callV C k' gv vs x.2 = some (.pan v, h')
theorem draw_any {ord : Nat → Array Oper → Bool} (K : Ok P C ord) {N f : Nat} {ops : Array Oper} (hd : dstsOk N ops = true) (hord : ordOk C f ops = true) {k : Nat} (HC : CallsAt P C ord k) {r0 : Option Nat} {B : Nat}
    {e : Env} {h : Heap} (p0 : Nat) (hp0 : p0 ≤ (sched ops true).length) (hq0 : allocs ops ≤ p0) {tr : Nat → Env × Heap} {vl : Nat → AV} (t0 : tr 0 = (e, h))
    (ts0 : ∀ (j : Nat) o, j < p0 → (sched ops true)[j]? = some o → StepA C f ops k o (tr j) (vl j) (tr (j + 1)).2 ∧ (tr (j + 1)).1 = (tr j).1.putAt o.dst (vl j))
    {s : Sim} {w : World} {a : Act} (hN : a.tmps.size = N) (hdf : Dues B s w a.defers) (R : Rel s h w) (G : GG C ord s h w) (H : EnvRel s h w e a.tmps) {Q : Exit → Act → World → Prop}
    (hdone : p0 = (sched ops true).length → ∀ a1 w1, OutOk B s h w N .nrm (tr p0).1 (tr p0).2 .normal a1 w1 → Q .normal a1 w1)
    (hpan : p0 < (sched ops true).length → ∃ o v h', (sched ops true)[p0]? = some o ∧ PanA C f ops k o (tr p0) v h' ∧ (∀ s1 a1 w1 u, Ext s h w s1 h' w1 → Rel s1 h' w1 → a1.tmps.size = N → Dues B s1 w1 a1.defers → VR s1 h' w1 v u → Q (.panic [{ v := u, recovered := false }]) a1 w1))
    (hbar : ∀ (r j i0 : Nat), p0 < r → (ordIdx ops)[r]? = some j → (ordIdx ops)[p0]? = some i0 → ((Region.before ops).getD j 0).testBit i0 = true) :
    wpAnyIn (Fr r0) 0 P .any ops Q ops.size (Array.replicate ops.size false) a w := by
  simp only [ordOk, Bool.and_eq_true] at hord
  obtain ⟨hpairs, hsing⟩ := hord
  have hpair := pairs_spec (C := C) (f := f) (ops := ops) (b := Region.before ops) _ hpairs
  have hone : ∀ i o, ops[i]? = some o → (isAlloc o = true → o.guard = none) ∧ (∀ e ∈ o.after, Region.binds .any e = true → e.on < i) ∧ (∀ d, o.dst = some d → d ∉ reads ops o) := by
    intro i o ho
    have := List.all_eq_true.1 hsing i (by simp; exact (Array.getElem?_eq_some_iff.1 ho).1)
    simp only [ho, Bool.and_eq_true, Bool.or_eq_true, Bool.not_eq_true', Array.all_eq_true_iff_forall_mem, decide_eq_true_eq] at this
    obtain ⟨⟨h1, h2⟩, h3⟩ := this
    refine ⟨fun ha => ?_, fun e he hb => ?_, fun d hdd => ?_⟩
    · rcases h1 with h1 | h1
      · rw [ha] at h1; cases h1
      · simpa using h1.1
    · rcases h2 e he with h2 | h2
      · rw [hb] at h2; cases h2
      · exact h2
    · rw [hdd] at h3
      simpa using h3
  generalize hl : sched ops true = l at *
  generalize hL : ordIdx ops = L at *
  have hLl : ∀ {p i : Nat}, L[p]? = some i → ∃ o, ops[i]? = some o ∧ l[p]? = some o := fun {p i} hp => by
    subst hL; subst hl; exact idx_at hp
  have hlL : ∀ {p : Nat} {o : Oper}, l[p]? = some o → ∃ i, L[p]? = some i ∧ ops[i]? = some o := fun {p o} hp => by
    subst hL; subst hl; exact sched_at hp
  have hLinj : ∀ {p q i : Nat}, L[p]? = some i → L[q]? = some i → p = q := fun {p q i} hp hq => by subst hL; exact idx_inj hp hq
  have hLmem : ∀ {i : Nat}, i < ops.size → ∃ p : Nat, L[p]? = some i := fun {i} hi => by subst hL; exact idx_mem hi
  have halloc : ∀ {p : Nat} {o : Oper}, l[p]? = some o → isAlloc o = decide (p < allocs ops) := fun {p o} hp => by subst hl; exact alloc_at hp
  generalize hq0' : allocs ops = q0 at *
  have hql : q0 ≤ l.length := by omega
  have ts : ∀ (j : Nat) o, j < p0 → l[j]? = some o → StepA C f ops k o (tr j) (vl j) (tr (j + 1)).2 ∧ (tr (j + 1)).1 = (tr j).1.putAt o.dst (vl j) := ts0
  have get_step : ∀ (p : Nat) o t, p < p0 → l[p]? = some o → (tr (p + 1)).1.get t = if o.dst = some t then vl p else (tr p).1.get t := fun p o t hlt hp => by
    rw [(ts p o hlt hp).2, Env.get_putAt]
  have get_same : ∀ (q p t : Nat), p ≤ q → q ≤ p0 → (∀ (r : Nat) o, p ≤ r → r < q → l[r]? = some o → o.dst ≠ some t) → (tr q).1.get t = (tr p).1.get t := by
    intro q
    induction q with
    | zero => intro p t hp _ _; obtain rfl : p = 0 := by omega
              rfl
    | succ q ih =>
      intro p t hp hq hn
      by_cases he : p = q + 1
      · subst he; rfl
      · have hlt : q < l.length := by omega
        rw [get_step q _ t (by omega) (List.getElem?_eq_getElem hlt), if_neg (hn q _ (by omega) (by omega) (List.getElem?_eq_getElem hlt))]
        exact ih p t (by omega) (by omega) (fun r o h1 h2 h3 => hn r o h1 (by omega) h3)
  have heap_same : ∀ (q p : Nat), p ≤ q → q ≤ p0 → (∀ (r : Nat) o, p ≤ r → r < q → l[r]? = some o → loudOp C f o = false) → (tr q).2 = (tr p).2 := by
    intro q
    induction q with
    | zero => intro p hp _ _; obtain rfl : p = 0 := by omega
              rfl
    | succ q ih =>
      intro p hp hq hn
      by_cases he : p = q + 1
      · subst he; rfl
      · have hlt : q < l.length := by omega
        rw [step_quiet K (hn q _ (by omega) (by omega) (List.getElem?_eq_getElem hlt)) (ts q _ (by omega) (List.getElem?_eq_getElem hlt)).1]
        exact ih p (by omega) (by omega) (fun r o h1 h2 h3 => hn r o h1 (by omega) h3)
  have alloc_step : ∀ (p : Nat) o, p < q0 → l[p]? = some o → ∃ t ti, o.op = .alloc t ∧ C.ty t = some ti ∧ ti.zero.length = ti.size ∧ vl p = .ptr (tr p).2.length 0 0 ∧ (tr (p + 1)).2 = (tr p).2 ++ [.cells ti.zero 0] := by
    intro p o hp ho
    have ha : isAlloc o = true := by rw [halloc ho]; simpa using hp
    obtain ⟨t, hot⟩ := oper_alloc ha
    obtain ⟨i, hi, hoi⟩ := hlL ho
    have hg := (hone i o hoi).1 ha
    have hst := (ts p o (by omega) ho).1
    have hw : wantA ops (tr p).1 o = some true := by unfold wantA; rw [hg]
    have hce : callee o = none := by unfold callee; rw [hot]
    rcases hst with ⟨h1, _⟩ | ⟨_, _, h3, _⟩ | ⟨_, g, args, vs, gv, j, h2, _⟩
    · rw [hw] at h1; cases h1
    · unfold opA at h3
      simp only [hot, Option.bind_eq_bind] at h3
      obtain ⟨ti, hti, h3⟩ := Option.bind_eq_some_iff.1 h3
      split at h3
      · rename_i hz
        simp only [Option.some.injEq, Prod.mk.injEq] at h3
        exact ⟨t, ti, hot, hti, by simpa using hz, h3.1.symm, h3.2.symm⟩
      · cases h3
    · rw [hce] at h2; cases h2
  have alloc_tr : ∀ p, p ≤ q0 → ∃ X, (tr p).2 = h ++ X ∧ X.length = p ∧ ∀ r, r < p → ∀ o, l[r]? = some o → ∃ t ti, o.op = .alloc t ∧ C.ty t = some ti ∧ ti.zero.length = ti.size ∧ X[r]? = some (.cells ti.zero 0) ∧ vl r = .ptr (h.length + r) 0 0 := by
    intro p
    induction p with
    | zero => intro _; exact ⟨[], by rw [t0]; simp, rfl, fun r hr => by omega⟩
    | succ p ih =>
      intro hp
      obtain ⟨X, h1, h2, h3⟩ := ih (by omega)
      have hlt : p < l.length := by omega
      obtain ⟨t, ti, e1, e2, e3, e4, e5⟩ := alloc_step p _ (by omega) (List.getElem?_eq_getElem hlt)
      refine ⟨X ++ [.cells ti.zero 0], by rw [e5, h1, List.append_assoc], by simp [h2], fun r hr o ho => ?_⟩
      by_cases he : r = p
      · subst he
        rw [List.getElem?_eq_getElem hlt] at ho
        injection ho with ho; subst ho
        refine ⟨t, ti, e1, e2, e3, ?_, by rw [e4, h1]; simp [h2]⟩
        rw [List.getElem?_append_right (by omega)]
        simp [h2]
      · obtain ⟨t', ti', k1, k2, k3, k4, k5⟩ := h3 r (by omega) o ho
        exact ⟨t', ti', k1, k2, k3, by rw [List.getElem?_append_left (by omega)]; exact k4, k5⟩
  obtain ⟨X, hX, hXl, hXr⟩ := alloc_tr q0 (Nat.le_refl _)
  let D (listed : Array Bool) (p : Nat) : Prop := ∃ i, L[p]? = some i ∧ listed.getD i false = true
  let Rd (p t : Nat) : Prop := p = l.length ∨ ∃ o, l[p]? = some o ∧ t ∈ reads ops o
  let Inv (listed : Array Bool) (a1 : Act) (w1 : World) : Prop := ∃ s1 m, q0 ≤ m ∧ m ≤ p0 ∧
    (∀ p o, q0 ≤ p → p < m → l[p]? = some o → loudOp C f o = true → D listed p) ∧ (∀ p o, m ≤ p → l[p]? = some o → loudOp C f o = true → ¬ D listed p) ∧
    Ext s h w s1 (tr m).2 w1 ∧ Rel s1 (tr m).2 w1 ∧ a1.tmps.size = N ∧ Dues B s1 w1 a1.defers ∧
    (∀ p t, p ≤ p0 → Rd p t → (p < l.length → ¬ D listed p) → (∀ r o, r < p → l[r]? = some o → o.dst = some t → D listed r) → VR s1 (tr m).2 w1 ((tr p).1.get t) (a1.tmps.getD t undef)) ∧
    (∀ p, p < q0 → ¬ D listed p → s1.μ (h.length + p) = none ∧ (tr m).2[h.length + p]? = X[p]?) ∧ h.length + q0 ≤ (tr m).2.length ∧ (∀ p, p0 ≤ p → p < l.length → ¬ D listed p)
  let cnt (listed : Array Bool) : Nat := (List.range ops.size).countP (fun i => !listed.getD i false)
  have main : ∀ (fuel : Nat) (listed : Array Bool) (a1 : Act) (w1 : World), listed.size = ops.size →
      (∀ i o, ops[i]? = some o → listed.getD i false = true → ∀ e ∈ o.after, Region.binds .any e = true → listed.getD e.on false = true) →
      Inv listed a1 w1 → cnt listed ≤ fuel → wpAnyIn (Fr r0) 0 P .any ops Q fuel listed a1 w1 := by
    intro fuel
    have done : ∀ (listed : Array Bool) (a1 : Act) (w1 : World), listed.size = ops.size → Inv listed a1 w1 → Region.ready .any ops listed = [] → Q .normal a1 w1 := by
      intro listed a1 w1 hsz hI hr
      have hall : ∀ i, i < ops.size → listed.getD i false = true := by
        intro i
        induction i using Nat.strongRecOn with
        | _ i ih =>
          intro hi
          cases hli : listed.getD i false with
          | true => rfl
          | false =>
            exfalso
            have hoi : ops[i]? = some ops[i] := Array.getElem?_eq_getElem hi
            have hmem : i ∈ Region.ready .any ops listed := by
              refine mem_ready.2 ⟨?_, _, hoi, fun e he hb => ?_⟩
              · have : i < listed.size := by omega
                simp [this] at hli ⊢
                exact hli
              · have hlt := (hone i _ hoi).2.1 e he hb
                exact ih e.on hlt (by omega)
            rw [hr] at hmem
            simp at hmem
      have hDall : ∀ p, p < l.length → D listed p := by
        intro p hp
        obtain ⟨i, hi, ho⟩ := hlL (List.getElem?_eq_getElem hp)
        exact ⟨i, hi, hall i (Array.getElem?_eq_some_iff.1 ho).1⟩
      obtain ⟨s1, m, i1, i2, i3, i4, i5, i6, i7, i8, i9, _, _, i12⟩ := hI
      have hpl : p0 = l.length := by
        rcases Nat.lt_or_ge p0 l.length with h1 | h1
        · exact absurd (hDall p0 h1) (i12 p0 (Nat.le_refl _) h1)
        · omega
      have hm : (tr p0).2 = (tr m).2 := heap_same _ _ i2 (Nat.le_refl _) (fun r o h1 h2 h3 => by
        cases hlo : loudOp C f o with
        | false => rfl
        | true => exact absurd (hDall r (by omega)) (i4 r o h1 h3 hlo))
      rw [← hm] at i5 i6 i9
      refine hdone hpl a1 w1 ⟨s1, i5, i6, i7, i8, fun t => ?_⟩
      exact i9 p0 t (Nat.le_refl _) (.inl hpl) (fun h => by omega) (fun r o h1 h2 h3 => hDall r (by omega))
    induction fuel with
    | zero =>
      intro listed a1 w1 hsz hcl hI hc
      have hr : Region.ready .any ops listed = [] := by
        cases hrr : Region.ready .any ops listed with
        | nil => rfl
        | cons i r =>
          exfalso
          have hmem : i ∈ Region.ready .any ops listed := by rw [hrr]; simp
          obtain ⟨h1, o, ho, _⟩ := mem_ready.1 hmem
          have hi : i < ops.size := (Array.getElem?_eq_some_iff.1 ho).1
          have hpos : 0 < cnt listed := by
            refine List.countP_pos_iff.2 ⟨i, by simp [hi], ?_⟩
            have : i < listed.size := by omega
            simp [this] at h1 ⊢
            exact h1
          omega
      exact ⟨hr, done listed a1 w1 hsz hI hr⟩
    | succ fuel ih =>
      intro listed a1 w1 hsz hcl hI hc
      refine ⟨done listed a1 w1 hsz hI, fun i hi => ?_⟩
      obtain ⟨hli, o, ho, hready⟩ := mem_ready.1 hi
      have hio : i < ops.size := (Array.getElem?_eq_some_iff.1 ho).1
      have his : i < listed.size := by omega
      have hlif : listed.getD i false = false := by simp [his] at hli ⊢; exact hli
      obtain ⟨p, hp⟩ := hLmem hio
      obtain ⟨o', ho', hlp⟩ := hLl hp
      rw [ho] at ho'
      injection ho' with ho'; subst ho'
      have hpl : p < l.length := (List.getElem?_eq_some_iff.1 hlp).1
      have hDp : ¬ D listed p := by
        rintro ⟨j, hj, hjd⟩
        rw [hp] at hj
        injection hj with hj; subst hj
        rw [hlif] at hjd; cases hjd
      have ahead : ∀ (r : Nat) x, r < p → l[r]? = some x → (dstC ops x o = true ∨ (heapC C f x o = true ∧ loudOp C f x = true)) → D listed r := by
        intro r x hr hx hc
        obtain ⟨j, hj, hjo⟩ := hlL hx
        refine ⟨j, hj, ?_⟩
        have hbit : ((Region.before ops).getD i 0).testBit j = true := by
          have hs := (hpair r p j i x o hr hj hp hjo ho).1
          rcases hc with hc | ⟨hc, hx⟩
          · exact hs.1 hc
          · exact hs.2 hc (by unfold looseP; rw [hx]; rfl)
        exact before_in (fun x => listed.getD x false = true) ops hcl i o ho hready j hbit
      have behind : ∀ (r : Nat) x, p < r → l[r]? = some x → (dstC ops o x = true ∨ (heapC C f o x = true ∧ looseP C f i o x = false)) → ¬ D listed r := by
        rintro r x hr hx hc ⟨j, hj, hjd⟩
        obtain ⟨j', hj', hjo⟩ := hlL hx
        rw [hj] at hj'
        injection hj' with hj'; subst hj'
        have hbit : ((Region.before ops).getD j 0).testBit i = true := by
          have hs := (hpair p r i j o x hr hp hj ho hjo).1
          rcases hc with hc | ⟨hc, hx⟩
          · exact hs.1 hc
          · exact hs.2 hc hx
        have := before_in (fun x => listed.getD x false = true) ops hcl j x hjo (hcl j x hjo hjd) i hbit
        simp only [hlif] at this
        cases this
      have hD' : ∀ r, D (listed.setIfInBounds i true) r ↔ D listed r ∨ r = p := by
        intro r
        constructor
        · rintro ⟨j, hj, hjd⟩
          rw [getD_set his] at hjd
          split at hjd
          · rename_i e; subst e; exact .inr (hLinj hj hp)
          · exact .inl ⟨j, hj, hjd⟩
        · rintro (⟨j, hj, hjd⟩ | rfl)
          · exact ⟨j, hj, by rw [getD_set his]; split <;> first | rfl | exact hjd⟩
          · exact ⟨i, hp, by rw [getD_set his]; simp⟩
      have hcl' : ∀ j x, ops[j]? = some x → (listed.setIfInBounds i true).getD j false = true → ∀ e ∈ x.after, Region.binds .any e = true → (listed.setIfInBounds i true).getD e.on false = true := by
        intro j x hx hjd e he hb
        have hold : listed.getD e.on false = true := by
          rw [getD_set his] at hjd
          split at hjd
          · rename_i e'; subst e'
            rw [ho] at hx
            injection hx with hx; subst hx
            exact hready e he hb
          · exact hcl j x hx hjd e he hb
        rw [getD_set his]
        split <;> first | rfl | exact hold
      have hcnt : cnt (listed.setIfInBounds i true) ≤ fuel := by
        have : cnt (listed.setIfInBounds i true) < cnt listed := by
          refine countP_lt _ (fun x _ hx => ?_) ⟨i, by simp [hio], by simp only [hlif]; rfl, by rw [getD_set his]; simp⟩
          rw [getD_set his] at hx
          split at hx
          · cases hx
          · exact hx
        omega
      obtain ⟨s1, m, i1, i2, i3, i4, i5, i6, i7, i8, i9, i10, i11, i12⟩ := hI
      have hpp : p ≤ p0 := by
        rcases Nat.lt_or_ge p0 p with h1 | h1
        · exfalso
          have hlt : p0 < l.length := by omega
          obtain ⟨i0, hi0, hoi0⟩ := hlL (List.getElem?_eq_getElem hlt)
          have hbit := hbar p i i0 h1 hp hi0
          exact i12 p0 (Nat.le_refl _) hlt ⟨i0, hi0, before_in (fun x => listed.getD x false = true) ops hcl i o ho hready i0 hbit⟩
        · exact h1
      have hdst : ∀ t, o.dst = some t → t < a1.tmps.size := fun t ht => by rw [i7]; exact dst_lt hd ho t ht
      have hG1 : GG C ord s1 (tr m).2 w1 := G.ext R.apart i5
      have names : ∀ {s2 : Sim} {m2 : Nat} {w2 : World} {u : Value}, Ext0 s1 (tr m).2 w1 s2 (tr m2).2 w2 → VR s2 (tr m2).2 w2 (vl p) u →
          ∀ q t, q ≤ p0 → Rd q t → (q < l.length → ¬ D (listed.setIfInBounds i true) q) → (∀ r x, r < q → l[r]? = some x → x.dst = some t → D (listed.setIfInBounds i true) r) → VR s2 (tr m2).2 w2 ((tr q).1.get t) ((a1.put o.dst u).tmps.getD t undef) := by
        intro s2 m2 w2 u E hu q t hq hrd hnD hwr
        rw [put_get a1 o.dst u t hdst]
        by_cases hdt : o.dst = some t
        · rw [if_pos hdt]
          have hpq : p < q := by
            rcases Nat.lt_trichotomy p q with h1 | h1 | h1
            · exact h1
            · subst h1; exact absurd ((hD' p).2 (.inr rfl)) (hnD hpl)
            ·
              exfalso
              have hql' : q < l.length := by omega
              rcases hrd with h2 | ⟨x, hx, hxr⟩
              · omega
              · have hcf : dstC ops x o = true := by
                  unfold dstC
                  rw [hdt]
                  simp [hxr]
                exact hnD hql' ((hD' q).2 (.inl (ahead q x h1 hx (.inl hcf))))
          have hlast : (tr q).1.get t = (tr (p + 1)).1.get t := by
            refine get_same q (p + 1) t (by omega) hq (fun r x h1 h2 h3 hxd => ?_)
            have hcf : dstC ops o x = true := by
              unfold dstC
              rw [hdt]
              simp [hxd]
            have hnd := behind r x (by omega) h3 (.inl hcf)
            rcases (hD' r).1 (hwr r x h2 h3 hxd) with h4 | h4
            · exact hnd h4
            · omega
          rw [hlast, get_step p o t (by omega) hlp, if_pos hdt]
          exact hu
        · rw [if_neg hdt]
          refine (i9 q t hq hrd (fun h1 h2 => hnD h1 ((hD' q).2 (.inl h2))) (fun r x h1 h2 h3 => ?_)).ext0 i6.apart E
          rcases (hD' r).1 (hwr r x h1 h2 h3) with h4 | h4
          · exact h4
          · subst h4
            rw [hlp] at h2
            injection h2 with h2; subst h2
            exact absurd h3 hdt
      have hputs : ∀ u, (a1.put o.dst u).tmps.size = N ∧ (a1.put o.dst u).defers = a1.defers := fun u => by
        cases o.dst <;> simp [Act.put, i7]
      unfold wpOpIn
      simp only [ho]
      by_cases hpa : p < q0
      ·
        obtain ⟨t, ti, e1, e2, e3, e4, e5⟩ := hXr p hpa o hlp
        have hal : isAlloc o = true := by rw [halloc hlp]; simpa using hpa
        have hg := (hone i o ho).1 hal
        have hwant : Region.wanted o (yielded ops a1.tmps) = true := by unfold Region.wanted; rw [hg]
        rw [if_pos hwant]
        obtain ⟨z, hz1, hz2⟩ := zero_rel (P := P) (s := s1) (h := (tr m).2) (w := w1) (K.ty t ti e2)
        obtain ⟨hmu, hXp⟩ := i10 p hpa hDp
        rw [e4] at hXp
        have hlen : h.length + p < (tr m).2.length := by omega
        have hrun : (execOp a1.eval o).run P w1 = .ok (.value (.pointer (some ⟨w1.heap.size, 0, none⟩))) (w1.alloc (.cells z.cells t)) := by
          unfold execOp
          simp only [e1, Instr.alloc, Sem.run_bind, hz1, Result.andThen_ok, newVar, newRow, run_newObj, Sem.run_pure]
          rfl
        have E0 : Ext0 s1 (tr m).2 w1 (s1.add (h.length + p) w1.heap.size) (tr m).2 (w1.alloc (.cells z.cells t)) := by
          refine ⟨by rw [size_alloc]; omega, fun b hb _ => heap_alloc_lt w1 _ hb, fun b x hx => by rw [shape_of (heap_alloc_lt w1 _ (shape_lt hx))]; exact hx, fun _ h => h, fun _ g hg => ⟨g, hg, Nat.le_refl _⟩, fun o' g hg _ => ⟨fun b hb => ?_, rfl⟩, fun _ h _ => h, fun o' b hb => ?_, rfl, rfl, rfl, fun _ h => h, rfl⟩
          · have : o' ≠ h.length + p := by rintro rfl; rw [hmu] at hb; cases hb
            simp [Sim.add, this, hb]
          · simp only [Sim.add] at hb
            split at hb
            · injection hb with hb; exact .inr (by omega)
            · exact .inl ⟨o', hb⟩
        have hR2 : Rel (s1.add (h.length + p) w1.heap.size) (tr m).2 (w1.alloc (.cells z.cells t)) := by
          refine ⟨fun x y b hx hy => ?_, fun x b hx => ?_, fun x b hx hI => ?_, fun b hI => ?_⟩
          · simp only [Sim.add] at hx hy
            split at hx <;> split at hy
            · omega
            · injection hx with hx; have := i6.lt hy; omega
            · injection hy with hy; have := i6.lt hx; omega
            · exact i6.inj _ _ _ hx hy
          · by_cases hxe : x = h.length + p
            · subst hxe
              simp only [Sim.add, if_true, Option.some.injEq] at hx
              subst hx
              refine ⟨_, hXp, z.cells, t, heap_alloc_at w1 _, by have := hz2.1; simp at this; omega, fun j c hj => ?_⟩
              obtain ⟨v, hv, hvr⟩ := hz2.2 j c hj
              exact ⟨v, by simpa using hv, hvr.ext0 i6.apart E0⟩
            · simp only [Sim.add, hxe, if_false] at hx
              obtain ⟨y, hy, hyr⟩ := i6.obj x b hx
              refine ⟨y, hy, ?_⟩
              have hbk := heap_alloc_lt w1 (.cells z.cells t) (i6.lt hx)
              cases y with
              | cells cs g =>
                obtain ⟨bc, el, k1, k2, k3⟩ := hyr
                refine ⟨bc, el, hbk.trans k1, k2, fun j c hj => ?_⟩
                obtain ⟨v, hv, hvr⟩ := k3 j c hj
                exact ⟨v, hv, hvr.ext0 i6.apart E0⟩
              | map es =>
                obtain ⟨es0, hp0, en, cl, k1, k2, k3⟩ := hyr
                refine ⟨es0, hp0, en, cl, hbk.trans k1, k2, k3.1, fun j c hj => ?_⟩
                obtain ⟨mm, hm, hm1, hm2⟩ := k3.2 j c hj
                exact ⟨mm, hm, hm1.ext0 i6.apart E0, hm2.ext0 i6.apart E0⟩
              | loop lr =>
                obtain ⟨rec, k1, k2, k3, k4⟩ := hyr
                exact ⟨rec, hbk.trans k1, k2, fun t => (k3 t).ext0 i6.apart E0, k4⟩
              | iter kk es =>
                obtain ⟨bm, since, seen, last, en, cl, k1, k2, k3, k4, k5⟩ := hyr
                refine ⟨bm, since, seen, last, en, cl, hbk.trans k1, k2, (heap_alloc_lt w1 _ (i6.imm bm k2)).trans k3, fun hk => ?_, fun hk => ?_⟩
                · obtain ⟨q1, q2, q3, q4, q5, es0, hp0, q6⟩ := k4 hk
                  exact ⟨q1, q2, q3, q4, q5, es0, hp0, fun i e hi => let ⟨m, hm, h6, h7⟩ := q6 i e hi; ⟨m, hm, h6.ext0 i6.apart E0, h7.ext0 i6.apart E0⟩⟩
                · obtain ⟨q1, q2, q3, q4⟩ := k5 hk
                  exact ⟨q1, q2, q3, fun e he => let ⟨m, hm, h6, h7, h8⟩ := q4 e he; ⟨m, hm, h6, h7.ext0 i6.apart E0, h8.ext0 i6.apart E0⟩⟩
          · simp only [Sim.add] at hx hI
            split at hx
            · injection hx with hx; subst hx; have := i6.imm _ hI; omega
            · exact i6.apart _ _ hx hI
          · have := i6.imm b hI; rw [size_alloc]; omega
        have hv : VR (s1.add (h.length + p) w1.heap.size) (tr m).2 (w1.alloc (.cells z.cells t)) (vl p) (.pointer (some ⟨w1.heap.size, 0, none⟩)) := by
          rw [e5]
          exact .ptr _ _ _ _ (by simp [genOf, hXp]) (by simp [Sim.add])
        refine ⟨fun _ _ => trivial, ?_⟩
        rw [Oper.semAt_eq _ _ _ (fun c hc => by rw [e1] at hc; cases hc), hrun]
        obtain ⟨g1, g2⟩ := hputs (.pointer (some ⟨w1.heap.size, 0, none⟩))
        refine ih _ _ _ (by simpa using hsz) hcl' ⟨_, m, i1, i2, fun r x h1 h2 h3 h4 => (hD' r).2 (.inl (i3 r x h1 h2 h3 h4)), fun r x h1 h2 h3 h4 => ?_, ?_, hR2, g1, by rw [g2]; exact i8.ext0 E0, names E0 hv, fun r hr hnD => ?_, i11, fun r h1 h2 h3 => ((hD' r).1 h3).elim (i12 r h1 h2) (fun h4 => by omega)⟩ hcnt
        · rcases (hD' r).1 h4 with h5 | h5
          · exact i4 r x h1 h2 h3 h5
          · omega
        · refine ⟨i5.toExt0.trans E0, fun o' b ho' hb => ?_, fun o' ho' hn => i5.kept o' ho' hn, i5.immOld⟩
          have : o' ≠ h.length + p := by omega
          simp only [Sim.add, this, if_false] at hb
          exact i5.old o' b ho' hb
        · have hne : r ≠ p := fun e' => hnD ((hD' r).2 (.inr e'))
          obtain ⟨h1, h2⟩ := i10 r hr (fun h3 => hnD ((hD' r).2 (.inl h3)))
          exact ⟨by simp only [Sim.add]; rw [if_neg (show ¬ h.length + r = h.length + p from by omega)]; exact h1, h2⟩
      ·
        have hnal : isAlloc o = false := by rw [halloc hlp]; simpa using hpa
        have hrdp : ∀ t, t ∈ reads ops o → VR s1 (tr m).2 w1 ((tr p).1.get t) (a1.tmps.getD t undef) := by
          intro t ht
          refine i9 p t (by omega) (.inr ⟨o, hlp, ht⟩) (fun _ => hDp) (fun r x h1 h2 h3 => ahead r x h1 h2 (.inl ?_))
          unfold dstC
          rw [h3]
          simp [ht]
        have henv : EnvRel s1 (tr m).2 w1 ((tr p).1.only (reads ops o)) a1.tmps := by
          intro t
          by_cases ht : t ∈ reads ops o
          · rw [Env.get_only ht]; exact hrdp t ht
          · rw [Env.get_only_not ht]; exact .junk _
        have hsame : ∀ t, t ∈ reads ops o → (tr p).1.get t = ((tr p).1.only (reads ops o)).get t := fun t ht => (Env.get_only ht).symm
        have hsame' : ∀ t, t ∈ tmpsOf o.op.operands.toList → (tr p).1.get t = ((tr p).1.only (reads ops o)).get t := fun t ht => hsame t (by unfold reads; simp [ht])
        have hwc := wantA_congr (e' := (tr p).1.only (reads ops o)) hsame
        have hloose : ∀ r x, p ≤ r → r < m → l[r]? = some x → loudOp C f x = true → touchOp C f o = true → p < r ∧ looseP C f i o x = true := by
          intro r x h1 h2 h3 h4 htc
          have hDr := i3 r x (by omega) h2 h3 h4
          have hne : r ≠ p := by rintro rfl; exact hDp hDr
          refine ⟨by omega, ?_⟩
          cases hlo : looseP C f i o x with
          | true => rfl
          | false =>
            refine absurd hDr (behind r x (by omega) h3 (.inr ⟨?_, hlo⟩))
            have hx : isAlloc x = false := by rw [halloc h3]; simp; omega
            unfold heapC
            simp [hx, hnal, h4, htc]
        have hahead : ∀ r x, m ≤ r → r < p → l[r]? = some x → loudOp C f x = true → touchOp C f o = true → False := by
          intro r x h1 h2 h3 h4 htc
          refine i4 r x h1 h3 h4 (ahead r x h2 h3 (.inr ⟨?_, h4⟩))
          have hx : isAlloc x = false := by rw [halloc h3]; simp; omega
          unfold heapC
          simp [hx, hnal, h4, htc]
        have hexact : touchOp C f o = true → (∀ r x, p ≤ r → r < m → l[r]? = some x → loudOp C f x = true → looseP C f i o x = false) → (tr m).2 = (tr p).2 := by
          intro htc hn
          rcases Nat.le_total m p with hmp | hmp
          · exact (heap_same p m hmp (by omega) (fun r x h1 h2 h3 => by
              cases hlo : loudOp C f x with
              | false => rfl
              | true => exact (hahead r x h1 h2 h3 hlo htc).elim)).symm
          · exact heap_same m p hmp i2 (fun r x h1 h2 h3 => by
              cases hlo : loudOp C f x with
              | false => rfl
              | true => have := (hloose r x h1 h2 h3 hlo htc).2; rw [hn r x h1 h2 h3 hlo] at this; cases this)
        have hheap : touchOp C f o = true → loudOp C f o = true → (tr m).2 = (tr p).2 := fun htc hlo => hexact htc (fun r x _ _ _ _ => by unfold looseP; rw [hlo]; rfl)
        have hkeep : ∀ r t, p ≤ r → r ≤ p0 → looseI C f ops i = true → (t ∈ reads ops o) → (tr r).1.get t = (tr p).1.get t := by
          intro r t h1 h2 hany ht
          refine get_same r p t h1 h2 (fun q x h3 h4 h5 hxd => ?_)
          by_cases hq : q = p
          · subst hq
            rw [hlp] at h5
            injection h5 with h5; subst h5
            exact (hone i o ho).2.2 t hxd ht
          · obtain ⟨j, hj, hjo⟩ := hlL h5
            have := (hpair p q i j o x (by omega) hp hj ho hjo).2 hany
            unfold antiC at this
            rw [hxd] at this
            simp [ht] at this
        have hkeepd : ∀ r t, p < r → r ≤ p0 → looseI C f ops i = true → o.dst = some t → (tr r).1.get t = vl p := by
          intro r t h1 h2 hany ht
          rw [get_same r (p + 1) t (by omega) h2 (fun q x h3 h4 h5 hxd => ?_), get_step p o t (by omega) hlp, if_pos ht]
          obtain ⟨j, hj, hjo⟩ := hlL h5
          have := (hpair p q i j o x (by omega) hp hj ho hjo).2 hany
          unfold antiC at this
          rw [hxd] at this
          simp [ht] at this
        have hlb : ∀ r x, p ≤ r → r < m → l[r]? = some x → loudOp C f x = true → touchOp C f o = true → (tr (r + 1)).2 = (tr r).2 ∨ (looseB C f ops (tr r).1 (tr (r + 1)).2 i = true ∧ p < r ∧ looseI C f ops i = true) := by
          intro r x h1 h2 h3 h4 htc
          obtain ⟨hqp, hlp'⟩ := hloose r x h1 h2 h3 h4 htc
          have hcon : ∃ t, dkey x = some t ∧ i ∈ C.loose f t := by
            unfold looseP at hlp'
            simp only [Bool.and_eq_true] at hlp'
            obtain ⟨_, hlp'⟩ := hlp'
            cases hdx : dkey x with
            | none => rw [hdx] at hlp'; cases hlp'
            | some t => rw [hdx] at hlp'; exact ⟨t, rfl, by simpa using hlp'⟩
          obtain ⟨t, hdx, hit⟩ := hcon
          have hany : looseI C f ops i = true := by
            unfold looseI
            refine List.any_eq_true.2 ⟨x, ?_, ?_⟩
            · obtain ⟨j, _, hjo⟩ := hlL h3
              exact List.mem_iff_getElem?.2 ⟨j, by simpa using hjo⟩
            · rw [hdx]
              simpa using hit
          have hchk : looseAll C f ops (dkey x) (tr r).1 (tr (r + 1)).2 = true → looseB C f ops (tr r).1 (tr (r + 1)).2 i = true := by
            intro hh1
            rw [hdx] at hh1
            exact List.all_eq_true.1 hh1 i hit
          rcases (ts r x (by omega) h3).1 with ⟨_, _, hs⟩ | ⟨_, _, _, hs⟩ | ⟨_, _, _, _, _, _, _, _, _, _, _, _, hs⟩
          · exact .inl hs
          · exact .inr ⟨hchk hs, hqp, hany⟩
          · exact .inr ⟨hchk hs, hqp, hany⟩
        have hback : m ≤ p → touchOp C f o = true → (tr p).2 = (tr m).2 := fun hmp htc => heap_same p m hmp (by omega) (fun r x h1 h2 h3 => by
          cases hlx : loudOp C f x with
          | false => rfl
          | true => exact (hahead r x h1 h2 h3 hlx htc).elim)
        have hread : wantA ops (tr p).1 o = some true → opA C f (tr p).1 (tr p).2 o = some (vl p, (tr (p + 1)).2) → loudOp C f o = false → touchOp C f o = true →
            opA C f (tr p).1 (tr m).2 o = some (vl p, (tr m).2) := by
          intro hw hv hlo htc
          have hv' : opA C f (tr p).1 (tr p).2 o = some (vl p, (tr p).2) := by
            rw [hv, opA_quiet hlo hv]
          have key : ∀ q, p ≤ q → q ≤ m → opA C f (tr p).1 (tr q).2 o = some (vl p, (tr q).2) := by
            intro q
            induction q with
            | zero => intro h1 _; obtain rfl : p = 0 := by omega
                      exact hv'
            | succ q ih =>
              intro h1 h2
              by_cases hpq : p = q + 1
              · rw [← hpq]; exact hv'
              have ihq := ih (by omega) (by omega)
              have hlt : q < l.length := by omega
              have hlq := List.getElem?_eq_getElem hlt
              cases hlx : loudOp C f l[q] with
              | false => rw [step_quiet K hlx (ts q _ (by omega) hlq).1]; exact ihq
              | true =>
                rcases hlb q _ (by omega) (by omega) hlq hlx htc with hs | ⟨hb, hqp, hany⟩
                · rw [hs]; exact ihq
                · unfold looseB at hb
                  simp only [ho] at hb
                  have hwq : wantA ops (tr q).1 o = some true := by
                    rw [← hw]
                    exact wantA_congr fun t' ht' => hkeep q t' (by omega) (by omega) hany ht'
                  rw [hwq] at hb
                  simp only at hb
                  have hcg : opA C f (tr q).1 (tr (q + 1)).2 o = opA C f (tr p).1 (tr (q + 1)).2 o := opA_congr fun t' ht' => hkeep q t' (by omega) (by omega) hany (by unfold reads; simp [ht'])
                  rw [hcg] at hb
                  cases hdo : o.dst with
                  | none => simp only [hdo] at hb; cases hb
                  | some t' =>
                    simp only [hdo] at hb
                    cases hop : opA C f (tr p).1 (tr (q + 1)).2 o with
                    | none => simp only [hop] at hb; cases hb
                    | some y =>
                      obtain ⟨y1, y2⟩ := y
                      simp only [hop] at hb
                      have := AV.eqb_eq _ _ hb
                      rw [hkeepd q t' hqp (by omega) hany hdo] at this
                      rw [this, opA_quiet hlo hop]
          rcases Nat.le_total m p with hmp | hmp
          · rw [← hback hmp htc]; exact hv'
          · exact key m hmp (Nat.le_refl _)
        have hcalls : wantA ops (tr p).1 o = some true → (∀ e h, opA C f e h o = none) → touchOp C f o = true → (tr m).2 = (tr p).2 := by
          intro hw hno htc
          have key : ∀ q, p ≤ q → q ≤ m → (tr q).2 = (tr p).2 := by
            intro q
            induction q with
            | zero => intro h1 _; obtain rfl : p = 0 := by omega
                      rfl
            | succ q ih =>
              intro h1 h2
              by_cases hpq : p = q + 1
              · rw [← hpq]
              have ihq := ih (by omega) (by omega)
              have hlt : q < l.length := by omega
              have hlq := List.getElem?_eq_getElem hlt
              cases hlx : loudOp C f l[q] with
              | false => rw [step_quiet K hlx (ts q _ (by omega) hlq).1]; exact ihq
              | true =>
                rcases hlb q _ (by omega) (by omega) hlq hlx htc with hs | ⟨hb, hqp, hany⟩
                · rw [hs]; exact ihq
                · unfold looseB at hb
                  simp only [ho] at hb
                  have hwq : wantA ops (tr q).1 o = some true := by
                    rw [← hw]
                    exact wantA_congr fun t' ht' => hkeep q t' (by omega) (by omega) hany ht'
                  rw [hwq] at hb
                  simp only [hno] at hb
                  cases hdo : o.dst <;> simp only [hdo] at hb <;> cases hb
          rcases Nat.le_total m p with hmp | hmp
          · exact (hback hmp htc).symm
          · exact key m hmp (Nat.le_refl _)
        by_cases hpe : p = p0
        · subst hpe
          obtain ⟨o', v, h', ho', hpA, hQ⟩ := hpan hpl
          rw [hlp] at ho'
          injection ho' with ho'; subst ho'
          obtain ⟨hw, g, args, vs, gv, k', hce, hvs, hg, hk', hcall⟩ := hpA
          rw [hwc] at hw
          have hwant := want_rel hd i7 henv hw
          rw [if_pos hwant]
          obtain ⟨ct, hoc⟩ := callee_op hce
          have htc : touchOp C f o = true := by unfold touchOp; rw [hoc]
          have hops : ∀ x : Operand, x ∈ o.op.operands.toList → evalA C (tr p).1 x = evalA C ((tr p).1.only (reads ops o)) x := fun x hx => evalA_congr fun t ht => hsame' t (mem_tmpsOf (ht ▸ hx))
          rw [mapO_congr (l := args.toList) (fun x hx => hops x (by rw [hoc]; simp [Op.operands, Call.operands]; right; simpa using hx))] at hvs
          rw [hops g (by rw [hoc]; simp [Op.operands, Call.operands])] at hg
          rw [hback i2 htc] at hcall
          refine callop_sound (HC.le hk') i6 hG1 henv hce hvs hg hcall (fun v hres => by cases hres) (fun v hres s2 w2 u E2 R2 hu => ?_)
          injection hres with hres
          rw [← hres] at hu
          exact hQ s2 a1 w2 u (i5.trans E2) R2 i7 (i8.ext0 E2.toExt0) hu
        have hlt0 : p < p0 := by omega
        have hstep := (ts p o hlt0 hlp).1
        have rest : ∀ {s2 : Sim} {w2 : World} {u : Value} {h2 : Heap}, (loudOp C f o = true → h2 = (tr (p + 1)).2) → (loudOp C f o = false → h2 = (tr m).2) → Ext s1 (tr m).2 w1 s2 h2 w2 → Rel s2 h2 w2 → VR s2 h2 w2 (vl p) u →
            wpAnyIn (Fr r0) 0 P .any ops Q fuel (listed.setIfInBounds i true) (a1.put o.dst u) w2 := by
          intro s2 w2 u h2 ht1 ht2 E2 R2 hu
          obtain ⟨g1, g2⟩ := hputs u
          obtain ⟨m2, j1, j2, j3, j4, j5⟩ : ∃ m2, q0 ≤ m2 ∧ m2 ≤ p0 ∧ h2 = (tr m2).2 ∧ (∀ r x, q0 ≤ r → r < m2 → l[r]? = some x → loudOp C f x = true → D (listed.setIfInBounds i true) r) ∧ (∀ r x, m2 ≤ r → l[r]? = some x → loudOp C f x = true → ¬ D (listed.setIfInBounds i true) r) := by
            cases hlo : loudOp C f o with
            | true =>
              have htc : touchOp C f o = true := loud_touch hlo
              refine ⟨p + 1, by omega, by omega, ht1 hlo, fun r x h1 h3 h4 h5 => ?_, fun r x h1 h3 h4 h5 => ?_⟩
              · by_cases he : r = p
                · exact (hD' r).2 (.inr he)
                · refine (hD' r).2 (.inl (ahead r x (by omega) h4 (.inr ⟨?_, h5⟩)))
                  have hx : isAlloc x = false := by rw [halloc h4]; simp; omega
                  unfold heapC
                  simp [hx, hnal, h5, htc]
              · rcases (hD' r).1 h5 with h6 | h6
                · refine behind r x (by omega) h3 (.inr ⟨?_, by unfold looseP; rw [hlo]; rfl⟩) h6
                  have hx : isAlloc x = false := by rw [halloc h3]; simp; omega
                  unfold heapC
                  simp [hx, hnal, h4, htc]
                · omega
            | false =>
              refine ⟨m, i1, i2, ht2 hlo, fun r x h1 h3 h4 h5 => (hD' r).2 (.inl (i3 r x h1 h3 h4 h5)), fun r x h1 h3 h4 h5 => ?_⟩
              · rcases (hD' r).1 h5 with h6 | h6
                · exact i4 r x h1 h3 h4 h6
                · subst h6
                  rw [hlp] at h3
                  injection h3 with h3; subst h3
                  rw [hlo] at h4; cases h4
          subst j3
          refine ih _ _ _ (by simpa using hsz) hcl' ⟨s2, m2, j1, j2, j4, j5, i5.trans E2, R2, g1, by rw [g2]; exact i8.ext0 E2.toExt0, names E2.toExt0 hu, fun r hr hnD => ?_, ?_, fun r h1 h2 h3 => ((hD' r).1 h3).elim (i12 r h1 h2) (fun h4 => by omega)⟩ hcnt
          · obtain ⟨k1, k2⟩ := i10 r hr (fun h3 => hnD ((hD' r).2 (.inl h3)))
            refine ⟨?_, by rw [E2.kept _ (by omega) k1]; exact k2⟩
            cases hx : s2.μ (h.length + r) with
            | none => rfl
            | some b =>
              obtain ⟨b0, hb0⟩ := E2.old _ b (by omega) hx
              rw [k1] at hb0; cases hb0
          · by_cases hq1 : q0 = 0
            · have := E2.toExt0
              by_cases hh0 : h.length = 0
              · omega
              · have := E2.toExt0.len (o := h.length - 1) (by omega)
                omega
            · have := E2.toExt0.len (o := h.length + q0 - 1) (by omega)
              omega
        rcases hstep with ⟨hw, hv, hh⟩ | ⟨hw, hce, hv⟩ | ⟨hw, g, args, vs, gv, k', hce, hvs, hg, hquiet, hk', hcall, hloo⟩
        ·
          rw [hwc] at hw
          have hwant := want_rel hd i7 henv hw
          rw [hwant]
          simp only [Bool.false_eq_true, if_false]
          refine ⟨fun _ _ => trivial, rest (h2 := (tr m).2) (fun hlo => ?_) (fun _ => rfl) (Ext.refl _ _ _) i6 ?_⟩
          · rw [hh, hheap (loud_touch hlo) hlo]
          · rw [hv]; exact .tup [] #[] rfl fun i c hi => by simp at hi
        · rw [hwc] at hw
          have hwant := want_rel hd i7 henv hw
          rw [if_pos hwant]
          have hv2 : ∃ h2, opA C f ((tr p).1.only (reads ops o)) (tr m).2 o = some (vl p, h2) ∧ (loudOp C f o = true → h2 = (tr (p + 1)).2) ∧ (loudOp C f o = false → h2 = (tr m).2) := by
            rw [← hwc] at hw
            cases hlo : loudOp C f o with
            | true =>
              rw [← opA_congr hsame', hheap (loud_touch hlo) hlo]
              exact ⟨_, hv.1, fun _ => rfl, fun h => by cases h⟩
            | false =>
              rw [← opA_congr hsame']
              cases htc : touchOp C f o with
              | true => exact ⟨_, hread hw hv.1 hlo htc, fun h => (by cases h), fun _ => rfl⟩
              | false => exact ⟨_, (opA_still htc hnal hv.1).2 _, fun h => (by cases h), fun _ => rfl⟩
          obtain ⟨h2, hv2, hh1, hh2⟩ := hv2
          exact oper_sound K i6 hG1 henv hv2 fun s2 w2 u E2 R2 hu => rest hh1 hh2 E2 R2 hu
        · rw [hwc] at hw
          have hwant := want_rel hd i7 henv hw
          rw [if_pos hwant]
          obtain ⟨ct, hoc⟩ := callee_op hce
          have htc : touchOp C f o = true := by unfold touchOp; rw [hoc]
          have hops : ∀ x : Operand, x ∈ o.op.operands.toList → evalA C (tr p).1 x = evalA C ((tr p).1.only (reads ops o)) x := fun x hx => evalA_congr fun t ht => hsame' t (mem_tmpsOf (ht ▸ hx))
          rw [mapO_congr (l := args.toList) (fun x hx => hops x (by rw [hoc]; simp [Op.operands, Call.operands]; right; simpa using hx))] at hvs
          rw [hops g (by rw [hoc]; simp [Op.operands, Call.operands])] at hg
          have hno : ∀ e h, opA C f e h o = none := fun e h => by unfold opA; simp only [hoc]
          have hsm : (tr m).2 = (tr p).2 := hcalls (by rw [hwc]; exact hw) hno htc
          rw [← hsm] at hcall
          refine callop_sound (HC.le hk') i6 hG1 henv hce hvs hg hcall (fun v hres s2 w2 u E2 R2 hu => ?_) (fun v hres => by cases hres)
          injection hres with hres
          rw [← hres] at hu
          exact rest (fun _ => rfl) (fun hlo => by rw [step_quiet K hlo (ts p o hlt0 hlp).1, hsm]) E2 R2 hu
  have hrep : ∀ j : Nat, (Array.replicate ops.size false).getD j false = false := fun j => by
    rw [Array.getD_eq_getD_getElem?, Array.getElem?_replicate]; split <;> rfl
  refine main _ _ _ _ (by simp) (fun i o ho hi => ?_) ?_ ?_
  · rw [hrep] at hi; cases hi
  · refine ⟨s, q0, Nat.le_refl _, hq0, fun p o h1 h2 => by omega, fun p o _ _ _ hDp => ?_, ?_, ?_, hN, hdf, fun p t hp hrd hnD hwr => ?_, fun p hp _ => ?_, ?_, fun p _ _ hDp => ?_⟩
    · obtain ⟨i, hi, hiD⟩ := hDp
      rw [hrep] at hiD; cases hiD
    · rw [hX]; exact Ext.pad s h w X
    · rw [hX]; exact R.pad X
    · have hno : (tr p).1.get t = (tr 0).1.get t := get_same p 0 t (Nat.zero_le _) hp (fun r o _ h2 h3 h4 => by
        obtain ⟨i, hi, hiD⟩ := hwr r o h2 h3 h4
        rw [hrep] at hiD; cases hiD)
      rw [hno, t0, hX]
      exact (H t).ext R.apart (Ext.pad s h w X)
    · refine ⟨?_, ?_⟩
      · cases hx : s.μ (h.length + p) with
        | none => rfl
        | some b => have := R.old hx; omega
      · rw [hX, List.getElem?_append_right (by omega)]
        congr 1; omega
    · rw [hX]; simp [hXl]
    · obtain ⟨i, hi, hiD⟩ := hDp
      rw [hrep] at hiD; cases hiD
  · exact Nat.le_trans List.countP_le_length (by simp)
theorem trace_pan {f : Nat} {ops : Array Oper} (hno : ∀ o, o ∈ ops.toList → ∀ e, panO C e o = none) : ∀ (l : List Oper) (k : Nat) (e : Env) (h : Heap) (v : AV) (e' : Env) (h' : Heap), (∀ o, o ∈ l → o ∈ ops.toList) → opsF C k f ops l e h = some (.pan v, e', h') →
    ∃ (p0 : Nat) (o0 : Oper) (tr : Nat → Env × Heap) (vl : Nat → AV), l[p0]? = some o0 ∧ PanA C f ops k o0 (tr p0) v h' ∧ tr 0 = (e, h) ∧ ∀ (j : Nat) o, j < p0 → l[j]? = some o → StepA C f ops k o (tr j) (vl j) (tr (j + 1)).2 ∧ (tr (j + 1)).1 = (tr j).1.putAt o.dst (vl j)
  | [], k, e, h, v, e', h', _, hf => by
    cases k with
    | zero => simp [opsF] at hf
    | succ k => simp [opsF] at hf
  | o :: r, k, e, h, v, e', h', hin, hf => by
    cases k with
    | zero => simp [opsF] at hf
    | succ k =>
      rw [opsF_cons] at hf
      replace hf := Option.bind_eq_some_iff.1 hf
      obtain ⟨b, hw, hf⟩ := hf
      have fin : ∀ {u : AV} {h1 : Heap}, StepA C f ops (k + 1) o (e, h) u h1 → opsF C k f ops r (e.putAt o.dst u) h1 = some (.pan v, e', h') →
          ∃ (p0 : Nat) (o0 : Oper) (tr : Nat → Env × Heap) (vl : Nat → AV), (o :: r)[p0]? = some o0 ∧ PanA C f ops (k + 1) o0 (tr p0) v h' ∧ tr 0 = (e, h) ∧ ∀ (j : Nat) o', j < p0 → (o :: r)[j]? = some o' → StepA C f ops (k + 1) o' (tr j) (vl j) (tr (j + 1)).2 ∧ (tr (j + 1)).1 = (tr j).1.putAt o'.dst (vl j) := by
        intro u h1 hs hr
        obtain ⟨p0, o0, tr, vl, q0, q1, t0, ts⟩ := trace_pan hno r k _ _ _ _ _ (fun x hx => hin x (List.mem_cons_of_mem _ hx)) hr
        refine ⟨p0 + 1, o0, fun j => match j with | 0 => (e, h) | j + 1 => tr j, fun j => match j with | 0 => u | j + 1 => vl j, by simpa using q0, ?_, rfl, fun j o' hj hoj => ?_⟩
        · obtain ⟨a1, g, args, vs, gv, k', a2, a3, a4, a5, a6⟩ := q1
          exact ⟨a1, g, args, vs, gv, k', a2, a3, a4, by omega, a6⟩
        · cases j with
          | zero =>
            simp only [List.getElem?_cons_zero, Option.some.injEq] at hoj
            subst hoj
            simp only [t0]
            exact ⟨hs, trivial⟩
          | succ j =>
            obtain ⟨a1, a2⟩ := ts j o' (by omega) (by simpa using hoj)
            exact ⟨a1.le (by omega), a2⟩
      cases b with
      | false => exact fin (.inl ⟨hw, rfl, rfl⟩) hf
      | true =>
        cases hc : callee o with
        | none =>
          simp only [hc] at hf
          rw [hno o (hin o (by simp)) e] at hf
          simp only at hf
          replace hf := Option.bind_eq_some_iff.1 hf
          obtain ⟨⟨u, h1⟩, hv, hf⟩ := hf
          split at hf <;> first | cases hf | skip
          rename_i hlo
          exact fin (.inr (.inl ⟨hw, hc, hv, hlo⟩)) hf
        | some ga =>
          obtain ⟨g, args⟩ := ga
          simp only [hc] at hf
          replace hf := Option.bind_eq_some_iff.1 hf
          obtain ⟨vs, hvs, hf⟩ := hf
          replace hf := Option.bind_eq_some_iff.1 hf
          obtain ⟨gv, hgv, hf⟩ := hf
          split at hf
          · cases hf
          rename_i hq
          replace hf := Option.bind_eq_some_iff.1 hf
          obtain ⟨⟨res, h1⟩, hcall, hf⟩ := hf
          cases res with
          | pan u =>
            simp only [Option.some.injEq, Prod.mk.injEq, Out.pan.injEq] at hf
            obtain ⟨rfl, rfl, rfl⟩ := hf
            exact ⟨0, o, fun _ => (e, h), fun _ => .junk, rfl, ⟨hw, g, args, vs, gv, k, hc, hvs, hgv, by omega, hcall⟩, rfl, fun j o' hj => by omega⟩
          | ret u =>
            dsimp only at hf
            split at hf <;> first | cases hf | skip
            rename_i hlo
            exact fin (.inr (.inr ⟨hw, g, args, vs, gv, k, hc, hvs, hgv, by simpa using hq, by omega, hcall, hlo⟩)) hf
theorem draw_pan {ord : Nat → Array Oper → Bool} (K : Ok P C ord) {N f : Nat} {ops : Array Oper} (hd : dstsOk N ops = true) (hord : ordOk C f ops = true) (hok : panOk ops = true) {k : Nat} (HC : CallsAt P C ord k) {r0 : Option Nat} {B : Nat}
    {e : Env} {h : Heap} {v : AV} {e' : Env} {h' : Heap} (hf : opsF C k f ops (sched ops true) e h = some (.pan v, e', h'))
    {s : Sim} {w : World} {a : Act} (hN : a.tmps.size = N) (hdf : Dues B s w a.defers) (R : Rel s h w) (G : GG C ord s h w) (H : EnvRel s h w e a.tmps) :
    wpAnyIn (Fr r0) 0 P .any ops (OutOk B s h w N (.pan v) [] h') ops.size (Array.replicate ops.size false) a w := by
  unfold panOk at hok
  simp only [Bool.and_eq_true, List.all_eq_true] at hok
  obtain ⟨hok1, hok2⟩ := hok
  have hmem : ∀ o, o ∈ sched ops true → o ∈ ops.toList := fun o ho => by
    obtain ⟨p, hp⟩ := List.mem_iff_getElem?.1 ho
    obtain ⟨i, _, hi⟩ := sched_at hp
    exact List.mem_iff_getElem?.2 ⟨i, by simpa using hi⟩
  have hno : ∀ o, o ∈ ops.toList → ∀ e, panO C e o = none := fun o ho e => by
    have := hok1 o ho
    unfold panO
    cases hop : o.op <;> simp_all
  obtain ⟨p0, o0, tr, vl, hl0, hpA, t0, ts⟩ := trace_pan hno (sched ops true) k e h v e' h' hmem hf
  have hlt : p0 < (sched ops true).length := (List.getElem?_eq_some_iff.1 hl0).1
  obtain ⟨i0, hi0, hoi0⟩ := sched_at hl0
  obtain ⟨hw, g, args, vs, gv, k', hce, hrest⟩ := hpA
  have hic : isCallO o0 = true := by
    obtain ⟨ct, hoc⟩ := callee_op hce
    unfold isCallO
    rw [hoc]
  have hna : isAlloc o0 = false := by
    obtain ⟨ct, hoc⟩ := callee_op hce
    unfold isAlloc
    rw [hoc]
  refine draw_any K hd hord HC p0 (by omega) ?_ t0 ts hN hdf R G H (fun h => by omega) (fun _ => ⟨o0, v, h', hl0, ⟨hw, g, args, vs, gv, k', hce, hrest⟩, fun s1 a1 w1 u E R1 n1 d1 hu => ⟨s1, E, R1, n1, d1, ⟨u, rfl, hu⟩, fun t => ?_⟩⟩) (fun r j i1 hr hj hi1 => ?_)
  · have := alloc_at hl0
    rw [hna] at this
    simpa using this
  · exact .junk _
  · rw [hi0] at hi1
    injection hi1 with hi1; subst hi1
    have h1 := hok2 p0 (by simp; rw [idx_length]; exact hlt)
    rw [hi0] at h1
    simp only [hoi0, hic] at h1
    have h2 := List.all_eq_true.1 h1 r (by simp; exact (List.getElem?_eq_some_iff.1 hj).1)
    rw [hj] at h2
    simp only [Bool.or_eq_true, decide_eq_true_eq] at h2
    rcases h2 with h2 | h2
    · omega
    · exact h2
theorem get_outside (ops : Array Oper) (t : Nat) : ∀ e : Env, (∃ o ∈ ops.toList, o.dst = some t) ∨ (e.outside ops).get t = e.get t := by
  have key : ∀ (l : List Oper) (e : Env), (∃ o ∈ l, o.dst = some t) ∨ (l.foldl (fun e o => e.putAt o.dst .junk) e).get t = e.get t := by
    intro l
    induction l with
    | nil => intro e; exact .inr rfl
    | cons o r ih =>
      intro e
      by_cases ho : o.dst = some t
      · exact .inl ⟨o, by simp, ho⟩
      · rcases ih (e.putAt o.dst .junk) with ⟨x, hx, hd⟩ | h
        · exact .inl ⟨x, by simp [hx], hd⟩
        · right
          rw [List.foldl_cons, h]
          cases hd : o.dst with
          | none => rfl
          | some u =>
            have : u ≠ t := fun hc => ho (by rw [hd, hc])
            show (e.put u .junk).get t = e.get t
            rw [Env.get_put, if_neg this]
  exact key ops.toList
theorem get_outside_dst (ops : Array Oper) (t : Nat) (h : ∃ o ∈ ops.toList, o.dst = some t) : ∀ e : Env, (e.outside ops).get t = .junk := by
  have keep : ∀ (l : List Oper) (e : Env), e.get t = .junk → (l.foldl (fun e o => e.putAt o.dst .junk) e).get t = .junk := by
    intro l
    induction l with
    | nil => intro e he; exact he
    | cons o r ih =>
      intro e he
      refine ih _ ?_
      show (e.putAt o.dst .junk).get t = .junk
      cases hd : o.dst with
      | none => exact he
      | some u =>
        show (e.put u .junk).get t = .junk
        rw [Env.get_put]
        split <;> first | rfl | exact he
  have key : ∀ (l : List Oper) (e : Env), (∃ o ∈ l, o.dst = some t) → (l.foldl (fun e o => e.putAt o.dst .junk) e).get t = .junk := by
    intro l
    induction l with
    | nil => intro e ⟨o, ho, _⟩; cases ho
    | cons o r ih =>
      intro e ⟨x, hx, hd⟩
      rcases List.mem_cons.1 hx with rfl | hx
      · refine keep r _ ?_
        show (e.putAt x.dst .junk).get t = .junk
        rw [hd]
        show (e.put t .junk).get t = .junk
        rw [Env.get_put, if_pos rfl]
      · exact ih _ ⟨x, hx, hd⟩
  exact fun e => key ops.toList e h
theorem opsF_keep {f t : Nat} {ops : Array Oper} : ∀ (l : List Oper) (k : Nat) {e : Env} {h : Heap} {out : Out} {e' : Env} {h' : Heap}, opsF C k f ops l e h = some (out, e', h') → (∀ o ∈ l, o.dst ≠ some t) → e'.get t = e.get t := by
  intro l
  induction l with
  | nil =>
    intro k e h out e' h' hx _
    cases k with
    | zero => simp [opsF] at hx
    | succ k =>
      simp only [opsF, Option.some.injEq, Prod.mk.injEq] at hx
      rw [hx.2.1]
  | cons o r ih =>
    intro k e h out e' h' hx hn
    cases k with
    | zero => simp [opsF] at hx
    | succ k =>
      have hput : ∀ v : AV, (e.putAt o.dst v).get t = e.get t := fun v => by
        cases hd : o.dst with
        | none => rfl
        | some u =>
          have : u ≠ t := fun hc => hn o (by simp) (by rw [hd, hc])
          show (e.put u v).get t = e.get t
          rw [Env.get_put, if_neg this]
      have hr : ∀ x ∈ r, x.dst ≠ some t := fun x hx => hn x (by simp [hx])
      simp only [opsF, Option.bind_eq_bind] at hx
      obtain ⟨b, hb, hx⟩ := Option.bind_eq_some_iff.1 hx
      cases b with
      | false => exact (ih k hx hr).trans (hput _)
      | true =>
        simp only [if_true] at hx
        split at hx
        · obtain ⟨vs, _, hx⟩ := Option.bind_eq_some_iff.1 hx
          obtain ⟨gv, _, hx⟩ := Option.bind_eq_some_iff.1 hx
          split at hx
          · cases hx
          · obtain ⟨⟨res, h1⟩, _, hx⟩ := Option.bind_eq_some_iff.1 hx
            cases res with
            | ret v =>
              simp only at hx
              split at hx
              · exact (ih k hx hr).trans (hput _)
              · cases hx
            | pan v =>
              simp only [Option.some.injEq, Prod.mk.injEq] at hx
              rw [hx.2.1]
        · split at hx
          · simp only [Option.some.injEq, Prod.mk.injEq] at hx
            rw [hx.2.1]
          · obtain ⟨⟨v, h1⟩, _, hx⟩ := Option.bind_eq_some_iff.1 hx
            simp only at hx
            split at hx
            · exact (ih k hx hr).trans (hput _)
            · cases hx
def KeepsT (ops : Array Oper) (a0 a : Act) : Prop := ∀ t, (∀ o ∈ ops.toList, o.dst ≠ some t) → a.tmps.getD t undef = a0.tmps.getD t undef
theorem KeepsT.put {ops : Array Oper} {a0 a : Act} (K : KeepsT ops a0 a) {o : Oper} (ho : o ∈ ops.toList) (v : Value) (ds : List Deferred) : KeepsT ops a0 (({ a with defers := ds } : Act).put o.dst v) := fun t ht => by
  rw [← K t ht]
  cases hd : o.dst with
  | none => rfl
  | some u =>
    have : u ≠ t := fun hc => ht o ho (by rw [hd, hc])
    simp [Act.put, Array.getD_eq_getD_getElem?, Array.getElem?_setIfInBounds_ne this]
theorem any_tmps {F : Fence} {n : Nat} {md : Region.Mode} {ops : Array Oper} {Q Q' : Exit → Act → World → Prop} {a0 : Act} (hQ : ∀ ex a' w', Q ex a' w' → (ex ≠ .outgrown → KeepsT ops a0 a') → Q' ex a' w') : ∀ (fuel : Nat) (listed : Array Bool) (a : Act) (w : World), KeepsT ops a0 a →
    wpAnyIn F n P md ops Q fuel listed a w → wpAnyIn F n P md ops Q' fuel listed a w := by
  intro fuel
  have lets : LetsOut Q → LetsOut Q' := fun ⟨a, w, h⟩ => ⟨a, w, hQ _ _ _ h fun hc => absurd rfl hc⟩
  induction fuel with
  | zero => intro listed a w hd h; exact ⟨h.1, hQ _ _ _ h.2 fun _ => hd⟩
  | succ fuel ih =>
    intro listed a w hd h
    refine ⟨fun hr => hQ _ _ _ (h.1 hr) fun _ => hd, fun i hi => ?_⟩
    have h2 := h.2 i hi
    unfold wpOpIn at h2 ⊢
    cases ho : ops[i]? with
    | none => rw [ho] at h2; exact ih _ _ _ hd h2
    | some o =>
      rw [ho] at h2
      simp only at h2 ⊢
      have hmem : o ∈ ops.toList := by
        rw [← Array.getElem?_toList] at ho
        exact List.mem_of_getElem? ho
      have hp : ∀ v, KeepsT ops a0 (a.put o.dst v) := fun v => hd.put hmem v a.defers
      split
      · rename_i hw
        rw [if_pos hw] at h2
        unfold Oper.wpIn at *
        refine ⟨h2.1, ?_⟩
        have h3 := h2.2
        generalize (o.semAt F.round a.eval).run P w = r at h3 ⊢
        cases r with
        | ok x w' =>
          cases x <;> simp only [Oper.uponIn] at h3 ⊢ <;>
            first
              | exact ih _ _ _ (hp _) h3
              | exact ih _ _ _ (hd.put hmem _ _) h3
              | exact ⟨h3.1, CallsIn.mono h3.2 (fun e w'' he => by cases e <;> first | exact ih _ _ _ (hp _) he | exact hQ _ _ _ he (fun _ => hd) | exact lets he)⟩
              | exact ⟨h3.1, RowsIn.mono h3.2 (fun _ _ he => ih _ _ _ (hp _) he)⟩
              | exact ⟨h3.1, RoundIn.mono h3.2 (fun e w'' he => by cases e <;> first | exact ih _ _ _ (hp _) he | exact hQ _ _ _ he (fun _ => hd) | exact lets he)⟩
              | exact h3.elim
        | halt x w' => cases x <;> simp only [Oper.uponIn] at h3 ⊢ <;> first | exact hQ _ _ _ h3 (fun _ => hd) | exact h3
      · rename_i hw
        rw [if_neg hw] at h2
        exact ⟨h2.1, ih _ _ _ (hp _) h2.2⟩
theorem draw_pan_out {ord : Nat → Array Oper → Bool} (K : Ok P C ord) {N f : Nat} {ops : Array Oper} (hd : dstsOk N ops = true) (hord : ordOk C f ops = true) (hok : panOk ops = true) {k : Nat} (HC : CallsAt P C ord k) {r0 : Option Nat} {B : Nat}
    {e : Env} {h : Heap} {v : AV} {e' : Env} {h' : Heap} (hf : opsF C k f ops (sched ops true) e h = some (.pan v, e', h'))
    {s : Sim} {w : World} {a : Act} (hN : a.tmps.size = N) (hdf : Dues B s w a.defers) (R : Rel s h w) (G : GG C ord s h w) (H : EnvRel s h w e a.tmps) :
    wpAnyIn (Fr r0) 0 P .any ops (OutOk B s h w N (.pan v) (e'.outside ops) h') ops.size (Array.replicate ops.size false) a w := by
  refine any_tmps (a0 := a) (fun ex a1 w1 hq hk => ?_) _ _ _ _ (fun _ _ => rfl) (draw_pan K hd hord hok HC (r0 := r0) (B := B) hf hN hdf R G H)
  obtain ⟨s1, k1, k2, k3, k4, k5⟩ := hq
  cases ex <;> first | exact k5.elim | skip
  refine ⟨s1, k1, k2, k3, k4, k5.1, fun t => ?_⟩
  rcases get_outside ops t e' with hdst | hget
  · rw [get_outside_dst ops t hdst]; exact .junk _
  · by_cases hdst : ∃ o ∈ ops.toList, o.dst = some t
    · rw [get_outside_dst ops t hdst]; exact .junk _
    · have hno : ∀ o ∈ ops.toList, o.dst ≠ some t := fun o ho hc => hdst ⟨o, ho, hc⟩
      have hsc : ∀ o ∈ sched ops true, o.dst ≠ some t := fun o ho => hno o (by
        obtain ⟨p, hp⟩ := List.mem_iff_getElem?.1 ho
        obtain ⟨i, _, hi⟩ := sched_at hp
        exact List.mem_iff_getElem?.2 ⟨i, by simpa using hi⟩)
      rw [hget, opsF_keep _ _ hf hsc, hk (by simp) t hno]
      exact (H t).ext R.apart k1
end
end Go.Rv
namespace Go.Rv
open Go.ChangeMaps (setBlock)
section
variable {P : Program} {C : Cfg} {s : Sim} {h : Heap} {w : World}
def Sim.fix (s : Sim) (g : Fixed) : Sim := { s with good := g }
theorem Rel.fix (R : Rel s h w) (g : Fixed) (hg : g.good = s.good.good) (hp : ∀ o b es, s.μ o = some b → h[o]? = some (.iter 2 es) → ∀ x, s.good.pin b x → g.pin b x) : Rel (s.fix g) h w where
  inj := R.inj
  obj o b hb := by
    obtain ⟨x, hx, hr⟩ := R.obj o b hb
    refine ⟨x, hx, ?_⟩
    cases x with
    | cells cs gn =>
      obtain ⟨bc, el, k1, k2, k3⟩ := hr
      exact ⟨bc, el, k1, k2, fun i c hi => let ⟨v, h1, h2⟩ := k3 i c hi; ⟨v, h1, h2.regood g⟩⟩
    | map es =>
      obtain ⟨es0, hp0, en, cl, k1, k2, k3, k4⟩ := hr
      exact ⟨es0, hp0, en, cl, k1, k2, k3, fun i e hi => let ⟨m, h1, h2, h3⟩ := k4 i e hi; ⟨m, h1, h2.regood g, h3.regood g⟩⟩
    | loop r =>
      obtain ⟨rec, k1, k2, k3, k4⟩ := hr
      exact ⟨rec, k1, k2, fun t => (k3 t).regood g, by show g.good _ _ _ _ _; rw [hg]; exact k4⟩
    | iter k es =>
      obtain ⟨bm, since, seen, last, en, cl, k1, k2, k3, k4, k5⟩ := hr
      refine ⟨bm, since, seen, last, en, cl, k1, k2, k3, fun hk => ?_, fun hk => ?_⟩
      · obtain ⟨q1, q2, q3, q4, q5, es0, hp0, q6⟩ := k4 hk
        exact ⟨q1, q2, q3, q4, q5, es0, hp0, fun i e hi => let ⟨m, hm, h6, h7⟩ := q6 i e hi; ⟨m, hm, h6.regood g, h7.regood g⟩⟩
      · subst hk
        obtain ⟨q1, q2, q3, q4⟩ := k5 rfl
        exact ⟨hp o b es hb hx _ q1, q2, q3, fun e he => let ⟨m, hm, h6, h7, h8⟩ := q4 e he; ⟨m, hm, h6, h7.regood g, h8.regood g⟩⟩
  apart := R.apart
  imm := R.imm
theorem Ext.fix {g : Fixed} {s' : Sim} {h' : Heap} {w' : World} (E : Ext (s.fix g) h w s' h' w') : Ext s h w (s'.fix s.good) h' w' where
  size := E.size
  far := E.far
  shape := E.shape
  imm := E.imm
  gen := E.gen
  same := E.same
  kind := E.kind
  own := E.own
  os := E.os
  tape := E.tape
  output := E.output
  kindL := E.kindL
  good := rfl
  old := E.old
  kept := E.kept
  immOld := E.immOld
theorem iter_write (R : Rel s h w) {o r k k' bm since last : Nat} {seen : Array Nat} {es es' : List (AV × AV)} {en : Array MapEntry} {cl : Nat} {w' : World} (hb : s.μ o = some r) (ho : h[o]? = some (.iter k es)) (hI : s.I bm) (hbm : w.heap[bm]? = some (.map en cl))
    (W : Wrote w w' r) (hr : w'.heap[r]? = some (.mapIter (some bm) since seen last)) (hk0 : k' ≠ 0)
    (hk2 : k' = 2 → s.good.pin r (.mapIter (some bm) since seen last) ∧ last = cl ∧ MapKept.Stamped en cl ∧ ∀ e ∈ es', ∃ m ∈ en.toList, seen.back? = some m.born ∧ VR s h w e.1 m.key ∧ VR s h w e.2 m.val) :
    Ext s h w s (h.set o (.iter k' es')) w' ∧ Rel s (h.set o (.iter k' es')) w' := by
  have hlt := (List.getElem?_eq_some_iff.1 ho).1
  have E : Ext s h w s (h.set o (.iter k' es')) w' := by
    refine ⟨⟨W.size, fun k hk hn => W.far k hk (fun e => hn o (e ▸ hb)), W.shape, fun _ h => h, fun k g0 hg0 => ?_, fun k g0 _ _ => ⟨fun _ h => h, ?_⟩, fun k hk _ => ?_, fun k c hc => .inl ⟨k, hc⟩, W.os, W.tape, W.output, fun k hk => ?_, rfl⟩, fun k c _ hc => ⟨c, hc⟩, fun k _ hn => ?_, fun _ _ h => .inl h⟩
    · rw [genOf_set (g := g0)]
      by_cases e : o = k
      · subst e
        have : g0 = 0 := by simp [genOf, ho] at hg0; omega
        exact ⟨0, by simp [hlt], by omega⟩
      · exact ⟨g0, by simp [e, hg0], Nat.le_refl _⟩
    · by_cases e : o = k
      · subst e
        unfold lenOf
        rw [ho, List.getElem?_set_self hlt]
      · exact lenOf_set e
    · by_cases e : o = k
      · subst e; simp [isMap, ho] at hk
      · rw [isMap_set e]; exact hk
    · by_cases e : o = k
      · subst e; simp [isLoop, ho] at hk
      · rw [isLoop_set e]; exact hk
    · have : o ≠ k := by rintro rfl; rw [hb] at hn; cases hn
      exact List.getElem?_set_ne this
  have hbm' : w'.heap[bm]? = some (.map en cl) := (W.far bm (R.imm bm hI) (fun e => R.apart o r hb (e ▸ hI))).trans hbm
  refine ⟨E, R.inj, fun k c hk => ?_, R.apart, fun c hI => Nat.lt_of_lt_of_le (R.imm c hI) W.size⟩
  by_cases e : k = o
  · subst e
    rw [hb] at hk; injection hk with hk; subst hk
    refine ⟨.iter k' es', by rw [List.getElem?_set_self hlt], bm, since, seen, last, en, cl, hr, hI, hbm', fun h0 => absurd h0 hk0, fun h2 => ?_⟩
    obtain ⟨q1, q2, q3, q4⟩ := hk2 h2
    exact ⟨q1, q2, q3, fun e he => let ⟨m, hm, h6, h7, h8⟩ := q4 e he; ⟨m, hm, h6, h7.ext R.apart E, h8.ext R.apart E⟩⟩
  · obtain ⟨x, hx, hr'⟩ := R.obj k c hk
    have hne : c ≠ r := fun e' => e (R.inj k o c hk (e' ▸ hb))
    exact ⟨x, by rw [List.getElem?_set_ne (Ne.symm e)]; exact hx, hr'.ext R.apart E (W.far c (R.lt hk) hne)⟩
theorem wrote_refl (w : World) (r : Nat) : Wrote w w r := ⟨Nat.le_refl _, fun _ _ _ => rfl, fun _ _ h => h, rfl, rfl, rfl⟩
theorem wrote_iter {w1 : World} (h1 : w1 = w ∨ w1 = w.drew) {r : Nat} {m : Option Nat} {since last : Nat} {seen : Array Nat} (hr : w.heap[r]? = some (.mapIter m since seen last)) (x : Obj) : Wrote w (setBlock w1 r x) r ∧ (setBlock w1 r x).heap[r]? = some x := by
  have hh : w1.heap = w.heap := by rcases h1 with rfl | rfl <;> rfl
  have hlt := (Array.getElem?_eq_some_iff.1 hr).1
  have far : ∀ k, k ≠ r → (setBlock w1 r x).heap[k]? = w.heap[k]? := fun k hk => by
    show (w1.heap.setIfInBounds r x)[k]? = _
    rw [Array.getElem?_setIfInBounds_ne (Ne.symm hk), hh]
  refine ⟨⟨by simp [setBlock, hh], fun k _ hk => far k hk, fun k y hy => ?_, by rcases h1 with rfl | rfl <;> rfl, by rcases h1 with rfl | rfl <;> rfl, by rcases h1 with rfl | rfl <;> rfl⟩, ?_⟩
  · by_cases e : k = r
    · subst e
      simp [World.shape?, hr] at hy
    · rw [shape_of (far k e)]; exact hy
  · show (w1.heap.setIfInBounds r x)[r]? = _
    rw [Array.getElem?_setIfInBounds_self_of_lt (by rw [hh]; exact hlt)]
def Sim.drop (s : Sim) (o : Nat) : Sim := { s with μ := fun k => if k = o then none else s.μ k }
theorem VR.drop {o : Nat} (hlt : o < h.length) (hg : genOf h o = some 0) {x : AV} {v : Value} (H : VR s h w x v) : VR (s.drop o) (h.set o (.cells [] 1)) w x v := by
  have hg1 : genOf (h.set o (.cells [] 1)) o = some 1 := by rw [genOf_set (g := 0)]; simp [hlt]
  have hgk : ∀ {k g}, o ≠ k → genOf h k = some g → genOf (h.set o (.cells [] 1)) k = some g := fun {k g} e hk => by rw [genOf_set (g := 0)]; simp [e, hk]
  have h0 : ∀ {g}, genOf h o = some g → g = 0 := fun hk => by rw [hg] at hk; injection hk with hk; exact hk.symm
  induction H with
  | bool b => exact .bool b
  | int k n => exact .int k n
  | str l => exact .str l
  | nilPtr => exact .nilPtr
  | nilMap => exact .nilMap
  | nilFunc => exact .nilFunc
  | nilIface => exact .nilIface
  | junk v => exact .junk v
  | ptr k off g b hk hb =>
    by_cases e : o = k
    · subst e; exact .ptrOld _ _ _ 1 _ hg1 (by rw [h0 hk]; omega)
    · exact .ptr _ _ _ b (hgk e hk) (by simp [Sim.drop, Ne.symm e, hb])
  | ptrOld k off g g1 a hk hl =>
    by_cases e : o = k
    · subst e; have := h0 hk; omega
    · exact .ptrOld _ _ _ g1 a (hgk e hk) hl
  | ref cs b off f hI hc _ ih => exact .ref cs b off f hI hc ih
  | lstNil z => exact .lstNil z
  | lstEmpty z A => exact .lstEmpty z A
  | lst xs z r b off c f hI hr hle hz hc _ ih => exact .lst xs z r b off c f hI hr hle hz hc ih
  | msl k off len z g cap b c el n off' hoff hk hb hle hcap hnone hsh hn =>
    by_cases e : o = k
    · subst e; exact .mslOld _ _ _ _ _ _ 1 _ _ _ hg1 (by rw [h0 hk]; omega)
    · exact .msl _ off len z g cap b c el n off' hoff (hgk e hk) (by simp [Sim.drop, Ne.symm e, hb]) hle hcap (fun hc => by rw [lenOf_set e]; exact hnone hc) hsh hn
  | mslOld k off len z g cap g1 a n c hk hl =>
    by_cases e : o = k
    · subst e; have := h0 hk; omega
    · exact .mslOld _ off len z g cap g1 a n c (hgk e hk) hl
  | clo f cs vs hl _ ih => exact .clo f cs vs hl ih
  | bnd f cs vs hl _ ih => exact .bnd f cs vs hl ih
  | map k b hk hb =>
    by_cases e : o = k
    · subst e; exact .mapOld _ 1 _ hg1 (by omega)
    · exact .map _ b (by rw [isMap_set e]; exact hk) (by simp [Sim.drop, Ne.symm e, hb])
  | mapOld k g b hk hl =>
    by_cases e : o = k
    · subst e; have := h0 hk; omega
    · exact .mapOld _ g b (hgk e hk) hl
  | yld k b hk hb =>
    by_cases e : o = k
    · subst e; exact .yldOld _ 1 _ hg1 (by omega)
    · exact .yld _ b (by rw [isLoop_set e]; exact hk) (by simp [Sim.drop, Ne.symm e, hb])
  | yldOld k g b hk hl =>
    by_cases e : o = k
    · subst e; have := h0 hk; omega
    · exact .yldOld _ g b (hgk e hk) hl
  | iface t x v hx ih => exact .iface t x v ih
  | agg cs vs hl _ ih => exact .agg cs vs hl ih
  | tup cs vs hl _ ih => exact .tup cs vs hl ih
theorem drop_new {s1 : Sim} {h1 : Heap} {w1 : World} (E : Ext s h w s1 h1 w1) (R1 : Rel s1 h1 w1) {o : Nat} (ho : h.length ≤ o) (hlt : o < h1.length) (hg : genOf h1 o = some 0) :
    Ext s h w (s1.drop o) (h1.set o (.cells [] 1)) w1 ∧ Rel (s1.drop o) (h1.set o (.cells [] 1)) w1 := by
  have hgk : ∀ {k}, k < h.length → genOf (h1.set o (.cells [] 1)) k = genOf h1 k := fun {k} hk => by rw [genOf_set (g := 0)]; simp [show o ≠ k by omega]
  have hμ : ∀ {k}, k < h.length → (s1.drop o).μ k = s1.μ k := fun {k} hk => by simp [Sim.drop, show k ≠ o by omega]
  have hμ' : ∀ {k b}, (s1.drop o).μ k = some b → k ≠ o ∧ s1.μ k = some b := fun {k b} hk => by
    simp only [Sim.drop] at hk
    split at hk
    · cases hk
    · exact ⟨by assumption, hk⟩
  refine ⟨⟨⟨E.size, E.far, E.shape, E.imm, fun k g hk => ?_, fun k g hk hk' => ?_, fun k hk hk' => ?_, fun k b hk => E.own k b (hμ' hk).2, E.os, E.tape, E.output, fun k hk => ?_, E.good⟩, fun k b hk hb => E.old k b hk (hμ' hb).2, fun k hk hn => ?_, E.immOld⟩, ?_⟩
  · rw [hgk (genOf_lt hk)]; exact E.gen k g hk
  · have hl := genOf_lt hk
    rw [hgk hl] at hk'
    obtain ⟨a1, a2⟩ := E.same k g hk hk'
    exact ⟨fun b hb => by rw [hμ hl]; exact a1 b hb, by rw [lenOf_set (by omega)]; exact a2⟩
  · have hl := isMap_lt hk
    rw [hgk hl] at hk'
    rw [isMap_set (by omega)]; exact E.kind k hk hk'
  · have hl := isLoop_lt hk
    rw [isLoop_set (by omega)]; exact E.kindL k hk
  · rw [List.getElem?_set_ne (by omega)]; exact E.kept k hk hn
  · refine ⟨fun k k' b hk hk' => R1.inj k k' b (hμ' hk).2 (hμ' hk').2, fun k b hk => ?_, fun k b hk hI => R1.apart k b (hμ' hk).2 hI, R1.imm⟩
    obtain ⟨hne, hk⟩ := hμ' hk
    obtain ⟨x, hx, hr⟩ := R1.obj k b hk
    refine ⟨x, by rw [List.getElem?_set_ne (Ne.symm hne)]; exact hx, ?_⟩
    cases x with
    | cells cs gn =>
      obtain ⟨bc, el, k1, k2, k3⟩ := hr
      exact ⟨bc, el, k1, k2, fun i c hi => let ⟨v, h1, h2⟩ := k3 i c hi; ⟨v, h1, h2.drop hlt hg⟩⟩
    | map es =>
      obtain ⟨es0, hp0, en, cl, k1, k2, k3, k4⟩ := hr
      exact ⟨es0, hp0, en, cl, k1, k2, k3, fun i e hi => let ⟨m, h1, h2, h3⟩ := k4 i e hi; ⟨m, h1, h2.drop hlt hg, h3.drop hlt hg⟩⟩
    | loop r =>
      obtain ⟨rec, k1, k2, k3, k4⟩ := hr
      exact ⟨rec, k1, k2, fun t => (k3 t).drop hlt hg, k4⟩
    | iter kk es =>
      obtain ⟨bm, since, seen, last, en, cl, k1, k2, k3, k4, k5⟩ := hr
      refine ⟨bm, since, seen, last, en, cl, k1, k2, k3, fun hk => ?_, fun hk => ?_⟩
      · obtain ⟨q1, q2, q3, q4, q5, es0, hp0, q6⟩ := k4 hk
        exact ⟨q1, q2, q3, q4, q5, es0, hp0, fun i e hi => let ⟨m, hm, h6, h7⟩ := q6 i e hi; ⟨m, hm, h6.drop hlt hg, h7.drop hlt hg⟩⟩
      · obtain ⟨q1, q2, q3, q4⟩ := k5 hk
        exact ⟨q1, q2, q3, fun e he => let ⟨m, hm, h6, h7, h8⟩ := q4 e he; ⟨m, hm, h6, h7.drop hlt hg, h8.drop hlt hg⟩⟩
theorem belowBs_mem {n : Nat} : ∀ {l : List AV}, belowBs n l = true → ∀ x ∈ l, belowB n x = true
  | [], _, x, hx => by simp at hx
  | a :: l, h, x, hx => by
    simp only [belowBs, Bool.and_eq_true] at h
    rcases List.mem_cons.1 hx with rfl | hx
    · exact h.1
    · exact belowBs_mem h.2 x hx
theorem belowBs_at {n : Nat} {l : List AV} (h : belowBs n l = true) {i : Nat} {x : AV} (hi : l[i]? = some x) : belowB n x = true := belowBs_mem h x (List.mem_of_getElem? hi)
theorem keptB_get {n : Nat} : ∀ {e : Env}, (e.all fun p => belowB n p.2) = true → ∀ t, belowB n (e.get t) = true
  | [], _, t => by rw [Env.get_nil]; rfl
  | (k, v) :: r, h, t => by
    simp only [List.all_cons, Bool.and_eq_true] at h
    rw [Env.get_cons]
    split
    · exact h.1
    · exact keptB_get h.2 t
def Sim.cutTo (s : Sim) (n : Nat) : Sim := { s with μ := fun k => if k < n then s.μ k else none }
theorem below_cells {n : Nat} {x : AV} (h : belowB n x = true) : belowBs n x.cells = true := by
  cases x <;> simp_all [AV.cells, belowB, belowBs]
theorem VR.cutTo {n : Nat} {x : AV} {v : Value} (H : VR s h w x v) : belowB n x = true → VR (s.cutTo n) (h.take n) w x v := by
  have hg : ∀ {k}, k < n → genOf (h.take n) k = genOf h k := fun {k} hk => by unfold genOf; rw [List.getElem?_take_of_lt hk]
  have hm : ∀ {k}, k < n → isMap (h.take n) k = isMap h k := fun {k} hk => by unfold isMap; rw [List.getElem?_take_of_lt hk]
  have hl : ∀ {k}, k < n → isLoop (h.take n) k = isLoop h k := fun {k} hk => by unfold isLoop; rw [List.getElem?_take_of_lt hk]
  have hn : ∀ {k}, k < n → lenOf (h.take n) k = lenOf h k := fun {k} hk => by unfold lenOf; rw [List.getElem?_take_of_lt hk]
  have hb : ∀ {k}, Nat.blt k n = true → k < n := fun h => by simpa [Nat.blt_eq] using h
  induction H with
  | bool b => intro _; exact .bool b
  | int k n => intro _; exact .int k n
  | str l => intro _; exact .str l
  | nilPtr => intro _; exact .nilPtr
  | nilMap => intro _; exact .nilMap
  | nilFunc => intro _; exact .nilFunc
  | nilIface => intro _; exact .nilIface
  | junk v => intro _; exact .junk v
  | ptr k off g b k1 k2 => intro hk; have hk := hb hk; exact .ptr _ _ _ b (by rw [hg hk]; exact k1) (by simp [Sim.cutTo, hk, k2])
  | ptrOld k off g g1 a k1 k2 => intro hk; have hk := hb hk; exact .ptrOld _ _ _ g1 a (by rw [hg hk]; exact k1) k2
  | ref cs b off f hI hc _ ih => intro hk; simp only [belowB] at hk; exact .ref cs b off f hI hc fun i c hi => ih i c hi (belowBs_at hk hi)
  | lstNil z => intro _; exact .lstNil z
  | lstEmpty z A => intro _; exact .lstEmpty z A
  | lst xs z r b off c f hI hr hle hz hc _ ih => intro hk; simp only [belowB] at hk; exact .lst xs z r b off c f hI hr hle hz hc fun i j x y hi hj => ih i j x y hi hj (belowBs_at (below_cells (belowBs_at hk hi)) hj)
  | msl k off len z g cap b c el m off' hoff k1 k2 hle hcap hnone hsh hm' => intro hk; have hk := hb hk; exact .msl _ off len z g cap b c el m off' hoff (by rw [hg hk]; exact k1) (by simp [Sim.cutTo, hk, k2]) hle hcap (fun hc => by rw [hn hk]; exact hnone hc) hsh hm'
  | mslOld k off len z g cap g1 a m c k1 k2 => intro hk; have hk := hb hk; exact .mslOld _ off len z g cap g1 a m c (by rw [hg hk]; exact k1) k2
  | clo f cs vs hl' _ ih => intro hk; simp only [belowB] at hk; exact .clo f cs vs hl' fun i c hi => ih i c hi (belowBs_at hk hi)
  | bnd f cs vs hl' _ ih => intro hk; simp only [belowB] at hk; exact .bnd f cs vs hl' fun i c hi => ih i c hi (belowBs_at hk hi)
  | map k b k1 k2 => intro hk; have hk := hb hk; exact .map _ b (by rw [hm hk]; exact k1) (by simp [Sim.cutTo, hk, k2])
  | mapOld k g b k1 k2 => intro hk; have hk := hb hk; exact .mapOld _ g b (by rw [hg hk]; exact k1) k2
  | yld k b k1 k2 => intro hk; have hk := hb hk; exact .yld _ b (by rw [hl hk]; exact k1) (by simp [Sim.cutTo, hk, k2])
  | yldOld k g b k1 k2 => intro hk; have hk := hb hk; exact .yldOld _ g b (by rw [hg hk]; exact k1) k2
  | iface t x v hx ih => intro hk; simp only [belowB] at hk; exact .iface t x v (ih hk)
  | agg cs vs hl' _ ih => intro hk; simp only [belowB] at hk; exact .agg cs vs hl' fun i c hi => ih i c hi (belowBs_at hk hi)
  | tup cs vs hl' _ ih => intro hk; simp only [belowB] at hk; exact .tup cs vs hl' fun i c hi => ih i c hi (belowBs_at hk hi)
theorem cut_to {s1 : Sim} {h1 : Heap} {w1 : World} (E : Ext s h w s1 h1 w1) (R1 : Rel s1 h1 w1) {n : Nat} (hn : h.length ≤ n) (hb : (h1.take n).all (belowO n) = true) :
    Ext s h w (s1.cutTo n) (h1.take n) w1 ∧ Rel (s1.cutTo n) (h1.take n) w1 := by
  have hget : ∀ {k}, k < n → (h1.take n)[k]? = h1[k]? := fun {k} hk => List.getElem?_take_of_lt hk
  have hμ : ∀ {k}, k < h.length → (s1.cutTo n).μ k = s1.μ k := fun {k} hk => by simp [Sim.cutTo, show k < n by omega]
  have hμ' : ∀ {k b}, (s1.cutTo n).μ k = some b → k < n ∧ s1.μ k = some b := fun {k b} hk => by
    simp only [Sim.cutTo] at hk
    split at hk
    · exact ⟨by assumption, hk⟩
    · cases hk
  refine ⟨⟨⟨E.size, E.far, E.shape, E.imm, fun k g hk => ?_, fun k g hk hk' => ?_, fun k hk hk' => ?_, fun k b hk => E.own k b (hμ' hk).2, E.os, E.tape, E.output, fun k hk => ?_, E.good⟩, fun k b hk hb => E.old k b hk (hμ' hb).2, fun k hk hn' => ?_, E.immOld⟩, ?_⟩
  · obtain ⟨g', h2, h3⟩ := E.gen k g hk
    exact ⟨g', by have := genOf_lt hk; unfold genOf at *; rw [hget (by omega)]; exact h2, h3⟩
  · have hl := genOf_lt hk
    obtain ⟨a1, a2⟩ := E.same k g hk (by unfold genOf at *; rw [hget (by omega)] at hk'; exact hk')
    exact ⟨fun b hb => by rw [hμ hl]; exact a1 b hb, by unfold lenOf at *; rw [hget (by omega)]; exact a2⟩
  · have hl := isMap_lt hk
    have := E.kind k hk (by unfold genOf at *; rw [hget (by omega)] at hk'; exact hk')
    unfold isMap at *; rw [hget (by omega)]; exact this
  · have hl := isLoop_lt hk
    have := E.kindL k hk
    unfold isLoop at *; rw [hget (by omega)]; exact this
  · rw [hget (by omega)]; exact E.kept k hk hn'
  · refine ⟨fun k k' b hk hk' => R1.inj k k' b (hμ' hk).2 (hμ' hk').2, fun k b hk => ?_, fun k b hk hI => R1.apart k b (hμ' hk).2 hI, R1.imm⟩
    obtain ⟨hkn, hk⟩ := hμ' hk
    obtain ⟨x, hx, hr⟩ := R1.obj k b hk
    have hx' : (h1.take n)[k]? = some x := by rw [hget hkn]; exact hx
    have hbo := List.all_eq_true.1 hb x (List.mem_of_getElem? hx')
    refine ⟨x, hx', ?_⟩
    cases x with
    | cells cs gn =>
      obtain ⟨bc, el, k1, k2, k3⟩ := hr
      exact ⟨bc, el, k1, k2, fun i c hi => let ⟨v, h1, h2⟩ := k3 i c hi; ⟨v, h1, h2.cutTo (belowBs_at hbo hi)⟩⟩
    | map es =>
      obtain ⟨es0, hp0, en, cl, k1, k2, k3, k4⟩ := hr
      refine ⟨es0, hp0, en, cl, k1, k2, k3, fun i e hi => ?_⟩
      have he := List.all_eq_true.1 hbo e (hp0.1.mem_iff.1 (List.mem_of_getElem? hi))
      simp only [Bool.and_eq_true] at he
      obtain ⟨m, h1, h2, h3⟩ := k4 i e hi
      exact ⟨m, h1, h2.cutTo he.1, h3.cutTo he.2⟩
    | loop r => simp [belowO] at hbo
    | iter kk es =>
      have hee : ∀ e ∈ es, belowB n e.1 = true ∧ belowB n e.2 = true := fun e he => by
        have := List.all_eq_true.1 hbo e he
        simpa only [Bool.and_eq_true] using this
      obtain ⟨bm, since, seen, last, en, cl, k1, k2, k3, k4, k5⟩ := hr
      refine ⟨bm, since, seen, last, en, cl, k1, k2, k3, fun hk => ?_, fun hk => ?_⟩
      · obtain ⟨q1, q2, q3, q4, q5, es0, hp0, q6⟩ := k4 hk
        exact ⟨q1, q2, q3, q4, q5, es0, hp0, fun i e hi => let ⟨m, hm, h6, h7⟩ := q6 i e hi; ⟨m, hm, h6.cutTo (hee e (hp0.1.mem_iff.1 (List.mem_of_getElem? hi))).1, h7.cutTo (hee e (hp0.1.mem_iff.1 (List.mem_of_getElem? hi))).2⟩⟩
      · obtain ⟨q1, q2, q3, q4⟩ := k5 hk
        exact ⟨q1, q2, q3, fun e he => let ⟨m, hm, h6, h7, h8⟩ := q4 e he; ⟨m, hm, h6, h7.cutTo (hee e he).1, h8.cutTo (hee e he).2⟩⟩
end
end Go.Rv
