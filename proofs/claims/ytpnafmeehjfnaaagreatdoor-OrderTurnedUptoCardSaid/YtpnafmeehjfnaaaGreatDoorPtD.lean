/-
  Ranges over maps: the iterator's making, the entry at which it is.
-/
import Derived.Test.YtpnafmeehjfnaaaGreatDoorPtC
import Derived.Maps.RangeRun
import Derived.LoopNIn
import Derived.RangeFuncRecord
import Derived.OrdersIn
set_option linter.unusedSectionVars false
set_option linter.unusedSimpArgs false
set_option linter.unusedVariables false
set_option linter.defProp false
namespace Go.Rv
section
variable {P : Program} {C : Cfg} {s : Sim} {h : Heap} {w : World}
def Sim.give (s : Sim) (o b : Nat) : Sim := { s with μ := fun k => if k = o then none else s.μ k, I := fun c => s.I c ∨ c = b }
theorem give_map (R : Rel s h w) {o b : Nat} {es : List (AV × AV)} (hb : s.μ o = some b) (ho : h[o]? = some (.map es)) : Ext s h w (s.give o b) (h.set o (.cells [] 1)) w ∧ Rel (s.give o b) (h.set o (.cells [] 1)) w := by
  have hlt := (List.getElem?_eq_some_iff.1 ho).1
  have E : Ext s h w (s.give o b) (h.set o (.cells [] 1)) w := by
    refine ⟨⟨Nat.le_refl _, fun _ _ _ => rfl, fun _ _ h => h, fun _ h => .inl h, fun k g0 hg0 => ?_, fun k g0 hg0 hg1 => ?_, fun k hk hg => ?_, fun k c hc => ?_, rfl, rfl, rfl, fun k hk => ?_, rfl⟩, fun k c _ hc => ?_, fun k _ hn => ?_, fun c _ hc => hc.elim .inl fun e => .inr ⟨o, e ▸ hb⟩⟩
    · rw [genOf_set (g := g0)]
      by_cases e : o = k
      · subst e
        have : g0 = 0 := by simp [genOf, ho] at hg0; omega
        exact ⟨1, by simp [hlt], by omega⟩
      · exact ⟨g0, by simp [e, hg0], Nat.le_refl _⟩
    · by_cases e : o = k
      · subst e
        have : g0 = 0 := by simp [genOf, ho] at hg0; omega
        rw [genOf_set (g := g0)] at hg1
        simp [hlt] at hg1
        omega
      · exact ⟨fun c hc => by simp [Sim.give, Ne.symm e, hc], lenOf_set e⟩
    · by_cases e : o = k
      · subst e
        rw [genOf_set (g := 0)] at hg
        simp [hlt] at hg
      · rw [isMap_set e]; exact hk
    · simp only [Sim.give] at hc
      split at hc
      · cases hc
      · exact .inl ⟨k, hc⟩
    · by_cases e : o = k
      · subst e; simp [isLoop, ho] at hk
      · rw [isLoop_set e]; exact hk
    · simp only [Sim.give] at hc
      split at hc
      · cases hc
      · exact ⟨c, hc⟩
    · have : o ≠ k := by rintro rfl; rw [hb] at hn; cases hn
      exact List.getElem?_set_ne this
  refine ⟨E, fun k k' c hk hk' => ?_, fun k c hk => ?_, fun k c hk hI => ?_, fun c hI => ?_⟩
  · simp only [Sim.give] at hk hk'
    split at hk <;> split at hk' <;> first | cases hk | cases hk' | exact R.inj k k' c hk hk'
  · simp only [Sim.give] at hk
    split at hk
    · cases hk
    · rename_i e
      obtain ⟨x, hx, hr⟩ := R.obj k c hk
      exact ⟨x, by rw [List.getElem?_set_ne (Ne.symm e)]; exact hx, hr.ext R.apart E rfl⟩
  · simp only [Sim.give] at hk hI
    split at hk
    · cases hk
    · rename_i e
      rcases hI with hI | hI
      · exact R.apart k c hk hI
      · subst hI; exact e (R.inj k o c hk hb)
  · rcases hI with hI | hI
    · exact R.imm c hI
    · subst hI; exact R.lt hb
theorem range_rel (TT : TabOk P C) (R : Rel s h w) {t o : Nat} {ti : TI} {kt et : Nat} (hti : C.ty t = some ti) (htd : ti.td = .map kt et) {u : Value} (hv : VR s h w (.map o) u) {es : List (AV × AV)} (ho : h.mapAt o = some es) :
    HRun P s h w (Instr.range t u) (.ptr h.length 0 0) (h.set o (.cells [] 1) ++ [.iter 0 es]) := by
  obtain ⟨d, hd, hok⟩ := (TT t ti hti).und
  rw [htd] at hok
  cases d <;> simp only [TD.ok] at hok
  obtain ⟨b, en, cl, es0, rfl, hb, hheap, hp0, hE, hS⟩ := map_obj R ho hv
  obtain ⟨E1, R1⟩ := give_map R hb (mapAt_some ho)
  have hl : (h.set o (.cells [] 1)).length = h.length := by simp
  have E2 := Ext.new R1 (.mapIter (some b) cl #[] cl) (.iter 0 es)
  have R2 := Rel.new R1 (.mapIter (some b) cl #[] cl) (.iter 0 es) ⟨b, cl, #[], cl, en, cl, heap_alloc_at w _, .inr rfl, (heap_alloc_lt w _ (R.lt hb)).trans hheap, fun _ => ⟨rfl, rfl, rfl, by rw [← hp0.1.length_eq]; simpa using hE.1, hS, es0, hp0, fun i e hi => by
    obtain ⟨m, hm, h1, h2⟩ := hE.2 i e hi
    exact ⟨m, by simpa using hm, (h1.ext R.apart E1).ext R1.apart E2, (h2.ext R.apart E1).ext R1.apart E2⟩⟩, fun hk => by cases hk⟩
  rw [hl] at E2 R2
  refine ⟨_, _, _, run_range_map w t _ _ b en cl hd hheap, E1.trans E2, R2, .ptr h.length 0 0 w.heap.size ?_ (by simp [Sim.add])⟩
  have := genOf_new (h := h.set o (.cells [] 1)) (x := .iter 0 es)
  rw [hl] at this
  exact this
theorem iterAt_some {o k : Nat} {es : List (AV × AV)} (ho : h.iterAt o = some (k, es)) : h[o]? = some (.iter k es) := by
  unfold Heap.iterAt at ho
  split at ho
  · rename_i k' es' hx
    simp only [Option.some.injEq, Prod.mk.injEq] at ho
    obtain ⟨rfl, rfl⟩ := ho
    exact hx
  · cases ho
theorem iter_obj (R : Rel s h w) {o k : Nat} {es : List (AV × AV)} (ho : h.iterAt o = some (k, es)) {u : Value} (hv : VR s h w (.ptr o 0 0) u) : ∃ b, u = .pointer (some ⟨b, 0, none⟩) ∧ s.μ o = some b ∧ ORel s h w b (.iter k es) := by
  cases hv with
  | ptr _ _ _ b hg hb =>
    obtain ⟨x, hx, hr⟩ := R.obj o b hb
    rw [iterAt_some ho] at hx
    injection hx with hx; subst hx
    exact ⟨b, rfl, hb, hr⟩
  | ptrOld _ _ _ g' a hg hlt => simp [genOf, iterAt_some ho] at hg; omega
theorem entry_rel (R : Rel s h w) {o : Nat} {p : AV × AV} (ho : h.iterAt o = some (2, [p])) {u : Value} (hv : VR s h w (.ptr o 0 0) u) : HRun P s h w (Instr.entry u) (.tup [p.1, p.2]) h := by
  obtain ⟨b, rfl, hb, bm, since, seen, last, en, cl, h1, h2, h3, _, h5⟩ := iter_obj R ho hv
  obtain ⟨hp, hl, hS, hes⟩ := h5 rfl
  obtain ⟨m, hm, hback, hk, hx⟩ := hes p (by simp)
  refine ⟨s, w, .tuple #[m.key, m.val], ?_, Ext.refl _ _ _, R, .tup _ _ rfl fun i c hi => ?_⟩
  · have hf : en.find? (·.born == m.born) = some m := by rw [← Array.find?_toList]; exact find_born m en.toList hS.2.1 hm
    subst hl
    simp only [Instr.entry, getObj, Sem.run_bind, Sem.run, h1, h3, Result.andThen, hback, bne_self_eq_false, Bool.false_eq_true, if_false, hf]
    rfl
  · match i, hi with
    | 0, hi => simp at hi; subst hi; exact hk
    | 1, hi => simp at hi; subst hi; exact hx
    | i + 2, hi => simp at hi
end
theorem VR.regood {s : Sim} {h : Heap} {w : World} (g : Fixed) {x : AV} {v : Value} (H : VR s h w x v) : VR { s with good := g } h w x v := by
  induction H with
  | bool b => exact .bool b
  | int k n => exact .int k n
  | str l => exact .str l
  | nilPtr => exact .nilPtr
  | nilMap => exact .nilMap
  | nilFunc => exact .nilFunc
  | nilIface => exact .nilIface
  | junk v => exact .junk v
  | ptr o off g b hg hb => exact .ptr o off g b hg hb
  | ptrOld o off g g1 a hg hlt => exact .ptrOld o off g g1 a hg hlt
  | ref cs b off f hI hc _ ih => exact .ref cs b off f hI hc ih
  | lstNil z => exact .lstNil z
  | lstEmpty z A => exact .lstEmpty z A
  | lst xs z r b off c f hI hr hle hz hc _ ih => exact .lst xs z r b off c f hI hr hle hz hc ih
  | msl o off len z g cap b c el n off' hoff hg hb hle hcap hnone hsh hn => exact .msl o off len z g cap b c el n off' hoff hg hb hle hcap hnone hsh hn
  | mslOld o off len z g cap g1 a n c hg hlt => exact .mslOld o off len z g cap g1 a n c hg hlt
  | clo f cs vs hl _ ih => exact .clo f cs vs hl ih
  | bnd f cs vs hl _ ih => exact .bnd f cs vs hl ih
  | map o b hg hb => exact .map o b hg hb
  | mapOld o g b hg hb => exact .mapOld o g b hg hb
  | yld o b hg hb => exact .yld o b hg hb
  | yldOld o g b hg hb => exact .yldOld o g b hg hb
  | iface t x v hx ih => exact .iface t x v ih
  | agg cs vs hl _ ih => exact .agg cs vs hl ih
  | tup cs vs hl _ ih => exact .tup cs vs hl ih
theorem VRs.regood {s : Sim} {h : Heap} {w : World} (g : Fixed) {xs : List AV} {vs : List Value} (H : VRs s h w xs vs) : VRs { s with good := g } h w xs vs :=
  ⟨H.1, fun i c hi => let ⟨v, h1, h2⟩ := H.2 i c hi; ⟨v, h1, h2.regood g⟩⟩
end Go.Rv
namespace Go.Rv
section
variable {P : Program} {C : Cfg} {s : Sim} {h : Heap} {w : World}
def GlobOk (C : Cfg) : Prop := ∀ g v, C.glob g = some v → v ≠ .junk
theorem evalA_ne (K : GlobOk C) {e : Env} {x : Operand} {v : AV} (hv : evalA C e x = some v) : v ≠ .junk := by
  cases x with
  | tmp t =>
    simp only [evalA] at hv
    split at hv
    · cases hv
    · rename_i hne
      injection hv with hv
      subst hv
      exact hne
  | const c =>
    simp only [evalA] at hv
    rintro rfl
    unfold ofValue at hv
    repeat' split at hv
    all_goals cases hv
  | global g => exact K g v hv
  | func f =>
    simp only [evalA, Option.some.injEq] at hv
    subst hv
    simp
def ORun (P : Program) (s : Sim) (h : Heap) (w : World) (m : Sem Next) (v : AV) (h' : Heap) : Prop :=
  ∃ s' w' n u, m.run P w = .ok n w' ∧ (n = .value u ∨ (n = .skip ∧ u = undef)) ∧ Ext s h w s' h' w' ∧ Rel s' h' w' ∧ VR s' h' w' v u
theorem HRun.op {m : Sem Value} {v : AV} {h' : Heap} (H : HRun P s h w m v h') : ORun P s h w (do pure (Next.value (← m))) v h' := by
  obtain ⟨s', w', x, h1, h2, h3, h4⟩ := H
  exact ⟨s', w', .value x, x, by simp [h1], .inl rfl, h2, h3, h4⟩
theorem PRun.op (R : Rel s h w) {m : Sem Value} {v : AV} (H : PRun P s h w m v) : ORun P s h w (do pure (Next.value (← m))) v h := (H.heap R).op
theorem VR.op (R : Rel s h w) {v : AV} {u : Value} (H : VR s h w v u) : ORun P s h w (pure (Next.value u)) v h :=
  ⟨s, w, .value u, u, rfl, .inl rfl, Ext.refl _ _ _, R, H⟩
theorem mapO_get {α β : Type} {f : α → Option β} : ∀ {l : List α} {r : List β}, mapO f l = some r → r.length = l.length ∧ ∀ (i : Nat) a, l[i]? = some a → ∃ b, r[i]? = some b ∧ f a = some b
  | [], r, hr => by
    simp only [mapO, Option.some.injEq] at hr
    subst hr
    exact ⟨rfl, fun i a hi => by simp at hi⟩
  | x :: l, r, hr => by
    simp only [mapO, Option.bind_eq_bind] at hr
    replace hr := Option.bind_eq_some_iff.1 hr
    obtain ⟨b, hb, hr⟩ := hr
    replace hr := Option.bind_eq_some_iff.1 hr
    obtain ⟨bs, hbs, hr⟩ := hr
    injection hr with hr; subst hr
    obtain ⟨h1, h2⟩ := mapO_get hbs
    refine ⟨by simp [h1], fun i a hi => ?_⟩
    cases i with
    | zero =>
      simp only [List.getElem?_cons_zero, Option.some.injEq] at hi
      subst hi
      exact ⟨b, rfl, hb⟩
    | succ i => simpa using h2 i a (by simpa using hi)
theorem args_rel (G : Glob C s h w) {e : Env} {a : Act} (H : EnvRel s h w e a.tmps) {l : List Operand} {vs : List AV} (hv : mapO (evalA C e) l = some vs) : VRs s h w vs (l.map a.eval) := by
  obtain ⟨h1, h2⟩ := mapO_get hv
  refine ⟨by simp [h1], fun i c hi => ?_⟩
  have hlt : i < l.length := by rw [← h1]; exact (List.getElem?_eq_some_iff.1 hi).1
  obtain ⟨b, hb, hfb⟩ := h2 i l[i] (List.getElem?_eq_getElem hlt)
  rw [hi] at hb
  injection hb with hb; subst hb
  exact ⟨a.eval l[i], by simp [hlt], evalA_rel G H hfb⟩
theorem parts_rel (K : GlobOk C) (G : Glob C s h w) {e : Env} {a : Act} (H : EnvRel s h w e a.tmps) {l : Array (Nat × Operand)} {ps : List (Nat × AV)}
    (hv : mapO (fun (p : Nat × Operand) => (evalA C e p.2).map (p.1, ·)) l.toList = some ps) :
    ps.length = (l.map fun (i, x) => (i, a.eval x)).size ∧ ∀ (i : Nat) p q, ps[i]? = some p → (l.map fun (i, x) => (i, a.eval x)).toList[i]? = some q → p.1 = q.1 ∧ VR s h w p.2 q.2 ∧ p.2 ≠ .junk := by
  obtain ⟨h1, h2⟩ := mapO_get hv
  refine ⟨by simp [h1], fun i p q hp hq => ?_⟩
  have hlt : i < l.toList.length := by rw [← h1]; exact (List.getElem?_eq_some_iff.1 hp).1
  obtain ⟨b, hb, hfb⟩ := h2 i l.toList[i] (List.getElem?_eq_getElem hlt)
  rw [hp] at hb
  injection hb with hb; subst hb
  obtain ⟨v, hv, rfl⟩ := Option.map_eq_some_iff.1 hfb
  have hq' : q = (l.toList[i].1, a.eval l.toList[i].2) := by
    rw [Array.toList_map, List.getElem?_map, List.getElem?_eq_getElem hlt] at hq
    simp at hq
    exact hq.symm
  subst hq'
  exact ⟨rfl, evalA_rel G H hv, evalA_ne K hv⟩
theorem nilIA_rel (TT : TabOk P C) {op : BinOp} {t : Nat} {x y : Operand} (hn : nilI y = true) {v z : AV} {a : Act} (hv : VR s h w v (a.eval x)) (hz : nilIA C op t v = some z) :
    PRun P s h w (do eqGuard op t x y (a.eval x) (a.eval y); binOp op t (a.eval x) (a.eval y)) z := by
  have hy : y = .const .nilIface := by
    unfold nilI at hn
    split at hn
    · rfl
    · cases hn
  subst hy
  simp only [nilIA, Option.bind_eq_bind] at hz
  obtain ⟨ti, hti, hz⟩ := Option.bind_eq_some_iff.1 hz
  obtain ⟨d, hd, hok⟩ := (TT t ti hti).und
  generalize ti.td = td at hz hok
  generalize a.eval x = u at hv
  have he : a.eval (.const .nilIface) = .nilIface := rfl
  rw [he]
  have heq : ∀ (n : Nat) (u : Value) (b : Bool), (u = .nilIface ∧ b = true ∨ (∃ t v, u = .iface t v) ∧ b = false) → (∃ ms, d = .interface ms) → (Op.equalIn (n + 1) t u .nilIface).run P w = .ok b w := by
    rintro n u b (⟨rfl, rfl⟩ | ⟨⟨t', v', rfl⟩, rfl⟩) ⟨ms, rfl⟩ <;> simp only [Op.equalIn, Sem.run_bind, run_und hd, Result.andThen_ok] <;> rfl
  have hE : ∀ (u : Value) (b : Bool), (u = .nilIface ∧ b = true ∨ (∃ t v, u = .iface t v) ∧ b = false) → (∃ ms, d = .interface ms) → (Op.equal t u .nilIface).run P w = .ok b w := fun u b h1 h2 => heq 9999 u b h1 h2
  have hG : ∀ (u : Value), (u = .nilIface ∨ ∃ t v, u = .iface t v) → (eqGuard op t x (.const .nilIface) u .nilIface).run P w = .ok () w := by
    rintro u (rfl | ⟨t', v', rfl⟩) <;> cases op <;> first | rfl | (cases x <;> rfl)
  have hB : ∀ u : Value, (u = .nilIface ∨ ∃ t v, u = .iface t v) → binOp .eql t u .nilIface = (do pure (.bool (← Op.equal t u .nilIface))) ∧ binOp .neq t u .nilIface = (do pure (.bool (!(← Op.equal t u .nilIface)))) := by
    rintro u (rfl | ⟨t', v', rfl⟩) <;> exact ⟨rfl, rfl⟩
  have fin : ∀ (b : Bool), (u = .nilIface ∧ b = true ∨ (∃ t v, u = .iface t v) ∧ b = false) → (∃ ms, d = .interface ms) →
      (op = .eql → PRun P s h w (do eqGuard op t x (.const .nilIface) u .nilIface; binOp op t u .nilIface) (.bool b)) ∧ (op = .neq → PRun P s h w (do eqGuard op t x (.const .nilIface) u .nilIface; binOp op t u .nilIface) (.bool !b)) := by
    intro b h1 h2
    have h3 : u = .nilIface ∨ ∃ t v, u = .iface t v := by rcases h1 with ⟨h, _⟩ | ⟨h, _⟩ <;> simp [h]
    have e := hE u b h1 h2
    refine ⟨fun ho => ⟨.bool b, ?_, .bool b⟩, fun ho => ⟨.bool !b, ?_, .bool !b⟩⟩
    · subst ho
      simp only [Sem.run_bind, hG u h3, Result.andThen_ok, (hB u h3).1, e, Sem.run_pure]
    · subst ho
      simp only [Sem.run_bind, hG u h3, Result.andThen_ok, (hB u h3).2, e, Sem.run_pure]
  have hif : td = .iface → ∃ ms, d = .interface ms := by
    rintro rfl
    cases d <;> simp only [TD.ok] at hok
    exact ⟨_, rfl⟩
  split at hz <;> first | (cases hz; done) | skip
  · simp only [Option.some.injEq] at hz
    subst hz
    cases hv
    exact (fin true (.inl ⟨rfl, rfl⟩) (hif rfl)).1 rfl
  · simp only [Option.some.injEq] at hz
    subst hz
    cases hv
    exact (fin false (.inr ⟨⟨_, _, rfl⟩, rfl⟩) (hif rfl)).1 rfl
  · simp only [Option.some.injEq] at hz
    subst hz
    cases hv
    exact (fin true (.inl ⟨rfl, rfl⟩) (hif rfl)).2 rfl
  · simp only [Option.some.injEq] at hz
    subst hz
    cases hv
    exact (fin false (.inr ⟨⟨_, _, rfl⟩, rfl⟩) (hif rfl)).2 rfl
theorem op_sound (TT : TabOk P C) (K : GlobOk C) (R : Rel s h w) (G : Glob C s h w) {f : Nat} {e : Env} {a : Act} (H : EnvRel s h w e a.tmps) {o : Oper} {v : AV} {h' : Heap} (hv : opA C f e h o = some (v, h')) :
    ORun P s h w (execOp a.eval o) v h' := by
  have ev : ∀ {x : Operand} {v : AV}, evalA C e x = some v → VR s h w v (a.eval x) := fun hx => evalA_rel G H hx
  have ob : ∀ {lo : Option Operand} {x : Option AV}, optA C e lo = some x → VRo s h w x (lo.map a.eval) := by
    intro lo x hx
    cases lo with
    | none => simp only [optA, Option.some.injEq] at hx; subst hx; trivial
    | some l =>
      obtain ⟨y, hy, rfl⟩ := Option.map_eq_some_iff.1 hx
      exact ev hy
  unfold opA at hv
  simp only [Option.bind_eq_bind] at hv
  unfold execOp
  generalize ho : o.op = op at hv
  cases op <;> (try simp only [reduceCtorEq] at hv)
  case move x =>
    replace hv := Option.bind_eq_some_iff.1 hv
    obtain ⟨y, hy, hv⟩ := hv
    simp only [Option.some.injEq, Prod.mk.injEq] at hv
    obtain ⟨rfl, rfl⟩ := hv
    exact (ev hy).op R
  case assign x =>
    replace hv := Option.bind_eq_some_iff.1 hv
    obtain ⟨y, hy, hv⟩ := hv
    simp only [Option.some.injEq, Prod.mk.injEq] at hv
    obtain ⟨rfl, rfl⟩ := hv
    exact (ev hy).op R
  case pick c x y =>
    replace hv := Option.bind_eq_some_iff.1 hv
    obtain ⟨t, ht, hv⟩ := hv
    have hc := ev ht
    split at hv
    all_goals (try (cases hv; done))
    all_goals
      replace hv := Option.bind_eq_some_iff.1 hv
      obtain ⟨z, hz, hv⟩ := hv
      simp only [Option.some.injEq, Prod.mk.injEq] at hv
      obtain ⟨rfl, rfl⟩ := hv
      generalize hce : a.eval c = ce at hc
      cases hc
      have hzr := ev hz
      exact ⟨s, w, .value _, _, by simp [hce, asBool], .inl rfl, Ext.refl _ _ _, R, hzr⟩
  case alloc t =>
    replace hv := Option.bind_eq_some_iff.1 hv
    obtain ⟨ti, hti, hv⟩ := hv
    split at hv
    · simp only [Option.some.injEq, Prod.mk.injEq] at hv
      obtain ⟨rfl, rfl⟩ := hv
      exact (alloc_rel TT R hti).op
    · cases hv
  case box t x =>
    replace hv := Option.bind_eq_some_iff.1 hv
    obtain ⟨ti, hti, hv⟩ := hv
    replace hv := Option.bind_eq_some_iff.1 hv
    obtain ⟨y, hy, hv⟩ := hv
    split at hv
    · split at hv
      · simp only [Option.some.injEq, Prod.mk.injEq] at hv
        obtain ⟨rfl, rfl⟩ := hv
        exact (boxImm_rel R t (ev hy) (evalA_ne K hy)).op
      · simp only [Option.some.injEq, Prod.mk.injEq] at hv
        obtain ⟨rfl, rfl⟩ := hv
        exact (box_rel R t (ev hy) (evalA_ne K hy)).op
    · cases hv
  case build t ps =>
    replace hv := Option.bind_eq_some_iff.1 hv
    obtain ⟨qs, hqs, hv⟩ := hv
    replace hv := Option.bind_eq_some_iff.1 hv
    obtain ⟨y, hy, hv⟩ := hv
    simp only [Option.some.injEq, Prod.mk.injEq] at hv
    obtain ⟨rfl, rfl⟩ := hv
    obtain ⟨h1, h2⟩ := parts_rel K G H hqs
    exact (build_rel TT h1 h2 hy).op R
  case buildSlice t len ps =>
    replace hv := Option.bind_eq_some_iff.1 hv
    obtain ⟨qs, hqs, hv⟩ := hv
    replace hv := Option.bind_eq_some_iff.1 hv
    obtain ⟨ti, hti, hv⟩ := hv
    obtain ⟨h1, h2⟩ := parts_rel K G H hqs
    generalize htd : ti.td = td at hv
    cases td <;> simp only [reduceCtorEq] at hv
    case slice el =>
      replace hv := Option.bind_eq_some_iff.1 hv
      obtain ⟨te, hte, hv⟩ := hv
      split at hv
      · cases hv
      rename_i hc
      simp only [Bool.or_eq_true, bne_iff_ne, ne_eq, decide_eq_true_eq, not_or, Decidable.not_not, Nat.not_lt] at hc
      replace hv := Option.bind_eq_some_iff.1 hv
      obtain ⟨cs, hcs, hv⟩ := hv
      obtain ⟨k1, k2⟩ := buildSlice_rel TT R hti htd hte hc.1 hc.2 h1 h2 hcs
      split at hv
      · simp only [Option.some.injEq, Prod.mk.injEq] at hv
        obtain ⟨rfl, rfl⟩ := hv
        exact k1.op
      · simp only [Option.some.injEq, Prod.mk.injEq] at hv
        obtain ⟨rfl, rfl⟩ := hv
        exact k2.op
  case load t x =>
    replace hv := Option.bind_eq_some_iff.1 hv
    obtain ⟨y, hy, hv⟩ := hv
    split at hv
    · cases hv
    replace hv := Option.bind_eq_some_iff.1 hv
    obtain ⟨z, hz, hv⟩ := hv
    simp only [Option.some.injEq, Prod.mk.injEq] at hv
    obtain ⟨rfl, rfl⟩ := hv
    unfold loadA at hz
    simp only [Option.bind_eq_bind] at hz
    replace hz := Option.bind_eq_some_iff.1 hz
    obtain ⟨ti, hti, hz⟩ := hz
    replace hz := Option.bind_eq_some_iff.1 hz
    obtain ⟨cs, hcs, hz⟩ := hz
    exact PRun.op R (load_rel R (TT t ti hti) (ev hy) hcs hz)
  case store t x y =>
    replace hv := Option.bind_eq_some_iff.1 hv
    obtain ⟨x', hx, hv⟩ := hv
    replace hv := Option.bind_eq_some_iff.1 hv
    obtain ⟨y', hy, hv⟩ := hv
    replace hv := Option.bind_eq_some_iff.1 hv
    obtain ⟨z, hz, hv⟩ := hv
    simp only [Option.some.injEq, Prod.mk.injEq] at hv
    obtain ⟨rfl, rfl⟩ := hv
    obtain ⟨w', h1, h2, h3⟩ := store_rel TT R (ev hx) (ev hy) hz
    exact ⟨s, w', .skip, undef, by simp [h1], .inr ⟨rfl, rfl⟩, h2, h3, .tup [] #[] rfl fun i c hi => by simp at hi⟩
  case nilCheck x =>
    replace hv := Option.bind_eq_some_iff.1 hv
    obtain ⟨y, hy, hv⟩ := hv
    have hyr := ev hy
    generalize hax : a.eval x = ax at hyr
    cases y <;> simp only [reduceCtorEq] at hv
    case ptr o off g =>
      split at hv
      · rename_i hl
        simp only [Option.some.injEq, Prod.mk.injEq] at hv
        obtain ⟨rfl, rfl⟩ := hv
        have hyr' := hyr
        cases hyr with
        | ptr _ _ _ b h1 h2 => exact ⟨s, w, .value _, _, by simp only [hax]; rfl, .inl rfl, Ext.refl _ _ _, R, hyr'⟩
        | ptrOld _ _ _ g' a h1 h2 => have := genOf_live hl; rw [this] at h1; injection h1; omega
      · cases hv
    case ref cs =>
      simp only [Option.some.injEq, Prod.mk.injEq] at hv
      obtain ⟨rfl, rfl⟩ := hv
      have hyr' := hyr
      cases hyr
      exact ⟨s, w, .value _, _, by simp only [hax]; rfl, .inl rfl, Ext.refl _ _ _, R, hyr'⟩
    case clo g cs =>
      simp only [Option.some.injEq, Prod.mk.injEq] at hv
      obtain ⟨rfl, rfl⟩ := hv
      have hyr' := hyr
      cases hyr
      exact ⟨s, w, .value _, _, by simp only [hax]; rfl, .inl rfl, Ext.refl _ _ _, R, hyr'⟩
    case bnd g cs =>
      simp only [Option.some.injEq, Prod.mk.injEq] at hv
      obtain ⟨rfl, rfl⟩ := hv
      have hyr' := hyr
      cases hyr
      exact ⟨s, w, .value _, _, by simp only [hax]; rfl, .inl rfl, Ext.refl _ _ _, R, hyr'⟩
    case yld l =>
      simp only [Option.some.injEq, Prod.mk.injEq] at hv
      obtain ⟨rfl, rfl⟩ := hv
      have hyr' := hyr
      cases hyr <;>
      exact ⟨s, w, .value _, _, by simp only [hax]; rfl, .inl rfl, Ext.refl _ _ _, R, hyr'⟩
  case binOp bop t x y t' =>
    replace hv := Option.bind_eq_some_iff.1 hv
    obtain ⟨x', hx, hv⟩ := hv
    split at hv
    · rename_i hn
      replace hv := Option.bind_eq_some_iff.1 hv
      obtain ⟨z, hz, hv⟩ := hv
      simp only [Option.some.injEq, Prod.mk.injEq] at hv
      obtain ⟨rfl, rfl⟩ := hv
      exact PRun.op R (nilIA_rel TT hn (ev hx) hz)
    replace hv := Option.bind_eq_some_iff.1 hv
    obtain ⟨y', hy, hv⟩ := hv
    replace hv := Option.bind_eq_some_iff.1 hv
    obtain ⟨z, hz, hv⟩ := hv
    simp only [Option.some.injEq, Prod.mk.injEq] at hv
    obtain ⟨rfl, rfl⟩ := hv
    exact PRun.op R (bin_rel TT (fun hf hu hv hp => (flat_equal (TT.flat _ _ hf) hu hv hp w).1) (ev hx) (ev hy) hz)
  case unOp uop t x =>
    replace hv := Option.bind_eq_some_iff.1 hv
    obtain ⟨x', hx, hv⟩ := hv
    replace hv := Option.bind_eq_some_iff.1 hv
    obtain ⟨z, hz, hv⟩ := hv
    simp only [Option.some.injEq, Prod.mk.injEq] at hv
    obtain ⟨rfl, rfl⟩ := hv
    exact PRun.op R (un_rel (ev hx) hz)
  case convert src dst x =>
    replace hv := Option.bind_eq_some_iff.1 hv
    obtain ⟨x', hx, hv⟩ := hv
    replace hv := Option.bind_eq_some_iff.1 hv
    obtain ⟨z, hz, hv⟩ := hv
    simp only [Option.some.injEq, Prod.mk.injEq] at hv
    obtain ⟨rfl, rfl⟩ := hv
    exact (convH_rel TT R (ev hx) hz).op
  case makeInterface t x =>
    replace hv := Option.bind_eq_some_iff.1 hv
    obtain ⟨ti, hti, hv⟩ := hv
    obtain ⟨d, hd, hok⟩ := (TT t ti hti).und
    generalize ti.td = td at hok hv
    have hv' : ∃ y, evalA C e x = some y ∧ (AV.iface t y, h) = (v, h') := by
      cases td <;> first | (cases hv; done) | (
        replace hv := Option.bind_eq_some_iff.1 hv
        obtain ⟨y, hy, hv⟩ := hv
        injection hv with hv
        exact ⟨y, hy, hv⟩)
    have hni : td ≠ .iface := by rintro rfl; cases hv
    obtain ⟨y, hy, hv⟩ := hv'
    simp only [Prod.mk.injEq] at hv
    obtain ⟨rfl, rfl⟩ := hv
    refine PRun.op R ⟨.iface t (a.eval x), ?_, .iface t y _ (ev hy)⟩
    simp only [Instr.makeInterface, Sem.run_bind, run_und hd, Result.andThen_ok]
    cases d <;> cases td <;> first | rfl | exact False.elim hok | exact absurd rfl hni
  case typeAssert x xt t ok =>
    cases ok <;> simp only [reduceCtorEq] at hv
    replace hv := Option.bind_eq_some_iff.1 hv
    obtain ⟨ti, hti, hv⟩ := hv
    replace hv := Option.bind_eq_some_iff.1 hv
    obtain ⟨y, hy, hv⟩ := hv
    replace hv := Option.bind_eq_some_iff.1 hv
    obtain ⟨z, hz, hv⟩ := hv
    have hyr := ev hy
    obtain ⟨zu, hzu, hzr⟩ := zero_whole (s := s) (h := h) (w := w) (TT t ti hti) hz
    obtain ⟨d, hd, hok⟩ := (TT t ti hti).und
    generalize hax : a.eval x = u at hyr
    have hni : ∀ ms, d = .interface ms → ti.td = .iface := by
      rintro ms rfl
      generalize ti.td = td at hok
      cases td <;> first | rfl | exact hok.elim
    have two : ∀ {p q : AV} {pu qu : Value}, VR s h w p pu → VR s h w q qu → VR s h w (.tup [p, q]) (.tuple #[pu, qu]) := fun hp hq => .tup _ _ rfl fun i c hi => by
      match i with
      | 0 => simp at hi; subst hi; exact hp
      | 1 => simp at hi; subst hi; exact hq
      | i + 2 => simp at hi
    split at hv <;> first | (cases hv; done) | skip
    · rename_i t' u' hnif
      simp only [Option.some.injEq, Prod.mk.injEq] at hv
      obtain ⟨rfl, rfl⟩ := hv
      cases hyr with
      | iface _ _ uu hr =>
      by_cases ht : t' = t
      · subst ht
        refine PRun.op R ⟨.tuple #[uu, .bool true], ?_, by simpa using two hr (.bool true)⟩
        simp only [hax, Instr.typeAssert, Sem.run_bind, run_und hd, Result.andThen_ok]
        cases d <;> first | exact absurd (hni _ rfl) hnif | rfl | simp
      · refine PRun.op R ⟨.tuple #[zu, .bool false], ?_, by simpa [ht] using two hzr (.bool false)⟩
        simp only [hax, Instr.typeAssert, Sem.run_bind, run_und hd, Result.andThen_ok]
        cases d <;> first | exact absurd (hni _ rfl) hnif | simp [ht, hzu]
    · rename_i hnif
      simp only [Option.some.injEq, Prod.mk.injEq] at hv
      obtain ⟨rfl, rfl⟩ := hv
      cases hyr
      refine PRun.op R ⟨.tuple #[zu, .bool false], ?_, two hzr (.bool false)⟩
      simp only [hax, Instr.typeAssert, Sem.run_bind, run_und hd, Result.andThen_ok]
      cases d <;> first | exact absurd (hni _ rfl) hnif | simp [hzu]
  case makeFunc fn first caps =>
    cases fn <;> simp only [reduceCtorEq] at hv
    case func g =>
      split at hv
      · rename_i hf
        replace hv := Option.bind_eq_some_iff.1 hv
        obtain ⟨cs, hcs, hv⟩ := hv
        simp only [Option.some.injEq, Prod.mk.injEq] at hv
        obtain ⟨rfl, rfl⟩ := hv
        have hfe : first = #[] := by simpa using hf
        have hr := args_rel G H hcs
        refine PRun.op R ⟨.func (.func g) #[] (caps.map a.eval), by simp [Instr.makeFunc, hfe], .clo g cs _ (by have := hr.1; simpa using this) fun i c hi => ?_⟩
        obtain ⟨u, hu, hur⟩ := hr.2 i c hi
        have : (caps.map a.eval)[i]? = some u := by rw [← Array.getElem?_toList, Array.toList_map]; exact hu
        rw [Array.getD_eq_getD_getElem?, this]
        exact hur
      · split at hv
        · rename_i hg
          replace hv := Option.bind_eq_some_iff.1 hv
          obtain ⟨cs, hcs, hv⟩ := hv
          simp only [Option.some.injEq, Prod.mk.injEq] at hv
          obtain ⟨rfl, rfl⟩ := hv
          have hce : caps = #[] := by simpa using hg
          have hr := args_rel G H hcs
          refine PRun.op R ⟨.func (.func g) (first.map a.eval) #[], by simp [Instr.makeFunc, hce], .bnd g cs _ (by have := hr.1; simpa using this) fun i c hi => ?_⟩
          obtain ⟨u, hu, hur⟩ := hr.2 i c hi
          have : (first.map a.eval)[i]? = some u := by rw [← Array.getElem?_toList, Array.toList_map]; exact hu
          rw [Array.getD_eq_getD_getElem?, this]
          exact hur
        · cases hv
  case makeSlice t l c =>
    replace hv := Option.bind_eq_some_iff.1 hv
    obtain ⟨l', hl, hv⟩ := hv
    replace hv := Option.bind_eq_some_iff.1 hv
    obtain ⟨c', hc, hv⟩ := hv
    exact (makeSlice_rel TT R (ev hl) (ev hc) hv).op
  case makeMap t r =>
    cases r <;> simp only [reduceCtorEq] at hv
    replace hv := Option.bind_eq_some_iff.1 hv
    obtain ⟨ti, hti, hv⟩ := hv
    simp only [Option.some.injEq, Prod.mk.injEq] at hv
    obtain ⟨rfl, rfl⟩ := hv
    exact (makeMap_rel R t).op
  case range t x =>
    replace hv := Option.bind_eq_some_iff.1 hv
    obtain ⟨ti, hti, hv⟩ := hv
    replace hv := Option.bind_eq_some_iff.1 hv
    obtain ⟨x', hx, hv⟩ := hv
    split at hv
    all_goals first | cases hv; done | skip
    rename_i o htd
    replace hv := Option.bind_eq_some_iff.1 hv
    obtain ⟨es, hes, hv⟩ := hv
    simp only [Option.some.injEq, Prod.mk.injEq] at hv
    obtain ⟨rfl, rfl⟩ := hv
    exact (range_rel TT R hti htd (ev hx) hes).op
  case entry x =>
    replace hv := Option.bind_eq_some_iff.1 hv
    obtain ⟨x', hx, hv⟩ := hv
    split at hv
    all_goals first | cases hv; done | skip
    rename_i o
    replace hv := Option.bind_eq_some_iff.1 hv
    obtain ⟨⟨q1, q2⟩, hp, hv⟩ := hv
    split at hv
    all_goals first | cases hv; done | skip
    rename_i p heq
    simp only [Prod.mk.injEq] at heq
    obtain ⟨rfl, rfl⟩ := heq
    simp only [Option.some.injEq, Prod.mk.injEq] at hv
    obtain ⟨rfl, rfl⟩ := hv
    exact (entry_rel R hp (ev hx)).op
  case lookup t x k ok =>
    replace hv := Option.bind_eq_some_iff.1 hv
    obtain ⟨x', hx, hv⟩ := hv
    replace hv := Option.bind_eq_some_iff.1 hv
    obtain ⟨k', hk, hv⟩ := hv
    replace hv := Option.bind_eq_some_iff.1 hv
    obtain ⟨z, hz, hv⟩ := hv
    simp only [Option.some.injEq, Prod.mk.injEq] at hv
    obtain ⟨rfl, rfl⟩ := hv
    exact PRun.op R (lookup_rel TT R (ev hx) (ev hk) hz)
  case mapUpdate t m k x =>
    replace hv := Option.bind_eq_some_iff.1 hv
    obtain ⟨m', hm, hv⟩ := hv
    replace hv := Option.bind_eq_some_iff.1 hv
    obtain ⟨k', hk, hv⟩ := hv
    replace hv := Option.bind_eq_some_iff.1 hv
    obtain ⟨x', hx, hv⟩ := hv
    replace hv := Option.bind_eq_some_iff.1 hv
    obtain ⟨z, hz, hv⟩ := hv
    simp only [Option.some.injEq, Prod.mk.injEq] at hv
    obtain ⟨rfl, rfl⟩ := hv
    obtain ⟨w', h1, h2, h3⟩ := update_rel TT R (ev hm) (ev hk) (ev hx) hz
    exact ⟨s, w', .skip, undef, by simp [h1], .inr ⟨rfl, rfl⟩, h2, h3, .tup [] #[] rfl fun i c hi => by simp at hi⟩
  case insert t m k x =>
    replace hv := Option.bind_eq_some_iff.1 hv
    obtain ⟨m', hm, hv⟩ := hv
    replace hv := Option.bind_eq_some_iff.1 hv
    obtain ⟨k', hk, hv⟩ := hv
    replace hv := Option.bind_eq_some_iff.1 hv
    obtain ⟨x', hx, hv⟩ := hv
    replace hv := Option.bind_eq_some_iff.1 hv
    obtain ⟨z, hz, hv⟩ := hv
    simp only [Option.some.injEq, Prod.mk.injEq] at hv
    obtain ⟨rfl, rfl⟩ := hv
    obtain ⟨w', h1, h2, h3⟩ := update_rel TT R (ev hm) (ev hk) (ev hx) hz
    exact ⟨s, w', .skip, undef, by simp [h1], .inr ⟨rfl, rfl⟩, h2, h3, .tup [] #[] rfl fun i c hi => by simp at hi⟩
  case slice t x lo hi mx =>
    replace hv := Option.bind_eq_some_iff.1 hv
    obtain ⟨lo', hlo, hv⟩ := hv
    replace hv := Option.bind_eq_some_iff.1 hv
    obtain ⟨hi', hhi, hv⟩ := hv
    split at hv
    · cases hv
    rename_i hmx
    have hmx' : mx = none := by simpa using hmx
    subst hmx'
    replace hv := Option.bind_eq_some_iff.1 hv
    obtain ⟨x', hx, hv⟩ := hv
    replace hv := Option.bind_eq_some_iff.1 hv
    obtain ⟨z, hz, hv⟩ := hv
    simp only [Option.some.injEq, Prod.mk.injEq] at hv
    obtain ⟨rfl, rfl⟩ := hv
    exact PRun.op R (slice_rel TT R (ev hx) (ob hlo) (ob hhi) hz)
  case fieldAddr t x k =>
    replace hv := Option.bind_eq_some_iff.1 hv
    obtain ⟨x', hx, hv⟩ := hv
    replace hv := Option.bind_eq_some_iff.1 hv
    obtain ⟨z, hz, hv⟩ := hv
    simp only [Option.some.injEq, Prod.mk.injEq] at hv
    obtain ⟨rfl, rfl⟩ := hv
    exact PRun.op R (fieldAddr_rel TT (ev hx) hz)
  case field t x k =>
    replace hv := Option.bind_eq_some_iff.1 hv
    obtain ⟨x', hx, hv⟩ := hv
    replace hv := Option.bind_eq_some_iff.1 hv
    obtain ⟨z, hz, hv⟩ := hv
    simp only [Option.some.injEq, Prod.mk.injEq] at hv
    obtain ⟨rfl, rfl⟩ := hv
    exact PRun.op R (field_rel TT (ev hx) hz)
  case indexAddr t x i =>
    replace hv := Option.bind_eq_some_iff.1 hv
    obtain ⟨x', hx, hv⟩ := hv
    replace hv := Option.bind_eq_some_iff.1 hv
    obtain ⟨i', hi, hv⟩ := hv
    replace hv := Option.bind_eq_some_iff.1 hv
    obtain ⟨z, hz, hv⟩ := hv
    simp only [Option.some.injEq, Prod.mk.injEq] at hv
    obtain ⟨rfl, rfl⟩ := hv
    exact PRun.op R (indexAddr_rel TT (ev hx) (ev hi) hz)
  case index t x i =>
    replace hv := Option.bind_eq_some_iff.1 hv
    obtain ⟨x', hx, hv⟩ := hv
    replace hv := Option.bind_eq_some_iff.1 hv
    obtain ⟨i', hi, hv⟩ := hv
    replace hv := Option.bind_eq_some_iff.1 hv
    obtain ⟨z, hz, hv⟩ := hv
    simp only [Option.some.injEq, Prod.mk.injEq] at hv
    obtain ⟨rfl, rfl⟩ := hv
    exact PRun.op R (index_rel TT (ev hx) (ev hi) hz)
  case extract x i =>
    replace hv := Option.bind_eq_some_iff.1 hv
    obtain ⟨x', hx, hv⟩ := hv
    cases x' <;> simp only [reduceCtorEq] at hv
    case tup vs =>
      replace hv := Option.bind_eq_some_iff.1 hv
      obtain ⟨z, hz, hv⟩ := hv
      simp only [Option.some.injEq, Prod.mk.injEq] at hv
      obtain ⟨rfl, rfl⟩ := hv
      have hxr := ev hx
      generalize hax : a.eval x = ax at hxr
      cases hxr with
      | tup _ us hl hr =>
        have hlt : i < us.size := by rw [← hl]; exact (List.getElem?_eq_some_iff.1 hz).1
        refine PRun.op R ⟨us[i], by simp [Instr.extract, hax, hlt], ?_⟩
        have := hr i z hz
        simpa [hlt] using this
  case call c =>
    obtain ⟨callee, args, argTypes⟩ := c
    cases callee <;> simp only [reduceCtorEq] at hv
    case builtin b =>
      replace hv := Option.bind_eq_some_iff.1 hv
      obtain ⟨vs, hvs, hv⟩ := hv
      have hr := args_rel G H hvs
      have hmap : args.map a.eval = (args.toList.map a.eval).toArray := by apply Array.ext'; simp
      split at hv
      ·
        rename_i x
        obtain ⟨y, hy⟩ : ∃ y, args.toList.map a.eval = [y] := by
          have := hr.1
          simp only [List.length_cons, List.length_nil] at this
          exact List.length_eq_one_iff.1 this.symm
        rw [hy] at hr
        have hxy := hr.tail.1
        replace hv := Option.bind_eq_some_iff.1 hv
        obtain ⟨t, hat, hv⟩ := hv
        replace hv := Option.bind_eq_some_iff.1 hv
        obtain ⟨ti, hti, hv⟩ := hv
        replace hv := Option.bind_eq_some_iff.1 hv
        obtain ⟨n, hn, hv⟩ := hv
        simp only [Option.some.injEq, Prod.mk.injEq] at hv
        obtain ⟨rfl, rfl⟩ := hv
        obtain ⟨d, hd, hok⟩ := (TT t ti hti).und
        refine ⟨s, w, .value (.int .i64 n), _, ?_, .inl rfl, Ext.refl _ _ _, R, .int _ _⟩
        have hres : (Builtin.len_ argTypes o.type #[y]).run P w = .ok (.int .i64 n) w := by
          simp only [Builtin.len_, hat, List.getElem?_toArray, List.getElem?_cons_zero, Sem.run_bind, Result.andThen_ok, run_und hd]
          generalize ti.td = td at hok hn
          cases td <;> cases x <;> simp only [lenA, reduceCtorEq, Option.some.injEq] at hn
          case slice.lst e xs z r =>
            subst hn
            cases d <;> simp only [TD.ok] at hok
            cases hxy <;> rfl
          case slice.msl e o off len sz g cap =>
            split at hn
            · rename_i hl
              injection hn with hn; subst hn
              cases d <;> simp only [TD.ok] at hok
              cases hxy with
              | msl => rfl
              | mslOld _ _ _ _ _ _ g' a n c h1 h2 => have := genOf_live hl; rw [this] at h1; injection h1; omega
            · cases hn
          case str.str l =>
            subst hn
            cases d <;> simp only [TD.ok] at hok
            cases hxy
            simp [ByteArray.size, goInt]
          case map.nilMap =>
            subst hn
            cases d <;> simp only [TD.ok] at hok
            cases hxy
            rfl
          case map.map ol =>
            split at hn
            · rename_i es hes
              injection hn with hn; subst hn
              cases d <;> simp only [TD.ok] at hok
              obtain ⟨b, en, cl, es0, rfl, hb, hh, hp0, hE, hSt⟩ := map_obj R (o := ol) (es := es) (by unfold Heap.mapAt; rw [hes]) hxy
              have := hE.1
              rw [hp0.1.length_eq] at this
              simp only [Sem.run_bind, run_getMap hh, Result.andThen_ok, goInt, Sem.run_pure]
              simp at this
              rw [this]
            · cases hn
        simp only [resolve, hmap, hy, Sem.run_bind, Sem.run_pure, Result.andThen_ok, invoke, builtin, hres]
      ·
        rename_i sv yv
        split at hv
        · rename_i t t' hats
          obtain ⟨us, uy, hy⟩ : ∃ us uy, args.toList.map a.eval = [us, uy] := by
            have := hr.1
            simp only [List.length_cons, List.length_nil] at this
            generalize args.toList.map a.eval = l at this
            match l, this with
            | [us, uy], _ => exact ⟨us, uy, rfl⟩
          rw [hy] at hr
          split at hv
          · have hat : argTypes = #[t, t'] := by apply Array.ext'; simpa using hats
            have key := appendZ_rel TT R hr.tail.1 hr.tail.2.tail.1 hv o.type
            obtain ⟨s', w', x, h1, h2, h3, h4⟩ := key
            refine ⟨s', w', .value x, x, ?_, .inl rfl, h2, h3, h4⟩
            simp only [resolve, hmap, hy, hat, Sem.run_bind, Sem.run_pure, Result.andThen_ok, invoke, builtin]
            rw [show ([us, uy] : List Value).toArray = #[us, uy] from rfl, h1]
            rfl
          rename_i htt
          have htt' : t = t' := by simpa using htt
          subst htt'
          have hat : argTypes = #[t, t] := by apply Array.ext'; simpa using hats
          replace hv := Option.bind_eq_some_iff.1 hv
          obtain ⟨ti, hti, hv⟩ := hv
          obtain ⟨d, hd, hok⟩ := (TT t ti hti).und
          generalize ti.td = td at hok hv
          cases td <;> simp only [reduceCtorEq] at hv
          case slice el =>
            replace hv := Option.bind_eq_some_iff.1 hv
            obtain ⟨te, hte, hv⟩ := hv
            replace hv := Option.bind_eq_some_iff.1 hv
            obtain ⟨ys, hys, hv⟩ := hv
            cases d <;> simp only [TD.ok] at hok
            rw [hok] at hd
            have key := append_rel TT R hd hte hr.tail.1 hr.tail.2.tail.1 hys hv o.type
            obtain ⟨s', w', x, h1, h2, h3, h4⟩ := key
            refine ⟨s', w', .value x, x, ?_, .inl rfl, h2, h3, h4⟩
            simp only [resolve, hmap, hy, hat, Sem.run_bind, Sem.run_pure, Result.andThen_ok, invoke, builtin]
            rw [show ([us, uy] : List Value).toArray = #[us, uy] from rfl, h1]
            rfl
        · cases hv
      ·
        obtain ⟨m, hm, hR⟩ := more_rel TT R hr hv o.type
        obtain ⟨s', w', x, h1, h2, h3, h4⟩ := hR
        refine ⟨s', w', .value x, x, ?_, .inl rfl, h2, h3, h4⟩
        have harr : argTypes.toList.toArray = argTypes := by simp
        rw [harr] at hm
        simp only [resolve, hmap, Sem.run_bind, Sem.run_pure, Result.andThen_ok, invoke, hm, h1]
end
end Go.Rv
namespace Go.Rv
section
variable {P : Program} {C : Cfg} {s s1 : Sim} {h h1 : Heap} {w w1 : World}
def Sim.cut (s : Sim) (n : Nat) : Sim := { μ := fun o => if o < n then s.μ o else none, I := fun b => s.I b ∨ ∃ o, n ≤ o ∧ s.μ o = some b, good := s.good }
theorem genOf_take {o n : Nat} (ho : o < n) : genOf (h1.take n) o = genOf h1 o := by
  unfold genOf; rw [List.getElem?_take_of_lt ho]
theorem lenOf_take {o n : Nat} (ho : o < n) : lenOf (h1.take n) o = lenOf h1 o := by
  unfold lenOf; rw [List.getElem?_take_of_lt ho]
theorem isMap_take {o n : Nat} (ho : o < n) : isMap (h1.take n) o = isMap h1 o := by
  unfold isMap; rw [List.getElem?_take_of_lt ho]
theorem isLoop_take {o n : Nat} (ho : o < n) : isLoop (h1.take n) o = isLoop h1 o := by
  unfold isLoop; rw [List.getElem?_take_of_lt ho]
theorem isLoop_lt {o : Nat} (hm : isLoop h o = true) : o < h.length := genOf_lt (genOf_loop hm)
theorem isMap_lt {o : Nat} (hm : isMap h o = true) : o < h.length := genOf_lt (genOf_map hm)
theorem VR.cut (hh : h1.take h.length = h) {x : AV} {v : Value} (H : VR s h w x v) : ∀ {v' : Value}, VR s1 h1 w1 x v' → VR (s1.cut h.length) h w1 x v' := by
  have hg : ∀ {o}, o < h.length → genOf h o = genOf h1 o := fun {o} ho => by
    conv => lhs; rw [← hh]
    exact genOf_take ho
  have hlen : ∀ {o}, o < h.length → lenOf h o = lenOf h1 o := fun {o} ho => by
    conv => lhs; rw [← hh]
    exact lenOf_take ho
  have hmap : ∀ {o}, o < h.length → isMap h o = isMap h1 o := fun {o} ho => by
    conv => lhs; rw [← hh]
    exact isMap_take ho
  have hloop : ∀ {o}, o < h.length → isLoop h o = isLoop h1 o := fun {o} ho => by
    conv => lhs; rw [← hh]
    exact isLoop_take ho
  have ptr_case : ∀ {o off g : Nat} {v' : Value}, o < h.length → VR s1 h1 w1 (.ptr o off g) v' → VR (s1.cut h.length) h w1 (.ptr o off g) v' := by
    intro o off g v' ho H'
    cases H' with
    | ptr _ _ _ b h1' h2' => exact .ptr _ _ _ b (by rw [hg ho]; exact h1') (by simp [Sim.cut, ho, h2'])
    | ptrOld _ _ _ g' a h1' h2' => exact .ptrOld _ _ _ g' a (by rw [hg ho]; exact h1') h2'
  have map_case : ∀ {o : Nat} {v' : Value}, o < h.length → VR s1 h1 w1 (.map o) v' → VR (s1.cut h.length) h w1 (.map o) v' := by
    intro o v' ho H'
    cases H' with
    | map _ b' k1' k2' => exact .map _ b' (by rw [hmap ho]; exact k1') (by simp [Sim.cut, ho, k2'])
    | mapOld _ g' b' k1' k2' => exact .mapOld _ g' b' (by rw [hg ho]; exact k1') k2'
  have yld_case : ∀ {o : Nat} {v' : Value}, o < h.length → VR s1 h1 w1 (.yld o) v' → VR (s1.cut h.length) h w1 (.yld o) v' := by
    intro o v' ho H'
    cases H' with
    | yld _ b' k1' k2' => exact .yld _ b' (by rw [hloop ho]; exact k1') (by simp [Sim.cut, ho, k2'])
    | yldOld _ g' b' k1' k2' => exact .yldOld _ g' b' (by rw [hg ho]; exact k1') k2'
  have msl_case : ∀ {o off len z g : Nat} {cap : Option Nat} {v' : Value}, o < h.length → VR s1 h1 w1 (.msl o off len z g cap) v' → VR (s1.cut h.length) h w1 (.msl o off len z g cap) v' := by
    intro o off len z g cap v' ho H'
    cases H' with
    | msl _ _ _ _ _ _ b c el n off' k0 k1 k2 k3 k4 k5 k6 k7 => exact .msl _ _ _ _ _ _ b c el n off' k0 (by rw [hg ho]; exact k1) (by simp [Sim.cut, ho, k2]) k3 k4 (fun hc => by rw [hlen ho]; exact k5 hc) k6 k7
    | mslOld _ _ _ _ _ _ g' a n c k1 k2 => exact .mslOld _ _ _ _ _ _ g' a n c (by rw [hg ho]; exact k1) k2
  induction H with
  | bool b => intro v' H'; cases H'; exact .bool _
  | int k n => intro v' H'; cases H'; exact .int _ _
  | str l => intro v' H'; cases H'; exact .str _
  | nilPtr => intro v' H'; cases H'; exact .nilPtr
  | nilMap => intro v' H'; cases H'; exact .nilMap
  | nilFunc => intro v' H'; cases H'; exact .nilFunc
  | nilIface => intro v' H'; cases H'; exact .nilIface
  | junk v => intro v' H'; exact .junk _
  | ptr o off g b k1 k2 => intro v' H'; exact ptr_case (genOf_lt k1) H'
  | ptrOld o off g g' a k1 k2 => intro v' H'; exact ptr_case (genOf_lt k1) H'
  | ref cs b off f hI hc hr ih =>
    intro v' H'
    cases H' with
    | ref _ b' off' f' hI' hc' hr' => exact .ref _ b' off' f' (fun h0 => .inl (hI' h0)) hc' (fun i c hi => ih i c hi (hr' i c hi))
  | lstNil z =>
    intro v' H'
    cases H' with
    | lstNil => exact .lstNil _
    | lst _ _ _ b off c f k1 k2 => exact k2.elim
  | lstEmpty z A =>
    intro v' H'
    cases H' with
    | lstEmpty _ A' => exact .lstEmpty _ A'
    | lst _ _ _ b off c f k1 k2 k3 k4 k5 k6 => exact .lst _ _ _ b off c f (fun h0 => by simp at h0) k2 k3 k4 k5 (fun i j x y hx => by simp at hx)
  | lst xs z r b off c f hI hr hle hz hc hrr ih =>
    intro v' H'
    cases H' with
    | lstNil => exact .lstNil _
    | lstEmpty _ A' => exact .lstEmpty _ A'
    | lst _ _ _ b' off' c' f' k1 k2 k3 k4 k5 k6 => exact .lst _ _ _ b' off' c' f' (fun h0 => .inl (k1 h0)) k2 k3 k4 k5 (fun i j x y hx hy => ih i j x y hx hy (k6 i j x y hx hy))
  | msl o off len z g cap b c el n off' k0 k1 => intro v' H'; exact msl_case (genOf_lt k1) H'
  | mslOld o off len z g cap g' a n c k1 k2 => intro v' H'; exact msl_case (genOf_lt k1) H'
  | clo f cs vs hl hr ih =>
    intro v' H'
    cases H' with
    | clo _ _ vs' hl' hr' => exact .clo _ _ vs' hl' (fun i c hi => ih i c hi (hr' i c hi))
  | bnd f cs vs hl hr ih =>
    intro v' H'
    cases H' with
    | bnd _ _ vs' hl' hr' => exact .bnd _ _ vs' hl' (fun i c hi => ih i c hi (hr' i c hi))
  | map o b k1 k2 =>
    intro v' H'
    have ho := isMap_lt k1
    exact map_case ho H'
  | mapOld o g b k1 k2 => intro v' H'; exact map_case (genOf_lt k1) H'
  | yld o b k1 k2 =>
    intro v' H'
    have ho := isLoop_lt k1
    exact yld_case ho H'
  | yldOld o g b k1 k2 => intro v' H'; exact yld_case (genOf_lt k1) H'
  | iface t x v hx ih =>
    intro v' H'
    cases H' with
    | iface _ _ v'' hx' => exact .iface _ _ _ (ih hx')
  | agg cs vs hl hr ih =>
    intro v' H'
    cases H' with
    | agg _ vs' hl' hr' => exact .agg _ vs' hl' (fun i c hi => ih i c hi (hr' i c hi))
  | tup cs vs hl hr ih =>
    intro v' H'
    cases H' with
    | tup _ vs' hl' hr' => exact .tup _ vs' hl' (fun i c hi => ih i c hi (hr' i c hi))
theorem Ext.cut (E : Ext s h w s1 h1 w1) (hh : h1.take h.length = h) : Ext s h w (s1.cut h.length) h w1 where
  size := E.size
  far := E.far
  shape := E.shape
  imm := fun b hb => .inl (E.imm b hb)
  gen := fun o g hg => ⟨g, hg, Nat.le_refl _⟩
  same := fun o g hg _ => ⟨fun b hb => by
    have ho := genOf_lt hg
    have : genOf h1 o = some g := by rw [← genOf_take (h1 := h1) ho, hh]; exact hg
    simp [Sim.cut, ho, (E.same o g hg this).1 b hb], rfl⟩
  kind := fun _ h _ => h
  own := fun o b hb => by
    simp only [Sim.cut] at hb
    split at hb
    · exact E.own o b hb
    · cases hb
  os := E.os
  tape := E.tape
  output := E.output
  kindL := fun _ h => h
  good := E.good
  old := fun o b ho hb => by
    simp only [Sim.cut, ho, if_true] at hb
    exact E.old o b ho hb
  kept := fun _ _ _ => rfl
  immOld := fun b hb h => by
    rcases h with h | ⟨o, _, ho⟩
    · exact E.immOld b hb h
    · rcases E.own o b ho with h | h
      · exact .inr h
      · omega
theorem Rel.cut (R : Rel s h w) (R1 : Rel s1 h1 w1) (hO : Ext s h w s1 h1 w1) (hh : h1.take h.length = h) : Rel (s1.cut h.length) h w1 where
  inj := fun o o' b h1' h2' => by
    simp only [Sim.cut] at h1' h2'
    split at h1' <;> split at h2' <;> first | exact R1.inj _ _ _ h1' h2' | cases h1' | cases h2'
  obj := fun o b hb => by
    simp only [Sim.cut] at hb
    split at hb
    · rename_i ho
      obtain ⟨x, hx, hr⟩ := R1.obj o b hb
      have hx' : h[o]? = some x := by rw [← hh, List.getElem?_take_of_lt ho]; exact hx
      refine ⟨x, hx', ?_⟩
      obtain ⟨b0, hb0⟩ := hO.old o b ho hb
      obtain ⟨y, hy, hr0⟩ := R.obj o b0 hb0
      rw [hx'] at hy
      injection hy with hy; subst hy
      cases x with
      | cells cs g =>
        obtain ⟨bc, el, k1, k2, k3⟩ := hr
        obtain ⟨_, _, _, _, k3'⟩ := hr0
        refine ⟨bc, el, k1, k2, fun i c hi => ?_⟩
        obtain ⟨v, hv, hvr⟩ := k3 i c hi
        obtain ⟨v0, _, hvr0⟩ := k3' i c hi
        exact ⟨v, hv, hvr0.cut hh hvr⟩
      | map es =>
        obtain ⟨es0, hp0, en, cl, k1, k2, k3⟩ := hr
        obtain ⟨es1, hp1, _, _, _, _, k3'⟩ := hr0
        refine ⟨es0, hp0, en, cl, k1, k2, k3.1, fun i c hi => ?_⟩
        obtain ⟨m, hm, hm1, hm2⟩ := k3.2 i c hi
        obtain ⟨i', hi'⟩ := List.getElem?_of_mem (hp1.1.mem_iff.2 (hp0.1.mem_iff.1 (List.mem_of_getElem? hi)))
        obtain ⟨m0, _, hn1, hn2⟩ := k3'.2 i' c hi'
        exact ⟨m, hm, hn1.cut hh hm1, hn2.cut hh hm2⟩
      | loop r =>
        obtain ⟨rec, k1, k2, k3, k4⟩ := hr
        obtain ⟨_, _, _, k3', _⟩ := hr0
        exact ⟨rec, k1, k2, fun t => (k3' t).cut hh (k3 t), k4⟩
      | iter k es =>
        obtain ⟨bm, since, seen, last, en, cl, k1, k2, k3, k4, k5⟩ := hr
        obtain ⟨_, _, _, _, _, _, _, _, _, k4', k5'⟩ := hr0
        refine ⟨bm, since, seen, last, en, cl, k1, .inl k2, k3, fun hk => ?_, fun hk => ?_⟩
        · obtain ⟨q1, q2, q3, q4, q5, es0, hp0, q6⟩ := k4 hk
          obtain ⟨_, _, _, _, _, es1, hp1, q6'⟩ := k4' hk
          refine ⟨q1, q2, q3, q4, q5, es0, hp0, fun i c hi => ?_⟩
          obtain ⟨m, hm, hm1, hm2⟩ := q6 i c hi
          obtain ⟨i', hi'⟩ := List.getElem?_of_mem (hp1.1.mem_iff.2 (hp0.1.mem_iff.1 (List.mem_of_getElem? hi)))
          obtain ⟨m0, _, hn1, hn2⟩ := q6' i' c hi'
          exact ⟨m, hm, hn1.cut hh hm1, hn2.cut hh hm2⟩
        · obtain ⟨q1, q2, q3, q4⟩ := k5 hk
          obtain ⟨_, _, _, q4'⟩ := k5' hk
          refine ⟨q1, q2, q3, fun e he => ?_⟩
          obtain ⟨m, hm, hm0, hm1, hm2⟩ := q4 e he
          obtain ⟨m0, _, _, hn1, hn2⟩ := q4' e he
          exact ⟨m, hm, hm0, hn1.cut hh hm1, hn2.cut hh hm2⟩
    · cases hb
  apart := fun o b hb hI => by
    simp only [Sim.cut] at hb hI
    split at hb
    · rename_i ho
      rcases hI with hI | ⟨o', ho', hb'⟩
      · exact R1.apart o b hb hI
      · have := R1.inj o o' b hb hb'; omega
    · cases hb
  imm := fun b hI => by
    rcases hI with hI | ⟨o', ho', hb'⟩
    · exact R1.imm b hI
    · exact R1.lt hb'
theorem freeze_cells {n d : Nat} {x x' : AV} (hf : freezeV h1 n d x = some x') : x'.cells.length = x.cells.length ∧ ∀ (j : Nat) y, x.cells[j]? = some y → ∃ y' d', d' ≤ d ∧ x'.cells[j]? = some y' ∧ freezeV h1 n d' y = some y' := by
  cases d with
  | zero => simp [freezeV] at hf
  | succ d =>
    have one : ∀ x' : AV, freezeV h1 n (d + 1) x = some x' → x.cells = [x] → x'.cells = [x'] → x'.cells.length = x.cells.length ∧ ∀ (j : Nat) y, x.cells[j]? = some y → ∃ y' d', d' ≤ d + 1 ∧ x'.cells[j]? = some y' ∧ freezeV h1 n d' y = some y' := by
      intro x' hf h1' h2'
      rw [h1', h2']
      refine ⟨rfl, fun j y hj => ?_⟩
      cases j with
      | zero => simp at hj; subst hj; exact ⟨x', d + 1, Nat.le_refl _, rfl, hf⟩
      | succ j => simp at hj
    have hf0 := hf
    cases x <;> simp only [freezeV] at hf
    case agg cs =>
      obtain ⟨cs', hcs, rfl⟩ := Option.map_eq_some_iff.1 hf
      obtain ⟨k1, k2⟩ := mapO_get hcs
      refine ⟨k1, fun j y hj => ?_⟩
      obtain ⟨b, hb, hfb⟩ := k2 j y hj
      exact ⟨b, d, by omega, hb, hfb⟩
    case ptr o off g =>
      split at hf
      · injection hf with hf; subst hf; exact one _ hf0 rfl rfl
      · simp only [Option.bind_eq_bind] at hf
        obtain ⟨_, _, hf⟩ := Option.bind_eq_some_iff.1 hf
        obtain ⟨_, _, hf⟩ := Option.bind_eq_some_iff.1 hf
        injection hf with hf; subst hf; exact one _ hf0 rfl rfl
    case msl o off len sz g cap =>
      split at hf
      · injection hf with hf; subst hf; exact one _ hf0 rfl rfl
      · simp only [Option.bind_eq_bind] at hf
        obtain ⟨_, _, hf⟩ := Option.bind_eq_some_iff.1 hf
        split at hf
        · obtain ⟨_, _, hf⟩ := Option.bind_eq_some_iff.1 hf
          injection hf with hf; subst hf; exact one _ hf0 rfl rfl
        · cases hf
    case map o =>
      split at hf
      · injection hf with hf; subst hf; exact one _ hf0 rfl rfl
      · cases hf
    case yld l => cases hf
    case ref cs => obtain ⟨cs', hcs, rfl⟩ := Option.map_eq_some_iff.1 hf; exact one _ hf0 rfl rfl
    case tup cs => obtain ⟨cs', hcs, rfl⟩ := Option.map_eq_some_iff.1 hf; exact one _ hf0 rfl rfl
    case clo f cs => obtain ⟨cs', hcs, rfl⟩ := Option.map_eq_some_iff.1 hf; exact one _ hf0 rfl rfl
    case bnd f cs => obtain ⟨cs', hcs, rfl⟩ := Option.map_eq_some_iff.1 hf; exact one _ hf0 rfl rfl
    case lst xs z r => obtain ⟨cs', hcs, rfl⟩ := Option.map_eq_some_iff.1 hf; exact one _ hf0 rfl rfl
    case iface t x => obtain ⟨cs', hcs, rfl⟩ := Option.map_eq_some_iff.1 hf; exact one _ hf0 rfl rfl
    all_goals (injection hf with hf; subst hf; exact one _ hf0 rfl rfl)
theorem freeze_rel (R1 : Rel s1 h1 w1) {n : Nat} (hn : n ≤ h1.length) : ∀ (D : Nat) {d : Nat}, d ≤ D → ∀ {v v' : AV} {u : Value}, freezeV h1 n d v = some v' → VR s1 h1 w1 v u → VR (s1.cut n) (h1.take n) w1 v' u := by
  intro D
  induction D with
  | zero =>
    intro d hd v v' u hf _
    obtain rfl : d = 0 := by omega
    simp [freezeV] at hf
  | succ D ih =>
    intro d hd v v' u hf hv
    cases d with
    | zero => simp [freezeV] at hf
    | succ d =>
      have ih' : ∀ {v v' : AV} {u : Value}, freezeV h1 n d v = some v' → VR s1 h1 w1 v u → VR (s1.cut n) (h1.take n) w1 v' u := fun hf hv => ih (d := d) (by omega) hf hv
      cases v <;> simp only [freezeV] at hf
      case bool b => injection hf with hf; subst hf; cases hv; exact .bool _
      case int k i => injection hf with hf; subst hf; cases hv; exact .int _ _
      case str l => injection hf with hf; subst hf; cases hv; exact .str _
      case nilPtr => injection hf with hf; subst hf; cases hv; exact .nilPtr
      case nilMap => injection hf with hf; subst hf; cases hv; exact .nilMap
      case nilFunc => injection hf with hf; subst hf; cases hv; exact .nilFunc
      case nilIface => injection hf with hf; subst hf; cases hv; exact .nilIface
      case junk => injection hf with hf; subst hf; exact .junk _
      case yld l => cases hf
      case map o =>
        split at hf
        · rename_i ho
          injection hf with hf; subst hf
          cases hv with
          | map _ b k1 k2 => exact .map _ b (by rw [isMap_take ho]; exact k1) (by simp [Sim.cut, ho, k2])
          | mapOld _ g' b k1 k2 => exact .mapOld _ g' b (by rw [genOf_take ho]; exact k1) k2
        · cases hf
      case ptr o off g =>
        split at hf
        · rename_i ho
          injection hf with hf; subst hf
          cases hv with
          | ptr _ _ _ b k1 k2 => exact .ptr _ _ _ b (by rw [genOf_take ho]; exact k1) (by simp [Sim.cut, ho, k2])
          | ptrOld _ _ _ g' a k1 k2 => exact .ptrOld _ _ _ g' a (by rw [genOf_take ho]; exact k1) k2
        · rename_i ho
          simp only [Option.bind_eq_bind] at hf
          replace hf := Option.bind_eq_some_iff.1 hf
          obtain ⟨cs, hcs, hf⟩ := hf
          replace hf := Option.bind_eq_some_iff.1 hf
          obtain ⟨cs', hcs', hf⟩ := hf
          injection hf with hf; subst hf
          obtain ⟨k1, k2⟩ := mapO_get hcs'
          cases hv with
          | ptrOld _ _ _ g' a e1 e2 => have := (genOf_obj hcs).1; rw [this] at e1; injection e1; omega
          | ptr _ _ _ b e1 e2 =>
            have hread := (obj_reads R1 hcs e2).drop off
            have key : ∀ (i : Nat) c', cs'[i]? = some c' → ∃ v, w1.cell? ⟨b, off + i, none⟩ = some v ∧ VR (s1.cut n) (h1.take n) w1 c' v := by
              intro i c' hi
              have hlt : i < (cs.drop off).length := by rw [← k1]; exact (List.getElem?_eq_some_iff.1 hi).1
              obtain ⟨b', hb', hfb⟩ := k2 i _ (List.getElem?_eq_getElem hlt)
              rw [hi] at hb'
              injection hb' with hb'; subst hb'
              obtain ⟨v, hv, hvr⟩ := hread i _ (List.getElem?_eq_getElem hlt)
              exact ⟨v, by simpa using hv, ih' hfb hvr⟩
            refine .ref cs' b off (fun i => (w1.cell? ⟨b, off + i, none⟩).getD undef) (fun _ => .inr ⟨o, by omega, e2⟩) (fun i c hi => ?_) (fun i c hi => ?_)
            · obtain ⟨v, hv, _⟩ := key i c hi
              rw [hv]; rfl
            · obtain ⟨v, hv, hvr⟩ := key i c hi
              rw [hv]; exact hvr
      case msl o off len sz g cap =>
        split at hf
        · rename_i ho
          injection hf with hf; subst hf
          cases hv with
          | msl _ _ _ _ _ _ b c el m off' k0 k1 k2 k3 k4 k5 k6 k7 => exact .msl _ _ _ _ _ _ b c el m off' k0 (by rw [genOf_take ho]; exact k1) (by simp [Sim.cut, ho, k2]) k3 k4 (fun hc => by rw [lenOf_take ho]; exact k5 hc) k6 k7
          | mslOld _ _ _ _ _ _ g' a m c k1 k2 => exact .mslOld _ _ _ _ _ _ g' a m c (by rw [genOf_take ho]; exact k1) k2
        · rename_i ho
          simp only [Option.bind_eq_bind] at hf
          replace hf := Option.bind_eq_some_iff.1 hf
          obtain ⟨cs, hcs, hf⟩ := hf
          split at hf
          · rename_i hle
            replace hf := Option.bind_eq_some_iff.1 hf
            obtain ⟨cs', hcs', hf⟩ := hf
            injection hf with hf; subst hf
            obtain ⟨k1, k2⟩ := mapO_get hcs'
            cases hv with
            | mslOld _ _ _ _ _ _ g' a m c e1 e2 => have := (genOf_obj hcs).1; rw [this] at e1; injection e1; omega
            | msl _ _ _ _ _ _ b c el m off' e0 e1 e2 e3 e4 e5 e6 e7 =>
              by_cases hl0 : len = 0
              · subst hl0
                exact lst_empty _ _ _ _ _ trivial
              · obtain rfl : off' = off := e0.resolve_right (by omega)
                have hread := ((obj_reads R1 hcs e2).drop off').take (len * sz)
                refine lst_of_cells (fun _ => .inr ⟨o, by omega, e2⟩) (by rw [k1]; simp; omega) (fun i c' hi => ?_) trivial e3
                have hlt : i < ((cs.drop off').take (len * sz)).length := by rw [← k1]; exact (List.getElem?_eq_some_iff.1 hi).1
                obtain ⟨b', hb', hfb⟩ := k2 i _ (List.getElem?_eq_getElem hlt)
                rw [hi] at hb'
                injection hb' with hb'; subst hb'
                obtain ⟨v, hv, hvr⟩ := hread i _ (List.getElem?_eq_getElem hlt)
                exact ⟨v, by simpa using hv, ih' hfb hvr⟩
          · cases hf
      case ref cs =>
        obtain ⟨cs', hcs, rfl⟩ := Option.map_eq_some_iff.1 hf
        obtain ⟨k1, k2⟩ := mapO_get hcs
        cases hv with
        | ref _ b off f e1 e2 e3 =>
          have key : ∀ (i : Nat) c', cs'[i]? = some c' → ∃ c, cs[i]? = some c ∧ freezeV h1 n d c = some c' := by
            intro i c' hi
            have hlt : i < cs.length := by rw [← k1]; exact (List.getElem?_eq_some_iff.1 hi).1
            obtain ⟨b', hb', hfb⟩ := k2 i _ (List.getElem?_eq_getElem hlt)
            rw [hi] at hb'
            injection hb' with hb'; subst hb'
            exact ⟨_, List.getElem?_eq_getElem hlt, hfb⟩
          refine .ref _ b off f (fun h0 => .inl (e1 (by omega))) (fun i c' hi => ?_) (fun i c' hi => ?_)
          · obtain ⟨c, hc, _⟩ := key i c' hi
            exact e2 i c hc
          · obtain ⟨c, hc, hfc⟩ := key i c' hi
            exact ih' hfc (e3 i c hc)
      case lst xs z r =>
        obtain ⟨xs', hxs, rfl⟩ := Option.map_eq_some_iff.1 hf
        obtain ⟨k1, k2⟩ := mapO_get hxs
        cases hv with
        | lstNil =>
          simp only [mapO, Option.some.injEq] at hxs
          subst hxs
          exact .lstNil _
        | lstEmpty _ A =>
          simp only [mapO, Option.some.injEq] at hxs
          subst hxs
          exact .lstEmpty _ A
        | lst _ _ _ b off c f e1 e2 e3 e4 e5 e6 =>
          have key : ∀ (i : Nat) x', xs'[i]? = some x' → ∃ x, xs[i]? = some x ∧ freezeV h1 n d x = some x' := by
            intro i x' hi
            have hlt : i < xs.length := by rw [← k1]; exact (List.getElem?_eq_some_iff.1 hi).1
            obtain ⟨b', hb', hfb⟩ := k2 i _ (List.getElem?_eq_getElem hlt)
            rw [hi] at hb'
            injection hb' with hb'; subst hb'
            exact ⟨_, List.getElem?_eq_getElem hlt, hfb⟩
          have cell : ∀ (i j : Nat) x' y', xs'[i]? = some x' → x'.cells[j]? = some y' → ∃ x y d', d' ≤ d ∧ xs[i]? = some x ∧ x.cells[j]? = some y ∧ freezeV h1 n d' y = some y' := by
            intro i j x' y' hi hj
            obtain ⟨x, hx, hfx⟩ := key i x' hi
            obtain ⟨m1, m2⟩ := freeze_cells hfx
            have hlt : j < x.cells.length := by rw [← m1]; exact (List.getElem?_eq_some_iff.1 hj).1
            obtain ⟨y'', d', hd', hy'', hfy⟩ := m2 j _ (List.getElem?_eq_getElem hlt)
            rw [hj] at hy''
            injection hy'' with hy''; subst hy''
            exact ⟨x, _, d', hd', hx, List.getElem?_eq_getElem hlt, hfy⟩
          have := VR.lst (s := s1.cut n) (h := h1.take n) (w := w1) xs' z r b off c f (fun h0 => .inl (e1 (by omega))) e2 (by omega)
            (fun i x' hi => by
              obtain ⟨x, hx, hfx⟩ := key i x' hi
              rw [(freeze_cells hfx).1]; exact e4 i x hx)
            (fun i j x' y' hi hj => by
              obtain ⟨x, y, d', _, hx, hy, _⟩ := cell i j x' y' hi hj
              exact e5 i j x y hx hy)
            (fun i j x' y' hi hj => by
              obtain ⟨x, y, d', hd', hx, hy, hfy⟩ := cell i j x' y' hi hj
              exact ih (d := d') (by omega) hfy (e6 i j x y hx hy))
          rw [k1] at this
          exact this
      case clo f cs =>
        obtain ⟨cs', hcs, rfl⟩ := Option.map_eq_some_iff.1 hf
        obtain ⟨k1, k2⟩ := mapO_get hcs
        cases hv with
        | clo _ _ vs hl hr =>
          refine .clo _ _ vs (by omega) fun i c' hi => ?_
          have hlt : i < cs.length := by rw [← k1]; exact (List.getElem?_eq_some_iff.1 hi).1
          obtain ⟨b', hb', hfb⟩ := k2 i _ (List.getElem?_eq_getElem hlt)
          rw [hi] at hb'
          injection hb' with hb'; subst hb'
          exact ih' hfb (hr i _ (List.getElem?_eq_getElem hlt))
      case bnd f cs =>
        obtain ⟨cs', hcs, rfl⟩ := Option.map_eq_some_iff.1 hf
        obtain ⟨k1, k2⟩ := mapO_get hcs
        cases hv with
        | bnd _ _ vs hl hr =>
          refine .bnd _ _ vs (by omega) fun i c' hi => ?_
          have hlt : i < cs.length := by rw [← k1]; exact (List.getElem?_eq_some_iff.1 hi).1
          obtain ⟨b', hb', hfb⟩ := k2 i _ (List.getElem?_eq_getElem hlt)
          rw [hi] at hb'
          injection hb' with hb'; subst hb'
          exact ih' hfb (hr i _ (List.getElem?_eq_getElem hlt))
      case agg cs =>
        obtain ⟨cs', hcs, rfl⟩ := Option.map_eq_some_iff.1 hf
        obtain ⟨k1, k2⟩ := mapO_get hcs
        cases hv with
        | agg _ vs hl hr =>
          refine .agg _ vs (by omega) fun i c' hi => ?_
          have hlt : i < cs.length := by rw [← k1]; exact (List.getElem?_eq_some_iff.1 hi).1
          obtain ⟨b', hb', hfb⟩ := k2 i _ (List.getElem?_eq_getElem hlt)
          rw [hi] at hb'
          injection hb' with hb'; subst hb'
          exact ih' hfb (hr i _ (List.getElem?_eq_getElem hlt))
      case tup cs =>
        obtain ⟨cs', hcs, rfl⟩ := Option.map_eq_some_iff.1 hf
        obtain ⟨k1, k2⟩ := mapO_get hcs
        cases hv with
        | tup _ vs hl hr =>
          refine .tup _ vs (by omega) fun i c' hi => ?_
          have hlt : i < cs.length := by rw [← k1]; exact (List.getElem?_eq_some_iff.1 hi).1
          obtain ⟨b', hb', hfb⟩ := k2 i _ (List.getElem?_eq_getElem hlt)
          rw [hi] at hb'
          injection hb' with hb'; subst hb'
          exact ih' hfb (hr i _ (List.getElem?_eq_getElem hlt))
      case iface t x =>
        obtain ⟨x', hx, rfl⟩ := Option.map_eq_some_iff.1 hf
        cases hv with
        | iface _ _ v hv => exact .iface _ _ _ (ih' hx hv)
end
end Go.Rv
namespace Go.Rv
section
variable {P : Program} {C : Cfg} {s : Sim} {h : Heap} {w : World}
def EndOk (s : Sim) (h : Heap) (w : World) (res : CRes) (h' : Heap) (e : Ending) (w' : World) : Prop :=
  ∃ s', Ext s h w s' h' w' ∧ Rel s' h' w' ∧ match res, e with
    | .ret v, .returned u => VR s' h' w' v u
    | .pan v, .panicked chain => ∃ u, chain = [{ v := u, recovered := false }] ∧ VR s' h' w' v u
    | _, _ => False
def CallOk (P : Program) (f : Nat) (vs : List Value) (s : Sim) (h : Heap) (w : World) (res : CRes) (h' : Heap) : Prop :=
  Calls P f vs.toArray w (EndOk s h w res h')
def Known (P : Program) (f : Nat) : Prop := ∃ fn c, P.funcs[f]? = some fn ∧ fn.body = some c ∧ (fn.name == "runtime.NumGoroutine") = false
def PrimOk (P : Program) (C : Cfg) : Prop := ∀ f p, C.prim f = some p → Known P f ∧ (C.pure f = true → ∀ args h v h', p args h = some (.ret v, h') → h' = h) ∧ ∀ args h res h', p args h = some (res, h') →
  ∀ s w vs, Rel s h w → Glob C s h w → VRs s h w args vs → CallOk P f vs s h w res h'
structure CodeOk (ord : Nat → Array Oper → Bool) (f N : Nat) (c : Code) : Prop where
  ok : True
def dstsOk (N : Nat) (ops : Array Oper) : Bool := ops.all fun o => match o.dst with | some d => d < N | none => true
def codeOk (ord : Array Oper → Bool) (N : Nat) : Code → Bool
  | .region _ ops draw => dstsOk N ops && (!draw || ord ops)
  | .seq a b => codeOk ord N a && codeOk ord N b
  | .cond _ a b => codeOk ord N a && codeOk ord N b
  | .block _ b | .loop b | .scope b => codeOk ord N b
  | .rangeFunc _ ps a b => ps.toList.all (fun t => decide (t < N)) && codeOk ord N a && codeOk ord N b
  | _ => true
def goodOf (ord : Nat → Array Oper → Bool) (f N : Nat) (ps : List Nat) (a b : Code) : Prop := ps.all (fun t => decide (t < N)) = true ∧ codeOk (ord f) N a = true ∧ codeOk (ord f) N b = true
structure GG (C : Cfg) (ord : Nat → Array Oper → Bool) (s : Sim) (h : Heap) (w : World) : Prop where
  g : Glob C s h w
  good : s.good.good = goodOf ord
theorem GG.ext {ord : Nat → Array Oper → Bool} {s' : Sim} {h' : Heap} {w' : World} (hd : ∀ o b, s.μ o = some b → ¬ s.I b) (E : Ext s h w s' h' w') (G : GG C ord s h w) : GG C ord s' h' w' := ⟨G.g.ext hd E, by rw [E.good]; exact G.good⟩
def Fr (r : Option Nat) : Fence := { Fence.wide with round := r }
theorem Fr_depth (r : Option Nat) : (Fr r).depth.isSome = true → 1 ≤ 0 := fun h => by simp [Fr, Fence.wide] at h
theorem callsIn_fr {r : Option Nat} {n : Nat} {f : FuncId} {args : Array Value} {R : Ending → World → Prop} : CallsIn (Fr r) n P f args w R ↔ Calls P f args w R := callsIn_wide (n := n)
def Around (s : Sim) (h : Heap) : Option Nat → Prop
  | none => True
  | some l => ∃ o, isLoop h o = true ∧ s.μ o = some l
theorem Around.ext0 {s' : Sim} {h' : Heap} {w' : World} (E : Ext0 s h w s' h' w') {r : Option Nat} (A : Around s h r) : Around s' h' r := by
  cases r with
  | none => trivial
  | some l =>
    obtain ⟨o, h1, h2⟩ := A
    have hk := E.kindL o h1
    exact ⟨o, hk, (E.same o 0 (genOf_loop h1) (genOf_loop hk)).1 l h2⟩
def Deferred.plain (d : Deferred) : Prop := ∀ b, d.target ≠ .collected b
def MarksT (B : Nat) (s : Sim) (w : World) : List Deferred → List Deferred → Prop
  | T, [] => T = []
  | T, d :: ds => ((∃ b, d.target = .collected b ∧ B ≤ b ∧ b < w.heap.size ∧ (∀ o, s.μ o ≠ some b) ∧ w.heap[b]? = some (.deferred (some [])) ∧ ∀ e ∈ ds, e.target ≠ .collected b) ∧ MarksT B s w T ds) ∨
    (Deferred.plain d ∧ ∃ T', T = d :: T' ∧ MarksT B s w T' ds)
def Marks (B : Nat) (s : Sim) (w : World) (ds : List Deferred) : Prop := MarksT B s w s.good.tail ds
def Dues (B : Nat) (s : Sim) (w : World) (ds : List Deferred) : Prop := B ≤ w.heap.size ∧ Marks B s w ds
theorem MarksT.ext0 {B : Nat} {s' : Sim} {h' : Heap} {w' : World} (E : Ext0 s h w s' h' w') : ∀ {ds T : List Deferred}, MarksT B s w T ds → MarksT B s' w' T ds
  | [], _, h => h
  | d :: ds, _, .inl ⟨⟨b, h1, h2, h3, h4, h5, h6⟩, h7⟩ => .inl ⟨⟨b, h1, h2, Nat.lt_of_lt_of_le h3 E.size, fun o ho => by
      rcases E.own o b ho with ⟨o', ho'⟩ | hle
      · exact h4 o' ho'
      · omega, by rw [E.far b h3 h4]; exact h5, h6⟩, MarksT.ext0 E h7⟩
  | d :: ds, _, .inr ⟨h1, T', h2, h3⟩ => .inr ⟨h1, T', h2, MarksT.ext0 E h3⟩
theorem Marks.ext0 {B : Nat} {s' : Sim} {h' : Heap} {w' : World} (E : Ext0 s h w s' h' w') {ds : List Deferred} (H : Marks B s w ds) : Marks B s' w' ds := by
  unfold Marks
  rw [E.good]
  exact MarksT.ext0 E H
theorem Dues.ext0 {B : Nat} {s' : Sim} {h' : Heap} {w' : World} (E : Ext0 s h w s' h' w') {ds : List Deferred} (D : Dues B s w ds) : Dues B s' w' ds := ⟨Nat.le_trans D.1 E.size, D.2.ext0 E⟩
theorem MarksT.lt {B : Nat} : ∀ {ds T : List Deferred}, MarksT B s w T ds → ∀ e ∈ ds, e.target ≠ .collected w.heap.size
  | [], _, _, e, he => by simp at he
  | d :: ds, _, H, e, he => by
    rcases H with ⟨⟨b, h1, _, h3, _⟩, h7⟩ | ⟨h1, T', _, h7⟩
    · rcases List.mem_cons.1 he with rfl | he
      · rw [h1]; intro hx; injection hx with hx; omega
      · exact MarksT.lt h7 e he
    · rcases List.mem_cons.1 he with rfl | he
      · exact h1 _
      · exact MarksT.lt h7 e he
theorem Marks.lt {B : Nat} {ds : List Deferred} (H : Marks B s w ds) : ∀ e ∈ ds, e.target ≠ .collected w.heap.size := MarksT.lt H
theorem Marks.cons {B b : Nat} {d : Deferred} {ds : List Deferred} (h1 : d.target = .collected b) (h2 : B ≤ b) (h3 : b < w.heap.size) (h4 : ∀ o, s.μ o ≠ some b) (h5 : w.heap[b]? = some (.deferred (some []))) (h6 : ∀ e ∈ ds, e.target ≠ .collected b) (H : Marks B s w ds) : Marks B s w (d :: ds) := .inl ⟨⟨b, h1, h2, h3, h4, h5, h6⟩, H⟩
theorem Marks.nil {B : Nat} (h : s.good.tail = []) : Marks B s w [] := h
def FnOk (P : Program) (C : Cfg) (ord : Nat → Array Oper → Bool) : Prop := ∀ f fi, C.fn f = some fi → ∃ fn, P.funcs[f]? = some fn ∧ fn.body = some fi.body ∧ fn.results.toList = fi.results ∧ (fn.name == "runtime.NumGoroutine") = false ∧
  fi.params ≤ fn.ntmps ∧ codeOk (ord f) fn.ntmps fi.body = true
structure Ok (P : Program) (C : Cfg) (ord : Nat → Array Oper → Bool) : Prop where
  ty : TabOk P C
  glob : GlobOk C
  prim : PrimOk P C
  fn : FnOk P C ord
  close : ∀ g v, C.glob g = some v → ∀ h, freezeV h 0 40 v = some v
  mixed : P.follows .mixedOrders = true
def OutOk (B : Nat) (s : Sim) (h : Heap) (w : World) (N : Nat) (out : Out) (e' : Env) (h' : Heap) (ex : Exit) (a' : Act) (w' : World) : Prop :=
  ∃ s', Ext s h w s' h' w' ∧ Rel s' h' w' ∧ a'.tmps.size = N ∧ Dues B s' w' a'.defers ∧ match out, ex with
    | .nrm, .normal => EnvRel s' h' w' e' a'.tmps
    | .exit id, .exit id' => id' = id ∧ EnvRel s' h' w' e' a'.tmps
    | .ret, .ret => EnvRel s' h' w' e' a'.tmps
    | .pan v, .panic chain => (∃ u, chain = [{ v := u, recovered := false }] ∧ VR s' h' w' v u) ∧ EnvRel s' h' w' e' a'.tmps
    | _, _ => False
def ValOk (P : Program) (C : Cfg) (ord : Nat → Array Oper → Bool) (g : AV) (vs : List AV) (h : Heap) (res : CRes) (h' : Heap) : Prop :=
  match g with
  | .clo f caps => Known P f ∧ ∀ s w us, Rel s h w → GG C ord s h w → VRs s h w (vs ++ caps) us → CallOk P f us s h w res h'
  | .bnd f first => Known P f ∧ ∀ s w us, Rel s h w → GG C ord s h w → VRs s h w (first ++ vs) us → CallOk P f us s h w res h'
  | .yld o => ∀ s w b us rec, s.μ o = some b → w.heap[b]? = some (.loop rec) → Rel s h w → GG C ord s h w → VRs s h w vs us →
      us.length = rec.params.size ∧ RoundIn Fence.wide 0 P b rec.fn ((rec.params.zip us.toArray).foldl (fun tmps (t, a) => tmps.setIfInBounds t a) rec.tmps) rec.assign rec.body w (EndOk s h w res h')
  | _ => False
structure CallsAt (P : Program) (C : Cfg) (ord : Nat → Array Oper → Bool) (k : Nat) : Prop where
  fn : ∀ k', k' ≤ k → ∀ f args h res h', callF C k' f args h = some (res, h') → Known P f ∧ ∀ s w vs, Rel s h w → GG C ord s h w → VRs s h w args vs → CallOk P f vs s h w res h'
  val : ∀ k', k' ≤ k → ∀ g vs h res h', callV C k' g vs h = some (res, h') → ValOk P C ord g vs h res h'
theorem CallsAt.le {ord : Nat → Array Oper → Bool} {k k' : Nat} (hk : k' ≤ k) (H : CallsAt P C ord k) : CallsAt P C ord k' := ⟨fun j hj => H.fn j (by omega), fun j hj => H.val j (by omega)⟩
theorem want_rel {N : Nat} {ops : Array Oper} (hd : dstsOk N ops = true) {e : Env} {a : Act} (hN : a.tmps.size = N) (H : EnvRel s h w e a.tmps) {o : Oper} {b : Bool} (hw : wantA ops e o = some b) : Region.wanted o (yielded ops a.tmps) = b := by
  unfold wantA at hw
  unfold Region.wanted
  cases hg : o.guard with
  | none => simp only [hg, Option.some.injEq] at hw ⊢; exact hw
  | some jw =>
    obtain ⟨j, want⟩ := jw
    simp only [hg] at hw ⊢
    unfold yielded
    cases hj : (ops[j]?).bind (·.dst) with
    | none =>
      simp only [hj, Option.map_none, Option.some.injEq] at hw
      subst hw
      rfl
    | some d =>
      simp only [hj, Option.map_some] at hw
      have hlt : d < a.tmps.size := by
        rw [hN]
        obtain ⟨oj, h1, h2⟩ := Option.bind_eq_some_iff.1 hj
        have := Array.all_eq_true.1 hd j (Array.getElem?_eq_some_iff.1 h1).1
        rw [(Array.getElem?_eq_some_iff.1 h1).2, h2] at this
        simpa using this
      have hr := H d
      have hget : a.tmps[d]? = some (a.tmps.getD d undef) := by simp [hlt]
      simp only [Option.bind_some, hget]
      generalize a.tmps.getD d undef = u at hr
      generalize e.get d = x at hr hw
      cases hr <;> first | (cases hw; done) | skip
      case bool b' =>
        simp only [Option.some.injEq] at hw
        subst hw
        rfl
      case tup cs vs hl hr' =>
        cases cs with
        | nil =>
          simp only [Option.some.injEq] at hw
          subst hw
          rfl
        | cons c r => cases hw
theorem dst_lt {N : Nat} {ops : Array Oper} (hd : dstsOk N ops = true) {i : Nat} {o : Oper} (ho : ops[i]? = some o) : ∀ t, o.dst = some t → t < N := fun t ht => by
  have := Array.all_eq_true.1 hd i (Array.getElem?_eq_some_iff.1 ho).1
  rw [(Array.getElem?_eq_some_iff.1 ho).2, ht] at this
  simpa using this
theorem run_call {g : Nat} (hk : Known P g) {o : Oper} {args : Array Operand} {gx : Operand} {ct : Array TypeId} {a : Act} {us : Array Value} (ho : o.op = .call { callee := .value gx, args, argTypes := ct }) (hg : a.eval gx = .func (.func g) #[] us) :
    (execOp a.eval o).run P w = .ok (.enter g (args.map a.eval ++ us)) w := by
  obtain ⟨fn, c, h1, h2, h3⟩ := hk
  unfold execOp
  simp only [ho, resolve, hg, Deferred.ofValue, Sem.run_bind, Sem.run_pure, Result.andThen_ok, invoke, callFunc, run_program, h1, h3, h2, Option.isNone_some, Bool.false_eq_true, if_false, Array.empty_append]
theorem run_bound {g : Nat} (hk : Known P g) {o : Oper} {args : Array Operand} {gx : Operand} {ct : Array TypeId} {a : Act} {us : Array Value} (ho : o.op = .call { callee := .value gx, args, argTypes := ct }) (hg : a.eval gx = .func (.func g) us #[]) :
    (execOp a.eval o).run P w = .ok (.enter g (us ++ args.map a.eval)) w := by
  obtain ⟨fn, c, h1, h2, h3⟩ := hk
  unfold execOp
  simp only [ho, resolve, hg, Deferred.ofValue, Sem.run_bind, Sem.run_pure, Result.andThen_ok, invoke, callFunc, run_program, h1, h3, h2, Option.isNone_some, Bool.false_eq_true, if_false, Array.append_empty]
theorem run_yieldCall {o : Oper} {args : Array Operand} {gx : Operand} {ct : Array TypeId} {a : Act} {b : Nat} {rec : Loop} (ho : o.op = .call { callee := .value gx, args, argTypes := ct }) (hg : a.eval gx = .func (.yield b) #[] #[]) (hb : w.heap[b]? = some (.loop rec)) (hs : args.size = rec.params.size) :
    (execOp a.eval o).run P w = .ok (.round b rec.fn ((rec.params.zip (args.map a.eval)).foldl (fun tmps (t, a) => tmps.setIfInBounds t a) rec.tmps) rec.assign rec.body) w := by
  have := run_yield (P := P) (args := args.map a.eval) hb (by simpa using hs)
  unfold execOp
  simp only [ho, resolve, hg, Deferred.ofValue, Sem.run_bind, Sem.run_pure, Result.andThen_ok, invoke, Array.empty_append]
  exact this
theorem oper_sound {ord : Nat → Array Oper → Bool} (K : Ok P C ord) {r : Option Nat} {f : Nat} {Q : Exit → Act → World → Prop} {next : Act → World → Prop} {o : Oper}
    {e : Env} {a : Act} (R : Rel s h w) (G : GG C ord s h w) (H : EnvRel s h w e a.tmps)
    {v : AV} {h' : Heap} (hv : opA C f e h o = some (v, h'))
    (hnext : ∀ s' w' u, Ext s h w s' h' w' → Rel s' h' w' → VR s' h' w' v u → next (a.put o.dst u) w') : o.wpIn (Fr r) 0 P a w next Q := by
  have hnd : ∀ c, o.op ≠ .defer c := fun c hc => by unfold opA at hv; simp only [hc, reduceCtorEq] at hv
  obtain ⟨s', w', n, u, h1, h2, h3, h4, h5⟩ := op_sound K.ty K.glob R G.g H hv
  refine ⟨fun _ _ => trivial, ?_⟩
  rw [Oper.semAt_eq _ _ _ hnd, h1]
  rcases h2 with rfl | ⟨rfl, rfl⟩
  · exact hnext s' w' u h3 h4 h5
  · exact hnext s' w' undef h3 h4 h5
theorem callee_op {o : Oper} {g : Operand} {args : Array Operand} (hc : callee o = some (g, args)) : ∃ ct, o.op = .call { callee := .value g, args, argTypes := ct } := by
  unfold callee at hc
  split at hc
  · rename_i g' args' ct ho
    simp only [Option.some.injEq, Prod.mk.injEq] at hc
    obtain ⟨rfl, rfl⟩ := hc
    exact ⟨ct, ho⟩
  · cases hc
theorem opsF_cons (k f : Nat) (os : Array Oper) (o : Oper) (r : List Oper) (e : Env) (h : Heap) : opsF C (k + 1) f os (o :: r) e h = (wantA os e o).bind fun w => match w with
    | false => opsF C k f os r (e.putAt o.dst (.tup [])) h
    | true => match callee o with
      | none => match panO C e o with
        | some v => some (.pan v, e, h)
        | none => (opA C f e h o).bind fun x => if looseAll C f os (dkey o) e x.2 then opsF C k f os r (e.putAt o.dst x.1) x.2 else none
      | some ga => (mapO (evalA C e) ga.2.toList).bind fun vs => (evalA C e ga.1).bind fun gv =>
        if (o.dst.map (C.quiet f)).getD false && !pureV C gv then none else (callV C k gv vs h).bind fun x => match x.1 with
          | .ret v => if looseAll C f os (dkey o) e x.2 then opsF C k f os r (e.putAt o.dst v) x.2 else none
          | .pan v => some (.pan v, e, x.2) := by
  simp only [opsF, Option.bind_eq_bind]
  cases hw : wantA os e o with
  | none => rfl
  | some b =>
    simp only [Option.bind_some]
    cases b with
    | false => simp
    | true =>
      simp only [if_true]
      cases hc : callee o with
      | some ga =>
        obtain ⟨g, args⟩ := ga
        obtain ⟨ct, ho⟩ := callee_op hc
        simp only [ho]
        rfl
      | none =>
        split
        · rename_i g args ct ho
          simp [callee, ho] at hc
        · rfl
theorem yld_live {k o : Nat} {vs : List AV} {h : Heap} {x : CRes × Heap} (hc : callV C k (.yld o) vs h = some x) : genOf h o = some 0 := by
  cases k with
  | zero => simp [callV] at hc
  | succ k =>
    simp only [callV, Option.bind_eq_bind] at hc
    obtain ⟨r, hr, _⟩ := Option.bind_eq_some_iff.1 hc
    unfold Heap.loopAt at hr
    unfold genOf
    split at hr
    · rename_i r' h'; rw [h']
    · cases hr
theorem callop_sound {ord : Nat → Array Oper → Bool} {k : Nat} (HC : CallsAt P C ord k) {r : Option Nat} {Q : Exit → Act → World → Prop} {next : Act → World → Prop} {o : Oper} {e : Env} {a : Act} (R : Rel s h w) (G : GG C ord s h w) (H : EnvRel s h w e a.tmps)
    {g : Operand} {args : Array Operand} (hc : callee o = some (g, args)) {vs : List AV} (hvs : mapO (evalA C e) args.toList = some vs) {gv : AV} (hg : evalA C e g = some gv)
    {res : CRes} {h' : Heap} (hcall : callV C k gv vs h = some (res, h'))
    (hret : ∀ v, res = .ret v → ∀ s' w' u, Ext s h w s' h' w' → Rel s' h' w' → VR s' h' w' v u → next (a.put o.dst u) w')
    (hpan : ∀ v, res = .pan v → ∀ s' w' u, Ext s h w s' h' w' → Rel s' h' w' → VR s' h' w' v u → Q (.panic [{ v := u, recovered := false }]) a w') : o.wpIn (Fr r) 0 P a w next Q := by
  obtain ⟨ct, ho⟩ := callee_op hc
  have hnd : ∀ c, o.op ≠ .defer c := fun c hc => by rw [ho] at hc; cases hc
  have hok := HC.val k (Nat.le_refl _) _ _ _ _ _ hcall
  have hgr := evalA_rel G.g H hg
  refine ⟨fun _ _ => trivial, ?_⟩
  rw [Oper.semAt_eq _ _ _ hnd]
  have fin : ∀ en w', EndOk s h w res h' en w' → (match en, w' with
      | .returned v, w'' => next (a.put o.dst v) w''
      | .panicked chain, w'' => Q (.panic chain) a w''
      | .outgrown, _ => LetsOut Q) := fun en w' hend => by
    obtain ⟨s', h1, h2, h3⟩ := hend
    cases res with
    | ret v =>
      cases en with
      | returned u => exact hret v rfl s' w' u h1 h2 h3
      | panicked chain => exact h3.elim
      | outgrown => exact h3.elim
    | pan v =>
      cases en with
      | returned u => exact h3.elim
      | panicked chain =>
        obtain ⟨u, rfl, hu⟩ := h3
        exact hpan v rfl s' w' u h1 h2 hu
      | outgrown => exact h3.elim
  generalize hag : a.eval g = ag at hgr
  cases gv <;> simp only [ValOk] at hok
  case clo g' caps =>
    obtain ⟨hk, hok⟩ := hok
    cases hgr with
    | clo _ _ us hl hr =>
    have hargs := (args_rel G.g H hvs).append (us := us.toList) ⟨by simpa using hl, fun i c hi => by
      have hlt : i < us.size := by rw [← hl]; exact (List.getElem?_eq_some_iff.1 hi).1
      refine ⟨us[i], by simp [hlt], ?_⟩
      have := hr i c hi
      simpa [hlt] using this⟩
    have hC := hok s w _ R G hargs
    rw [run_call hk ho hag]
    rw [Oper.uponIn_enter]
    have harr : (args.toList.map a.eval ++ us.toList).toArray = args.map a.eval ++ us := by apply Array.ext'; simp
    rw [← harr]
    exact ⟨Fr_depth r, callsIn_fr.2 (Calls.mono hC fun en w' hend => fin en w' hend)⟩
  case bnd g' first =>
    obtain ⟨hk, hok⟩ := hok
    cases hgr with
    | bnd _ _ us hl hr =>
    have hfirst : VRs s h w first us.toList := ⟨by simpa using hl, fun i c hi => by
      have hlt : i < us.size := by rw [← hl]; exact (List.getElem?_eq_some_iff.1 hi).1
      refine ⟨us[i], by simp [hlt], ?_⟩
      have := hr i c hi
      simpa [hlt] using this⟩
    have hargs := hfirst.append (args_rel G.g H hvs)
    have hC := hok s w _ R G hargs
    rw [run_bound hk ho hag]
    rw [Oper.uponIn_enter]
    have harr : (us.toList ++ args.toList.map a.eval).toArray = us ++ args.map a.eval := by apply Array.ext'; simp
    rw [← harr]
    exact ⟨Fr_depth r, callsIn_fr.2 (Calls.mono hC fun en w' hend => fin en w' hend)⟩
  case yld o' =>
    cases hgr with
    | yldOld _ g' b hg' hlt => have h1 := yld_live hcall; rw [h1] at hg'; injection hg' with hg'; omega
    | yld _ b hl hb =>
    obtain ⟨x, hx, hxr⟩ := R.obj o' b hb
    unfold isLoop at hl
    rw [hx] at hl
    cases x <;> simp only [Bool.false_eq_true] at hl
    rename_i lr
    obtain ⟨rec, hrec, _⟩ := hxr
    have hargs := args_rel G.g H hvs
    obtain ⟨hlen, hC⟩ := hok s w b _ rec hb hrec R G hargs
    rw [run_yieldCall ho hag hrec (by simpa using hlen)]
    rw [Oper.uponIn_round]
    have harr : (args.toList.map a.eval).toArray = args.map a.eval := by apply Array.ext'; simp
    rw [← harr]
    exact ⟨Fr_depth r, RoundIn.mono (F := Fr r) hC fun en w' hend => fin en w' hend⟩
theorem oper_mono {F : Fence} {n : Nat} {o : Oper} {Q Q' : Exit → Act → World → Prop} {K K' : Act → World → Prop} (hq : ∀ ex a w, Q ex a w → Q' ex a w) (hk : ∀ a w, K a w → K' a w) {a : Act} {w : World} (H : o.wpIn F n P a w K Q) : o.wpIn F n P a w K' Q' := by
  unfold Oper.wpIn at *
  refine ⟨H.1, ?_⟩
  have H := H.2
  generalize (o.semAt F.round a.eval).run P w = r at *
  have lets : LetsOut Q → LetsOut Q' := fun ⟨a, w, h⟩ => ⟨a, w, hq _ _ _ h⟩
  cases r with
  | ok n w' =>
    cases n <;> simp only [Oper.uponIn] at H ⊢ <;>
      first
        | exact hk _ _ H
        | exact ⟨H.1, CallsIn.mono H.2 (fun e w'' he => by cases e <;> first | exact hk _ _ he | exact hq _ _ _ he | exact lets he)⟩
        | exact ⟨H.1, RowsIn.mono H.2 (fun _ _ he => hk _ _ he)⟩
        | exact ⟨H.1, RoundIn.mono H.2 (fun e w'' he => by cases e <;> first | exact hk _ _ he | exact hq _ _ _ he | exact lets he)⟩
        | exact hq _ _ _ H
        | exact H
  | halt x w' => cases x <;> simp only [Oper.uponIn] at H ⊢ <;> first | exact hq _ _ _ H | exact H
theorem wpOps_mono {F : Fence} {n : Nat} {ops : Array Oper} {Q Q' : Exit → Act → World → Prop} (hq : ∀ ex a w, Q ex a w → Q' ex a w) : ∀ (l : List Nat) (a : Act) (w : World), wpOpsIn F n P ops Q l a w → wpOpsIn F n P ops Q' l a w
  | [], a, w, H => hq _ _ _ H
  | i :: r, a, w, H => by
    simp only [wpOpsIn] at H ⊢
    cases ho : ops[i]? with
    | none => simp only [ho] at H ⊢; exact wpOps_mono hq r a w H
    | some o =>
      simp only [ho] at H ⊢
      split
      · rename_i hw
        simp only [hw, if_true] at H
        exact oper_mono hq (fun a w => wpOps_mono hq r a w) H
      · rename_i hw
        simp only [hw] at H
        exact ⟨H.1, wpOps_mono hq r _ w H.2⟩
theorem pan_run {e : Env} {a : Act} (G : Glob C s h w) (H : EnvRel s h w e a.tmps) {o : Oper} {v : AV} (hp : panO C e o = some v) : ∃ u, VR s h w v u ∧ (execOp a.eval o).run P w = .halt (.panic u) w ∧ ∀ c, o.op ≠ .defer c := by
  unfold panO at hp
  split at hp <;> first | (cases hp; done) | skip
  rename_i x hop
  split at hp <;> first | (cases hp; done) | skip
  rename_i t v' hv
  injection hp with hp
  subst hp
  have hr := evalA_rel G H hv
  refine ⟨a.eval x, hr, ?_, fun c hc => by rw [hop] at hc; cases hc⟩
  generalize hax : a.eval x = u at hr
  cases hr
  unfold execOp
  simp only [hop, hax, Instr.panic, goPanic, Sem.run_bind]
  rfl
theorem ops_sound {ord : Nat → Array Oper → Bool} (K : Ok P C ord) {N f : Nat} {ops : Array Oper} (hd : dstsOk N ops = true) {r : Option Nat} {B : Nat} :
    ∀ (k : Nat), CallsAt P C ord k → ∀ (l : List Oper) (is : List Nat), is.map (ops[·]?) = l.map some → ∀ (e : Env) (h : Heap) (out : Out) (e' : Env) (h' : Heap), opsF C k f ops l e h = some (out, e', h') →
    ∀ (s : Sim) (w : World) (a : Act), a.tmps.size = N → Dues B s w a.defers → Rel s h w → GG C ord s h w → EnvRel s h w e a.tmps → wpOpsIn (Fr r) 0 P ops (OutOk B s h w N out e' h') is a w := by
  intro k
  induction k with
  | zero => intro _ l is _ e h out e' h' hf; simp [opsF] at hf
  | succ k ih =>
    intro HC l is hl e h out e' h' hf s w a hN hdf R G H
    have HC' : CallsAt P C ord k := HC.le (by omega)
    cases l with
    | nil =>
      have : is = [] := by simpa using hl
      subst this
      simp only [opsF, Option.some.injEq, Prod.mk.injEq] at hf
      obtain ⟨rfl, rfl, rfl⟩ := hf
      exact ⟨s, Ext.refl _ _ _, R, hN, hdf, H⟩
    | cons o l =>
      cases is with
      | nil => simp at hl
      | cons i is =>
        simp only [List.map_cons, List.cons.injEq] at hl
        obtain ⟨ho, hl⟩ := hl
        rw [opsF_cons] at hf
        replace hf := Option.bind_eq_some_iff.1 hf
        obtain ⟨b, hw, hf⟩ := hf
        have hwant := want_rel hd hN H hw
        simp only [wpOpsIn, ho, hwant]
        have rest : ∀ {e1 : Env} {h1 : Heap}, opsF C k f ops l e1 h1 = some (out, e', h') → ∀ s1 w1 a1, Ext s h w s1 h1 w1 → a1.tmps.size = N → a1.defers = a.defers → Rel s1 h1 w1 → EnvRel s1 h1 w1 e1 a1.tmps → wpOpsIn (Fr r) 0 P ops (OutOk B s h w N out e' h') is a1 w1 := by
          intro e1 h1 hf1 s1 w1 a1 E hN1 hdf1 R1 H1
          have := ih HC' l is hl e1 h1 out e' h' hf1 s1 w1 a1 hN1 (by rw [hdf1]; exact hdf.ext0 E.toExt0) R1 (G.ext R.apart E) H1
          exact wpOps_mono (fun ex a' w' hq => by
            obtain ⟨s', k1, k2, k3⟩ := hq
            exact ⟨s', E.trans k1, k2, k3⟩) is a1 w1 this
        have hput : ∀ {s1 : Sim} {h1 : Heap} {w1 : World} {v : AV} {u : Value}, Ext s h w s1 h1 w1 → VR s1 h1 w1 v u → EnvRel s1 h1 w1 (e.putAt o.dst v) (a.put o.dst u).tmps ∧ (a.put o.dst u).tmps.size = N ∧ (a.put o.dst u).defers = a.defers := by
          intro s1 h1 w1 v u E hv
          refine ⟨(H.ext R.apart E).put o.dst (fun t ht => by rw [hN]; exact dst_lt hd ho t ht) hv, ?_, ?_⟩
          · cases o.dst <;> simp [Act.put, hN]
          · cases o.dst <;> simp [Act.put]
        cases b with
        | false =>
          simp only [Bool.false_eq_true, if_false]
          have hu : VR s h w (.tup []) undef := .tup [] #[] rfl fun i c hi => by simp at hi
          obtain ⟨g1, g2, g3⟩ := hput (Ext.refl s h w) hu
          exact ⟨fun _ _ => trivial, rest hf s w _ (Ext.refl _ _ _) g2 g3 R g1⟩
        | true =>
          simp only [if_true]
          cases hc : callee o with
          | none =>
            simp only [hc] at hf
            cases hp : panO C e o with
            | some v =>
              simp only [hp, Option.some.injEq, Prod.mk.injEq] at hf
              obtain ⟨rfl, rfl, rfl⟩ := hf
              obtain ⟨u, hu, hrun, hnd⟩ := pan_run (w := w) G.g H hp
              refine ⟨fun _ _ => trivial, ?_⟩
              rw [Oper.semAt_eq _ _ _ hnd, hrun]
              exact ⟨s, Ext.refl _ _ _, R, hN, hdf, ⟨u, rfl, hu⟩, H⟩
            | none =>
            simp only [hp] at hf
            replace hf := Option.bind_eq_some_iff.1 hf
            obtain ⟨⟨v, h1⟩, hv, hf⟩ := hf
            split at hf <;> first | cases hf | skip
            refine oper_sound K R G H hv fun s1 w1 u E R1 hu => ?_
            obtain ⟨g1, g2, g3⟩ := hput E hu
            exact rest hf s1 w1 _ E g2 g3 R1 g1
          | some ga =>
            obtain ⟨g, args⟩ := ga
            simp only [hc] at hf
            replace hf := Option.bind_eq_some_iff.1 hf
            obtain ⟨vs, hvs, hf⟩ := hf
            replace hf := Option.bind_eq_some_iff.1 hf
            obtain ⟨gv, hgv, hf⟩ := hf
            split at hf
            · cases hf
            replace hf := Option.bind_eq_some_iff.1 hf
            obtain ⟨⟨res, h1⟩, hcall, hf⟩ := hf
            refine callop_sound HC' R G H hc hvs hgv hcall (fun v hres s1 w1 u E R1 hu => ?_) (fun v hres s1 w1 u E R1 hu => ?_)
            · subst hres
              dsimp only at hf
              split at hf <;> first | cases hf | skip
              obtain ⟨g1, g2, g3⟩ := hput E hu
              exact rest hf s1 w1 _ E g2 g3 R1 g1
            · subst hres
              simp only [Option.some.injEq, Prod.mk.injEq] at hf
              obtain ⟨rfl, rfl, rfl⟩ := hf
              exact ⟨s1, E, R1, hN, hdf.ext0 E.toExt0, ⟨u, rfl, hu⟩, H.ext R.apart E⟩
end
end Go.Rv
