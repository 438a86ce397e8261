/-
  All operations together.
-/
import Derived.Test.YtiigpcapieeljaaGreatDoorPtC
set_option linter.unusedSimpArgs false
set_option linter.unusedVariables false
namespace Go.Rv
section
variable {P : Program} {C : Cfg} {s : Sim} {h : Heap} {w : World}

def GlobOk (C : Cfg) : Prop := ∀ g v, C.glob g = some v → v ≠ .junk

theorem evalA_ne (K : GlobOk C) {e : Env} {x : Operand} {v : AV} (hv : evalA C e x = some v) : v ≠ .junk := by
  cases x with
  | tmp t =>
    simp only [evalA] at hv
    split at hv
    · cases hv
    · rename_i hne
      injection hv with hv
      subst hv
      exact hne
  | const c =>
    simp only [evalA] at hv
    rintro rfl
    unfold ofValue at hv
    repeat' split at hv
    all_goals cases hv
  | global g => exact K g v hv
  | func f =>
    simp only [evalA, Option.some.injEq] at hv
    subst hv
    simp

/-- What an operation comes to. -/
def ORun (P : Program) (s : Sim) (h : Heap) (w : World) (m : Sem Next) (v : AV) (h' : Heap) : Prop :=
  ∃ s' w' n u, m.run P w = .ok n w' ∧ (n = .value u ∨ (n = .skip ∧ u = undef)) ∧ Ext s h w s' h' w' ∧ Rel s' h' w' ∧ VR s' h' w' v u

theorem HRun.op {m : Sem Value} {v : AV} {h' : Heap} (H : HRun P s h w m v h') : ORun P s h w (do pure (Next.value (← m))) v h' := by
  obtain ⟨s', w', x, h1, h2, h3, h4⟩ := H
  exact ⟨s', w', .value x, x, by simp [h1], .inl rfl, h2, h3, h4⟩
theorem PRun.op (R : Rel s h w) {m : Sem Value} {v : AV} (H : PRun P s h w m v) : ORun P s h w (do pure (Next.value (← m))) v h := (H.heap R).op
theorem VR.op (R : Rel s h w) {v : AV} {u : Value} (H : VR s h w v u) : ORun P s h w (pure (Next.value u)) v h :=
  ⟨s, w, .value u, u, rfl, .inl rfl, Ext.refl _ _ _, R, H⟩

theorem mapO_get {α β : Type} {f : α → Option β} : ∀ {l : List α} {r : List β}, mapO f l = some r → r.length = l.length ∧ ∀ (i : Nat) a, l[i]? = some a → ∃ b, r[i]? = some b ∧ f a = some b
  | [], r, hr => by
    simp only [mapO, Option.some.injEq] at hr
    subst hr
    exact ⟨rfl, fun i a hi => by simp at hi⟩
  | x :: l, r, hr => by
    simp only [mapO, Option.bind_eq_bind] at hr
    replace hr := Option.bind_eq_some_iff.1 hr
    obtain ⟨b, hb, hr⟩ := hr
    replace hr := Option.bind_eq_some_iff.1 hr
    obtain ⟨bs, hbs, hr⟩ := hr
    injection hr with hr; subst hr
    obtain ⟨h1, h2⟩ := mapO_get hbs
    refine ⟨by simp [h1], fun i a hi => ?_⟩
    cases i with
    | zero =>
      simp only [List.getElem?_cons_zero, Option.some.injEq] at hi
      subst hi
      exact ⟨b, rfl, hb⟩
    | succ i => simpa using h2 i a (by simpa using hi)

theorem args_rel (G : Glob C s h w) {e : Env} {a : Act} (H : EnvRel s h w e a.tmps) {l : List Operand} {vs : List AV} (hv : mapO (evalA C e) l = some vs) : VRs s h w vs (l.map a.eval) := by
  obtain ⟨h1, h2⟩ := mapO_get hv
  refine ⟨by simp [h1], fun i c hi => ?_⟩
  have hlt : i < l.length := by rw [← h1]; exact (List.getElem?_eq_some_iff.1 hi).1
  obtain ⟨b, hb, hfb⟩ := h2 i l[i] (List.getElem?_eq_getElem hlt)
  rw [hi] at hb
  injection hb with hb; subst hb
  exact ⟨a.eval l[i], by simp [hlt], evalA_rel G H hfb⟩

theorem parts_rel (K : GlobOk C) (G : Glob C s h w) {e : Env} {a : Act} (H : EnvRel s h w e a.tmps) {l : Array (Nat × Operand)} {ps : List (Nat × AV)}
    (hv : mapO (fun (p : Nat × Operand) => (evalA C e p.2).map (p.1, ·)) l.toList = some ps) :
    ps.length = (l.map fun (i, x) => (i, a.eval x)).size ∧ ∀ (i : Nat) p q, ps[i]? = some p → (l.map fun (i, x) => (i, a.eval x)).toList[i]? = some q → p.1 = q.1 ∧ VR s h w p.2 q.2 ∧ p.2 ≠ .junk := by
  obtain ⟨h1, h2⟩ := mapO_get hv
  refine ⟨by simp [h1], fun i p q hp hq => ?_⟩
  have hlt : i < l.toList.length := by rw [← h1]; exact (List.getElem?_eq_some_iff.1 hp).1
  obtain ⟨b, hb, hfb⟩ := h2 i l.toList[i] (List.getElem?_eq_getElem hlt)
  rw [hp] at hb
  injection hb with hb; subst hb
  obtain ⟨v, hv, rfl⟩ := Option.map_eq_some_iff.1 hfb
  have hq' : q = (l.toList[i].1, a.eval l.toList[i].2) := by
    rw [Array.toList_map, List.getElem?_map, List.getElem?_eq_getElem hlt] at hq
    simp at hq
    exact hq.symm
  subst hq'
  exact ⟨rfl, evalA_rel G H hv, evalA_ne K hv⟩

theorem nilIA_rel (TT : TabOk P C) {op : BinOp} {t : Nat} {x y : Operand} (hn : nilI y = true) {v z : AV} {a : Act} (hv : VR s h w v (a.eval x)) (hz : nilIA C op t v = some z) :
    PRun P s h w (do eqGuard op t x y (a.eval x) (a.eval y); binOp op t (a.eval x) (a.eval y)) z := by
  have hy : y = .const .nilIface := by
    unfold nilI at hn
    split at hn
    · rfl
    · cases hn
  subst hy
  simp only [nilIA, Option.bind_eq_bind] at hz
  obtain ⟨ti, hti, hz⟩ := Option.bind_eq_some_iff.1 hz
  obtain ⟨d, hd, hok⟩ := (TT t ti hti).und
  generalize ti.td = td at hz hok
  generalize a.eval x = u at hv
  have he : a.eval (.const .nilIface) = .nilIface := rfl
  rw [he]
  have heq : ∀ (n : Nat) (u : Value) (b : Bool), (u = .nilIface ∧ b = true ∨ (∃ t v, u = .iface t v) ∧ b = false) → (∃ ms, d = .interface ms) → (Op.equalIn (n + 1) t u .nilIface).run P w = .ok b w := by
    rintro n u b (⟨rfl, rfl⟩ | ⟨⟨t', v', rfl⟩, rfl⟩) ⟨ms, rfl⟩ <;> simp only [Op.equalIn, Sem.run_bind, run_und hd, Result.andThen_ok] <;> rfl
  have hE : ∀ (u : Value) (b : Bool), (u = .nilIface ∧ b = true ∨ (∃ t v, u = .iface t v) ∧ b = false) → (∃ ms, d = .interface ms) → (Op.equal t u .nilIface).run P w = .ok b w := fun u b h1 h2 => heq 9999 u b h1 h2
  have hG : ∀ (u : Value), (u = .nilIface ∨ ∃ t v, u = .iface t v) → (eqGuard op t x (.const .nilIface) u .nilIface).run P w = .ok () w := by
    rintro u (rfl | ⟨t', v', rfl⟩) <;> cases op <;> first | rfl | (cases x <;> rfl)
  have hB : ∀ u : Value, (u = .nilIface ∨ ∃ t v, u = .iface t v) → binOp .eql t u .nilIface = (do pure (.bool (← Op.equal t u .nilIface))) ∧ binOp .neq t u .nilIface = (do pure (.bool (!(← Op.equal t u .nilIface)))) := by
    rintro u (rfl | ⟨t', v', rfl⟩) <;> exact ⟨rfl, rfl⟩
  have fin : ∀ (b : Bool), (u = .nilIface ∧ b = true ∨ (∃ t v, u = .iface t v) ∧ b = false) → (∃ ms, d = .interface ms) →
      (op = .eql → PRun P s h w (do eqGuard op t x (.const .nilIface) u .nilIface; binOp op t u .nilIface) (.bool b)) ∧ (op = .neq → PRun P s h w (do eqGuard op t x (.const .nilIface) u .nilIface; binOp op t u .nilIface) (.bool !b)) := by
    intro b h1 h2
    have h3 : u = .nilIface ∨ ∃ t v, u = .iface t v := by rcases h1 with ⟨h, _⟩ | ⟨h, _⟩ <;> simp [h]
    have e := hE u b h1 h2
    refine ⟨fun ho => ⟨.bool b, ?_, .bool b⟩, fun ho => ⟨.bool !b, ?_, .bool !b⟩⟩
    · subst ho
      simp only [Sem.run_bind, hG u h3, Result.andThen_ok, (hB u h3).1, e, Sem.run_pure]
    · subst ho
      simp only [Sem.run_bind, hG u h3, Result.andThen_ok, (hB u h3).2, e, Sem.run_pure]
  have hif : td = .iface → ∃ ms, d = .interface ms := by
    rintro rfl
    cases d <;> simp only [TD.ok] at hok
    exact ⟨_, rfl⟩
  split at hz <;> first | (cases hz; done) | skip
  · simp only [Option.some.injEq] at hz
    subst hz
    cases hv
    exact (fin true (.inl ⟨rfl, rfl⟩) (hif rfl)).1 rfl
  · simp only [Option.some.injEq] at hz
    subst hz
    cases hv
    exact (fin false (.inr ⟨⟨_, _, rfl⟩, rfl⟩) (hif rfl)).1 rfl
  · simp only [Option.some.injEq] at hz
    subst hz
    cases hv
    exact (fin true (.inl ⟨rfl, rfl⟩) (hif rfl)).2 rfl
  · simp only [Option.some.injEq] at hz
    subst hz
    cases hv
    exact (fin false (.inr ⟨⟨_, _, rfl⟩, rfl⟩) (hif rfl)).2 rfl

theorem op_sound (TT : TabOk P C) (K : GlobOk C) (R : Rel s h w) (G : Glob C s h w) {f : Nat} {e : Env} {a : Act} (H : EnvRel s h w e a.tmps) {o : Oper} {v : AV} {h' : Heap} (hv : opA C f e h o = some (v, h')) :
    ORun P s h w (execOp a.eval o) v h' := by
  have ev : ∀ {x : Operand} {v : AV}, evalA C e x = some v → VR s h w v (a.eval x) := fun hx => evalA_rel G H hx
  have ob : ∀ {lo : Option Operand} {x : Option AV}, optA C e lo = some x → VRo s h w x (lo.map a.eval) := by
    intro lo x hx
    cases lo with
    | none => simp only [optA, Option.some.injEq] at hx; subst hx; trivial
    | some l =>
      obtain ⟨y, hy, rfl⟩ := Option.map_eq_some_iff.1 hx
      exact ev hy
  unfold opA at hv
  simp only [Option.bind_eq_bind] at hv
  unfold execOp
  generalize ho : o.op = op at hv
  cases op <;> (try simp only [reduceCtorEq] at hv)
  case move x =>
    replace hv := Option.bind_eq_some_iff.1 hv
    obtain ⟨y, hy, hv⟩ := hv
    simp only [Option.some.injEq, Prod.mk.injEq] at hv
    obtain ⟨rfl, rfl⟩ := hv
    exact (ev hy).op R
  case assign x =>
    replace hv := Option.bind_eq_some_iff.1 hv
    obtain ⟨y, hy, hv⟩ := hv
    simp only [Option.some.injEq, Prod.mk.injEq] at hv
    obtain ⟨rfl, rfl⟩ := hv
    exact (ev hy).op R
  case pick c x y =>
    replace hv := Option.bind_eq_some_iff.1 hv
    obtain ⟨t, ht, hv⟩ := hv
    have hc := ev ht
    split at hv
    all_goals (try (cases hv; done))
    all_goals
      replace hv := Option.bind_eq_some_iff.1 hv
      obtain ⟨z, hz, hv⟩ := hv
      simp only [Option.some.injEq, Prod.mk.injEq] at hv
      obtain ⟨rfl, rfl⟩ := hv
      generalize hce : a.eval c = ce at hc
      cases hc
      have hzr := ev hz
      exact ⟨s, w, .value _, _, by simp [hce, asBool], .inl rfl, Ext.refl _ _ _, R, hzr⟩
  case alloc t =>
    replace hv := Option.bind_eq_some_iff.1 hv
    obtain ⟨ti, hti, hv⟩ := hv
    split at hv
    · simp only [Option.some.injEq, Prod.mk.injEq] at hv
      obtain ⟨rfl, rfl⟩ := hv
      exact (alloc_rel TT R hti).op
    · cases hv
  case box t x =>
    replace hv := Option.bind_eq_some_iff.1 hv
    obtain ⟨ti, hti, hv⟩ := hv
    replace hv := Option.bind_eq_some_iff.1 hv
    obtain ⟨y, hy, hv⟩ := hv
    split at hv
    · split at hv
      · simp only [Option.some.injEq, Prod.mk.injEq] at hv
        obtain ⟨rfl, rfl⟩ := hv
        exact (boxImm_rel R t (ev hy) (evalA_ne K hy)).op
      · simp only [Option.some.injEq, Prod.mk.injEq] at hv
        obtain ⟨rfl, rfl⟩ := hv
        exact (box_rel R t (ev hy) (evalA_ne K hy)).op
    · cases hv
  case build t ps =>
    replace hv := Option.bind_eq_some_iff.1 hv
    obtain ⟨qs, hqs, hv⟩ := hv
    replace hv := Option.bind_eq_some_iff.1 hv
    obtain ⟨y, hy, hv⟩ := hv
    simp only [Option.some.injEq, Prod.mk.injEq] at hv
    obtain ⟨rfl, rfl⟩ := hv
    obtain ⟨h1, h2⟩ := parts_rel K G H hqs
    exact (build_rel TT h1 h2 hy).op R
  case buildSlice t len ps =>
    replace hv := Option.bind_eq_some_iff.1 hv
    obtain ⟨qs, hqs, hv⟩ := hv
    replace hv := Option.bind_eq_some_iff.1 hv
    obtain ⟨ti, hti, hv⟩ := hv
    obtain ⟨h1, h2⟩ := parts_rel K G H hqs
    generalize htd : ti.td = td at hv
    cases td <;> simp only [reduceCtorEq] at hv
    case slice el =>
      replace hv := Option.bind_eq_some_iff.1 hv
      obtain ⟨te, hte, hv⟩ := hv
      split at hv
      · cases hv
      rename_i hc
      simp only [Bool.or_eq_true, bne_iff_ne, ne_eq, decide_eq_true_eq, not_or, Decidable.not_not, Nat.not_lt] at hc
      replace hv := Option.bind_eq_some_iff.1 hv
      obtain ⟨cs, hcs, hv⟩ := hv
      obtain ⟨k1, k2⟩ := buildSlice_rel TT R hti htd hte hc.1 hc.2 h1 h2 hcs
      split at hv
      · simp only [Option.some.injEq, Prod.mk.injEq] at hv
        obtain ⟨rfl, rfl⟩ := hv
        exact k1.op
      · simp only [Option.some.injEq, Prod.mk.injEq] at hv
        obtain ⟨rfl, rfl⟩ := hv
        exact k2.op
  case load t x =>
    replace hv := Option.bind_eq_some_iff.1 hv
    obtain ⟨y, hy, hv⟩ := hv
    split at hv
    · cases hv
    replace hv := Option.bind_eq_some_iff.1 hv
    obtain ⟨z, hz, hv⟩ := hv
    simp only [Option.some.injEq, Prod.mk.injEq] at hv
    obtain ⟨rfl, rfl⟩ := hv
    unfold loadA at hz
    simp only [Option.bind_eq_bind] at hz
    replace hz := Option.bind_eq_some_iff.1 hz
    obtain ⟨ti, hti, hz⟩ := hz
    replace hz := Option.bind_eq_some_iff.1 hz
    obtain ⟨cs, hcs, hz⟩ := hz
    exact PRun.op R (load_rel R (TT t ti hti) (ev hy) hcs hz)
  case store t x y =>
    replace hv := Option.bind_eq_some_iff.1 hv
    obtain ⟨x', hx, hv⟩ := hv
    replace hv := Option.bind_eq_some_iff.1 hv
    obtain ⟨y', hy, hv⟩ := hv
    replace hv := Option.bind_eq_some_iff.1 hv
    obtain ⟨z, hz, hv⟩ := hv
    simp only [Option.some.injEq, Prod.mk.injEq] at hv
    obtain ⟨rfl, rfl⟩ := hv
    obtain ⟨w', h1, h2, h3⟩ := store_rel TT R (ev hx) (ev hy) hz
    exact ⟨s, w', .skip, undef, by simp [h1], .inr ⟨rfl, rfl⟩, h2, h3, .tup [] #[] rfl fun i c hi => by simp at hi⟩
  case nilCheck x =>
    replace hv := Option.bind_eq_some_iff.1 hv
    obtain ⟨y, hy, hv⟩ := hv
    have hyr := ev hy
    generalize hax : a.eval x = ax at hyr
    cases y <;> simp only [reduceCtorEq] at hv
    case ptr o off g =>
      split at hv
      · rename_i hl
        simp only [Option.some.injEq, Prod.mk.injEq] at hv
        obtain ⟨rfl, rfl⟩ := hv
        have hyr' := hyr
        cases hyr with
        | ptr _ _ _ b h1 h2 => exact ⟨s, w, .value _, _, by simp only [hax]; rfl, .inl rfl, Ext.refl _ _ _, R, hyr'⟩
        | ptrOld _ _ _ g' a h1 h2 => have := genOf_live hl; rw [this] at h1; injection h1; omega
      · cases hv
    case ref cs =>
      simp only [Option.some.injEq, Prod.mk.injEq] at hv
      obtain ⟨rfl, rfl⟩ := hv
      have hyr' := hyr
      cases hyr
      exact ⟨s, w, .value _, _, by simp only [hax]; rfl, .inl rfl, Ext.refl _ _ _, R, hyr'⟩
    case clo g cs =>
      simp only [Option.some.injEq, Prod.mk.injEq] at hv
      obtain ⟨rfl, rfl⟩ := hv
      have hyr' := hyr
      cases hyr
      exact ⟨s, w, .value _, _, by simp only [hax]; rfl, .inl rfl, Ext.refl _ _ _, R, hyr'⟩
    case bnd g cs =>
      simp only [Option.some.injEq, Prod.mk.injEq] at hv
      obtain ⟨rfl, rfl⟩ := hv
      have hyr' := hyr
      cases hyr
      exact ⟨s, w, .value _, _, by simp only [hax]; rfl, .inl rfl, Ext.refl _ _ _, R, hyr'⟩
    case yld l =>
      simp only [Option.some.injEq, Prod.mk.injEq] at hv
      obtain ⟨rfl, rfl⟩ := hv
      have hyr' := hyr
      cases hyr <;>
      exact ⟨s, w, .value _, _, by simp only [hax]; rfl, .inl rfl, Ext.refl _ _ _, R, hyr'⟩
  case binOp bop t x y t' =>
    replace hv := Option.bind_eq_some_iff.1 hv
    obtain ⟨x', hx, hv⟩ := hv
    split at hv
    · rename_i hn
      replace hv := Option.bind_eq_some_iff.1 hv
      obtain ⟨z, hz, hv⟩ := hv
      simp only [Option.some.injEq, Prod.mk.injEq] at hv
      obtain ⟨rfl, rfl⟩ := hv
      exact PRun.op R (nilIA_rel TT hn (ev hx) hz)
    replace hv := Option.bind_eq_some_iff.1 hv
    obtain ⟨y', hy, hv⟩ := hv
    replace hv := Option.bind_eq_some_iff.1 hv
    obtain ⟨z, hz, hv⟩ := hv
    simp only [Option.some.injEq, Prod.mk.injEq] at hv
    obtain ⟨rfl, rfl⟩ := hv
    exact PRun.op R (bin_rel TT (fun hf hu hv hp => (flat_equal (TT.flat _ _ hf) hu hv hp w).1) (ev hx) (ev hy) hz)
  case unOp uop t x =>
    replace hv := Option.bind_eq_some_iff.1 hv
    obtain ⟨x', hx, hv⟩ := hv
    replace hv := Option.bind_eq_some_iff.1 hv
    obtain ⟨z, hz, hv⟩ := hv
    simp only [Option.some.injEq, Prod.mk.injEq] at hv
    obtain ⟨rfl, rfl⟩ := hv
    exact PRun.op R (un_rel (ev hx) hz)
  case convert src dst x =>
    replace hv := Option.bind_eq_some_iff.1 hv
    obtain ⟨x', hx, hv⟩ := hv
    replace hv := Option.bind_eq_some_iff.1 hv
    obtain ⟨z, hz, hv⟩ := hv
    simp only [Option.some.injEq, Prod.mk.injEq] at hv
    obtain ⟨rfl, rfl⟩ := hv
    exact (convH_rel TT R (ev hx) hz).op
  case makeInterface t x =>
    replace hv := Option.bind_eq_some_iff.1 hv
    obtain ⟨ti, hti, hv⟩ := hv
    obtain ⟨d, hd, hok⟩ := (TT t ti hti).und
    generalize ti.td = td at hok hv
    have hv' : ∃ y, evalA C e x = some y ∧ (AV.iface t y, h) = (v, h') := by
      cases td <;> first | (cases hv; done) | (
        replace hv := Option.bind_eq_some_iff.1 hv
        obtain ⟨y, hy, hv⟩ := hv
        injection hv with hv
        exact ⟨y, hy, hv⟩)
    have hni : td ≠ .iface := by rintro rfl; cases hv
    obtain ⟨y, hy, hv⟩ := hv'
    simp only [Prod.mk.injEq] at hv
    obtain ⟨rfl, rfl⟩ := hv
    refine PRun.op R ⟨.iface t (a.eval x), ?_, .iface t y _ (ev hy)⟩
    simp only [Instr.makeInterface, Sem.run_bind, run_und hd, Result.andThen_ok]
    cases d <;> cases td <;> first | rfl | exact False.elim hok | exact absurd rfl hni
  case typeAssert x xt t ok =>
    cases ok <;> simp only [reduceCtorEq] at hv
    replace hv := Option.bind_eq_some_iff.1 hv
    obtain ⟨ti, hti, hv⟩ := hv
    replace hv := Option.bind_eq_some_iff.1 hv
    obtain ⟨y, hy, hv⟩ := hv
    replace hv := Option.bind_eq_some_iff.1 hv
    obtain ⟨z, hz, hv⟩ := hv
    have hyr := ev hy
    obtain ⟨zu, hzu, hzr⟩ := zero_whole (s := s) (h := h) (w := w) (TT t ti hti) hz
    obtain ⟨d, hd, hok⟩ := (TT t ti hti).und
    generalize hax : a.eval x = u at hyr
    have hni : ∀ ms, d = .interface ms → ti.td = .iface := by
      rintro ms rfl
      generalize ti.td = td at hok
      cases td <;> first | rfl | exact hok.elim
    have two : ∀ {p q : AV} {pu qu : Value}, VR s h w p pu → VR s h w q qu → VR s h w (.tup [p, q]) (.tuple #[pu, qu]) := fun hp hq => .tup _ _ rfl fun i c hi => by
      match i with
      | 0 => simp at hi; subst hi; exact hp
      | 1 => simp at hi; subst hi; exact hq
      | i + 2 => simp at hi
    split at hv <;> first | (cases hv; done) | skip
    · rename_i t' u' hnif
      simp only [Option.some.injEq, Prod.mk.injEq] at hv
      obtain ⟨rfl, rfl⟩ := hv
      cases hyr with
      | iface _ _ uu hr =>
      by_cases ht : t' = t
      · subst ht
        refine PRun.op R ⟨.tuple #[uu, .bool true], ?_, by simpa using two hr (.bool true)⟩
        simp only [hax, Instr.typeAssert, Sem.run_bind, run_und hd, Result.andThen_ok]
        cases d <;> first | exact absurd (hni _ rfl) hnif | rfl | simp
      · refine PRun.op R ⟨.tuple #[zu, .bool false], ?_, by simpa [ht] using two hzr (.bool false)⟩
        simp only [hax, Instr.typeAssert, Sem.run_bind, run_und hd, Result.andThen_ok]
        cases d <;> first | exact absurd (hni _ rfl) hnif | simp [ht, hzu]
    · rename_i hnif
      simp only [Option.some.injEq, Prod.mk.injEq] at hv
      obtain ⟨rfl, rfl⟩ := hv
      cases hyr
      refine PRun.op R ⟨.tuple #[zu, .bool false], ?_, two hzr (.bool false)⟩
      simp only [hax, Instr.typeAssert, Sem.run_bind, run_und hd, Result.andThen_ok]
      cases d <;> first | exact absurd (hni _ rfl) hnif | simp [hzu]
  case makeFunc fn first caps =>
    cases fn <;> simp only [reduceCtorEq] at hv
    case func g =>
      split at hv
      · rename_i hf
        replace hv := Option.bind_eq_some_iff.1 hv
        obtain ⟨cs, hcs, hv⟩ := hv
        simp only [Option.some.injEq, Prod.mk.injEq] at hv
        obtain ⟨rfl, rfl⟩ := hv
        have hfe : first = #[] := by simpa using hf
        have hr := args_rel G H hcs
        refine PRun.op R ⟨.func (.func g) #[] (caps.map a.eval), by simp [Instr.makeFunc, hfe], .clo g cs _ (by have := hr.1; simpa using this) fun i c hi => ?_⟩
        obtain ⟨u, hu, hur⟩ := hr.2 i c hi
        have : (caps.map a.eval)[i]? = some u := by rw [← Array.getElem?_toList, Array.toList_map]; exact hu
        rw [Array.getD_eq_getD_getElem?, this]
        exact hur
      · split at hv
        · rename_i hg
          replace hv := Option.bind_eq_some_iff.1 hv
          obtain ⟨cs, hcs, hv⟩ := hv
          simp only [Option.some.injEq, Prod.mk.injEq] at hv
          obtain ⟨rfl, rfl⟩ := hv
          have hce : caps = #[] := by simpa using hg
          have hr := args_rel G H hcs
          refine PRun.op R ⟨.func (.func g) (first.map a.eval) #[], by simp [Instr.makeFunc, hce], .bnd g cs _ (by have := hr.1; simpa using this) fun i c hi => ?_⟩
          obtain ⟨u, hu, hur⟩ := hr.2 i c hi
          have : (first.map a.eval)[i]? = some u := by rw [← Array.getElem?_toList, Array.toList_map]; exact hu
          rw [Array.getD_eq_getD_getElem?, this]
          exact hur
        · cases hv
  case makeSlice t l c =>
    replace hv := Option.bind_eq_some_iff.1 hv
    obtain ⟨l', hl, hv⟩ := hv
    replace hv := Option.bind_eq_some_iff.1 hv
    obtain ⟨c', hc, hv⟩ := hv
    exact (makeSlice_rel TT R (ev hl) (ev hc) hv).op
  case makeMap t r =>
    cases r <;> simp only [reduceCtorEq] at hv
    replace hv := Option.bind_eq_some_iff.1 hv
    obtain ⟨ti, hti, hv⟩ := hv
    simp only [Option.some.injEq, Prod.mk.injEq] at hv
    obtain ⟨rfl, rfl⟩ := hv
    exact (makeMap_rel R t).op
  case range t x =>
    replace hv := Option.bind_eq_some_iff.1 hv
    obtain ⟨ti, hti, hv⟩ := hv
    replace hv := Option.bind_eq_some_iff.1 hv
    obtain ⟨x', hx, hv⟩ := hv
    split at hv
    all_goals first | cases hv; done | skip
    rename_i o htd
    replace hv := Option.bind_eq_some_iff.1 hv
    obtain ⟨es, hes, hv⟩ := hv
    simp only [Option.some.injEq, Prod.mk.injEq] at hv
    obtain ⟨rfl, rfl⟩ := hv
    exact (range_rel TT R hti htd (ev hx) hes).op
  case entry x =>
    replace hv := Option.bind_eq_some_iff.1 hv
    obtain ⟨x', hx, hv⟩ := hv
    split at hv
    all_goals first | cases hv; done | skip
    rename_i o
    replace hv := Option.bind_eq_some_iff.1 hv
    obtain ⟨⟨q1, q2⟩, hp, hv⟩ := hv
    split at hv
    all_goals first | cases hv; done | skip
    rename_i p heq
    simp only [Prod.mk.injEq] at heq
    obtain ⟨rfl, rfl⟩ := heq
    simp only [Option.some.injEq, Prod.mk.injEq] at hv
    obtain ⟨rfl, rfl⟩ := hv
    exact (entry_rel R hp (ev hx)).op
  case lookup t x k ok =>
    replace hv := Option.bind_eq_some_iff.1 hv
    obtain ⟨x', hx, hv⟩ := hv
    replace hv := Option.bind_eq_some_iff.1 hv
    obtain ⟨k', hk, hv⟩ := hv
    replace hv := Option.bind_eq_some_iff.1 hv
    obtain ⟨z, hz, hv⟩ := hv
    simp only [Option.some.injEq, Prod.mk.injEq] at hv
    obtain ⟨rfl, rfl⟩ := hv
    exact PRun.op R (lookup_rel TT R (ev hx) (ev hk) hz)
  case mapUpdate t m k x =>
    replace hv := Option.bind_eq_some_iff.1 hv
    obtain ⟨m', hm, hv⟩ := hv
    replace hv := Option.bind_eq_some_iff.1 hv
    obtain ⟨k', hk, hv⟩ := hv
    replace hv := Option.bind_eq_some_iff.1 hv
    obtain ⟨x', hx, hv⟩ := hv
    replace hv := Option.bind_eq_some_iff.1 hv
    obtain ⟨z, hz, hv⟩ := hv
    simp only [Option.some.injEq, Prod.mk.injEq] at hv
    obtain ⟨rfl, rfl⟩ := hv
    obtain ⟨w', h1, h2, h3⟩ := update_rel TT R (ev hm) (ev hk) (ev hx) hz
    exact ⟨s, w', .skip, undef, by simp [h1], .inr ⟨rfl, rfl⟩, h2, h3, .tup [] #[] rfl fun i c hi => by simp at hi⟩
  case insert t m k x =>
    replace hv := Option.bind_eq_some_iff.1 hv
    obtain ⟨m', hm, hv⟩ := hv
    replace hv := Option.bind_eq_some_iff.1 hv
    obtain ⟨k', hk, hv⟩ := hv
    replace hv := Option.bind_eq_some_iff.1 hv
    obtain ⟨x', hx, hv⟩ := hv
    replace hv := Option.bind_eq_some_iff.1 hv
    obtain ⟨z, hz, hv⟩ := hv
    simp only [Option.some.injEq, Prod.mk.injEq] at hv
    obtain ⟨rfl, rfl⟩ := hv
    obtain ⟨w', h1, h2, h3⟩ := update_rel TT R (ev hm) (ev hk) (ev hx) hz
    exact ⟨s, w', .skip, undef, by simp [h1], .inr ⟨rfl, rfl⟩, h2, h3, .tup [] #[] rfl fun i c hi => by simp at hi⟩
  case slice t x lo hi mx =>
    replace hv := Option.bind_eq_some_iff.1 hv
    obtain ⟨lo', hlo, hv⟩ := hv
    replace hv := Option.bind_eq_some_iff.1 hv
    obtain ⟨hi', hhi, hv⟩ := hv
    split at hv
    · cases hv
    rename_i hmx
    have hmx' : mx = none := by simpa using hmx
    subst hmx'
    replace hv := Option.bind_eq_some_iff.1 hv
    obtain ⟨x', hx, hv⟩ := hv
    replace hv := Option.bind_eq_some_iff.1 hv
    obtain ⟨z, hz, hv⟩ := hv
    simp only [Option.some.injEq, Prod.mk.injEq] at hv
    obtain ⟨rfl, rfl⟩ := hv
    exact PRun.op R (slice_rel TT R (ev hx) (ob hlo) (ob hhi) hz)
  case fieldAddr t x k =>
    replace hv := Option.bind_eq_some_iff.1 hv
    obtain ⟨x', hx, hv⟩ := hv
    replace hv := Option.bind_eq_some_iff.1 hv
    obtain ⟨z, hz, hv⟩ := hv
    simp only [Option.some.injEq, Prod.mk.injEq] at hv
    obtain ⟨rfl, rfl⟩ := hv
    exact PRun.op R (fieldAddr_rel TT (ev hx) hz)
  case field t x k =>
    replace hv := Option.bind_eq_some_iff.1 hv
    obtain ⟨x', hx, hv⟩ := hv
    replace hv := Option.bind_eq_some_iff.1 hv
    obtain ⟨z, hz, hv⟩ := hv
    simp only [Option.some.injEq, Prod.mk.injEq] at hv
    obtain ⟨rfl, rfl⟩ := hv
    exact PRun.op R (field_rel TT (ev hx) hz)
  case indexAddr t x i =>
    replace hv := Option.bind_eq_some_iff.1 hv
    obtain ⟨x', hx, hv⟩ := hv
    replace hv := Option.bind_eq_some_iff.1 hv
    obtain ⟨i', hi, hv⟩ := hv
    replace hv := Option.bind_eq_some_iff.1 hv
    obtain ⟨z, hz, hv⟩ := hv
    simp only [Option.some.injEq, Prod.mk.injEq] at hv
    obtain ⟨rfl, rfl⟩ := hv
    exact PRun.op R (indexAddr_rel TT (ev hx) (ev hi) hz)
  case index t x i =>
    replace hv := Option.bind_eq_some_iff.1 hv
    obtain ⟨x', hx, hv⟩ := hv
    replace hv := Option.bind_eq_some_iff.1 hv
    obtain ⟨i', hi, hv⟩ := hv
    replace hv := Option.bind_eq_some_iff.1 hv
    obtain ⟨z, hz, hv⟩ := hv
    simp only [Option.some.injEq, Prod.mk.injEq] at hv
    obtain ⟨rfl, rfl⟩ := hv
    exact PRun.op R (index_rel TT (ev hx) (ev hi) hz)
  case extract x i =>
    replace hv := Option.bind_eq_some_iff.1 hv
    obtain ⟨x', hx, hv⟩ := hv
    cases x' <;> simp only [reduceCtorEq] at hv
    case tup vs =>
      replace hv := Option.bind_eq_some_iff.1 hv
      obtain ⟨z, hz, hv⟩ := hv
      simp only [Option.some.injEq, Prod.mk.injEq] at hv
      obtain ⟨rfl, rfl⟩ := hv
      have hxr := ev hx
      generalize hax : a.eval x = ax at hxr
      cases hxr with
      | tup _ us hl hr =>
        have hlt : i < us.size := by rw [← hl]; exact (List.getElem?_eq_some_iff.1 hz).1
        refine PRun.op R ⟨us[i], by simp [Instr.extract, hax, hlt], ?_⟩
        have := hr i z hz
        simpa [hlt] using this
  case call c =>
    obtain ⟨callee, args, argTypes⟩ := c
    cases callee <;> simp only [reduceCtorEq] at hv
    case builtin b =>
      replace hv := Option.bind_eq_some_iff.1 hv
      obtain ⟨vs, hvs, hv⟩ := hv
      have hr := args_rel G H hvs
      have hmap : args.map a.eval = (args.toList.map a.eval).toArray := by apply Array.ext'; simp
      split at hv
      · -- len
        rename_i x
        obtain ⟨y, hy⟩ : ∃ y, args.toList.map a.eval = [y] := by
          have := hr.1
          simp only [List.length_cons, List.length_nil] at this
          exact List.length_eq_one_iff.1 this.symm
        rw [hy] at hr
        have hxy := hr.tail.1
        replace hv := Option.bind_eq_some_iff.1 hv
        obtain ⟨t, hat, hv⟩ := hv
        replace hv := Option.bind_eq_some_iff.1 hv
        obtain ⟨ti, hti, hv⟩ := hv
        replace hv := Option.bind_eq_some_iff.1 hv
        obtain ⟨n, hn, hv⟩ := hv
        simp only [Option.some.injEq, Prod.mk.injEq] at hv
        obtain ⟨rfl, rfl⟩ := hv
        obtain ⟨d, hd, hok⟩ := (TT t ti hti).und
        refine ⟨s, w, .value (.int .i64 n), _, ?_, .inl rfl, Ext.refl _ _ _, R, .int _ _⟩
        have hres : (Builtin.len_ argTypes o.type #[y]).run P w = .ok (.int .i64 n) w := by
          simp only [Builtin.len_, hat, List.getElem?_toArray, List.getElem?_cons_zero, Sem.run_bind, Sem.run_pure, Result.andThen_ok, run_und hd]
          generalize ti.td = td at hok hn
          cases td <;> cases x <;> simp only [lenA, reduceCtorEq, Option.some.injEq] at hn
          case slice.lst e xs z r =>
            subst hn
            cases d <;> simp only [TD.ok] at hok
            cases hxy <;> rfl
          case slice.msl e o off len sz g cap =>
            split at hn
            · rename_i hl
              injection hn with hn; subst hn
              cases d <;> simp only [TD.ok] at hok
              cases hxy with
              | msl => rfl
              | mslOld _ _ _ _ _ _ g' a n c h1 h2 => have := genOf_live hl; rw [this] at h1; injection h1; omega
            · cases hn
          case str.str l =>
            subst hn
            cases d <;> simp only [TD.ok] at hok
            cases hxy
            simp [ByteArray.size, goInt]
          case map.nilMap =>
            subst hn
            cases d <;> simp only [TD.ok] at hok
            cases hxy
            rfl
          case map.map ol =>
            split at hn
            · rename_i es hes
              injection hn with hn; subst hn
              cases d <;> simp only [TD.ok] at hok
              obtain ⟨b, en, cl, es0, rfl, hb, hh, hp0, hE, hSt⟩ := map_obj R (o := ol) (es := es) (by unfold Heap.mapAt; rw [hes]) hxy
              have := hE.1
              rw [hp0.1.length_eq] at this
              simp only [Sem.run_bind, run_getMap hh, Result.andThen_ok, goInt, Sem.run_pure]
              simp at this
              rw [this]
            · cases hn
        simp only [resolve, hmap, hy, Sem.run_bind, Sem.run_pure, Result.andThen_ok, invoke, builtin, hres]
      · -- append
        rename_i sv yv
        split at hv
        · rename_i t t' hats
          obtain ⟨us, uy, hy⟩ : ∃ us uy, args.toList.map a.eval = [us, uy] := by
            have := hr.1
            simp only [List.length_cons, List.length_nil] at this
            generalize args.toList.map a.eval = l at this
            match l, this with
            | [us, uy], _ => exact ⟨us, uy, rfl⟩
          rw [hy] at hr
          split at hv
          · have hat : argTypes = #[t, t'] := by apply Array.ext'; simpa using hats
            have key := appendZ_rel TT R hr.tail.1 hr.tail.2.tail.1 hv o.type
            obtain ⟨s', w', x, h1, h2, h3, h4⟩ := key
            refine ⟨s', w', .value x, x, ?_, .inl rfl, h2, h3, h4⟩
            simp only [resolve, hmap, hy, hat, Sem.run_bind, Sem.run_pure, Result.andThen_ok, invoke, builtin]
            rw [show ([us, uy] : List Value).toArray = #[us, uy] from rfl, h1]
            rfl
          rename_i htt
          have htt' : t = t' := by simpa using htt
          subst htt'
          have hat : argTypes = #[t, t] := by apply Array.ext'; simpa using hats
          replace hv := Option.bind_eq_some_iff.1 hv
          obtain ⟨ti, hti, hv⟩ := hv
          obtain ⟨d, hd, hok⟩ := (TT t ti hti).und
          generalize ti.td = td at hok hv
          cases td <;> simp only [reduceCtorEq] at hv
          case slice el =>
            replace hv := Option.bind_eq_some_iff.1 hv
            obtain ⟨te, hte, hv⟩ := hv
            replace hv := Option.bind_eq_some_iff.1 hv
            obtain ⟨ys, hys, hv⟩ := hv
            cases d <;> simp only [TD.ok] at hok
            rw [hok] at hd
            have key := append_rel TT R hd hte hr.tail.1 hr.tail.2.tail.1 hys hv o.type
            obtain ⟨s', w', x, h1, h2, h3, h4⟩ := key
            refine ⟨s', w', .value x, x, ?_, .inl rfl, h2, h3, h4⟩
            simp only [resolve, hmap, hy, hat, Sem.run_bind, Sem.run_pure, Result.andThen_ok, invoke, builtin]
            rw [show ([us, uy] : List Value).toArray = #[us, uy] from rfl, h1]
            rfl
        · cases hv
      · -- the others
        obtain ⟨m, hm, hR⟩ := more_rel TT R hr hv o.type
        obtain ⟨s', w', x, h1, h2, h3, h4⟩ := hR
        refine ⟨s', w', .value x, x, ?_, .inl rfl, h2, h3, h4⟩
        have harr : argTypes.toList.toArray = argTypes := by simp
        rw [harr] at hm
        simp only [resolve, hmap, Sem.run_bind, Sem.run_pure, Result.andThen_ok, invoke, hm, h1]
end
end Go.Rv
