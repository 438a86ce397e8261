/-
  All operations together.
-/
import Derived.Test.YtegcmgjdaoiaoaaGreatDoorPtA
import Derived.LoopNIn
import Derived.RangeFuncRecord
import Derived.OrdersIn
import Derived.Orders
import Derived.Scope
import Derived.RangeFuncLeaves
import Derived.ChangeSame
import Derived.RowKit3
import Derived.JoinedOf
import Derived.JoinedAt
import Derived.Lib.SmallJoins
set_option linter.unusedSectionVars false
set_option linter.unusedSimpArgs false
set_option linter.unusedVariables false
set_option linter.defProp false
set_option linter.unusedSimpArgs false
set_option linter.unusedVariables false
namespace Go.Rv
section
variable {P : Program} {C : Cfg} {s : Sim} {h : Heap} {w : World}

def GlobOk (C : Cfg) : Prop := ∀ g v, C.glob g = some v → v ≠ .junk

theorem evalA_ne (K : GlobOk C) {e : Env} {x : Operand} {v : AV} (hv : evalA C e x = some v) : v ≠ .junk := by
  cases x with
  | tmp t =>
    simp only [evalA] at hv
    split at hv
    · cases hv
    · rename_i hne
      injection hv with hv
      subst hv
      exact hne
  | const c =>
    simp only [evalA] at hv
    rintro rfl
    unfold ofValue at hv
    repeat' split at hv
    all_goals cases hv
  | global g => exact K g v hv
  | func f =>
    simp only [evalA, Option.some.injEq] at hv
    subst hv
    simp

/-- What an operation comes to. -/
def ORun (P : Program) (s : Sim) (h : Heap) (w : World) (m : Sem Next) (v : AV) (h' : Heap) : Prop :=
  ∃ s' w' n u, m.run P w = .ok n w' ∧ (n = .value u ∨ (n = .skip ∧ u = undef)) ∧ Ext s h w s' h' w' ∧ Rel s' h' w' ∧ VR s' h' w' v u

theorem HRun.op {m : Sem Value} {v : AV} {h' : Heap} (H : HRun P s h w m v h') : ORun P s h w (do pure (Next.value (← m))) v h' := by
  obtain ⟨s', w', x, h1, h2, h3, h4⟩ := H
  exact ⟨s', w', .value x, x, by simp [h1], .inl rfl, h2, h3, h4⟩
theorem PRun.op (R : Rel s h w) {m : Sem Value} {v : AV} (H : PRun P s h w m v) : ORun P s h w (do pure (Next.value (← m))) v h := (H.heap R).op
theorem VR.op (R : Rel s h w) {v : AV} {u : Value} (H : VR s h w v u) : ORun P s h w (pure (Next.value u)) v h :=
  ⟨s, w, .value u, u, rfl, .inl rfl, Ext.refl _ _ _, R, H⟩

theorem mapO_get {α β : Type} {f : α → Option β} : ∀ {l : List α} {r : List β}, mapO f l = some r → r.length = l.length ∧ ∀ (i : Nat) a, l[i]? = some a → ∃ b, r[i]? = some b ∧ f a = some b
  | [], r, hr => by
    simp only [mapO, Option.some.injEq] at hr
    subst hr
    exact ⟨rfl, fun i a hi => by simp at hi⟩
  | x :: l, r, hr => by
    simp only [mapO, Option.bind_eq_bind] at hr
    replace hr := Option.bind_eq_some_iff.1 hr
    obtain ⟨b, hb, hr⟩ := hr
    replace hr := Option.bind_eq_some_iff.1 hr
    obtain ⟨bs, hbs, hr⟩ := hr
    injection hr with hr; subst hr
    obtain ⟨h1, h2⟩ := mapO_get hbs
    refine ⟨by simp [h1], fun i a hi => ?_⟩
    cases i with
    | zero =>
      simp only [List.getElem?_cons_zero, Option.some.injEq] at hi
      subst hi
      exact ⟨b, rfl, hb⟩
    | succ i => simpa using h2 i a (by simpa using hi)

theorem args_rel (G : Glob C s h w) {e : Env} {a : Act} (H : EnvRel s h w e a.tmps) {l : List Operand} {vs : List AV} (hv : mapO (evalA C e) l = some vs) : VRs s h w vs (l.map a.eval) := by
  obtain ⟨h1, h2⟩ := mapO_get hv
  refine ⟨by simp [h1], fun i c hi => ?_⟩
  have hlt : i < l.length := by rw [← h1]; exact (List.getElem?_eq_some_iff.1 hi).1
  obtain ⟨b, hb, hfb⟩ := h2 i l[i] (List.getElem?_eq_getElem hlt)
  rw [hi] at hb
  injection hb with hb; subst hb
  exact ⟨a.eval l[i], by simp [hlt], evalA_rel G H hfb⟩

theorem parts_rel (K : GlobOk C) (G : Glob C s h w) {e : Env} {a : Act} (H : EnvRel s h w e a.tmps) {l : Array (Nat × Operand)} {ps : List (Nat × AV)}
    (hv : mapO (fun (p : Nat × Operand) => (evalA C e p.2).map (p.1, ·)) l.toList = some ps) :
    ps.length = (l.map fun (i, x) => (i, a.eval x)).size ∧ ∀ (i : Nat) p q, ps[i]? = some p → (l.map fun (i, x) => (i, a.eval x)).toList[i]? = some q → p.1 = q.1 ∧ VR s h w p.2 q.2 ∧ p.2 ≠ .junk := by
  obtain ⟨h1, h2⟩ := mapO_get hv
  refine ⟨by simp [h1], fun i p q hp hq => ?_⟩
  have hlt : i < l.toList.length := by rw [← h1]; exact (List.getElem?_eq_some_iff.1 hp).1
  obtain ⟨b, hb, hfb⟩ := h2 i l.toList[i] (List.getElem?_eq_getElem hlt)
  rw [hp] at hb
  injection hb with hb; subst hb
  obtain ⟨v, hv, rfl⟩ := Option.map_eq_some_iff.1 hfb
  have hq' : q = (l.toList[i].1, a.eval l.toList[i].2) := by
    rw [Array.toList_map, List.getElem?_map, List.getElem?_eq_getElem hlt] at hq
    simp at hq
    exact hq.symm
  subst hq'
  exact ⟨rfl, evalA_rel G H hv, evalA_ne K hv⟩

theorem op_sound (TT : TabOk P C) (K : GlobOk C) (R : Rel s h w) (G : Glob C s h w) {f : Nat} {e : Env} {a : Act} (H : EnvRel s h w e a.tmps) {o : Oper} {v : AV} {h' : Heap} (hv : opA C f e h o = some (v, h')) :
    ORun P s h w (execOp a.eval o) v h' := by
  have ev : ∀ {x : Operand} {v : AV}, evalA C e x = some v → VR s h w v (a.eval x) := fun hx => evalA_rel G H hx
  have ob : ∀ {lo : Option Operand} {x : Option AV}, optA C e lo = some x → VRo s h w x (lo.map a.eval) := by
    intro lo x hx
    cases lo with
    | none => simp only [optA, Option.some.injEq] at hx; subst hx; trivial
    | some l =>
      obtain ⟨y, hy, rfl⟩ := Option.map_eq_some_iff.1 hx
      exact ev hy
  unfold opA at hv
  simp only [Option.bind_eq_bind] at hv
  unfold execOp
  generalize ho : o.op = op at hv
  cases op <;> (try simp only [reduceCtorEq] at hv)
  case move x =>
    replace hv := Option.bind_eq_some_iff.1 hv
    obtain ⟨y, hy, hv⟩ := hv
    simp only [Option.some.injEq, Prod.mk.injEq] at hv
    obtain ⟨rfl, rfl⟩ := hv
    exact (ev hy).op R
  case assign x =>
    replace hv := Option.bind_eq_some_iff.1 hv
    obtain ⟨y, hy, hv⟩ := hv
    simp only [Option.some.injEq, Prod.mk.injEq] at hv
    obtain ⟨rfl, rfl⟩ := hv
    exact (ev hy).op R
  case pick c x y =>
    replace hv := Option.bind_eq_some_iff.1 hv
    obtain ⟨t, ht, hv⟩ := hv
    have hc := ev ht
    split at hv
    all_goals (try (cases hv; done))
    all_goals
      replace hv := Option.bind_eq_some_iff.1 hv
      obtain ⟨z, hz, hv⟩ := hv
      simp only [Option.some.injEq, Prod.mk.injEq] at hv
      obtain ⟨rfl, rfl⟩ := hv
      generalize hce : a.eval c = ce at hc
      cases hc
      have hzr := ev hz
      exact ⟨s, w, .value _, _, by simp [hce, asBool], .inl rfl, Ext.refl _ _ _, R, hzr⟩
  case alloc t =>
    replace hv := Option.bind_eq_some_iff.1 hv
    obtain ⟨ti, hti, hv⟩ := hv
    split at hv
    · simp only [Option.some.injEq, Prod.mk.injEq] at hv
      obtain ⟨rfl, rfl⟩ := hv
      exact (alloc_rel TT R hti).op
    · cases hv
  case box t x =>
    replace hv := Option.bind_eq_some_iff.1 hv
    obtain ⟨ti, hti, hv⟩ := hv
    replace hv := Option.bind_eq_some_iff.1 hv
    obtain ⟨y, hy, hv⟩ := hv
    split at hv
    · split at hv
      · simp only [Option.some.injEq, Prod.mk.injEq] at hv
        obtain ⟨rfl, rfl⟩ := hv
        exact (boxImm_rel R t (ev hy) (evalA_ne K hy)).op
      · simp only [Option.some.injEq, Prod.mk.injEq] at hv
        obtain ⟨rfl, rfl⟩ := hv
        exact (box_rel R t (ev hy) (evalA_ne K hy)).op
    · cases hv
  case build t ps =>
    replace hv := Option.bind_eq_some_iff.1 hv
    obtain ⟨qs, hqs, hv⟩ := hv
    replace hv := Option.bind_eq_some_iff.1 hv
    obtain ⟨y, hy, hv⟩ := hv
    simp only [Option.some.injEq, Prod.mk.injEq] at hv
    obtain ⟨rfl, rfl⟩ := hv
    obtain ⟨h1, h2⟩ := parts_rel K G H hqs
    exact (build_rel TT h1 h2 hy).op R
  case buildSlice t len ps =>
    replace hv := Option.bind_eq_some_iff.1 hv
    obtain ⟨qs, hqs, hv⟩ := hv
    replace hv := Option.bind_eq_some_iff.1 hv
    obtain ⟨ti, hti, hv⟩ := hv
    obtain ⟨h1, h2⟩ := parts_rel K G H hqs
    generalize htd : ti.td = td at hv
    cases td <;> simp only [reduceCtorEq] at hv
    case slice el =>
      replace hv := Option.bind_eq_some_iff.1 hv
      obtain ⟨te, hte, hv⟩ := hv
      split at hv
      · cases hv
      rename_i hc
      simp only [Bool.or_eq_true, bne_iff_ne, ne_eq, decide_eq_true_eq, not_or, Decidable.not_not, Nat.not_lt] at hc
      replace hv := Option.bind_eq_some_iff.1 hv
      obtain ⟨cs, hcs, hv⟩ := hv
      obtain ⟨k1, k2⟩ := buildSlice_rel TT R hti htd hte hc.1 hc.2 h1 h2 hcs
      split at hv
      · simp only [Option.some.injEq, Prod.mk.injEq] at hv
        obtain ⟨rfl, rfl⟩ := hv
        exact k1.op
      · simp only [Option.some.injEq, Prod.mk.injEq] at hv
        obtain ⟨rfl, rfl⟩ := hv
        exact k2.op
  case load t x =>
    replace hv := Option.bind_eq_some_iff.1 hv
    obtain ⟨y, hy, hv⟩ := hv
    split at hv
    · cases hv
    replace hv := Option.bind_eq_some_iff.1 hv
    obtain ⟨z, hz, hv⟩ := hv
    simp only [Option.some.injEq, Prod.mk.injEq] at hv
    obtain ⟨rfl, rfl⟩ := hv
    unfold loadA at hz
    simp only [Option.bind_eq_bind] at hz
    replace hz := Option.bind_eq_some_iff.1 hz
    obtain ⟨ti, hti, hz⟩ := hz
    replace hz := Option.bind_eq_some_iff.1 hz
    obtain ⟨cs, hcs, hz⟩ := hz
    exact PRun.op R (load_rel R (TT t ti hti) (ev hy) hcs hz)
  case store t x y =>
    replace hv := Option.bind_eq_some_iff.1 hv
    obtain ⟨x', hx, hv⟩ := hv
    replace hv := Option.bind_eq_some_iff.1 hv
    obtain ⟨y', hy, hv⟩ := hv
    replace hv := Option.bind_eq_some_iff.1 hv
    obtain ⟨z, hz, hv⟩ := hv
    simp only [Option.some.injEq, Prod.mk.injEq] at hv
    obtain ⟨rfl, rfl⟩ := hv
    obtain ⟨w', h1, h2, h3⟩ := store_rel TT R (ev hx) (ev hy) hz
    exact ⟨s, w', .skip, undef, by simp [h1], .inr ⟨rfl, rfl⟩, h2, h3, .tup [] #[] rfl fun i c hi => by simp at hi⟩
  case nilCheck x =>
    replace hv := Option.bind_eq_some_iff.1 hv
    obtain ⟨y, hy, hv⟩ := hv
    have hyr := ev hy
    generalize hax : a.eval x = ax at hyr
    cases y <;> simp only [reduceCtorEq] at hv
    case ptr o off g =>
      split at hv
      · rename_i hl
        simp only [Option.some.injEq, Prod.mk.injEq] at hv
        obtain ⟨rfl, rfl⟩ := hv
        have hyr' := hyr
        cases hyr with
        | ptr _ _ _ b h1 h2 => exact ⟨s, w, .value _, _, by simp only [hax]; rfl, .inl rfl, Ext.refl _ _ _, R, hyr'⟩
        | ptrOld _ _ _ g' a h1 h2 => have := genOf_live hl; rw [this] at h1; injection h1; omega
      · cases hv
    case ref cs =>
      simp only [Option.some.injEq, Prod.mk.injEq] at hv
      obtain ⟨rfl, rfl⟩ := hv
      have hyr' := hyr
      cases hyr
      exact ⟨s, w, .value _, _, by simp only [hax]; rfl, .inl rfl, Ext.refl _ _ _, R, hyr'⟩
    case clo g cs =>
      simp only [Option.some.injEq, Prod.mk.injEq] at hv
      obtain ⟨rfl, rfl⟩ := hv
      have hyr' := hyr
      cases hyr
      exact ⟨s, w, .value _, _, by simp only [hax]; rfl, .inl rfl, Ext.refl _ _ _, R, hyr'⟩
    case yld l =>
      simp only [Option.some.injEq, Prod.mk.injEq] at hv
      obtain ⟨rfl, rfl⟩ := hv
      have hyr' := hyr
      cases hyr
      exact ⟨s, w, .value _, _, by simp only [hax]; rfl, .inl rfl, Ext.refl _ _ _, R, hyr'⟩
  case binOp bop t x y t' =>
    replace hv := Option.bind_eq_some_iff.1 hv
    obtain ⟨x', hx, hv⟩ := hv
    replace hv := Option.bind_eq_some_iff.1 hv
    obtain ⟨y', hy, hv⟩ := hv
    replace hv := Option.bind_eq_some_iff.1 hv
    obtain ⟨z, hz, hv⟩ := hv
    simp only [Option.some.injEq, Prod.mk.injEq] at hv
    obtain ⟨rfl, rfl⟩ := hv
    exact PRun.op R (bin_rel TT (ev hx) (ev hy) hz)
  case unOp uop t x =>
    replace hv := Option.bind_eq_some_iff.1 hv
    obtain ⟨x', hx, hv⟩ := hv
    replace hv := Option.bind_eq_some_iff.1 hv
    obtain ⟨z, hz, hv⟩ := hv
    simp only [Option.some.injEq, Prod.mk.injEq] at hv
    obtain ⟨rfl, rfl⟩ := hv
    exact PRun.op R (un_rel (ev hx) hz)
  case convert src dst x =>
    replace hv := Option.bind_eq_some_iff.1 hv
    obtain ⟨x', hx, hv⟩ := hv
    replace hv := Option.bind_eq_some_iff.1 hv
    obtain ⟨z, hz, hv⟩ := hv
    simp only [Option.some.injEq, Prod.mk.injEq] at hv
    obtain ⟨rfl, rfl⟩ := hv
    exact PRun.op R (convH_rel TT R (ev hx) hz)
  case makeInterface t x =>
    replace hv := Option.bind_eq_some_iff.1 hv
    obtain ⟨ti, hti, hv⟩ := hv
    obtain ⟨d, hd, hok⟩ := (TT t ti hti).und
    generalize ti.td = td at hok hv
    have hv' : ∃ y, evalA C e x = some y ∧ (AV.iface t y, h) = (v, h') := by
      cases td <;> first | (cases hv; done) | (
        replace hv := Option.bind_eq_some_iff.1 hv
        obtain ⟨y, hy, hv⟩ := hv
        injection hv with hv
        exact ⟨y, hy, hv⟩)
    have hni : td ≠ .iface := by rintro rfl; cases hv
    obtain ⟨y, hy, hv⟩ := hv'
    simp only [Prod.mk.injEq] at hv
    obtain ⟨rfl, rfl⟩ := hv
    refine PRun.op R ⟨.iface t (a.eval x), ?_, .iface t y _ (ev hy)⟩
    simp only [Instr.makeInterface, Sem.run_bind, run_und hd, Result.andThen_ok]
    cases d <;> cases td <;> first | rfl | exact False.elim hok | exact absurd rfl hni
  case makeFunc fn first caps =>
    cases fn <;> simp only [reduceCtorEq] at hv
    case func g =>
      split at hv
      · rename_i hf
        replace hv := Option.bind_eq_some_iff.1 hv
        obtain ⟨cs, hcs, hv⟩ := hv
        simp only [Option.some.injEq, Prod.mk.injEq] at hv
        obtain ⟨rfl, rfl⟩ := hv
        have hfe : first = #[] := by simpa using hf
        have hr := args_rel G H hcs
        refine PRun.op R ⟨.func (.func g) #[] (caps.map a.eval), by simp [Instr.makeFunc, hfe], .clo g cs _ (by have := hr.1; simpa using this) fun i c hi => ?_⟩
        obtain ⟨u, hu, hur⟩ := hr.2 i c hi
        have : (caps.map a.eval)[i]? = some u := by rw [← Array.getElem?_toList, Array.toList_map]; exact hu
        rw [Array.getD_eq_getD_getElem?, this]
        exact hur
      · cases hv
  case makeSlice t l c =>
    replace hv := Option.bind_eq_some_iff.1 hv
    obtain ⟨l', hl, hv⟩ := hv
    replace hv := Option.bind_eq_some_iff.1 hv
    obtain ⟨c', hc, hv⟩ := hv
    exact (makeSlice_rel TT R (ev hl) (ev hc) hv).op
  case makeMap t r =>
    cases r <;> simp only [reduceCtorEq] at hv
    replace hv := Option.bind_eq_some_iff.1 hv
    obtain ⟨ti, hti, hv⟩ := hv
    simp only [Option.some.injEq, Prod.mk.injEq] at hv
    obtain ⟨rfl, rfl⟩ := hv
    exact (makeMap_rel R t).op
  case lookup t x k ok =>
    replace hv := Option.bind_eq_some_iff.1 hv
    obtain ⟨x', hx, hv⟩ := hv
    replace hv := Option.bind_eq_some_iff.1 hv
    obtain ⟨k', hk, hv⟩ := hv
    replace hv := Option.bind_eq_some_iff.1 hv
    obtain ⟨z, hz, hv⟩ := hv
    simp only [Option.some.injEq, Prod.mk.injEq] at hv
    obtain ⟨rfl, rfl⟩ := hv
    exact PRun.op R (lookup_rel TT R (ev hx) (ev hk) hz)
  case mapUpdate t m k x =>
    replace hv := Option.bind_eq_some_iff.1 hv
    obtain ⟨m', hm, hv⟩ := hv
    replace hv := Option.bind_eq_some_iff.1 hv
    obtain ⟨k', hk, hv⟩ := hv
    replace hv := Option.bind_eq_some_iff.1 hv
    obtain ⟨x', hx, hv⟩ := hv
    replace hv := Option.bind_eq_some_iff.1 hv
    obtain ⟨z, hz, hv⟩ := hv
    simp only [Option.some.injEq, Prod.mk.injEq] at hv
    obtain ⟨rfl, rfl⟩ := hv
    obtain ⟨w', h1, h2, h3⟩ := update_rel TT R (ev hm) (ev hk) (ev hx) hz
    exact ⟨s, w', .skip, undef, by simp [h1], .inr ⟨rfl, rfl⟩, h2, h3, .tup [] #[] rfl fun i c hi => by simp at hi⟩
  case insert t m k x =>
    replace hv := Option.bind_eq_some_iff.1 hv
    obtain ⟨m', hm, hv⟩ := hv
    replace hv := Option.bind_eq_some_iff.1 hv
    obtain ⟨k', hk, hv⟩ := hv
    replace hv := Option.bind_eq_some_iff.1 hv
    obtain ⟨x', hx, hv⟩ := hv
    replace hv := Option.bind_eq_some_iff.1 hv
    obtain ⟨z, hz, hv⟩ := hv
    simp only [Option.some.injEq, Prod.mk.injEq] at hv
    obtain ⟨rfl, rfl⟩ := hv
    obtain ⟨w', h1, h2, h3⟩ := update_rel TT R (ev hm) (ev hk) (ev hx) hz
    exact ⟨s, w', .skip, undef, by simp [h1], .inr ⟨rfl, rfl⟩, h2, h3, .tup [] #[] rfl fun i c hi => by simp at hi⟩
  case slice t x lo hi mx =>
    replace hv := Option.bind_eq_some_iff.1 hv
    obtain ⟨lo', hlo, hv⟩ := hv
    replace hv := Option.bind_eq_some_iff.1 hv
    obtain ⟨hi', hhi, hv⟩ := hv
    split at hv
    · cases hv
    rename_i hmx
    have hmx' : mx = none := by simpa using hmx
    subst hmx'
    replace hv := Option.bind_eq_some_iff.1 hv
    obtain ⟨x', hx, hv⟩ := hv
    replace hv := Option.bind_eq_some_iff.1 hv
    obtain ⟨z, hz, hv⟩ := hv
    simp only [Option.some.injEq, Prod.mk.injEq] at hv
    obtain ⟨rfl, rfl⟩ := hv
    exact PRun.op R (slice_rel TT R (ev hx) (ob hlo) (ob hhi) hz)
  case fieldAddr t x k =>
    replace hv := Option.bind_eq_some_iff.1 hv
    obtain ⟨x', hx, hv⟩ := hv
    replace hv := Option.bind_eq_some_iff.1 hv
    obtain ⟨z, hz, hv⟩ := hv
    simp only [Option.some.injEq, Prod.mk.injEq] at hv
    obtain ⟨rfl, rfl⟩ := hv
    exact PRun.op R (fieldAddr_rel TT (ev hx) hz)
  case field t x k =>
    replace hv := Option.bind_eq_some_iff.1 hv
    obtain ⟨x', hx, hv⟩ := hv
    replace hv := Option.bind_eq_some_iff.1 hv
    obtain ⟨z, hz, hv⟩ := hv
    simp only [Option.some.injEq, Prod.mk.injEq] at hv
    obtain ⟨rfl, rfl⟩ := hv
    exact PRun.op R (field_rel TT (ev hx) hz)
  case indexAddr t x i =>
    replace hv := Option.bind_eq_some_iff.1 hv
    obtain ⟨x', hx, hv⟩ := hv
    replace hv := Option.bind_eq_some_iff.1 hv
    obtain ⟨i', hi, hv⟩ := hv
    replace hv := Option.bind_eq_some_iff.1 hv
    obtain ⟨z, hz, hv⟩ := hv
    simp only [Option.some.injEq, Prod.mk.injEq] at hv
    obtain ⟨rfl, rfl⟩ := hv
    exact PRun.op R (indexAddr_rel TT (ev hx) (ev hi) hz)
  case index t x i =>
    replace hv := Option.bind_eq_some_iff.1 hv
    obtain ⟨x', hx, hv⟩ := hv
    replace hv := Option.bind_eq_some_iff.1 hv
    obtain ⟨i', hi, hv⟩ := hv
    replace hv := Option.bind_eq_some_iff.1 hv
    obtain ⟨z, hz, hv⟩ := hv
    simp only [Option.some.injEq, Prod.mk.injEq] at hv
    obtain ⟨rfl, rfl⟩ := hv
    exact PRun.op R (index_rel TT (ev hx) (ev hi) hz)
  case extract x i =>
    replace hv := Option.bind_eq_some_iff.1 hv
    obtain ⟨x', hx, hv⟩ := hv
    cases x' <;> simp only [reduceCtorEq] at hv
    case tup vs =>
      replace hv := Option.bind_eq_some_iff.1 hv
      obtain ⟨z, hz, hv⟩ := hv
      simp only [Option.some.injEq, Prod.mk.injEq] at hv
      obtain ⟨rfl, rfl⟩ := hv
      have hxr := ev hx
      generalize hax : a.eval x = ax at hxr
      cases hxr with
      | tup _ us hl hr =>
        have hlt : i < us.size := by rw [← hl]; exact (List.getElem?_eq_some_iff.1 hz).1
        refine PRun.op R ⟨us[i], by simp [Instr.extract, hax, hlt], ?_⟩
        have := hr i z hz
        simpa [hlt] using this
  case call c =>
    obtain ⟨callee, args, argTypes⟩ := c
    cases callee <;> simp only [reduceCtorEq] at hv
    case builtin b =>
      replace hv := Option.bind_eq_some_iff.1 hv
      obtain ⟨vs, hvs, hv⟩ := hv
      have hr := args_rel G H hvs
      have hmap : args.map a.eval = (args.toList.map a.eval).toArray := by apply Array.ext'; simp
      split at hv
      · -- len
        rename_i x
        obtain ⟨y, hy⟩ : ∃ y, args.toList.map a.eval = [y] := by
          have := hr.1
          simp only [List.length_cons, List.length_nil] at this
          exact List.length_eq_one_iff.1 this.symm
        rw [hy] at hr
        have hxy := hr.tail.1
        replace hv := Option.bind_eq_some_iff.1 hv
        obtain ⟨t, hat, hv⟩ := hv
        replace hv := Option.bind_eq_some_iff.1 hv
        obtain ⟨ti, hti, hv⟩ := hv
        replace hv := Option.bind_eq_some_iff.1 hv
        obtain ⟨n, hn, hv⟩ := hv
        simp only [Option.some.injEq, Prod.mk.injEq] at hv
        obtain ⟨rfl, rfl⟩ := hv
        obtain ⟨d, hd, hok⟩ := (TT t ti hti).und
        refine ⟨s, w, .value (.int .i64 n), _, ?_, .inl rfl, Ext.refl _ _ _, R, .int _ _⟩
        have hres : (Builtin.len_ argTypes o.type #[y]).run P w = .ok (.int .i64 n) w := by
          simp only [Builtin.len_, hat, List.getElem?_toArray, List.getElem?_cons_zero, Sem.run_bind, Sem.run_pure, Result.andThen_ok, run_und hd]
          generalize ti.td = td at hok hn
          cases td <;> cases x <;> simp only [lenA, reduceCtorEq, Option.some.injEq] at hn
          case slice.lst e xs z r =>
            subst hn
            cases d <;> simp only [TD.ok] at hok
            cases hxy <;> rfl
          case slice.msl e o off len sz g cap =>
            split at hn
            · rename_i hl
              injection hn with hn; subst hn
              cases d <;> simp only [TD.ok] at hok
              cases hxy with
              | msl => rfl
              | mslOld _ _ _ _ _ _ g' a n c h1 h2 => have := genOf_live hl; rw [this] at h1; injection h1; omega
            · cases hn
          case str.str l =>
            subst hn
            cases d <;> simp only [TD.ok] at hok
            cases hxy
            simp [ByteArray.size, goInt]
          case map.nilMap =>
            subst hn
            cases d <;> simp only [TD.ok] at hok
            cases hxy
            rfl
          case map.map ol =>
            split at hn
            · rename_i es hes
              injection hn with hn; subst hn
              cases d <;> simp only [TD.ok] at hok
              obtain ⟨b, en, cl, rfl, hb, hh, hE, hSt⟩ := map_obj R (o := ol) (es := es) (by unfold Heap.mapAt; rw [hes]) hxy
              have := hE.1
              simp only [Sem.run_bind, run_getMap hh, Result.andThen_ok, goInt, Sem.run_pure]
              simp at this
              rw [this]
            · cases hn
        simp only [resolve, hmap, hy, Sem.run_bind, Sem.run_pure, Result.andThen_ok, invoke, builtin, hres]
      · -- append
        rename_i sv yv
        split at hv
        · rename_i t t' hats
          split at hv
          · cases hv
          rename_i htt
          have htt' : t = t' := by simpa using htt
          subst htt'
          have hat : argTypes = #[t, t] := by apply Array.ext'; simpa using hats
          obtain ⟨us, uy, hy⟩ : ∃ us uy, args.toList.map a.eval = [us, uy] := by
            have := hr.1
            simp only [List.length_cons, List.length_nil] at this
            generalize args.toList.map a.eval = l at this
            match l, this with
            | [us, uy], _ => exact ⟨us, uy, rfl⟩
          rw [hy] at hr
          replace hv := Option.bind_eq_some_iff.1 hv
          obtain ⟨ti, hti, hv⟩ := hv
          obtain ⟨d, hd, hok⟩ := (TT t ti hti).und
          generalize ti.td = td at hok hv
          cases td <;> simp only [reduceCtorEq] at hv
          case slice el =>
            replace hv := Option.bind_eq_some_iff.1 hv
            obtain ⟨te, hte, hv⟩ := hv
            replace hv := Option.bind_eq_some_iff.1 hv
            obtain ⟨ys, hys, hv⟩ := hv
            cases d <;> simp only [TD.ok] at hok
            rw [hok] at hd
            have key := append_rel TT R hd hte hr.tail.1 hr.tail.2.tail.1 hys hv o.type
            obtain ⟨s', w', x, h1, h2, h3, h4⟩ := key
            refine ⟨s', w', .value x, x, ?_, .inl rfl, h2, h3, h4⟩
            simp only [resolve, hmap, hy, hat, Sem.run_bind, Sem.run_pure, Result.andThen_ok, invoke, builtin]
            rw [show ([us, uy] : List Value).toArray = #[us, uy] from rfl, h1]
            rfl
        · cases hv
      · -- the others
        obtain ⟨m, hm, hR⟩ := more_rel TT R hr hv o.type
        obtain ⟨s', w', x, h1, h2, h3, h4⟩ := hR
        refine ⟨s', w', .value x, x, ?_, .inl rfl, h2, h3, h4⟩
        have harr : argTypes.toList.toArray = argTypes := by simp
        rw [harr] at hm
        simp only [resolve, hmap, Sem.run_bind, Sem.run_pure, Result.andThen_ok, invoke, hm, h1]
end
end Go.Rv

/-
  A call that changed nothing of what was there: its answer made immutable, its own objects forgotten.
-/
set_option linter.unusedSimpArgs false
set_option linter.unusedVariables false
namespace Go.Rv
section
variable {P : Program} {C : Cfg} {s s1 : Sim} {h h1 : Heap} {w w1 : World}

def Sim.cut (s : Sim) (n : Nat) : Sim := { μ := fun o => if o < n then s.μ o else none, I := fun b => s.I b ∨ ∃ o, n ≤ o ∧ s.μ o = some b, good := s.good }

theorem genOf_take {o n : Nat} (ho : o < n) : genOf (h1.take n) o = genOf h1 o := by
  unfold genOf; rw [List.getElem?_take_of_lt ho]
theorem lenOf_take {o n : Nat} (ho : o < n) : lenOf (h1.take n) o = lenOf h1 o := by
  unfold lenOf; rw [List.getElem?_take_of_lt ho]
theorem isMap_take {o n : Nat} (ho : o < n) : isMap (h1.take n) o = isMap h1 o := by
  unfold isMap; rw [List.getElem?_take_of_lt ho]
theorem isLoop_take {o n : Nat} (ho : o < n) : isLoop (h1.take n) o = isLoop h1 o := by
  unfold isLoop; rw [List.getElem?_take_of_lt ho]
theorem isLoop_lt {o : Nat} (hm : isLoop h o = true) : o < h.length := genOf_lt (genOf_loop hm)
theorem isMap_lt {o : Nat} (hm : isMap h o = true) : o < h.length := genOf_lt (genOf_map hm)

theorem VR.cut (hh : h1.take h.length = h) {x : AV} {v : Value} (H : VR s h w x v) : ∀ {v' : Value}, VR s1 h1 w1 x v' → VR (s1.cut h.length) h w1 x v' := by
  have hg : ∀ {o}, o < h.length → genOf h o = genOf h1 o := fun {o} ho => by
    conv => lhs; rw [← hh]
    exact genOf_take ho
  have hlen : ∀ {o}, o < h.length → lenOf h o = lenOf h1 o := fun {o} ho => by
    conv => lhs; rw [← hh]
    exact lenOf_take ho
  have hmap : ∀ {o}, o < h.length → isMap h o = isMap h1 o := fun {o} ho => by
    conv => lhs; rw [← hh]
    exact isMap_take ho
  have hloop : ∀ {o}, o < h.length → isLoop h o = isLoop h1 o := fun {o} ho => by
    conv => lhs; rw [← hh]
    exact isLoop_take ho
  have ptr_case : ∀ {o off g : Nat} {v' : Value}, o < h.length → VR s1 h1 w1 (.ptr o off g) v' → VR (s1.cut h.length) h w1 (.ptr o off g) v' := by
    intro o off g v' ho H'
    cases H' with
    | ptr _ _ _ b h1' h2' => exact .ptr _ _ _ b (by rw [hg ho]; exact h1') (by simp [Sim.cut, ho, h2'])
    | ptrOld _ _ _ g' a h1' h2' => exact .ptrOld _ _ _ g' a (by rw [hg ho]; exact h1') h2'
  have msl_case : ∀ {o off len z g : Nat} {cap : Option Nat} {v' : Value}, o < h.length → VR s1 h1 w1 (.msl o off len z g cap) v' → VR (s1.cut h.length) h w1 (.msl o off len z g cap) v' := by
    intro o off len z g cap v' ho H'
    cases H' with
    | msl _ _ _ _ _ _ b c el n off' k0 k1 k2 k3 k4 k5 k6 k7 => exact .msl _ _ _ _ _ _ b c el n off' k0 (by rw [hg ho]; exact k1) (by simp [Sim.cut, ho, k2]) k3 k4 (fun hc => by rw [hlen ho]; exact k5 hc) k6 k7
    | mslOld _ _ _ _ _ _ g' a n c k1 k2 => exact .mslOld _ _ _ _ _ _ g' a n c (by rw [hg ho]; exact k1) k2
  induction H with
  | bool b => intro v' H'; cases H'; exact .bool _
  | int k n => intro v' H'; cases H'; exact .int _ _
  | str l => intro v' H'; cases H'; exact .str _
  | nilPtr => intro v' H'; cases H'; exact .nilPtr
  | nilMap => intro v' H'; cases H'; exact .nilMap
  | nilFunc => intro v' H'; cases H'; exact .nilFunc
  | nilIface => intro v' H'; cases H'; exact .nilIface
  | junk v => intro v' H'; exact .junk _
  | ptr o off g b k1 k2 => intro v' H'; exact ptr_case (genOf_lt k1) H'
  | ptrOld o off g g' a k1 k2 => intro v' H'; exact ptr_case (genOf_lt k1) H'
  | ref cs b off f hI hc hr ih =>
    intro v' H'
    cases H' with
    | ref _ b' off' f' hI' hc' hr' => exact .ref _ b' off' f' (fun h0 => .inl (hI' h0)) hc' (fun i c hi => ih i c hi (hr' i c hi))
  | lstNil z =>
    intro v' H'
    cases H' with
    | lstNil => exact .lstNil _
    | lst _ _ _ b off c f k1 k2 => exact k2.elim
  | lstEmpty z A =>
    intro v' H'
    cases H' with
    | lstEmpty _ A' => exact .lstEmpty _ A'
    | lst _ _ _ b off c f k1 k2 k3 k4 k5 k6 => exact .lst _ _ _ b off c f (fun h0 => by simp at h0) k2 k3 k4 k5 (fun i j x y hx => by simp at hx)
  | lst xs z r b off c f hI hr hle hz hc hrr ih =>
    intro v' H'
    cases H' with
    | lstNil => exact .lstNil _
    | lstEmpty _ A' => exact .lstEmpty _ A'
    | lst _ _ _ b' off' c' f' k1 k2 k3 k4 k5 k6 => exact .lst _ _ _ b' off' c' f' (fun h0 => .inl (k1 h0)) k2 k3 k4 k5 (fun i j x y hx hy => ih i j x y hx hy (k6 i j x y hx hy))
  | msl o off len z g cap b c el n off' k0 k1 => intro v' H'; exact msl_case (genOf_lt k1) H'
  | mslOld o off len z g cap g' a n c k1 k2 => intro v' H'; exact msl_case (genOf_lt k1) H'
  | clo f cs vs hl hr ih =>
    intro v' H'
    cases H' with
    | clo _ _ vs' hl' hr' => exact .clo _ _ vs' hl' (fun i c hi => ih i c hi (hr' i c hi))
  | map o b k1 k2 =>
    intro v' H'
    have ho := isMap_lt k1
    cases H' with
    | map _ b' k1' k2' => exact .map _ b' (by rw [hmap ho]; exact k1') (by simp [Sim.cut, ho, k2'])
  | yld o b k1 k2 =>
    intro v' H'
    have ho := isLoop_lt k1
    cases H' with
    | yld _ b' k1' k2' => exact .yld _ b' (by rw [hloop ho]; exact k1') (by simp [Sim.cut, ho, k2'])
  | iface t x v hx ih =>
    intro v' H'
    cases H' with
    | iface _ _ v'' hx' => exact .iface _ _ _ (ih hx')
  | agg cs vs hl hr ih =>
    intro v' H'
    cases H' with
    | agg _ vs' hl' hr' => exact .agg _ vs' hl' (fun i c hi => ih i c hi (hr' i c hi))
  | tup cs vs hl hr ih =>
    intro v' H'
    cases H' with
    | tup _ vs' hl' hr' => exact .tup _ vs' hl' (fun i c hi => ih i c hi (hr' i c hi))

theorem Ext.cut (E : Ext s h w s1 h1 w1) (hh : h1.take h.length = h) : Ext s h w (s1.cut h.length) h w1 where
  size := E.size
  far := E.far
  shape := E.shape
  imm := fun b hb => .inl (E.imm b hb)
  gen := fun o g hg => ⟨g, hg, Nat.le_refl _⟩
  same := fun o g hg _ => ⟨fun b hb => by
    have ho := genOf_lt hg
    have : genOf h1 o = some g := by rw [← genOf_take (h1 := h1) ho, hh]; exact hg
    simp [Sim.cut, ho, (E.same o g hg this).1 b hb], rfl⟩
  kind := fun _ h => h
  own := fun o b hb => by
    simp only [Sim.cut] at hb
    split at hb
    · exact E.own o b hb
    · cases hb
  os := E.os
  tape := E.tape
  output := E.output
  kindL := fun _ h => h
  good := E.good
  old := fun o b ho hb => by
    simp only [Sim.cut, ho, if_true] at hb
    exact E.old o b ho hb
  kept := fun _ _ _ => rfl

theorem Rel.cut (R : Rel s h w) (R1 : Rel s1 h1 w1) (hO : Ext s h w s1 h1 w1) (hh : h1.take h.length = h) : Rel (s1.cut h.length) h w1 where
  inj := fun o o' b h1' h2' => by
    simp only [Sim.cut] at h1' h2'
    split at h1' <;> split at h2' <;> first | exact R1.inj _ _ _ h1' h2' | cases h1' | cases h2'
  obj := fun o b hb => by
    simp only [Sim.cut] at hb
    split at hb
    · rename_i ho
      obtain ⟨x, hx, hr⟩ := R1.obj o b hb
      have hx' : h[o]? = some x := by rw [← hh, List.getElem?_take_of_lt ho]; exact hx
      refine ⟨x, hx', ?_⟩
      obtain ⟨b0, hb0⟩ := hO.old o b ho hb
      obtain ⟨y, hy, hr0⟩ := R.obj o b0 hb0
      rw [hx'] at hy
      injection hy with hy; subst hy
      cases x with
      | cells cs g =>
        obtain ⟨bc, el, k1, k2, k3⟩ := hr
        obtain ⟨_, _, _, _, k3'⟩ := hr0
        refine ⟨bc, el, k1, k2, fun i c hi => ?_⟩
        obtain ⟨v, hv, hvr⟩ := k3 i c hi
        obtain ⟨v0, _, hvr0⟩ := k3' i c hi
        exact ⟨v, hv, hvr0.cut hh hvr⟩
      | map es =>
        obtain ⟨en, cl, k1, k2, k3⟩ := hr
        obtain ⟨_, _, _, _, k3'⟩ := hr0
        refine ⟨en, cl, k1, k2, k3.1, fun i c hi => ?_⟩
        obtain ⟨m, hm, hm1, hm2⟩ := k3.2 i c hi
        obtain ⟨m0, _, hn1, hn2⟩ := k3'.2 i c hi
        exact ⟨m, hm, hn1.cut hh hm1, hn2.cut hh hm2⟩
      | loop r =>
        obtain ⟨rec, k1, k2, k3, k4⟩ := hr
        obtain ⟨_, _, _, k3', _⟩ := hr0
        exact ⟨rec, k1, k2, fun t => (k3' t).cut hh (k3 t), k4⟩
    · cases hb
  apart := fun o b hb hI => by
    simp only [Sim.cut] at hb hI
    split at hb
    · rename_i ho
      rcases hI with hI | ⟨o', ho', hb'⟩
      · exact R1.apart o b hb hI
      · have := R1.inj o o' b hb hb'; omega
    · cases hb
  imm := fun b hI => by
    rcases hI with hI | ⟨o', ho', hb'⟩
    · exact R1.imm b hI
    · exact R1.lt hb'

theorem freeze_cells {n d : Nat} {x x' : AV} (hf : freezeV h1 n d x = some x') : x'.cells.length = x.cells.length ∧ ∀ (j : Nat) y, x.cells[j]? = some y → ∃ y' d', d' ≤ d ∧ x'.cells[j]? = some y' ∧ freezeV h1 n d' y = some y' := by
  cases d with
  | zero => simp [freezeV] at hf
  | succ d =>
    have one : ∀ x' : AV, freezeV h1 n (d + 1) x = some x' → x.cells = [x] → x'.cells = [x'] → x'.cells.length = x.cells.length ∧ ∀ (j : Nat) y, x.cells[j]? = some y → ∃ y' d', d' ≤ d + 1 ∧ x'.cells[j]? = some y' ∧ freezeV h1 n d' y = some y' := by
      intro x' hf h1' h2'
      rw [h1', h2']
      refine ⟨rfl, fun j y hj => ?_⟩
      cases j with
      | zero => simp at hj; subst hj; exact ⟨x', d + 1, Nat.le_refl _, rfl, hf⟩
      | succ j => simp at hj
    have hf0 := hf
    cases x <;> simp only [freezeV] at hf
    case agg cs =>
      obtain ⟨cs', hcs, rfl⟩ := Option.map_eq_some_iff.1 hf
      obtain ⟨k1, k2⟩ := mapO_get hcs
      refine ⟨k1, fun j y hj => ?_⟩
      obtain ⟨b, hb, hfb⟩ := k2 j y hj
      exact ⟨b, d, by omega, hb, hfb⟩
    case ptr o off g =>
      split at hf
      · injection hf with hf; subst hf; exact one _ hf0 rfl rfl
      · simp only [Option.bind_eq_bind] at hf
        obtain ⟨_, _, hf⟩ := Option.bind_eq_some_iff.1 hf
        obtain ⟨_, _, hf⟩ := Option.bind_eq_some_iff.1 hf
        injection hf with hf; subst hf; exact one _ hf0 rfl rfl
    case msl o off len sz g cap =>
      split at hf
      · injection hf with hf; subst hf; exact one _ hf0 rfl rfl
      · simp only [Option.bind_eq_bind] at hf
        obtain ⟨_, _, hf⟩ := Option.bind_eq_some_iff.1 hf
        split at hf
        · obtain ⟨_, _, hf⟩ := Option.bind_eq_some_iff.1 hf
          injection hf with hf; subst hf; exact one _ hf0 rfl rfl
        · cases hf
    case map o =>
      split at hf
      · injection hf with hf; subst hf; exact one _ hf0 rfl rfl
      · cases hf
    case yld l => cases hf
    case ref cs => obtain ⟨cs', hcs, rfl⟩ := Option.map_eq_some_iff.1 hf; exact one _ hf0 rfl rfl
    case tup cs => obtain ⟨cs', hcs, rfl⟩ := Option.map_eq_some_iff.1 hf; exact one _ hf0 rfl rfl
    case clo f cs => obtain ⟨cs', hcs, rfl⟩ := Option.map_eq_some_iff.1 hf; exact one _ hf0 rfl rfl
    case lst xs z r => obtain ⟨cs', hcs, rfl⟩ := Option.map_eq_some_iff.1 hf; exact one _ hf0 rfl rfl
    case iface t x => obtain ⟨cs', hcs, rfl⟩ := Option.map_eq_some_iff.1 hf; exact one _ hf0 rfl rfl
    all_goals (injection hf with hf; subst hf; exact one _ hf0 rfl rfl)

theorem freeze_rel (R1 : Rel s1 h1 w1) {n : Nat} (hn : n ≤ h1.length) : ∀ (D : Nat) {d : Nat}, d ≤ D → ∀ {v v' : AV} {u : Value}, freezeV h1 n d v = some v' → VR s1 h1 w1 v u → VR (s1.cut n) (h1.take n) w1 v' u := by
  intro D
  induction D with
  | zero =>
    intro d hd v v' u hf _
    obtain rfl : d = 0 := by omega
    simp [freezeV] at hf
  | succ D ih =>
    intro d hd v v' u hf hv
    cases d with
    | zero => simp [freezeV] at hf
    | succ d =>
      have ih' : ∀ {v v' : AV} {u : Value}, freezeV h1 n d v = some v' → VR s1 h1 w1 v u → VR (s1.cut n) (h1.take n) w1 v' u := fun hf hv => ih (d := d) (by omega) hf hv
      cases v <;> simp only [freezeV] at hf
      case bool b => injection hf with hf; subst hf; cases hv; exact .bool _
      case int k i => injection hf with hf; subst hf; cases hv; exact .int _ _
      case str l => injection hf with hf; subst hf; cases hv; exact .str _
      case nilPtr => injection hf with hf; subst hf; cases hv; exact .nilPtr
      case nilMap => injection hf with hf; subst hf; cases hv; exact .nilMap
      case nilFunc => injection hf with hf; subst hf; cases hv; exact .nilFunc
      case nilIface => injection hf with hf; subst hf; cases hv; exact .nilIface
      case junk => injection hf with hf; subst hf; exact .junk _
      case yld l => cases hf
      case map o =>
        split at hf
        · rename_i ho
          injection hf with hf; subst hf
          cases hv with
          | map _ b k1 k2 => exact .map _ b (by rw [isMap_take ho]; exact k1) (by simp [Sim.cut, ho, k2])
        · cases hf
      case ptr o off g =>
        split at hf
        · rename_i ho
          injection hf with hf; subst hf
          cases hv with
          | ptr _ _ _ b k1 k2 => exact .ptr _ _ _ b (by rw [genOf_take ho]; exact k1) (by simp [Sim.cut, ho, k2])
          | ptrOld _ _ _ g' a k1 k2 => exact .ptrOld _ _ _ g' a (by rw [genOf_take ho]; exact k1) k2
        · rename_i ho
          simp only [Option.bind_eq_bind] at hf
          replace hf := Option.bind_eq_some_iff.1 hf
          obtain ⟨cs, hcs, hf⟩ := hf
          replace hf := Option.bind_eq_some_iff.1 hf
          obtain ⟨cs', hcs', hf⟩ := hf
          injection hf with hf; subst hf
          obtain ⟨k1, k2⟩ := mapO_get hcs'
          cases hv with
          | ptrOld _ _ _ g' a e1 e2 => have := (genOf_obj hcs).1; rw [this] at e1; injection e1; omega
          | ptr _ _ _ b e1 e2 =>
            have hread := (obj_reads R1 hcs e2).drop off
            have key : ∀ (i : Nat) c', cs'[i]? = some c' → ∃ v, w1.cell? ⟨b, off + i, none⟩ = some v ∧ VR (s1.cut n) (h1.take n) w1 c' v := by
              intro i c' hi
              have hlt : i < (cs.drop off).length := by rw [← k1]; exact (List.getElem?_eq_some_iff.1 hi).1
              obtain ⟨b', hb', hfb⟩ := k2 i _ (List.getElem?_eq_getElem hlt)
              rw [hi] at hb'
              injection hb' with hb'; subst hb'
              obtain ⟨v, hv, hvr⟩ := hread i _ (List.getElem?_eq_getElem hlt)
              exact ⟨v, by simpa using hv, ih' hfb hvr⟩
            refine .ref cs' b off (fun i => (w1.cell? ⟨b, off + i, none⟩).getD undef) (fun _ => .inr ⟨o, by omega, e2⟩) (fun i c hi => ?_) (fun i c hi => ?_)
            · obtain ⟨v, hv, _⟩ := key i c hi
              rw [hv]; rfl
            · obtain ⟨v, hv, hvr⟩ := key i c hi
              rw [hv]; exact hvr
      case msl o off len sz g cap =>
        split at hf
        · rename_i ho
          injection hf with hf; subst hf
          cases hv with
          | msl _ _ _ _ _ _ b c el m off' k0 k1 k2 k3 k4 k5 k6 k7 => exact .msl _ _ _ _ _ _ b c el m off' k0 (by rw [genOf_take ho]; exact k1) (by simp [Sim.cut, ho, k2]) k3 k4 (fun hc => by rw [lenOf_take ho]; exact k5 hc) k6 k7
          | mslOld _ _ _ _ _ _ g' a m c k1 k2 => exact .mslOld _ _ _ _ _ _ g' a m c (by rw [genOf_take ho]; exact k1) k2
        · rename_i ho
          simp only [Option.bind_eq_bind] at hf
          replace hf := Option.bind_eq_some_iff.1 hf
          obtain ⟨cs, hcs, hf⟩ := hf
          split at hf
          · rename_i hle
            replace hf := Option.bind_eq_some_iff.1 hf
            obtain ⟨cs', hcs', hf⟩ := hf
            injection hf with hf; subst hf
            obtain ⟨k1, k2⟩ := mapO_get hcs'
            cases hv with
            | mslOld _ _ _ _ _ _ g' a m c e1 e2 => have := (genOf_obj hcs).1; rw [this] at e1; injection e1; omega
            | msl _ _ _ _ _ _ b c el m off' e0 e1 e2 e3 e4 e5 e6 e7 =>
              by_cases hl0 : len = 0
              · subst hl0
                exact lst_empty _ _ _ _ _ trivial
              · obtain rfl : off' = off := e0.resolve_right (by omega)
                have hread := ((obj_reads R1 hcs e2).drop off').take (len * sz)
                refine lst_of_cells (fun _ => .inr ⟨o, by omega, e2⟩) (by rw [k1]; simp; omega) (fun i c' hi => ?_) trivial e3
                have hlt : i < ((cs.drop off').take (len * sz)).length := by rw [← k1]; exact (List.getElem?_eq_some_iff.1 hi).1
                obtain ⟨b', hb', hfb⟩ := k2 i _ (List.getElem?_eq_getElem hlt)
                rw [hi] at hb'
                injection hb' with hb'; subst hb'
                obtain ⟨v, hv, hvr⟩ := hread i _ (List.getElem?_eq_getElem hlt)
                exact ⟨v, by simpa using hv, ih' hfb hvr⟩
          · cases hf
      case ref cs =>
        obtain ⟨cs', hcs, rfl⟩ := Option.map_eq_some_iff.1 hf
        obtain ⟨k1, k2⟩ := mapO_get hcs
        cases hv with
        | ref _ b off f e1 e2 e3 =>
          have key : ∀ (i : Nat) c', cs'[i]? = some c' → ∃ c, cs[i]? = some c ∧ freezeV h1 n d c = some c' := by
            intro i c' hi
            have hlt : i < cs.length := by rw [← k1]; exact (List.getElem?_eq_some_iff.1 hi).1
            obtain ⟨b', hb', hfb⟩ := k2 i _ (List.getElem?_eq_getElem hlt)
            rw [hi] at hb'
            injection hb' with hb'; subst hb'
            exact ⟨_, List.getElem?_eq_getElem hlt, hfb⟩
          refine .ref _ b off f (fun h0 => .inl (e1 (by omega))) (fun i c' hi => ?_) (fun i c' hi => ?_)
          · obtain ⟨c, hc, _⟩ := key i c' hi
            exact e2 i c hc
          · obtain ⟨c, hc, hfc⟩ := key i c' hi
            exact ih' hfc (e3 i c hc)
      case lst xs z r =>
        obtain ⟨xs', hxs, rfl⟩ := Option.map_eq_some_iff.1 hf
        obtain ⟨k1, k2⟩ := mapO_get hxs
        cases hv with
        | lstNil =>
          simp only [mapO, Option.some.injEq] at hxs
          subst hxs
          exact .lstNil _
        | lstEmpty _ A =>
          simp only [mapO, Option.some.injEq] at hxs
          subst hxs
          exact .lstEmpty _ A
        | lst _ _ _ b off c f e1 e2 e3 e4 e5 e6 =>
          have key : ∀ (i : Nat) x', xs'[i]? = some x' → ∃ x, xs[i]? = some x ∧ freezeV h1 n d x = some x' := by
            intro i x' hi
            have hlt : i < xs.length := by rw [← k1]; exact (List.getElem?_eq_some_iff.1 hi).1
            obtain ⟨b', hb', hfb⟩ := k2 i _ (List.getElem?_eq_getElem hlt)
            rw [hi] at hb'
            injection hb' with hb'; subst hb'
            exact ⟨_, List.getElem?_eq_getElem hlt, hfb⟩
          have cell : ∀ (i j : Nat) x' y', xs'[i]? = some x' → x'.cells[j]? = some y' → ∃ x y d', d' ≤ d ∧ xs[i]? = some x ∧ x.cells[j]? = some y ∧ freezeV h1 n d' y = some y' := by
            intro i j x' y' hi hj
            obtain ⟨x, hx, hfx⟩ := key i x' hi
            obtain ⟨m1, m2⟩ := freeze_cells hfx
            have hlt : j < x.cells.length := by rw [← m1]; exact (List.getElem?_eq_some_iff.1 hj).1
            obtain ⟨y'', d', hd', hy'', hfy⟩ := m2 j _ (List.getElem?_eq_getElem hlt)
            rw [hj] at hy''
            injection hy'' with hy''; subst hy''
            exact ⟨x, _, d', hd', hx, List.getElem?_eq_getElem hlt, hfy⟩
          have := VR.lst (s := s1.cut n) (h := h1.take n) (w := w1) xs' z r b off c f (fun h0 => .inl (e1 (by omega))) e2 (by omega)
            (fun i x' hi => by
              obtain ⟨x, hx, hfx⟩ := key i x' hi
              rw [(freeze_cells hfx).1]; exact e4 i x hx)
            (fun i j x' y' hi hj => by
              obtain ⟨x, y, d', _, hx, hy, _⟩ := cell i j x' y' hi hj
              exact e5 i j x y hx hy)
            (fun i j x' y' hi hj => by
              obtain ⟨x, y, d', hd', hx, hy, hfy⟩ := cell i j x' y' hi hj
              exact ih (d := d') (by omega) hfy (e6 i j x y hx hy))
          rw [k1] at this
          exact this
      case clo f cs =>
        obtain ⟨cs', hcs, rfl⟩ := Option.map_eq_some_iff.1 hf
        obtain ⟨k1, k2⟩ := mapO_get hcs
        cases hv with
        | clo _ _ vs hl hr =>
          refine .clo _ _ vs (by omega) fun i c' hi => ?_
          have hlt : i < cs.length := by rw [← k1]; exact (List.getElem?_eq_some_iff.1 hi).1
          obtain ⟨b', hb', hfb⟩ := k2 i _ (List.getElem?_eq_getElem hlt)
          rw [hi] at hb'
          injection hb' with hb'; subst hb'
          exact ih' hfb (hr i _ (List.getElem?_eq_getElem hlt))
      case agg cs =>
        obtain ⟨cs', hcs, rfl⟩ := Option.map_eq_some_iff.1 hf
        obtain ⟨k1, k2⟩ := mapO_get hcs
        cases hv with
        | agg _ vs hl hr =>
          refine .agg _ vs (by omega) fun i c' hi => ?_
          have hlt : i < cs.length := by rw [← k1]; exact (List.getElem?_eq_some_iff.1 hi).1
          obtain ⟨b', hb', hfb⟩ := k2 i _ (List.getElem?_eq_getElem hlt)
          rw [hi] at hb'
          injection hb' with hb'; subst hb'
          exact ih' hfb (hr i _ (List.getElem?_eq_getElem hlt))
      case tup cs =>
        obtain ⟨cs', hcs, rfl⟩ := Option.map_eq_some_iff.1 hf
        obtain ⟨k1, k2⟩ := mapO_get hcs
        cases hv with
        | tup _ vs hl hr =>
          refine .tup _ vs (by omega) fun i c' hi => ?_
          have hlt : i < cs.length := by rw [← k1]; exact (List.getElem?_eq_some_iff.1 hi).1
          obtain ⟨b', hb', hfb⟩ := k2 i _ (List.getElem?_eq_getElem hlt)
          rw [hi] at hb'
          injection hb' with hb'; subst hb'
          exact ih' hfb (hr i _ (List.getElem?_eq_getElem hlt))
      case iface t x =>
        obtain ⟨x', hx, rfl⟩ := Option.map_eq_some_iff.1 hf
        cases hv with
        | iface _ _ v hv => exact .iface _ _ _ (ih' hx hv)
end
end Go.Rv

/-
  Calls, statements, regions whose order is that of the text.
-/
set_option linter.unusedSimpArgs false
set_option linter.unusedVariables false
namespace Go.Rv
section
variable {P : Program} {C : Cfg} {s : Sim} {h : Heap} {w : World}

/-- How a call ends. -/
def EndOk (s : Sim) (h : Heap) (w : World) (res : CRes) (h' : Heap) (e : Ending) (w' : World) : Prop :=
  ∃ s', Ext s h w s' h' w' ∧ Rel s' h' w' ∧ match res, e with
    | .ret v, .returned u => VR s' h' w' v u
    | .pan v, .panicked chain => ∃ u, chain = [{ v := u, recovered := false }] ∧ VR s' h' w' v u
    | _, _ => False

def CallOk (P : Program) (f : Nat) (vs : List Value) (s : Sim) (h : Heap) (w : World) (res : CRes) (h' : Heap) : Prop :=
  Calls P f vs.toArray w (EndOk s h w res h')

/-- A function that may be called. -/
def Known (P : Program) (f : Nat) : Prop := ∃ fn c, P.funcs[f]? = some fn ∧ fn.body = some c ∧ (fn.name == "runtime.NumGoroutine") = false

def PrimOk (P : Program) (C : Cfg) : Prop := ∀ f p, C.prim f = some p → Known P f ∧ (C.pure f = true → ∀ args h v h', p args h = some (.ret v, h') → h' = h) ∧ ∀ args h res h', p args h = some (res, h') →
  ∀ s w vs, Rel s h w → Glob C s h w → VRs s h w args vs → CallOk P f vs s h w res h'

/-- Does a drawn region's order not matter? (Stated in the next text.) -/
structure CodeOk (ord : Nat → Array Oper → Bool) (f N : Nat) (c : Code) : Prop where
  ok : True

def dstsOk (N : Nat) (ops : Array Oper) : Bool := ops.all fun o => match o.dst with | some d => d < N | none => true

def codeOk (ord : Array Oper → Bool) (N : Nat) : Code → Bool
  | .region _ ops draw => dstsOk N ops && (!draw || ord ops)
  | .seq a b => codeOk ord N a && codeOk ord N b
  | .cond _ a b => codeOk ord N a && codeOk ord N b
  | .block _ b | .loop b | .scope b => codeOk ord N b
  | .rangeFunc _ ps a b => ps.toList.all (fun t => decide (t < N)) && codeOk ord N a && codeOk ord N b
  | _ => true

/-- What code a round may have. -/
def goodOf (ord : Nat → Array Oper → Bool) (f N : Nat) (ps : List Nat) (a b : Code) : Prop := ps.all (fun t => decide (t < N)) = true ∧ codeOk (ord f) N a = true ∧ codeOk (ord f) N b = true

/-- Globals, and which code rounds have. -/
structure GG (C : Cfg) (ord : Nat → Array Oper → Bool) (s : Sim) (h : Heap) (w : World) : Prop where
  g : Glob C s h w
  good : s.good = goodOf ord
theorem GG.ext {ord : Nat → Array Oper → Bool} {s' : Sim} {h' : Heap} {w' : World} (hd : ∀ o b, s.μ o = some b → ¬ s.I b) (E : Ext s h w s' h' w') (G : GG C ord s h w) : GG C ord s' h' w' := ⟨G.g.ext hd E, E.good.trans G.good⟩

/-- The fence of a frame: of a function's activation, or of a round. -/
def Fr (r : Option Nat) : Fence := { Fence.wide with round := r }
theorem Fr_none : Fr none = Fence.wide := rfl
theorem Fr_in (r : Option Nat) (l : Nat) : (Fr r).inRound l = Fr (some l) := rfl
theorem Fr_fn (r : Option Nat) (f : Nat) : (Fr r).fn f := trivial
theorem Fr_depth (r : Option Nat) : (Fr r).depth.isSome = true → 1 ≤ 0 := fun h => by simp [Fr, Fence.wide] at h
theorem callsIn_fr {r : Option Nat} {n : Nat} {f : FuncId} {args : Array Value} {R : Ending → World → Prop} : CallsIn (Fr r) n P f args w R ↔ Calls P f args w R := callsIn_wide (n := n)

/-- The loop in whose round it goes on is known. -/
def Around (s : Sim) (h : Heap) : Option Nat → Prop
  | none => True
  | some l => ∃ o, isLoop h o = true ∧ s.μ o = some l
theorem Around.ext0 {s' : Sim} {h' : Heap} {w' : World} (E : Ext0 s h w s' h' w') {r : Option Nat} (A : Around s h r) : Around s' h' r := by
  cases r with
  | none => trivial
  | some l =>
    obtain ⟨o, h1, h2⟩ := A
    have hk := E.kindL o h1
    exact ⟨o, hk, (E.same o 0 (genOf_loop h1) (genOf_loop hk)).1 l h2⟩

/-- The marks of loops among the deferred calls. -/
def Marks (B : Nat) (s : Sim) (w : World) : List Deferred → Prop
  | [] => True
  | d :: ds => (∃ b, d.target = .collected b ∧ B ≤ b ∧ b < w.heap.size ∧ (∀ o, s.μ o ≠ some b) ∧ w.heap[b]? = some (.deferred (some [])) ∧ ∀ e ∈ ds, e.target ≠ .collected b) ∧ Marks B s w ds

def Dues (B : Nat) (s : Sim) (w : World) (ds : List Deferred) : Prop := B ≤ w.heap.size ∧ Marks B s w ds

theorem Marks.ext0 {B : Nat} {s' : Sim} {h' : Heap} {w' : World} (E : Ext0 s h w s' h' w') : ∀ {ds : List Deferred}, Marks B s w ds → Marks B s' w' ds
  | [], _ => trivial
  | d :: ds, ⟨⟨b, h1, h2, h3, h4, h5, h6⟩, h7⟩ => ⟨⟨b, h1, h2, Nat.lt_of_lt_of_le h3 E.size, fun o ho => by
      rcases E.own o b ho with ⟨o', ho'⟩ | hle
      · exact h4 o' ho'
      · omega, by rw [E.far b h3 h4]; exact h5, h6⟩, Marks.ext0 E h7⟩
theorem Dues.ext0 {B : Nat} {s' : Sim} {h' : Heap} {w' : World} (E : Ext0 s h w s' h' w') {ds : List Deferred} (D : Dues B s w ds) : Dues B s' w' ds := ⟨Nat.le_trans D.1 E.size, D.2.ext0 E⟩
theorem Marks.lt {B : Nat} : ∀ {ds : List Deferred}, Marks B s w ds → ∀ e ∈ ds, e.target ≠ .collected w.heap.size
  | [], _, e, he => by simp at he
  | d :: ds, ⟨⟨b, h1, _, h3, _⟩, h7⟩, e, he => by
    rcases List.mem_cons.1 he with rfl | he
    · rw [h1]; intro hx; injection hx with hx; omega
    · exact Marks.lt h7 e he

def FnOk (P : Program) (C : Cfg) (ord : Nat → Array Oper → Bool) : Prop := ∀ f fi, C.fn f = some fi → ∃ fn, P.funcs[f]? = some fn ∧ fn.body = some fi.body ∧ fn.results.toList = fi.results ∧ (fn.name == "runtime.NumGoroutine") = false ∧
  fi.params ≤ fn.ntmps ∧ codeOk (ord f) fn.ntmps fi.body = true

structure Ok (P : Program) (C : Cfg) (ord : Nat → Array Oper → Bool) : Prop where
  ty : TabOk P C
  glob : GlobOk C
  prim : PrimOk P C
  fn : FnOk P C ord
  close : ∀ g v, C.glob g = some v → ∀ h, freezeV h 0 40 v = some v
  mixed : P.follows .mixedOrders = true

/-- How a statement ends. -/
def OutOk (B : Nat) (s : Sim) (h : Heap) (w : World) (N : Nat) (out : Out) (e' : Env) (h' : Heap) (ex : Exit) (a' : Act) (w' : World) : Prop :=
  ∃ s', Ext s h w s' h' w' ∧ Rel s' h' w' ∧ a'.tmps.size = N ∧ Dues B s' w' a'.defers ∧ match out, ex with
    | .nrm, .normal => EnvRel s' h' w' e' a'.tmps
    | .exit id, .exit id' => id' = id ∧ EnvRel s' h' w' e' a'.tmps
    | .ret, .ret => EnvRel s' h' w' e' a'.tmps
    | .pan v, .panic chain => ∃ u, chain = [{ v := u, recovered := false }] ∧ VR s' h' w' v u
    | _, _ => False

/-- What a call of a value comes to. -/
def ValOk (P : Program) (C : Cfg) (ord : Nat → Array Oper → Bool) (g : AV) (vs : List AV) (h : Heap) (res : CRes) (h' : Heap) : Prop :=
  match g with
  | .clo f caps => Known P f ∧ ∀ s w us, Rel s h w → GG C ord s h w → VRs s h w (vs ++ caps) us → CallOk P f us s h w res h'
  | .yld o => ∀ s w b us rec, s.μ o = some b → w.heap[b]? = some (.loop rec) → Rel s h w → GG C ord s h w → VRs s h w vs us →
      us.length = rec.params.size ∧ RoundIn Fence.wide 0 P b rec.fn ((rec.params.zip us.toArray).foldl (fun tmps (t, a) => tmps.setIfInBounds t a) rec.tmps) rec.assign rec.body w (EndOk s h w res h')
  | _ => False

/-- What is known of calls with less fuel. -/
structure CallsAt (P : Program) (C : Cfg) (ord : Nat → Array Oper → Bool) (k : Nat) : Prop where
  fn : ∀ k', k' ≤ k → ∀ f args h res h', callF C k' f args h = some (res, h') → Known P f ∧ ∀ s w vs, Rel s h w → GG C ord s h w → VRs s h w args vs → CallOk P f vs s h w res h'
  val : ∀ k', k' ≤ k → ∀ g vs h res h', callV C k' g vs h = some (res, h') → ValOk P C ord g vs h res h'
theorem CallsAt.le {ord : Nat → Array Oper → Bool} {k k' : Nat} (hk : k' ≤ k) (H : CallsAt P C ord k) : CallsAt P C ord k' := ⟨fun j hj => H.fn j (by omega), fun j hj => H.val j (by omega)⟩

theorem want_rel {N : Nat} {ops : Array Oper} (hd : dstsOk N ops = true) {e : Env} {a : Act} (hN : a.tmps.size = N) (H : EnvRel s h w e a.tmps) {o : Oper} {b : Bool} (hw : wantA ops e o = some b) : Region.wanted o (yielded ops a.tmps) = b := by
  unfold wantA at hw
  unfold Region.wanted
  cases hg : o.guard with
  | none => simp only [hg, Option.some.injEq] at hw ⊢; exact hw
  | some jw =>
    obtain ⟨j, want⟩ := jw
    simp only [hg] at hw ⊢
    unfold yielded
    cases hj : (ops[j]?).bind (·.dst) with
    | none =>
      simp only [hj, Option.map_none, Option.some.injEq] at hw
      subst hw
      rfl
    | some d =>
      simp only [hj, Option.map_some] at hw
      have hlt : d < a.tmps.size := by
        rw [hN]
        obtain ⟨oj, h1, h2⟩ := Option.bind_eq_some_iff.1 hj
        have := Array.all_eq_true.1 hd j (Array.getElem?_eq_some_iff.1 h1).1
        rw [(Array.getElem?_eq_some_iff.1 h1).2, h2] at this
        simpa using this
      have hr := H d
      have hget : a.tmps[d]? = some (a.tmps.getD d undef) := by simp [hlt]
      simp only [Option.bind_some, hget]
      generalize a.tmps.getD d undef = u at hr
      generalize e.get d = x at hr hw
      cases hr <;> first | (cases hw; done) | skip
      case bool b' =>
        simp only [Option.some.injEq] at hw
        subst hw
        rfl
      case tup cs vs hl hr' =>
        cases cs with
        | nil =>
          simp only [Option.some.injEq] at hw
          subst hw
          rfl
        | cons c r => cases hw

theorem dst_lt {N : Nat} {ops : Array Oper} (hd : dstsOk N ops = true) {i : Nat} {o : Oper} (ho : ops[i]? = some o) : ∀ t, o.dst = some t → t < N := fun t ht => by
  have := Array.all_eq_true.1 hd i (Array.getElem?_eq_some_iff.1 ho).1
  rw [(Array.getElem?_eq_some_iff.1 ho).2, ht] at this
  simpa using this

theorem run_call {g : Nat} (hk : Known P g) {o : Oper} {args : Array Operand} {gx : Operand} {ct : Array TypeId} {a : Act} {us : Array Value} (ho : o.op = .call { callee := .value gx, args, argTypes := ct }) (hg : a.eval gx = .func (.func g) #[] us) :
    (execOp a.eval o).run P w = .ok (.enter g (args.map a.eval ++ us)) w := by
  obtain ⟨fn, c, h1, h2, h3⟩ := hk
  unfold execOp
  simp only [ho, resolve, hg, Deferred.ofValue, Sem.run_bind, Sem.run_pure, Result.andThen_ok, invoke, callFunc, run_program, h1, h3, h2, Option.isNone_some, Bool.false_eq_true, if_false, Array.empty_append]

theorem run_yieldCall {o : Oper} {args : Array Operand} {gx : Operand} {ct : Array TypeId} {a : Act} {b : Nat} {rec : Loop} (ho : o.op = .call { callee := .value gx, args, argTypes := ct }) (hg : a.eval gx = .func (.yield b) #[] #[]) (hb : w.heap[b]? = some (.loop rec)) (hs : args.size = rec.params.size) :
    (execOp a.eval o).run P w = .ok (.round b rec.fn ((rec.params.zip (args.map a.eval)).foldl (fun tmps (t, a) => tmps.setIfInBounds t a) rec.tmps) rec.assign rec.body) w := by
  have := run_yield (P := P) (args := args.map a.eval) hb (by simpa using hs)
  unfold execOp
  simp only [ho, resolve, hg, Deferred.ofValue, Sem.run_bind, Sem.run_pure, Result.andThen_ok, invoke, Array.empty_append]
  exact this

/-- One operation: what the interpreter makes of it holds of the model's. -/
theorem oper_sound {ord : Nat → Array Oper → Bool} (K : Ok P C ord) {r : Option Nat} {f : Nat} {Q : Exit → Act → World → Prop} {next : Act → World → Prop} {o : Oper}
    {e : Env} {a : Act} (R : Rel s h w) (G : GG C ord s h w) (H : EnvRel s h w e a.tmps)
    {v : AV} {h' : Heap} (hv : opA C f e h o = some (v, h'))
    (hnext : ∀ s' w' u, Ext s h w s' h' w' → Rel s' h' w' → VR s' h' w' v u → next (a.put o.dst u) w') : o.wpIn (Fr r) 0 P a w next Q := by
  have hnd : ∀ c, o.op ≠ .defer c := fun c hc => by unfold opA at hv; simp only [hc, reduceCtorEq] at hv
  obtain ⟨s', w', n, u, h1, h2, h3, h4, h5⟩ := op_sound K.ty K.glob R G.g H hv
  refine ⟨fun _ _ => trivial, ?_⟩
  rw [Oper.semAt_eq _ _ _ hnd, h1]
  rcases h2 with rfl | ⟨rfl, rfl⟩
  · exact hnext s' w' u h3 h4 h5
  · exact hnext s' w' undef h3 h4 h5

theorem callee_op {o : Oper} {g : Operand} {args : Array Operand} (hc : callee o = some (g, args)) : ∃ ct, o.op = .call { callee := .value g, args, argTypes := ct } := by
  unfold callee at hc
  split at hc
  · rename_i g' args' ct ho
    simp only [Option.some.injEq, Prod.mk.injEq] at hc
    obtain ⟨rfl, rfl⟩ := hc
    exact ⟨ct, ho⟩
  · cases hc

theorem opsF_cons (k f : Nat) (os : Array Oper) (o : Oper) (r : List Oper) (e : Env) (h : Heap) : opsF C (k + 1) f os (o :: r) e h = (wantA os e o).bind fun w => match w with
    | false => opsF C k f os r (e.putAt o.dst (.tup [])) h
    | true => match callee o with
      | none => (opA C f e h o).bind fun x => if looseAll C f os o.dst e x.2 then opsF C k f os r (e.putAt o.dst x.1) x.2 else none
      | some ga => (mapO (evalA C e) ga.2.toList).bind fun vs => (evalA C e ga.1).bind fun gv =>
        if (o.dst.map (C.quiet f)).getD false && !pureV C gv then none else (callV C k gv vs h).bind fun x => match x.1 with
          | .ret v => if looseAll C f os o.dst e x.2 then opsF C k f os r (e.putAt o.dst v) x.2 else none
          | .pan v => some (.pan v, e, x.2) := by
  simp only [opsF, Option.bind_eq_bind]
  cases hw : wantA os e o with
  | none => rfl
  | some b =>
    simp only [Option.bind_some]
    cases b with
    | false => simp
    | true =>
      simp only [if_true]
      cases hc : callee o with
      | some ga =>
        obtain ⟨g, args⟩ := ga
        obtain ⟨ct, ho⟩ := callee_op hc
        simp only [ho]
        rfl
      | none =>
        split
        · rename_i g args ct ho
          simp [callee, ho] at hc
        · rfl

theorem callop_sound {ord : Nat → Array Oper → Bool} {k : Nat} (HC : CallsAt P C ord k) {r : Option Nat} {Q : Exit → Act → World → Prop} {next : Act → World → Prop} {o : Oper} {e : Env} {a : Act} (R : Rel s h w) (G : GG C ord s h w) (H : EnvRel s h w e a.tmps)
    {g : Operand} {args : Array Operand} (hc : callee o = some (g, args)) {vs : List AV} (hvs : mapO (evalA C e) args.toList = some vs) {gv : AV} (hg : evalA C e g = some gv)
    {res : CRes} {h' : Heap} (hcall : callV C k gv vs h = some (res, h'))
    (hret : ∀ v, res = .ret v → ∀ s' w' u, Ext s h w s' h' w' → Rel s' h' w' → VR s' h' w' v u → next (a.put o.dst u) w')
    (hpan : ∀ v, res = .pan v → ∀ s' w' u, Ext s h w s' h' w' → Rel s' h' w' → VR s' h' w' v u → Q (.panic [{ v := u, recovered := false }]) a w') : o.wpIn (Fr r) 0 P a w next Q := by
  obtain ⟨ct, ho⟩ := callee_op hc
  have hnd : ∀ c, o.op ≠ .defer c := fun c hc => by rw [ho] at hc; cases hc
  have hok := HC.val k (Nat.le_refl _) _ _ _ _ _ hcall
  have hgr := evalA_rel G.g H hg
  refine ⟨fun _ _ => trivial, ?_⟩
  rw [Oper.semAt_eq _ _ _ hnd]
  have fin : ∀ en w', EndOk s h w res h' en w' → (match en, w' with
      | .returned v, w'' => next (a.put o.dst v) w''
      | .panicked chain, w'' => Q (.panic chain) a w''
      | .outgrown, _ => LetsOut Q) := fun en w' hend => by
    obtain ⟨s', h1, h2, h3⟩ := hend
    cases res with
    | ret v =>
      cases en with
      | returned u => exact hret v rfl s' w' u h1 h2 h3
      | panicked chain => exact h3.elim
      | outgrown => exact h3.elim
    | pan v =>
      cases en with
      | returned u => exact h3.elim
      | panicked chain =>
        obtain ⟨u, rfl, hu⟩ := h3
        exact hpan v rfl s' w' u h1 h2 hu
      | outgrown => exact h3.elim
  generalize hag : a.eval g = ag at hgr
  cases gv <;> simp only [ValOk] at hok
  case clo g' caps =>
    obtain ⟨hk, hok⟩ := hok
    cases hgr with
    | clo _ _ us hl hr =>
    have hargs := (args_rel G.g H hvs).append (us := us.toList) ⟨by simpa using hl, fun i c hi => by
      have hlt : i < us.size := by rw [← hl]; exact (List.getElem?_eq_some_iff.1 hi).1
      refine ⟨us[i], by simp [hlt], ?_⟩
      have := hr i c hi
      simpa [hlt] using this⟩
    have hC := hok s w _ R G hargs
    rw [run_call hk ho hag]
    rw [Oper.uponIn_enter]
    have harr : (args.toList.map a.eval ++ us.toList).toArray = args.map a.eval ++ us := by apply Array.ext'; simp
    rw [← harr]
    exact ⟨Fr_depth r, callsIn_fr.2 (Calls.mono hC fun en w' hend => fin en w' hend)⟩
  case yld o' =>
    cases hgr with
    | yld _ b hl hb =>
    obtain ⟨x, hx, hxr⟩ := R.obj o' b hb
    unfold isLoop at hl
    rw [hx] at hl
    cases x <;> simp only [Bool.false_eq_true] at hl
    rename_i lr
    obtain ⟨rec, hrec, _⟩ := hxr
    have hargs := args_rel G.g H hvs
    obtain ⟨hlen, hC⟩ := hok s w b _ rec hb hrec R G hargs
    rw [run_yieldCall ho hag hrec (by simpa using hlen)]
    rw [Oper.uponIn_round]
    have harr : (args.toList.map a.eval).toArray = args.map a.eval := by apply Array.ext'; simp
    rw [← harr]
    exact ⟨Fr_depth r, RoundIn.mono (F := Fr r) hC fun en w' hend => fin en w' hend⟩

theorem oper_mono {F : Fence} {n : Nat} {o : Oper} {Q Q' : Exit → Act → World → Prop} {K K' : Act → World → Prop} (hq : ∀ ex a w, Q ex a w → Q' ex a w) (hk : ∀ a w, K a w → K' a w) {a : Act} {w : World} (H : o.wpIn F n P a w K Q) : o.wpIn F n P a w K' Q' := by
  unfold Oper.wpIn at *
  refine ⟨H.1, ?_⟩
  have H := H.2
  generalize (o.semAt F.round a.eval).run P w = r at *
  have lets : LetsOut Q → LetsOut Q' := fun ⟨a, w, h⟩ => ⟨a, w, hq _ _ _ h⟩
  cases r with
  | ok n w' =>
    cases n <;> simp only [Oper.uponIn] at H ⊢ <;>
      first
        | exact hk _ _ H
        | exact ⟨H.1, CallsIn.mono H.2 (fun e w'' he => by cases e <;> first | exact hk _ _ he | exact hq _ _ _ he | exact lets he)⟩
        | exact ⟨H.1, RowsIn.mono H.2 (fun _ _ he => hk _ _ he)⟩
        | exact ⟨H.1, RoundIn.mono H.2 (fun e w'' he => by cases e <;> first | exact hk _ _ he | exact hq _ _ _ he | exact lets he)⟩
        | exact hq _ _ _ H
        | exact H
  | halt x w' => cases x <;> simp only [Oper.uponIn] at H ⊢ <;> first | exact hq _ _ _ H | exact H

theorem wpOps_mono {F : Fence} {n : Nat} {ops : Array Oper} {Q Q' : Exit → Act → World → Prop} (hq : ∀ ex a w, Q ex a w → Q' ex a w) : ∀ (l : List Nat) (a : Act) (w : World), wpOpsIn F n P ops Q l a w → wpOpsIn F n P ops Q' l a w
  | [], a, w, H => hq _ _ _ H
  | i :: r, a, w, H => by
    simp only [wpOpsIn] at H ⊢
    cases ho : ops[i]? with
    | none => simp only [ho] at H ⊢; exact wpOps_mono hq r a w H
    | some o =>
      simp only [ho] at H ⊢
      split
      · rename_i hw
        simp only [hw, if_true] at H
        exact oper_mono hq (fun a w => wpOps_mono hq r a w) H
      · rename_i hw
        simp only [hw, if_false] at H
        exact ⟨H.1, wpOps_mono hq r _ w H.2⟩

/-- Operations in the text's order. -/
theorem ops_sound {ord : Nat → Array Oper → Bool} (K : Ok P C ord) {N f : Nat} {ops : Array Oper} (hd : dstsOk N ops = true) {r : Option Nat} {B : Nat} :
    ∀ (k : Nat), CallsAt P C ord k → ∀ (l : List Oper) (is : List Nat), is.map (ops[·]?) = l.map some → ∀ (e : Env) (h : Heap) (out : Out) (e' : Env) (h' : Heap), opsF C k f ops l e h = some (out, e', h') →
    ∀ (s : Sim) (w : World) (a : Act), a.tmps.size = N → Dues B s w a.defers → Rel s h w → GG C ord s h w → EnvRel s h w e a.tmps → wpOpsIn (Fr r) 0 P ops (OutOk B s h w N out e' h') is a w := by
  intro k
  induction k with
  | zero => intro _ l is _ e h out e' h' hf; simp [opsF] at hf
  | succ k ih =>
    intro HC l is hl e h out e' h' hf s w a hN hdf R G H
    have HC' : CallsAt P C ord k := HC.le (by omega)
    cases l with
    | nil =>
      have : is = [] := by simpa using hl
      subst this
      simp only [opsF, Option.some.injEq, Prod.mk.injEq] at hf
      obtain ⟨rfl, rfl, rfl⟩ := hf
      exact ⟨s, Ext.refl _ _ _, R, hN, hdf, H⟩
    | cons o l =>
      cases is with
      | nil => simp at hl
      | cons i is =>
        simp only [List.map_cons, List.cons.injEq] at hl
        obtain ⟨ho, hl⟩ := hl
        rw [opsF_cons] at hf
        replace hf := Option.bind_eq_some_iff.1 hf
        obtain ⟨b, hw, hf⟩ := hf
        have hwant := want_rel hd hN H hw
        simp only [wpOpsIn, ho, hwant]
        -- what is left, behind a step
        have rest : ∀ {e1 : Env} {h1 : Heap}, opsF C k f ops l e1 h1 = some (out, e', h') → ∀ s1 w1 a1, Ext s h w s1 h1 w1 → a1.tmps.size = N → a1.defers = a.defers → Rel s1 h1 w1 → EnvRel s1 h1 w1 e1 a1.tmps → wpOpsIn (Fr r) 0 P ops (OutOk B s h w N out e' h') is a1 w1 := by
          intro e1 h1 hf1 s1 w1 a1 E hN1 hdf1 R1 H1
          have := ih HC' l is hl e1 h1 out e' h' hf1 s1 w1 a1 hN1 (by rw [hdf1]; exact hdf.ext0 E.toExt0) R1 (G.ext R.apart E) H1
          exact wpOps_mono (fun ex a' w' hq => by
            obtain ⟨s', k1, k2, k3⟩ := hq
            exact ⟨s', E.trans k1, k2, k3⟩) is a1 w1 this
        have hput : ∀ {s1 : Sim} {h1 : Heap} {w1 : World} {v : AV} {u : Value}, Ext s h w s1 h1 w1 → VR s1 h1 w1 v u → EnvRel s1 h1 w1 (e.putAt o.dst v) (a.put o.dst u).tmps ∧ (a.put o.dst u).tmps.size = N ∧ (a.put o.dst u).defers = a.defers := by
          intro s1 h1 w1 v u E hv
          refine ⟨(H.ext R.apart E).put o.dst (fun t ht => by rw [hN]; exact dst_lt hd ho t ht) hv, ?_, ?_⟩
          · cases o.dst <;> simp [Act.put, hN]
          · cases o.dst <;> simp [Act.put]
        cases b with
        | false =>
          simp only [Bool.false_eq_true, if_false]
          have hu : VR s h w (.tup []) undef := .tup [] #[] rfl fun i c hi => by simp at hi
          obtain ⟨g1, g2, g3⟩ := hput (Ext.refl s h w) hu
          exact ⟨fun _ _ => trivial, rest hf s w _ (Ext.refl _ _ _) g2 g3 R g1⟩
        | true =>
          simp only [if_true]
          cases hc : callee o with
          | none =>
            simp only [hc] at hf
            replace hf := Option.bind_eq_some_iff.1 hf
            obtain ⟨⟨v, h1⟩, hv, hf⟩ := hf
            split at hf <;> first | cases hf | skip
            refine oper_sound K R G H hv fun s1 w1 u E R1 hu => ?_
            obtain ⟨g1, g2, g3⟩ := hput E hu
            exact rest hf s1 w1 _ E g2 g3 R1 g1
          | some ga =>
            obtain ⟨g, args⟩ := ga
            simp only [hc] at hf
            replace hf := Option.bind_eq_some_iff.1 hf
            obtain ⟨vs, hvs, hf⟩ := hf
            replace hf := Option.bind_eq_some_iff.1 hf
            obtain ⟨gv, hgv, hf⟩ := hf
            split at hf
            · cases hf
            replace hf := Option.bind_eq_some_iff.1 hf
            obtain ⟨⟨res, h1⟩, hcall, hf⟩ := hf
            refine callop_sound HC' R G H hc hvs hgv hcall (fun v hres s1 w1 u E R1 hu => ?_) (fun v hres s1 w1 u E R1 hu => ?_)
            · subst hres
              dsimp only at hf
              split at hf <;> first | cases hf | skip
              obtain ⟨g1, g2, g3⟩ := hput E hu
              exact rest hf s1 w1 _ E g2 g3 R1 g1
            · subst hres
              simp only [Option.some.injEq, Prod.mk.injEq] at hf
              obtain ⟨rfl, rfl, rfl⟩ := hf
              exact ⟨s1, E, R1, hN, hdf.ext0 E.toExt0, u, rfl, hu⟩
end
end Go.Rv

/-
  Regions that draw their order: what may change places; the interpreter's run as a row of states.
-/
set_option linter.unusedSimpArgs false
set_option linter.unusedVariables false
namespace Go.Rv

def tmpsOf (xs : List Operand) : List Nat := xs.filterMap fun | .tmp t => some t | _ => none

/-- The slots that an operation reads. -/
def reads (ops : Array Oper) (o : Oper) : List Nat :=
  tmpsOf o.op.operands.toList ++ (match o.guard with | some (j, _) => ((ops[j]?).bind (·.dst)).toList | none => [])

def loudOp (C : Cfg) (f : Nat) (o : Oper) : Bool :=
  match o.op with
  | .move _ | .assign _ | .pick .. | .build .. | .load .. | .nilCheck _ | .binOp .. | .unOp .. | .convert .. | .makeInterface .. | .makeFunc .. | .slice .. | .fieldAddr .. | .field .. | .indexAddr .. | .index .. | .extract .. | .lookup .. => false
  | .buildSlice .. | .box .. => !(o.dst.map (C.imm f)).getD false
  | .call { callee := .builtin .len, .. } => false
  | .call { callee := .value (.func g), .. } => !C.pure g
  | .call { callee := .value _, .. } => !(o.dst.map (C.quiet f)).getD false
  | _ => true

def touchOp (C : Cfg) (f : Nat) (o : Oper) : Bool :=
  match o.op with
  | .convert src _ _ => (match C.ty src with | some ti => (match ti.td with | .slice _ => true | _ => false) | none => false)
  | .move _ | .assign _ | .pick .. | .build .. | .unOp .. | .makeInterface .. | .makeFunc .. | .field .. | .index .. | .extract .. => false
  | .binOp _ t _ _ _ => (match C.ty t with | some ti => (match ti.td with | .ptr | .slice _ => true | _ => false) | none => false)
  | .buildSlice .. | .box .. => !(o.dst.map (C.imm f)).getD false
  | .load .. => !(o.dst.map (C.quiet f)).getD false
  | _ => true

/-- Does the one write what the other one reads or writes? -/
def dstC (ops : Array Oper) (x y : Oper) : Bool :=
  (match x.dst with | some d => (reads ops y).contains d || y.dst == some d | none => false) ||
  (match y.dst with | some d => (reads ops x).contains d | none => false)
/-- Does the one change the heap, and the other one look at it? -/
def heapC (C : Cfg) (f : Nat) (x y : Oper) : Bool :=
  !isAlloc x && !isAlloc y && ((loudOp C f x && touchOp C f y) || (loudOp C f y && touchOp C f x))

/-- Does the second one, which is looked at, let the first one, number i, be done behind it? -/
def looseP (C : Cfg) (f : Nat) (i : Nat) (x y : Oper) : Bool :=
  !loudOp C f x && (match y.dst with | some t => (C.loose f t).contains i | none => false)

/-- Does the second one write nothing that the first one reads or writes? -/
def antiC (ops : Array Oper) (x y : Oper) : Bool :=
  match y.dst with | some d => !(reads ops x).contains d && !(x.dst == some d) | none => true

def anyLoose (C : Cfg) (f : Nat) (ops : Array Oper) : Bool := ops.toList.any fun o => match o.dst with | some t => !(C.loose f t).isEmpty | none => false

/-- The numbers of operations, in the row in which the interpreter goes through them. -/
def ordIdx (ops : Array Oper) : List Nat :=
  (List.range ops.size).filter (fun i => ((ops[i]?).map isAlloc).getD false) ++ (List.range ops.size).filter (fun i => !((ops[i]?).map isAlloc).getD false)

def pairsOk (C : Cfg) (f : Nat) (ops : Array Oper) (b : Array Nat) : List Nat → Bool
  | [] => true
  | i :: r => r.all (fun j => match ops[i]?, ops[j]? with
      | some x, some y => ((!dstC ops x y && (!heapC C f x y || looseP C f i x y)) || (b.getD j 0).testBit i) && (!anyLoose C f ops || antiC ops x y)
      | _, _ => true) && pairsOk C f ops b r

def ordOk (C : Cfg) (f : Nat) (ops : Array Oper) : Bool :=
  pairsOk C f ops (Region.before ops) (ordIdx ops) &&
  (List.range ops.size).all (fun i => match ops[i]? with
    | some o => (!isAlloc o || (o.guard.isNone && o.dst.isSome)) && o.after.all (fun e => !Region.binds .any e || e.on < i) && !(match o.dst with | some d => (reads ops o).contains d | none => false)
    | none => true)

theorem loud_touch {C : Cfg} {f : Nat} {o : Oper} (h : loudOp C f o = true) : touchOp C f o = true := by
  unfold loudOp at h
  unfold touchOp
  generalize o.op = op at h ⊢
  cases op <;> first | rfl | exact h | (cases h; done) | skip

section
variable {P : Program} {C : Cfg} {s : Sim} {h : Heap} {w : World}


theorem evalA_congr {e e' : Env} {x : Operand} (hx : ∀ t, x = .tmp t → e.get t = e'.get t) : evalA C e x = evalA C e' x := by
  cases x with
  | tmp t => simp only [evalA, hx t rfl]
  | _ => rfl
theorem mapO_congr {α β : Type} {f g : α → Option β} : ∀ {l : List α}, (∀ a ∈ l, f a = g a) → mapO f l = mapO g l
  | [], _ => rfl
  | a :: l, hl => by
    simp only [mapO]
    rw [hl a (by simp), mapO_congr (l := l) (fun b hb => hl b (by simp [hb]))]
theorem optA_congr {e e' : Env} {x : Option Operand} (hx : ∀ y, x = some y → evalA C e y = evalA C e' y) : optA C e x = optA C e' x := by
  cases x with
  | none => rfl
  | some x => simp only [optA, hx x rfl]

theorem mem_tmpsOf {xs : List Operand} {t : Nat} (hx : Operand.tmp t ∈ xs) : t ∈ tmpsOf xs := by
  unfold tmpsOf
  exact List.mem_filterMap.2 ⟨_, hx, rfl⟩

theorem opA_congr {f : Nat} {e e' : Env} {h : Heap} {o : Oper} (he : ∀ t, t ∈ tmpsOf o.op.operands.toList → e.get t = e'.get t) : opA C f e h o = opA C f e' h o := by
  have ev : ∀ x : Operand, x ∈ o.op.operands.toList → evalA C e x = evalA C e' x := fun x hx => evalA_congr fun t ht => he t (mem_tmpsOf (ht ▸ hx))
  unfold opA
  simp only
  generalize o.op = op at ev ⊢
  cases op <;> (try simp only)
  case move x => rw [ev x (by simp [Op.operands])]
  case assign x => rw [ev x (by simp [Op.operands])]
  case pick c a b => rw [ev c (by simp [Op.operands]), ev a (by simp [Op.operands]), ev b (by simp [Op.operands])]
  case box t x => rw [ev x (by simp [Op.operands])]
  case build t ps => rw [mapO_congr (l := ps.toList) (fun p hp => by rw [ev p.2 (by simp [Op.operands]; exact ⟨p.1, by simpa using hp⟩)])]
  case buildSlice t n ps => rw [mapO_congr (l := ps.toList) (fun p hp => by rw [ev p.2 (by simp [Op.operands]; exact ⟨p.1, by simpa using hp⟩)])]
  case load t x => rw [ev x (by simp [Op.operands])]
  case store t x y => rw [ev x (by simp [Op.operands]), ev y (by simp [Op.operands])]
  case nilCheck x => rw [ev x (by simp [Op.operands])]
  case binOp b t x y t' => rw [ev x (by simp [Op.operands]), ev y (by simp [Op.operands])]
  case unOp u t x => rw [ev x (by simp [Op.operands])]
  case convert a b x => rw [ev x (by simp [Op.operands])]
  case makeInterface t x => rw [ev x (by simp [Op.operands])]
  case makeFunc fn first caps =>
    cases fn <;> simp only
    rw [mapO_congr (l := caps.toList) (fun x hx => ev x (by simp [Op.operands]; right; simpa using hx))]
  case makeSlice t x y => rw [ev x (by simp [Op.operands]), ev y (by simp [Op.operands])]
  case makeMap t r => cases r <;> rfl
  case lookup t x y ok => rw [ev x (by simp [Op.operands]), ev y (by simp [Op.operands])]
  case mapUpdate t x y z => rw [ev x (by simp [Op.operands]), ev y (by simp [Op.operands]), ev z (by simp [Op.operands])]
  case insert t x y z => rw [ev x (by simp [Op.operands]), ev y (by simp [Op.operands]), ev z (by simp [Op.operands])]
  case slice t x lo hi mx =>
    rw [ev x (by simp [Op.operands]), optA_congr (C := C) (e := e) (e' := e') (x := lo) (fun y hy => ev y (by simp [Op.operands, hy])), optA_congr (C := C) (e := e) (e' := e') (x := hi) (fun y hy => ev y (by simp [Op.operands, hy]))]
  case fieldAddr t x k => rw [ev x (by simp [Op.operands])]
  case field t x k => rw [ev x (by simp [Op.operands])]
  case indexAddr t x y => rw [ev x (by simp [Op.operands]), ev y (by simp [Op.operands])]
  case index t x y => rw [ev x (by simp [Op.operands]), ev y (by simp [Op.operands])]
  case extract x k => rw [ev x (by simp [Op.operands])]
  case call c =>
    obtain ⟨callee, args, ct⟩ := c
    cases callee <;> simp only
    rw [mapO_congr (l := args.toList) (fun x hx => ev x (by simp [Op.operands, Call.operands]; simpa using hx))]


theorem eqA_still {h h2 : Heap} {td : TD} {x y : AV} (ht : (match td with | .ptr | .slice _ => true | _ => false) = false) : eqA h td x y = eqA h2 td x y := by
  cases td <;> simp only [reduceCtorEq] at ht <;> cases x <;> first | rfl | (cases y <;> rfl)

theorem opA_still {f : Nat} {e : Env} {h h1 : Heap} {o : Oper} {v : AV} (hl : touchOp C f o = false) (ha : isAlloc o = false) (hv : opA C f e h o = some (v, h1)) : h1 = h ∧ ∀ h2, opA C f e h2 o = some (v, h2) := by
  have fin : ∀ {x : Option AV}, (x.bind fun y => some (y, h)) = some (v, h1) → h1 = h ∧ ∀ h2 : Heap, (x.bind fun y => some (y, h2)) = some (v, h2) := by
    intro x hx
    obtain ⟨y, hy, hx⟩ := Option.bind_eq_some_iff.1 hx
    simp only [Option.some.injEq, Prod.mk.injEq] at hx
    obtain ⟨rfl, rfl⟩ := hx
    exact ⟨rfl, fun h2 => by rw [hy]; rfl⟩
  have cong : ∀ {α : Type} {x : Option α} {F G : α → Option (AV × Heap)}, (∀ y, F y = some (v, h1) → h1 = h ∧ ∀ h2 : Heap, True) → True := fun _ => trivial
  unfold opA at hv ⊢
  unfold touchOp at hl
  unfold isAlloc at ha
  simp only [Option.bind_eq_bind] at hv ⊢
  generalize o.op = op at hv hl ha ⊢
  cases op <;> simp only [reduceCtorEq, Bool.true_eq_false] at hv hl ha ⊢
  case move x => exact fin hv
  case assign x => exact fin hv
  case pick c a b =>
    obtain ⟨cv, hc, hv⟩ := Option.bind_eq_some_iff.1 hv
    simp only [hc, Option.bind_some]
    split at hv
    · exact fin hv
    · exact fin hv
    · cases hv
  case build t ps =>
    obtain ⟨q, hq, hv⟩ := Option.bind_eq_some_iff.1 hv
    simp only [hq, Option.bind_some]
    exact fin hv
  case box t x =>
    simp only [Bool.not_eq_false'] at hl
    obtain ⟨ti, hti, hv⟩ := Option.bind_eq_some_iff.1 hv
    obtain ⟨xv, hx, hv⟩ := Option.bind_eq_some_iff.1 hv
    simp only [hti, hx, Option.bind_some]
    split at hv
    · rename_i hc
      simp only [hl, if_true, Option.some.injEq, Prod.mk.injEq] at hv
      obtain ⟨rfl, rfl⟩ := hv
      exact ⟨rfl, fun h2 => by rw [if_pos hc]; simp [hl]⟩
    · cases hv
  case load t x =>
    simp only [Bool.not_eq_false'] at hl
    obtain ⟨xv, hx, hv⟩ := Option.bind_eq_some_iff.1 hv
    simp only [hx, Option.bind_some]
    split at hv
    · cases hv
    · rename_i hc
      have hr : xv.isRef = true := by simpa [hl] using hc
      cases xv <;> simp only [AV.isRef, Bool.false_eq_true] at hr
      obtain ⟨h1, h2⟩ := fin hv
      exact ⟨h1, fun h3 => by rw [if_neg hc]; exact h2 h3⟩
  case buildSlice t n ps =>
    simp only [Bool.not_eq_false'] at hl
    obtain ⟨q, hq, hv⟩ := Option.bind_eq_some_iff.1 hv
    obtain ⟨ti, hti, hv⟩ := Option.bind_eq_some_iff.1 hv
    simp only [hq, hti, Option.bind_some]
    generalize ti.td = td at hv ⊢
    cases td <;> simp only [reduceCtorEq] at hv ⊢
    obtain ⟨te, hte, hv⟩ := Option.bind_eq_some_iff.1 hv
    simp only [hte, Option.bind_some]
    split at hv
    · cases hv
    · rename_i hc
      obtain ⟨cs, hcs, hv⟩ := Option.bind_eq_some_iff.1 hv
      simp only [hl, if_true, Option.some.injEq, Prod.mk.injEq] at hv
      obtain ⟨rfl, rfl⟩ := hv
      exact ⟨rfl, fun h2 => by rw [if_neg hc, hcs]; simp [hl]⟩
  case binOp b t x y t' =>
    obtain ⟨xv, hx, hv⟩ := Option.bind_eq_some_iff.1 hv
    obtain ⟨yv, hy, hv⟩ := Option.bind_eq_some_iff.1 hv
    simp only [hx, hy, Option.bind_some]
    obtain ⟨z, hz, hv⟩ := Option.bind_eq_some_iff.1 hv
    simp only [Option.some.injEq, Prod.mk.injEq] at hv
    obtain ⟨rfl, rfl⟩ := hv
    refine ⟨rfl, fun h2 => ?_⟩
    have : binA C h2 b t xv yv = binA C h b t xv yv := by
      unfold binA
      split
      · rfl
      · rfl
      · cases hti : C.ty t with
        | none => rfl
        | some ti =>
          simp only [hti] at hl
          simp only [Option.bind_eq_bind, Option.bind_some, eqA_still (h := h2) (h2 := h) hl]
    rw [this, hz]; rfl
  case unOp u t x =>
    obtain ⟨xv, hx, hv⟩ := Option.bind_eq_some_iff.1 hv
    simp only [hx, Option.bind_some]
    exact fin hv
  case convert a b x =>
    obtain ⟨xv, hx, hv⟩ := Option.bind_eq_some_iff.1 hv
    simp only [hx, Option.bind_some]
    obtain ⟨z, hz, hv⟩ := Option.bind_eq_some_iff.1 hv
    simp only [Option.some.injEq, Prod.mk.injEq] at hv
    obtain ⟨rfl, rfl⟩ := hv
    refine ⟨rfl, fun h2 => ?_⟩
    have : convH C h2 a b xv = convH C h a b xv := by
      unfold convH
      cases hti : C.ty a with
      | none => rfl
      | some ti =>
        simp only [hti] at hl
        simp only [Option.bind_eq_bind, Option.bind_some]
        generalize ti.td = td at hl ⊢
        cases td <;> first | rfl | cases hl
    rw [this, hz]; rfl
  case makeInterface t x =>
    obtain ⟨ti, hti, hv⟩ := Option.bind_eq_some_iff.1 hv
    simp only [hti, Option.bind_some]
    generalize ti.td = td at hv ⊢
    cases td <;> first | (cases hv; done) | (
      obtain ⟨xv, hx, hv⟩ := Option.bind_eq_some_iff.1 hv
      simp only [Option.some.injEq, Prod.mk.injEq] at hv
      obtain ⟨rfl, rfl⟩ := hv
      exact ⟨rfl, fun h2 => by simp only [hx, Option.bind_some]⟩)
  case makeFunc fn first caps =>
    cases fn <;> simp only [reduceCtorEq] at hv ⊢
    split at hv
    · rename_i hf
      obtain ⟨cs, hcs, hv⟩ := Option.bind_eq_some_iff.1 hv
      simp only [Option.some.injEq, Prod.mk.injEq] at hv
      obtain ⟨rfl, rfl⟩ := hv
      exact ⟨rfl, fun h2 => by rw [if_pos hf, hcs]; rfl⟩
    · cases hv
  case field t x k =>
    obtain ⟨xv, hx, hv⟩ := Option.bind_eq_some_iff.1 hv
    simp only [hx, Option.bind_some]
    exact fin hv
  case index t x y =>
    obtain ⟨xv, hx, hv⟩ := Option.bind_eq_some_iff.1 hv
    obtain ⟨yv, hy, hv⟩ := Option.bind_eq_some_iff.1 hv
    simp only [hx, hy, Option.bind_some]
    exact fin hv
  case extract x k =>
    obtain ⟨xv, hx, hv⟩ := Option.bind_eq_some_iff.1 hv
    simp only [hx, Option.bind_some]
    split at hv
    · exact fin hv
    · cases hv

theorem opA_quiet {f : Nat} {e : Env} {h h1 : Heap} {o : Oper} {v : AV} (hl : loudOp C f o = false) (hv : opA C f e h o = some (v, h1)) : h1 = h := by
  have fin : ∀ {x : Option AV}, (x.bind fun y => some (y, h)) = some (v, h1) → h1 = h := by
    intro x hx
    obtain ⟨y, hy, hx⟩ := Option.bind_eq_some_iff.1 hx
    simp only [Option.some.injEq, Prod.mk.injEq] at hx
    exact hx.2.symm
  by_cases ht : touchOp C f o = false
  · refine (opA_still (C := C) ht ?_ hv).1
    unfold isAlloc
    unfold loudOp at hl
    split <;> first | rfl | skip
    rename_i t ho
    rw [ho] at hl
    cases hl
  · unfold opA at hv
    unfold loudOp at hl
    unfold touchOp at ht
    simp only [Option.bind_eq_bind] at hv
    generalize o.op = op at hv hl ht
    cases op <;> simp only [reduceCtorEq, Bool.true_eq_false, not_true_eq_false] at hv hl ht
    case load t x =>
      obtain ⟨xv, hx, hv⟩ := Option.bind_eq_some_iff.1 hv
      split at hv
      · cases hv
      · exact fin hv
    case box t x => exact absurd hl ht
    case buildSlice t n ps => exact absurd hl ht
    case nilCheck x =>
      obtain ⟨xv, hx, hv⟩ := Option.bind_eq_some_iff.1 hv
      split at hv
      · split at hv
        · simp only [Option.some.injEq, Prod.mk.injEq] at hv; exact hv.2.symm
        · cases hv
      all_goals first | (simp only [Option.some.injEq, Prod.mk.injEq] at hv; exact hv.2.symm) | cases hv
    case binOp b t x y t' =>
      obtain ⟨xv, hx, hv⟩ := Option.bind_eq_some_iff.1 hv
      obtain ⟨yv, hy, hv⟩ := Option.bind_eq_some_iff.1 hv
      exact fin hv
    case convert a b x =>
      obtain ⟨xv, hx, hv⟩ := Option.bind_eq_some_iff.1 hv
      exact fin hv
    case slice t x lo hi mx =>
      obtain ⟨xv, hx, hv⟩ := Option.bind_eq_some_iff.1 hv
      obtain ⟨yv, hy, hv⟩ := Option.bind_eq_some_iff.1 hv
      split at hv
      · cases hv
      · obtain ⟨zv, hz, hv⟩ := Option.bind_eq_some_iff.1 hv
        exact fin hv
    case fieldAddr t x k =>
      obtain ⟨xv, hx, hv⟩ := Option.bind_eq_some_iff.1 hv
      exact fin hv
    case lookup t x y ok =>
      obtain ⟨xv, hx, hv⟩ := Option.bind_eq_some_iff.1 hv
      obtain ⟨yv, hy, hv⟩ := Option.bind_eq_some_iff.1 hv
      exact fin hv
    case indexAddr t x y =>
      obtain ⟨xv, hx, hv⟩ := Option.bind_eq_some_iff.1 hv
      obtain ⟨yv, hy, hv⟩ := Option.bind_eq_some_iff.1 hv
      exact fin hv
    case call c =>
      obtain ⟨callee, args, ct⟩ := c
      cases callee <;> simp only [reduceCtorEq] at hv hl
      case builtin b =>
        cases b <;> simp only [Bool.true_eq_false] at hl
        obtain ⟨vs, hvs, hv⟩ := Option.bind_eq_some_iff.1 hv
        split at hv
        · obtain ⟨t, ht', hv⟩ := Option.bind_eq_some_iff.1 hv
          obtain ⟨ti, hti, hv⟩ := Option.bind_eq_some_iff.1 hv
          obtain ⟨n, hn, hv⟩ := Option.bind_eq_some_iff.1 hv
          simp only [Option.some.injEq, Prod.mk.injEq] at hv
          exact hv.2.symm
        · rename_i hb; cases hb
        · simp [moreA] at hv

theorem callF_pure {ord : Nat → Array Oper → Bool} (K : Ok P C ord) {k g : Nat} {args : List AV} {h h' : Heap} {v : AV} (hp : C.pure g = true) (hc : callF C k g args h = some (.ret v, h')) : h' = h := by
  cases k with
  | zero => simp [callF] at hc
  | succ k =>
    simp only [callF, Option.bind_eq_bind] at hc
    cases hpr : C.prim g with
    | some p =>
      simp only [hpr] at hc
      exact (K.prim g p hpr).2.1 hp _ _ _ _ hc
    | none =>
      simp only [hpr] at hc
      obtain ⟨fi, hfi, hc⟩ := Option.bind_eq_some_iff.1 hc
      split at hc
      · cases hc
      split at hc
      · obtain ⟨avs, _, hc⟩ := Option.bind_eq_some_iff.1 hc
        obtain ⟨⟨out, e1, h1⟩, hx, hc⟩ := Option.bind_eq_some_iff.1 hc
        have hrs : ∀ {y : Option (List AV)}, (y.bind fun rs => if (packA rs).plain then some (CRes.ret (packA rs), h) else none) = some (.ret v, h') → h' = h := by
          intro y hy
          obtain ⟨rs, _, hy⟩ := Option.bind_eq_some_iff.1 hy
          split at hy
          · simp only [Option.some.injEq, Prod.mk.injEq] at hy; exact hy.2.symm
          · cases hy
        cases out <;> first | exact hrs hc | cases hc
      obtain ⟨⟨out, e1, h1⟩, hx, hc⟩ := Option.bind_eq_some_iff.1 hc
      have hleave : ∀ {vs : Option (List AV)}, (vs.bind fun vs => leaveA C g h (packA vs) h1) = some (.ret v, h') → h' = h := by
        intro vs hv
        obtain ⟨rs, _, hv⟩ := Option.bind_eq_some_iff.1 hv
        unfold leaveA at hv
        rw [if_pos hp] at hv
        split at hv
        · obtain ⟨y, _, hy⟩ := Option.map_eq_some_iff.1 hv
          simp only [Prod.mk.injEq] at hy
          exact hy.2.symm
        · cases hv
      cases out with
      | nrm => exact hleave hc
      | ret => exact hleave hc
      | exit id => cases hc
      | pan u =>
        simp only [Option.some.injEq, Prod.mk.injEq, reduceCtorEq, false_and] at hc

theorem callV_pure {ord : Nat → Array Oper → Bool} (K : Ok P C ord) {k : Nat} {gv : AV} {vs : List AV} {h h' : Heap} {v : AV} (hp : pureV C gv = true) (hc : callV C k gv vs h = some (.ret v, h')) : h' = h := by
  cases k with
  | zero => simp [callV] at hc
  | succ k =>
    cases gv <;> simp only [pureV, Bool.false_eq_true] at hp
    simp only [callV] at hc
    exact callF_pure K hp hc
end
end Go.Rv

/-
  Regions that draw their order: the interpreter's run as a row of states; what is ahead of what.
-/
set_option linter.unusedSimpArgs false
set_option linter.unusedVariables false
namespace Go.Rv
section
variable {P : Program} {C : Cfg} {s : Sim} {h : Heap} {w : World}

def StepA (C : Cfg) (f : Nat) (ops : Array Oper) (k : Nat) (o : Oper) (x : Env × Heap) (v : AV) (h' : Heap) : Prop :=
  (wantA ops x.1 o = some false ∧ v = .tup [] ∧ h' = x.2) ∨
  (wantA ops x.1 o = some true ∧ callee o = none ∧ opA C f x.1 x.2 o = some (v, h') ∧ looseAll C f ops o.dst x.1 h' = true) ∨
  (wantA ops x.1 o = some true ∧ ∃ g args vs gv k', callee o = some (g, args) ∧ mapO (evalA C x.1) args.toList = some vs ∧ evalA C x.1 g = some gv ∧
    ((o.dst.map (C.quiet f)).getD false && !pureV C gv) = false ∧ k' ≤ k ∧ callV C k' gv vs x.2 = some (.ret v, h') ∧ looseAll C f ops o.dst x.1 h' = true)

theorem StepA.le {f : Nat} {ops : Array Oper} {k k' : Nat} {o : Oper} {x : Env × Heap} {v : AV} {h' : Heap} (hk : k ≤ k') (H : StepA C f ops k o x v h') : StepA C f ops k' o x v h' := by
  rcases H with H | H | ⟨h1, g, args, vs, gv, j, h2, h3, h4, h5, h6, h7⟩
  · exact .inl H
  · exact .inr (.inl H)
  · exact .inr (.inr ⟨h1, g, args, vs, gv, j, h2, h3, h4, h5, by omega, h7⟩)

/-- A run without a panic as a row of states. -/
theorem trace_of {f : Nat} {ops : Array Oper} : ∀ (l : List Oper) (k : Nat) (e : Env) (h : Heap) (e' : Env) (h' : Heap), opsF C k f ops l e h = some (.nrm, e', h') →
    ∃ (tr : Nat → Env × Heap) (vl : Nat → AV), tr 0 = (e, h) ∧ tr l.length = (e', h') ∧ ∀ (j : Nat) o, l[j]? = some o → StepA C f ops k o (tr j) (vl j) (tr (j + 1)).2 ∧ (tr (j + 1)).1 = (tr j).1.putAt o.dst (vl j)
  | [], k, e, h, e', h', hf => by
    cases k with
    | zero => simp [opsF] at hf
    | succ k =>
      simp only [opsF, Option.some.injEq, Prod.mk.injEq, true_and] at hf
      obtain ⟨rfl, rfl⟩ := hf
      exact ⟨fun _ => (e, h), fun _ => .junk, rfl, rfl, fun j o hj => by simp at hj⟩
  | o :: r, k, e, h, e', h', hf => by
    cases k with
    | zero => simp [opsF] at hf
    | succ k =>
      rw [opsF_cons] at hf
      replace hf := Option.bind_eq_some_iff.1 hf
      obtain ⟨b, hw, hf⟩ := hf
      have fin : ∀ {v : AV} {h1 : Heap}, StepA C f ops (k + 1) o (e, h) v h1 → opsF C k f ops r (e.putAt o.dst v) h1 = some (.nrm, e', h') →
          ∃ (tr : Nat → Env × Heap) (vl : Nat → AV), tr 0 = (e, h) ∧ tr (r.length + 1) = (e', h') ∧ ∀ (j : Nat) o', (o :: r)[j]? = some o' → StepA C f ops (k + 1) o' (tr j) (vl j) (tr (j + 1)).2 ∧ (tr (j + 1)).1 = (tr j).1.putAt o'.dst (vl j) := by
        intro v h1 hs hr
        obtain ⟨tr, vl, t0, tn, ts⟩ := trace_of r k _ _ _ _ hr
        refine ⟨fun j => match j with | 0 => (e, h) | j + 1 => tr j, fun j => match j with | 0 => v | j + 1 => vl j, rfl, tn, fun j o' hj => ?_⟩
        cases j with
        | zero =>
          simp only [List.getElem?_cons_zero, Option.some.injEq] at hj
          subst hj
          simp only [t0]
          exact ⟨hs, trivial⟩
        | succ j =>
          obtain ⟨a1, a2⟩ := ts j o' (by simpa using hj)
          exact ⟨a1.le (by omega), a2⟩
      cases b with
      | false => exact fin (.inl ⟨hw, rfl, rfl⟩) hf
      | true =>
        cases hc : callee o with
        | none =>
          simp only [hc] at hf
          replace hf := Option.bind_eq_some_iff.1 hf
          obtain ⟨⟨v, h1⟩, hv, hf⟩ := hf
          split at hf <;> first | cases hf | skip
          rename_i hlo
          exact fin (.inr (.inl ⟨hw, hc, hv, hlo⟩)) hf
        | some ga =>
          obtain ⟨g, args⟩ := ga
          simp only [hc] at hf
          replace hf := Option.bind_eq_some_iff.1 hf
          obtain ⟨vs, hvs, hf⟩ := hf
          replace hf := Option.bind_eq_some_iff.1 hf
          obtain ⟨gv, hgv, hf⟩ := hf
          split at hf
          · cases hf
          rename_i hq
          replace hf := Option.bind_eq_some_iff.1 hf
          obtain ⟨⟨res, h1⟩, hcall, hf⟩ := hf
          cases res with
          | pan v => simp at hf
          | ret v =>
            dsimp only at hf
            split at hf <;> first | cases hf | skip
            rename_i hlo
            exact fin (.inr (.inr ⟨hw, g, args, vs, gv, k, hc, hvs, hgv, by simpa using hq, by omega, hcall, hlo⟩)) hf

theorem step_quiet {ord : Nat → Array Oper → Bool} (K : Ok P C ord) {f : Nat} {ops : Array Oper} {k : Nat} {o : Oper} {x : Env × Heap} {v : AV} {h' : Heap} (hl : loudOp C f o = false) (H : StepA C f ops k o x v h') : h' = x.2 := by
  rcases H with ⟨_, _, H⟩ | ⟨_, _, H, _⟩ | ⟨_, g, args, vs, gv, j, h2, h3, h4, h5, _, h7, _⟩
  · exact H
  · exact opA_quiet hl H
  · refine callV_pure K ?_ h7
    obtain ⟨ct, ho⟩ := callee_op h2
    unfold loudOp at hl
    simp only [ho] at hl
    cases g with
    | func g0 =>
      simp only [Bool.not_eq_false'] at hl
      simp only [evalA, Option.some.injEq] at h4
      rw [← h4]; exact hl
    | _ =>
      simp only [Bool.not_eq_false'] at hl
      rw [hl] at h5
      simpa using h5


theorem map_range (ops : Array Oper) : (List.range ops.size).map (ops[·]?) = ops.toList.map some := by
  apply List.ext_getElem?
  intro i
  simp only [List.getElem?_map, List.getElem?_range', List.getElem?_toArray]
  by_cases hi : i < ops.size
  · simp [hi]
  · simp [hi, Array.getElem?_eq_none (Nat.le_of_not_lt hi)]

theorem filter_idx (ops : Array Oper) (p : Oper → Bool) (q : Option Oper → Bool) (hq : ∀ o, q (some o) = p o) : ((List.range ops.size).filter (fun i => q (ops[i]?))).map (ops[·]?) = (ops.toList.filter p).map some := by
  have h1 : ((List.range ops.size).filter (fun i => q (ops[i]?))).map (ops[·]?) = ((List.range ops.size).map (ops[·]?)).filter q := by
    rw [List.filter_map]; rfl
  rw [h1, map_range, List.filter_map]
  congr 1
  apply List.filter_congr
  intro o _
  exact hq o

theorem idx_sched (ops : Array Oper) : (ordIdx ops).map (ops[·]?) = (sched ops true).map some := by
  unfold ordIdx sched
  simp only [if_true, List.map_append]
  rw [filter_idx ops isAlloc (fun x => (x.map isAlloc).getD false) (fun o => rfl), filter_idx ops (fun o => !isAlloc o) (fun x => !(x.map isAlloc).getD false) (fun o => rfl)]

theorem idx_at {ops : Array Oper} {p i : Nat} (hp : (ordIdx ops)[p]? = some i) : ∃ o, ops[i]? = some o ∧ (sched ops true)[p]? = some o := by
  have h1 : ((ordIdx ops).map (ops[·]?))[p]? = some (ops[i]?) := by rw [List.getElem?_map, hp]; rfl
  rw [idx_sched, List.getElem?_map] at h1
  obtain ⟨o, h2, h3⟩ := Option.map_eq_some_iff.1 h1
  exact ⟨o, h3.symm, h2⟩
theorem sched_at {ops : Array Oper} {p : Nat} {o : Oper} (hp : (sched ops true)[p]? = some o) : ∃ i, (ordIdx ops)[p]? = some i ∧ ops[i]? = some o := by
  have h1 : ((sched ops true).map some)[p]? = some (some o) := by rw [List.getElem?_map, hp]; rfl
  rw [← idx_sched, List.getElem?_map] at h1
  obtain ⟨i, h2, h3⟩ := Option.map_eq_some_iff.1 h1
  exact ⟨i, h2, h3⟩
theorem idx_length (ops : Array Oper) : (ordIdx ops).length = (sched ops true).length := by
  have := congrArg List.length (idx_sched ops)
  simpa using this

theorem idx_mem {ops : Array Oper} {i : Nat} (hi : i < ops.size) : ∃ p : Nat, (ordIdx ops)[p]? = some i := by
  have : i ∈ ordIdx ops := by
    unfold ordIdx
    rw [List.mem_append, List.mem_filter, List.mem_filter]
    cases h : ((ops[i]?).map isAlloc).getD false
    · right; simp [hi]
    · left; simp [hi]
  exact List.mem_iff_getElem?.1 this
theorem idx_lt {ops : Array Oper} {p i : Nat} (hp : (ordIdx ops)[p]? = some i) : i < ops.size := by
  obtain ⟨o, ho, _⟩ := idx_at hp
  exact (Array.getElem?_eq_some_iff.1 ho).1
theorem idx_nodup (ops : Array Oper) : (ordIdx ops).Nodup := by
  unfold ordIdx
  refine List.nodup_append.2 ⟨List.nodup_range.filter _, List.nodup_range.filter _, ?_⟩
  intro a ha b hb e
  subst e
  have h1 := (List.mem_filter.1 ha).2
  have h2 := (List.mem_filter.1 hb).2
  rw [h1] at h2
  cases h2
theorem idx_inj {ops : Array Oper} {p q i : Nat} (hp : (ordIdx ops)[p]? = some i) (hq : (ordIdx ops)[q]? = some i) : p = q := by
  obtain ⟨h1, h2⟩ := List.getElem?_eq_some_iff.1 hp
  obtain ⟨h3, h4⟩ := List.getElem?_eq_some_iff.1 hq
  have hpw := List.pairwise_iff_getElem.1 (idx_nodup ops)
  rcases Nat.lt_trichotomy p q with hlt | he | hgt
  · exact absurd (h2.trans h4.symm) (hpw p q h1 h3 hlt)
  · exact he
  · exact absurd (h4.trans h2.symm) (hpw q p h3 h1 hgt)

/-- How many variables the region makes: they come first. -/
def allocs (ops : Array Oper) : Nat := (ops.toList.filter isAlloc).length
theorem alloc_at {ops : Array Oper} {p : Nat} {o : Oper} (hp : (sched ops true)[p]? = some o) : isAlloc o = decide (p < allocs ops) := by
  unfold sched at hp
  simp only [if_true] at hp
  rw [List.getElem?_append] at hp
  unfold allocs
  split at hp
  · rename_i hlt
    have := (List.mem_filter.1 (List.mem_of_getElem? hp)).2
    simp [this, hlt]
  · rename_i hlt
    have := (List.mem_filter.1 (List.mem_of_getElem? hp)).2
    simp only [Bool.not_eq_true'] at this
    simp [this, hlt]

theorem pairs_spec {f : Nat} {ops : Array Oper} {b : Array Nat} : ∀ (L : List Nat), pairsOk C f ops b L = true → ∀ (p q i j : Nat) (x y : Oper), p < q → L[p]? = some i → L[q]? = some j → ops[i]? = some x → ops[j]? = some y →
    ((dstC ops x y = true → (b.getD j 0).testBit i = true) ∧ (heapC C f x y = true → looseP C f i x y = false → (b.getD j 0).testBit i = true)) ∧ (anyLoose C f ops = true → antiC ops x y = true)
  | [], _, p, q, i, j, x, y, _, hp, _, _, _ => by simp at hp
  | a :: L, H, p, q, i, j, x, y, hpq, hp, hq, hx, hy => by
    simp only [pairsOk, Bool.and_eq_true, List.all_eq_true] at H
    obtain ⟨H1, H2⟩ := H
    cases q with
    | zero => omega
    | succ q =>
      have hq' : L[q]? = some j := by simpa using hq
      cases p with
      | zero =>
        simp only [List.getElem?_cons_zero, Option.some.injEq] at hp
        subst hp
        have := H1 j (List.mem_of_getElem? hq')
        simp only [hx, hy, Bool.and_eq_true, Bool.or_eq_true, Bool.not_eq_true'] at this
        obtain ⟨h1, h2⟩ := this
        refine ⟨⟨fun hd => ?_, fun hh hl => ?_⟩, fun ha => ?_⟩
        · rcases h1 with ⟨h1, _⟩ | h1
          · rw [hd] at h1; cases h1
          · exact h1
        · rcases h1 with ⟨_, h1 | h1⟩ | h1
          · rw [hh] at h1; cases h1
          · rw [hl] at h1; cases h1
          · exact h1
        · rcases h2 with h2 | h2
          · rw [ha] at h2; cases h2
          · exact h2
      | succ p => exact pairs_spec L H2 p q i j x y (by omega) (by simpa using hp) hq' hx hy

/-- What stands ahead of an operation by some way has been done where all that stands right ahead of it has. -/
theorem before_in (D : Nat → Prop) (ops : Array Oper) (hcl : ∀ i o, ops[i]? = some o → D i → ∀ e ∈ o.after, Region.binds .any e = true → D e.on) (i : Nat) (o : Oper) (ho : ops[i]? = some o) (hr : ∀ e ∈ o.after, Region.binds .any e = true → D e.on)
    (x : Nat) (hx : ((Region.before ops).getD i 0).testBit x = true) : D x := by
  have inner : ∀ (acc : Array Nat), acc.size ≤ ops.size → (∀ i, i < acc.size → ∀ o, ops[i]? = some o → (∀ e ∈ o.after, Region.binds .any e = true → D e.on) → ∀ x, (acc.getD i 0).testBit x = true → D x) →
      ∀ (es : List Edge) (m : Nat), (∀ e ∈ es, Region.binds .any e = true → D e.on) → (∀ x, m.testBit x = true → D x) →
      ∀ x, (es.foldl (fun s e => if Region.binds .any e then s ||| 2 ^ e.on ||| acc.getD e.on 0 else s) m).testBit x = true → D x := by
    intro acc hsz hacc es
    induction es with
    | nil => intro m _ hm x hx; exact hm x hx
    | cons e es ih =>
      intro m he hm x hx
      simp only [List.foldl_cons] at hx
      refine ih _ (fun e' he' => he e' (by simp [he'])) ?_ x hx
      intro y hy
      split at hy
      · rename_i hb
        rw [Nat.testBit_or, Nat.testBit_or, Bool.or_eq_true, Bool.or_eq_true] at hy
        have hDe := he e (by simp) hb
        rcases hy with (hy | hy) | hy
        · exact hm y hy
        · rw [Nat.testBit_two_pow] at hy
          have : e.on = y := by simpa using hy
          rw [← this]; exact hDe
        · by_cases hlt : e.on < acc.size
          · have hlt' : e.on < ops.size := by omega
            have hoe : ops[e.on]? = some ops[e.on] := Array.getElem?_eq_getElem hlt'
            exact hacc e.on hlt _ hoe (fun e' he' hb' => hcl _ _ hoe hDe e' he' hb') y hy
          · rw [show acc.getD e.on 0 = 0 by simp [hlt]] at hy
            simp at hy
      · exact hm y hy
  have outer : ∀ (l : List Oper) (acc : Array Nat), acc.size + l.length ≤ ops.size → (∀ (j : Nat) o, l[j]? = some o → ops[acc.size + j]? = some o) →
      (∀ i, i < acc.size → ∀ o, ops[i]? = some o → (∀ e ∈ o.after, Region.binds .any e = true → D e.on) → ∀ x, (acc.getD i 0).testBit x = true → D x) →
      ∀ i o, ops[i]? = some o → (∀ e ∈ o.after, Region.binds .any e = true → D e.on) → ∀ x,
        ((l.foldl (fun (acc : Array Nat) o => acc.push (o.after.foldl (fun s e => if Region.binds .any e then s ||| 2 ^ e.on ||| acc.getD e.on 0 else s) 0)) acc).getD i 0).testBit x = true → D x := by
    intro l
    induction l with
    | nil =>
      intro acc _ _ hacc i o ho hr x hx
      simp only [List.foldl_nil] at hx
      by_cases hlt : i < acc.size
      · exact hacc i hlt o ho hr x hx
      · rw [show acc.getD i 0 = 0 by simp [hlt]] at hx
        simp at hx
    | cons o l ih =>
      intro acc hsz hl hacc i o' ho' hr x hx
      simp only [List.foldl_cons] at hx
      refine ih _ (by simp at hsz ⊢; omega) (fun j o'' hj => ?_) (fun i' hi' o'' ho'' hr'' y hy => ?_) i o' ho' hr x hx
      · have := hl (j + 1) o'' (by simpa using hj)
        simp only [Array.size_push]
        rw [show acc.size + 1 + j = acc.size + (j + 1) by omega]
        exact this
      · simp only [Array.size_push] at hi'
        by_cases hlt : i' < acc.size
        · refine hacc i' hlt o'' ho'' hr'' y ?_
          have : (acc.push (o.after.foldl (fun s e => if Region.binds .any e then s ||| 2 ^ e.on ||| acc.getD e.on 0 else s) 0)).getD i' 0 = acc.getD i' 0 := by
            simp [Array.getElem?_push, Nat.ne_of_lt hlt, hlt]
          rw [this] at hy; exact hy
        · obtain rfl : i' = acc.size := by omega
          have hoo : ops[acc.size]? = some o := by simpa using hl 0 o rfl
          rw [hoo] at ho''
          injection ho'' with ho''; subst ho''
          have : (acc.push (o.after.foldl (fun s e => if Region.binds .any e then s ||| 2 ^ e.on ||| acc.getD e.on 0 else s) 0)).getD acc.size 0 = o.after.toList.foldl (fun s e => if Region.binds .any e then s ||| 2 ^ e.on ||| acc.getD e.on 0 else s) 0 := by
            rw [← Array.foldl_toList]
            simp
          rw [this] at hy
          exact inner acc (by simp at hsz; omega) hacc o.after.toList 0 (fun e he hb => hr'' e (by simpa using he) hb) (fun y hy => by simp at hy) y hy
  have hb : Region.before ops = ops.toList.foldl (fun (acc : Array Nat) o => acc.push (o.after.foldl (fun s e => if Region.binds .any e then s ||| 2 ^ e.on ||| acc.getD e.on 0 else s) 0)) #[] := by
    unfold Region.before
    rw [← Array.foldl_toList]
  rw [hb] at hx
  exact outer ops.toList #[] (by simp) (fun j o hj => by simpa using hj) (fun i hi => by simp at hi) i o ho hr x hx
end
end Go.Rv

/-
  A region whose order is drawn: in whatever order, it comes to what the interpreter says.
-/
set_option linter.unusedSimpArgs false
set_option linter.unusedVariables false
namespace Go.Rv
section
variable {P : Program} {C : Cfg}

theorem countP_lt {p p' : Nat → Bool} : ∀ (l : List Nat), (∀ x ∈ l, p' x = true → p x = true) → (∃ x ∈ l, p x = true ∧ p' x = false) → l.countP p' < l.countP p
  | [], _, ⟨x, hx, _⟩ => by simp at hx
  | a :: l, h1, ⟨x, hx, h2, h3⟩ => by
    have hle : l.countP p' ≤ l.countP p := List.countP_mono_left (fun y hy => h1 y (by simp [hy]))
    rcases List.mem_cons.1 hx with rfl | hx'
    · simp only [List.countP_cons, h2, h3]
      simp
      omega
    · have := countP_lt l (fun y hy => h1 y (by simp [hy])) ⟨x, hx', h2, h3⟩
      have ha := h1 a (by simp)
      simp only [List.countP_cons]
      cases hp : p' a
      · simp; omega
      · simp [ha hp]; omega

theorem getD_set {listed : Array Bool} {i j : Nat} (hi : i < listed.size) : (listed.setIfInBounds i true).getD j false = if i = j then true else listed.getD j false := by
  by_cases e : i = j
  · subst e; simp [hi]
  · simp [e, Array.getElem?_setIfInBounds_ne e]

theorem Env.get_putAt (e : Env) (d : Option Nat) (v : AV) (t : Nat) : (e.putAt d v).get t = if d = some t then v else e.get t := by
  cases d with
  | none => simp [Env.putAt]
  | some d => simp only [Env.putAt, Env.get_put, Option.some.injEq]

theorem put_get (a : Act) (d : Option Nat) (u : Value) (t : Nat) (hd : ∀ x, d = some x → x < a.tmps.size) : (a.put d u).tmps.getD t undef = if d = some t then u else a.tmps.getD t undef := by
  cases d with
  | none => simp [Act.put]
  | some d =>
    have := hd d rfl
    simp only [Act.put, Option.some.injEq]
    by_cases e : d = t
    · subst e; simp [this]
    · simp [e, Array.getElem?_setIfInBounds_ne e]

/-- Objects without blocks behind the others. -/
theorem Ext.pad (s : Sim) (h : Heap) (w : World) (X : Heap) : Ext s h w s (h ++ X) w := by
  have hget : ∀ {o}, o < h.length → (h ++ X)[o]? = h[o]? := fun ho => List.getElem?_append_left ho
  refine ⟨⟨Nat.le_refl _, fun _ _ _ => rfl, fun _ _ h => h, fun _ h => h, fun o g hg => ⟨g, ?_, Nat.le_refl _⟩, fun o g hg _ => ⟨fun _ h => h, ?_⟩, fun o hm => ?_, fun o b hb => .inl ⟨o, hb⟩, rfl, rfl, rfl, fun o hm => ?_, rfl⟩, fun o b _ hb => ⟨b, hb⟩, fun o ho _ => hget ho⟩
  · unfold genOf at *; rw [hget (genOf_lt hg)]; exact hg
  · unfold lenOf; rw [hget (genOf_lt hg)]
  · have := isMap_lt hm
    unfold isMap at *; rw [hget this]; exact hm
  · have := isLoop_lt hm
    unfold isLoop at *; rw [hget this]; exact hm

theorem Rel.pad {s : Sim} {h : Heap} {w : World} (R : Rel s h w) (X : Heap) : Rel s (h ++ X) w :=
  ⟨R.inj, fun o b hb => by
    obtain ⟨x, hx, hr⟩ := R.obj o b hb
    exact ⟨x, by rw [List.getElem?_append_left (R.old hb)]; exact hx, hr.ext R.apart (Ext.pad s h w X) rfl⟩, R.apart, R.imm⟩

/-- The slots of some numbers alone. -/
noncomputable def Env.only (e : Env) (l : List Nat) : Env := e.keep l
theorem Env.get_only {e : Env} {l : List Nat} {t : Nat} (ht : t ∈ l) : (e.only l).get t = e.get t := by
  induction l with
  | nil => simp at ht
  | cons k r ih =>
    simp only [Env.only, Env.keep, Env.get_nil, Env.get_cons]
    by_cases hk : k = t
    · subst hk; simp
    · have : (k == t) = false := by simp [hk]
      rw [this]
      simp only [Bool.false_eq_true, if_false]
      exact ih (by rcases List.mem_cons.1 ht with h | h; exact absurd h.symm hk; exact h)
theorem Env.get_only_not {e : Env} {l : List Nat} {t : Nat} (ht : t ∉ l) : (e.only l).get t = .junk := by
  induction l with
  | nil => rfl
  | cons k r ih =>
    simp only [Env.only, Env.keep, Env.get_nil, Env.get_cons]
    have hk : ¬ k = t := fun e => ht (by simp [e])
    have : (k == t) = false := by simp [hk]
    rw [this]
    simp only [Bool.false_eq_true, if_false]
    exact ih (fun h => ht (by simp [h]))

theorem wantA_congr {ops : Array Oper} {e e' : Env} {o : Oper} (he : ∀ t, t ∈ reads ops o → e.get t = e'.get t) : wantA ops e o = wantA ops e' o := by
  unfold wantA
  cases hg : o.guard with
  | none => rfl
  | some jw =>
    obtain ⟨j, want⟩ := jw
    simp only
    cases hj : (ops[j]?).bind (·.dst) with
    | none => rfl
    | some d =>
      simp only [Option.map_some]
      rw [he d (by unfold reads; rw [hg]; simp [hj])]

theorem oper_alloc {o : Oper} (ha : isAlloc o = true) : ∃ t, o.op = .alloc t := by
  unfold isAlloc at ha
  split at ha
  · rename_i t ho; exact ⟨t, ho⟩
  · cases ha

theorem draw_sound {ord : Nat → Array Oper → Bool} (K : Ok P C ord) {N f : Nat} {ops : Array Oper} (hd : dstsOk N ops = true) (hord : ordOk C f ops = true) {k : Nat} (HC : CallsAt P C ord k) {r0 : Option Nat} {B : Nat}
    {e : Env} {h : Heap} {e' : Env} {h' : Heap} (hf : opsF C k f ops (sched ops true) e h = some (.nrm, e', h'))
    {s : Sim} {w : World} {a : Act} (hN : a.tmps.size = N) (hdf : Dues B s w a.defers) (R : Rel s h w) (G : GG C ord s h w) (H : EnvRel s h w e a.tmps) :
    wpAnyIn (Fr r0) 0 P .any ops (OutOk B s h w N .nrm e' h') ops.size (Array.replicate ops.size false) a w := by
  obtain ⟨tr, vl, t0, tn, ts⟩ := trace_of _ _ _ _ _ _ hf
  simp only [ordOk, Bool.and_eq_true] at hord
  obtain ⟨hpairs, hsing⟩ := hord
  have hpair := pairs_spec (C := C) (f := f) (ops := ops) (b := Region.before ops) _ hpairs
  have hone : ∀ i o, ops[i]? = some o → (isAlloc o = true → o.guard = none) ∧ (∀ e ∈ o.after, Region.binds .any e = true → e.on < i) ∧ (∀ d, o.dst = some d → d ∉ reads ops o) := by
    intro i o ho
    have := List.all_eq_true.1 hsing i (by simp; exact (Array.getElem?_eq_some_iff.1 ho).1)
    simp only [ho, Bool.and_eq_true, Bool.or_eq_true, Bool.not_eq_true', Array.all_eq_true_iff_forall_mem, decide_eq_true_eq] at this
    obtain ⟨⟨h1, h2⟩, h3⟩ := this
    refine ⟨fun ha => ?_, fun e he hb => ?_, fun d hdd => ?_⟩
    · rcases h1 with h1 | h1
      · rw [ha] at h1; cases h1
      · simpa using h1.1
    · rcases h2 e he with h2 | h2
      · rw [hb] at h2; cases h2
      · exact h2
    · rw [hdd] at h3
      simpa using h3
  generalize hl : sched ops true = l at *
  generalize hL : ordIdx ops = L at *
  have hLl : ∀ {p i : Nat}, L[p]? = some i → ∃ o, ops[i]? = some o ∧ l[p]? = some o := fun {p i} hp => by
    subst hL; subst hl; exact idx_at hp
  have hlL : ∀ {p : Nat} {o : Oper}, l[p]? = some o → ∃ i, L[p]? = some i ∧ ops[i]? = some o := fun {p o} hp => by
    subst hL; subst hl; exact sched_at hp
  have hLinj : ∀ {p q i : Nat}, L[p]? = some i → L[q]? = some i → p = q := fun {p q i} hp hq => by subst hL; exact idx_inj hp hq
  have hLmem : ∀ {i : Nat}, i < ops.size → ∃ p : Nat, L[p]? = some i := fun {i} hi => by subst hL; exact idx_mem hi
  have halloc : ∀ {p : Nat} {o : Oper}, l[p]? = some o → isAlloc o = decide (p < allocs ops) := fun {p o} hp => by subst hl; exact alloc_at hp
  have hql : allocs ops ≤ l.length := by subst hl; unfold sched allocs; simp
  generalize hq0 : allocs ops = q0 at *
  have get_step : ∀ (p : Nat) o t, l[p]? = some o → (tr (p + 1)).1.get t = if o.dst = some t then vl p else (tr p).1.get t := fun p o t hp => by
    rw [(ts p o hp).2, Env.get_putAt]
  have get_same : ∀ (q p t : Nat), p ≤ q → q ≤ l.length → (∀ (r : Nat) o, p ≤ r → r < q → l[r]? = some o → o.dst ≠ some t) → (tr q).1.get t = (tr p).1.get t := by
    intro q
    induction q with
    | zero => intro p t hp _ _; obtain rfl : p = 0 := by omega
              rfl
    | succ q ih =>
      intro p t hp hq hn
      by_cases he : p = q + 1
      · subst he; rfl
      · have hlt : q < l.length := by omega
        rw [get_step q _ t (List.getElem?_eq_getElem hlt), if_neg (hn q _ (by omega) (by omega) (List.getElem?_eq_getElem hlt))]
        exact ih p t (by omega) (by omega) (fun r o h1 h2 h3 => hn r o h1 (by omega) h3)
  have heap_same : ∀ (q p : Nat), p ≤ q → q ≤ l.length → (∀ (r : Nat) o, p ≤ r → r < q → l[r]? = some o → loudOp C f o = false) → (tr q).2 = (tr p).2 := by
    intro q
    induction q with
    | zero => intro p hp _ _; obtain rfl : p = 0 := by omega
              rfl
    | succ q ih =>
      intro p hp hq hn
      by_cases he : p = q + 1
      · subst he; rfl
      · have hlt : q < l.length := by omega
        rw [step_quiet K (hn q _ (by omega) (by omega) (List.getElem?_eq_getElem hlt)) (ts q _ (List.getElem?_eq_getElem hlt)).1]
        exact ih p (by omega) (by omega) (fun r o h1 h2 h3 => hn r o h1 (by omega) h3)
  -- the variables that are made first
  have alloc_step : ∀ (p : Nat) o, p < q0 → l[p]? = some o → ∃ t ti, o.op = .alloc t ∧ C.ty t = some ti ∧ ti.zero.length = ti.size ∧ vl p = .ptr (tr p).2.length 0 0 ∧ (tr (p + 1)).2 = (tr p).2 ++ [.cells ti.zero 0] := by
    intro p o hp ho
    have ha : isAlloc o = true := by rw [halloc ho]; simpa using hp
    obtain ⟨t, hot⟩ := oper_alloc ha
    obtain ⟨i, hi, hoi⟩ := hlL ho
    have hg := (hone i o hoi).1 ha
    have hst := (ts p o ho).1
    have hw : wantA ops (tr p).1 o = some true := by unfold wantA; rw [hg]
    have hce : callee o = none := by unfold callee; rw [hot]
    rcases hst with ⟨h1, _⟩ | ⟨_, _, h3, _⟩ | ⟨_, g, args, vs, gv, j, h2, _⟩
    · rw [hw] at h1; cases h1
    · unfold opA at h3
      simp only [hot, Option.bind_eq_bind] at h3
      obtain ⟨ti, hti, h3⟩ := Option.bind_eq_some_iff.1 h3
      split at h3
      · rename_i hz
        simp only [Option.some.injEq, Prod.mk.injEq] at h3
        exact ⟨t, ti, hot, hti, by simpa using hz, h3.1.symm, h3.2.symm⟩
      · cases h3
    · rw [hce] at h2; cases h2
  have alloc_tr : ∀ p, p ≤ q0 → ∃ X, (tr p).2 = h ++ X ∧ X.length = p ∧ ∀ r, r < p → ∀ o, l[r]? = some o → ∃ t ti, o.op = .alloc t ∧ C.ty t = some ti ∧ ti.zero.length = ti.size ∧ X[r]? = some (.cells ti.zero 0) ∧ vl r = .ptr (h.length + r) 0 0 := by
    intro p
    induction p with
    | zero => intro _; exact ⟨[], by rw [t0]; simp, rfl, fun r hr => by omega⟩
    | succ p ih =>
      intro hp
      obtain ⟨X, h1, h2, h3⟩ := ih (by omega)
      have hlt : p < l.length := by omega
      obtain ⟨t, ti, e1, e2, e3, e4, e5⟩ := alloc_step p _ (by omega) (List.getElem?_eq_getElem hlt)
      refine ⟨X ++ [.cells ti.zero 0], by rw [e5, h1, List.append_assoc], by simp [h2], fun r hr o ho => ?_⟩
      by_cases he : r = p
      · subst he
        rw [List.getElem?_eq_getElem hlt] at ho
        injection ho with ho; subst ho
        refine ⟨t, ti, e1, e2, e3, ?_, by rw [e4, h1]; simp [h2]⟩
        rw [List.getElem?_append_right (by omega)]
        simp [h2]
      · obtain ⟨t', ti', k1, k2, k3, k4, k5⟩ := h3 r (by omega) o ho
        exact ⟨t', ti', k1, k2, k3, by rw [List.getElem?_append_left (by omega)]; exact k4, k5⟩
  obtain ⟨X, hX, hXl, hXr⟩ := alloc_tr q0 (Nat.le_refl _)
  -- what holds while it goes
  let D (listed : Array Bool) (p : Nat) : Prop := ∃ i, L[p]? = some i ∧ listed.getD i false = true
  let Rd (p t : Nat) : Prop := p = l.length ∨ ∃ o, l[p]? = some o ∧ t ∈ reads ops o
  let Inv (listed : Array Bool) (a1 : Act) (w1 : World) : Prop := ∃ s1 m, q0 ≤ m ∧ m ≤ l.length ∧
    (∀ p o, q0 ≤ p → p < m → l[p]? = some o → loudOp C f o = true → D listed p) ∧ (∀ p o, m ≤ p → l[p]? = some o → loudOp C f o = true → ¬ D listed p) ∧
    Ext s h w s1 (tr m).2 w1 ∧ Rel s1 (tr m).2 w1 ∧ a1.tmps.size = N ∧ Dues B s1 w1 a1.defers ∧
    (∀ p t, p ≤ l.length → Rd p t → (p < l.length → ¬ D listed p) → (∀ r o, r < p → l[r]? = some o → o.dst = some t → D listed r) → VR s1 (tr m).2 w1 ((tr p).1.get t) (a1.tmps.getD t undef)) ∧
    (∀ p, p < q0 → ¬ D listed p → s1.μ (h.length + p) = none ∧ (tr m).2[h.length + p]? = X[p]?) ∧ h.length + q0 ≤ (tr m).2.length
  let cnt (listed : Array Bool) : Nat := (List.range ops.size).countP (fun i => !listed.getD i false)
  have main : ∀ (fuel : Nat) (listed : Array Bool) (a1 : Act) (w1 : World), listed.size = ops.size →
      (∀ i o, ops[i]? = some o → listed.getD i false = true → ∀ e ∈ o.after, Region.binds .any e = true → listed.getD e.on false = true) →
      Inv listed a1 w1 → cnt listed ≤ fuel → wpAnyIn (Fr r0) 0 P .any ops (OutOk B s h w N .nrm e' h') fuel listed a1 w1 := by
    intro fuel
    -- all is done where nothing is ready
    have done : ∀ (listed : Array Bool) (a1 : Act) (w1 : World), listed.size = ops.size → Inv listed a1 w1 → Region.ready .any ops listed = [] → OutOk B s h w N .nrm e' h' .normal a1 w1 := by
      intro listed a1 w1 hsz hI hr
      have hall : ∀ i, i < ops.size → listed.getD i false = true := by
        intro i
        induction i using Nat.strongRecOn with
        | _ i ih =>
          intro hi
          cases hli : listed.getD i false with
          | true => rfl
          | false =>
            exfalso
            have hoi : ops[i]? = some ops[i] := Array.getElem?_eq_getElem hi
            have hmem : i ∈ Region.ready .any ops listed := by
              refine mem_ready.2 ⟨?_, _, hoi, fun e he hb => ?_⟩
              · have : i < listed.size := by omega
                simp [this] at hli ⊢
                exact hli
              · have hlt := (hone i _ hoi).2.1 e he hb
                exact ih e.on hlt (by omega)
            rw [hr] at hmem
            simp at hmem
      have hDall : ∀ p, p < l.length → D listed p := by
        intro p hp
        obtain ⟨i, hi, ho⟩ := hlL (List.getElem?_eq_getElem hp)
        exact ⟨i, hi, hall i (Array.getElem?_eq_some_iff.1 ho).1⟩
      obtain ⟨s1, m, i1, i2, i3, i4, i5, i6, i7, i8, i9, _, _⟩ := hI
      have hm : (tr l.length).2 = (tr m).2 := heap_same _ _ i2 (Nat.le_refl _) (fun r o h1 h2 h3 => by
        cases hlo : loudOp C f o with
        | false => rfl
        | true => exact absurd (hDall r h2) (i4 r o h1 h3 hlo))
      rw [tn] at hm
      simp only at hm
      rw [← hm] at i5 i6 i9
      refine ⟨s1, i5, i6, i7, i8, fun t => ?_⟩
      have := i9 l.length t (Nat.le_refl _) (.inl rfl) (fun h => by omega) (fun r o h1 h2 h3 => hDall r h1)
      rw [tn] at this
      exact this
    induction fuel with
    | zero =>
      intro listed a1 w1 hsz hcl hI hc
      have hr : Region.ready .any ops listed = [] := by
        cases hrr : Region.ready .any ops listed with
        | nil => rfl
        | cons i r =>
          exfalso
          have hmem : i ∈ Region.ready .any ops listed := by rw [hrr]; simp
          obtain ⟨h1, o, ho, _⟩ := mem_ready.1 hmem
          have hi : i < ops.size := (Array.getElem?_eq_some_iff.1 ho).1
          have hpos : 0 < cnt listed := by
            refine List.countP_pos_iff.2 ⟨i, by simp [hi], ?_⟩
            have : i < listed.size := by omega
            simp [this] at h1 ⊢
            exact h1
          omega
      exact ⟨hr, done listed a1 w1 hsz hI hr⟩
    | succ fuel ih =>
      intro listed a1 w1 hsz hcl hI hc
      refine ⟨done listed a1 w1 hsz hI, fun i hi => ?_⟩
      obtain ⟨hli, o, ho, hready⟩ := mem_ready.1 hi
      have hio : i < ops.size := (Array.getElem?_eq_some_iff.1 ho).1
      have his : i < listed.size := by omega
      have hlif : listed.getD i false = false := by simp [his] at hli ⊢; exact hli
      obtain ⟨p, hp⟩ := hLmem hio
      obtain ⟨o', ho', hlp⟩ := hLl hp
      rw [ho] at ho'
      injection ho' with ho'; subst ho'
      have hpl : p < l.length := (List.getElem?_eq_some_iff.1 hlp).1
      have hDp : ¬ D listed p := by
        rintro ⟨j, hj, hjd⟩
        rw [hp] at hj
        injection hj with hj; subst hj
        rw [hlif] at hjd; cases hjd
      -- who stands in conflict ahead of it is done, behind it is not
      have ahead : ∀ (r : Nat) x, r < p → l[r]? = some x → (dstC ops x o = true ∨ (heapC C f x o = true ∧ loudOp C f x = true)) → D listed r := by
        intro r x hr hx hc
        obtain ⟨j, hj, hjo⟩ := hlL hx
        refine ⟨j, hj, ?_⟩
        have hbit : ((Region.before ops).getD i 0).testBit j = true := by
          have hs := (hpair r p j i x o hr hj hp hjo ho).1
          rcases hc with hc | ⟨hc, hx⟩
          · exact hs.1 hc
          · exact hs.2 hc (by unfold looseP; rw [hx]; rfl)
        exact before_in (fun x => listed.getD x false = true) ops hcl i o ho hready j hbit
      have behind : ∀ (r : Nat) x, p < r → l[r]? = some x → (dstC ops o x = true ∨ (heapC C f o x = true ∧ looseP C f i o x = false)) → ¬ D listed r := by
        rintro r x hr hx hc ⟨j, hj, hjd⟩
        obtain ⟨j', hj', hjo⟩ := hlL hx
        rw [hj] at hj'
        injection hj' with hj'; subst hj'
        have hbit : ((Region.before ops).getD j 0).testBit i = true := by
          have hs := (hpair p r i j o x hr hp hj ho hjo).1
          rcases hc with hc | ⟨hc, hx⟩
          · exact hs.1 hc
          · exact hs.2 hc hx
        have := before_in (fun x => listed.getD x false = true) ops hcl j x hjo (hcl j x hjo hjd) i hbit
        simp only [hlif] at this
        cases this
      -- behind the step
      have hD' : ∀ r, D (listed.setIfInBounds i true) r ↔ D listed r ∨ r = p := by
        intro r
        constructor
        · rintro ⟨j, hj, hjd⟩
          rw [getD_set his] at hjd
          split at hjd
          · rename_i e; subst e; exact .inr (hLinj hj hp)
          · exact .inl ⟨j, hj, hjd⟩
        · rintro (⟨j, hj, hjd⟩ | rfl)
          · exact ⟨j, hj, by rw [getD_set his]; split <;> first | rfl | exact hjd⟩
          · exact ⟨i, hp, by rw [getD_set his]; simp⟩
      have hcl' : ∀ j x, ops[j]? = some x → (listed.setIfInBounds i true).getD j false = true → ∀ e ∈ x.after, Region.binds .any e = true → (listed.setIfInBounds i true).getD e.on false = true := by
        intro j x hx hjd e he hb
        have hold : listed.getD e.on false = true := by
          rw [getD_set his] at hjd
          split at hjd
          · rename_i e'; subst e'
            rw [ho] at hx
            injection hx with hx; subst hx
            exact hready e he hb
          · exact hcl j x hx hjd e he hb
        rw [getD_set his]
        split <;> first | rfl | exact hold
      have hcnt : cnt (listed.setIfInBounds i true) ≤ fuel := by
        have : cnt (listed.setIfInBounds i true) < cnt listed := by
          refine countP_lt _ (fun x _ hx => ?_) ⟨i, by simp [hio], by simp only [hlif]; rfl, by rw [getD_set his]; simp⟩
          rw [getD_set his] at hx
          split at hx
          · cases hx
          · exact hx
        omega
      obtain ⟨s1, m, i1, i2, i3, i4, i5, i6, i7, i8, i9, i10, i11⟩ := hI
      have hdst : ∀ t, o.dst = some t → t < a1.tmps.size := fun t ht => by rw [i7]; exact dst_lt hd ho t ht
      have hG1 : GG C ord s1 (tr m).2 w1 := G.ext R.apart i5
      -- the slots behind the step
      have names : ∀ {s2 : Sim} {m2 : Nat} {w2 : World} {u : Value}, Ext0 s1 (tr m).2 w1 s2 (tr m2).2 w2 → VR s2 (tr m2).2 w2 (vl p) u →
          ∀ q t, q ≤ l.length → Rd q t → (q < l.length → ¬ D (listed.setIfInBounds i true) q) → (∀ r x, r < q → l[r]? = some x → x.dst = some t → D (listed.setIfInBounds i true) r) → VR s2 (tr m2).2 w2 ((tr q).1.get t) ((a1.put o.dst u).tmps.getD t undef) := by
        intro s2 m2 w2 u E hu q t hq hrd hnD hwr
        rw [put_get a1 o.dst u t hdst]
        by_cases hdt : o.dst = some t
        · rw [if_pos hdt]
          have hpq : p < q := by
            rcases Nat.lt_trichotomy p q with h1 | h1 | h1
            · exact h1
            · subst h1; exact absurd ((hD' p).2 (.inr rfl)) (hnD hpl)
            · -- q stands ahead of p and reads what p writes
              exfalso
              have hql' : q < l.length := by omega
              rcases hrd with h2 | ⟨x, hx, hxr⟩
              · omega
              · have hcf : dstC ops x o = true := by
                  unfold dstC
                  rw [hdt]
                  simp [hxr]
                exact hnD hql' ((hD' q).2 (.inl (ahead q x h1 hx (.inl hcf))))
          have hlast : (tr q).1.get t = (tr (p + 1)).1.get t := by
            refine get_same q (p + 1) t (by omega) hq (fun r x h1 h2 h3 hxd => ?_)
            have hcf : dstC ops o x = true := by
              unfold dstC
              rw [hdt]
              simp [hxd]
            have hnd := behind r x (by omega) h3 (.inl hcf)
            rcases (hD' r).1 (hwr r x h2 h3 hxd) with h4 | h4
            · exact hnd h4
            · omega
          rw [hlast, get_step p o t hlp, if_pos hdt]
          exact hu
        · rw [if_neg hdt]
          refine (i9 q t hq hrd (fun h1 h2 => hnD h1 ((hD' q).2 (.inl h2))) (fun r x h1 h2 h3 => ?_)).ext0 i6.apart E
          rcases (hD' r).1 (hwr r x h1 h2 h3) with h4 | h4
          · exact h4
          · subst h4
            rw [hlp] at h2
            injection h2 with h2; subst h2
            exact absurd h3 hdt
      have hputs : ∀ u, (a1.put o.dst u).tmps.size = N ∧ (a1.put o.dst u).defers = a1.defers := fun u => by
        cases o.dst <;> simp [Act.put, i7]
      unfold wpOpIn
      simp only [ho]
      by_cases hpa : p < q0
      · -- a variable is made
        obtain ⟨t, ti, e1, e2, e3, e4, e5⟩ := hXr p hpa o hlp
        have hal : isAlloc o = true := by rw [halloc hlp]; simpa using hpa
        have hg := (hone i o ho).1 hal
        have hwant : Region.wanted o (yielded ops a1.tmps) = true := by unfold Region.wanted; rw [hg]
        rw [if_pos hwant]
        obtain ⟨z, hz1, hz2⟩ := zero_rel (P := P) (s := s1) (h := (tr m).2) (w := w1) (K.ty t ti e2)
        obtain ⟨hmu, hXp⟩ := i10 p hpa hDp
        rw [e4] at hXp
        have hlen : h.length + p < (tr m).2.length := by omega
        have hrun : (execOp a1.eval o).run P w1 = .ok (.value (.pointer (some ⟨w1.heap.size, 0, none⟩))) (w1.alloc (.cells z.cells t)) := by
          unfold execOp
          simp only [e1, Instr.alloc, Sem.run_bind, hz1, Result.andThen_ok, newVar, newRow, run_newObj, Sem.run_pure]
          rfl
        have E0 : Ext0 s1 (tr m).2 w1 (s1.add (h.length + p) w1.heap.size) (tr m).2 (w1.alloc (.cells z.cells t)) := by
          refine ⟨by rw [size_alloc]; omega, fun b hb _ => heap_alloc_lt w1 _ hb, fun b x hx => by rw [shape_of (heap_alloc_lt w1 _ (shape_lt hx))]; exact hx, fun _ h => h, fun _ g hg => ⟨g, hg, Nat.le_refl _⟩, fun o' g hg _ => ⟨fun b hb => ?_, rfl⟩, fun _ h => h, fun o' b hb => ?_, rfl, rfl, rfl, fun _ h => h, rfl⟩
          · have : o' ≠ h.length + p := by rintro rfl; rw [hmu] at hb; cases hb
            simp [Sim.add, this, hb]
          · simp only [Sim.add] at hb
            split at hb
            · injection hb with hb; exact .inr (by omega)
            · exact .inl ⟨o', hb⟩
        have hR2 : Rel (s1.add (h.length + p) w1.heap.size) (tr m).2 (w1.alloc (.cells z.cells t)) := by
          refine ⟨fun x y b hx hy => ?_, fun x b hx => ?_, fun x b hx hI => ?_, fun b hI => ?_⟩
          · simp only [Sim.add] at hx hy
            split at hx <;> split at hy
            · omega
            · injection hx with hx; have := i6.lt hy; omega
            · injection hy with hy; have := i6.lt hx; omega
            · exact i6.inj _ _ _ hx hy
          · by_cases hxe : x = h.length + p
            · subst hxe
              simp only [Sim.add, if_true, Option.some.injEq] at hx
              subst hx
              refine ⟨_, hXp, z.cells, t, heap_alloc_at w1 _, by have := hz2.1; simp at this; omega, fun j c hj => ?_⟩
              obtain ⟨v, hv, hvr⟩ := hz2.2 j c hj
              exact ⟨v, by simpa using hv, hvr.ext0 i6.apart E0⟩
            · simp only [Sim.add, hxe, if_false] at hx
              obtain ⟨y, hy, hyr⟩ := i6.obj x b hx
              refine ⟨y, hy, ?_⟩
              have hbk := heap_alloc_lt w1 (.cells z.cells t) (i6.lt hx)
              cases y with
              | cells cs g =>
                obtain ⟨bc, el, k1, k2, k3⟩ := hyr
                refine ⟨bc, el, hbk.trans k1, k2, fun j c hj => ?_⟩
                obtain ⟨v, hv, hvr⟩ := k3 j c hj
                exact ⟨v, hv, hvr.ext0 i6.apart E0⟩
              | map es =>
                obtain ⟨en, cl, k1, k2, k3⟩ := hyr
                refine ⟨en, cl, hbk.trans k1, k2, k3.1, fun j c hj => ?_⟩
                obtain ⟨mm, hm, hm1, hm2⟩ := k3.2 j c hj
                exact ⟨mm, hm, hm1.ext0 i6.apart E0, hm2.ext0 i6.apart E0⟩
              | loop lr =>
                obtain ⟨rec, k1, k2, k3, k4⟩ := hyr
                exact ⟨rec, hbk.trans k1, k2, fun t => (k3 t).ext0 i6.apart E0, k4⟩
          · simp only [Sim.add] at hx hI
            split at hx
            · injection hx with hx; subst hx; have := i6.imm _ hI; omega
            · exact i6.apart _ _ hx hI
          · have := i6.imm b hI; rw [size_alloc]; omega
        have hv : VR (s1.add (h.length + p) w1.heap.size) (tr m).2 (w1.alloc (.cells z.cells t)) (vl p) (.pointer (some ⟨w1.heap.size, 0, none⟩)) := by
          rw [e5]
          exact .ptr _ _ _ _ (by simp [genOf, hXp]) (by simp [Sim.add])
        refine ⟨fun _ _ => trivial, ?_⟩
        rw [Oper.semAt_eq _ _ _ (fun c hc => by rw [e1] at hc; cases hc), hrun]
        obtain ⟨g1, g2⟩ := hputs (.pointer (some ⟨w1.heap.size, 0, none⟩))
        refine ih _ _ _ (by simpa using hsz) hcl' ⟨_, m, i1, i2, fun r x h1 h2 h3 h4 => (hD' r).2 (.inl (i3 r x h1 h2 h3 h4)), fun r x h1 h2 h3 h4 => ?_, ?_, hR2, g1, by rw [g2]; exact i8.ext0 E0, names E0 hv, fun r hr hnD => ?_, i11⟩ hcnt
        · rcases (hD' r).1 h4 with h5 | h5
          · exact i4 r x h1 h2 h3 h5
          · omega
        · refine ⟨i5.toExt0.trans E0, fun o' b ho' hb => ?_, fun o' ho' hn => i5.kept o' ho' hn⟩
          have : o' ≠ h.length + p := by omega
          simp only [Sim.add, this, if_false] at hb
          exact i5.old o' b ho' hb
        · have hne : r ≠ p := fun e' => hnD ((hD' r).2 (.inr e'))
          obtain ⟨h1, h2⟩ := i10 r hr (fun h3 => hnD ((hD' r).2 (.inl h3)))
          exact ⟨by simp only [Sim.add]; rw [if_neg (show ¬ h.length + r = h.length + p from by omega)]; exact h1, h2⟩
      · -- any other operation
        have hnal : isAlloc o = false := by rw [halloc hlp]; simpa using hpa
        have hrdp : ∀ t, t ∈ reads ops o → VR s1 (tr m).2 w1 ((tr p).1.get t) (a1.tmps.getD t undef) := by
          intro t ht
          refine i9 p t (by omega) (.inr ⟨o, hlp, ht⟩) (fun _ => hDp) (fun r x h1 h2 h3 => ahead r x h1 h2 (.inl ?_))
          unfold dstC
          rw [h3]
          simp [ht]
        have henv : EnvRel s1 (tr m).2 w1 ((tr p).1.only (reads ops o)) a1.tmps := by
          intro t
          by_cases ht : t ∈ reads ops o
          · rw [Env.get_only ht]; exact hrdp t ht
          · rw [Env.get_only_not ht]; exact .junk _
        have hsame : ∀ t, t ∈ reads ops o → (tr p).1.get t = ((tr p).1.only (reads ops o)).get t := fun t ht => (Env.get_only ht).symm
        have hsame' : ∀ t, t ∈ tmpsOf o.op.operands.toList → (tr p).1.get t = ((tr p).1.only (reads ops o)).get t := fun t ht => hsame t (by unfold reads; simp [ht])
        have hwc := wantA_congr (e' := (tr p).1.only (reads ops o)) hsame
        -- the heap at its place, where it asks for it
        have hloose : ∀ r x, p ≤ r → r < m → l[r]? = some x → loudOp C f x = true → touchOp C f o = true → p < r ∧ looseP C f i o x = true := by
          intro r x h1 h2 h3 h4 htc
          have hDr := i3 r x (by omega) h2 h3 h4
          have hne : r ≠ p := by rintro rfl; exact hDp hDr
          refine ⟨by omega, ?_⟩
          cases hlo : looseP C f i o x with
          | true => rfl
          | false =>
            refine absurd hDr (behind r x (by omega) h3 (.inr ⟨?_, hlo⟩))
            have hx : isAlloc x = false := by rw [halloc h3]; simp; omega
            unfold heapC
            simp [hx, hnal, h4, htc]
        have hahead : ∀ r x, m ≤ r → r < p → l[r]? = some x → loudOp C f x = true → touchOp C f o = true → False := by
          intro r x h1 h2 h3 h4 htc
          refine i4 r x h1 h3 h4 (ahead r x h2 h3 (.inr ⟨?_, h4⟩))
          have hx : isAlloc x = false := by rw [halloc h3]; simp; omega
          unfold heapC
          simp [hx, hnal, h4, htc]
        -- of an operation that changes the heap: exactly
        have hexact : touchOp C f o = true → (∀ r x, p ≤ r → r < m → l[r]? = some x → loudOp C f x = true → looseP C f i o x = false) → (tr m).2 = (tr p).2 := by
          intro htc hn
          rcases Nat.le_total m p with hmp | hmp
          · exact (heap_same p m hmp (by omega) (fun r x h1 h2 h3 => by
              cases hlo : loudOp C f x with
              | false => rfl
              | true => exact (hahead r x h1 h2 h3 hlo htc).elim)).symm
          · exact heap_same m p hmp i2 (fun r x h1 h2 h3 => by
              cases hlo : loudOp C f x with
              | false => rfl
              | true => have := (hloose r x h1 h2 h3 hlo htc).2; rw [hn r x h1 h2 h3 hlo] at this; cases this)
        have hheap : touchOp C f o = true → loudOp C f o = true → (tr m).2 = (tr p).2 := fun htc hlo => hexact htc (fun r x _ _ _ _ => by unfold looseP; rw [hlo]; rfl)
        -- the slots that it reads stay
        have hkeep : ∀ r t, p ≤ r → r ≤ l.length → anyLoose C f ops = true → (t ∈ reads ops o) → (tr r).1.get t = (tr p).1.get t := by
          intro r t h1 h2 hany ht
          refine get_same r p t h1 h2 (fun q x h3 h4 h5 hxd => ?_)
          by_cases hq : q = p
          · subst hq
            rw [hlp] at h5
            injection h5 with h5; subst h5
            exact (hone i o ho).2.2 t hxd ht
          · obtain ⟨j, hj, hjo⟩ := hlL h5
            have := (hpair p q i j o x (by omega) hp hj ho hjo).2 hany
            unfold antiC at this
            rw [hxd] at this
            simp [ht] at this
        have hkeepd : ∀ r t, p < r → r ≤ l.length → anyLoose C f ops = true → o.dst = some t → (tr r).1.get t = vl p := by
          intro r t h1 h2 hany ht
          rw [get_same r (p + 1) t (by omega) h2 (fun q x h3 h4 h5 hxd => ?_), get_step p o t hlp, if_pos ht]
          obtain ⟨j, hj, hjo⟩ := hlL h5
          have := (hpair p q i j o x (by omega) hp hj ho hjo).2 hany
          unfold antiC at this
          rw [hxd] at this
          simp [ht] at this
        -- what changed the heap meanwhile was looked at
        have hlb : ∀ r x, p ≤ r → r < m → l[r]? = some x → loudOp C f x = true → touchOp C f o = true → (tr (r + 1)).2 = (tr r).2 ∨ (looseB C f ops (tr r).1 (tr (r + 1)).2 i = true ∧ p < r ∧ anyLoose C f ops = true) := by
          intro r x h1 h2 h3 h4 htc
          obtain ⟨hqp, hlp'⟩ := hloose r x h1 h2 h3 h4 htc
          have hcon : ∃ t, x.dst = some t ∧ i ∈ C.loose f t := by
            unfold looseP at hlp'
            simp only [Bool.and_eq_true] at hlp'
            obtain ⟨_, hlp'⟩ := hlp'
            cases hdx : x.dst with
            | none => rw [hdx] at hlp'; cases hlp'
            | some t => rw [hdx] at hlp'; exact ⟨t, rfl, by simpa using hlp'⟩
          obtain ⟨t, hdx, hit⟩ := hcon
          have hany : anyLoose C f ops = true := by
            unfold anyLoose
            refine List.any_eq_true.2 ⟨x, ?_, ?_⟩
            · obtain ⟨j, _, hjo⟩ := hlL h3
              exact List.mem_iff_getElem?.2 ⟨j, by simpa using hjo⟩
            · rw [hdx]
              show (!(C.loose f t).isEmpty) = true
              cases hll : C.loose f t with
              | nil => rw [hll] at hit; simp at hit
              | cons a b => rfl
          have hchk : looseAll C f ops x.dst (tr r).1 (tr (r + 1)).2 = true → looseB C f ops (tr r).1 (tr (r + 1)).2 i = true := by
            intro hh1
            rw [hdx] at hh1
            exact List.all_eq_true.1 hh1 i hit
          rcases (ts r x h3).1 with ⟨_, _, hs⟩ | ⟨_, _, _, hs⟩ | ⟨_, _, _, _, _, _, _, _, _, _, _, _, hs⟩
          · exact .inl hs
          · exact .inr ⟨hchk hs, hqp, hany⟩
          · exact .inr ⟨hchk hs, hqp, hany⟩
        have hback : m ≤ p → touchOp C f o = true → (tr p).2 = (tr m).2 := fun hmp htc => heap_same p m hmp (by omega) (fun r x h1 h2 h3 => by
          cases hlx : loudOp C f x with
          | false => rfl
          | true => exact (hahead r x h1 h2 h3 hlx htc).elim)
        -- of one that looks at it: it answers the same
        have hread : wantA ops (tr p).1 o = some true → opA C f (tr p).1 (tr p).2 o = some (vl p, (tr (p + 1)).2) → loudOp C f o = false → touchOp C f o = true →
            opA C f (tr p).1 (tr m).2 o = some (vl p, (tr m).2) := by
          intro hw hv hlo htc
          have hv' : opA C f (tr p).1 (tr p).2 o = some (vl p, (tr p).2) := by
            rw [hv, opA_quiet hlo hv]
          have key : ∀ q, p ≤ q → q ≤ m → opA C f (tr p).1 (tr q).2 o = some (vl p, (tr q).2) := by
            intro q
            induction q with
            | zero => intro h1 _; obtain rfl : p = 0 := by omega
                      exact hv'
            | succ q ih =>
              intro h1 h2
              by_cases hpq : p = q + 1
              · rw [← hpq]; exact hv'
              have ihq := ih (by omega) (by omega)
              have hlt : q < l.length := by omega
              have hlq := List.getElem?_eq_getElem hlt
              cases hlx : loudOp C f l[q] with
              | false => rw [step_quiet K hlx (ts q _ hlq).1]; exact ihq
              | true =>
                rcases hlb q _ (by omega) (by omega) hlq hlx htc with hs | ⟨hb, hqp, hany⟩
                · rw [hs]; exact ihq
                · unfold looseB at hb
                  simp only [ho] at hb
                  have hwq : wantA ops (tr q).1 o = some true := by
                    rw [← hw]
                    exact wantA_congr fun t' ht' => hkeep q t' (by omega) (by omega) hany ht'
                  rw [hwq] at hb
                  simp only at hb
                  have hcg : opA C f (tr q).1 (tr (q + 1)).2 o = opA C f (tr p).1 (tr (q + 1)).2 o := opA_congr fun t' ht' => hkeep q t' (by omega) (by omega) hany (by unfold reads; simp [ht'])
                  rw [hcg] at hb
                  cases hdo : o.dst with
                  | none => simp only [hdo] at hb; cases hb
                  | some t' =>
                    simp only [hdo] at hb
                    cases hop : opA C f (tr p).1 (tr (q + 1)).2 o with
                    | none => simp only [hop] at hb; cases hb
                    | some y =>
                      obtain ⟨y1, y2⟩ := y
                      simp only [hop] at hb
                      have := AV.eqb_eq _ _ hb
                      rw [hkeepd q t' hqp (by omega) hany hdo] at this
                      rw [this, opA_quiet hlo hop]
          rcases Nat.le_total m p with hmp | hmp
          · rw [← hback hmp htc]; exact hv'
          · exact key m hmp (Nat.le_refl _)
        -- of a call that is known to change nothing: it is where it was
        have hcalls : wantA ops (tr p).1 o = some true → (∀ e h, opA C f e h o = none) → touchOp C f o = true → (tr m).2 = (tr p).2 := by
          intro hw hno htc
          have key : ∀ q, p ≤ q → q ≤ m → (tr q).2 = (tr p).2 := by
            intro q
            induction q with
            | zero => intro h1 _; obtain rfl : p = 0 := by omega
                      rfl
            | succ q ih =>
              intro h1 h2
              by_cases hpq : p = q + 1
              · rw [← hpq]
              have ihq := ih (by omega) (by omega)
              have hlt : q < l.length := by omega
              have hlq := List.getElem?_eq_getElem hlt
              cases hlx : loudOp C f l[q] with
              | false => rw [step_quiet K hlx (ts q _ hlq).1]; exact ihq
              | true =>
                rcases hlb q _ (by omega) (by omega) hlq hlx htc with hs | ⟨hb, hqp, hany⟩
                · rw [hs]; exact ihq
                · unfold looseB at hb
                  simp only [ho] at hb
                  have hwq : wantA ops (tr q).1 o = some true := by
                    rw [← hw]
                    exact wantA_congr fun t' ht' => hkeep q t' (by omega) (by omega) hany ht'
                  rw [hwq] at hb
                  simp only [hno] at hb
                  cases hdo : o.dst <;> simp only [hdo] at hb <;> cases hb
          rcases Nat.le_total m p with hmp | hmp
          · exact (hback hmp htc).symm
          · exact key m hmp (Nat.le_refl _)
        have hstep := (ts p o hlp).1
        -- what is left, behind the step
        have rest : ∀ {s2 : Sim} {w2 : World} {u : Value} {h2 : Heap}, (loudOp C f o = true → h2 = (tr (p + 1)).2) → (loudOp C f o = false → h2 = (tr m).2) → Ext s1 (tr m).2 w1 s2 h2 w2 → Rel s2 h2 w2 → VR s2 h2 w2 (vl p) u →
            wpAnyIn (Fr r0) 0 P .any ops (OutOk B s h w N .nrm e' h') fuel (listed.setIfInBounds i true) (a1.put o.dst u) w2 := by
          intro s2 w2 u h2 ht1 ht2 E2 R2 hu
          obtain ⟨g1, g2⟩ := hputs u
          obtain ⟨m2, j1, j2, j3, j4, j5⟩ : ∃ m2, q0 ≤ m2 ∧ m2 ≤ l.length ∧ h2 = (tr m2).2 ∧ (∀ r x, q0 ≤ r → r < m2 → l[r]? = some x → loudOp C f x = true → D (listed.setIfInBounds i true) r) ∧ (∀ r x, m2 ≤ r → l[r]? = some x → loudOp C f x = true → ¬ D (listed.setIfInBounds i true) r) := by
            cases hlo : loudOp C f o with
            | true =>
              have htc : touchOp C f o = true := loud_touch hlo
              refine ⟨p + 1, by omega, by omega, ht1 hlo, fun r x h1 h3 h4 h5 => ?_, fun r x h1 h3 h4 h5 => ?_⟩
              · by_cases he : r = p
                · exact (hD' r).2 (.inr he)
                · refine (hD' r).2 (.inl (ahead r x (by omega) h4 (.inr ⟨?_, h5⟩)))
                  have hx : isAlloc x = false := by rw [halloc h4]; simp; omega
                  unfold heapC
                  simp [hx, hnal, h5, htc]
              · rcases (hD' r).1 h5 with h6 | h6
                · refine behind r x (by omega) h3 (.inr ⟨?_, by unfold looseP; rw [hlo]; rfl⟩) h6
                  have hx : isAlloc x = false := by rw [halloc h3]; simp; omega
                  unfold heapC
                  simp [hx, hnal, h4, htc]
                · omega
            | false =>
              refine ⟨m, i1, i2, ht2 hlo, fun r x h1 h3 h4 h5 => (hD' r).2 (.inl (i3 r x h1 h3 h4 h5)), fun r x h1 h3 h4 h5 => ?_⟩
              · rcases (hD' r).1 h5 with h6 | h6
                · exact i4 r x h1 h3 h4 h6
                · subst h6
                  rw [hlp] at h3
                  injection h3 with h3; subst h3
                  rw [hlo] at h4; cases h4
          subst j3
          refine ih _ _ _ (by simpa using hsz) hcl' ⟨s2, m2, j1, j2, j4, j5, i5.trans E2, R2, g1, by rw [g2]; exact i8.ext0 E2.toExt0, names E2.toExt0 hu, fun r hr hnD => ?_, ?_⟩ hcnt
          · obtain ⟨k1, k2⟩ := i10 r hr (fun h3 => hnD ((hD' r).2 (.inl h3)))
            refine ⟨?_, by rw [E2.kept _ (by omega) k1]; exact k2⟩
            cases hx : s2.μ (h.length + r) with
            | none => rfl
            | some b =>
              obtain ⟨b0, hb0⟩ := E2.old _ b (by omega) hx
              rw [k1] at hb0; cases hb0
          · by_cases hq1 : q0 = 0
            · have := E2.toExt0
              by_cases hh0 : h.length = 0
              · omega
              · have := E2.toExt0.len (o := h.length - 1) (by omega)
                omega
            · have := E2.toExt0.len (o := h.length + q0 - 1) (by omega)
              omega
        rcases hstep with ⟨hw, hv, hh⟩ | ⟨hw, hce, hv⟩ | ⟨hw, g, args, vs, gv, k', hce, hvs, hg, hquiet, hk', hcall, hloo⟩
        · -- it is not wanted
          rw [hwc] at hw
          have hwant := want_rel hd i7 henv hw
          rw [hwant]
          simp only [Bool.false_eq_true, if_false]
          refine ⟨fun _ _ => trivial, rest (h2 := (tr m).2) (fun hlo => ?_) (fun _ => rfl) (Ext.refl _ _ _) i6 ?_⟩
          · rw [hh, hheap (loud_touch hlo) hlo]
          · rw [hv]; exact .tup [] #[] rfl fun i c hi => by simp at hi
        · rw [hwc] at hw
          have hwant := want_rel hd i7 henv hw
          rw [if_pos hwant]
          have hv2 : ∃ h2, opA C f ((tr p).1.only (reads ops o)) (tr m).2 o = some (vl p, h2) ∧ (loudOp C f o = true → h2 = (tr (p + 1)).2) ∧ (loudOp C f o = false → h2 = (tr m).2) := by
            rw [← hwc] at hw
            cases hlo : loudOp C f o with
            | true =>
              rw [← opA_congr hsame', hheap (loud_touch hlo) hlo]
              exact ⟨_, hv.1, fun _ => rfl, fun h => by cases h⟩
            | false =>
              rw [← opA_congr hsame']
              cases htc : touchOp C f o with
              | true => exact ⟨_, hread hw hv.1 hlo htc, fun h => (by cases h), fun _ => rfl⟩
              | false => exact ⟨_, (opA_still htc hnal hv.1).2 _, fun h => (by cases h), fun _ => rfl⟩
          obtain ⟨h2, hv2, hh1, hh2⟩ := hv2
          exact oper_sound K i6 hG1 henv hv2 fun s2 w2 u E2 R2 hu => rest hh1 hh2 E2 R2 hu
        · rw [hwc] at hw
          have hwant := want_rel hd i7 henv hw
          rw [if_pos hwant]
          obtain ⟨ct, hoc⟩ := callee_op hce
          have htc : touchOp C f o = true := by unfold touchOp; rw [hoc]
          have hops : ∀ x : Operand, x ∈ o.op.operands.toList → evalA C (tr p).1 x = evalA C ((tr p).1.only (reads ops o)) x := fun x hx => evalA_congr fun t ht => hsame' t (mem_tmpsOf (ht ▸ hx))
          rw [mapO_congr (l := args.toList) (fun x hx => hops x (by rw [hoc]; simp [Op.operands, Call.operands]; right; simpa using hx))] at hvs
          rw [hops g (by rw [hoc]; simp [Op.operands, Call.operands])] at hg
          have hno : ∀ e h, opA C f e h o = none := fun e h => by unfold opA; simp only [hoc]
          have hsm : (tr m).2 = (tr p).2 := hcalls (by rw [hwc]; exact hw) hno htc
          rw [← hsm] at hcall
          refine callop_sound (HC.le hk') i6 hG1 henv hce hvs hg hcall (fun v hres s2 w2 u E2 R2 hu => ?_) (fun v hres => by cases hres)
          injection hres with hres
          rw [← hres] at hu
          exact rest (fun _ => rfl) (fun hlo => by rw [step_quiet K hlo (ts p o hlp).1, hsm]) E2 R2 hu
  have hrep : ∀ j : Nat, (Array.replicate ops.size false).getD j false = false := fun j => by
    rw [Array.getD_eq_getD_getElem?, Array.getElem?_replicate]; split <;> rfl
  refine main _ _ _ _ (by simp) (fun i o ho hi => ?_) ?_ ?_
  · rw [hrep] at hi; cases hi
  · refine ⟨s, q0, Nat.le_refl _, hql, fun p o h1 h2 => by omega, fun p o _ _ _ hDp => ?_, ?_, ?_, hN, hdf, fun p t hp hrd hnD hwr => ?_, fun p hp _ => ?_, ?_⟩
    · obtain ⟨i, hi, hiD⟩ := hDp
      rw [hrep] at hiD; cases hiD
    · rw [hX]; exact Ext.pad s h w X
    · rw [hX]; exact R.pad X
    · have hno : (tr p).1.get t = (tr 0).1.get t := get_same p 0 t (Nat.zero_le _) hp (fun r o _ h2 h3 h4 => by
        obtain ⟨i, hi, hiD⟩ := hwr r o h2 h3 h4
        rw [hrep] at hiD; cases hiD)
      rw [hno, t0, hX]
      exact (H t).ext R.apart (Ext.pad s h w X)
    · refine ⟨?_, ?_⟩
      · cases hx : s.μ (h.length + p) with
        | none => rfl
        | some b => have := R.old hx; omega
      · rw [hX, List.getElem?_append_right (by omega)]
        congr 1; omega
    · rw [hX]; simp [hXl]
  · exact Nat.le_trans List.countP_le_length (by simp)
end
end Go.Rv

/-
  Statements and calls: what the interpreter answers, the model's calls come to.
-/
set_option linter.unusedSimpArgs false
set_option linter.unusedVariables false
namespace Go.Rv
section
variable {P : Program} {C : Cfg} {s : Sim} {h : Heap} {w : World}

theorem get_zip (args : List AV) (t : Nat) : ∀ (n : Nat), n ≤ t → Env.get ((args.zipIdx n).map fun (v, i) => (i, v)) t = (args[t - n]?).getD .junk := by
  induction args with
  | nil => intro n _; simp [Env.get_nil, Env.get_cons]
  | cons a r ih =>
    intro n hn
    simp only [List.zipIdx_cons, List.map_cons, Env.get_nil, Env.get_cons]
    by_cases he : n = t
    · subst he; simp
    · have : (n == t) = false := by simp [he]
      simp only [this, Bool.false_eq_true, if_false]
      rw [ih (n + 1) (by omega)]
      obtain ⟨m, hm⟩ : ∃ m, t - n = m + 1 := ⟨t - n - 1, by omega⟩
      rw [hm, List.getElem?_cons_succ, show t - (n + 1) = m from by omega]

theorem envRel_args {args : List AV} {vs : List Value} (H : VRs s h w args vs) (n : Nat) : EnvRel s h w (args.zipIdx.map fun (v, i) => (i, v)) (vs.toArray ++ Array.replicate (n - vs.toArray.size) undef) := by
  intro t
  rw [get_zip args t 0 (Nat.zero_le _)]
  simp only [Nat.sub_zero]
  cases ht : args[t]? with
  | none => exact .junk _
  | some v =>
    obtain ⟨u, hu, hr⟩ := H.2 t v ht
    have hlt := (List.getElem?_eq_some_iff.1 hu).1
    simp only [Option.getD_some]
    rw [Array.getD_eq_getD_getElem?, Array.getElem?_append_left (by simpa using hlt)]
    simp [hu, hr]

def resOne (tmps : Array Value) : ResultVar → Sem Value
  | .tmp t => pure (tmps.getD t undef)
  | .cell a t => do loadVar t (← asAddr (tmps.getD a undef))

theorem resOne_tmp (tmps : Array Value) (t : Nat) : (resOne tmps (.tmp t)).run P w = .ok (tmps.getD t undef) w := rfl
theorem resOne_cell (tmps : Array Value) (x t : Nat) (a : Addr) (h : tmps.getD x undef = .pointer (some a)) : resOne tmps (.cell x t) = loadVar t a := by
  simp only [resOne, h, asAddr]; rfl

theorem resultsA_rel {ord : Nat → Array Oper → Bool} (K : Ok P C ord) (R : Rel s h w) (G : Glob C s h w) {e : Env} {a : Act} (H : EnvRel s h w e a.tmps) : ∀ {rs : List ResultVar} {vs : List AV}, resultsA C h e rs = some vs →
    ∃ us, (rs.mapM (resOne a.tmps)).run P w = .ok us w ∧ VRs s h w vs us := by
  intro rs
  induction rs with
  | nil =>
    intro vs hv
    simp only [resultsA, Option.some.injEq] at hv
    subst hv
    exact ⟨[], by simp, rfl, fun i c hi => by simp at hi⟩
  | cons x r ih =>
    intro vs hv
    cases x with
    | tmp t =>
      simp only [resultsA, Option.bind_eq_bind] at hv
      replace hv := Option.bind_eq_some_iff.1 hv
      obtain ⟨v, hv1, hv⟩ := hv
      replace hv := Option.bind_eq_some_iff.1 hv
      obtain ⟨vs', hv2, hv⟩ := hv
      simp only [Option.some.injEq] at hv
      subst hv
      obtain ⟨us, h1, h2⟩ := ih hv2
      have := evalA_rel G H hv1
      refine ⟨a.tmps.getD t undef :: us, ?_, VRs.cons this h2⟩
      simp only [List.mapM_cons, Sem.run_bind, resOne_tmp, Sem.run_pure, Result.andThen_ok, h1]
    | cell x t =>
      simp only [resultsA, Option.bind_eq_bind] at hv
      replace hv := Option.bind_eq_some_iff.1 hv
      obtain ⟨p, hp, hv⟩ := hv
      replace hv := Option.bind_eq_some_iff.1 hv
      obtain ⟨v, hv1, hv⟩ := hv
      replace hv := Option.bind_eq_some_iff.1 hv
      obtain ⟨vs', hv2, hv⟩ := hv
      simp only [Option.some.injEq] at hv
      subst hv
      obtain ⟨us, h1, h2⟩ := ih hv2
      have hpr := evalA_rel G H hp
      unfold loadA at hv1
      simp only [Option.bind_eq_bind] at hv1
      replace hv1 := Option.bind_eq_some_iff.1 hv1
      obtain ⟨ti, hti, hv1⟩ := hv1
      replace hv1 := Option.bind_eq_some_iff.1 hv1
      obtain ⟨cs, hcs, hv1⟩ := hv1
      obtain ⟨b, off, hu, _⟩ := cellsAt_reads R hpr hcs
      obtain ⟨y, hy1, hy2⟩ := load_rel R (K.ty t ti hti) hpr hcs hv1
      rw [hu] at hy1
      simp only [Instr.loadAt, Instr.sureAddr, Sem.run_bind, Sem.run_pure, Result.andThen_ok] at hy1
      refine ⟨y :: us, ?_, VRs.cons hy2 h2⟩
      change a.tmps.getD x undef = _ at hu
      simp only [List.mapM_cons, Sem.run_bind, resOne_cell _ _ _ _ hu, Sem.run_pure, Result.andThen_ok, hy1, h1]

theorem results_rel {ord : Nat → Array Oper → Bool} (K : Ok P C ord) (R : Rel s h w) (G : Glob C s h w) {e : Env} {a : Act} (H : EnvRel s h w e a.tmps) {fn : Func} {vs : List AV} (hv : resultsA C h e fn.results.toList = some vs) :
    ∃ u, (results fn a.tmps).run P w = .ok u w ∧ VR s h w (packA vs) u := by
  obtain ⟨us, h1, h2⟩ := resultsA_rel K R G H hv
  have hr : results fn a.tmps = (fn.results.mapM (resOne a.tmps)) >>= fun vs => pure (if h : vs.size = 1 then vs[0] else .tuple vs) := rfl
  rw [hr, Array.mapM_eq_mapM_toList]
  simp only [Sem.run_bind, Sem.run_map, Sem.run_pure, h1, Result.andThen_ok]
  refine ⟨_, rfl, ?_⟩
  obtain ⟨hl, hc⟩ := h2
  split
  · rename_i h1
    simp only [List.size_toArray] at h1
    obtain ⟨v, rfl⟩ := List.length_eq_one_iff.1 (hl.trans h1)
    obtain ⟨u, rfl⟩ := List.length_eq_one_iff.1 h1
    obtain ⟨u', hu', hr'⟩ := hc 0 v rfl
    simp only [List.getElem?_cons_zero, Option.some.injEq] at hu'
    subst hu'
    exact hr'
  · rename_i h1
    simp only [List.size_toArray] at h1
    have hp : packA vs = .tup vs := by
      unfold packA
      split
      · simp at hl; omega
      · rfl
    rw [hp]
    refine .tup _ _ (by simpa using hl) fun i c hi => ?_
    obtain ⟨u', hu', hr'⟩ := hc i c hi
    simpa [hu'] using hr'

theorem wpIn_scope_straight {F : Fence} {n : Nat} {Q : Exit → Act → World → Prop} {a : Act} {c : Code} (h : c.wpIn F n P (Exit.noGoto Q) a w) : (Code.scope c).wpIn F n P Q a w := by
  intro b k cs hro hb hr
  have step_scope : step P (lone (b.atR a (.code (.scope c) :: k)) cs w) = .next (lone (b.atR a (.code c :: .inScope c :: k)) cs w) :=
    step_lone_go (by simp [stepG, stepG.exec, Frame.atR])
  have step_inScope : ∀ (a : Act) (w : World), step P (lone (b.atR a (.inScope c :: k)) cs w) = .next (lone (b.atR a k) cs w) := fun a w =>
    step_lone_go (by simp [stepG, stepG.exec, Frame.atR])
  have h1 := StepsIn.one (I := Machine.fenced P F) (fenced_calm (fr := b.atR a (.code (.scope c) :: k)) (cs := cs) (w := w) hb hr rfl) step_scope
  obtain ⟨e, a₁, w₁, hq, harr⟩ := h b (.inScope c :: k) cs hro hb hr
  cases e with
  | normal => exact ⟨.normal, a₁, w₁, hq, StepsIn.trans h1 (StepsIn.trans harr (.one (fenced_calm (fr := b.atR a₁ (.inScope c :: k)) hb hr rfl) (step_inScope _ _)))⟩
  | exit id => exact ⟨.exit id, a₁, w₁, hq, .of_steps h1 ⟨fun k' hk => harr.1 k' (by simp [exitTo, hk]), fun hs hk => harr.2 hs (by simp [exitTo, hk])⟩⟩
  | goto l => exact hq.elim
  | ret => exact ⟨_, a₁, w₁, hq, .of_steps h1 harr⟩
  | panic ch => exact ⟨_, a₁, w₁, hq, .of_steps h1 harr⟩
  | outgrown => exact ⟨_, a₁, w₁, hq, .of_steps h1 harr⟩


theorem loopAt_some {o : Nat} {r : ALoop} (ho : h.loopAt o = some r) : h[o]? = some (.loop r) := by
  unfold Heap.loopAt at ho
  split at ho
  · rename_i r' hr
    injection ho with ho
    rw [hr, ho]
  · cases ho

theorem loop_obj (R : Rel s h w) {o b : Nat} {r : ALoop} (hb : s.μ o = some b) (ho : h.loopAt o = some r) : ∃ rec, w.heap[b]? = some (.loop rec) ∧ (rec.state = r.st ∧ rec.pending = r.pend ∧ rec.params.toList = r.ps ∧ rec.assign = r.assign ∧ rec.body = r.body) ∧
    EnvRel s h w r.env rec.tmps ∧ s.good r.f rec.tmps.size r.ps r.assign r.body := by
  obtain ⟨x, hx, hr⟩ := R.obj o b hb
  rw [loopAt_some ho] at hx
  injection hx with hx; subst hx
  exact hr

theorem loop_write (R : Rel s h w) {o b : Nat} {r : ALoop} {rec : Loop} (hb : s.μ o = some b) (ho : h.loopAt o = some r) (hheap : w.heap[b]? = some (.loop rec)) (st : LoopState) (pend : Option Code) :
    Ext s h w s (h.set o (.loop { r with st := st, pend := pend })) (w.putObj b (.loop { rec with state := st, pending := pend })) ∧ Rel s (h.set o (.loop { r with st := st, pend := pend })) (w.putObj b (.loop { rec with state := st, pending := pend })) := by
  have ho' := loopAt_some ho
  have hlt := (List.getElem?_eq_some_iff.1 ho').1
  have hbl := (Array.getElem?_eq_some_iff.1 hheap).1
  have hfar : ∀ k, k ≠ b → (w.putObj b (.loop { rec with state := st, pending := pend })).heap[k]? = w.heap[k]? := fun k hk => World.putObj_heap_other hk
  have hat : (w.putObj b (.loop { rec with state := st, pending := pend })).heap[b]? = some (.loop { rec with state := st, pending := pend }) := World.putObj_heap_same hbl
  have E : Ext s h w s (h.set o (.loop { r with st := st, pend := pend })) (w.putObj b (.loop { rec with state := st, pending := pend })) := by
    refine ⟨⟨by simp, fun k _ hn => hfar k (fun e => hn o (e ▸ hb)), fun k x hx => ?_, fun _ h => h, fun k g0 hg0 => ?_, fun k g0 _ _ => ⟨fun _ h => h, ?_⟩, fun k hk => ?_, fun k c hc => .inl ⟨k, hc⟩, rfl, rfl, rfl, fun k hk => ?_, rfl⟩, fun k c _ hc => ⟨c, hc⟩, fun k _ hn => ?_⟩
    · by_cases e : k = b
      · subst e
        simp [World.shape?, hheap] at hx
      · rw [shape_of (hfar k e)]; exact hx
    · rw [genOf_set (g := g0)]
      by_cases e : o = k
      · subst e
        have : g0 = 0 := by simp [genOf, ho'] at hg0; omega
        exact ⟨0, by simp [hlt], by omega⟩
      · exact ⟨g0, by simp [e, hg0], Nat.le_refl _⟩
    · by_cases e : o = k
      · subst e
        unfold lenOf
        rw [ho', List.getElem?_set_self hlt]
      · exact lenOf_set e
    · by_cases e : o = k
      · subst e; simp [isMap, ho'] at hk
      · rw [isMap_set e]; exact hk
    · by_cases e : o = k
      · subst e
        unfold isLoop
        rw [List.getElem?_set_self hlt]
      · rw [isLoop_set e]; exact hk
    · have : o ≠ k := by rintro rfl; rw [hb] at hn; cases hn
      exact List.getElem?_set_ne this
  refine ⟨E, R.inj, fun k c hk => ?_, R.apart, fun c hI => by have := R.imm c hI; simpa using this⟩
  by_cases e : k = o
  · subst e
    rw [hb] at hk; injection hk with hk; subst hk
    obtain ⟨rec', h1, h2, h3, h4⟩ := loop_obj R hb ho
    rw [hheap] at h1
    injection h1 with h1; injection h1 with h1; subst h1
    exact ⟨.loop { r with st := st, pend := pend }, by rw [List.getElem?_set_self hlt], _, hat, ⟨rfl, rfl, h2.2.2⟩, fun t => (h3 t).ext R.apart E, h4⟩
  · obtain ⟨x, hx, hr⟩ := R.obj k c hk
    have hne : c ≠ b := fun e' => e (R.inj k o c hk (e' ▸ hb))
    exact ⟨x, by rw [List.getElem?_set_ne (Ne.symm e)]; exact hx, hr.ext R.apart E (hfar c hne)⟩

/-- Blocks of deferred calls are shut. -/
structure Patch (B : Nat) (w w' : World) : Prop where
  size : w'.heap.size = w.heap.size
  far : ∀ b : Nat, w'.heap[b]? = w.heap[b]? ∨ (B ≤ b ∧ ∃ ds, w.heap[b]? = some (.deferred ds))
  os : w'.os = w.os
  tape : w'.tape = w.tape
  output : w'.output = w.output

theorem Patch.refl (B : Nat) (w : World) : Patch B w w := ⟨rfl, fun _ => .inl rfl, rfl, rfl, rfl⟩
theorem Patch.put {B b : Nat} {ds : Option (List Deferred)} (hB : B ≤ b) (hb : w.heap[b]? = some (.deferred ds)) (o : Obj) : Patch B w (w.putObj b o) :=
  ⟨by simp, fun k => by
    by_cases e : k = b
    · subst e; exact .inr ⟨hB, _, hb⟩
    · exact .inl (World.putObj_heap_other e), rfl, rfl, rfl⟩
theorem Patch.trans {B : Nat} {w1 w2 w3 : World} (p : Patch B w1 w2) (q : Patch B w2 w3) : Patch B w1 w3 :=
  ⟨q.size.trans p.size, fun k => by
    rcases p.far k with h1 | h1
    · rcases q.far k with h2 | ⟨h2, ds, h3⟩
      · exact .inl (h2.trans h1)
      · exact .inr ⟨h2, ds, by rw [← h1]; exact h3⟩
    · exact .inr h1, q.os.trans p.os, q.tape.trans p.tape, q.output.trans p.output⟩
theorem Patch.cell {B : Nat} {w w' : World} (p : Patch B w w') {a : Addr} {v : Value} (hv : w.cell? a = some v) : w'.cell? a = some v := by
  rcases p.far a.block with h1 | ⟨_, ds, h1⟩
  · unfold World.cell? at *; rw [h1]; exact hv
  · unfold World.cell? at hv; rw [h1] at hv; cases hv
theorem Patch.shape {B : Nat} {w w' : World} (p : Patch B w w') {b : Nat} {x : TypeId × Nat} (hv : w.shape? b = some x) : w'.shape? b = some x := by
  rcases p.far b with h1 | ⟨_, ds, h1⟩
  · unfold World.shape? at *; rw [h1]; exact hv
  · unfold World.shape? at hv; rw [h1] at hv; cases hv

theorem VR.patch {B : Nat} {w w' : World} (p : Patch B w w') {x : AV} {v : Value} (H : VR s h w x v) : VR s h w' x v := by
  induction H with
  | bool b => exact .bool b
  | int k n => exact .int k n
  | str l => exact .str l
  | nilPtr => exact .nilPtr
  | nilMap => exact .nilMap
  | nilFunc => exact .nilFunc
  | nilIface => exact .nilIface
  | junk v => exact .junk v
  | ptr o off g b hg hb => exact .ptr o off g b hg hb
  | ptrOld o off g g1 a hg hlt => exact .ptrOld o off g g1 a hg hlt
  | ref cs b off f hI hc _ ih => exact .ref cs b off f hI (fun i c hi => p.cell (hc i c hi)) ih
  | lstNil z => exact .lstNil z
  | lstEmpty z A => exact .lstEmpty z A
  | lst xs z r b off c f hI hr hle hz hc _ ih => exact .lst xs z r b off c f hI hr hle hz (fun i j x y hi hj => p.cell (hc i j x y hi hj)) ih
  | msl o off len z g cap b c el n off' hoff hg hb hle hcap hnone hsh hn => exact .msl o off len z g cap b c el n off' hoff hg hb hle hcap hnone (p.shape hsh) hn
  | mslOld o off len z g cap g1 a n c hg hlt => exact .mslOld o off len z g cap g1 a n c hg hlt
  | clo f cs vs hl _ ih => exact .clo f cs vs hl ih
  | map o b hg hb => exact .map o b hg hb
  | yld o b hg hb => exact .yld o b hg hb
  | iface t x v hx ih => exact .iface t x v ih
  | agg cs vs hl _ ih => exact .agg cs vs hl ih
  | tup cs vs hl _ ih => exact .tup cs vs hl ih

theorem Rel.patch {B : Nat} {w w' : World} (R : Rel s h w) (p : Patch B w w') : Rel s h w' :=
  ⟨R.inj, fun o b hb => by
    obtain ⟨x, hx, hr⟩ := R.obj o b hb
    refine ⟨x, hx, ?_⟩
    have hat : ∀ {y : Obj}, w.heap[b]? = some y → (∀ ds, y ≠ .deferred ds) → w'.heap[b]? = some y := fun {y} hy hn => by
      rcases p.far b with h1 | ⟨_, ds, h1⟩
      · rw [h1]; exact hy
      · rw [hy] at h1; injection h1 with h1; exact absurd h1 (hn ds)
    cases x with
    | cells cs g =>
      obtain ⟨bc, el, h1, h2, h3⟩ := hr
      exact ⟨bc, el, hat h1 (fun _ => by simp), h2, fun i c hi => let ⟨v, hv, hr⟩ := h3 i c hi; ⟨v, hv, hr.patch p⟩⟩
    | map es =>
      obtain ⟨en, cl, h1, h2, h3⟩ := hr
      exact ⟨en, cl, hat h1 (fun _ => by simp), h2, h3.1, fun i c hi => let ⟨m, hm, h4, h5⟩ := h3.2 i c hi; ⟨m, hm, h4.patch p, h5.patch p⟩⟩
    | loop r =>
      obtain ⟨rec, h1, h2, h3, h4⟩ := hr
      exact ⟨rec, hat h1 (fun _ => by simp), h2, fun t => (h3 t).patch p, h4⟩, R.apart, fun b hI => by rw [p.size]; exact R.imm b hI⟩

theorem Ext.patch {s1 : Sim} {h1 : Heap} {w1 w2 : World} (E : Ext s h w s1 h1 w1) (p : Patch w.heap.size w1 w2) : Ext s h w s1 h1 w2 where
  size := by rw [p.size]; exact E.size
  far := fun b hb hn => by
    rcases p.far b with h1 | ⟨h1, _⟩
    · rw [h1]; exact E.far b hb hn
    · omega
  shape := fun b x hx => p.shape (E.shape b x hx)
  imm := E.imm
  gen := E.gen
  same := E.same
  kind := E.kind
  own := E.own
  os := p.os.trans E.os
  tape := p.tape.trans E.tape
  output := p.output.trans E.output
  kindL := E.kindL
  good := E.good
  old := E.old
  kept := E.kept

theorem Marks.put {B b : Nat} {o : Obj} : ∀ {ds : List Deferred}, (∀ e ∈ ds, e.target ≠ .collected b) → Marks B s w ds → Marks B s (w.putObj b o) ds
  | [], _, _ => trivial
  | d :: ds, hn, ⟨⟨b', h1, h2, h3, h4, h5, h6⟩, h7⟩ => ⟨⟨b', h1, h2, by simpa using h3, h4, by
      rw [World.putObj_heap_other (fun e => hn d (by simp) (by rw [h1, e]))]; exact h5, h6⟩, Marks.put (fun e he => hn e (by simp [he])) h7⟩

theorem leaves_marks {B : Nat} {F : Fence} {n : Nat} {fn : Func} {tmps : Array Value} {R : Ending → World → Prop} {u : FrameMode} (hu : u ≠ .run) : ∀ {ds : List Deferred} {w : World}, Marks B s w ds →
    (∀ w', Patch B w w' → LeavesIn F n P fn tmps R [] u w') → LeavesInM F n P fn tmps R ds u w
  | [], w, _, H => H w (Patch.refl B w)
  | _ :: _, _, ⟨⟨_, h1, h2, _, _, h5, h6⟩, h7⟩, H => ⟨hu, .inl ⟨_, _, h1, run_takeDeferred h5, leaves_marks hu (h7.put h6) (fun w' hp => H w' ((Patch.put h2 h5 _).trans hp))⟩⟩


def ExecAt (P : Program) (C : Cfg) (ord : Nat → Array Oper → Bool) (k : Nat) : Prop := ∀ (f N : Nat) (c : Code) (e : Env) (h : Heap) (out : Out) (e' : Env) (h' : Heap), codeOk (ord f) N c = true → execF C k f c e h = some (out, e', h') →
  ∀ (r : Option Nat) (B : Nat) (s : Sim) (w : World) (a : Act), a.tmps.size = N → Dues B s w a.defers → Around s h r → Rel s h w → GG C ord s h w → EnvRel s h w e a.tmps →
    c.wpIn (Fr r) 0 P (OutOk B s h w N out e' h') a w

theorem OutOk.then {B : Nat} {s1 : Sim} {h1 : Heap} {w1 : World} {N : Nat} {out : Out} {e' : Env} {h' : Heap} (E : Ext s h w s1 h1 w1) {ex : Exit} {a : Act} {w' : World} (H : OutOk B s1 h1 w1 N out e' h' ex a w') : OutOk B s h w N out e' h' ex a w' := by
  obtain ⟨s', k1, k2, k3⟩ := H
  exact ⟨s', E.trans k1, k2, k3⟩

/-- Of the three ways out that are not the end, none is the end. -/
theorem out_other {B : Nat} {N : Nat} {out : Out} {e' : Env} {h' : Heap} {next : Act → World → Prop} {ex : Exit} {a : Act} {w' : World} (hn : out ≠ .nrm) (H : OutOk B s h w N out e' h' ex a w') : Exit.then next (OutOk B s h w N out e' h') ex a w' := by
  cases ex <;> first | exact H | skip
  obtain ⟨s', k1, k2, k3, k4, k5⟩ := H
  cases out <;> first | exact absurd rfl hn | exact k5.elim

theorem out_nrm {B : Nat} {N : Nat} {e' : Env} {h' : Heap} {Q : Exit → Act → World → Prop} {next : Act → World → Prop} {ex : Exit} {a : Act} {w' : World} (H : OutOk B s h w N .nrm e' h' ex a w')
    (hnext : ∀ s' a w', Ext s h w s' h' w' → Rel s' h' w' → a.tmps.size = N → Dues B s' w' a.defers → EnvRel s' h' w' e' a.tmps → next a w') : Exit.then next Q ex a w' := by
  obtain ⟨s', k1, k2, k3, k4, k5⟩ := H
  cases ex <;> first | exact k5.elim | exact hnext s' _ _ k1 k2 k3 k4 k5

theorem OutOk.noGoto {B : Nat} {N : Nat} {out : Out} {e' : Env} {h' : Heap} {ex : Exit} {a : Act} {w' : World} (H : OutOk B s h w N out e' h' ex a w') : Exit.noGoto (OutOk B s h w N out e' h') ex a w' := by
  cases ex <;> first | exact H | skip
  obtain ⟨s', k1, k2, k3, k4, k5⟩ := H
  cases out <;> exact k5.elim

theorem OutOk.keep {B : Nat} {N : Nat} {e' : Env} {h' : Heap} {ex : Exit} {a : Act} {w' : World} (l : Option (List Nat)) (H : OutOk B s h w N .nrm e' h' ex a w') : OutOk B s h w N .nrm (match l with | some l => e'.keep l | none => e') h' ex a w' := by
  cases l with
  | none => exact H
  | some l =>
    obtain ⟨s', k1, k2, k3, k4, k5⟩ := H
    refine ⟨s', k1, k2, k3, k4, ?_⟩
    cases ex <;> first | exact k5.elim | exact k5.keep l

theorem rounds_mono {F : Fence} {m : Nat} {b : Code} {Q Q' : Exit → Act → World → Prop} (hq : ∀ ex a w, Q ex a w → Q' ex a w) : ∀ (n : Nat) (a : Act) (w : World), Code.roundsIn F m P b Q n a w → Code.roundsIn F m P b Q' n a w
  | 0, _, _, H => H
  | n + 1, a, w, H => wpIn_mono H fun ex a w h => by
    cases ex <;> first | exact hq _ _ _ h | exact rounds_mono hq n a w h

theorem loopAt_is {o : Nat} {r : ALoop} (ho : h.loopAt o = some r) : isLoop h o = true := by
  unfold isLoop; rw [loopAt_some ho]

theorem not_busy {st : LoopState} (hb : (st == LoopState.busy) = false) : st ≠ .busy := by
  rintro rfl; exact absurd hb (by decide)
theorem is_ready {st : LoopState} (hb : (st != LoopState.ready) = false) : st = .ready := by
  cases st <;> first | rfl | exact absurd hb (by decide)

/-- A range over a function, once its record lies. -/
theorem range_core {ord : Nat → Array Oper → Bool} {k : Nat} (HC : CallsAt P C ord k) {f N : Nat} {g : Operand} {ps : Array Nat} {assign body : Code} {e : Env} {out : Out} {e' : Env} {h' : Heap}
    (hok : codeOk (ord f) N (.rangeFunc g ps assign body) = true) (hx : execF C (k + 1) f (.rangeFunc g ps assign body) e h = some (out, e', h')) {r : Option Nat} {B : Nat} {a : Act} (hN : a.tmps.size = N)
    (H : EnvRel s h w e a.tmps) (G : GG C ord s h w) (hap : ∀ o b, s.μ o = some b → ¬ s.I b)
    {sA : Sim} {wA : World} (EA : Ext s h w sA h wA) (RA : Rel sA h wA) {rec : Loop} (h1 : rec.state = .ready) (h2 : rec.pending = none) (h3 : rec.tmps = a.tmps) (h4 : rec.params = ps) (h5 : rec.assign = assign) (h6 : rec.body = body)
    {mark : List Deferred} (D : Dues B sA wA (mark ++ a.defers)) :
    ∃ (d : Deferred) (w1' : World) (f' : FuncId) (args' : Array Value) (w2 : World), (resolve a.eval (rangeCall g wA.heap.size) 0).run P (wA.alloc (.loop rec)) = .ok d w1' ∧
      (∀ f'', Target.leads P w1' d.target d.args = some f'' → (Fr r).fn f'') ∧ (invoke d.target d.args).run P w1' = .ok (.enter f' args') w2 ∧ ((Fr r).depth.isSome = true → 1 ≤ 0) ∧
      CallsIn (Fr r) (0 - 1) P f' args' w2 (rangePost (Fr r) 0 P wA.heap.size (OutOk B s h w N out e' h') { a with defers := mark ++ a.defers }) := by
  simp only [codeOk, Bool.and_eq_true] at hok
  simp only [execF, Option.bind_eq_bind] at hx
  obtain ⟨gv, hgv, hx⟩ := Option.bind_eq_some_iff.1 hx
  have hgr := evalA_rel G.g H hgv
  cases gv <;> simp only [reduceCtorEq] at hx
  rename_i g' caps
  obtain ⟨⟨res, h1'⟩, hcall, hx⟩ := Option.bind_eq_some_iff.1 hx
  obtain ⟨r1, hr1, hx⟩ := Option.bind_eq_some_iff.1 hx
  obtain ⟨hk, hfn⟩ := HC.fn k (Nat.le_refl _) _ _ _ _ _ hcall
  have GA := G.ext hap EA
  have E1 := Ext.new RA (.loop rec) (.loop { st := .ready, pend := none, f := f, env := e, ps := ps.toList, assign := assign, body := body })
  have HA := H.ext hap EA
  have R1 := Rel.new RA (.loop rec) (.loop { st := .ready, pend := none, f := f, env := e, ps := ps.toList, assign := assign, body := body })
    ⟨rec, heap_alloc_at wA _, ⟨h1, h2, by rw [h4], h5, h6⟩, fun t => by rw [h3]; exact (HA t).ext RA.apart E1, by
      show sA.good _ _ _ _ _
      rw [GA.good, h3, hN]
      exact ⟨hok.1.1, hok.1.2, hok.2⟩⟩
  have G1 := GA.ext RA.apart E1
  generalize hag : a.eval g = ag at hgr
  cases hgr with
  | clo _ _ us hl hr =>
  obtain ⟨fn, c, f1, f2, f3⟩ := hk
  have hyl : VR (sA.add h.length wA.heap.size) (h ++ [.loop { st := .ready, pend := none, f := f, env := e, ps := ps.toList, assign := assign, body := body }]) (wA.alloc (.loop rec)) (.yld h.length) (.func (.yield wA.heap.size) #[] #[]) :=
    .yld _ _ (by unfold isLoop; rw [List.getElem?_append_right (Nat.le_refl _)]; simp) (by simp [Sim.add])
  have hargs : VRs (sA.add h.length wA.heap.size) (h ++ [.loop { st := .ready, pend := none, f := f, env := e, ps := ps.toList, assign := assign, body := body }]) (wA.alloc (.loop rec)) (.yld h.length :: caps) (.func (.yield wA.heap.size) #[] #[] :: us.toList) :=
    VRs.cons hyl ⟨by simpa using hl, fun i c hi => by
      have hlt : i < us.size := by rw [← hl]; exact (List.getElem?_eq_some_iff.1 hi).1
      refine ⟨us[i], by simp [hlt], ?_⟩
      have := ((hr i c hi).ext hap EA).ext RA.apart E1
      simpa [hlt] using this⟩
  have hC := hfn _ _ _ R1 G1 hargs
  refine ⟨{ target := .fn (.func g') us, args := #[.func (.yield wA.heap.size) #[] #[]] }, wA.alloc (.loop rec), g', #[.func (.yield wA.heap.size) #[] #[]] ++ us, wA.alloc (.loop rec), ?_, fun _ _ => trivial, ?_, Fr_depth r, ?_⟩
  · simp only [resolve, hag, Deferred.ofValue, Sem.run_bind, Sem.run_pure, Result.andThen_ok]
    simp [Act.eval]
  · simp only [invoke, callFunc, Sem.run_bind, run_program, Result.andThen_ok, f1, f3, f2, Option.isNone_some, Bool.false_eq_true, if_false, Sem.run_pure]
  · have harr : (.func (.yield wA.heap.size) #[] #[] :: us.toList).toArray = #[.func (.yield wA.heap.size) #[] #[]] ++ us := by apply Array.ext'; simp
    rw [← harr]
    refine callsIn_fr.2 (Calls.mono hC fun en w2 hend => ?_)
    obtain ⟨s2, E2, R2, hres⟩ := hend
    cases res with
    | pan v => simp only [reduceCtorEq] at hx
    | ret v =>
      cases en with
      | panicked chain => exact hres.elim
      | outgrown => exact hres.elim
      | returned u =>
        simp only at hx
        by_cases hbusy : (r1.st == LoopState.busy) = true
        · rw [if_pos hbusy] at hx; cases hx
        rw [if_neg hbusy] at hx
        have hyl2 := hyl.ext R1.apart E2
        cases hyl2 with
        | yld _ _ y1 y2 =>
        obtain ⟨rec1, hrec1, q1, q2, q3⟩ := loop_obj R2 y2 hr1
        have hb1 : rec1.state ≠ .busy := by rw [q1.1]; exact not_busy (by simpa using hbusy)
        obtain ⟨E3, R3⟩ := loop_write R2 y2 hr1 hrec1 .exhausted r1.pend
        have ew : w2.putObj wA.heap.size (.loop { rec1 with state := .exhausted }) = w2.putObj wA.heap.size (.loop { rec1 with state := .exhausted, pending := r1.pend }) := by rw [← q1.2.1]
        have E4 := EA.trans (E1.trans (E2.trans E3))
        have D4 : Dues B s2 (w2.putObj wA.heap.size (.loop { rec1 with state := .exhausted, pending := r1.pend })) (mark ++ a.defers) := ((D.ext0 E1.toExt0).ext0 E2.toExt0).ext0 E3.toExt0
        refine ⟨rec1.pending, _, run_endLoop hrec1 hb1, ?_⟩
        rw [ew, q1.2.1]
        cases hp : r1.pend with
        | none =>
          simp only [hp, Option.some.injEq, Prod.mk.injEq] at hx
          obtain ⟨rfl, rfl, rfl⟩ := hx
          rw [hp] at E4 R3 D4
          exact ⟨s2, E4, R3, hN, D4, H.ext hap E4⟩
        | some c =>
          cases c <;> simp only [hp, reduceCtorEq, Option.some.injEq, Prod.mk.injEq] at hx
          · obtain ⟨rfl, rfl, rfl⟩ := hx
            rw [hp] at E4 R3 D4
            exact wpIn_exit ⟨s2, E4, R3, hN, D4, rfl, H.ext hap E4⟩
          · obtain ⟨rfl, rfl, rfl⟩ := hx
            rw [hp] at E4 R3 D4
            exact wpIn_ret ⟨s2, E4, R3, hN, D4, H.ext hap E4⟩

theorem exec_at {ord : Nat → Array Oper → Bool} (K : Ok P C ord) (hord : ∀ f ops, ord f ops = true → ordOk C f ops = true) : ∀ k, CallsAt P C ord k → (∀ k', k' ≤ k → ExecAt P C ord k') ∧
    ∀ (f N : Nat) (b : Code) (e : Env) (h : Heap) (out : Out) (e' : Env) (h' : Heap), codeOk (ord f) N b = true → execF C k f (.loop b) e h = some (out, e', h') →
      ∀ (r : Option Nat) (B : Nat) (s : Sim) (w : World) (a : Act), a.tmps.size = N → Dues B s w a.defers → Around s h r → Rel s h w → GG C ord s h w → EnvRel s h w e a.tmps → Code.roundsIn (Fr r) 0 P b (OutOk B s h w N out e' h') k a w := by
  intro k
  induction k with
  | zero =>
    intro _
    refine ⟨fun k' hk => ?_, ?_⟩
    · obtain rfl : k' = 0 := by omega
      intro f N c e h out e' h' _ hx
      simp [execF] at hx
    · intro f N c e h out e' h' _ hx
      simp [execF] at hx
  | succ k ih =>
    intro HC
    have HC' : CallsAt P C ord k := HC.le (by omega)
    obtain ⟨ihE, ihL⟩ := ih HC'
    have ihk := ihE k (Nat.le_refl _)
    have loops : ∀ (f N : Nat) (b : Code) (e : Env) (h : Heap) (out : Out) (e' : Env) (h' : Heap), codeOk (ord f) N b = true → execF C (k + 1) f (.loop b) e h = some (out, e', h') →
      ∀ (r : Option Nat) (B : Nat) (s : Sim) (w : World) (a : Act), a.tmps.size = N → Dues B s w a.defers → Around s h r → Rel s h w → GG C ord s h w → EnvRel s h w e a.tmps → Code.roundsIn (Fr r) 0 P b (OutOk B s h w N out e' h') (k + 1) a w := by
      intro f N b e h out e' h' hok hx r B s w a hN hdf A R G H
      simp only [execF, Option.bind_eq_bind] at hx
      replace hx := Option.bind_eq_some_iff.1 hx
      obtain ⟨⟨o1, e1, h1⟩, hx1, hx⟩ := hx
      have hb := ihk f N b e h o1 e1 h1 hok hx1 r B s w a hN hdf A R G H
      rw [roundsIn_succ]
      refine wpIn_mono hb fun ex a1 w1 hq => ?_
      cases o1 with
      | nrm =>
        simp only at hx
        exact out_nrm hq fun s1 a1 w1 E1 R1 hN1 hdf1 H1 => rounds_mono (fun _ _ _ hq => hq.then E1) k _ _ (ihL f N b e1 h1 out e' h' hok hx r B s1 w1 a1 hN1 hdf1 (A.ext0 E1.toExt0) R1 (G.ext R.apart E1) H1)
      | _ =>
        simp only [Option.some.injEq, Prod.mk.injEq] at hx
        obtain ⟨rfl, rfl, rfl⟩ := hx
        exact out_other (by simp) hq
    refine ⟨fun k' hk => ?_, loops⟩
    by_cases hk' : k' ≤ k
    · exact ihE k' hk'
    obtain rfl : k' = k + 1 := by omega
    intro f N c e h out e' h' hok hx r B s w a hN hdf A R G H
    cases c <;> simp only [execF, Option.bind_eq_bind, reduceCtorEq] at hx
    case skip =>
      simp only [Option.some.injEq, Prod.mk.injEq] at hx
      obtain ⟨rfl, rfl, rfl⟩ := hx
      exact wpIn_skip ⟨s, Ext.refl _ _ _, R, hN, hdf, H⟩
    case label l =>
      simp only [Option.some.injEq, Prod.mk.injEq] at hx
      obtain ⟨rfl, rfl, rfl⟩ := hx
      exact wpIn_label ⟨s, Ext.refl _ _ _, R, hN, hdf, H⟩
    case exit id =>
      simp only [Option.some.injEq, Prod.mk.injEq] at hx
      obtain ⟨rfl, rfl, rfl⟩ := hx
      exact wpIn_exit ⟨s, Ext.refl _ _ _, R, hN, hdf, rfl, H⟩
    case ret =>
      simp only [Option.some.injEq, Prod.mk.injEq] at hx
      obtain ⟨rfl, rfl, rfl⟩ := hx
      exact wpIn_ret ⟨s, Ext.refl _ _ _, R, hN, hdf, H⟩
    case scope b =>
      simp only [codeOk] at hok
      exact wpIn_scope_straight (wpIn_mono (ihk f N b e h out e' h' hok hx r B s w a hN hdf A R G H) fun _ _ _ hq => hq.noGoto)
    case loop b =>
      simp only [codeOk] at hok
      exact wpIn_loop_rounds (k + 1) (loops f N b e h out e' h' hok (by simp only [execF, Option.bind_eq_bind]; exact hx) r B s w a hN hdf A R G H)
    case seq b c =>
      simp only [codeOk, Bool.and_eq_true] at hok
      replace hx := Option.bind_eq_some_iff.1 hx
      obtain ⟨⟨o1, e1, h1⟩, hx1, hx⟩ := hx
      have hb := ihk f N b e h o1 e1 h1 hok.1 hx1 r B s w a hN hdf A R G H
      refine wpIn_seq (wpIn_mono hb fun ex a1 w1 hq => ?_)
      cases o1 with
      | nrm =>
        simp only at hx
        exact out_nrm hq fun s1 a1 w1 E1 R1 hN1 hdf1 H1 => wpIn_mono (ihk f N c e1 h1 out e' h' hok.2 hx r B s1 w1 a1 hN1 hdf1 (A.ext0 E1.toExt0) R1 (G.ext R.apart E1) H1) fun _ _ _ hq => hq.then E1
      | _ =>
        simp only [Option.some.injEq, Prod.mk.injEq] at hx
        obtain ⟨rfl, rfl, rfl⟩ := hx
        exact out_other (by simp) hq
    case cond x b c =>
      simp only [codeOk, Bool.and_eq_true] at hok
      replace hx := Option.bind_eq_some_iff.1 hx
      obtain ⟨v, hv, hx⟩ := hx
      have hvr := evalA_rel G.g H hv
      split at hx
      all_goals (try (cases hx; done))
      all_goals
        generalize hae : a.eval x = u at hvr
        cases hvr
        refine wpIn_cond hae ?_
      · exact ihk f N b e h out e' h' hok.1 hx r B s w a hN hdf A R G H
      · exact ihk f N c e h out e' h' hok.2 hx r B s w a hN hdf A R G H
    case block id b =>
      simp only [codeOk] at hok
      replace hx := Option.bind_eq_some_iff.1 hx
      obtain ⟨⟨o1, e1, h1⟩, hx1, hx⟩ := hx
      have hb := ihk f N b e h o1 e1 h1 hok hx1 r B s w a hN hdf A R G H
      refine wpIn_block (wpIn_mono hb fun ex a1 w1 hq => ?_)
      obtain ⟨s', k1, k2, k3, k4, k5⟩ := hq
      cases o1 with
      | exit id' =>
        cases ex with
        | exit id2 =>
        obtain ⟨k5, k6⟩ := k5
        subst k5
        simp only [Exit.inBlock]
        by_cases hid : id2 = id
        · simp only [hid, beq_self_eq_true, if_true, Option.some.injEq, Prod.mk.injEq] at hx
          obtain ⟨rfl, rfl, rfl⟩ := hx
          rw [if_pos hid]
          exact ⟨s', k1, k2, k3, k4, k6⟩
        · have : (id2 == id) = false := by simp [hid]
          simp only [this, Bool.false_eq_true, if_false, Option.some.injEq, Prod.mk.injEq] at hx
          obtain ⟨rfl, rfl, rfl⟩ := hx
          rw [if_neg hid]
          exact ⟨s', k1, k2, k3, k4, rfl, k6⟩
        | _ => exact k5.elim
      | _ =>
        simp only [Option.some.injEq, Prod.mk.injEq] at hx
        obtain ⟨rfl, rfl, rfl⟩ := hx
        cases ex <;> first | exact k5.elim | exact ⟨s', k1, k2, k3, k4, k5⟩
    case region id ops draw =>
      simp only [codeOk, Bool.and_eq_true] at hok
      replace hx := Option.bind_eq_some_iff.1 hx
      obtain ⟨⟨o1, e1, h1⟩, hx1, hx⟩ := hx
      cases draw with
      | false =>
        have hb := ops_sound K hok.1 (r := r) (B := B) k HC' ops.toList (List.range ops.size) (map_range ops) e h o1 e1 h1 (by simpa [sched] using hx1) s w a hN hdf R G H
        refine wpIn_region (wpOps_mono (fun ex a w hq => ?_) _ _ _ hb)
        cases o1 with
        | nrm =>
          simp only [Option.some.injEq, Prod.mk.injEq] at hx
          obtain ⟨rfl, rfl, rfl⟩ := hx
          exact hq.keep _
        | _ =>
          simp only [Bool.false_eq_true, if_false, Option.some.injEq, Prod.mk.injEq] at hx
          obtain ⟨rfl, rfl, rfl⟩ := hx
          exact hq
      | true =>
        cases o1 with
        | nrm =>
          simp only [Option.some.injEq, Prod.mk.injEq] at hx
          obtain ⟨rfl, rfl, rfl⟩ := hx
          have E := Ext.draw s h w (w.drawn + 1)
          have hb := draw_sound K hok.1 (hord f ops (by simpa using hok.2)) HC' (r0 := r) (B := B) hx1 hN (hdf.ext0 E.toExt0) (R.draw (w.drawn + 1)) (G.ext R.apart E) (H.ext R.apart E)
          exact wpIn_mono (wpIn_region_any K.mixed hb) fun ex a w hq => (hq.then E).keep _
        | _ => simp at hx
    case rangeFunc g ps assign body =>
      have hx' : execF C (k + 1) f (.rangeFunc g ps assign body) e h = some (out, e', h') := by simp only [execF, Option.bind_eq_bind]; exact hx
      refine wpIn_rangeFunc fun fn _ => ?_
      cases r with
      | none =>
        have EA := Ext.block s h w (.deferred (some [])) false
        have RA := R.block (.deferred (some [])) false
        have D : Dues B { s with I := fun b => s.I b ∨ (false = true ∧ b = w.heap.size) } (w.alloc (.deferred (some []))) ([{ target := .collected w.heap.size, args := #[] }] ++ a.defers) :=
          ⟨Nat.le_trans hdf.1 EA.size, ⟨w.heap.size, rfl, hdf.1, by rw [size_alloc]; omega, fun o ho => by have := R.lt ho; omega, heap_alloc_at w _, hdf.2.lt⟩, hdf.2.ext0 EA.toExt0⟩
        obtain ⟨d, w1', f', args', w2, k1, k2, k3, k4, k5⟩ := range_core (r := none) HC' hok hx' hN H G R.apart EA RA (rec := { state := .ready, pending := none, fn, tmps := a.tmps, params := ps, assign, body, defers := w.heap.size }) rfl rfl rfl rfl rfl rfl D
        rw [size_alloc] at k1 k5
        exact ⟨_, _, _, d, w1', f', args', w2, run_enterLoop_outer fn a.tmps ps assign body, k1, k2, k3, k4, k5⟩
      | some l =>
        obtain ⟨o, ho, hl⟩ := A
        obtain ⟨x, hxo, hxr⟩ := R.obj o l hl
        unfold isLoop at ho
        rw [hxo] at ho
        cases x <;> simp only [Bool.false_eq_true] at ho
        obtain ⟨rec0, hrec0, _⟩ := hxr
        obtain ⟨d, w1', f', args', w2, k1, k2, k3, k4, k5⟩ := range_core (r := some l) HC' hok hx' hN H G R.apart (Ext.refl s h w) R (rec := { state := .ready, pending := none, fn, tmps := a.tmps, params := ps, assign, body, defers := rec0.defers }) (mark := []) rfl rfl rfl rfl rfl rfl (by simpa using hdf)
        refine ⟨w.heap.size, [], w.alloc (.loop { state := .ready, pending := none, fn, tmps := a.tmps, params := ps, assign, body, defers := rec0.defers }), d, w1', f', args', w2, ?_, k1, k2, k3, k4, k5⟩
        show (Instr.enterLoop fn a.tmps ps assign body (some l)).run P w = _
        unfold Instr.enterLoop
        simp only [Sem.run_bind, run_getLoop hrec0, run_newObj_alloc, Result.andThen, Sem.run_pure]

theorem leave_ok {f : Nat} {v : AV} {h1 : Heap} {res : CRes} {h' : Heap} (hl : leaveA C f h v h1 = some (res, h')) (R : Rel s h w) {s1 : Sim} {w1 : World} (E : Ext s h w s1 h1 w1) (R1 : Rel s1 h1 w1) {u : Value} (hv : VR s1 h1 w1 v u) :
    EndOk s h w res h' (.returned u) w1 := by
  unfold leaveA at hl
  split at hl
  · split at hl
    · rename_i hh
      obtain ⟨v', hv', hx⟩ := Option.map_eq_some_iff.1 hl
      simp only [Prod.mk.injEq] at hx
      obtain ⟨rfl, rfl⟩ := hx
      have hn : h.length ≤ h1.length := by
        have := congrArg List.length hh
        simp at this; omega
      have hz := freeze_rel R1 hn 40 (Nat.le_refl _) hv' hv
      rw [hh] at hz
      exact ⟨s1.cut h.length, E.cut hh, R.cut R1 E hh, hz⟩
    · cases hl
  · simp only [Option.some.injEq, Prod.mk.injEq] at hl
    obtain ⟨rfl, rfl⟩ := hl
    exact ⟨s1, E, R1, hv⟩

theorem Env.puts_rel {ps : List Nat} : ∀ {vs : List AV} {us : List Value} {e : Env} {tmps : Array Value}, (∀ t ∈ ps, t < tmps.size) → VRs s h w vs us → EnvRel s h w e tmps → EnvRel s h w (e.puts ps vs) ((ps.zip us).foldl (fun tmps (t, a) => tmps.setIfInBounds t a) tmps) := by
  induction ps with
  | nil => intro vs us e tmps _ _ H; cases vs <;> exact H
  | cons t ps ih =>
    intro vs us e tmps ht HV H
    cases vs with
    | nil =>
      have : us = [] := by have := HV.1; cases us with | nil => rfl | cons _ _ => simp at this
      subst this
      exact H
    | cons v vs =>
      cases us with
      | nil => have := HV.1; simp at this
      | cons u us =>
        have hv : VR s h w v u := by obtain ⟨u', h1, h2⟩ := HV.2 0 v rfl; simp at h1; subst h1; exact h2
        have hvs : VRs s h w vs us := ⟨by have := HV.1; simpa using this, fun i c hi => HV.2 (i + 1) c (by simpa using hi)⟩
        simp only [Env.puts, List.zip_cons_cons, List.foldl_cons]
        refine ih (fun t' h' => by simpa using ht t' (by simp [h'])) hvs ?_
        have := EnvRel.put (a := { tmps := tmps, defers := [] }) H (some t) (fun t' h' => by injection h' with h'; subst h'; exact ht t (by simp)) hv
        simpa [Env.putAt, Act.put] using this

theorem zip_fold (ps : Array Nat) (us : List Value) (tmps : Array Value) : (ps.zip us.toArray).foldl (fun tmps (t, a) => tmps.setIfInBounds t a) tmps = (ps.toList.zip us).foldl (fun tmps (t, a) => tmps.setIfInBounds t a) tmps := by
  rw [← Array.foldl_toList]
  simp

theorem puts_size (ps : List Nat) (us : List Value) : ∀ (tmps : Array Value), ((ps.zip us).foldl (fun tmps (t, a) => tmps.setIfInBounds t a) tmps).size = tmps.size := by
  induction ps generalizing us with
  | nil => intro _; rfl
  | cons t ps ih =>
    intro tmps
    cases us with
    | nil => rfl
    | cons u us => simp only [List.zip_cons_cons, List.foldl_cons]; rw [ih]; simp

/-- A round. -/
theorem round_sound {ord : Nat → Array Oper → Bool} {k : Nat} (HX : ExecAt P C ord k) {o : Nat} {vs : List AV} {h : Heap} {res : CRes} {h' : Heap} (hc : callV C (k + 1) (.yld o) vs h = some (res, h')) : ValOk P C ord (.yld o) vs h res h' := by
  intro s w b us rec hb hrec R G HV
  simp only [callV, Option.bind_eq_bind] at hc
  obtain ⟨r, hr, hc⟩ := Option.bind_eq_some_iff.1 hc
  split at hc
  · cases hc
  rename_i hcond
  simp only [Bool.or_eq_true, not_or, Bool.not_eq_true] at hcond
  obtain ⟨c1, c2⟩ := hcond
  have hst := is_ready c1
  have hlen : r.ps.length = vs.length := by simpa using c2
  obtain ⟨⟨o1, e1, h1⟩, hx1, hc⟩ := Option.bind_eq_some_iff.1 hc
  obtain ⟨rec', hrec', q1, q2, q3⟩ := loop_obj R hb hr
  rw [hrec] at hrec'
  injection hrec' with hrec'; injection hrec' with hrec'; subst hrec'
  have hpl : rec.params.size = r.ps.length := by rw [← q1.2.2.1]; simp
  refine ⟨by rw [← HV.1, ← hlen, hpl], ?_⟩
  rw [G.good] at q3
  obtain ⟨g1, g2, g3⟩ := q3
  have hps : ∀ t ∈ r.ps, t < rec.tmps.size := fun t ht => by simpa using List.all_eq_true.1 g1 t ht
  have A : Around s h (some b) := ⟨o, loopAt_is hr, hb⟩
  refine roundIn_of_wpIn (F := Fr none) (n := 0) trivial ?_
  rw [zip_fold, q1.2.2.1]
  have henv := Env.puts_rel hps HV q2
  have hw1 := HX r.f rec.tmps.size r.assign _ h o1 e1 h1 g2 hx1 (some b) 0 s w { tmps := (r.ps.zip us).foldl (fun tmps (t, a) => tmps.setIfInBounds t a) rec.tmps, defers := [] } (puts_size _ _ _) ⟨Nat.zero_le _, trivial⟩ A R G henv
  rw [q1.2.2.2.1]
  refine wpIn_mono hw1 fun ex a1 w1 hq => ?_
  cases o1 <;> simp only [reduceCtorEq] at hc
  obtain ⟨r1, hr1, hc⟩ := Option.bind_eq_some_iff.1 hc
  split at hc
  · cases hc
  rename_i c3
  have hst1 := is_ready (by simpa using c3)
  obtain ⟨⟨o2, e2, h2⟩, hx2, hc⟩ := Option.bind_eq_some_iff.1 hc
  obtain ⟨r2, hr2, hc⟩ := Option.bind_eq_some_iff.1 hc
  obtain ⟨j, hj, hc⟩ := Option.bind_eq_some_iff.1 hc
  simp only [Option.some.injEq, Prod.mk.injEq] at hc
  obtain ⟨rfl, rfl⟩ := hc
  refine out_nrm hq fun s1 a1 w1 E1 R1 hN1 hD1 H1 => ?_
  have hyl : VR s h w (.yld o) (.func (.yield b) #[] #[]) := .yld _ _ (loopAt_is hr) hb
  cases hyl.ext R.apart E1 with
  | yld _ _ y1 y2 =>
  obtain ⟨rec1, hrec1, p1, p2, p3⟩ := loop_obj R1 y2 hr1
  refine ⟨_, run_beginRound hrec1 (by rw [p1.1]; exact hst1), ?_⟩
  obtain ⟨E2, R2⟩ := loop_write R1 y2 hr1 hrec1 .busy r1.pend
  have ew : w1.putObj b (.loop { rec1 with state := .busy }) = w1.putObj b (.loop { rec1 with state := .busy, pending := r1.pend }) := by rw [← p1.2.1]
  rw [ew, q1.2.2.2.2]
  have E12 := E1.trans E2
  have hw2 := HX r.f rec.tmps.size r.body e1 _ o2 e2 h2 g3 hx2 (some b) 0 s1 _ a1 hN1 (hD1.ext0 E2.toExt0) ((A.ext0 E1.toExt0).ext0 E2.toExt0) R2 (G.ext R.apart E12) (H1.ext R1.apart E2)
  refine wpIn_mono hw2 fun ex2 a2 w2 hq2 => ?_
  obtain ⟨s2, E3, R3, hN3, hD3, hq3⟩ := hq2
  cases hyl.ext R.apart (E12.trans E3) with
  | yld _ _ z1 z2 =>
  obtain ⟨rec2, hrec2, t1, t2, t3⟩ := loop_obj R3 z2 hr2
  obtain ⟨E4, R4⟩ := loop_write R3 z2 hr2 hrec2 (if j.isNone then .ready else .done) j
  have fin : EndOk s h w (.ret (.bool j.isNone)) (h2.set o (.loop { r2 with st := if j.isNone then .ready else .done, pend := j })) (.returned (.bool j.isNone)) (w2.putObj b (.loop { rec2 with state := if j.isNone then .ready else .done, pending := j })) :=
    ⟨s2, E12.trans (E3.trans E4), R4, .bool _⟩
  cases o2 <;> simp only [jumpOf, Option.some.injEq, reduceCtorEq] at hj <;> subst hj <;> cases ex2 <;> first | exact hq3.elim | skip
  · exact ⟨_, _, run_endRound none hrec2, fin⟩
  · obtain ⟨rfl, _⟩ := hq3
    exact ⟨_, _, run_endRound _ hrec2, fin⟩
  · exact ⟨_, _, run_endRound _ hrec2, fin⟩

mutual
theorem plain_rel {s' : Sim} {h' : Heap} {w' : World} : ∀ (v : AV), v.plain = true → ∀ {u : Value}, VR s h w v u → VR s' h' w' v u := fun v hp u H => by
  cases v <;> simp only [AV.plain, Bool.false_eq_true] at hp <;> cases H
  · exact .bool _
  · exact .int _ _
  · exact .str _
  · exact .nilPtr
  · exact .nilMap
  · exact .nilFunc
  · exact .nilIface
  · rename_i cs vs hl hr
    exact .agg cs vs hl (plains_rel cs hp hr)
  · rename_i cs vs hl hr
    exact .tup cs vs hl (plains_rel cs hp hr)
theorem plains_rel {s' : Sim} {h' : Heap} {w' : World} : ∀ (cs : List AV), AV.plains cs = true → ∀ {f : Nat → Value}, (∀ (i : Nat) c, cs[i]? = some c → VR s h w c (f i)) → ∀ (i : Nat) c, cs[i]? = some c → VR s' h' w' c (f i)
  | [], _, f, _, i, c, hi => by simp at hi
  | v :: r, hp, f, H, i, c, hi => by
    simp only [AV.plains, Bool.and_eq_true] at hp
    cases i with
    | zero =>
      simp only [List.getElem?_cons_zero, Option.some.injEq] at hi
      subst hi
      exact plain_rel v hp.1 (H 0 v rfl)
    | succ i => exact plains_rel r hp.2 (f := fun i => f (i + 1)) (fun i c hi => H (i + 1) c (by simpa using hi)) i c (by simpa using hi)
end

theorem rel_zero (R : Rel s h w) : Rel (s.cut 0) [] w where
  inj o o' b h1 h2 := by simp [Sim.cut] at h1
  obj o b hb := by simp [Sim.cut] at hb
  apart o b hb := by simp [Sim.cut] at hb
  imm b hI := by
    rcases hI with hI | ⟨o, _, hb⟩
    · exact R.imm b hI
    · exact R.lt hb

theorem freeze_zero (R : Rel s h w) {d : Nat} {v v' : AV} {u : Value} (hf : freezeV h 0 d v = some v') (hv : VR s h w v u) : VR (s.cut 0) [] w v' u := by
  have := freeze_rel R (Nat.zero_le _) d (Nat.le_refl _) hf hv
  simpa using this

/-- What a function that was run by itself did: nothing of what was there has turned. -/
theorem ext_alone {s1 : Sim} {h1 : Heap} {w1 : World} (R : Rel s h w) (E : Ext (s.cut 0) [] w s1 h1 w1) : Ext s h w s h w1 ∧ Rel s h w1 := by
  have hfar : ∀ b, b < w.heap.size → w1.heap[b]? = w.heap[b]? := fun b hb => E.far b hb (fun o ho => by simp [Sim.cut] at ho)
  have E' : Ext s h w s h w1 :=
    { size := E.size, far := fun b hb _ => hfar b hb, shape := E.shape, imm := fun b hb => hb, gen := fun _ g hg => ⟨g, hg, Nat.le_refl _⟩, same := fun _ _ _ _ => ⟨fun _ h => h, rfl⟩, kind := fun _ h => h,
      own := fun o b hb => .inl ⟨o, hb⟩, os := E.os, tape := E.tape, output := E.output, kindL := fun _ h => h, good := rfl, old := fun o b _ hb => ⟨b, hb⟩, kept := fun _ _ _ => rfl }
  refine ⟨E', R.inj, fun o b hb => ?_, R.apart, fun b hI => Nat.lt_of_lt_of_le (R.imm b hI) E.size⟩
  obtain ⟨x, hx, hr⟩ := R.obj o b hb
  exact ⟨x, hx, hr.ext R.apart E' (hfar b (R.lt hb))⟩

theorem calls_at {ord : Nat → Array Oper → Bool} (K : Ok P C ord) (hord : ∀ f ops, ord f ops = true → ordOk C f ops = true) : ∀ k, CallsAt P C ord k := by
  intro k
  induction k with
  | zero =>
    refine ⟨fun k' hk f args h res h' hc => ?_, fun k' hk g vs h res h' hc => ?_⟩
    · obtain rfl : k' = 0 := by omega
      simp [callF] at hc
    · obtain rfl : k' = 0 := by omega
      simp [callV] at hc
  | succ k ih =>
    have HX := (exec_at K hord k ih).1 k (Nat.le_refl _)
    refine ⟨fun k' hk f args h res h' hc => ?_, fun k' hk g vs h res h' hc => ?_⟩
    · by_cases hk' : k' ≤ k
      · exact ih.fn k' hk' f args h res h' hc
      obtain rfl : k' = k + 1 := by omega
      simp only [callF, Option.bind_eq_bind] at hc
      split at hc
      · rename_i p hp
        obtain ⟨h1, h2, h3⟩ := K.prim f p hp
        exact ⟨h1, fun s w vs R G H => h3 args h res h' hc s w vs R G.g H⟩
      · replace hc := Option.bind_eq_some_iff.1 hc
        obtain ⟨fi, hfi, hc⟩ := hc
        obtain ⟨fn, f1, f2, f3, f4, f5, f6⟩ := K.fn f fi hfi
        split at hc
        · cases hc
        rename_i hlen
        have hlen : args.length = fi.params := by simpa using hlen
        split at hc
        · replace hc := Option.bind_eq_some_iff.1 hc
          obtain ⟨avs, has, hc⟩ := hc
          replace hc := Option.bind_eq_some_iff.1 hc
          obtain ⟨⟨out, e1, h1⟩, hx, hc⟩ := hc
          refine ⟨⟨fn, fi.body, f1, f2, f4⟩, fun s w vs R G H => ?_⟩
          have hal : avs.length = args.length := (mapO_get has).1
          have hN : (vs.toArray ++ Array.replicate (fn.ntmps - vs.toArray.size) undef).size = fn.ntmps := by
            have := H.1
            simp; omega
          have H0 : VRs (s.cut 0) [] w avs vs := ⟨by rw [hal]; exact H.1, fun i c hi => by
            have hlt : i < args.length := by rw [← hal]; exact (List.getElem?_eq_some_iff.1 hi).1
            obtain ⟨a', k1, k2⟩ := (mapO_get has).2 i args[i] (List.getElem?_eq_getElem hlt)
            rw [hi] at k1
            injection k1 with k1; subst k1
            obtain ⟨u, hu1, hu2⟩ := H.2 i args[i] (List.getElem?_eq_getElem hlt)
            exact ⟨u, hu1, freeze_zero R k2 hu2⟩⟩
          have R0 := rel_zero R
          have G0 : GG C ord (s.cut 0) [] w := ⟨fun g v hg => freeze_zero R (K.close g v hg h) (G.g g v hg), G.good⟩
          have hw := HX f fn.ntmps fi.body _ [] out e1 h1 f6 hx none w.heap.size (s.cut 0) w { tmps := vs.toArray ++ Array.replicate (fn.ntmps - vs.toArray.size) undef, defers := [] } hN ⟨Nat.le_refl _, trivial⟩ trivial R0 G0 (envRel_args H0 fn.ntmps)
          refine callsIn_fr.1 (callsIn_of_wp_marks (F := Fr none) (n := 0) f1 f2 trivial (wpIn_mono hw fun ex a1 w1 hq => ?_))
          obtain ⟨s1, k1, k2, k3, k4, k5⟩ := hq
          have fin : EnvRel s1 h1 w1 e1 a1.tmps → ((resultsA C h1 e1 fi.results).bind fun rs => if (packA rs).plain then some (CRes.ret (packA rs), h) else none) = some (res, h') → LeavesInM (Fr none) 0 P fn a1.tmps (EndOk s h w res h') a1.defers .returning w1 := by
            intro H1 hl
            replace hl := Option.bind_eq_some_iff.1 hl
            obtain ⟨rs, hrs, hl⟩ := hl
            by_cases hpl : (packA rs).plain = true
            case neg => rw [if_neg hpl] at hl; cases hl
            rw [if_pos hpl] at hl
            simp only [Option.some.injEq, Prod.mk.injEq] at hl
            obtain ⟨rfl, rfl⟩ := hl
            rw [← f3] at hrs
            refine leaves_marks (by simp) k4.2 fun w2 hp => ?_
            have k1' := k1.patch hp
            obtain ⟨u, hu1, hu2⟩ := results_rel K (k2.patch hp) (G0.ext R0.apart k1').g (a := a1) (fun t => (H1 t).patch hp) hrs
            obtain ⟨E', R'⟩ := ext_alone R k1'
            exact ⟨u, hu1, s, E', R', plain_rel _ hpl hu2⟩
          cases out with
          | nrm =>
            simp only at hc
            cases ex <;> first | exact k5.elim | exact fin k5 hc
          | ret =>
            simp only at hc
            cases ex <;> first | exact k5.elim | exact fin k5 hc
          | pan v => simp at hc
          | exit id => simp at hc
        replace hc := Option.bind_eq_some_iff.1 hc
        obtain ⟨⟨out, e1, h1⟩, hx, hc⟩ := hc
        refine ⟨⟨fn, fi.body, f1, f2, f4⟩, fun s w vs R G H => ?_⟩
        have hN : (vs.toArray ++ Array.replicate (fn.ntmps - vs.toArray.size) undef).size = fn.ntmps := by
          have := H.1
          simp; omega
        have hw := HX f fn.ntmps fi.body _ h out e1 h1 f6 hx none w.heap.size s w { tmps := vs.toArray ++ Array.replicate (fn.ntmps - vs.toArray.size) undef, defers := [] } hN ⟨Nat.le_refl _, trivial⟩ trivial R G (envRel_args H fn.ntmps)
        refine callsIn_fr.1 (callsIn_of_wp_marks (F := Fr none) (n := 0) f1 f2 trivial (wpIn_mono hw fun ex a1 w1 hq => ?_))
        obtain ⟨s1, k1, k2, k3, k4, k5⟩ := hq
        have fin : EnvRel s1 h1 w1 e1 a1.tmps → (resultsA C h1 e1 fi.results).bind (fun vs => leaveA C f h (packA vs) h1) = some (res, h') → LeavesInM (Fr none) 0 P fn a1.tmps (EndOk s h w res h') a1.defers .returning w1 := by
          intro H1 hl
          replace hl := Option.bind_eq_some_iff.1 hl
          obtain ⟨rs, hrs, hl⟩ := hl
          rw [← f3] at hrs
          refine leaves_marks (by simp) k4.2 fun w2 hp => ?_
          have k1' := k1.patch hp
          obtain ⟨u, hu1, hu2⟩ := results_rel K (k2.patch hp) (G.ext R.apart k1').g (a := a1) (fun t => (H1 t).patch hp) hrs
          exact ⟨u, hu1, leave_ok hl R k1' (k2.patch hp) hu2⟩
        cases out with
        | nrm =>
          simp only at hc
          cases ex <;> first | exact k5.elim | exact fin k5 hc
        | ret =>
          simp only at hc
          cases ex <;> first | exact k5.elim | exact fin k5 hc
        | pan v =>
          simp only [Option.some.injEq, Prod.mk.injEq] at hc
          obtain ⟨rfl, rfl⟩ := hc
          cases ex <;> first | exact k5.elim | skip
          obtain ⟨u, rfl, hu⟩ := k5
          exact leaves_marks (by simp) k4.2 fun w2 hp => ⟨s1, k1.patch hp, k2.patch hp, u, rfl, hu.patch hp⟩
        | exit id => simp at hc
    · by_cases hk' : k' ≤ k
      · exact ih.val k' hk' g vs h res h' hc
      obtain rfl : k' = k + 1 := by omega
      cases g with
      | clo g caps =>
        simp only [callV] at hc
        exact ih.fn k (Nat.le_refl _) _ _ _ _ _ hc
      | yld o => exact round_sound HX hc
      | _ => simp [callV] at hc

/-- What the interpreter answers, the call comes to. -/
theorem call_sound {ord : Nat → Array Oper → Bool} (K : Ok P C ord) (hord : ∀ f ops, ord f ops = true → ordOk C f ops = true) {f : Nat} {args : List AV} {res : CRes} {h' : Heap} (hc : call C f args h = some (res, h'))
    {vs : List Value} (R : Rel s h w) (G : GG C ord s h w) (H : VRs s h w args vs) : Calls P f vs.toArray w (EndOk s h w res h') := by
  obtain ⟨k, hk⟩ := (call_iff C).1 hc
  exact ((calls_at K hord k).fn k (Nat.le_refl _) f args h res h' hk).2 s w vs R G H
end
end Go.Rv

/-
  The interpreter's tables, taken from the program itself: nothing to be laid by hand.
-/
set_option linter.unusedSimpArgs false
set_option linter.unusedVariables false
namespace Go.Rv

def tdOf : TypeDesc → Option TD
  | .bool => some .bool
  | .int k => some (.int k)
  | .string => some .str
  | .pointer _ => some .ptr
  | .func .. => some .func
  | .interface _ => some .iface
  | .slice e => some (.slice e)
  | .array n e => some (.array n e)
  | .map k e => some (.map k e)
  | .struct fs => some (.struct (fs.toList.map fun f => (f.type, f.offset)))
  | _ => none

theorem tdOf_ok {d : TypeDesc} {t : TD} (h : tdOf d = some t) : TD.ok d t := by
  cases d <;> simp only [tdOf, Option.some.injEq, reduceCtorEq] at h <;> subst h <;> simp [TD.ok]

def fieldsOk (P : Program) : TypeDesc → Bool
  | .struct fs => fs.all fun f => (P.info? f.type).isSome
  | _ => true

def tiOf (P : Program) (t : Nat) : Option TI :=
  match P.info? t, P.underlying t with
  | some i, some d => match i.zero, tdOf d with
    | some z, some td => match mapO ofValue z.cells.toList with
      | some zs => if decide (i.bytes ≤ 4096) && zs.length == i.size && fieldsOk P d && wholeB td.isAgg z then some ⟨td, i.size, i.bytes, zs⟩ else none
      | none => none
    | _, _ => none
  | _, _ => none

theorem tiOf_ok {P : Program} {t : Nat} {ti : TI} (h : tiOf P t = some ti) : TyOk P t ti := by
  unfold tiOf at h
  split at h
  · rename_i i d hi hd
    split at h
    · rename_i z td hz htd
      split at h
      · rename_i zs hzs
        split at h
        · rename_i hb
          simp only [Bool.and_eq_true, decide_eq_true_eq, beq_iff_eq] at hb
          obtain ⟨⟨⟨b1, b2⟩, b3⟩, b4⟩ := hb
          simp only [Option.some.injEq] at h
          subst h
          obtain ⟨m1, m2⟩ := mapO_get hzs
          refine ⟨⟨i, z, hi, rfl, rfl, hz, by simpa using m1.symm, fun j c hj => ?_⟩, ⟨d, hd, tdOf_ok htd⟩, b1, b2, fun fs hfs f hf => ?_, fun i' z' hi' hz' => ?_⟩
          · have hlt : j < z.cells.toList.length := by rw [← m1]; exact (List.getElem?_eq_some_iff.1 hj).1
            obtain ⟨b, k1, k2⟩ := m2 j _ (List.getElem?_eq_getElem hlt)
            rw [hj] at k1
            injection k1 with k1; subst k1
            rw [← k2]
            congr 1
            rw [Array.getD_eq_getD_getElem?]
            simp at hlt
            simp [hlt]
          · rw [hd] at hfs
            injection hfs with hfs; subst hfs
            have := Array.all_eq_true_iff_forall_mem.1 b3 f hf
            exact Option.isSome_iff_exists.1 this
          · rw [hi] at hi'; injection hi' with hi'; subst hi'
            rw [hz] at hz'; injection hz' with hz'; subst hz'
            exact b4
        · cases h
      · cases h
    · cases h
  · cases h

def okB (C : Cfg) (f : Nat) (fn : Func) (b : Code) : Bool := !(fn.name == "runtime.NumGoroutine") && decide (fn.params.size + fn.nfree ≤ fn.ntmps) && codeOk (ordOk C f) fn.ntmps b

def fnsOf (P : Program) (C : Cfg) (f : Nat) : Option FI :=
  match P.funcs[f]? with
  | some fn => match fn.body with
    | some b => if okB C f fn b then some ⟨fn.params.size + fn.nfree, fn.results.toList, b⟩ else none
    | none => none
  | none => none

/-- What the interpreter is told beside the program. -/
structure RvTold where
  glob : Nat → Option AV := fun _ => none
  pure : Nat → Bool := fun _ => true
  imm : Nat → Nat → Bool := fun _ _ => false
  live : Nat → Nat → Option (List Nat) := fun _ _ => none
  prim : Nat → Option (List AV → Heap → Option (CRes × Heap)) := fun _ => none
  quiet : Nat → Nat → Bool := fun _ _ => false
  loose : Nat → Nat → List Nat := fun _ _ => []
  alone : Nat → Bool := fun _ => false

def RvTold.bare (T : RvTold) (P : Program) : Cfg := { ty := tiOf P, fn := fun _ => none, glob := T.glob, pure := T.pure, imm := T.imm, live := T.live, prim := T.prim, quiet := T.quiet, loose := T.loose, alone := T.alone }
def RvTold.cfg (T : RvTold) (P : Program) : Cfg := { T.bare P with fn := fnsOf P (T.bare P) }

theorem fn_of {T : RvTold} {P : Program} {f : Nat} {fn : Func} {b : Code} (h1 : P.funcs[f]? = some fn) (h2 : fn.body = some b) (h3 : okB (T.bare P) f fn b = true) : (T.cfg P).fn f = some ⟨fn.params.size + fn.nfree, fn.results.toList, b⟩ := by
  show fnsOf P (T.bare P) f = _
  unfold fnsOf
  rw [h1]
  simp only [h2, h3, if_true]

theorem pairs_bare (T : RvTold) (P : Program) (f : Nat) (ops : Array Oper) (b : Array Nat) : ∀ l, pairsOk (T.bare P) f ops b l = pairsOk (T.cfg P) f ops b l
  | [] => rfl
  | i :: r => by
    simp only [pairsOk, pairs_bare T P f ops b r]
    rfl
theorem ord_bare (T : RvTold) (P : Program) : ordOk (T.bare P) = ordOk (T.cfg P) := by
  funext f ops
  simp only [ordOk, pairs_bare]

theorem RvTold.ok {T : RvTold} {P : Program} (hg : GlobOk (T.cfg P)) (hcl : ∀ g v, T.glob g = some v → ∀ h, freezeV h 0 40 v = some v) (hp : PrimOk P (T.cfg P)) (hm : P.follows .mixedOrders = true) : Ok P (T.cfg P) (ordOk (T.cfg P)) where
  ty t ti h := tiOf_ok h
  glob := hg
  close := hcl
  prim := hp
  fn f fi h := by
    change fnsOf P (T.bare P) f = some fi at h
    unfold fnsOf at h
    split at h
    · rename_i fn hfn
      split at h
      · rename_i b hb
        split at h
        · rename_i hok
          simp only [okB, Bool.and_eq_true, Bool.not_eq_true', decide_eq_true_eq] at hok
          obtain ⟨⟨k1, k2⟩, k3⟩ := hok
          simp only [Option.some.injEq] at h
          subst h
          exact ⟨fn, hfn, hb, rfl, k1, k2, by rw [← ord_bare]; exact k3⟩
        · cases h
      · cases h
    · cases h
  mixed := hm

/-- Which code rounds have is of no weight to values. -/
theorem VR.regood {s : Sim} {h : Heap} {w : World} (g : Nat → Nat → List Nat → Code → Code → Prop) {x : AV} {v : Value} (H : VR s h w x v) : VR { s with good := g } h w x v := by
  induction H with
  | bool b => exact .bool b
  | int k n => exact .int k n
  | str l => exact .str l
  | nilPtr => exact .nilPtr
  | nilMap => exact .nilMap
  | nilFunc => exact .nilFunc
  | nilIface => exact .nilIface
  | junk v => exact .junk v
  | ptr o off g b hg hb => exact .ptr o off g b hg hb
  | ptrOld o off g g1 a hg hlt => exact .ptrOld o off g g1 a hg hlt
  | ref cs b off f hI hc _ ih => exact .ref cs b off f hI hc ih
  | lstNil z => exact .lstNil z
  | lstEmpty z A => exact .lstEmpty z A
  | lst xs z r b off c f hI hr hle hz hc _ ih => exact .lst xs z r b off c f hI hr hle hz hc ih
  | msl o off len z g cap b c el n off' hoff hg hb hle hcap hnone hsh hn => exact .msl o off len z g cap b c el n off' hoff hg hb hle hcap hnone hsh hn
  | mslOld o off len z g cap g1 a n c hg hlt => exact .mslOld o off len z g cap g1 a n c hg hlt
  | clo f cs vs hl _ ih => exact .clo f cs vs hl ih
  | map o b hg hb => exact .map o b hg hb
  | yld o b hg hb => exact .yld o b hg hb
  | iface t x v hx ih => exact .iface t x v ih
  | agg cs vs hl _ ih => exact .agg cs vs hl ih
  | tup cs vs hl _ ih => exact .tup cs vs hl ih
theorem VRs.regood {s : Sim} {h : Heap} {w : World} (g : Nat → Nat → List Nat → Code → Code → Prop) {xs : List AV} {vs : List Value} (H : VRs s h w xs vs) : VRs { s with good := g } h w xs vs :=
  ⟨H.1, fun i c hi => let ⟨v, h1, h2⟩ := H.2 i c hi; ⟨v, h1, h2.regood g⟩⟩

theorem RvTold.sound {T : RvTold} {P : Program} (hg : GlobOk (T.cfg P)) (hcl : ∀ g v, T.glob g = some v → ∀ h, freezeV h 0 40 v = some v) (hp : PrimOk P (T.cfg P)) (hm : P.follows .mixedOrders = true) {s : Sim} {h : Heap} {w : World} {f : Nat} {args : List AV} {res : CRes} {h' : Heap} (hc : call (T.cfg P) f args h = some (res, h'))
    {vs : List Value} (R : Rel s h w) (G : GG (T.cfg P) (ordOk (T.cfg P)) s h w) (H : VRs s h w args vs) : Calls P f vs.toArray w (EndOk s h w res h') :=
  call_sound (RvTold.ok hg hcl hp hm) (fun _ _ h => h) hc R G H
end Go.Rv

/-
  Lemmas to reckon the interpreter's answers by 'simp'.
-/
set_option linter.unusedSimpArgs false
set_option linter.unusedVariables false
namespace Go.Rv

/-- What follows is looked at only when what comes first is known. -/
theorem bind_left {α β : Type} {x y : Option α} (h : x = y) (f : α → Option β) : x.bind f = y.bind f := by rw [h]

section
variable (h X : Heap) (k g : Nat)
theorem obj_app : Heap.obj (h ++ X) (h.length + k) g = Heap.obj X k g := by
  unfold Heap.obj
  rw [List.getElem?_append_right (by omega), Nat.add_sub_cancel_left]
theorem obj_app0 : Heap.obj (h ++ X) h.length g = Heap.obj X 0 g := obj_app h X 0 g
theorem live_app : Heap.live (h ++ X) (h.length + k) g = Heap.live X k g := by unfold Heap.live; rw [obj_app]
theorem live_app0 : Heap.live (h ++ X) h.length g = Heap.live X 0 g := live_app h X 0 g
theorem set_app (y : AObj) : (h ++ X).set (h.length + k) y = h ++ X.set k y := by
  rw [List.set_append_right _ _ (by omega), Nat.add_sub_cancel_left]
theorem set_app0 (y : AObj) : (h ++ X).set h.length y = h ++ X.set 0 y := set_app h X 0 y
theorem obj_zero (cs : List AV) (r : Heap) : Heap.obj (.cells cs g :: r) 0 g = some cs := by simp [Heap.obj]
theorem obj_succ (x : AObj) (r : Heap) : Heap.obj (x :: r) (k + 1) g = Heap.obj r k g := by simp [Heap.obj]
theorem live_zero (cs : List AV) (r : Heap) : Heap.live (.cells cs g :: r) 0 g = true := by simp [Heap.live, obj_zero]
theorem live_succ (x : AObj) (r : Heap) : Heap.live (x :: r) (k + 1) g = Heap.live r k g := by simp [Heap.live, obj_succ]
end

section
variable {C : Cfg} (f : Nat) (h X : Heap) (hp : C.pure f = true)
include hp
theorem leave_app {v v' : AV} (hv : freezeV (h ++ X) h.length 40 v = some v') : leaveA C f h v (h ++ X) = some (.ret v', h) := by
  unfold leaveA
  rw [if_pos hp, if_pos (by simp), hv]
  rfl
theorem leave_bool (b : Bool) : leaveA C f h (.bool b) (h ++ X) = some (.ret (.bool b), h) := leave_app f h X hp rfl
theorem leave_int (k : IntKind) (n : Int) : leaveA C f h (.int k n) (h ++ X) = some (.ret (.int k n), h) := leave_app f h X hp rfl
theorem leave_str (s : List UInt8) : leaveA C f h (.str s) (h ++ X) = some (.ret (.str s), h) := leave_app f h X hp rfl
end

/-- Values with nothing in them that could change. -/
def AV.dead : AV → Bool
  | .bool _ | .int .. | .str _ | .nilPtr | .nilMap | .nilFunc | .nilIface | .junk => true
  | _ => false

theorem freeze_dead (h : Heap) (n d : Nat) {v : AV} (hv : v.dead = true) : freezeV h n (d + 1) v = some v := by
  cases v <;> simp only [AV.dead, Bool.false_eq_true] at hv <;> rfl
theorem freeze_deads (h : Heap) (n d : Nat) : ∀ {l : List AV}, l.all AV.dead = true → mapO (freezeV h n (d + 1)) l = some l
  | [], _ => rfl
  | v :: r, hv => by
    simp only [List.all_cons, Bool.and_eq_true] at hv
    simp only [mapO, freeze_dead h n d hv.1, freeze_deads h n d hv.2]
    rfl
theorem freeze_agg (h : Heap) (n : Nat) {l : List AV} (hl : l.all AV.dead = true) : freezeV h n 40 (.agg l) = some (.agg l) := by
  show (mapO (freezeV h n 39) l).map AV.agg = _
  rw [freeze_deads h n 38 hl]; rfl
theorem leave_agg {C : Cfg} (f : Nat) (h X : Heap) (hp : C.pure f = true) {l : List AV} (hl : l.all AV.dead = true) : leaveA C f h (.agg l) (h ++ X) = some (.ret (.agg l), h) := leave_app f h X hp (freeze_agg _ _ hl)

/-- Nothing was made. -/
theorem leave_same {C : Cfg} (f : Nat) (h : Heap) (v : AV) : leaveA C f h v h = leaveA C f h v (h ++ []) := by rw [List.append_nil]

def known : AV → Option AV
  | .junk => none
  | v => some v
theorem evalA_tmp {C : Cfg} (e : Env) (t : Nat) : evalA C e (.tmp t) = known (e.get t) := rfl
theorem evalA_int {C : Cfg} (e : Env) (k : IntKind) (n : Int) : evalA C e (.const (.int k n)) = some (.int k n) := rfl
theorem evalA_bool {C : Cfg} (e : Env) (b : Bool) : evalA C e (.const (.bool b)) = some (.bool b) := rfl
theorem evalA_func {C : Cfg} (e : Env) (g : Nat) : evalA C e (.func g) = some (.clo g []) := rfl
theorem known_int (k : IntKind) (n : Int) : known (.int k n) = some (.int k n) := rfl
theorem known_bool (b : Bool) : known (.bool b) = some (.bool b) := rfl
theorem known_str (b : List UInt8) : known (.str b) = some (.str b) := rfl
theorem known_ptr (o off g : Nat) : known (.ptr o off g) = some (.ptr o off g) := rfl
theorem known_ref (cs : List AV) : known (.ref cs) = some (.ref cs) := rfl
theorem known_agg (cs : List AV) : known (.agg cs) = some (.agg cs) := rfl
theorem known_tup (cs : List AV) : known (.tup cs) = some (.tup cs) := rfl
theorem known_lst (cs : List AV) (z : Nat) (r : Room) : known (.lst cs z r) = some (.lst cs z r) := rfl
theorem known_msl (o off len z g : Nat) (c : Option Nat) : known (.msl o off len z g c) = some (.msl o off len z g c) := rfl
theorem known_clo (g : Nat) (cs : List AV) : known (.clo g cs) = some (.clo g cs) := rfl
theorem cells_int (k : IntKind) (n : Int) : AV.cells (.int k n) = [.int k n] := rfl
theorem cells_bool (b : Bool) : AV.cells (.bool b) = [.bool b] := rfl
theorem cells_str (b : List UInt8) : AV.cells (.str b) = [.str b] := rfl
theorem cells_ptr (o off g : Nat) : AV.cells (.ptr o off g) = [.ptr o off g] := rfl
theorem cells_ref (cs : List AV) : AV.cells (.ref cs) = [.ref cs] := rfl
theorem cells_agg (cs : List AV) : AV.cells (.agg cs) = cs := rfl
theorem cells_lst (cs : List AV) (z : Nat) (r : Room) : AV.cells (.lst cs z r) = [.lst cs z r] := rfl
theorem leaf_int (k : IntKind) (n : Int) : AV.leaf (.int k n) = true := rfl
theorem leaf_bool (b : Bool) : AV.leaf (.bool b) = true := rfl
theorem leaf_str (b : List UInt8) : AV.leaf (.str b) = true := rfl
theorem leaf_lst (cs : List AV) (z : Nat) (r : Room) : AV.leaf (.lst cs z r) = true := rfl
theorem one_int (k : IntKind) (n : Int) : one (.int k n) = .int k n := rfl
theorem one_bool (b : Bool) : one (.bool b) = .bool b := rfl
theorem one_str (b : List UInt8) : one (.str b) = .str b := rfl
theorem isRef_ref (cs : List AV) : AV.isRef (.ref cs) = true := rfl
theorem putAt_some (e : Env) (d : Nat) (v : AV) : e.putAt (some d) v = e.put d v := rfl
theorem putAt_none (e : Env) (v : AV) : e.putAt none v = e := rfl
theorem binA_int {C : Cfg} (h : Heap) (op : BinOp) (t : Nat) (k : IntKind) (a b : Int) : binA C h op t (.int k a) (.int k b) = arithA op k a b := by simp [binA]
def pickA (c : AV) (x y : Option AV) : Option AV := match c with
  | .bool true => x
  | .bool false => y
  | _ => none
theorem pick_true (x y : Option AV) : pickA (.bool true) x y = x := rfl
theorem pick_false (x y : Option AV) : pickA (.bool false) x y = y := rfl

noncomputable def partsA (C : Cfg) (e : Env) (l : List (Nat × Operand)) : Option (List (Nat × AV)) := mapO (fun (p : Nat × Operand) => (evalA C e p.2).map (p.1, ·)) l
theorem parts_eq (C : Cfg) (e : Env) (l : List (Nat × Operand)) : mapO (fun (p : Nat × Operand) => (evalA C e p.2).map (p.1, ·)) l = partsA C e l := rfl
theorem parts_nil (C : Cfg) (e : Env) : partsA C e [] = some [] := rfl
theorem parts_cons (C : Cfg) (e : Env) (i : Nat) (x : Operand) (r : List (Nat × Operand)) : partsA C e ((i, x) :: r) = (evalA C e x).bind fun v => (partsA C e r).bind fun l => some ((i, v) :: l) := by
  unfold partsA
  simp only [mapO, Option.bind_eq_bind]
  cases evalA C e x <;> rfl

section
variable {C : Cfg} [Tight C] {f : Nat} {os : Array Oper} {d : Option Nat} {ty : TypeId} {ps : String} {af : Array Edge} {r : List Oper} {e : Env} {h : Heap}
theorem ops_plain {o : Oper} (hw : o.guard = none) (hc : callee o = none) : ops C f os (o :: r) e h = (opA C f e h o).bind fun x => ops C f os r (e.putAt o.dst x.1) x.2 := by
  rw [ops_cons']
  have : wantA os e o = some true := by unfold wantA; rw [hw]
  rw [this, hc]
  rfl
theorem ops_move (x : Operand) : ops C f os (⟨d, .move x, ty, ps, af, none⟩ :: r) e h = (evalA C e x).bind fun v => ops C f os r (e.putAt d v) h := by
  rw [ops_plain rfl rfl]
  simp only [opA, Option.bind_eq_bind, Option.bind_assoc, Option.bind_some]
theorem ops_assign (x : Operand) : ops C f os (⟨d, .assign x, ty, ps, af, none⟩ :: r) e h = (evalA C e x).bind fun v => ops C f os r (e.putAt d v) h := by
  rw [ops_plain rfl rfl]
  simp only [opA, Option.bind_eq_bind, Option.bind_assoc, Option.bind_some]
theorem ops_load (t : TypeId) (x : Operand) : ops C f os (⟨d, .load t x, ty, ps, af, none⟩ :: r) e h = (evalA C e x).bind fun x => if (d.map (C.quiet f)).getD false && !x.isRef then none else (loadA C h t x).bind fun v => ops C f os r (e.putAt d v) h := by
  rw [ops_plain rfl rfl]
  simp only [opA, Option.bind_eq_bind, Option.bind_assoc, Option.bind_some]
  cases evalA C e x <;> simp only [Option.bind_none, Option.bind_some]
  split
  · rfl
  · simp only [Option.bind_assoc, Option.bind_some]
theorem ops_store (t : TypeId) (x y : Operand) : ops C f os (⟨d, .store t x y, ty, ps, af, none⟩ :: r) e h = (evalA C e x).bind fun x => (evalA C e y).bind fun y => (storeA C h t x y).bind fun h => ops C f os r (e.putAt d (.tup [])) h := by
  rw [ops_plain rfl rfl]
  simp only [opA, Option.bind_eq_bind, Option.bind_assoc, Option.bind_some]
theorem ops_bin (b : BinOp) (t t' : TypeId) (x y : Operand) : ops C f os (⟨d, .binOp b t x y t', ty, ps, af, none⟩ :: r) e h = (evalA C e x).bind fun x => (evalA C e y).bind fun y => (binA C h b t x y).bind fun v => ops C f os r (e.putAt d v) h := by
  rw [ops_plain rfl rfl]
  simp only [opA, Option.bind_eq_bind, Option.bind_assoc, Option.bind_some]
theorem ops_un (b : UnOp) (t : TypeId) (x : Operand) : ops C f os (⟨d, .unOp b t x, ty, ps, af, none⟩ :: r) e h = (evalA C e x).bind fun x => (unA b x).bind fun v => ops C f os r (e.putAt d v) h := by
  rw [ops_plain rfl rfl]
  simp only [opA, Option.bind_eq_bind, Option.bind_assoc, Option.bind_some]
theorem ops_conv (a b : Nat) (x : Operand) : ops C f os (⟨d, .convert a b x, ty, ps, af, none⟩ :: r) e h = (evalA C e x).bind fun v => (convH C h a b v).bind fun z => ops C f os r (e.putAt d z) h := by
  rw [ops_plain rfl rfl]
  simp only [opA, Option.bind_eq_bind, Option.bind_assoc, Option.bind_some]
theorem ops_fieldAddr (t : TypeId) (x : Operand) (k : Nat) : ops C f os (⟨d, .fieldAddr t x k, ty, ps, af, none⟩ :: r) e h = (evalA C e x).bind fun x => (fieldAddrA C h t x k).bind fun v => ops C f os r (e.putAt d v) h := by
  rw [ops_plain rfl rfl]
  simp only [opA, Option.bind_eq_bind, Option.bind_assoc, Option.bind_some]
theorem ops_field (t : TypeId) (x : Operand) (k : Nat) : ops C f os (⟨d, .field t x k, ty, ps, af, none⟩ :: r) e h = (evalA C e x).bind fun x => (fieldA C t x k).bind fun v => ops C f os r (e.putAt d v) h := by
  rw [ops_plain rfl rfl]
  simp only [opA, Option.bind_eq_bind, Option.bind_assoc, Option.bind_some]
theorem ops_indexAddr (t : TypeId) (x y : Operand) : ops C f os (⟨d, .indexAddr t x y, ty, ps, af, none⟩ :: r) e h = (evalA C e x).bind fun x => (evalA C e y).bind fun y => (indexAddrA C h t x y).bind fun v => ops C f os r (e.putAt d v) h := by
  rw [ops_plain rfl rfl]
  simp only [opA, Option.bind_eq_bind, Option.bind_assoc, Option.bind_some]
theorem ops_index (t : TypeId) (x y : Operand) : ops C f os (⟨d, .index t x y, ty, ps, af, none⟩ :: r) e h = (evalA C e x).bind fun x => (evalA C e y).bind fun y => (indexA C t x y).bind fun v => ops C f os r (e.putAt d v) h := by
  rw [ops_plain rfl rfl]
  simp only [opA, Option.bind_eq_bind, Option.bind_assoc, Option.bind_some]
theorem ops_alloc (t : TypeId) : ops C f os (⟨d, .alloc t, ty, ps, af, none⟩ :: r) e h = (C.ty t).bind fun ti => if ti.zero.length == ti.size then ops C f os r (e.putAt d (.ptr h.length 0 0)) (h ++ [.cells ti.zero 0]) else none := by
  rw [ops_plain rfl rfl]
  simp only [opA, Option.bind_eq_bind, Option.bind_assoc, Option.bind_some]
  cases C.ty t <;> simp only [Option.bind_none, Option.bind_some]
  split <;> rfl
theorem ops_box (t : TypeId) (x : Operand) : ops C f os (⟨d, .box t x, ty, ps, af, none⟩ :: r) e h = (C.ty t).bind fun ti => (evalA C e x).bind fun v => if v.cells.length == ti.size then (if (d.map (C.imm f)).getD false then ops C f os r (e.putAt d (.ref v.cells)) h else ops C f os r (e.putAt d (.ptr h.length 0 0)) (h ++ [.cells v.cells 0])) else none := by
  rw [ops_plain rfl rfl]
  simp only [opA, Option.bind_eq_bind, Option.bind_assoc, Option.bind_some]
  cases C.ty t <;> simp only [Option.bind_none, Option.bind_some]
  cases evalA C e x <;> simp only [Option.bind_none, Option.bind_some]
  split
  · split <;> rfl
  · rfl
theorem ops_pick (c x y : Operand) : ops C f os (⟨d, .pick c x y, ty, ps, af, none⟩ :: r) e h = (evalA C e c).bind fun c => (pickA c (evalA C e x) (evalA C e y)).bind fun v => ops C f os r (e.putAt d v) h := by
  rw [ops_plain rfl rfl]
  simp only [opA, Option.bind_eq_bind, Option.bind_assoc, Option.bind_some]
  cases evalA C e c <;> simp only [Option.bind_none, Option.bind_some]
  rename_i v
  unfold pickA
  split <;> simp only [Option.bind_none, Option.bind_some, Option.bind_assoc]
theorem ops_build (t : TypeId) (qs : Array (Nat × Operand)) : ops C f os (⟨d, .build t qs, ty, ps, af, none⟩ :: r) e h = (partsA C e qs.toList).bind fun ps => (buildA C t ps).bind fun v => ops C f os r (e.putAt d v) h := by
  rw [ops_plain rfl rfl]
  simp only [opA, parts_eq, Option.bind_eq_bind, Option.bind_assoc, Option.bind_some]
theorem ops_buildSlice (t n : TypeId) (qs : Array (Nat × Operand)) : ops C f os (⟨d, .buildSlice t n qs, ty, ps, af, none⟩ :: r) e h = (partsA C e qs.toList).bind fun ps => (C.ty t).bind fun ti => match ti.td with
    | .slice el => (C.ty el).bind fun ti => if ti.zero.length != ti.size || decide (n * ti.size > 16777216) then none else
      (fillA (fun i => some (i * ti.size, ti.size)) (copies n ti.zero) ps).bind fun cs => if (d.map (C.imm f)).getD false then ops C f os r (e.putAt d (.lst (group n cs ti.size) ti.size (.exact n))) h else ops C f os r (e.putAt d (.msl h.length 0 n ti.size 0 (some n))) (h ++ [.cells cs 0])
    | _ => none := by
  rw [ops_plain rfl rfl]
  simp only [opA, parts_eq, Option.bind_eq_bind, Option.bind_assoc, Option.bind_some]
  cases partsA C e qs.toList <;> simp only [Option.bind_none, Option.bind_some]
  cases C.ty t <;> simp only [Option.bind_none, Option.bind_some]
  rename_i ti
  cases ti.td <;> simp only [Option.bind_none, Option.bind_some]
  rename_i el
  cases C.ty el <;> simp only [Option.bind_none, Option.bind_some]
  split
  · rfl
  · simp only [Option.bind_assoc]
    congr 1
    funext cs
    split <;> rfl
theorem ops_len (x : Operand) (t : TypeId) : ops C f os (⟨d, .call { callee := .builtin .len, args := #[x], argTypes := #[t] }, ty, ps, af, none⟩ :: r) e h = (evalA C e x).bind fun x => (C.ty t).bind fun ti => (lenA h ti.td x).bind fun n => ops C f os r (e.putAt d (.int .i64 n)) h := by
  rw [ops_plain rfl rfl]
  simp [opA, mapO, Option.bind_eq_bind, Option.bind_assoc, Option.bind_some]
theorem ops_slice (t : TypeId) (x : Operand) (lo hi : Option Operand) : ops C f os (⟨d, .slice t x lo hi none, ty, ps, af, none⟩ :: r) e h = (optA C e lo).bind fun lo => (optA C e hi).bind fun hi => (evalA C e x).bind fun x => (sliceA C h t x lo hi none).bind fun v => ops C f os r (e.putAt d v) h := by
  rw [ops_plain rfl rfl]
  simp [opA, Option.bind_eq_bind, Option.bind_assoc, Option.bind_some]
theorem ops_callf (g : Nat) (args : Array Operand) (ct : Array TypeId) : ops C f os (⟨d, .call { callee := .value (.func g), args := args, argTypes := ct }, ty, ps, af, none⟩ :: r) e h = (mapO (evalA C e) args.toList).bind fun vs => if (d.map (C.quiet f)).getD false && !C.pure g then none else (call C g vs h).bind fun x => match x.1 with
    | .ret v => ops C f os r (e.putAt d v) x.2
    | .pan v => some (.pan v, e, x.2) := by
  rw [ops_cons']
  simp only [wantA, callee, Option.bind_some, evalA, callv_clo, pureV, List.append_nil]
  rfl
theorem ops_guard (o : Op) (g : Nat × Bool) : ops C f os (⟨d, o, ty, ps, af, some g⟩ :: r) e h = (wantA os e ⟨d, o, ty, ps, af, some g⟩).bind fun w => match w with
    | false => ops C f os r (e.putAt d (.tup [])) h
    | true => ops C f os (⟨d, o, ty, ps, af, none⟩ :: r) e h := by
  rw [ops_cons']
  congr 1
  funext w
  cases w
  · rfl
  · simp only
    rw [ops_cons']
    rfl
def guardK {α : Type} (v : AV) (w : Bool) (x y : Option α) : Option α := match v with
  | .bool b => if b == w then x else y
  | .tup [] => y
  | _ => none
theorem guardK_left {α : Type} {a b : AV} (h : a = b) (w : Bool) (x y : Option α) : guardK a w x y = guardK b w x y := by rw [h]
theorem guardK_bool {α : Type} (b w : Bool) (x y : Option α) : guardK (.bool b) w x y = if b == w then x else y := rfl
theorem guardK_tt {α : Type} (x y : Option α) : guardK (.bool true) true x y = x := rfl
theorem guardK_tf {α : Type} (x y : Option α) : guardK (.bool true) false x y = y := rfl
theorem guardK_ft {α : Type} (x y : Option α) : guardK (.bool false) true x y = y := rfl
theorem guardK_ff {α : Type} (x y : Option α) : guardK (.bool false) false x y = x := rfl
theorem guardK_tup {α : Type} (w : Bool) (x y : Option α) : guardK (.tup []) w x y = y := rfl
/-- A guarded operation, where it is known which slot its guard is in. -/
theorem ops_guardT {j t : Nat} (g : (os[j]?).bind (·.dst) = some t) (o : Op) (w : Bool) : ops C f os (⟨d, o, ty, ps, af, some (j, w)⟩ :: r) e h = guardK (e.get t) w (ops C f os (⟨d, o, ty, ps, af, none⟩ :: r) e h) (ops C f os r (e.putAt d (.tup [])) h) := by
  rw [ops_guard]
  simp only [wantA, g, Option.map_some]
  generalize e.get t = v
  unfold guardK
  cases v <;> try rfl
  · rename_i b
    simp only [Option.bind_some]
    cases b <;> cases w <;> rfl
  · rename_i vs
    cases vs <;> rfl
theorem ops_guardTT {j t : Nat} (g : (os[j]?).bind (·.dst) = some t) (hv : e.get t = .bool true) (o : Op) : ops C f os (⟨d, o, ty, ps, af, some (j, true)⟩ :: r) e h = ops C f os (⟨d, o, ty, ps, af, none⟩ :: r) e h := by
  rw [ops_guardT g, hv]; rfl
theorem ops_guardFF {j t : Nat} (g : (os[j]?).bind (·.dst) = some t) (hv : e.get t = .bool false) (o : Op) : ops C f os (⟨d, o, ty, ps, af, some (j, false)⟩ :: r) e h = ops C f os (⟨d, o, ty, ps, af, none⟩ :: r) e h := by
  rw [ops_guardT g, hv]; rfl
theorem ops_guardTF {j t : Nat} (g : (os[j]?).bind (·.dst) = some t) (hv : e.get t = .bool false) (o : Op) : ops C f os (⟨d, o, ty, ps, af, some (j, true)⟩ :: r) e h = ops C f os r (e.putAt d (.tup [])) h := by
  rw [ops_guardT g, hv]; rfl
theorem ops_guardFT {j t : Nat} (g : (os[j]?).bind (·.dst) = some t) (hv : e.get t = .bool true) (o : Op) : ops C f os (⟨d, o, ty, ps, af, some (j, false)⟩ :: r) e h = ops C f os r (e.putAt d (.tup [])) h := by
  rw [ops_guardT g, hv]; rfl
theorem sched_text (os : Array Oper) : sched os false = os.toList := rfl
end
end Go.Rv

/-
  From the interpreter's answer to a claim's post-condition: the world is as it was, but for new memory.
-/
set_option linter.unusedSimpArgs false
set_option linter.unusedVariables false
namespace Go.Rv

def bare : Sim := { μ := fun _ => none, I := fun _ => False, good := fun _ _ _ _ _ => False }

/-- What was there is as it was. -/
structure Same (w w' : World) : Prop where
  kept : w.keptBut w' (fun _ => False)
  frozen : ∀ a : Addr, a.block < w.heap.size → w'.frozen? a = w.frozen? a
  size : w.heap.size ≤ w'.heap.size

theorem same_of_ext {s' : Sim} {h' : Heap} {w w' : World} {g : Nat → Nat → List Nat → Code → Code → Prop} (E : Ext { bare with good := g } [] w s' h' w') : Same w w' where
  kept := by
    refine ⟨E.os, E.output, fun i hi => ?_⟩
    rw [E.far i hi (fun o hx => by cases hx)]
    cases w.heap[i]? with
    | none => rfl
    | some o =>
      cases o <;> first | rfl | exact ⟨rfl, rfl, rfl, fun _ _ => rfl⟩ | exact .inr ⟨rfl, rfl⟩
  frozen a ha := by
    unfold World.frozen?
    rw [E.far a.block ha (fun o hx => by cases hx)]
  size := E.size

theorem bare_rel (g : Nat → Nat → List Nat → Code → Code → Prop) (w : World) : Rel { bare with good := g } [] w where
  inj _ _ _ h := by cases h
  obj _ _ h := by cases h
  apart _ _ h := by cases h
  imm _ h := h.elim

/-- A function of plain values. -/
theorem entry {T : RvTold} {P : Program} (hg : ∀ g, T.glob g = none) (hp : ∀ f, T.prim f = none) (hm : P.follows .mixedOrders = true) {f : Nat} {args : List AV} {v : AV} {h' : Heap} (hc : call (T.cfg P) f args [] = some (.ret v, h'))
    {w : World} {vs : List Value} (H : VRs bare [] w args vs) : Calls P f vs.toArray w (fun e w' => Same w w' ∧ ∃ u s', e = .returned u ∧ VR s' h' w' v u) := by
  have G : GG (T.cfg P) (ordOk (T.cfg P)) { bare with good := goodOf (ordOk (T.cfg P)) } [] w := ⟨fun g x hx => absurd hx (by change T.glob g ≠ some x; rw [hg]; simp), rfl⟩
  have := RvTold.sound (T := T) (P := P) (fun g x hx => by change T.glob g = some x at hx; rw [hg] at hx; cases hx) (fun g x hx => by rw [hg] at hx; cases hx) (fun g x hx => by change T.prim g = some x at hx; rw [hp] at hx; cases hx) hm hc (bare_rel _ w) G (H.regood _)
  refine Calls.mono this fun e w' he => ?_
  obtain ⟨s', E, R, hv⟩ := he
  refine ⟨same_of_ext E, ?_⟩
  cases e with
  | returned u => exact ⟨u, s', rfl, hv⟩
  | panicked _ => exact hv.elim
  | outgrown => exact hv.elim

section
open Go.ChangeShapes Go.WideShapes Go.ChangeAt Go.RowKit
variable {H : Type} {enc : TypeId × Value → H} {P : Program}
/-- As the kit's 'post_of_same', but asking of the frozen cells only where they are old. -/
theorem post_of_kept {f : Func} {s : ChangeSpec} {apart fresh handsOn again : Bool} {W W' : World} {args : Array Value} {v : Value} {ds gs : List (DataW H)} {before pa pv : List MemPlace}
    (hW : DataW.Whole enc P f.params.toList s.vars apart W args.toList ds gs before)
    (hres : ∀ (b : Nat) (sp : Nat → Bool) (hd : Bool), DataW.TrodAll enc P W' b sp hd f.resultTypes.toList (v.resultList f.resultTypes.size) (s.fn H (ds ++ gs)).results [])
    (hargs : ∀ sp : Nat → Bool, (∀ p ∈ before, sp p.block = true) → DataW.TrodAll enc P W' 0 sp true f.params.toList args.toList (s.fn H (ds ++ gs)).args pa)
    (hvars : ∀ sp : Nat → Bool, (∀ p ∈ before, sp p.block = true) → DataW.TrodVars enc P W' sp s.vars (s.fn H (ds ++ gs)).vars pv)
    (hps : before = pa ++ pv) (hS : Same W W')
    (hok : ∀ (j : Nat) (t : TypeId) (r : Value), f.resultTypes[j]? = some t → (v.resultList f.resultTypes.size)[j]? = some r → Value.okWide P W' .any 0 t r) :
    s.post enc P f apart fresh handsOn again W args v W' := by
  have hlt : ∀ p ∈ before, p.block < W.heap.size := fun p hp => hW.lt p hp
  have hold : ∀ p ∈ before, (fun b => decide (b < W.heap.size)) p.block = true := fun p hp => by simpa using hlt p hp
  refine ⟨ds, gs, before, [], pa, pv, hW, hres _ _ _, hargs _ hold, hvars _ hold, World.keptBut_mono (fun p hp => hp.elim) hS.kept, fun _ => ?_⟩
  obtain ⟨_, _, _, _, _, hz, hn⟩ := hW
  refine ⟨hok, _, _, ([] ++ pa) ++ pv, ⟨[] ++ pa, pv, trodAll_append (hargs _ (fun _ _ => rfl)) (hres _ _ _), hvars _ (fun _ _ => rfl), rfl, ?_, ?_⟩, ?_⟩
  · intro b off hp
    have hp' : (MemPlace.cell b off) ∈ before := by rw [hps]; simpa using hp
    rw [hS.frozen _ (hlt _ hp')]
    exact hz b off hp'
  · intro ha
    have := hn ha
    rw [hps] at this
    simpa using this
  · intro p hp _
    rw [hps]
    simpa using hp
end
end Go.Rv
