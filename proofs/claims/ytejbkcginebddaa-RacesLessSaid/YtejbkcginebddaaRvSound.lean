/-
  Statements and calls: what the interpreter answers, the model's calls come to.
-/
import Derived.Test.YtejbkcginebddaaRvOrd3
import Derived.Scope
set_option linter.unusedSimpArgs false
set_option linter.unusedVariables false
namespace Go.Rv
section
variable {P : Program} {C : Cfg} {s : Sim} {h : Heap} {w : World}

theorem get_zip (args : List AV) (t : Nat) : ∀ (n : Nat), n ≤ t → Env.get ((args.zipIdx n).map fun (v, i) => (i, v)) t = (args[t - n]?).getD .junk := by
  induction args with
  | nil => intro n _; simp [Env.get]
  | cons a r ih =>
    intro n hn
    simp only [List.zipIdx_cons, List.map_cons, Env.get]
    by_cases he : n = t
    · subst he; simp
    · have : (n == t) = false := by simp [he]
      simp only [this, Bool.false_eq_true, if_false]
      rw [ih (n + 1) (by omega)]
      obtain ⟨m, hm⟩ : ∃ m, t - n = m + 1 := ⟨t - n - 1, by omega⟩
      rw [hm, List.getElem?_cons_succ, show t - (n + 1) = m from by omega]

theorem envRel_args {args : List AV} {vs : List Value} (H : VRs s h w args vs) (n : Nat) : EnvRel s h w (args.zipIdx.map fun (v, i) => (i, v)) (vs.toArray ++ Array.replicate (n - vs.toArray.size) undef) := by
  intro t
  rw [get_zip args t 0 (Nat.zero_le _)]
  simp only [Nat.sub_zero]
  cases ht : args[t]? with
  | none => exact .junk _
  | some v =>
    obtain ⟨u, hu, hr⟩ := H.2 t v ht
    have hlt := (List.getElem?_eq_some_iff.1 hu).1
    simp only [Option.getD_some]
    rw [Array.getD_eq_getD_getElem?, Array.getElem?_append_left (by simpa using hlt)]
    simp [hu, hr]

def resOne (tmps : Array Value) : ResultVar → Sem Value
  | .tmp t => pure (tmps.getD t undef)
  | .cell a t => do loadVar t (← asAddr (tmps.getD a undef))

theorem resOne_tmp (tmps : Array Value) (t : Nat) : (resOne tmps (.tmp t)).run P w = .ok (tmps.getD t undef) w := rfl
theorem resOne_cell (tmps : Array Value) (x t : Nat) (a : Addr) (h : tmps.getD x undef = .pointer (some a)) : resOne tmps (.cell x t) = loadVar t a := by
  simp only [resOne, h, asAddr]; rfl

theorem resultsA_rel {ord : Nat → Array Oper → Bool} (K : Ok P C ord) (R : Rel s h w) (G : Glob C s h w) {e : Env} {a : Act} (H : EnvRel s h w e a.tmps) : ∀ {rs : List ResultVar} {vs : List AV}, resultsA C h e rs = some vs →
    ∃ us, (rs.mapM (resOne a.tmps)).run P w = .ok us w ∧ VRs s h w vs us := by
  intro rs
  induction rs with
  | nil =>
    intro vs hv
    simp only [resultsA, Option.some.injEq] at hv
    subst hv
    exact ⟨[], by simp, rfl, fun i c hi => by simp at hi⟩
  | cons x r ih =>
    intro vs hv
    cases x with
    | tmp t =>
      simp only [resultsA, Option.bind_eq_bind] at hv
      replace hv := Option.bind_eq_some_iff.1 hv
      obtain ⟨v, hv1, hv⟩ := hv
      replace hv := Option.bind_eq_some_iff.1 hv
      obtain ⟨vs', hv2, hv⟩ := hv
      simp only [Option.some.injEq] at hv
      subst hv
      obtain ⟨us, h1, h2⟩ := ih hv2
      have := evalA_rel G H hv1
      refine ⟨a.tmps.getD t undef :: us, ?_, VRs.cons this h2⟩
      simp only [List.mapM_cons, Sem.run_bind, resOne_tmp, Sem.run_pure, Result.andThen_ok, h1]
    | cell x t =>
      simp only [resultsA, Option.bind_eq_bind] at hv
      replace hv := Option.bind_eq_some_iff.1 hv
      obtain ⟨p, hp, hv⟩ := hv
      replace hv := Option.bind_eq_some_iff.1 hv
      obtain ⟨v, hv1, hv⟩ := hv
      replace hv := Option.bind_eq_some_iff.1 hv
      obtain ⟨vs', hv2, hv⟩ := hv
      simp only [Option.some.injEq] at hv
      subst hv
      obtain ⟨us, h1, h2⟩ := ih hv2
      have hpr := evalA_rel G H hp
      unfold loadA at hv1
      simp only [Option.bind_eq_bind] at hv1
      replace hv1 := Option.bind_eq_some_iff.1 hv1
      obtain ⟨ti, hti, hv1⟩ := hv1
      replace hv1 := Option.bind_eq_some_iff.1 hv1
      obtain ⟨cs, hcs, hv1⟩ := hv1
      obtain ⟨b, off, hu, _⟩ := cellsAt_reads R hpr hcs
      obtain ⟨y, hy1, hy2⟩ := load_rel R (K.ty t ti hti) hpr hcs hv1
      rw [hu] at hy1
      simp only [Instr.loadAt, Instr.sureAddr, Sem.run_bind, Sem.run_pure, Result.andThen_ok] at hy1
      refine ⟨y :: us, ?_, VRs.cons hy2 h2⟩
      change a.tmps.getD x undef = _ at hu
      simp only [List.mapM_cons, Sem.run_bind, resOne_cell _ _ _ _ hu, Sem.run_pure, Result.andThen_ok, hy1, h1]

theorem results_rel {ord : Nat → Array Oper → Bool} (K : Ok P C ord) (R : Rel s h w) (G : Glob C s h w) {e : Env} {a : Act} (H : EnvRel s h w e a.tmps) {fn : Func} {vs : List AV} (hv : resultsA C h e fn.results.toList = some vs) :
    ∃ u, (results fn a.tmps).run P w = .ok u w ∧ VR s h w (packA vs) u := by
  obtain ⟨us, h1, h2⟩ := resultsA_rel K R G H hv
  have hr : results fn a.tmps = (fn.results.mapM (resOne a.tmps)) >>= fun vs => pure (if h : vs.size = 1 then vs[0] else .tuple vs) := rfl
  rw [hr, Array.mapM_eq_mapM_toList]
  simp only [Sem.run_bind, Sem.run_map, Sem.run_pure, h1, Result.andThen_ok]
  refine ⟨_, rfl, ?_⟩
  obtain ⟨hl, hc⟩ := h2
  split
  · rename_i h1
    simp only [List.size_toArray] at h1
    obtain ⟨v, rfl⟩ := List.length_eq_one_iff.1 (hl.trans h1)
    obtain ⟨u, rfl⟩ := List.length_eq_one_iff.1 h1
    obtain ⟨u', hu', hr'⟩ := hc 0 v rfl
    simp only [List.getElem?_cons_zero, Option.some.injEq] at hu'
    subst hu'
    exact hr'
  · rename_i h1
    simp only [List.size_toArray] at h1
    have hp : packA vs = .tup vs := by
      unfold packA
      split
      · simp at hl; omega
      · rfl
    rw [hp]
    refine .tup _ _ (by simpa using hl) fun i c hi => ?_
    obtain ⟨u', hu', hr'⟩ := hc i c hi
    simpa [hu'] using hr'

def OutQ (s : Sim) (h : Heap) (w : World) (N : Nat) (r : Out × Env × Heap) := OutOk s h w N r.1 r.2.1 r.2.2

def ExecAt (P : Program) (C : Cfg) (ord : Nat → Array Oper → Bool) (k : Nat) : Prop := ∀ (f N : Nat) (c : Code) (e : Env) (h : Heap) (out : Out) (e' : Env) (h' : Heap), codeOk (ord f) N c = true → execF C k f c e h = some (out, e', h') →
  ∀ (s : Sim) (w : World) (a : Act), a.tmps.size = N → a.defers = [] → Rel s h w → Glob C s h w → EnvRel s h w e a.tmps →
    c.wp P (OutOk s h w N out e' h') a w

theorem OutOk.then {s1 : Sim} {h1 : Heap} {w1 : World} {N : Nat} {out : Out} {e' : Env} {h' : Heap} (E : Ext s h w s1 h1 w1) {ex : Exit} {a : Act} {w' : World} (H : OutOk s1 h1 w1 N out e' h' ex a w') : OutOk s h w N out e' h' ex a w' := by
  obtain ⟨s', k1, k2, k3⟩ := H
  exact ⟨s', E.trans k1, k2, k3⟩

/-- Of the three ways out that are not the end, none is the end. -/
theorem out_other {N : Nat} {out : Out} {e' : Env} {h' : Heap} {next : Act → World → Prop} {ex : Exit} {a : Act} {w' : World} (hn : out ≠ .nrm) (H : OutOk s h w N out e' h' ex a w') : Exit.then next (OutOk s h w N out e' h') ex a w' := by
  cases ex <;> first | exact H | skip
  obtain ⟨s', k1, k2, k3, k4, k5⟩ := H
  cases out <;> first | exact absurd rfl hn | exact k5.elim

theorem out_nrm {N : Nat} {e' : Env} {h' : Heap} {Q : Exit → Act → World → Prop} {next : Act → World → Prop} {ex : Exit} {a : Act} {w' : World} (H : OutOk s h w N .nrm e' h' ex a w')
    (hnext : ∀ s' a w', Ext s h w s' h' w' → Rel s' h' w' → a.tmps.size = N → a.defers = [] → EnvRel s' h' w' e' a.tmps → next a w') : Exit.then next Q ex a w' := by
  obtain ⟨s', k1, k2, k3, k4, k5⟩ := H
  cases ex <;> first | exact k5.elim | exact hnext s' _ _ k1 k2 k3 k4 k5

theorem OutOk.noGoto {N : Nat} {out : Out} {e' : Env} {h' : Heap} {ex : Exit} {a : Act} {w' : World} (H : OutOk s h w N out e' h' ex a w') : Exit.noGoto (OutOk s h w N out e' h') ex a w' := by
  cases ex <;> first | exact H | skip
  obtain ⟨s', k1, k2, k3, k4, k5⟩ := H
  cases out <;> exact k5.elim

theorem OutOk.keep {N : Nat} {e' : Env} {h' : Heap} {ex : Exit} {a : Act} {w' : World} (l : Option (List Nat)) (H : OutOk s h w N .nrm e' h' ex a w') : OutOk s h w N .nrm (match l with | some l => e'.keep l | none => e') h' ex a w' := by
  cases l with
  | none => exact H
  | some l =>
    obtain ⟨s', k1, k2, k3, k4, k5⟩ := H
    refine ⟨s', k1, k2, k3, k4, ?_⟩
    cases ex <;> first | exact k5.elim | exact k5.keep l

theorem rounds_mono {b : Code} {Q Q' : Exit → Act → World → Prop} (hq : ∀ ex a w, Q ex a w → Q' ex a w) : ∀ (n : Nat) (a : Act) (w : World), Code.rounds P b Q n a w → Code.rounds P b Q' n a w
  | 0, _, _, H => H
  | n + 1, a, w, H => wp_mono H fun ex a w h => by
    cases ex <;> first | exact hq _ _ _ h | exact rounds_mono hq n a w h

theorem exec_at {ord : Nat → Array Oper → Bool} (K : Ok P C ord) (hord : ∀ f ops, ord f ops = true → ordOk C f ops = true) : ∀ k, CallsAt P C k → (∀ k', k' ≤ k → ExecAt P C ord k') ∧
    ∀ (f N : Nat) (b : Code) (e : Env) (h : Heap) (out : Out) (e' : Env) (h' : Heap), codeOk (ord f) N b = true → execF C k f (.loop b) e h = some (out, e', h') →
      ∀ (s : Sim) (w : World) (a : Act), a.tmps.size = N → a.defers = [] → Rel s h w → Glob C s h w → EnvRel s h w e a.tmps → Code.rounds P b (OutOk s h w N out e' h') k a w := by
  intro k
  induction k with
  | zero =>
    intro _
    refine ⟨fun k' hk => ?_, ?_⟩
    · obtain rfl : k' = 0 := by omega
      intro f N c e h out e' h' _ hx
      simp [execF] at hx
    · intro f N c e h out e' h' _ hx
      simp [execF] at hx
  | succ k ih =>
    intro HC
    have HC' : CallsAt P C k := fun k' hk => HC k' (by omega)
    obtain ⟨ihE, ihL⟩ := ih HC'
    have ihk := ihE k (Nat.le_refl _)
    have loops : ∀ (f N : Nat) (b : Code) (e : Env) (h : Heap) (out : Out) (e' : Env) (h' : Heap), codeOk (ord f) N b = true → execF C (k + 1) f (.loop b) e h = some (out, e', h') →
      ∀ (s : Sim) (w : World) (a : Act), a.tmps.size = N → a.defers = [] → Rel s h w → Glob C s h w → EnvRel s h w e a.tmps → Code.rounds P b (OutOk s h w N out e' h') (k + 1) a w := by
      intro f N b e h out e' h' hok hx s w a hN hdf R G H
      simp only [execF, Option.bind_eq_bind] at hx
      replace hx := Option.bind_eq_some_iff.1 hx
      obtain ⟨⟨o1, e1, h1⟩, hx1, hx⟩ := hx
      have hb := ihk f N b e h o1 e1 h1 hok hx1 s w a hN hdf R G H
      rw [rounds_succ]
      refine wp_mono hb fun ex a1 w1 hq => ?_
      cases o1 with
      | nrm =>
        simp only at hx
        exact out_nrm hq fun s1 a1 w1 E1 R1 hN1 hdf1 H1 => rounds_mono (fun _ _ _ hq => hq.then E1) k _ _ (ihL f N b e1 h1 out e' h' hok hx s1 w1 a1 hN1 hdf1 R1 (G.ext R.apart E1) H1)
      | _ =>
        simp only [Option.some.injEq, Prod.mk.injEq] at hx
        obtain ⟨rfl, rfl, rfl⟩ := hx
        exact out_other (by simp) hq
    refine ⟨fun k' hk => ?_, loops⟩
    by_cases hk' : k' ≤ k
    · exact ihE k' hk'
    obtain rfl : k' = k + 1 := by omega
    intro f N c e h out e' h' hok hx s w a hN hdf R G H
    cases c <;> simp only [execF, Option.bind_eq_bind, reduceCtorEq] at hx
    case skip =>
      simp only [Option.some.injEq, Prod.mk.injEq] at hx
      obtain ⟨rfl, rfl, rfl⟩ := hx
      exact wp_skip ⟨s, Ext.refl _ _ _, R, hN, hdf, H⟩
    case label l =>
      simp only [Option.some.injEq, Prod.mk.injEq] at hx
      obtain ⟨rfl, rfl, rfl⟩ := hx
      exact wp_label ⟨s, Ext.refl _ _ _, R, hN, hdf, H⟩
    case exit id =>
      simp only [Option.some.injEq, Prod.mk.injEq] at hx
      obtain ⟨rfl, rfl, rfl⟩ := hx
      exact wp_exit ⟨s, Ext.refl _ _ _, R, hN, hdf, rfl, H⟩
    case ret =>
      simp only [Option.some.injEq, Prod.mk.injEq] at hx
      obtain ⟨rfl, rfl, rfl⟩ := hx
      exact wp_ret ⟨s, Ext.refl _ _ _, R, hN, hdf, H⟩
    case scope b =>
      simp only [codeOk] at hok
      exact wp_scope_straight (wp_mono (ihk f N b e h out e' h' hok hx s w a hN hdf R G H) fun _ _ _ hq => hq.noGoto)
    case loop b =>
      simp only [codeOk] at hok
      exact wp_loop_rounds (k + 1) (loops f N b e h out e' h' hok (by simp only [execF, Option.bind_eq_bind]; exact hx) s w a hN hdf R G H)
    case seq b c =>
      simp only [codeOk, Bool.and_eq_true] at hok
      replace hx := Option.bind_eq_some_iff.1 hx
      obtain ⟨⟨o1, e1, h1⟩, hx1, hx⟩ := hx
      have hb := ihk f N b e h o1 e1 h1 hok.1 hx1 s w a hN hdf R G H
      refine wp_seq (wp_mono hb fun ex a1 w1 hq => ?_)
      cases o1 with
      | nrm =>
        simp only at hx
        exact out_nrm hq fun s1 a1 w1 E1 R1 hN1 hdf1 H1 => wp_mono (ihk f N c e1 h1 out e' h' hok.2 hx s1 w1 a1 hN1 hdf1 R1 (G.ext R.apart E1) H1) fun _ _ _ hq => hq.then E1
      | _ =>
        simp only [Option.some.injEq, Prod.mk.injEq] at hx
        obtain ⟨rfl, rfl, rfl⟩ := hx
        exact out_other (by simp) hq
    case cond x b c =>
      simp only [codeOk, Bool.and_eq_true] at hok
      replace hx := Option.bind_eq_some_iff.1 hx
      obtain ⟨v, hv, hx⟩ := hx
      have hvr := evalA_rel G H hv
      split at hx
      all_goals (try (cases hx; done))
      all_goals
        generalize hae : a.eval x = u at hvr
        cases hvr
        refine wp_cond hae ?_
      · exact ihk f N b e h out e' h' hok.1 hx s w a hN hdf R G H
      · exact ihk f N c e h out e' h' hok.2 hx s w a hN hdf R G H
    case block id b =>
      simp only [codeOk] at hok
      replace hx := Option.bind_eq_some_iff.1 hx
      obtain ⟨⟨o1, e1, h1⟩, hx1, hx⟩ := hx
      have hb := ihk f N b e h o1 e1 h1 hok hx1 s w a hN hdf R G H
      refine wp_block (wp_mono hb fun ex a1 w1 hq => ?_)
      obtain ⟨s', k1, k2, k3, k4, k5⟩ := hq
      cases o1 with
      | exit id' =>
        cases ex with
        | exit id2 =>
        obtain ⟨k5, k6⟩ := k5
        subst k5
        simp only [Exit.inBlock]
        by_cases hid : id2 = id
        · simp only [hid, beq_self_eq_true, if_true, Option.some.injEq, Prod.mk.injEq] at hx
          obtain ⟨rfl, rfl, rfl⟩ := hx
          rw [if_pos hid]
          exact ⟨s', k1, k2, k3, k4, k6⟩
        · have : (id2 == id) = false := by simp [hid]
          simp only [this, Bool.false_eq_true, if_false, Option.some.injEq, Prod.mk.injEq] at hx
          obtain ⟨rfl, rfl, rfl⟩ := hx
          rw [if_neg hid]
          exact ⟨s', k1, k2, k3, k4, rfl, k6⟩
        | _ => exact k5.elim
      | _ =>
        simp only [Option.some.injEq, Prod.mk.injEq] at hx
        obtain ⟨rfl, rfl, rfl⟩ := hx
        cases ex <;> first | exact k5.elim | exact ⟨s', k1, k2, k3, k4, k5⟩
    case region id ops draw =>
      simp only [codeOk, Bool.and_eq_true] at hok
      replace hx := Option.bind_eq_some_iff.1 hx
      obtain ⟨⟨o1, e1, h1⟩, hx1, hx⟩ := hx
      cases draw with
      | false =>
        have hb := ops_sound K hok.1 k HC' ops.toList (List.range ops.size) (map_range ops) e h o1 e1 h1 (by simpa [sched] using hx1) s w a hN hdf R G H
        refine wp_region (wpOps_mono (fun ex a w hq => ?_) _ _ _ hb)
        cases o1 with
        | nrm =>
          simp only [Option.some.injEq, Prod.mk.injEq] at hx
          obtain ⟨rfl, rfl, rfl⟩ := hx
          exact hq.keep _
        | _ =>
          simp only [Bool.false_eq_true, if_false, Option.some.injEq, Prod.mk.injEq] at hx
          obtain ⟨rfl, rfl, rfl⟩ := hx
          exact hq
      | true =>
        cases o1 with
        | nrm =>
          simp only [Option.some.injEq, Prod.mk.injEq] at hx
          obtain ⟨rfl, rfl, rfl⟩ := hx
          have E := Ext.draw s h w (w.drawn + 1)
          have hb := draw_sound K hok.1 (hord f ops (by simpa using hok.2)) HC' hx1 hN hdf (R.draw (w.drawn + 1)) (G.ext R.apart E) (H.ext R.apart E)
          exact wp_mono (wp_region_any K.mixed hb) fun ex a w hq => (hq.then E).keep _
        | _ => simp at hx

theorem leave_ok {f : Nat} {v : AV} {h1 : Heap} {res : CRes} {h' : Heap} (hl : leaveA C f h v h1 = some (res, h')) (R : Rel s h w) {s1 : Sim} {w1 : World} (E : Ext s h w s1 h1 w1) (R1 : Rel s1 h1 w1) {u : Value} (hv : VR s1 h1 w1 v u) :
    EndOk s h w res h' (.returned u) w1 := by
  unfold leaveA at hl
  split at hl
  · split at hl
    · rename_i hh
      obtain ⟨v', hv', hx⟩ := Option.map_eq_some_iff.1 hl
      simp only [Prod.mk.injEq] at hx
      obtain ⟨rfl, rfl⟩ := hx
      have hn : h.length ≤ h1.length := by
        have := congrArg List.length hh
        simp at this; omega
      have hz := freeze_rel R1 hn 40 (Nat.le_refl _) hv' hv
      rw [hh] at hz
      exact ⟨s1.cut h.length, E.cut hh, R.cut R1 E hh, hz⟩
    · cases hl
  · simp only [Option.some.injEq, Prod.mk.injEq] at hl
    obtain ⟨rfl, rfl⟩ := hl
    exact ⟨s1, E, R1, hv⟩

theorem calls_at {ord : Nat → Array Oper → Bool} (K : Ok P C ord) (hord : ∀ f ops, ord f ops = true → ordOk C f ops = true) : ∀ k, CallsAt P C k := by
  intro k
  induction k with
  | zero =>
    intro k' hk f args h res h' hc
    obtain rfl : k' = 0 := by omega
    simp [callF] at hc
  | succ k ih =>
    intro k' hk f args h res h' hc
    by_cases hk' : k' ≤ k
    · exact ih k' hk' f args h res h' hc
    obtain rfl : k' = k + 1 := by omega
    simp only [callF, Option.bind_eq_bind] at hc
    split at hc
    · rename_i p hp
      obtain ⟨h1, h2, h3⟩ := K.prim f p hp
      exact ⟨h1, fun s w vs R G H => h3 args h res h' hc s w vs R G H⟩
    · replace hc := Option.bind_eq_some_iff.1 hc
      obtain ⟨fi, hfi, hc⟩ := hc
      obtain ⟨fn, f1, f2, f3, f4, f5, f6⟩ := K.fn f fi hfi
      split at hc
      · cases hc
      rename_i hlen
      have hlen : args.length = fi.params := by simpa using hlen
      replace hc := Option.bind_eq_some_iff.1 hc
      obtain ⟨⟨out, e1, h1⟩, hx, hc⟩ := hc
      refine ⟨⟨fn, fi.body, f1, f2, f4⟩, fun s w vs R G H => ?_⟩
      refine calls_of_wp f1 f2 ?_
      have hN : (vs.toArray ++ Array.replicate (fn.ntmps - vs.toArray.size) undef).size = fn.ntmps := by
        have := H.1
        simp; omega
      have hw := ((exec_at K hord k ih).1 k (Nat.le_refl _)) f fn.ntmps fi.body _ h out e1 h1 f6 hx s w { tmps := vs.toArray ++ Array.replicate (fn.ntmps - vs.toArray.size) undef, defers := [] } hN rfl R G (envRel_args H fn.ntmps)
      refine wp_mono hw fun ex a1 w1 hq => ?_
      obtain ⟨s1, k1, k2, k3, k4, k5⟩ := hq
      have G1 := G.ext R.apart k1
      have fin : EnvRel s1 h1 w1 e1 a1.tmps → (resultsA C h1 e1 fi.results).bind (fun vs => leaveA C f h (packA vs) h1) = some (res, h') → ∃ v, (results fn a1.tmps).run P w1 = .ok v w1 ∧ EndOk s h w res h' (.returned v) w1 := by
        intro H1 hl
        replace hl := Option.bind_eq_some_iff.1 hl
        obtain ⟨rs, hrs, hl⟩ := hl
        rw [← f3] at hrs
        obtain ⟨u, hu1, hu2⟩ := results_rel K k2 G1 H1 hrs
        exact ⟨u, hu1, leave_ok hl R k1 k2 hu2⟩
      cases out with
      | nrm =>
        simp only at hc
        cases ex <;> first | exact k5.elim | exact ⟨k4, fin k5 hc⟩
      | ret =>
        simp only at hc
        cases ex <;> first | exact k5.elim | exact ⟨k4, fin k5 hc⟩
      | pan v =>
        simp only [Option.some.injEq, Prod.mk.injEq] at hc
        obtain ⟨rfl, rfl⟩ := hc
        cases ex <;> first | exact k5.elim | skip
        obtain ⟨u, rfl, hu⟩ := k5
        exact ⟨k4, s1, k1, k2, u, rfl, hu⟩
      | exit id => simp at hc

/-- What the interpreter answers, the call comes to. -/
theorem call_sound {ord : Nat → Array Oper → Bool} (K : Ok P C ord) (hord : ∀ f ops, ord f ops = true → ordOk C f ops = true) {f : Nat} {args : List AV} {res : CRes} {h' : Heap} (hc : call C f args h = some (res, h'))
    {vs : List Value} (R : Rel s h w) (G : Glob C s h w) (H : VRs s h w args vs) : Calls P f vs.toArray w (EndOk s h w res h') := by
  obtain ⟨k, hk⟩ := (call_iff C).1 hc
  exact (calls_at K hord k k (Nat.le_refl _) f args h res h' hk).2 s w vs R G H
end
end Go.Rv
