/-
  What the quick twin answers the interpreter answers.
-/
import Derived.Test.YtiigpcapieeljaaGreatDoorPtG
set_option linter.unusedSimpArgs false
set_option linter.unusedVariables false
namespace Go.Rv

/-- Nothing is told that the quick twin leaves out. -/
structure Plainly (C : Cfg) : Prop where
  pure : ∀ f, C.pure f = false
  alone : ∀ f, C.alone f = false
  quiet : ∀ f t, C.quiet f t = false

variable {C : Cfg} {TP : PrimT} {FN : Nat → Option FI} {QP : CallQ}

structure CallerOk (C : Cfg) (call : Caller) : Prop where
  ok : ∀ {g : AV} {vs : List AV} {H : TH} {n : Nat} {k : KontC} {b : Bool} {h : Heap}, Rep H n h → call g vs H n k = .ok b →
  ∃ res h' H' n', callv C g vs h = some (res, h') ∧ Rep H' n' h' ∧ k res H' n' = .ok b

theorem ok_bad {f t : Nat} {b : Bool} (h : (KR.bad f t : Res) = .ok b) : False := by cases h

theorem stepT_ok {f : Nat} {ops : Array Oper} {o : Oper} {E : TE} {e : Env} {H : TH} {n : Nat} {h : Heap} {k : TE → TH → Nat → Res} {b : Bool} (RE : RepE E e) (R : Rep H n h) (hs : Rv.stepT C f ops o E H n k = .ok b) :
    ∃ v h' H' n', opA C f e h o = some (v, h') ∧ Rep H' n' h' ∧ looseAll C f ops (dkey o) e h' = true ∧ k (Rv.putD E o.dst v) H' n' = .ok b := by
  unfold Rv.stepT at hs
  rw [evalT_eq C RE, RT_eq R] at hs
  have hop := opF_eq C f e h o
  rw [R.len] at hop
  cases hx : opF C f o.dst o.op (evalA C e) (Rdr.of h) n with
  | none => rw [hx] at hs; cases hs
  | some y =>
    obtain ⟨v, y⟩ := y
    rw [hx] at hs hop
    obtain ⟨H', n', R', hk⟩ := effT_ok R hs
    cases hl : looseT C f ops (dkey o) E H' n' with
    | false => rw [hl] at hk; cases hk
    | true =>
      rw [hl] at hk
      simp only [AV.force_eq] at hk
      exact ⟨v, _, H', n', hop.symm, R', (looseT_eq C RE R').symm.trans hl, hk⟩

theorem opsT_ok (hP : Plainly C) {f : Nat} {ops : Array Oper} {call : Caller} (hc : CallerOk C call) : ∀ (l : List Oper) {E : TE} {e : Env} {H : TH} {n : Nat} {h : Heap} {k : Kont} {b : Bool}, RepE E e → Rep H n h → opsT C f ops l call E H n k = .ok b →
    ∃ out e' h' E' H' n', Rv.ops C f ops l e h = some (out, e', h') ∧ RepE E' e' ∧ Rep H' n' h' ∧ k out E' H' n' = .ok b
  | [], E, e, H, n, h, k, b, RE, R, hs => ⟨.nrm, e, h, E, H, n, ops_nil f e h ops, RE, R, hs⟩
  | o :: r, E, e, H, n, h, k, b, RE, R, hs => by
    rw [ops_cons]
    simp only [opsT] at hs
    cases hq : stageT C f ops o with
    | some q =>
      rw [hq] at hs
      obtain ⟨hg, hcl, hs⟩ := stage_ok C hq hs
      obtain ⟨v, h1, H1, n1, q1, q2, q3, q4⟩ := stepT_ok RE R hs
      have hw : wantA ops e o = some true := by unfold wantA; rw [hg]
      have hp : panO C e o = none := by
        cases hpo : panO C e o with
        | none => rfl
        | some u =>
          exfalso
          unfold panO at hpo
          split at hpo <;> first | (cases hpo; done) | skip
          rename_i x hx
          unfold opA at q1
          simp only [hx, reduceCtorEq] at q1
      simp only [hw, hcl, hp, q1, Option.bind_some, q3, if_true]
      exact opsT_ok hP hc r (RE.putD o.dst v) q2 q4
    | none =>
    rw [hq] at hs
    simp only [wantT_eq RE] at hs
    cases hw : wantA ops e o with
    | none => rw [hw] at hs; cases hs
    | some w =>
      rw [hw] at hs
      simp only [Option.bind_some]
      cases w with
      | false => exact opsT_ok hP hc r (RE.putD o.dst (.tup [])) R hs
      | true =>
        simp only at hs ⊢
        cases hcl : callee o with
        | none =>
          rw [hcl] at hs
          have hpp : panT C E o = panO C e o := by unfold panT panO; rw [evalT_eq C RE]; rfl
          rw [hpp] at hs
          simp only at hs ⊢
          cases hp : panO C e o with
          | some v =>
            rw [hp] at hs
            exact ⟨_, _, _, E, H, n, rfl, RE, R, hs⟩
          | none =>
          rw [hp] at hs
          simp only at hs ⊢
          obtain ⟨v, h1, H1, n1, q1, q2, q3, q4⟩ := stepT_ok RE R hs
          simp only [q1, Option.bind_some, q3, if_true]
          exact opsT_ok hP hc r (RE.putD o.dst v) q2 q4
        | some ga =>
          obtain ⟨g, args⟩ := ga
          rw [hcl] at hs
          simp only [stepCT, evalT_eq C RE] at hs ⊢
          cases hm : mapO (evalA C e) args.toList with
          | none => rw [hm] at hs; cases hs
          | some vs =>
            rw [hm] at hs
            simp only [Option.bind_some] at hs ⊢
            cases hg : evalA C e g with
            | none => rw [hg] at hs; cases hs
            | some gv =>
              rw [hg] at hs
              simp only [Option.bind_some] at hs ⊢
              have hq : ((o.dst.map (C.quiet f)).getD false && !pureV C gv) = false := by
                cases o.dst <;> simp [hP.quiet]
              rw [hq]
              simp only [Bool.false_eq_true, if_false]
              obtain ⟨res, h1, H1, n1, q1, q2, q3⟩ := hc.ok R hs
              rw [q1]
              simp only [Option.bind_some]
              cases res with
              | pan v => exact ⟨_, _, _, E, H1, n1, rfl, RE, q2, q3⟩
              | ret v =>
                simp only at q3 ⊢
                cases hl : looseT C f ops (dkey o) E H1 n1 with
                | false => rw [hl] at q3; cases q3
                | true =>
                  rw [hl] at q3
                  simp only [AV.force_eq] at q3
                  rw [looseT_eq C RE q2] at hl
                  simp only [hl, if_true]
                  exact opsT_ok hP hc r (RE.putD o.dst v) q2 q3

theorem exec_loop_none {f : Nat} {e : Env} {h : Heap} {b : Code} (hr : C.roundsOf f b = none) : exec C f (.loop b) e h = (exec C f b e h).bind fun x => match x.1 with | .nrm => exec C f (.loop b) x.2.1 x.2.2 | _ => some x := by
  apply ext_some
  intro r
  rw [exec_succ]
  constructor
  · rintro ⟨k, hk⟩
    simp only [execF, hr] at hk
    obtain ⟨⟨out, e1, h1⟩, hx, hr⟩ := Option.bind_eq_some_iff.1 hk
    refine Option.bind_eq_some_iff.2 ⟨_, (exec_iff C).2 ⟨k, hx⟩, ?_⟩
    cases out <;> first | exact (exec_iff C).2 ⟨k, hr⟩ | exact hr
  · intro hk
    obtain ⟨⟨out, e1, h1⟩, hx, hr'⟩ := Option.bind_eq_some_iff.1 hk
    obtain ⟨k1, hk1⟩ := (exec_iff C).1 hx
    cases out with
    | nrm =>
      obtain ⟨k2, hk2⟩ := (exec_iff C).1 hr'
      refine ⟨max k1 k2, ?_⟩
      simp only [execF, hr]
      exact Option.bind_eq_some_iff.2 ⟨_, execF_le C (Nat.le_max_left _ _) _ _ _ _ _ hk1, execF_le C (Nat.le_max_right _ _) _ _ _ _ _ hk2⟩
    | _ => exact ⟨k1, by simp only [execF, hr]; exact Option.bind_eq_some_iff.2 ⟨_, hk1, hr'⟩⟩

theorem heapGo_ok {H : TH} {h : Heap} : ∀ (n : Nat) {acc h' : Heap}, (∀ i, i < n → RepX (H.get none i) h[i]?) → heapGo H n acc = some h' → h' = h.take n ++ acc
  | 0, acc, h', _, hs => by simp only [heapGo, Option.some.injEq] at hs; simp [hs]
  | n + 1, acc, h', R, hs => by
    simp only [heapGo] at hs
    have hr := R n (Nat.lt_succ_self n)
    cases hx : H.get none n with
    | none => rw [hx] at hs; cases hs
    | some x =>
      cases x with
      | lp r => rw [hx] at hs; cases hs
      | ob x =>
        rw [hx] at hs hr
        simp only at hs
        rw [heapGo_ok n (fun i hi => R i (by omega)) hs]
        cases hy : h[n]? with
        | none => rw [hy] at hr; exact hr.elim
        | some y =>
          rw [hy] at hr
          obtain ⟨rfl, _⟩ := hr
          have := List.take_add_one (l := h) (i := n)
          rw [this, hy]
          simp
theorem heapOf_ok {H : TH} {n : Nat} {h h' : Heap} (R : Rep H n h) (hs : heapOf H n = some h') : h' = h := by
  have := heapGo_ok n (fun i _ => R.at_ i) hs
  rw [this, ← R.len]
  simp
theorem ofHeap_ok : ∀ (l : List AObj) {n : Nat} {H H' : TH} {h : Heap}, Rep H n h → ofHeap l n H = some H' → Rep H' (n + l.length) (h ++ l)
  | [], n, H, H', h, R, hs => by simp only [ofHeap, Option.some.injEq] at hs; subst hs; simpa using R
  | x :: r, n, H, H', h, R, hs => by
    simp only [ofHeap] at hs
    cases hx : isLp x with
    | true => rw [hx] at hs; cases hs
    | false =>
      rw [hx] at hs
      have := ofHeap_ok r (R.push (isLp_no hx)) hs
      rw [List.append_assoc] at this
      simpa [Nat.add_comm, Nat.add_left_comm] using this
theorem Rep.nil : Rep .nil 0 [] := ⟨rfl, fun i => by simp [QT.get_nil, RepX]⟩

theorem get_for {E : TE} {l : List Nat} {t : Nat} (ht : t ∈ l) : (envFor E l).get t = E.get .junk t := by
  induction l with
  | nil => simp at ht
  | cons x r ih =>
    simp only [envFor, List.map_cons, Env.get_cons]
    by_cases h : x = t
    · subst h; simp
    · simp only [beq_iff_eq, h, if_false]
      exact ih ((List.mem_cons.1 ht).resolve_left (Ne.symm h))
theorem keep_for {E : TE} {e : Env} (RE : RepE E e) {l' : List Nat} : ∀ {l : List Nat}, (∀ t ∈ l, t ∈ l') → (envFor E l').keep l = e.keep l
  | [], _ => rfl
  | t :: r, hl => by
    simp only [Env.keep]
    rw [get_for (hl t (by simp)), RE t, keep_for RE fun u hu => hl u (by simp [hu])]
theorem eval_for {E : TE} {e : Env} (RE : RepE E e) {x : Operand} {l : List Nat} (hl : ∀ t ∈ slotsOf x, t ∈ l) : evalA C (envFor E l) x = evalA C e x := by
  cases x with
  | tmp t => simp only [evalA]; rw [get_for (hl t (by simp [slotsOf])), RE t]
  | _ => rfl

theorem mapLoopT_ok {f depth : Nat} {b : Code} {m : MapLoop} (hm : C.roundsOf f b = some m) {E : TE} {e : Env} {H : TH} {n : Nat} {h : Heap} {k : Kont} {r : Bool} (RE : RepE E e) (R : Rep H n h) (hs : mapLoopT C depth m f E H n k = .ok r) :
    ∃ out e' h' E' H' n', exec C f (.loop b) e h = some (out, e', h') ∧ RepE E' e' ∧ Rep H' n' h' ∧ k out E' H' n' = .ok r := by
  unfold mapLoopT at hs
  cases hl : C.live f m.id with
  | none => rw [hl] at hs; cases hs
  | some l =>
    cases hh : heapOf H n with
    | none => rw [hl, hh] at hs; cases hs
    | some h1 =>
      rw [hl, hh] at hs
      simp only at hs
      obtain rfl := heapOf_ok R hh
      cases hx : mapLoopK C m f (execK C depth f m.rest) (envFor E (slotsOf m.it ++ l)) h1 with
      | bad f t => rw [hx] at hs; cases hs
      | ok y =>
        obtain ⟨out, e', h'⟩ := y
        rw [hx] at hs
        simp only at hs
        cases ho : ofHeap h' 0 .nil with
        | none => rw [ho] at hs; cases hs
        | some H' =>
          rw [ho] at hs
          have hle := mapLoopK_le C m f (ex := execK C depth f m.rest) (ex' := execF C depth f m.rest) (fun e h => (twin_at C depth).exec f m.rest e h) (envFor E (slotsOf m.it ++ l)) h1 _ (by rw [hx]; rfl)
          have heq : mapLoopA C m f (execF C depth f m.rest) (envFor E (slotsOf m.it ++ l)) h1 = mapLoopA C m f (execF C depth f m.rest) e h1 := by
            unfold mapLoopA
            rw [eval_for RE (x := m.it) (fun t ht => by simp [ht]), hl]
            simp only [Option.bind_eq_bind, Option.bind_some]
            rw [keep_for RE (l := l) (fun t ht => by simp [ht])]
          rw [heq] at hle
          have R' := ofHeap_ok h' Rep.nil ho
          rw [Nat.zero_add, List.nil_append] at R'
          exact ⟨out, e', h', ofEnv e', H', _, (exec_iff C).2 ⟨depth + 1, by simp only [execF, hm]; exact hle⟩, RepE.ofEnv e', R', hs⟩

section
variable (C)
/-- The rest of a round, as the interpreter has it, with so much fuel. -/
noncomputable def exq (f : Nat) (m : MapLoop) (K : Nat) (e : Env) (h : Heap) : KR (Out × Env × Heap) := match execF C K f m.rest e h with
  | some x => .ok x
  | none => .bad 0 0
structure RestOk (f : Nat) (m : MapLoop) (rest : TE → TH → Nat → Kont → Res) : Prop where
  ok : ∀ {E : TE} {e : Env} {H : TH} {n : Nat} {h : Heap} {k : Kont} {r : Bool}, RepE E e → Rep H n h → rest E H n k = .ok r →
    ∃ out e' h' E' H' n', exec C f m.rest e h = some (out, e', h') ∧ RepE E' e' ∧ Rep H' n' h' ∧ k out E' H' n' = .ok r

theorem exq_of {f : Nat} {m : MapLoop} {e : Env} {h : Heap} {x : Out × Env × Heap} (hx : exec C f m.rest e h = some x) : ∃ k0, ∀ K, k0 ≤ K → exq C f m K e h = .ok x := by
  obtain ⟨k0, hk⟩ := (exec_iff C).1 hx
  refine ⟨k0, fun K hK => ?_⟩
  unfold exq
  rw [execF_le C hK _ _ _ _ _ hk]
theorem iterT_eq {H : TH} {n : Nat} {h : Heap} (R : Rep H n h) (o : Nat) : iterT H o = h.iterAt o := congrFun (congrArg Rdr.iter (RT_eq R)) o
theorem iterT_lt {H : TH} {n : Nat} {h : Heap} (R : Rep H n h) {o : Nat} {q : Nat × List (AV × AV)} (hq : iterT H o = some q) : o < n := by
  refine hasT_lt R ?_
  unfold iterT at hq
  unfold hasT
  cases hx : H.get none o with
  | none => rw [hx] at hq; cases hq
  | some x => rfl
theorem envFor_keep {E : TE} {e : Env} (RE : RepE E e) : ∀ l, envFor E l = e.keep l
  | [] => rfl
  | t :: r => by
    simp only [envFor, List.map_cons, Env.keep, RE t]
    congr 1
    exact envFor_keep RE r
theorem heapOf_take {H : TH} {n m : Nat} {h h' : Heap} (R : Rep H n h) (hs : heapOf H m = some h') : h' = h.take m := by
  have := heapGo_ok (h := h) m (fun i _ => R.at_ i) hs
  simpa using this
theorem RepE.sto {E : TE} {e : Env} (RE : RepE E e) (t : Nat) (v : AV) : RepE (stoT t v E) (e.put t v) := RE.putD (some t) v

theorem roundsF_ok {f : Nat} {m : MapLoop} {rest : TE → TH → Nat → Kont → Res} (hr : RestOk C f m rest) {l : List Nat} {o : Nat} : ∀ (es : List (AV × AV)) {acc : List (Env × Heap)} {s : Env × Heap} {K : List (Env × Heap) → Res} {b : Bool}, roundsF rest m f l o es acc s K = .ok b →
    ∃ k0 ps, (∀ k, k0 ≤ k → mapK (mapRoundK f (exq C f m k) m l o s) es = .ok ps) ∧ K (acc.reverse ++ ps) = .ok b
  | [], acc, s, K, b, hs => ⟨0, [], fun _ _ => rfl, by simpa [roundsF] using hs⟩
  | p :: r, acc, s, K, b, hs => by
    simp only [roundsF] at hs
    cases hH : ofHeap s.2 0 .nil with
    | none => rw [hH] at hs; cases hs
    | some Hs =>
      cases hlt : Nat.blt o s.2.length with
      | false => rw [hH, hlt] at hs; cases hs
      | true =>
        rw [hH, hlt] at hs
        simp only at hs
        have hlt : o < s.2.length := by simpa [Nat.blt_eq] using hlt
        have R0 := ofHeap_ok s.2 Rep.nil hH
        rw [Nat.zero_add, List.nil_append] at R0
        have R1 : Rep (Hs.put none o (some (.ob (.iter 2 [p])))) s.2.length (s.2.set o (.iter 2 [p])) := R0.set ⟨rfl, fun r => by simp⟩ hlt
        obtain ⟨out, e1, h1, E1, H1, n1, q1, q2, q3, q4⟩ := hr.ok (((RepE.ofEnv s.1).sto m.t0 (.tup [.bool true, p.1, p.2])).sto m.t1 (.bool true)) R1 hs
        cases out <;> first | (cases q4; done) | skip
        cases hi : iterT H1 o with
        | none => rw [hi] at q4; cases q4
        | some q =>
          obtain ⟨kk, es'⟩ := q
          rw [hi] at q4
          match kk, q4 with
          | 0, q4 => cases q4
          | 1, q4 => cases q4
          | kk + 3, q4 => cases q4
          | 2, q4 =>
            simp only at q4
            cases hh : heapOf (H1.put none o (some (.ob (.iter 1 [])))) s.2.length with
            | none => rw [hh] at q4; cases q4
            | some h2 =>
              cases hle : Nat.ble s.2.length n1 with
              | false => rw [hh, hle] at q4; cases q4
              | true =>
                rw [hh, hle] at q4
                simp only at q4
                have R2 : Rep (H1.put none o (some (.ob (.iter 1 [])))) n1 (h1.set o (.iter 1 [])) := q3.set ⟨rfl, fun r => by simp⟩ (iterT_lt q3 hi)
                have hh2 := heapOf_take R2 hh
                cases hk : keptB s.2.length (envFor E1 l) h2 with
                | false => rw [hk] at q4; cases q4
                | true =>
                  rw [hk] at q4
                  simp only at q4
                  obtain ⟨k0, ps, w1, w2⟩ := roundsF_ok hr r q4
                  obtain ⟨k1, hk1⟩ := exq_of C q1
                  refine ⟨max k0 k1, (envFor E1 l, h2) :: ps, fun k hkk => ?_, by simpa using w2⟩
                  have hround : mapRoundK f (exq C f m k) m l o s p = .ok (envFor E1 l, h2) := by
                    unfold mapRoundK
                    rw [hk1 k (by omega)]
                    simp only [KR.bind, ← iterT_eq q3 o, hi]
                    rw [envFor_keep q2] at hk ⊢
                    have hk' : keptB s.2.length (e1.keep l) (h1.set o (.iter 1 [])) = true := by
                      rw [hh2] at hk
                      simpa [keptB, List.take_take] using hk
                    rw [hk', hh2]
                  simp only [mapK, hround, w1 k (by omega), KR.bind]

theorem mapLoopF_ok {f : Nat} {b : Code} {m : MapLoop} (hm : C.roundsOf f b = some m) {rest : TE → TH → Nat → Kont → Res} (hr : RestOk C f m rest) {E : TE} {e : Env} {H : TH} {n : Nat} {h : Heap} {k : Kont} {r : Bool} (RE : RepE E e) (R : Rep H n h) (hs : mapLoopF C rest m f E H n k = .ok r) :
    ∃ out e' h' E' H' n', exec C f (.loop b) e h = some (out, e', h') ∧ RepE E' e' ∧ Rep H' n' h' ∧ k out E' H' n' = .ok r := by
  unfold mapLoopF at hs
  rw [evalT_eq C RE] at hs
  split at hs <;> first | (cases hs; done) | skip
  rename_i o ho
  split at hs <;> first | (cases hs; done) | skip
  rename_i es l hit hl
  split at hs <;> first | (cases hs; done) | skip
  rename_i h0 hh0
  split at hs <;> first | (cases hs; done) | skip
  rename_i hst
  have R1 : Rep (H.put none o (some (.ob (.iter 1 [])))) n (h.set o (.iter 1 [])) := R.set ⟨rfl, fun r => by simp⟩ (iterT_lt R hit)
  have e0 := envFor_keep RE l
  have hh := heapOf_ok R1 hh0
  subst hh
  rw [e0] at hs hst
  obtain ⟨k1, ps, w1, w2⟩ := roundsF_ok C hr es hs
  rw [List.reverse_nil, List.nil_append] at w2
  generalize hs1 : ((ps.find? fun s => !stEq s (e.keep l, h.set o (.iter 1 []))).getD (e.keep l, h.set o (.iter 1 []))) = s1 at w2
  obtain ⟨k2, qs, w3, w4⟩ := roundsF_ok C hr es w2
  rw [List.reverse_nil, List.nil_append] at w4
  split at w4 <;> first | (cases w4; done) | skip
  rename_i hall
  split at w4 <;> first | (cases w4; done) | skip
  rename_i H1 hii hH1
  have R2 := ofHeap_ok s1.2 Rep.nil hH1
  rw [Nat.zero_add, List.nil_append] at R2
  obtain ⟨out, e2, h2, E2, H2, n2, v1, v2, v3, v4⟩ := hr.ok (((RepE.ofEnv s1.1).sto m.t0 (.tup [.bool false])).sto m.t1 (.bool false)) R2 w4
  obtain ⟨k3, hk3⟩ := exq_of C v1
  have hrounds : ∀ K, max (max k1 k2) k3 ≤ K → mapRoundsK f (exq C f m K) m l o es (e.keep l, h.set o (.iter 1 [])) = .ok s1 := by
    intro K hK
    unfold mapRoundsK
    rw [hst]
    simp only [w1 K (by omega), KR.bind, hs1, w3 K (by omega), hall]
  have hout : out ≠ .nrm ∧ k out E2 H2 n2 = .ok r := by
    cases out <;> first | (cases v4; done) | exact ⟨by simp, v4⟩
  have hloop : mapLoopK C m f (exq C f m (max (max k1 k2) k3)) e h = .ok (out, e2, h2) := by
    unfold mapLoopK
    rw [ho]
    simp only
    rw [← iterT_eq R o, hit]
    simp only [hl, hrounds _ (Nat.le_refl _), KR.bind, hii]
    rw [hk3 _ (by omega)]
    obtain ⟨hne, _⟩ := hout
    cases out <;> first | exact absurd rfl hne | rfl
  have hle := mapLoopK_le C m f (ex := exq C f m (max (max k1 k2) k3)) (ex' := execF C (max (max k1 k2) k3) f m.rest) (fun e h => by
    intro y hy
    unfold exq at hy
    cases hx : execF C (max (max k1 k2) k3) f m.rest e h with
    | none => rw [hx] at hy; cases hy
    | some z => rw [hx] at hy; exact hy) e h _ (by rw [hloop]; rfl)
  exact ⟨out, e2, h2, E2, H2, n2, (exec_iff C).2 ⟨max (max k1 k2) k3 + 1, by simp only [execF, hm]; exact hle⟩, v2, v3, hout.2⟩

end

structure RunOk (C : Cfg) (f : Nat) (call : Caller) (c : Code) : Prop where
  ok : ∀ {E : TE} {e : Env} {H : TH} {n : Nat} {h : Heap} {k : Kont} {r : Bool}, RepE E e → Rep H n h → codeT C f c call E H n k = .ok r →
    ∃ out e' h' E' H' n', exec C f c e h = some (out, e', h') ∧ RepE E' e' ∧ Rep H' n' h' ∧ k out E' H' n' = .ok r

theorem codeT_both (hP : Plainly C) {call : Caller} (hc : CallerOk C call) {f : Nat} (c : Code) : RunOk C f call c ∧ ∀ a r, c = .seq a r → RunOk C f call r := by
  induction c with
  | skip => refine ⟨⟨?_⟩, fun a' r' h => by cases h⟩; intro E e H n h k r RE R hs; exact ⟨_, _, _, E, H, n, exec_skip f e h, RE, R, hs⟩
  | label l => refine ⟨⟨?_⟩, fun a' r' h => by cases h⟩; intro E e H n h k r RE R hs; exact ⟨_, _, _, E, H, n, exec_label f e h l, RE, R, hs⟩
  | exit id => refine ⟨⟨?_⟩, fun a' r' h => by cases h⟩; intro E e H n h k r RE R hs; exact ⟨_, _, _, E, H, n, exec_exit f e h id, RE, R, hs⟩
  | ret => refine ⟨⟨?_⟩, fun a' r' h => by cases h⟩; intro E e H n h k r RE R hs; exact ⟨_, _, _, E, H, n, exec_ret f e h, RE, R, hs⟩
  | seq a b iha ihb =>
    refine ⟨⟨?_⟩, fun a' r' h => by injection h with _ h; subst h; exact ihb.1⟩
    intro E e H n h k r RE R hs
    simp only [codeT] at hs
    obtain ⟨out, e1, h1, E1, H1, n1, q1, q2, q3, q4⟩ := iha.1.ok RE R hs
    rw [exec_seq, q1]
    simp only [Option.bind_some]
    cases out with
    | nrm => exact ihb.1.ok q2 q3 q4
    | ret => exact ⟨_, _, _, E1, H1, n1, rfl, q2, q3, q4⟩
    | exit id => exact ⟨_, _, _, E1, H1, n1, rfl, q2, q3, q4⟩
    | pan v => exact ⟨_, _, _, E1, H1, n1, rfl, q2, q3, q4⟩
  | cond c a b iha ihb =>
    refine ⟨⟨?_⟩, fun a' r' h => by cases h⟩
    intro E e H n h k r RE R hs
    simp only [codeT, evalT_eq C RE] at hs
    rw [exec_cond]
    cases hv : evalA C e c with
    | none => rw [hv] at hs; cases hs
    | some v =>
      rw [hv] at hs
      simp only [Option.bind_some]
      cases v <;> first | (cases hs; done) | skip
      rename_i bb
      cases bb with
      | true => exact iha.1.ok RE R hs
      | false => exact ihb.1.ok RE R hs
  | block id b ih =>
    refine ⟨⟨?_⟩, fun a' r' h => by cases h⟩
    intro E e H n h k r RE R hs
    simp only [codeT] at hs
    obtain ⟨out, e1, h1, E1, H1, n1, q1, q2, q3, q4⟩ := ih.1.ok RE R hs
    rw [exec_block, q1]
    simp only [Option.bind_some]
    cases out with
    | nrm => exact ⟨_, _, _, E1, H1, n1, rfl, q2, q3, q4⟩
    | ret => exact ⟨_, _, _, E1, H1, n1, rfl, q2, q3, q4⟩
    | pan v => exact ⟨_, _, _, E1, H1, n1, rfl, q2, q3, q4⟩
    | exit id' =>
      simp only at q4 ⊢
      cases hb : Nat.beq id' id with
      | true =>
        rw [hb] at q4
        have := Nat.eq_of_beq_eq_true hb
        subst this
        simp only [beq_self_eq_true, if_true]
        exact ⟨_, _, _, E1, H1, n1, rfl, q2, q3, q4⟩
      | false =>
        rw [hb] at q4
        have := Nat.ne_of_beq_eq_false hb
        simp only [beq_iff_eq, this, if_false]
        exact ⟨_, _, _, E1, H1, n1, rfl, q2, q3, q4⟩
  | scope b ih =>
    refine ⟨⟨?_⟩, fun a' r' h => by cases h⟩
    intro E e H n h k r RE R hs
    rw [exec_scope]
    exact ih.1.ok RE R hs
  | loop b ih =>
    refine ⟨⟨?_⟩, fun a' r' h => by cases h⟩
    intro E e H n h k r RE R hs
    cases hr : C.roundsOf f b with
    | some m =>
      have hmm : mapLoopOf b = some m := by
        unfold Cfg.roundsOf at hr
        split at hr
        · exact hr
        · cases hr
      obtain ⟨ops, o0, o1, hb, _⟩ := mapLoopOf_some hmm
      subst hb
      unfold codeT at hs
      simp only [hr] at hs
      exact mapLoopF_ok C hr ⟨fun RE R hs => (ih.2 _ _ rfl).ok RE R hs⟩ RE R hs
    | none =>
      unfold codeT at hs
      simp only [hr] at hs
      revert hs
      generalize loopFuel = fuel
      intro hs
      induction fuel generalizing E e H n h with
      | zero => cases hs
      | succ m ihm =>
        obtain ⟨out, e1, h1, E1, H1, n1, q1, q2, q3, q4⟩ := ih.1.ok RE R hs
        rw [exec_loop_none hr, q1]
        simp only [Option.bind_some]
        cases out with
        | nrm => exact ihm q2 q3 q4
        | ret => exact ⟨_, _, _, E1, H1, n1, rfl, q2, q3, q4⟩
        | exit id => exact ⟨_, _, _, E1, H1, n1, rfl, q2, q3, q4⟩
        | pan v => exact ⟨_, _, _, E1, H1, n1, rfl, q2, q3, q4⟩
  | region id ops draw =>
    refine ⟨⟨?_⟩, fun a' r' h => by cases h⟩
    intro E e H n h k r RE R hs
    simp only [codeT] at hs
    obtain ⟨out, e1, h1, E1, H1, n1, q1, q2, q3, q4⟩ := opsT_ok hP hc _ RE R hs
    rw [exec_region, q1]
    simp only [Option.bind_some]
    cases out with
    | nrm =>
      simp only at q4 ⊢
      refine ⟨_, _, _, _, H1, n1, rfl, ?_, q3, q4⟩
      cases C.live f id with
      | none => exact q2
      | some l => exact q2.keepT l
    | ret => cases draw with
      | true => cases q4
      | false => exact ⟨_, _, _, E1, H1, n1, rfl, q2, q3, q4⟩
    | exit id => cases draw with
      | true => cases q4
      | false => exact ⟨_, _, _, E1, H1, n1, rfl, q2, q3, q4⟩
    | pan v => cases draw with
      | true =>
        simp only at q4
        cases hpk : panOk ops with
        | true =>
          rw [hpk] at q4
          exact ⟨.pan v, e1.outside ops, h1, outT E1 ops, H1, n1, by simp only [if_true, hpk], RepE.outT q2 ops, q3, q4⟩
        | false => rw [hpk] at q4; cases q4
      | false => exact ⟨_, _, _, E1, H1, n1, rfl, q2, q3, q4⟩
  | rangeFunc g ps assign body iha ihb =>
    refine ⟨⟨?_⟩, fun a' r' h => by cases h⟩
    intro E e H n h k r RE R hs
    simp only [codeT, rangeT, evalT_eq C RE] at hs
    cases hg : evalA C e g with
    | none => rw [hg] at hs; cases hs
    | some gv =>
      rw [hg] at hs
      cases gv <;> first | (cases hs; done) | skip
      rename_i gn caps
      simp only at hs
      have R1 : Rep (H.put none n (some (.lp { st := .ready, pend := none, f, env := E, ps := ps.toList, assign, body }))) (n + 1) (h ++ [.loop { st := .ready, pend := none, f, env := e, ps := ps.toList, assign, body }]) :=
        R.push ⟨rfl, rfl, rfl, rfl, rfl, rfl, RE⟩
      obtain ⟨res, h1, H1, n1, q1, q2, q3⟩ := hc.ok R1 hs
      rw [callv_clo] at q1
      cases res with
      | pan v => cases q3
      | ret v =>
        cases hlp : loopT H1 n with
        | none => rw [hlp] at q3; cases q3
        | some rr =>
          rw [hlp] at q3
          obtain ⟨a, ha, hra⟩ := loopT_at q2 hlp
          have hlt : n < n1 := by
            refine hasT_lt q2 ?_
            unfold loopT at hlp
            unfold hasT
            cases hx : H1.get none n with
            | none => rw [hx] at hlp; cases hlp
            | some x => rfl
          have hn := R.len
          subst hn
          have R2 : Rep (H1.put none h.length (some (.ob (.cells [] 1)))) n1 (h1.set h.length (.cells [] 1)) := q2.set ⟨rfl, fun r => by simp⟩ hlt
          obtain ⟨kk, hkk⟩ := (call_iff C).1 q1
          have ex : ∀ out : Out, (out = .nrm ∧ a.pend = none ∨ (out = .ret ∧ a.pend = some .ret) ∨ ∃ id, out = .exit id ∧ a.pend = some (.exit id)) → (a.st == .busy) = false → exec C f (.rangeFunc g ps assign body) e h = some (out, e, h1.set h.length (.cells [] 1)) := by
            intro out ho hb
            refine (exec_succ C).2 ⟨kk, ?_⟩
            simp only [List.singleton_append] at hkk
            simp only [execF, hg, Option.bind_eq_bind, Option.bind_some, hkk, ha, hb, Bool.false_eq_true, if_false]
            rcases ho with ⟨rfl, hp⟩ | ⟨rfl, hp⟩ | ⟨id, rfl, hp⟩ <;> rw [hp]
          have hst := hra.st
          have hpe := hra.pend
          obtain ⟨st, pe, _, _, _, _, _⟩ := rr
          simp only at q3 hst hpe
          have fin : (a.st == .busy) = false → (match pe with | none => k .nrm E (H1.put none h.length (some (.ob (.cells [] 1)))) n1 | some .ret => k .ret E (H1.put none h.length (some (.ob (.cells [] 1)))) n1 | some (.exit id) => k (.exit id) E (H1.put none h.length (some (.ob (.cells [] 1)))) n1 | _ => .bad f 999983) = KR.ok r →
              ∃ out e' h' E' H' n', exec C f (.rangeFunc g ps assign body) e h = some (out, e', h') ∧ RepE E' e' ∧ Rep H' n' h' ∧ k out E' H' n' = .ok r := by
            intro hb hq
            cases pe with
            | none => exact ⟨_, _, _, E, _, _, ex .nrm (.inl ⟨rfl, hpe.symm⟩) hb, RE, R2, hq⟩
            | some c =>
              cases c <;> first | (cases hq; done) | skip
              · exact ⟨_, _, _, E, _, _, ex (.exit _) (.inr (.inr ⟨_, rfl, hpe.symm⟩)) hb, RE, R2, hq⟩
              · exact ⟨_, _, _, E, _, _, ex .ret (.inr (.inl ⟨rfl, hpe.symm⟩)) hb, RE, R2, hq⟩
          cases st with
          | busy => cases q3
          | ready => exact fin (by rw [← hst]; rfl) (by cases pe with | none => exact q3 | some c => cases c <;> exact q3)
          | done => exact fin (by rw [← hst]; rfl) (by cases pe with | none => exact q3 | some c => cases c <;> exact q3)
          | _ => exact fin (by rw [← hst]; rfl) (by cases pe with | none => exact q3 | some c => cases c <;> exact q3)
  | _ => refine ⟨⟨?_⟩, fun a' r' h => by cases h⟩; intro E e H n h k r RE R hs; cases hs

theorem codeT_ok (hP : Plainly C) {call : Caller} (hc : CallerOk C call) {f : Nat} (c : Code) {E : TE} {e : Env} {H : TH} {n : Nat} {h : Heap} {k : Kont} {r : Bool} (RE : RepE E e) (R : Rep H n h) (hs : codeT C f c call E H n k = .ok r) :
    ∃ out e' h' E' H' n', exec C f c e h = some (out, e', h') ∧ RepE E' e' ∧ Rep H' n' h' ∧ k out E' H' n' = .ok r := (codeT_both hP hc c).1.ok RE R hs

/-- What is told to the quick twin is what is told to the interpreter. -/
structure TwinOk (C : Cfg) (TP : PrimT) (FN : Nat → Option FI) (QP : CallQ) : Prop where
  prim : ∀ f q, TP f = some q → ∃ p, C.prim f = some p ∧ ∀ args h res y, q args (Rdr.of h) h.length = some (res, y) → p args h = some (res, y.app h)
  fn : ∀ f fi, TP f = none → FN f = some fi → C.prim f = none ∧ C.fn f = some fi
  whole : ∀ f q, QP f = some q → ∀ {args : List AV} {H : TH} {n : Nat} {k : KontC} {b : Bool} {h : Heap}, Rep H n h → q args H n k = .ok b → ∃ res h' H' n', Rv.call C f args h = some (res, h') ∧ Rep H' n' h' ∧ k res H' n' = .ok b

theorem callT_ok (hP : Plainly C) (hT : TwinOk C TP FN QP) {call : Caller} (hc : CallerOk C call) {f : Nat} {args : List AV} {H : TH} {n : Nat} {k : KontC} {b : Bool} {h : Heap} (R : Rep H n h) (hs : callT C TP FN QP f call args H n k = .ok b) :
    ∃ res h' H' n', Rv.call C f args h = some (res, h') ∧ Rep H' n' h' ∧ k res H' n' = .ok b := by
  unfold callT at hs
  cases hqp : QP f with
  | some q =>
    rw [hqp] at hs
    exact hT.whole f q hqp R hs
  | none =>
  rw [hqp] at hs
  simp only at hs
  cases hp : TP f with
  | some q =>
    rw [hp] at hs
    simp only [RT_eq R] at hs
    obtain ⟨p, hp1, hp2⟩ := hT.prim f q hp
    cases hq : q args (Rdr.of h) n with
    | none => rw [hq] at hs; cases hs
    | some y =>
      obtain ⟨res, y⟩ := y
      rw [hq] at hs
      obtain ⟨H', n', R', hk⟩ := effT_ok R hs
      rw [← R.len] at hq
      exact ⟨res, _, H', n', (call_prim (C := C) f h args p hp1).trans (hp2 _ _ _ _ hq), R', hk⟩
  | none =>
    rw [hp] at hs
    simp only at hs
    cases hf : FN f with
    | none => rw [hf] at hs; cases hs
    | some fi =>
      rw [hf] at hs
      simp only at hs
      obtain ⟨h1, h2⟩ := hT.fn f fi hp hf
      cases hl : Nat.beq args.length fi.params with
      | false => rw [hl] at hs; cases hs
      | true =>
        rw [hl] at hs
        simp only at hs
        have hl' : (args.length != fi.params) = false := by rw [Nat.eq_of_beq_eq_true hl]; simp
        obtain ⟨out, e1, hh1, E1, H1, n1, q1, q2, q3, q4⟩ := codeT_ok hP hc fi.body (RepE.args args) R hs
        have hcall := call_at (C := C) (f := f) (h := h) args fi h1 h2 hl' (T := ⟨hP.alone⟩)
        rw [q1] at hcall
        simp only [Option.bind_some] at hcall
        have hret : ∀ vs, resultsA C hh1 e1 fi.results = some vs → (resultsA C hh1 e1 fi.results).bind (fun vs => leaveA C f h (packA vs) hh1) = some (.ret (packA vs), hh1) := fun vs hv => by
          rw [hv]
          simp only [Option.bind_some, leaveA, hP.pure, Bool.false_eq_true, if_false]
        have hres : ∀ {kk : Res}, (match resultsF C (evalT C E1) (RT H1) fi.results with | none => (KR.bad f 999995 : Res) | some vs => k (.ret (packA vs)) H1 n1) = .ok b → ∃ vs, resultsA C hh1 e1 fi.results = some vs ∧ k (.ret (packA vs)) H1 n1 = .ok b := fun {kk} hq => by
          rw [evalT_eq C q2, RT_eq q3, results_of] at hq
          cases hv : resultsA C hh1 e1 fi.results with
          | none => rw [hv] at hq; cases hq
          | some vs => rw [hv] at hq; exact ⟨vs, rfl, hq⟩
        cases out with
        | nrm =>
          obtain ⟨vs, hv, hk⟩ := hres (kk := .bad 0 0) q4
          exact ⟨_, _, H1, n1, hcall.trans (hret vs hv), q3, hk⟩
        | ret =>
          obtain ⟨vs, hv, hk⟩ := hres (kk := .bad 0 0) q4
          exact ⟨_, _, H1, n1, hcall.trans (hret vs hv), q3, hk⟩
        | pan v => exact ⟨_, _, H1, n1, hcall, q3, q4⟩
        | exit id => cases q4

theorem roundT_ok (hP : Plainly C) {call : Caller} (hc : CallerOk C call) {o : Nat} {vs : List AV} {H : TH} {n : Nat} {k : KontC} {b : Bool} {h : Heap} (R : Rep H n h) (hs : roundT C call o vs H n k = .ok b) :
    ∃ res h' H' n', callv C (.yld o) vs h = some (res, h') ∧ Rep H' n' h' ∧ k res H' n' = .ok b := by
  unfold roundT at hs
  cases hl : loopT H o with
  | none => rw [hl] at hs; cases hs
  | some r =>
    rw [hl] at hs
    obtain ⟨st, pend, f, env, ps, assign, body⟩ := r
    cases st <;> first | (cases hs; done) | skip
    simp only at hs
    obtain ⟨a, ha, hra⟩ := loopT_at R hl
    cases hb : Nat.beq ps.length vs.length with
    | false => rw [hb] at hs; cases hs
    | true =>
      rw [hb] at hs
      simp only at hs
      have e1 : a.f = f := hra.f.symm
      have e2 : a.assign = assign := hra.assign.symm
      have e3 : a.body = body := hra.body.symm
      have e4 : a.ps = ps := hra.ps.symm
      obtain ⟨out, ee1, h1, E1, H1, n1, q1, q2, q3, q4⟩ := codeT_ok hP hc assign (RepE.puts (ts := ps) (vs := vs) hra.env) R hs
      cases out <;> first | (cases q4; done) | skip
      cases hl1 : loopT H1 o with
      | none => rw [hl1] at q4; cases q4
      | some r1 =>
        rw [hl1] at q4
        obtain ⟨st1, pend1, f1, env1, ps1, assign1, body1⟩ := r1
        cases st1 <;> first | (cases q4; done) | skip
        simp only at q4
        obtain ⟨a1, ha1, hra1⟩ := loopT_at q3 hl1
        have lt_of : ∀ {H2 : TH} {n2 : Nat} {h2 : Heap} {r2}, Rep H2 n2 h2 → loopT H2 o = some r2 → o < n2 := fun {H2 n2 h2 r2} RR hh => by
          refine hasT_lt RR ?_
          unfold loopT at hh
          unfold hasT
          cases hx : H2.get none o with
          | none => rw [hx] at hh; cases hh
          | some x => rfl
        have Rb : Rep (H1.put none o (some (.lp ⟨.busy, pend1, f1, env1, ps1, assign1, body1⟩))) n1 (h1.set o (.loop { a1 with st := .busy })) :=
          q3.set ⟨rfl, hra1.pend, hra1.f, hra1.ps, hra1.assign, hra1.body, hra1.env⟩ (lt_of q3 hl1)
        obtain ⟨out2, ee2, h2, E2, H2, n2, w1, w2, w3, w4⟩ := codeT_ok hP hc body q2 Rb q4
        cases hl2 : loopT H2 o with
        | none => rw [hl2] at w4; cases w4
        | some r2 =>
          rw [hl2] at w4
          obtain ⟨st2, pend2, f2, env2, ps2, assign2, body2⟩ := r2
          obtain ⟨a2, ha2, hra2⟩ := loopT_at w3 hl2
          cases hj : jumpOf out2 with
          | none => rw [hj] at w4; cases w4
          | some j =>
            rw [hj] at w4
            simp only at w4
            have key := callv_yld_of (C := C) (vs := vs) ha hra.st.symm (by rw [e4]; exact Nat.eq_of_beq_eq_true hb) (by rw [e1, e2, e4]; exact q1) ha1 hra1.st.symm (by rw [e1, e3]; exact w1) ha2 hj
            cases j with
            | none => exact ⟨_, _, _, n2, key, w3.set (show RepO (.lp ⟨.ready, none, f2, env2, ps2, assign2, body2⟩) _ from ⟨rfl, rfl, hra2.f, hra2.ps, hra2.assign, hra2.body, hra2.env⟩) (lt_of w3 hl2), w4⟩
            | some c => exact ⟨_, _, _, n2, key, w3.set (show RepO (.lp ⟨.done, some c, f2, env2, ps2, assign2, body2⟩) _ from ⟨rfl, rfl, hra2.f, hra2.ps, hra2.assign, hra2.body, hra2.env⟩) (lt_of w3 hl2), w4⟩

theorem runT_ok (hP : Plainly C) (hT : TwinOk C TP FN QP) (fuel : Nat) : CallerOk C (runT C TP FN QP fuel) := by
  induction fuel with
  | zero => exact ⟨@fun g vs H n k b h R hs => by cases hs⟩
  | succ fuel ih =>
    refine ⟨@fun g vs H n k b h R hs => ?_⟩
    cases g <;> first | (cases hs; done) | skip
    · rename_i f caps
      obtain ⟨res, h', H', n', q1, q2, q3⟩ := callT_ok hP hT ih R hs
      exact ⟨res, h', H', n', (callv_clo h f caps vs).trans q1, q2, q3⟩
    · rename_i f first
      obtain ⟨res, h', H', n', q1, q2, q3⟩ := callT_ok hP hT ih R hs
      exact ⟨res, h', H', n', (callv_bnd h f first vs).trans q1, q2, q3⟩
    · exact roundT_ok hP ih R hs

noncomputable def kTrue : KontC := fun res _ n => match res with | .ret (.bool true) => .ok true | .ret (.bool false) => .bad 1 n | .ret _ => .bad 2 n | .pan _ => .bad 3 n
/-- A call without arguments that answers true. -/
theorem runs_fast (hP : Plainly C) (hT : TwinOk C TP FN QP) {f fuel : Nat} (hs : runT C TP FN QP fuel (.clo f []) [] .nil 0 kTrue = .ok true) : ∃ h', call C f [] [] = some (.ret (.bool true), h') := by
  obtain ⟨res, h', H', n', q1, q2, q3⟩ := (runT_ok hP hT fuel).ok Rep.nil hs
  rw [callv_clo] at q1
  unfold kTrue at q3
  split at q3 <;> first | (cases q3; done) | skip
  exact ⟨h', q1⟩
end Go.Rv
