/-
  What the quick twin answers the interpreter answers.
-/
import Derived.Test.YtpnafmeehjfnaaaGreatDoorPtJ
import Derived.Test.YtpnafmeehjfnaaaGreatDoorPtH
import Derived.Test.YtpnafmeehjfnaaaGreatDoorPtI
import Derived.Test.YtpnafmeehjfnaaaGreatDoorRows
import Derived.LaidMore
import Derived.KernelRfl
import Derived.Test.YtpnafmeehjfnaaaGreatDoorProg
set_option linter.unusedSectionVars false
set_option linter.unusedSimpArgs false
set_option linter.unusedVariables false
set_option linter.defProp false
set_option maxRecDepth 100000
namespace Go.Rv
structure Plainly (C : Cfg) : Prop where
  pure : ∀ f, C.pure f = false
  alone : ∀ f, C.alone f = false
  quiet : ∀ f t, C.quiet f t = false
variable {C : Cfg} {TP : PrimT} {FN : Nat → Option FI} {QP : CallQ}
structure CallerOk (C : Cfg) (call : Caller) : Prop where
  ok : ∀ {g : AV} {vs : List AV} {H : TH} {n : Nat} {k : KontC} {b : Bool} {h : Heap}, Rep H n h → call g vs H n k = .ok b →
  ∃ res h' H' n', callv C g vs h = some (res, h') ∧ Rep H' n' h' ∧ k res H' n' = .ok b
theorem stepT_ok {f : Nat} {ops : Array Oper} {o : Oper} {E : TE} {e : Env} {H : TH} {n : Nat} {h : Heap} {k : TE → TH → Nat → Res} {b : Bool} (RE : RepE E e) (R : Rep H n h) (hs : Rv.stepT C f ops o E H n k = .ok b) :
    ∃ v h' H' n', opA C f e h o = some (v, h') ∧ Rep H' n' h' ∧ looseAll C f ops (dkey o) e h' = true ∧ k (Rv.putD E o.dst v) H' n' = .ok b := by
  unfold Rv.stepT at hs
  rw [evalT_eq C RE, RT_eq R] at hs
  have hop := opF_eq C f e h o
  rw [R.len] at hop
  cases hx : opF C f o.dst o.op (evalA C e) (Rdr.of h) n with
  | none => rw [hx] at hs; cases hs
  | some y =>
    obtain ⟨v, y⟩ := y
    rw [hx] at hs hop
    obtain ⟨H', n', R', hk⟩ := effT_ok R hs
    cases hl : looseT C f ops (dkey o) E H' n' with
    | false => rw [hl] at hk; cases hk
    | true =>
      rw [hl] at hk
      simp only [AV.force_eq] at hk
      exact ⟨v, _, H', n', hop.symm, R', (looseT_eq C RE R').symm.trans hl, hk⟩
theorem opsT_ok (hP : Plainly C) {f : Nat} {ops : Array Oper} {call : Caller} (hc : CallerOk C call) : ∀ (l : List Oper) {E : TE} {e : Env} {H : TH} {n : Nat} {h : Heap} {k : Kont} {b : Bool}, RepE E e → Rep H n h → opsT C f ops l call E H n k = .ok b →
    ∃ out e' h' E' H' n', Rv.ops C f ops l e h = some (out, e', h') ∧ RepE E' e' ∧ Rep H' n' h' ∧ k out E' H' n' = .ok b
  | [], E, e, H, n, h, k, b, RE, R, hs => ⟨.nrm, e, h, E, H, n, ops_nil f e h ops, RE, R, hs⟩
  | o :: r, E, e, H, n, h, k, b, RE, R, hs => by
    rw [ops_cons]
    simp only [opsT] at hs
    cases hq : stageT C f ops o with
    | some q =>
      rw [hq] at hs
      obtain ⟨hg, hcl, hs⟩ := stage_ok C hq hs
      obtain ⟨v, h1, H1, n1, q1, q2, q3, q4⟩ := stepT_ok RE R hs
      have hw : wantA ops e o = some true := by unfold wantA; rw [hg]
      have hp : panO C e o = none := by
        cases hpo : panO C e o with
        | none => rfl
        | some u =>
          exfalso
          unfold panO at hpo
          split at hpo <;> first | (cases hpo; done) | skip
          rename_i x hx
          unfold opA at q1
          simp only [hx, reduceCtorEq] at q1
      simp only [hw, hcl, hp, q1, Option.bind_some, q3, if_true]
      exact opsT_ok hP hc r (RE.putD o.dst v) q2 q4
    | none =>
    rw [hq] at hs
    simp only [wantT_eq RE] at hs
    cases hw : wantA ops e o with
    | none => rw [hw] at hs; cases hs
    | some w =>
      rw [hw] at hs
      simp only [Option.bind_some]
      cases w with
      | false => exact opsT_ok hP hc r (RE.putD o.dst (.tup [])) R hs
      | true =>
        simp only at hs ⊢
        cases hcl : callee o with
        | none =>
          rw [hcl] at hs
          have hpp : panT C E o = panO C e o := by unfold panT panO; rw [evalT_eq C RE]; rfl
          rw [hpp] at hs
          simp only at hs ⊢
          cases hp : panO C e o with
          | some v =>
            rw [hp] at hs
            exact ⟨_, _, _, E, H, n, rfl, RE, R, hs⟩
          | none =>
          rw [hp] at hs
          simp only at hs ⊢
          obtain ⟨v, h1, H1, n1, q1, q2, q3, q4⟩ := stepT_ok RE R hs
          simp only [q1, Option.bind_some, q3, if_true]
          exact opsT_ok hP hc r (RE.putD o.dst v) q2 q4
        | some ga =>
          obtain ⟨g, args⟩ := ga
          rw [hcl] at hs
          simp only [stepCT, evalT_eq C RE] at hs ⊢
          cases hm : mapO (evalA C e) args.toList with
          | none => rw [hm] at hs; cases hs
          | some vs =>
            rw [hm] at hs
            simp only [Option.bind_some] at hs ⊢
            cases hg : evalA C e g with
            | none => rw [hg] at hs; cases hs
            | some gv =>
              rw [hg] at hs
              simp only [Option.bind_some] at hs ⊢
              have hq : ((o.dst.map (C.quiet f)).getD false && !pureV C gv) = false := by
                cases o.dst <;> simp [hP.quiet]
              rw [hq]
              simp only [Bool.false_eq_true, if_false]
              obtain ⟨res, h1, H1, n1, q1, q2, q3⟩ := hc.ok R hs
              rw [q1]
              simp only [Option.bind_some]
              cases res with
              | pan v => exact ⟨_, _, _, E, H1, n1, rfl, RE, q2, q3⟩
              | ret v =>
                simp only at q3 ⊢
                cases hl : looseT C f ops (dkey o) E H1 n1 with
                | false => rw [hl] at q3; cases q3
                | true =>
                  rw [hl] at q3
                  simp only [AV.force_eq] at q3
                  rw [looseT_eq C RE q2] at hl
                  simp only [hl, if_true]
                  exact opsT_ok hP hc r (RE.putD o.dst v) q2 q3
theorem exec_loop_none {f : Nat} {e : Env} {h : Heap} {b : Code} (hr : C.roundsOf f b = none) : exec C f (.loop b) e h = (exec C f b e h).bind fun x => match x.1 with | .nrm => exec C f (.loop b) x.2.1 x.2.2 | _ => some x := by
  apply ext_some
  intro r
  rw [exec_succ]
  constructor
  · rintro ⟨k, hk⟩
    simp only [execF, hr] at hk
    obtain ⟨⟨out, e1, h1⟩, hx, hr⟩ := Option.bind_eq_some_iff.1 hk
    refine Option.bind_eq_some_iff.2 ⟨_, (exec_iff C).2 ⟨k, hx⟩, ?_⟩
    cases out <;> first | exact (exec_iff C).2 ⟨k, hr⟩ | exact hr
  · intro hk
    obtain ⟨⟨out, e1, h1⟩, hx, hr'⟩ := Option.bind_eq_some_iff.1 hk
    obtain ⟨k1, hk1⟩ := (exec_iff C).1 hx
    cases out with
    | nrm =>
      obtain ⟨k2, hk2⟩ := (exec_iff C).1 hr'
      refine ⟨max k1 k2, ?_⟩
      simp only [execF, hr]
      exact Option.bind_eq_some_iff.2 ⟨_, execF_le C (Nat.le_max_left _ _) _ _ _ _ _ hk1, execF_le C (Nat.le_max_right _ _) _ _ _ _ _ hk2⟩
    | _ => exact ⟨k1, by simp only [execF, hr]; exact Option.bind_eq_some_iff.2 ⟨_, hk1, hr'⟩⟩
theorem heapGo_ok {H : TH} {h : Heap} : ∀ (n : Nat) {acc h' : Heap}, (∀ i, i < n → RepX (H.get none i) h[i]?) → heapGo H n acc = some h' → h' = h.take n ++ acc
  | 0, acc, h', _, hs => by simp only [heapGo, Option.some.injEq] at hs; simp [hs]
  | n + 1, acc, h', R, hs => by
    simp only [heapGo] at hs
    have hr := R n (Nat.lt_succ_self n)
    cases hx : H.get none n with
    | none => rw [hx] at hs; cases hs
    | some x =>
      cases x with
      | lp r => rw [hx] at hs; cases hs
      | ob x =>
        rw [hx] at hs hr
        simp only at hs
        rw [heapGo_ok n (fun i hi => R i (by omega)) hs]
        cases hy : h[n]? with
        | none => rw [hy] at hr; exact hr.elim
        | some y =>
          rw [hy] at hr
          obtain ⟨rfl, _⟩ := hr
          have := List.take_add_one (l := h) (i := n)
          rw [this, hy]
          simp
theorem heapOf_ok {H : TH} {n : Nat} {h h' : Heap} (R : Rep H n h) (hs : heapOf H n = some h') : h' = h := by
  have := heapGo_ok n (fun i _ => R.at_ i) hs
  rw [this, ← R.len]
  simp
theorem ofHeap_ok : ∀ (l : List AObj) {n : Nat} {H H' : TH} {h : Heap}, Rep H n h → ofHeap l n H = some H' → Rep H' (n + l.length) (h ++ l)
  | [], n, H, H', h, R, hs => by simp only [ofHeap, Option.some.injEq] at hs; subst hs; simpa using R
  | x :: r, n, H, H', h, R, hs => by
    simp only [ofHeap] at hs
    cases hx : isLp x with
    | true => rw [hx] at hs; cases hs
    | false =>
      rw [hx] at hs
      have := ofHeap_ok r (R.push (isLp_no hx)) hs
      rw [List.append_assoc] at this
      simpa [Nat.add_comm, Nat.add_left_comm] using this
theorem Rep.nil : Rep .nil 0 [] := ⟨rfl, fun i => by simp [QT.get_nil, RepX]⟩
section
variable (C)
noncomputable def exq (f : Nat) (m : MapLoop) (K : Nat) (e : Env) (h : Heap) : KR (Out × Env × Heap) := match execF C K f m.rest e h with
  | some x => .ok x
  | none => .bad 0 0
structure RestOk (f : Nat) (m : MapLoop) (rest : TE → TH → Nat → Kont → Res) : Prop where
  ok : ∀ {E : TE} {e : Env} {H : TH} {n : Nat} {h : Heap} {k : Kont} {r : Bool}, RepE E e → Rep H n h → rest E H n k = .ok r →
    ∃ out e' h' E' H' n', exec C f m.rest e h = some (out, e', h') ∧ RepE E' e' ∧ Rep H' n' h' ∧ k out E' H' n' = .ok r
theorem exq_of {f : Nat} {m : MapLoop} {e : Env} {h : Heap} {x : Out × Env × Heap} (hx : exec C f m.rest e h = some x) : ∃ k0, ∀ K, k0 ≤ K → exq C f m K e h = .ok x := by
  obtain ⟨k0, hk⟩ := (exec_iff C).1 hx
  refine ⟨k0, fun K hK => ?_⟩
  unfold exq
  rw [execF_le C hK _ _ _ _ _ hk]
theorem iterT_eq {H : TH} {n : Nat} {h : Heap} (R : Rep H n h) (o : Nat) : iterT H o = h.iterAt o := congrFun (congrArg Rdr.iter (RT_eq R)) o
theorem iterT_lt {H : TH} {n : Nat} {h : Heap} (R : Rep H n h) {o : Nat} {q : Nat × List (AV × AV)} (hq : iterT H o = some q) : o < n := by
  refine hasT_lt R ?_
  unfold iterT at hq
  unfold hasT
  cases hx : H.get none o with
  | none => rw [hx] at hq; cases hq
  | some x => rfl
theorem envFor_keep {E : TE} {e : Env} (RE : RepE E e) : ∀ l, envFor E l = e.keep l
  | [] => rfl
  | t :: r => by
    simp only [envFor, List.map_cons, Env.keep, RE t]
    congr 1
    exact envFor_keep RE r
theorem heapOf_take {H : TH} {n m : Nat} {h h' : Heap} (R : Rep H n h) (hs : heapOf H m = some h') : h' = h.take m := by
  have := heapGo_ok (h := h) m (fun i _ => R.at_ i) hs
  simpa using this
theorem RepE.sto {E : TE} {e : Env} (RE : RepE E e) (t : Nat) (v : AV) : RepE (stoT t v E) (e.put t v) := RE.putD (some t) v
theorem roundsF_ok {f : Nat} {m : MapLoop} {rest : TE → TH → Nat → Kont → Res} (hr : RestOk C f m rest) {l : List Nat} {o : Nat} : ∀ (es : List (AV × AV)) {acc : List (Env × Heap)} {s : Env × Heap} {K : List (Env × Heap) → Res} {b : Bool}, roundsF rest m f l o es acc s K = .ok b →
    ∃ k0 ps, (∀ k, k0 ≤ k → mapK (mapRoundK f (exq C f m k) m l o s) es = .ok ps) ∧ K (acc.reverse ++ ps) = .ok b
  | [], acc, s, K, b, hs => ⟨0, [], fun _ _ => rfl, by simpa [roundsF] using hs⟩
  | p :: r, acc, s, K, b, hs => by
    simp only [roundsF] at hs
    cases hH : ofHeap s.2 0 .nil with
    | none => rw [hH] at hs; cases hs
    | some Hs =>
      cases hlt : Nat.blt o s.2.length with
      | false => rw [hH, hlt] at hs; cases hs
      | true =>
        rw [hH, hlt] at hs
        simp only at hs
        have hlt : o < s.2.length := by simpa [Nat.blt_eq] using hlt
        have R0 := ofHeap_ok s.2 Rep.nil hH
        rw [Nat.zero_add, List.nil_append] at R0
        have R1 : Rep (Hs.put none o (some (.ob (.iter 2 [p])))) s.2.length (s.2.set o (.iter 2 [p])) := R0.set ⟨rfl, fun r => by simp⟩ hlt
        obtain ⟨out, e1, h1, E1, H1, n1, q1, q2, q3, q4⟩ := hr.ok (((RepE.ofEnv s.1).sto m.t0 (.tup [.bool true, p.1, p.2])).sto m.t1 (.bool true)) R1 hs
        cases out <;> first | (cases q4; done) | skip
        cases hi : iterT H1 o with
        | none => rw [hi] at q4; cases q4
        | some q =>
          obtain ⟨kk, es'⟩ := q
          rw [hi] at q4
          match kk, q4 with
          | 0, q4 => cases q4
          | 1, q4 => cases q4
          | kk + 3, q4 => cases q4
          | 2, q4 =>
            simp only at q4
            cases hh : heapOf (H1.put none o (some (.ob (.iter 1 [])))) s.2.length with
            | none => rw [hh] at q4; cases q4
            | some h2 =>
              cases hle : Nat.ble s.2.length n1 with
              | false => rw [hh, hle] at q4; cases q4
              | true =>
                rw [hh, hle] at q4
                simp only at q4
                have R2 : Rep (H1.put none o (some (.ob (.iter 1 [])))) n1 (h1.set o (.iter 1 [])) := q3.set ⟨rfl, fun r => by simp⟩ (iterT_lt q3 hi)
                have hh2 := heapOf_take R2 hh
                cases hk : keptB s.2.length (envFor E1 l) h2 with
                | false => rw [hk] at q4; cases q4
                | true =>
                  rw [hk] at q4
                  simp only at q4
                  obtain ⟨k0, ps, w1, w2⟩ := roundsF_ok hr r q4
                  obtain ⟨k1, hk1⟩ := exq_of C q1
                  refine ⟨max k0 k1, (envFor E1 l, h2) :: ps, fun k hkk => ?_, by simpa using w2⟩
                  have hround : mapRoundK f (exq C f m k) m l o s p = .ok (envFor E1 l, h2) := by
                    unfold mapRoundK
                    rw [hk1 k (by omega)]
                    simp only [KR.bind, ← iterT_eq q3 o, hi]
                    rw [envFor_keep q2] at hk ⊢
                    have hk' : keptB s.2.length (e1.keep l) (h1.set o (.iter 1 [])) = true := by
                      rw [hh2] at hk
                      simpa [keptB, List.take_take] using hk
                    rw [hk', hh2]
                  simp only [mapK, hround, w1 k (by omega), KR.bind]
theorem mapLoopF_ok {f : Nat} {b : Code} {m : MapLoop} (hm : C.roundsOf f b = some m) {rest : TE → TH → Nat → Kont → Res} (hr : RestOk C f m rest) {E : TE} {e : Env} {H : TH} {n : Nat} {h : Heap} {k : Kont} {r : Bool} (RE : RepE E e) (R : Rep H n h) (hs : mapLoopF C rest m f E H n k = .ok r) :
    ∃ out e' h' E' H' n', exec C f (.loop b) e h = some (out, e', h') ∧ RepE E' e' ∧ Rep H' n' h' ∧ k out E' H' n' = .ok r := by
  unfold mapLoopF at hs
  rw [evalT_eq C RE] at hs
  split at hs <;> first | (cases hs; done) | skip
  rename_i o ho
  split at hs <;> first | (cases hs; done) | skip
  rename_i es l hit hl
  split at hs <;> first | (cases hs; done) | skip
  rename_i h0 hh0
  split at hs <;> first | (cases hs; done) | skip
  rename_i hst
  have R1 : Rep (H.put none o (some (.ob (.iter 1 [])))) n (h.set o (.iter 1 [])) := R.set ⟨rfl, fun r => by simp⟩ (iterT_lt R hit)
  have e0 := envFor_keep RE l
  have hh := heapOf_ok R1 hh0
  subst hh
  rw [e0] at hs hst
  obtain ⟨k1, ps, w1, w2⟩ := roundsF_ok C hr es hs
  rw [List.reverse_nil, List.nil_append] at w2
  generalize hs1 : ((ps.find? fun s => !stEq s (e.keep l, h.set o (.iter 1 []))).getD (e.keep l, h.set o (.iter 1 []))) = s1 at w2
  obtain ⟨k2, qs, w3, w4⟩ := roundsF_ok C hr es w2
  rw [List.reverse_nil, List.nil_append] at w4
  split at w4 <;> first | (cases w4; done) | skip
  rename_i hall
  split at w4 <;> first | (cases w4; done) | skip
  rename_i H1 hii hH1
  have R2 := ofHeap_ok s1.2 Rep.nil hH1
  rw [Nat.zero_add, List.nil_append] at R2
  obtain ⟨out, e2, h2, E2, H2, n2, v1, v2, v3, v4⟩ := hr.ok (((RepE.ofEnv s1.1).sto m.t0 (.tup [.bool false])).sto m.t1 (.bool false)) R2 w4
  obtain ⟨k3, hk3⟩ := exq_of C v1
  have hrounds : ∀ K, max (max k1 k2) k3 ≤ K → mapRoundsK f (exq C f m K) m l o es (e.keep l, h.set o (.iter 1 [])) = .ok s1 := by
    intro K hK
    unfold mapRoundsK
    rw [hst]
    simp only [w1 K (by omega), KR.bind, hs1, w3 K (by omega), hall]
  have hout : out ≠ .nrm ∧ k out E2 H2 n2 = .ok r := by
    cases out <;> first | (cases v4; done) | exact ⟨by simp, v4⟩
  have hloop : mapLoopK C m f (exq C f m (max (max k1 k2) k3)) e h = .ok (out, e2, h2) := by
    unfold mapLoopK
    rw [ho]
    simp only
    rw [← iterT_eq R o, hit]
    simp only [hl, hrounds _ (Nat.le_refl _), KR.bind, hii]
    rw [hk3 _ (by omega)]
    obtain ⟨hne, _⟩ := hout
    cases out <;> first | exact absurd rfl hne | rfl
  have hle := mapLoopK_le C m f (ex := exq C f m (max (max k1 k2) k3)) (ex' := execF C (max (max k1 k2) k3) f m.rest) (fun e h => by
    intro y hy
    unfold exq at hy
    cases hx : execF C (max (max k1 k2) k3) f m.rest e h with
    | none => rw [hx] at hy; cases hy
    | some z => rw [hx] at hy; exact hy) e h _ (by rw [hloop]; rfl)
  exact ⟨out, e2, h2, E2, H2, n2, (exec_iff C).2 ⟨max (max k1 k2) k3 + 1, by simp only [execF, hm]; exact hle⟩, v2, v3, hout.2⟩
end
structure RunOk (C : Cfg) (f : Nat) (call : Caller) (c : Code) : Prop where
  ok : ∀ {E : TE} {e : Env} {H : TH} {n : Nat} {h : Heap} {k : Kont} {r : Bool}, RepE E e → Rep H n h → codeT C f c call E H n k = .ok r →
    ∃ out e' h' E' H' n', exec C f c e h = some (out, e', h') ∧ RepE E' e' ∧ Rep H' n' h' ∧ k out E' H' n' = .ok r
theorem codeT_both (hP : Plainly C) {call : Caller} (hc : CallerOk C call) {f : Nat} (c : Code) : RunOk C f call c ∧ ∀ a r, c = .seq a r → RunOk C f call r := by
  induction c with
  | skip => refine ⟨⟨?_⟩, fun a' r' h => by cases h⟩; intro E e H n h k r RE R hs; exact ⟨_, _, _, E, H, n, exec_skip f e h, RE, R, hs⟩
  | label l => refine ⟨⟨?_⟩, fun a' r' h => by cases h⟩; intro E e H n h k r RE R hs; exact ⟨_, _, _, E, H, n, exec_label f e h l, RE, R, hs⟩
  | exit id => refine ⟨⟨?_⟩, fun a' r' h => by cases h⟩; intro E e H n h k r RE R hs; exact ⟨_, _, _, E, H, n, exec_exit f e h id, RE, R, hs⟩
  | ret => refine ⟨⟨?_⟩, fun a' r' h => by cases h⟩; intro E e H n h k r RE R hs; exact ⟨_, _, _, E, H, n, exec_ret f e h, RE, R, hs⟩
  | seq a b iha ihb =>
    refine ⟨⟨?_⟩, fun a' r' h => by injection h with _ h; subst h; exact ihb.1⟩
    intro E e H n h k r RE R hs
    simp only [codeT] at hs
    obtain ⟨out, e1, h1, E1, H1, n1, q1, q2, q3, q4⟩ := iha.1.ok RE R hs
    rw [exec_seq, q1]
    simp only [Option.bind_some]
    cases out with
    | nrm => exact ihb.1.ok q2 q3 q4
    | ret => exact ⟨_, _, _, E1, H1, n1, rfl, q2, q3, q4⟩
    | exit id => exact ⟨_, _, _, E1, H1, n1, rfl, q2, q3, q4⟩
    | pan v => exact ⟨_, _, _, E1, H1, n1, rfl, q2, q3, q4⟩
  | cond c a b iha ihb =>
    refine ⟨⟨?_⟩, fun a' r' h => by cases h⟩
    intro E e H n h k r RE R hs
    simp only [codeT, evalT_eq C RE] at hs
    rw [exec_cond]
    cases hv : evalA C e c with
    | none => rw [hv] at hs; cases hs
    | some v =>
      rw [hv] at hs
      simp only [Option.bind_some]
      cases v <;> first | (cases hs; done) | skip
      rename_i bb
      cases bb with
      | true => exact iha.1.ok RE R hs
      | false => exact ihb.1.ok RE R hs
  | block id b ih =>
    refine ⟨⟨?_⟩, fun a' r' h => by cases h⟩
    intro E e H n h k r RE R hs
    simp only [codeT] at hs
    obtain ⟨out, e1, h1, E1, H1, n1, q1, q2, q3, q4⟩ := ih.1.ok RE R hs
    rw [exec_block, q1]
    simp only [Option.bind_some]
    cases out with
    | nrm => exact ⟨_, _, _, E1, H1, n1, rfl, q2, q3, q4⟩
    | ret => exact ⟨_, _, _, E1, H1, n1, rfl, q2, q3, q4⟩
    | pan v => exact ⟨_, _, _, E1, H1, n1, rfl, q2, q3, q4⟩
    | exit id' =>
      simp only at q4 ⊢
      cases hb : Nat.beq id' id with
      | true =>
        rw [hb] at q4
        have := Nat.eq_of_beq_eq_true hb
        subst this
        simp only [beq_self_eq_true, if_true]
        exact ⟨_, _, _, E1, H1, n1, rfl, q2, q3, q4⟩
      | false =>
        rw [hb] at q4
        have := Nat.ne_of_beq_eq_false hb
        simp only [beq_iff_eq, this, if_false]
        exact ⟨_, _, _, E1, H1, n1, rfl, q2, q3, q4⟩
  | scope b ih =>
    refine ⟨⟨?_⟩, fun a' r' h => by cases h⟩
    intro E e H n h k r RE R hs
    rw [exec_scope]
    exact ih.1.ok RE R hs
  | loop b ih =>
    refine ⟨⟨?_⟩, fun a' r' h => by cases h⟩
    intro E e H n h k r RE R hs
    cases hr : C.roundsOf f b with
    | some m =>
      have hmm : mapLoopOf b = some m := by
        unfold Cfg.roundsOf at hr
        split at hr
        · exact hr
        · cases hr
      obtain ⟨ops, o0, o1, hb, _⟩ := mapLoopOf_some hmm
      subst hb
      unfold codeT at hs
      simp only [hr] at hs
      exact mapLoopF_ok C hr ⟨fun RE R hs => (ih.2 _ _ rfl).ok RE R hs⟩ RE R hs
    | none =>
      unfold codeT at hs
      simp only [hr] at hs
      revert hs
      generalize loopFuel = fuel
      intro hs
      induction fuel generalizing E e H n h with
      | zero => cases hs
      | succ m ihm =>
        obtain ⟨out, e1, h1, E1, H1, n1, q1, q2, q3, q4⟩ := ih.1.ok RE R hs
        rw [exec_loop_none hr, q1]
        simp only [Option.bind_some]
        cases out with
        | nrm => exact ihm q2 q3 q4
        | ret => exact ⟨_, _, _, E1, H1, n1, rfl, q2, q3, q4⟩
        | exit id => exact ⟨_, _, _, E1, H1, n1, rfl, q2, q3, q4⟩
        | pan v => exact ⟨_, _, _, E1, H1, n1, rfl, q2, q3, q4⟩
  | region id ops draw =>
    refine ⟨⟨?_⟩, fun a' r' h => by cases h⟩
    intro E e H n h k r RE R hs
    simp only [codeT] at hs
    obtain ⟨out, e1, h1, E1, H1, n1, q1, q2, q3, q4⟩ := opsT_ok hP hc _ RE R hs
    rw [exec_region, q1]
    simp only [Option.bind_some]
    cases out with
    | nrm =>
      simp only at q4 ⊢
      refine ⟨_, _, _, _, H1, n1, rfl, ?_, q3, q4⟩
      cases C.live f id with
      | none => exact q2
      | some l => exact q2.keepT l
    | ret => cases draw with
      | true => cases q4
      | false => exact ⟨_, _, _, E1, H1, n1, rfl, q2, q3, q4⟩
    | exit id => cases draw with
      | true => cases q4
      | false => exact ⟨_, _, _, E1, H1, n1, rfl, q2, q3, q4⟩
    | pan v => cases draw with
      | true =>
        simp only at q4
        cases hpk : panOk ops with
        | true =>
          rw [hpk] at q4
          exact ⟨.pan v, e1.outside ops, h1, outT E1 ops, H1, n1, by simp only [if_true], RepE.outT q2 ops, q3, q4⟩
        | false => rw [hpk] at q4; cases q4
      | false => exact ⟨_, _, _, E1, H1, n1, rfl, q2, q3, q4⟩
  | rangeFunc g ps assign body iha ihb =>
    refine ⟨⟨?_⟩, fun a' r' h => by cases h⟩
    intro E e H n h k r RE R hs
    simp only [codeT, rangeT, evalT_eq C RE] at hs
    cases hg : evalA C e g with
    | none => rw [hg] at hs; cases hs
    | some gv =>
      rw [hg] at hs
      cases gv <;> first | (cases hs; done) | skip
      rename_i gn caps
      simp only at hs
      have R1 : Rep (H.put none n (some (.lp { st := .ready, pend := none, f, env := E, ps := ps.toList, assign, body }))) (n + 1) (h ++ [.loop { st := .ready, pend := none, f, env := e, ps := ps.toList, assign, body }]) :=
        R.push ⟨rfl, rfl, rfl, rfl, rfl, rfl, RE⟩
      obtain ⟨res, h1, H1, n1, q1, q2, q3⟩ := hc.ok R1 hs
      rw [callv_clo] at q1
      cases res with
      | pan v => cases q3
      | ret v =>
        cases hlp : loopT H1 n with
        | none => rw [hlp] at q3; cases q3
        | some rr =>
          rw [hlp] at q3
          obtain ⟨a, ha, hra⟩ := loopT_at q2 hlp
          have hlt : n < n1 := by
            refine hasT_lt q2 ?_
            unfold loopT at hlp
            unfold hasT
            cases hx : H1.get none n with
            | none => rw [hx] at hlp; cases hlp
            | some x => rfl
          have hn := R.len
          subst hn
          have R2 : Rep (H1.put none h.length (some (.ob (.cells [] 1)))) n1 (h1.set h.length (.cells [] 1)) := q2.set ⟨rfl, fun r => by simp⟩ hlt
          obtain ⟨kk, hkk⟩ := (call_iff C).1 q1
          have ex : ∀ out : Out, (out = .nrm ∧ a.pend = none ∨ (out = .ret ∧ a.pend = some .ret) ∨ ∃ id, out = .exit id ∧ a.pend = some (.exit id)) → (a.st == .busy) = false → exec C f (.rangeFunc g ps assign body) e h = some (out, e, h1.set h.length (.cells [] 1)) := by
            intro out ho hb
            refine (exec_succ C).2 ⟨kk, ?_⟩
            simp only [List.singleton_append] at hkk
            simp only [execF, hg, Option.bind_eq_bind, Option.bind_some, hkk, ha, hb, Bool.false_eq_true, if_false]
            rcases ho with ⟨rfl, hp⟩ | ⟨rfl, hp⟩ | ⟨id, rfl, hp⟩ <;> rw [hp]
          have hst := hra.st
          have hpe := hra.pend
          obtain ⟨st, pe, _, _, _, _, _⟩ := rr
          simp only at q3 hst hpe
          have fin : (a.st == .busy) = false → (match pe with | none => k .nrm E (H1.put none h.length (some (.ob (.cells [] 1)))) n1 | some .ret => k .ret E (H1.put none h.length (some (.ob (.cells [] 1)))) n1 | some (.exit id) => k (.exit id) E (H1.put none h.length (some (.ob (.cells [] 1)))) n1 | _ => .bad f 999983) = KR.ok r →
              ∃ out e' h' E' H' n', exec C f (.rangeFunc g ps assign body) e h = some (out, e', h') ∧ RepE E' e' ∧ Rep H' n' h' ∧ k out E' H' n' = .ok r := by
            intro hb hq
            cases pe with
            | none => exact ⟨_, _, _, E, _, _, ex .nrm (.inl ⟨rfl, hpe.symm⟩) hb, RE, R2, hq⟩
            | some c =>
              cases c <;> first | (cases hq; done) | skip
              · exact ⟨_, _, _, E, _, _, ex (.exit _) (.inr (.inr ⟨_, rfl, hpe.symm⟩)) hb, RE, R2, hq⟩
              · exact ⟨_, _, _, E, _, _, ex .ret (.inr (.inl ⟨rfl, hpe.symm⟩)) hb, RE, R2, hq⟩
          cases st with
          | busy => cases q3
          | ready => exact fin (by rw [← hst]; rfl) (by cases pe with | none => exact q3 | some c => cases c <;> exact q3)
          | done => exact fin (by rw [← hst]; rfl) (by cases pe with | none => exact q3 | some c => cases c <;> exact q3)
          | _ => exact fin (by rw [← hst]; rfl) (by cases pe with | none => exact q3 | some c => cases c <;> exact q3)
  | _ => refine ⟨⟨?_⟩, fun a' r' h => by cases h⟩; intro E e H n h k r RE R hs; cases hs
theorem codeT_ok (hP : Plainly C) {call : Caller} (hc : CallerOk C call) {f : Nat} (c : Code) {E : TE} {e : Env} {H : TH} {n : Nat} {h : Heap} {k : Kont} {r : Bool} (RE : RepE E e) (R : Rep H n h) (hs : codeT C f c call E H n k = .ok r) :
    ∃ out e' h' E' H' n', exec C f c e h = some (out, e', h') ∧ RepE E' e' ∧ Rep H' n' h' ∧ k out E' H' n' = .ok r := (codeT_both hP hc c).1.ok RE R hs
structure TwinOk (C : Cfg) (TP : PrimT) (FN : Nat → Option FI) (QP : CallQ) : Prop where
  prim : ∀ f q, TP f = some q → ∃ p, C.prim f = some p ∧ ∀ args h res y, q args (Rdr.of h) h.length = some (res, y) → p args h = some (res, y.app h)
  fn : ∀ f fi, TP f = none → FN f = some fi → C.prim f = none ∧ C.fn f = some fi
  whole : ∀ f q, QP f = some q → ∀ {args : List AV} {H : TH} {n : Nat} {k : KontC} {b : Bool} {h : Heap}, Rep H n h → q args H n k = .ok b → ∃ res h' H' n', Rv.call C f args h = some (res, h') ∧ Rep H' n' h' ∧ k res H' n' = .ok b
theorem callT_ok (hP : Plainly C) (hT : TwinOk C TP FN QP) {call : Caller} (hc : CallerOk C call) {f : Nat} {args : List AV} {H : TH} {n : Nat} {k : KontC} {b : Bool} {h : Heap} (R : Rep H n h) (hs : callT C TP FN QP f call args H n k = .ok b) :
    ∃ res h' H' n', Rv.call C f args h = some (res, h') ∧ Rep H' n' h' ∧ k res H' n' = .ok b := by
  unfold callT at hs
  cases hqp : QP f with
  | some q =>
    rw [hqp] at hs
    exact hT.whole f q hqp R hs
  | none =>
  rw [hqp] at hs
  simp only at hs
  cases hp : TP f with
  | some q =>
    rw [hp] at hs
    simp only [RT_eq R] at hs
    obtain ⟨p, hp1, hp2⟩ := hT.prim f q hp
    cases hq : q args (Rdr.of h) n with
    | none => rw [hq] at hs; cases hs
    | some y =>
      obtain ⟨res, y⟩ := y
      rw [hq] at hs
      obtain ⟨H', n', R', hk⟩ := effT_ok R hs
      rw [← R.len] at hq
      exact ⟨res, _, H', n', (call_prim (C := C) f h args p hp1).trans (hp2 _ _ _ _ hq), R', hk⟩
  | none =>
    rw [hp] at hs
    simp only at hs
    cases hf : FN f with
    | none => rw [hf] at hs; cases hs
    | some fi =>
      rw [hf] at hs
      simp only at hs
      obtain ⟨h1, h2⟩ := hT.fn f fi hp hf
      cases hl : Nat.beq args.length fi.params with
      | false => rw [hl] at hs; cases hs
      | true =>
        rw [hl] at hs
        simp only at hs
        have hl' : (args.length != fi.params) = false := by rw [Nat.eq_of_beq_eq_true hl]; simp
        obtain ⟨out, e1, hh1, E1, H1, n1, q1, q2, q3, q4⟩ := codeT_ok hP hc fi.body (RepE.args args) R hs
        have hcall := call_at (C := C) (f := f) (h := h) args fi h1 h2 hl' (T := ⟨hP.alone⟩)
        rw [q1] at hcall
        simp only [Option.bind_some] at hcall
        have hret : ∀ vs, resultsA C hh1 e1 fi.results = some vs → (resultsA C hh1 e1 fi.results).bind (fun vs => leaveA C f h (packA vs) hh1) = some (.ret (packA vs), hh1) := fun vs hv => by
          rw [hv]
          simp only [Option.bind_some, leaveA, hP.pure, Bool.false_eq_true, if_false]
        have hres : ∀ {kk : Res}, (match resultsF C (evalT C E1) (RT H1) fi.results with | none => (KR.bad f 999995 : Res) | some vs => k (.ret (packA vs)) H1 n1) = .ok b → ∃ vs, resultsA C hh1 e1 fi.results = some vs ∧ k (.ret (packA vs)) H1 n1 = .ok b := fun {kk} hq => by
          rw [evalT_eq C q2, RT_eq q3, results_of] at hq
          cases hv : resultsA C hh1 e1 fi.results with
          | none => rw [hv] at hq; cases hq
          | some vs => rw [hv] at hq; exact ⟨vs, rfl, hq⟩
        cases out with
        | nrm =>
          obtain ⟨vs, hv, hk⟩ := hres (kk := .bad 0 0) q4
          exact ⟨_, _, H1, n1, hcall.trans (hret vs hv), q3, hk⟩
        | ret =>
          obtain ⟨vs, hv, hk⟩ := hres (kk := .bad 0 0) q4
          exact ⟨_, _, H1, n1, hcall.trans (hret vs hv), q3, hk⟩
        | pan v => exact ⟨_, _, H1, n1, hcall, q3, q4⟩
        | exit id => cases q4
theorem roundT_ok (hP : Plainly C) {call : Caller} (hc : CallerOk C call) {o : Nat} {vs : List AV} {H : TH} {n : Nat} {k : KontC} {b : Bool} {h : Heap} (R : Rep H n h) (hs : roundT C call o vs H n k = .ok b) :
    ∃ res h' H' n', callv C (.yld o) vs h = some (res, h') ∧ Rep H' n' h' ∧ k res H' n' = .ok b := by
  unfold roundT at hs
  cases hl : loopT H o with
  | none => rw [hl] at hs; cases hs
  | some r =>
    rw [hl] at hs
    obtain ⟨st, pend, f, env, ps, assign, body⟩ := r
    cases st <;> first | (cases hs; done) | skip
    simp only at hs
    obtain ⟨a, ha, hra⟩ := loopT_at R hl
    cases hb : Nat.beq ps.length vs.length with
    | false => rw [hb] at hs; cases hs
    | true =>
      rw [hb] at hs
      simp only at hs
      have e1 : a.f = f := hra.f.symm
      have e2 : a.assign = assign := hra.assign.symm
      have e3 : a.body = body := hra.body.symm
      have e4 : a.ps = ps := hra.ps.symm
      obtain ⟨out, ee1, h1, E1, H1, n1, q1, q2, q3, q4⟩ := codeT_ok hP hc assign (RepE.puts (ts := ps) (vs := vs) hra.env) R hs
      cases out <;> first | (cases q4; done) | skip
      cases hl1 : loopT H1 o with
      | none => rw [hl1] at q4; cases q4
      | some r1 =>
        rw [hl1] at q4
        obtain ⟨st1, pend1, f1, env1, ps1, assign1, body1⟩ := r1
        cases st1 <;> first | (cases q4; done) | skip
        simp only at q4
        obtain ⟨a1, ha1, hra1⟩ := loopT_at q3 hl1
        have lt_of : ∀ {H2 : TH} {n2 : Nat} {h2 : Heap} {r2}, Rep H2 n2 h2 → loopT H2 o = some r2 → o < n2 := fun {H2 n2 h2 r2} RR hh => by
          refine hasT_lt RR ?_
          unfold loopT at hh
          unfold hasT
          cases hx : H2.get none o with
          | none => rw [hx] at hh; cases hh
          | some x => rfl
        have Rb : Rep (H1.put none o (some (.lp ⟨.busy, pend1, f1, env1, ps1, assign1, body1⟩))) n1 (h1.set o (.loop { a1 with st := .busy })) :=
          q3.set ⟨rfl, hra1.pend, hra1.f, hra1.ps, hra1.assign, hra1.body, hra1.env⟩ (lt_of q3 hl1)
        obtain ⟨out2, ee2, h2, E2, H2, n2, w1, w2, w3, w4⟩ := codeT_ok hP hc body q2 Rb q4
        cases hl2 : loopT H2 o with
        | none => rw [hl2] at w4; cases w4
        | some r2 =>
          rw [hl2] at w4
          obtain ⟨st2, pend2, f2, env2, ps2, assign2, body2⟩ := r2
          obtain ⟨a2, ha2, hra2⟩ := loopT_at w3 hl2
          cases hj : jumpOf out2 with
          | none => rw [hj] at w4; cases w4
          | some j =>
            rw [hj] at w4
            simp only at w4
            have key := callv_yld_of (C := C) (vs := vs) ha hra.st.symm (by rw [e4]; exact Nat.eq_of_beq_eq_true hb) (by rw [e1, e2, e4]; exact q1) ha1 hra1.st.symm (by rw [e1, e3]; exact w1) ha2 hj
            cases j with
            | none => exact ⟨_, _, _, n2, key, w3.set (show RepO (.lp ⟨.ready, none, f2, env2, ps2, assign2, body2⟩) _ from ⟨rfl, rfl, hra2.f, hra2.ps, hra2.assign, hra2.body, hra2.env⟩) (lt_of w3 hl2), w4⟩
            | some c => exact ⟨_, _, _, n2, key, w3.set (show RepO (.lp ⟨.done, some c, f2, env2, ps2, assign2, body2⟩) _ from ⟨rfl, rfl, hra2.f, hra2.ps, hra2.assign, hra2.body, hra2.env⟩) (lt_of w3 hl2), w4⟩
theorem runT_ok (hP : Plainly C) (hT : TwinOk C TP FN QP) (fuel : Nat) : CallerOk C (runT C TP FN QP fuel) := by
  induction fuel with
  | zero => exact ⟨@fun g vs H n k b h R hs => by cases hs⟩
  | succ fuel ih =>
    refine ⟨@fun g vs H n k b h R hs => ?_⟩
    cases g <;> first | (cases hs; done) | skip
    · rename_i f caps
      obtain ⟨res, h', H', n', q1, q2, q3⟩ := callT_ok hP hT ih R hs
      exact ⟨res, h', H', n', (callv_clo h f caps vs).trans q1, q2, q3⟩
    · rename_i f first
      obtain ⟨res, h', H', n', q1, q2, q3⟩ := callT_ok hP hT ih R hs
      exact ⟨res, h', H', n', (callv_bnd h f first vs).trans q1, q2, q3⟩
    · exact roundT_ok hP ih R hs
noncomputable def kTrue : KontC := fun res _ n => match res with | .ret (.bool true) => .ok true | .ret (.bool false) => .bad 1 n | .ret _ => .bad 2 n | .pan _ => .bad 3 n
theorem runs_fast (hP : Plainly C) (hT : TwinOk C TP FN QP) {f fuel : Nat} (hs : runT C TP FN QP fuel (.clo f []) [] .nil 0 kTrue = .ok true) : ∃ h', call C f [] [] = some (.ret (.bool true), h') := by
  obtain ⟨res, h', H', n', q1, q2, q3⟩ := (runT_ok hP hT fuel).ok Rep.nil hs
  rw [callv_clo] at q1
  unfold kTrue at q3
  split at q3 <;> first | (cases q3; done) | skip
  exact ⟨h', q1⟩
end Go.Rv
namespace Go.Rv
section
variable {C C' : Cfg}
theorem loud_same (h1 : C.pure = C'.pure) (h2 : C.imm = C'.imm) (h3 : C.quiet = C'.quiet) (f : Nat) (o : Oper) : loudOp C f o = loudOp C' f o := by unfold loudOp; rw [h1, h2, h3]
theorem touch_same (h2 : C.imm = C'.imm) (h3 : C.quiet = C'.quiet) (h5 : C.ty = C'.ty) (f : Nat) (o : Oper) : touchOp C f o = touchOp C' f o := by unfold touchOp; rw [h2, h3, h5]
theorem heapC_same (h1 : C.pure = C'.pure) (h2 : C.imm = C'.imm) (h3 : C.quiet = C'.quiet) (h5 : C.ty = C'.ty) (f : Nat) (x y : Oper) : heapC C f x y = heapC C' f x y := by
  unfold heapC
  rw [loud_same h1 h2 h3, loud_same h1 h2 h3, touch_same h2 h3 h5, touch_same h2 h3 h5]
theorem looseP_same (h1 : C.pure = C'.pure) (h2 : C.imm = C'.imm) (h3 : C.quiet = C'.quiet) (h4 : C.loose = C'.loose) (f i : Nat) (x y : Oper) : looseP C f i x y = looseP C' f i x y := by
  unfold looseP
  rw [loud_same h1 h2 h3, h4]
theorem looseI_same (h4 : C.loose = C'.loose) (f : Nat) (ops : Array Oper) (i : Nat) : looseI C f ops i = looseI C' f ops i := by unfold looseI; rw [h4]
theorem pairs_same (h1 : C.pure = C'.pure) (h2 : C.imm = C'.imm) (h3 : C.quiet = C'.quiet) (h4 : C.loose = C'.loose) (h5 : C.ty = C'.ty) (f : Nat) (ops : Array Oper) (b : Array Nat) : ∀ l, pairsOk C f ops b l = pairsOk C' f ops b l
  | [] => rfl
  | i :: r => by
    simp only [pairsOk, pairs_same h1 h2 h3 h4 h5 f ops b r, heapC_same h1 h2 h3 h5, looseP_same h1 h2 h3 h4, looseI_same h4]
theorem okB_same (h1 : C.pure = C'.pure) (h2 : C.imm = C'.imm) (h3 : C.quiet = C'.quiet) (h4 : C.loose = C'.loose) (h5 : C.ty = C'.ty) (f : Nat) (fn : Func) (b : Code) : okB C f fn b = okB C' f fn b := by
  have : ordOk C f = ordOk C' f := by
    funext ops
    simp only [ordOk, pairs_same h1 h2 h3 h4 h5]
  unfold okB
  rw [this]
theorem fnOk_same (h1 : C.pure = C'.pure) (h2 : C.imm = C'.imm) (h3 : C.quiet = C'.quiet) (h4 : C.loose = C'.loose) (h5 : C.ty = C'.ty) (P : Program) (f : Nat) : fnOk P C f = fnOk P C' f := by
  unfold fnOk
  simp only [okB_same h1 h2 h3 h4 h5]
end
def hasN (l : List Nat) (f : Nat) : Bool := l.any (Nat.beq f)
noncomputable def fnsL (P : Program) (l : List Nat) (f : Nat) : Option FI := match hasN l f with
  | true => fnsB P f
  | false => none
theorem fnsL_ok {P : Program} {T T0 : RvTold} {l : List Nat} (hl : l.all (fnOk P (T0.bare P)) = true) (h1 : T.pure = T0.pure) (h2 : T.imm = T0.imm) (h3 : T.quiet = T0.quiet) (h4 : T.loose = T0.loose) {f : Nat} {fi : FI} (hf : fnsL P l f = some fi) : (T.cfg P).fn f = some fi := by
  unfold fnsL at hf
  cases hh : hasN l f with
  | false => rw [hh] at hf; cases hf
  | true =>
    rw [hh] at hf
    simp only at hf
    obtain ⟨x, hx, hb⟩ := List.any_eq_true.1 hh
    obtain rfl := Nat.eq_of_beq_eq_true hb
    have := List.all_eq_true.1 hl f hx
    show fnsOf P (T.bare P) f = _
    rw [fnsB_eq (by rw [fnOk_same (C := T.bare P) (C' := T0.bare P) h1 h2 h3 h4 rfl]; exact this)]
    exact hf
abbrev Taken := Nat → Option ((List AV → Rdr → Nat → Option (CRes × Eff)) × (List AV → Heap → Option (CRes × Heap)))
def Taken.q (S : Taken) : PrimT := fun f => match S f with
  | some x => some x.1
  | none => none
def Taken.p (S : Taken) (f : Nat) : Option (List AV → Heap → Option (CRes × Heap)) := match S f with
  | some x => some x.2
  | none => none
theorem steps_twin {P : Program} {T T0 : RvTold} {S : Taken} {l : List Nat} (hS : ∀ f q p, S f = some (q, p) → TwinP q p) (hp : T.prim = S.p) (hl : l.all (fnOk P (T0.bare P)) = true) (h1 : T.pure = T0.pure) (h2 : T.imm = T0.imm) (h3 : T.quiet = T0.quiet) (h4 : T.loose = T0.loose) :
    TwinOk (T.cfg P) S.q (fnsL P l) (fun _ => none) where
  whole f q hq := by cases hq
  prim f q hq := by
    unfold Taken.q at hq
    cases hs : S f with
    | none => rw [hs] at hq; cases hq
    | some x =>
      rw [hs] at hq
      simp only [Option.some.injEq] at hq
      subst hq
      refine ⟨x.2, ?_, hS f x.1 x.2 hs⟩
      show T.prim f = _
      rw [hp]
      unfold Taken.p
      rw [hs]
  fn f fi hq hf := by
    refine ⟨?_, fnsL_ok hl h1 h2 h3 h4 hf⟩
    show T.prim f = none
    rw [hp]
    unfold Taken.q at hq
    unfold Taken.p
    cases hs : S f with
    | none => rfl
    | some x => rw [hs] at hq; cases hq
section
variable {P : Program}
theorem closed_call {T : RvTold} (hp : PrimOk P (T.cfg P)) (hm : P.follows .mixedOrders = true) (hcl : ∀ g v, T.glob g = some v → ∀ h, freezeV h 0 40 v = some v) (hgk : ∀ g v, T.glob g = some v → v ≠ .junk) {f : Nat} {v : AV} {h0 : Heap} (hpl : v.plain = true)
    (hc : call (T.cfg P) f [] [] = some (.ret v, h0)) {C2 : Cfg} (hG : C2.glob = T.glob) {s : Sim} {h : Heap} {w : World} (R : Rel s h w) (G : Glob C2 s h w) : CallOk P f [] s h w (.ret v) h := by
  let s0 : Sim := { s.cut 0 with good := ⟨goodOf (ordOk (T.cfg P)), fun _ _ => True, []⟩ }
  have Rz := rel_zero R
  have R0 : Rel s0 [] w := ⟨Rz.inj, fun o b hb => by simp [s0, Sim.cut] at hb, fun o b hb => by simp [s0, Sim.cut] at hb, Rz.imm⟩
  have G0 : GG (T.cfg P) (ordOk (T.cfg P)) s0 [] w := ⟨fun g x hg => (freeze_zero R (hcl g x hg h) (G g x (by rw [hG]; exact hg))).regood _, rfl⟩
  have run := RvTold.sound (T := T) (P := P) hgk hcl hp hm hc (vs := []) R0 G0 ⟨rfl, fun i c hi => by simp at hi⟩
  refine Calls.mono run fun e w' he => ?_
  obtain ⟨s', E, R', hv⟩ := he
  obtain ⟨E2, R2⟩ := ext_same R E.size (fun b hb => E.far b hb (fun o ho => by simp [s0, Sim.cut] at ho)) E.os E.tape E.output
  refine ⟨s, E2, R2, ?_⟩
  cases e with
  | returned u => exact plain_rel v hpl hv
  | panicked _ => exact hv.elim
  | outgrown => exact hv.elim
theorem const_ok {T : RvTold} (hp : PrimOk P (T.cfg P)) (hm : P.follows .mixedOrders = true) (hcl : ∀ g v, T.glob g = some v → ∀ h, freezeV h 0 40 v = some v) (hgk : ∀ g v, T.glob g = some v → v ≠ .junk) {f : Nat} {v : AV} {h0 : Heap} (hpl : v.plain = true)
    (hc : call (T.cfg P) f [] [] = some (.ret v, h0)) {C2 : Cfg} (hG : C2.glob = T.glob) {args : List AV} {h h' : Heap} {res : CRes} (hq : constP v args h = some (res, h')) {s : Sim} {w : World} {vs : List Value} (R : Rel s h w) (G : Glob C2 s h w) (H : VRs s h w args vs) : CallOk P f vs s h w res h' := by
  cases args with
  | cons a r => cases hq
  | nil =>
    simp only [constP, Option.some.injEq, Prod.mk.injEq] at hq
    obtain ⟨rfl, rfl⟩ := hq
    have : vs = [] := List.length_eq_zero_iff.1 H.1.symm
    subst this
    exact closed_call hp hm hcl hgk hpl hc hG R G
theorem prims_of {T : RvTold} {S : Taken} (hT : T.prim = S.p) (hpu : ∀ f, T.pure f = false) (hS : ∀ f q p, S f = some (q, p) → Known P f ∧ ∀ args h res h', p args h = some (res, h') → ∀ s w vs, Rel s h w → Glob (T.cfg P) s h w → VRs s h w args vs → CallOk P f vs s h w res h') : PrimOk P (T.cfg P) := fun f p hp => by
  have hp : T.prim f = some p := hp
  rw [hT] at hp
  unfold Taken.p at hp
  cases hs : S f with
  | none => rw [hs] at hp; cases hp
  | some x =>
    rw [hs] at hp
    simp only [Option.some.injEq] at hp
    subst hp
    obtain ⟨k1, k2⟩ := hS f x.1 x.2 hs
    refine ⟨k1, fun hpure => ?_, k2⟩
    have : T.pure f = true := hpure
    rw [hpu f] at this
    cases this
end
end Go.Rv
namespace Go.Rv
noncomputable section
variable (C : Cfg)
abbrev FetchF := TE → (AV → Res) → Res
def fetchB : Operand → Option (Bx FetchF)
  | .tmp t => (accB (Nat.succ t) t).use fun g => some ⟨fun E k => (g E).forceJ k⟩
  | .const v => match ofValue v with
    | some c => some ⟨fun _ k => k c⟩
    | none => none
  | .func f => some ⟨fun _ k => k (.clo f [])⟩
  | .global _ => none
theorem fetchB_eq (x : Operand) : (fetchB x).map Bx.fn = fetchT x := by
  cases x with
  | tmp t =>
    rfl
  | const v =>
    simp only [fetchB, fetchT]
    cases ofValue v <;> rfl
  | func f => rfl
  | global g => rfl
def getsB (x : Option (Bx FetchF)) (k : FetchF → Option Quick) : Option Quick := match x with
  | some b => b.use k
  | none => none
theorem getsB_eq (x : Operand) (k : FetchF → Option Quick) : getsB (fetchB x) k = (fetchT x).bind k := by
  rw [← fetchB_eq]
  cases fetchB x <;> rfl
def quickB (f : Nat) (ops : Array Oper) (o : Oper) (d : Nat) : Option Quick := (setB (Nat.succ d) d).use fun st => match o.op with
  | .move x => getsB (fetchB x) fun gx => some fun E H n k => gx E fun v => k (st v E) H n
  | .assign x => getsB (fetchB x) fun gx => some fun E H n k => gx E fun v => k (st v E) H n
  | .binOp op _ x y _ => match arithT op with
    | some ar => getsB (fetchB x) fun gx => getsB (fetchB y) fun gy => some fun E H n k => gx E fun u => gy E fun v => match u, v with
      | .int ka a, .int kb b => Bool.rec (motive := fun _ => Res) (.bad f 17000000) ((ar ka a b).force fun z => k (st z E) H n) (kindEq ka kb)
      | _, _ => Rv.stepT C f ops o E H n k
    | none => none
  | .load t a => match isPlain C t, (C.quiet f d) with
    | true, false => getsB (fetchB a) fun ga => some fun E H n k => ga E fun v => match v with
      | .ptr p off g => (match H.get none p with
        | some (.ob (.cells cs g')) => Bool.rec (motive := fun _ => Res) (.bad f 17000001) (nthT cs off fun z => k (st z E) H n) (Nat.beq g' g)
        | _ => .bad f 17000002)
      | _ => Rv.stepT C f ops o E H n k
    | _, _ => none
  | .fieldAddr t x j => match fieldOff C t j with
    | some off => getsB (fetchB x) fun gx => some fun E H n k => gx E fun v => match v with
      | .ptr p off' g => (match H.get none p with
        | some (.ob (.cells cs g')) => Bool.rec (motive := fun _ => Res) (.bad f 17000003) (k (st (.ptr p (Nat.add off' off) g) E) H n) (Nat.beq g' g)
        | _ => .bad f 17000004)
      | _ => Rv.stepT C f ops o E H n k
    | none => none
  | _ => none
theorem quickB_eq (f : Nat) (ops : Array Oper) (o : Oper) (d : Nat) : quickB C f ops o d = quickT C f ops o d := by
  unfold quickB
  rw [Bx.use_eq]
  unfold quickT
  generalize o.op = op
  cases op <;> first | rfl | skip
  case move x => simp only [getsB_eq]; cases fetchT x <;> rfl
  case assign x => simp only [getsB_eq]; cases fetchT x <;> rfl
  case binOp op t x y t' =>
    simp only [getsB_eq]
    cases arithT op <;> cases fetchT x <;> cases fetchT y <;> rfl
  case load t a =>
    simp only [getsB_eq]
    cases isPlain C t <;> cases C.quiet f d <;> cases fetchT a <;> rfl
  case fieldAddr t x j =>
    simp only [getsB_eq]
    cases fieldOff C t j <;> cases fetchT x <;> rfl
def stageB (f : Nat) (ops : Array Oper) (o : Oper) : Option Quick := match o.guard, o.dst, noLoose C f o with
  | none, some d, true => quickB C f ops o d
  | _, _, _ => none
theorem stageB_eq (f : Nat) (ops : Array Oper) (o : Oper) : stageB C f ops o = stageT C f ops o := by
  unfold stageB stageT
  cases o.guard <;> cases o.dst <;> cases noLoose C f o <;> first | rfl | exact quickB_eq C f ops o _
def opFB (f : Nat) (d : Option Nat) : Op → Bx ((Operand → Option AV) → Rdr → Nat → Option (AV × Eff))
  | .move x => ⟨fun ev _ _ => (ev x).bind fun v => some (v, .keep)⟩
  | .assign x => ⟨fun ev _ _ => (ev x).bind fun v => some (v, .keep)⟩
  | .pick c a b => ⟨fun ev _ _ => (ev c).bind fun c => match c with
    | .bool true => (ev a).bind fun v => some (v, .keep)
    | .bool false => (ev b).bind fun v => some (v, .keep)
    | _ => none⟩
  | .alloc t => ⟨fun _ _ n => (C.ty t).bind fun ti => if ti.zero.length == ti.size then some (.ptr n 0 0, .push (.cells ti.zero 0)) else none⟩
  | .box t x => ⟨fun ev _ n => (C.ty t).bind fun ti => (ev x).bind fun v => if v.cells.length == ti.size then
      if (d.map (C.imm f)).getD false then some (.ref v.cells, .keep) else some (.ptr n 0 0, .push (.cells v.cells 0))
    else none⟩
  | .build t parts => ⟨fun ev _ _ => (mapO (fun (p : Nat × Operand) => (ev p.2).map (p.1, ·)) parts.toList).bind fun ps => (buildA C t ps).bind fun v => some (v, .keep)⟩
  | .buildSlice t len parts => ⟨fun ev _ n => (mapO (fun (p : Nat × Operand) => (ev p.2).map (p.1, ·)) parts.toList).bind fun ps => (C.ty t).bind fun ti => match ti.td with
    | .slice el => (C.ty el).bind fun ti =>
      if ti.zero.length != ti.size || decide (len * ti.size > 16777216) then none else
      (fillA (fun i => some (i * ti.size, ti.size)) (copies len ti.zero) ps).bind fun cs =>
      if (d.map (C.imm f)).getD false then some (.lst (group len cs ti.size) ti.size (.exact len), .keep)
      else some (.msl n 0 len ti.size 0 (some len), .push (.cells cs 0))
    | _ => none⟩
  | .load t a => ⟨fun ev R _ => (ev a).bind fun x => if (d.map (C.quiet f)).getD false && !x.isRef then none else (loadF C R t x).bind fun v => some (v, .keep)⟩
  | .store t a x => ⟨fun ev R _ => (ev a).bind fun a => (ev x).bind fun x => (storeF C R t a x).bind fun y => some (.tup [], y)⟩
  | .nilCheck x => ⟨fun ev R _ => (ev x).bind fun v => match v with
    | .ptr o off g => if R.live o g then some (.ptr o off g, .keep) else none
    | .ref cs => some (.ref cs, .keep)
    | .clo f cs => some (.clo f cs, .keep)
    | .bnd f cs => some (.bnd f cs, .keep)
    | .yld l => some (.yld l, .keep)
    | _ => none⟩
  | .binOp op t x y _ => ⟨fun ev R _ => (ev x).bind fun u => if nilI y then (nilIA C op t u).bind fun v => some (v, .keep) else (ev y).bind fun y => (binF C R op t u y).bind fun v => some (v, .keep)⟩
  | .unOp op _ x => ⟨fun ev _ _ => (ev x).bind fun x => (unA op x).bind fun v => some (v, .keep)⟩
  | .convert src dst x => ⟨fun ev R _ => (ev x).bind fun x => (convF C R src dst x).bind fun v => some (v, .keep)⟩
  | .makeInterface t x => ⟨fun ev _ _ => (C.ty t).bind fun ti => match ti.td with
    | .iface => none
    | _ => (ev x).bind fun v => some (.iface t v, .keep)⟩
  | .makeFunc (.func g) first caps => ⟨fun ev _ _ => if first.isEmpty then (mapO ev caps.toList).bind fun cs => some (.clo g cs, .keep) else if caps.isEmpty then (mapO ev first.toList).bind fun cs => some (.bnd g cs, .keep) else none⟩
  | .makeSlice t l c => ⟨fun ev _ n => (ev l).bind fun l => (ev c).bind fun c => makeSliceF C n t l c⟩
  | .makeMap t none => ⟨fun _ _ n => (C.ty t).bind fun _ => some (.map n, .push (.map []))⟩
  | .lookup t x k ok => ⟨fun ev R _ => (ev x).bind fun x => (ev k).bind fun k => (lookupF C R t x k ok).bind fun v => some (v, .keep)⟩
  | .mapUpdate t m k x => ⟨fun ev R _ => (ev m).bind fun m => (ev k).bind fun k => (ev x).bind fun x => (updateF C R t m k x).bind fun y => some (.tup [], y)⟩
  | .insert t m k x => ⟨fun ev R _ => (ev m).bind fun m => (ev k).bind fun k => (ev x).bind fun x => (updateF C R t m k x).bind fun y => some (.tup [], y)⟩
  | .slice t x lo hi mx => ⟨fun ev R _ => (match lo with | none => some none | some y => (ev y).map some).bind fun lo => (match hi with | none => some none | some y => (ev y).map some).bind fun hi =>
    if mx.isSome then none else (ev x).bind fun x => (sliceF C R t x lo hi).bind fun v => some (v, .keep)⟩
  | .fieldAddr t x k => ⟨fun ev R _ => (ev x).bind fun x => (fieldAddrF C R t x k).bind fun v => some (v, .keep)⟩
  | .field t x k => ⟨fun ev _ _ => (ev x).bind fun x => (fieldA C t x k).bind fun v => some (v, .keep)⟩
  | .indexAddr t x i => ⟨fun ev R _ => (ev x).bind fun x => (ev i).bind fun i => (indexAddrF C R t x i).bind fun v => some (v, .keep)⟩
  | .index t x i => ⟨fun ev _ _ => (ev x).bind fun x => (ev i).bind fun i => (indexA C t x i).bind fun v => some (v, .keep)⟩
  | .range t x => ⟨fun ev R n => (C.ty t).bind fun ti => (ev x).bind fun x => match ti.td, x with
    | .map _ _, .map o => (R.map o).bind fun es => some (.ptr n 0 0, .both o (.cells [] 1) (.iter 0 es))
    | _, _ => none⟩
  | .entry x => ⟨fun ev R _ => (ev x).bind fun x => match x with
    | .ptr o 0 0 => (R.iter o).bind fun q => match q with
      | (2, [p]) => some (.tup [p.1, p.2], .keep)
      | _ => none
    | _ => none⟩
  | .extract t i => ⟨fun ev _ _ => (ev t).bind fun t => match t with
    | .tup vs => (vs[i]?).bind fun v => some (v, .keep)
    | _ => none⟩
  | .typeAssert x _ t true => ⟨fun ev _ _ => (C.ty t).bind fun ti => (ev x).bind fun v => (part ti ti.zero).bind fun z => match ti.td, v with
    | .iface, _ => none
    | _, .iface t' u => some (.tup (if t' == t then [u, .bool true] else [z, .bool false]), .keep)
    | _, .nilIface => some (.tup [z, .bool false], .keep)
    | _, _ => none⟩
  | .call { callee := .builtin b, args, argTypes } => ⟨fun ev R n => (mapO ev args.toList).bind fun vs => match b, vs with
    | .len, [x] => (argTypes[0]?).bind fun t => (C.ty t).bind fun ti => (lenF R ti.td x).bind fun n => some (.int .i64 n, .keep)
    | .append, [s, y] => match argTypes.toList with
      | [t, t'] => if t != t' then appendZF C n t t' s y else (C.ty t).bind fun ti => match ti.td with
        | .slice el => (C.ty el).bind fun te => (elemsF R y).bind fun ys => appendF R n te.size s ys
        | _ => none
      | _ => none
    | b, vs => moreF C R b argTypes.toList vs⟩
  | _ => ⟨fun _ _ _ => none⟩
theorem opFB_eq (f : Nat) (d : Option Nat) (op : Op) : (opFB C f d op).fn = opF C f d op := by
  cases op <;> first | rfl | skip
  case makeFunc fn first caps => cases fn <;> rfl
  case makeMap t r => cases r <;> rfl
  case typeAssert x t t' ok => cases ok <;> rfl
  case call c =>
    obtain ⟨cal, args, ats⟩ := c
    cases cal <;> rfl
def guardB (ops : Array Oper) (o : Oper) : Bx (TE → Option Bool) := match o.guard with
  | none => ⟨fun _ => some true⟩
  | some (j, want) => match (ops[j]?).bind (·.dst) with
    | none => ⟨fun _ => some false⟩
    | some t => (accB (Nat.succ t) t).use fun g => ⟨fun E => match g E with
      | .bool b => some (b == want)
      | .tup [] => some false
      | _ => none⟩
theorem guardB_eq (ops : Array Oper) (o : Oper) : (guardB ops o).fn = fun E => wantT ops E o := by
  funext E
  unfold guardB wantT
  cases o.guard with
  | none => rfl
  | some jw =>
    obtain ⟨j, want⟩ := jw
    simp only
    cases (ops[j]?).bind (·.dst) with
    | none => rfl
    | some t =>
      simp only [Option.map_some]
      show (match accT t E with | .bool b => some (b == want) | .tup [] => some false | _ => none) = _
      rw [accT_eq]
      generalize E.get .junk t = v
      cases v <;> first | rfl | skip
      rename_i cs
      cases cs <;> rfl
def evB (x : Operand) : Bx (TE → Option AV) := match x with
  | .tmp t => (accB (Nat.succ t) t).use fun g => ⟨fun E => (g E).got⟩
  | .const v => match ofValue v with
    | some c => ⟨fun _ => some c⟩
    | none => ⟨fun _ => none⟩
  | .func f => ⟨fun _ => some (.clo f [])⟩
  | x => ⟨fun E => evalT C E x⟩
theorem evB_eq (x : Operand) : (evB C x).fn = fun E => evalT C E x := by
  funext E
  unfold evB
  cases x <;> first | rfl | skip
  rename_i v
  simp only [evalT]
  cases ofValue v <;> rfl
def argsB : List Operand → Bx (TE → Option (List AV))
  | [] => ⟨fun _ => some []⟩
  | x :: r => (evB C x).use fun g => (argsB r).use fun gr => ⟨fun E => (g E).bind fun v => (gr E).bind fun vs => some (v :: vs)⟩
theorem argsB_eq : ∀ l, (argsB C l).fn = fun E => mapO (evalT C E) l
  | [] => rfl
  | x :: r => by
    funext E
    simp only [argsB, Bx.use_eq, evB_eq, argsB_eq r]
    rfl
def putB : Option Nat → Bx (AV → TE → TE)
  | some t => setB (Nat.succ t) t
  | none => ⟨fun _ E => E⟩
theorem putB_eq (d : Option Nat) : (putB d).fn = fun v E => putD E d v := by
  cases d <;> rfl
theorem noLoose_eq {f : Nat} {o : Oper} (h : noLoose C f o = true) (ops : Array Oper) (E : TE) (H : TH) (n : Nat) : looseT C f ops (dkey o) E H n = true := by
  unfold noLoose at h
  unfold looseT
  cases hd : dkey o with
  | none => rfl
  | some t =>
    rw [hd] at h
    have : C.loose f t = [] := by simpa using h
    simp only [this, List.all_nil]
def stepB (f : Nat) (ops : Array Oper) (o : Oper) : Bx Quick := (opFB C f o.dst o.op).use fun g => (putB o.dst).use fun st => match noLoose C f o with
  | true => ⟨fun E H n k => match g (evalT C E) (RT H) n with
    | none => .bad f (3000000 + o.dst.getD 99999)
    | some (v, y) => effT f (o.dst.getD 99999) y H n fun H n => v.force fun v => k (st v E) H n⟩
  | false => ⟨fun E H n k => match g (evalT C E) (RT H) n with
    | none => .bad f (3000000 + o.dst.getD 99999)
    | some (v, y) => effT f (o.dst.getD 99999) y H n fun H n => match looseT C f ops (dkey o) E H n with
      | true => v.force fun v => k (st v E) H n
      | false => .bad f (7000000 + o.dst.getD 99999)⟩
theorem stepB_eq (f : Nat) (ops : Array Oper) (o : Oper) : (stepB C f ops o).fn = Rv.stepT C f ops o := by
  unfold stepB
  simp only [Bx.use_eq, opFB_eq, putB_eq]
  cases hl : noLoose C f o with
  | true =>
    funext E H n k
    unfold Rv.stepT
    simp only [noLoose_eq C hl]
    rfl
  | false => rfl
def stepCB (f : Nat) (ops : Array Oper) (o : Oper) (g : Operand) (args : List Operand) : Bx (Caller → TE → TH → Nat → Kont → (TE → TH → Nat → Res) → Res) := (argsB C args).use fun ga => (evB C g).use fun gg => (putB o.dst).use fun st => match noLoose C f o with
  | true => ⟨fun call E H n kp k => match ga E with
    | none => .bad f (4000000 + o.dst.getD 99999)
    | some vs => match gg E with
      | none => .bad f (5000000 + o.dst.getD 99999)
      | some gv => call gv vs H n fun res H n => match res with
        | .pan v => kp (.pan v) E H n
        | .ret v => v.force fun v => k (st v E) H n⟩
  | false => ⟨stepCT C f ops o g args⟩
theorem stepCB_eq (f : Nat) (ops : Array Oper) (o : Oper) (g : Operand) (args : List Operand) : (stepCB C f ops o g args).fn = stepCT C f ops o g args := by
  unfold stepCB
  simp only [Bx.use_eq, argsB_eq, evB_eq, putB_eq]
  cases hl : noLoose C f o with
  | true =>
    funext call E H n kp k
    unfold stepCT
    simp only [noLoose_eq C hl]
    rfl
  | false => rfl
abbrev StepF := Caller → TE → TH → Nat → Kont → (TE → TH → Nat → Res) → Res
def isPan (o : Oper) : Bool := match o.op with
  | .panic _ => true
  | _ => false
theorem isPan_no {o : Oper} (h : isPan o = false) (E : TE) : panT C E o = none := by
  unfold isPan at h
  unfold panT
  split at h
  · cases h
  · rename_i hn
    split
    · rename_i x hx; exact absurd hx (hn x)
    · rfl
def opB0 (f : Nat) (ops : Array Oper) (o : Oper) : Bx StepF := match callee o with
  | none => (stepB C f ops o).use fun q => match isPan o with
    | true => ⟨fun _ E H n kp k => match panT C E o with
      | some v => kp (.pan v) E H n
      | none => q E H n k⟩
    | false => ⟨fun _ E H n _ k => q E H n k⟩
  | some ga => stepCB C f ops o ga.1 ga.2.toList
def opB (f : Nat) (ops : Array Oper) (o : Oper) : Bx StepF := match stageB C f ops o with
  | some q => ⟨fun _ E H n _ k => q E H n k⟩
  | none => match o.guard with
    | none => opB0 C f ops o
    | some _ => (opB0 C f ops o).use fun g => (guardB ops o).use fun gd => (putB o.dst).use fun st => ⟨fun call E H n kp k => match gd E with
      | none => .bad f (2000000 + o.dst.getD 99999)
      | some false => k (st (.tup []) E) H n
      | some true => g call E H n kp k⟩
abbrev CodeF := Caller → TE → TH → Nat → Kont → Res
def opsB (f : Nat) (ops : Array Oper) : List Oper → Bx CodeF
  | [] => ⟨fun _ E H n k => k .nrm E H n⟩
  | o :: r => (opB C f ops o).use fun g => (opsB f ops r).use fun gr => ⟨fun call E H n k => g call E H n k fun E H n => gr call E H n k⟩
theorem opsB_eq (f : Nat) (ops : Array Oper) : ∀ l, (opsB C f ops l).fn = opsT C f ops l
  | [] => rfl
  | o :: r => by
    have ih := opsB_eq f ops r
    have h0 : (opB0 C f ops o).fn = (match callee o with | none => fun _ E H n kp k => (match panT C E o with | some v => kp (.pan v) E H n | none => Rv.stepT C f ops o E H n k) | some ga => stepCT C f ops o ga.1 ga.2.toList) := by
      unfold opB0
      cases callee o with
      | none =>
        simp only [Bx.use_eq, stepB_eq]
        cases hip : isPan o with
        | true => rfl
        | false =>
          funext call E H n kp k
          simp only [isPan_no C hip]
      | some ga => simp only [stepCB_eq]
    simp only [opsB, Bx.use_eq, opB, stageB_eq, ih, opsT, h0, guardB_eq, putB_eq]
    cases stageT C f ops o with
    | some q => rfl
    | none =>
      cases hg : o.guard with
      | none =>
        have hw : ∀ E, wantT ops E o = some true := fun E => by unfold wantT; rw [hg]
        simp only [hw, h0]
        cases callee o <;> rfl
      | some g =>
        funext call E H n k
        simp only []
        cases wantT ops E o with
        | none => rfl
        | some b => cases b <;> first | rfl | (cases callee o <;> rfl)
def rangeB (f : Nat) (g : Operand) (ps : Array Nat) (assign body : Code) : Bx CodeF := ⟨rangeT C f g ps assign body⟩
def codeB (f : Nat) : Code → Bx CodeF
  | .skip => ⟨fun _ E H n k => k .nrm E H n⟩
  | .label _ => ⟨fun _ E H n k => k .nrm E H n⟩
  | .exit id => ⟨fun _ E H n k => k (.exit id) E H n⟩
  | .ret => ⟨fun _ E H n k => k .ret E H n⟩
  | .seq a b => (codeB f a).use fun ga => (codeB f b).use fun gb => ⟨fun call E H n k => ga call E H n fun out E H n => match out with
    | .nrm => gb call E H n k
    | .ret => k .ret E H n
    | .exit id => k (.exit id) E H n
    | .pan v => k (.pan v) E H n⟩
  | .cond c a b => (codeB f a).use fun ga => (codeB f b).use fun gb => match c with
    | .tmp t => (accB (Nat.succ t) t).use fun gc => ⟨fun call E H n k => match gc E with
      | .bool true => ga call E H n k
      | .bool false => gb call E H n k
      | _ => .bad f 999986⟩
    | c => ⟨fun call E H n k => match evalT C E c with
      | some (.bool true) => ga call E H n k
      | some (.bool false) => gb call E H n k
      | _ => .bad f 999986⟩
  | .block id b => (codeB f b).use fun gb => ⟨fun call E H n k => gb call E H n fun out E H n => match out with
    | .exit id' => Bool.rec (motive := fun _ => Res) (k (.exit id') E H n) (k .nrm E H n) (Nat.beq id' id)
    | .nrm => k .nrm E H n
    | .ret => k .ret E H n
    | .pan v => k (.pan v) E H n⟩
  | .scope b => codeB f b
  | .loop b => match C.roundsOf f b, b with
    | some m, .seq _ rest => (codeB f rest).use fun gr => ⟨fun call E H n k => mapLoopF C (gr call) m f E H n k⟩
    | some _, _ => ⟨fun _ _ _ _ _ => .bad f 18000007⟩
    | none, b => (codeB f b).use fun gb => ⟨fun call E H n k => loopGo f (gb call) k loopFuel E H n⟩
  | .region id ops draw => (opsB C f ops (sched ops draw)).use fun go => match C.live f id, draw with
    | some l, true => ⟨fun call E H n k => go call E H n fun out E H n => match out with
      | .nrm => k .nrm (keepT E l) H n
      | .pan v => (match panOk ops with
        | true => k (.pan v) (outT E ops) H n
        | false => .bad f (1000000 + id))
      | out => .bad f (1000000 + id)⟩
    | some l, false => ⟨fun call E H n k => go call E H n fun out E H n => match out with
      | .nrm => k .nrm (keepT E l) H n
      | .pan v => k (.pan v) E H n
      | out => k out E H n⟩
    | none, true => ⟨fun call E H n k => go call E H n fun out E H n => match out with
      | .nrm => k .nrm E H n
      | .pan v => (match panOk ops with
        | true => k (.pan v) (outT E ops) H n
        | false => .bad f (1000000 + id))
      | out => .bad f (1000000 + id)⟩
    | none, false => ⟨fun call E H n k => go call E H n fun out E H n => match out with
      | .nrm => k .nrm E H n
      | .pan v => k (.pan v) E H n
      | out => k out E H n⟩
  | .rangeFunc g ps assign body => rangeB C f g ps assign body
  | _ => ⟨fun _ _ _ _ _ => .bad f 999980⟩
theorem codeB_both (f : Nat) (c : Code) : (codeB C f c).fn = codeT C f c ∧ ∀ a r, c = .seq a r → (codeB C f r).fn = codeT C f r := by
  induction c with
  | seq a b iha ihb => exact ⟨by simp only [codeB, Bx.use_eq, iha.1, ihb.1, codeT]; rfl, fun a' r' h => by injection h with _ h; subst h; exact ihb.1⟩
  | cond c a b iha ihb =>
    refine ⟨?_, fun _ _ h => by cases h⟩
    simp only [codeB, Bx.use_eq, iha.1, ihb.1, codeT]
    cases c with
    | tmp t =>
      simp only []
      funext call E H n k
      show (match accT t E with | .bool true => _ | .bool false => _ | _ => _) = (match (accT t E).got with | some (.bool true) => _ | some (.bool false) => _ | _ => _)
      cases accT t E <;> first | rfl | skip
      rename_i b
      cases b <;> rfl
    | _ => rfl
  | block id b ih => exact ⟨by simp only [codeB, Bx.use_eq, ih.1, codeT]; rfl, fun _ _ h => by cases h⟩
  | scope b ih => exact ⟨by simp only [codeB, ih.1, codeT], fun _ _ h => by cases h⟩
  | loop b ih =>
    refine ⟨?_, fun _ _ h => by cases h⟩
    unfold codeB codeT
    cases hr : C.roundsOf f b with
    | some m =>
      cases b <;> first | rfl | skip
      simp only [Bx.use_eq, ih.2 _ _ rfl]
    | none => simp only [Bx.use_eq, ih.1]
  | region id ops draw =>
    refine ⟨?_, fun _ _ h => by cases h⟩
    simp only [codeB, Bx.use_eq, opsB_eq, codeT]
    cases C.live f id <;> cases draw <;> rfl
  | _ => exact ⟨rfl, fun _ _ h => by cases h⟩
theorem codeB_eq (f : Nat) (c : Code) : (codeB C f c).fn = codeT C f c := (codeB_both C f c).1
variable (TP : PrimT) (FN : Nat → Option FI) (QP : CallQ)
abbrev CallF := Caller → List AV → TH → Nat → KontC → Res
def callB (f : Nat) : Bx CallF := match QP f with
  | some q => ⟨fun _ args H n k => q args H n k⟩
  | none => match TP f with
    | some p => ⟨fun _ args H n k => match p args (RT H) n with
      | none => .bad f 999998
      | some (res, y) => effT f 0 y H n fun H n => k res H n⟩
    | none => match FN f with
      | none => ⟨fun _ _ _ _ _ => .bad f 999997⟩
      | some fi => (codeB C f fi.body).use fun g => ⟨fun call args H n k => match Nat.beq args.length fi.params with
        | false => .bad f 999996
        | true => g call (argsT (nat_lit 0) args .nil) H n fun out E H n => match out with
          | .nrm | .ret => (match resultsF C (evalT C E) (RT H) fi.results with
            | none => .bad f 999995
            | some vs => k (.ret (packA vs)) H n)
          | .pan v => k (.pan v) H n
          | .exit _ => .bad f 999994⟩
theorem callB_eq (f : Nat) : (callB C TP FN QP f).fn = callT C TP FN QP f := by
  unfold callB callT
  cases QP f with
  | some q => rfl
  | none =>
  simp only
  cases TP f with
  | some p => rfl
  | none =>
    simp only
    cases FN f with
    | none => rfl
    | some fi => simp only [Bx.use_eq, codeB_eq]; rfl
def roundB (call : Caller) (o : Nat) (vs : List AV) (H : TH) (n : Nat) (k : KontC) : Res := match loopT H o with
  | some ⟨.ready, _, f, env, ps, assign, body⟩ => match Nat.beq ps.length vs.length with
    | false => .bad f 999992
    | true => (codeB C f assign).use fun ga => ga call (putsT env ps vs) H n fun out E1 H1 n1 => match out, loopT H1 o with
      | .nrm, some ⟨.ready, pend1, f1, env1, ps1, assign1, body1⟩ =>
        (codeB C f body).use fun gb => gb call E1 (H1.put none o (some (.lp ⟨.busy, pend1, f1, env1, ps1, assign1, body1⟩))) n1 fun out E2 H2 n2 => match loopT H2 o, jumpOf out with
          | some ⟨_, _, f2, env2, ps2, assign2, body2⟩, some j => k (.ret (.bool j.isNone)) (H2.put none o (some (.lp ⟨match j with | none => .ready | some _ => .done, j, f2, env2, ps2, assign2, body2⟩))) n2
          | _, _ => .bad f 999989
      | _, _ => .bad f 999991
  | _ => .bad 0 999993
theorem roundB_eq (call : Caller) (o : Nat) (vs : List AV) (H : TH) (n : Nat) (k : KontC) : roundB C call o vs H n k = roundT C call o vs H n k := by
  unfold roundB roundT
  simp only [Bx.use_eq, codeB_eq]; rfl
def runB (fuel : Nat) : Caller := Nat.rec (motive := fun _ => Caller) (fun _ _ _ _ _ => .bad 0 999999) (fun _ ih g vs H n k => match g with
  | .clo f caps => (callB C TP FN QP f).use fun q => q ih (vs ++ caps) H n k
  | .bnd f first => (callB C TP FN QP f).use fun q => q ih (first ++ vs) H n k
  | .yld o => roundB C ih o vs H n k
  | _ => .bad 0 999987) fuel
theorem runB_eq (fuel : Nat) : runB C TP FN QP fuel = Rv.runT C TP FN QP fuel := by
  induction fuel with
  | zero => rfl
  | succ fuel ih =>
    funext g vs H n k
    show (match g with | .clo f caps => (callB C TP FN QP f).use fun q => q (runB C TP FN QP fuel) (vs ++ caps) H n k | .bnd f first => (callB C TP FN QP f).use fun q => q (runB C TP FN QP fuel) (first ++ vs) H n k | .yld o => roundB C (runB C TP FN QP fuel) o vs H n k | _ => KR.bad 0 999987) = (match g with | .clo f caps => callT C TP FN QP f (Rv.runT C TP FN QP fuel) (vs ++ caps) H n k | .bnd f first => callT C TP FN QP f (Rv.runT C TP FN QP fuel) (first ++ vs) H n k | .yld o => roundT C (Rv.runT C TP FN QP fuel) o vs H n k | _ => KR.bad 0 999987)
    rw [ih]
    simp only [Bx.use_eq, callB_eq, roundB_eq]
end
theorem runs_box {C : Cfg} {TP : PrimT} {FN : Nat → Option FI} {QP : CallQ} (hP : Plainly C) (hT : TwinOk C TP FN QP) {f fuel : Nat} (hs : runB C TP FN QP fuel (.clo f []) [] .nil 0 kTrue = .ok true) : ∃ h', call C f [] [] = some (.ret (.bool true), h') := by
  rw [runB_eq] at hs
  exact runs_fast hP hT hs
end Go.Rv
namespace Go.Proofs.YtpnafmeehjfnaaaGreatDoor
open Go.Rv
noncomputable section
def im (f t : Nat) : Bool := match f with
  | 5 => match t with | 60 => true | 69 => true | _ => false
  | 6 => match t with | 33 => true | _ => false
  | 7 => match t with | 39 => true | _ => false
  | 8 => match t with | 1 => true | 38 => true | _ => false
  | 15 => match t with | 1 => true | 56 => true | _ => false
  | 16 => match t with | 3 => true | 41 => true | _ => false
  | 18 => match t with | 3 => true | 73 => true | _ => false
  | 22 => match t with | 79 => true | _ => false
  | 23 => match t with | 1 => true | _ => false
  | 24 => match t with | 1 => true | 25 => true | 40 => true | _ => false
  | 26 => match t with | 1 => true | 18 => true | _ => false
  | 27 => match t with | 4 => true | 5 => true | 35 => true | 42 => true | 70 => true | _ => false
  | 28 => match t with | 2 => true | _ => false
  | 31 => match t with | 2 => true | 3 => true | _ => false
  | 36 => match t with | 2 => true | _ => false
  | 40 => match t with | 41 => true | _ => false
  | 41 => match t with | 1 => true | 18 => true | 35 => true | _ => false
  | 42 => match t with | 1 => true | 18 => true | _ => false
  | 44 => match t with | 1 => true | _ => false
  | 46 => match t with | 2 => true | _ => false
  | 47 => match t with | 2 => true | 3 => true | _ => false
  | 48 => match t with | 1 => true | 37 => true | _ => false
  | 50 => match t with | 2 => true | 3 => true | _ => false
  | 54 => match t with | 4 => true | 5 => true | _ => false
  | 55 => match t with | 2 => true | 3 => true | _ => false
  | 72 => match t with | 3 => true | _ => false
  | 73 => match t with | 3 => true | 4 => true | 5 => true | _ => false
  | 106 => match t with | 1 => true | _ => false
  | 107 => match t with | 2 => true | 3 => true | _ => false
  | 108 => match t with | 2 => true | _ => false
  | 109 => match t with | 4 => true | 5 => true | 6 => true | 7 => true | _ => false
  | 110 => match t with | 1 => true | 27 => true | 34 => true | _ => false
  | 111 => match t with | 1 => true | _ => false
  | 113 => match t with | 10 => true | _ => false
  | 140 => match t with | 1 => true | _ => false
  | _ => false
def lo (f t : Nat) : List Nat := match f with
  | 16 => match t with | 42 => [1, 2] | _ => []
  | 21 => match t with | 73 => [3, 4, 5] | _ => []
  | 24 => match t with | 24 => [0] | _ => []
  | 27 => match t with | 30 => [1, 2, 3, 4, 5, 9, 10] | 33 => [1, 2, 3, 4, 5] | 52 => [8, 9, 10, 11, 12] | _ => []
  | 31 => match t with | 9 => [5, 6, 7, 8, 10, 11, 12, 13, 15, 16, 17, 18] | 14 => [10, 11, 12, 13, 15, 16, 17, 18] | 19 => [15, 16, 17, 18] | _ => []
  | 50 => match t with | 9 => [5, 6, 7, 8, 10, 11, 12, 13, 15, 16, 17, 18, 20, 21, 22, 23] | 14 => [10, 11, 12, 13, 15, 16, 17, 18, 20, 21, 22, 23] | 19 => [15, 16, 17, 18, 20, 21, 22, 23] | 24 => [20, 21, 22, 23] | _ => []
  | 54 => match t with | 13 => [3, 4] | 1025 => [3, 4] | _ => []
  | _ => []
def pu (f : Nat) : Bool := false
def qt (f t : Nat) : Bool := false
def lv (f r : Nat) : Option (List Nat) := match f with
  | 25 => match r with | 6 => some [0, 1, 5, 27] | _ => none
  | _ => none
def litAV : Nat → DataW Unit → List AV
  | 0, _ => []
  | _ + 1, .lit (.bool b) => [.bool b]
  | _ + 1, .lit (.int k n) => [.int k n]
  | _ + 1, .lit (.string l) => [.str l]
  | n + 1, .agg ds => (ds.map (litAV n)).flatten
  | _, _ => []
def glb (g : Nat) : Option AV := match g with
  | 0 => some (.ref (litAV 5 Rows.laid_bobbin_tree_reserved))
  | 1 => some (.ref (litAV 5 Rows.laid_bobbin_code_ops))
  | _ => none
def rnd (f : Nat) : Bool := match f with
  | 25 => true
  | _ => false
noncomputable def steps : Taken := fun f => match f with
  | 52 => some (cloneF, cloneMap)
  | 56 => some (sortedMF 81, sortedKeysM 81)
  | 63 => some (sortStrF, sortStr)
  | 75 => some (copyF, copyMap)
  | 77 => some (strikeF 78, strikeMap 78)
  | _ => none
noncomputable def told0 : RvTold := { pure := pu, imm := im, quiet := qt, loose := lo, glob := glb, live := lv, rounds := rnd, prim := steps.p }
noncomputable def cfg0 : Cfg := told0.cfg Tryz.prog
def lawLaid : List (String × DataW Unit) := Rows.heldNamesRow.laid
theorem ownKnob0 : ownKnob Tryz.prog.godebug = none := by kernel_rfl
theorem mixed0 : Tryz.prog.follows .mixedOrders = true := by kernel_rfl
theorem steps_twins : ∀ f q p, steps f = some (q, p) → TwinP q p := fun f q p h => by
  unfold steps at h
  split at h <;> first | (cases h; done) | skip
  · injection h with h; injection h with h1 h2; subst h1 h2; exact clone_twin
  · injection h with h; injection h with h1 h2; subst h1 h2; exact sortedM_twin _
  · injection h with h; injection h with h1 h2; subst h1 h2; exact sortStr_twin
  · injection h with h; injection h with h1 h2; subst h1 h2; exact copy_twin
  · injection h with h; injection h with h1 h2; subst h1 h2; exact strike_twin _
theorem steps_ok {C : Cfg} : ∀ f q p, steps f = some (q, p) → Known Tryz.prog f ∧ ∀ args h res h', p args h = some (res, h') → ∀ s w vs, Rel s h w → Glob C s h w → VRs s h w args vs → CallOk Tryz.prog f vs s h w res h' := fun f q p h => by
  unfold steps at h
  split at h <;> first | (cases h; done) | skip
  · injection h with h; injection h with h1 h2; subst h1 h2
    exact ⟨⟨_, _, Tryz.func52, rfl, by kernel_rfl⟩, fun args h res h' hc s w vs R _ H => cloneMap_ok Tryz.cloneSays hc R H⟩
  · injection h with h; injection h with h1 h2; subst h1 h2
    exact ⟨⟨_, _, Tryz.func56, rfl, by kernel_rfl⟩, fun args h res h' hc s w vs R _ H => sortedKeysM_ok Tryz.sortedSays (by kernel_rfl) hc R H⟩
  · injection h with h; injection h with h1 h2; subst h1 h2
    exact ⟨⟨_, _, Tryz.func63, rfl, by kernel_rfl⟩, fun args h res h' hc s w vs R _ H => sortStr_ok Tryz.strSays hc R H⟩
  · injection h with h; injection h with h1 h2; subst h1 h2
    exact ⟨⟨_, _, Tryz.func75, rfl, by kernel_rfl⟩, fun args h res h' hc s w vs R _ H => copyMap_ok Tryz.copySays (by kernel_rfl) hc R H⟩
  · injection h with h; injection h with h1 h2; subst h1 h2
    exact ⟨⟨_, _, Tryz.func77, rfl, by kernel_rfl⟩, fun args h res h' hc s w vs R _ H => strikeMap_ok Tryz.strikeSays (by kernel_rfl) hc R H⟩
theorem prims0 : PrimOk Tryz.prog cfg0 := prims_of (S := steps) rfl (fun _ => rfl) steps_ok
theorem plainly0 : Plainly cfg0 := ⟨fun _ => rfl, fun _ => rfl, fun _ _ => rfl⟩
theorem glb_close : ∀ g v, glb g = some v → ∀ h, freezeV h 0 40 v = some v := fun g v hg h => by
  unfold glb at hg
  split at hg
  · injection hg with hg; subst hg; exact congrFun (show (fun h => freezeV h 0 40 (.ref (litAV 5 Rows.laid_bobbin_tree_reserved))) = (fun h => some (.ref (litAV 5 Rows.laid_bobbin_tree_reserved))) by kernel_rfl) h
  · injection hg with hg; subst hg; exact congrFun (show (fun h => freezeV h 0 40 (.ref (litAV 5 Rows.laid_bobbin_code_ops))) = (fun h => some (.ref (litAV 5 Rows.laid_bobbin_code_ops))) by kernel_rfl) h
  · cases hg
theorem glb_ne : ∀ g v, glb g = some v → v ≠ .junk := fun g v hg => by
  unfold glb at hg
  split at hg <;> first | (cases hg; done) | skip
  · injection hg with hg; subst hg; intro h; cases h
  · injection hg with hg; subst hg; intro h; cases h
theorem glb_laid {w : World} (hL : laidMetH Tryz.prog lawLaid w) : ∀ g v, glb g = some v → v ≠ .junk ∧ VR (old w) [] w v (.pointer (some ⟨g, 0, none⟩)) := fun g v hg => by
  rw [MakeChecks.laidMetH_plain _ _ _ (by kernel_rfl)] at hL
  obtain ⟨ps, ⟨_, _, _, _, _, _, _, _, _, _, ⟨g1, t1, cs1, fuel1, p1, q1, hg1, ht1, hv1, hd1, ⟨g2, t2, cs2, fuel2, p2, q2, hg2, ht2, hv2, hd2, _, _⟩, _⟩, _⟩, _, _⟩ := hL
  unfold glb at hg
  split at hg
  · injection hg with hg; subst hg
    obtain rfl := Option.some.inj ((show Tryz.prog.globalNamed (lawLaid.getD 1 default).1 = some 0 by kernel_rfl).symm.trans hg1)
    exact glob_rel hg1 hv1 hd1 (by obtain rfl := Option.some.inj (ht1.symm.trans (show (Tryz.prog.globals[0]?).map (·.type) = some 154 by kernel_rfl)); kernel_rfl)
  · injection hg with hg; subst hg
    obtain rfl := Option.some.inj ((show Tryz.prog.globalNamed (lawLaid.getD 2 default).1 = some 1 by kernel_rfl).symm.trans hg2)
    exact glob_rel hg2 hv2 hd2 (by obtain rfl := Option.some.inj (ht2.symm.trans (show (Tryz.prog.globals[1]?).map (·.type) = some 190 by kernel_rfl)); kernel_rfl)
  · cases hg
def okl : List Nat := [3, 4, 8, 9, 10, 11, 12, 13, 14, 15, 16, 17, 18, 19, 23, 24, 25, 26, 27, 28, 29, 30, 31, 32, 33, 34, 35, 36, 37, 38, 39, 41, 42, 43, 44, 45, 46, 47, 48, 49, 50, 51, 53, 54, 55, 57, 58, 59, 60, 61, 62, 64, 65, 66, 67, 68, 69, 70, 71, 72, 73, 74, 78, 79, 81, 82, 83, 84, 85, 86, 87, 88, 89, 90, 91, 92, 93, 94, 95, 96, 97, 98, 99, 100, 102, 103, 104, 105, 106, 107, 108, 109, 110, 111, 112, 114, 115, 116, 117, 118, 119, 120, 121, 131, 132, 133, 134, 135, 136, 137, 138, 139, 140, 141, 142, 143, 148, 149, 150, 151, 152, 154, 155, 156, 157, 158, 159, 161]
end
end Go.Proofs.YtpnafmeehjfnaaaGreatDoor
namespace Go.Rv
def zsOf : List AV → Option (List Int)
  | [] => some []
  | .int .i64 s :: r => (zsOf r).map (s :: ·)
  | _ => none
theorem zsOf_map : ∀ l : List Int, zsOf (l.map (AV.int .i64)) = some l
  | [] => rfl
  | a :: r => by simp [zsOf, zsOf_map r]
theorem zsOf_eq : ∀ {cs : List AV} {l : List Int}, zsOf cs = some l → cs = l.map (AV.int .i64)
  | [], l, h => by simp only [zsOf, Option.some.injEq] at h; subst h; rfl
  | c :: r, l, h => by
    cases c with
    | int k n =>
      cases k with
      | i64 =>
        simp only [zsOf] at h
        obtain ⟨l', hl, rfl⟩ := Option.map_eq_some_iff.1 h
        rw [zsOf_eq hl]; rfl
      | _ => simp only [zsOf, reduceCtorEq] at h
    | _ => simp only [zsOf, reduceCtorEq] at h
def insZ (x : Int) : List Int → List Int
  | [] => [x]
  | y :: r => match decide (x ≤ y) with
    | true => x :: y :: r
    | false => y :: insZ x r
def sortedZ : List Int → List Int
  | [] => []
  | x :: r => insZ x (sortedZ r)
theorem insZ_perm (x : Int) : ∀ l, (insZ x l).Perm (x :: l)
  | [] => List.Perm.refl _
  | y :: r => by
    simp only [insZ]
    cases decide (x ≤ y) with
    | true => exact List.Perm.refl _
    | false => exact ((insZ_perm x r).cons y).trans (List.Perm.swap x y r)
theorem sortedZ_perm : ∀ l, (sortedZ l).Perm l
  | [] => List.Perm.refl _
  | x :: r => (insZ_perm x (sortedZ r)).trans ((sortedZ_perm r).cons x)
theorem insZ_sorted (x : Int) : ∀ l, l.Pairwise (fun a b : Int => a ≤ b) → (insZ x l).Pairwise (fun a b : Int => a ≤ b)
  | [], _ => by simp [insZ]
  | y :: r, h => by
    have h1 := List.pairwise_cons.1 h
    simp only [insZ]
    cases hd : decide (x ≤ y) with
    | true =>
      have hxy : x ≤ y := by simpa using hd
      refine List.pairwise_cons.2 ⟨fun a ha => ?_, h⟩
      rcases List.mem_cons.1 ha with rfl | ha
      · exact hxy
      · exact Int.le_trans hxy (h1.1 a ha)
    | false =>
      have hxy : ¬ x ≤ y := by simpa using hd
      have hyx : y ≤ x := (Int.le_total x y).resolve_left hxy
      refine List.pairwise_cons.2 ⟨fun a ha => ?_, insZ_sorted x r h1.2⟩
      rcases List.mem_cons.1 ((insZ_perm x r).mem_iff.1 ha) with rfl | ha
      · exact hyx
      · exact h1.1 a ha
theorem sortedZ_sorted : ∀ l, (sortedZ l).Pairwise (fun a b : Int => a ≤ b)
  | [] => by simp [sortedZ]
  | x :: r => insZ_sorted x _ (sortedZ_sorted r)
theorem sortedZ_eq (l : List Int) : l.mergeSort (fun x y => decide (x ≤ y)) = sortedZ l := by
  have h1 : (l.mergeSort (fun x y => decide (x ≤ y))).Pairwise (fun a b : Int => a ≤ b) := by
    refine (List.pairwise_mergeSort (le := fun x y : Int => decide (x ≤ y)) (fun a b c h1 h2 => ?_) (fun a b => ?_) l).imp fun h => by simpa using h
    · simp only [decide_eq_true_eq] at *; exact Int.le_trans h1 h2
    · have := Int.le_total a b
      simpa [Bool.or_eq_true] using this
  exact List.Perm.eq_of_pairwise (le := fun a b : Int => a ≤ b) (fun a b _ _ x y => Int.le_antisymm x y) h1 (sortedZ_sorted l) ((List.mergeSort_perm l _).trans (sortedZ_perm l).symm)
def sortZ (args : List AV) (h : Heap) : Option (CRes × Heap) :=
  match args with
  | [.lst [] _ _] => some (.ret (.tup []), h)
  | [.msl o 0 len 1 g _] => (h.obj o g).bind fun cs => if cs.length = len ∧ len ≤ 1000000000 then (zsOf cs).map fun ss => (.ret (.tup []), h.set o (.cells ((sortedZ ss).map (AV.int .i64)) g)) else none
  | _ => none
end Go.Rv
namespace Go.Proofs.Sx
open Go.Rv Go.Proofs
noncomputable section
def im (f t : Nat) : Bool := match f with
  | 5 => match t with | 60 => true | 69 => true | _ => false
  | 6 => match t with | 33 => true | _ => false
  | 7 => match t with | 39 => true | _ => false
  | 8 => match t with | 1 => true | 38 => true | _ => false
  | 15 => match t with | 1 => true | 56 => true | _ => false
  | 16 => match t with | 3 => true | 41 => true | _ => false
  | 18 => match t with | 3 => true | 73 => true | _ => false
  | 22 => match t with | 79 => true | _ => false
  | 23 => match t with | 1 => true | _ => false
  | 24 => match t with | 1 => true | 25 => true | 40 => true | _ => false
  | 26 => match t with | 1 => true | 18 => true | _ => false
  | 27 => match t with | 4 => true | 5 => true | 35 => true | 42 => true | 70 => true | _ => false
  | 28 => match t with | 2 => true | _ => false
  | 31 => match t with | 2 => true | 3 => true | _ => false
  | 36 => match t with | 2 => true | _ => false
  | 40 => match t with | 41 => true | _ => false
  | 41 => match t with | 1 => true | 18 => true | 35 => true | _ => false
  | 42 => match t with | 1 => true | 18 => true | _ => false
  | 44 => match t with | 1 => true | _ => false
  | 46 => match t with | 2 => true | _ => false
  | 47 => match t with | 2 => true | 3 => true | _ => false
  | 48 => match t with | 1 => true | 37 => true | _ => false
  | 50 => match t with | 2 => true | 3 => true | _ => false
  | 54 => match t with | 4 => true | 5 => true | _ => false
  | 55 => match t with | 2 => true | 3 => true | _ => false
  | 72 => match t with | 3 => true | _ => false
  | 73 => match t with | 3 => true | 4 => true | 5 => true | _ => false
  | 106 => match t with | 1 => true | _ => false
  | 107 => match t with | 2 => true | 3 => true | _ => false
  | 108 => match t with | 2 => true | _ => false
  | 109 => match t with | 4 => true | 5 => true | 6 => true | 7 => true | _ => false
  | 110 => match t with | 1 => true | 27 => true | 34 => true | _ => false
  | 111 => match t with | 1 => true | _ => false
  | 113 => match t with | 10 => true | _ => false
  | 140 => match t with | 1 => true | _ => false
  | _ => false
def pu (f : Nat) : Bool := match f with
  | 8 => false
  | 25 => false
  | 27 => false
  | 28 => false
  | 30 => false
  | 37 => false
  | 38 => false
  | 49 => false
  | 51 => false
  | 52 => false
  | 53 => false
  | 54 => false
  | 57 => false
  | 63 => false
  | 64 => false
  | 65 => false
  | 75 => false
  | 77 => false
  | 81 => false
  | 113 => false
  | 134 => false
  | 141 => false
  | 152 => false
  | _ => true
def lv (f r : Nat) : Option (List Nat) := match f with
  | 2 => some []
  | 3 => some [0, 1, 3, 4, 5, 6, 7, 8, 9, 49]
  | 4 => some [0, 2, 4, 6, 8, 10, 11, 12]
  | 5 => some [0, 1, 2, 3, 4, 5, 12, 13, 14, 20, 38, 46, 50]
  | 6 => some [0, 1, 4, 5, 6, 7, 8, 9, 10, 11, 12, 19, 25, 58, 60, 67, 79, 83, 98]
  | 7 => some [0, 1, 2, 3, 4, 10, 11, 12, 13, 14, 15, 16, 17, 18, 19, 26, 31, 42, 66, 70, 82, 89]
  | 8 => some [0, 1, 2, 3, 4, 5, 6, 7, 8, 10, 13, 20, 28, 29, 30, 44, 47, 48, 49, 64, 65, 66, 67]
  | 9 => some [0, 1, 2, 6, 8, 10]
  | 10 => some [0, 1, 2, 6, 11]
  | 11 => some [0, 1, 2, 6, 11]
  | 12 => some [0, 1, 4, 19]
  | 13 => some [0, 1, 4, 5, 6, 13]
  | 14 => some [0, 1, 2, 3]
  | 15 => some [0, 1, 2, 3, 4, 5, 6, 7, 8, 9, 10, 12, 19, 22, 23, 24, 25, 30, 31, 32, 33, 39, 43, 44, 45, 46]
  | 16 => some [0, 1, 3, 4, 5, 6, 7, 9, 10, 22, 25, 26, 27, 28, 46, 47, 48]
  | 17 => some [0, 1, 4, 5, 10, 14, 25]
  | 18 => some [0, 1, 2, 3, 6, 7, 8, 9, 10, 11, 13, 24, 32, 47, 48, 49, 50, 53, 57]
  | 19 => some [0, 1, 2, 3, 4, 5]
  | 20 => some [0, 2, 3, 6, 10, 18]
  | 21 => some [0, 1, 4, 5, 6, 7, 13, 19, 53]
  | 22 => some [0, 1, 2, 6, 7, 8, 9, 10, 11, 29, 37, 49, 73]
  | 23 => some [0, 1, 2, 16]
  | 24 => some [0, 1, 2, 3, 4, 6, 7, 8, 9, 10, 11, 14, 16, 17, 18, 19, 29, 30, 31]
  | 25 => some [0, 1, 4, 5, 6, 7, 27, 29, 63]
  | 26 => some [0, 1, 2, 3, 4, 5, 7, 8, 9, 10, 15]
  | 27 => some [0, 1, 2, 4, 5, 6, 7, 8, 9, 21, 63]
  | 28 => some [0, 1, 2, 4, 5, 6, 7, 8, 9, 15, 66, 88, 89]
  | 29 => some [0, 2]
  | 30 => some [0, 1, 4]
  | 31 => some [0, 1, 2, 3, 4]
  | 32 => some [0, 2, 3, 5, 6, 7, 8, 9, 14]
  | 33 => some [0, 1, 4, 5, 6, 11, 12, 13, 16, 19]
  | 34 => some [0, 1, 3]
  | 35 => some [0, 1, 4]
  | 36 => some [0, 1, 2, 3]
  | 37 => some [0, 2]
  | 38 => some [0, 2, 3, 4, 5, 8, 13, 25, 32, 44]
  | 39 => some [0, 1, 3]
  | 40 => some [0, 1, 4, 5, 6, 18, 32]
  | 41 => some [0, 1, 2, 3, 5, 7, 9, 10, 11, 12, 26, 27, 28, 29]
  | 42 => some [0, 1, 2, 3, 4, 5, 7, 8, 9, 10, 15]
  | 43 => some [0, 1, 4]
  | 44 => some [0, 1, 2]
  | 45 => some [0, 1, 4]
  | 46 => some [0, 1, 2, 3]
  | 47 => some [0, 1, 2, 3, 4, 5, 6, 46, 59]
  | 48 => some [0, 1, 2, 3, 4, 6, 7, 8, 17, 18, 19, 20, 30]
  | 49 => some [0, 1, 2, 3, 4, 7, 11, 26, 27, 28, 29]
  | 50 => some [0, 1, 2, 3, 4]
  | 51 => some [0, 1, 4, 5]
  | 52 => some [0, 2, 4]
  | 53 => some [0, 1, 3, 4, 5]
  | 54 => some [0, 1, 2, 4, 5, 6, 7, 8, 10, 21, 22, 30, 38, 47, 48, 49, 50]
  | 55 => some [0, 1, 2, 3, 4]
  | 56 => some [0, 2, 3]
  | 57 => some [0, 1, 2]
  | 58 => some [0, 1, 2, 3, 4, 10, 11, 12, 13, 14, 15, 16, 17, 18, 19, 20, 25, 32, 39, 56, 75, 80, 97, 125]
  | 59 => some [0, 2]
  | 60 => some [0, 2]
  | 61 => some [0, 1, 4, 5, 7, 8, 9, 16]
  | 62 => some [0, 1, 2, 3, 8, 9, 10, 11, 12, 13, 14, 15, 16, 17, 18, 23, 29, 35, 50, 68, 72, 87, 113]
  | 63 => some [0, 2]
  | 64 => some [0, 2, 3, 4, 5, 8, 13, 25, 32, 44]
  | 65 => some [0, 2, 4]
  | 66 => some [0, 1, 4]
  | 67 => some [0, 2]
  | 68 => some [0, 2, 24]
  | 69 => some [0, 1, 4, 5, 7, 8, 9, 16]
  | 70 => some [0, 1, 4, 5, 7, 8, 9, 16]
  | 71 => some [0, 1, 4]
  | 72 => some [0, 1, 2, 3, 4]
  | 73 => some [0, 1, 2, 3, 4, 5, 6, 7, 8, 9, 10, 11, 34, 36, 37, 45]
  | 74 => some [0, 1, 4, 5]
  | 75 => some [0, 1, 4, 5, 7, 9]
  | 77 => some [0, 1, 4, 5, 7, 9, 16]
  | 78 => some [0, 2, 5]
  | 79 => some [0, 1, 2, 4, 23, 31]
  | 80 => some [0, 2]
  | 81 => some [0, 1, 3, 5, 7, 13]
  | 82 => some [0, 1, 2, 3, 8, 9, 14, 34]
  | 83 => some [0, 1, 2, 3, 8, 9, 10, 11, 12, 21, 33]
  | 84 => some [0, 1, 2, 8, 9, 10, 11, 12, 17, 35, 45]
  | 85 => some [0, 1, 2, 3, 8, 9, 10, 11, 12, 13, 14, 34, 36, 55, 57, 60]
  | 86 => some [0, 1, 2, 8, 9, 15]
  | 87 => some [0, 1, 2, 3, 8, 9, 10, 11, 12, 16, 36, 41, 45, 65, 69, 84, 104, 109, 124]
  | 88 => some [0, 1, 2, 3, 4, 10, 11, 12, 47, 65, 70]
  | 89 => some [0, 1, 2, 3, 4, 10, 11, 12, 13, 47, 66, 71, 120, 139, 144]
  | 90 => some [0, 2, 4, 8]
  | 91 => some [0, 2, 4, 8, 14]
  | 92 => some [0, 1, 2, 6, 7, 12, 30]
  | 93 => some [0, 1, 2, 6, 7, 8, 9, 10, 19, 30]
  | 94 => some [0, 1, 2, 6, 7, 8, 9, 10, 15, 33, 43]
  | 95 => some [0, 1, 2, 6, 7, 8, 9, 10, 11, 12, 32, 34, 49, 51, 54]
  | 96 => some [0, 1, 2, 6, 7, 13]
  | 97 => some [0, 1, 2, 6, 7, 8, 9, 10, 14, 32, 37, 41, 61, 65, 78, 98, 103, 116]
  | 98 => some [0, 1, 4]
  | 99 => some [0, 1, 2, 3, 8, 9, 10, 43, 59, 64]
  | 100 => some [0, 1, 2, 3, 8, 9, 10, 11, 43, 60, 65, 112, 129, 134]
  | 101 => some [0, 1, 2, 3, 8, 9, 10, 11, 12, 13, 14, 15, 16, 17, 18, 23, 29, 35, 50, 68, 72, 87, 113]
  | 102 => some [0, 1, 4, 5, 7, 8, 9, 16]
  | 103 => some [0, 1, 4]
  | 104 => some [0, 1, 4, 5, 6, 12, 21, 34]
  | 105 => some [0, 1, 4, 5, 7, 8, 9, 16]
  | 106 => some [0, 1, 2, 3, 12]
  | 107 => some [0, 1, 2, 3, 4]
  | 108 => some [0, 1, 2, 3, 4, 7, 10, 13, 17, 21]
  | 109 => some [0, 1, 2, 3, 4, 5, 6, 7, 8, 9, 13, 14, 22, 30, 41, 52, 63]
  | 110 => some [0, 1, 2, 3, 5, 23, 30, 38]
  | 111 => some [0, 1, 2, 3, 4, 5, 15]
  | 112 => some [0, 2, 3, 5, 6, 8, 9, 10, 11, 12, 20, 25, 26, 27, 28]
  | 113 => some [0, 1, 2, 4, 5, 6, 7]
  | 114 => some [0, 1, 2, 3, 4, 10, 11, 18, 40, 58]
  | 115 => some [0, 2]
  | 116 => some [0, 2]
  | 117 => some [0, 1, 2, 3, 8]
  | 118 => some [0, 1, 2, 3, 4, 5, 12]
  | 119 => some [0, 1, 2, 3, 8, 9, 16, 36, 52]
  | 120 => some [0, 1, 2, 6]
  | 121 => some [0, 1, 2, 3, 4, 10]
  | 122 => some [0, 1, 2, 6, 7, 12, 30]
  | 123 => some [0, 1, 2, 6, 7, 8, 9, 10, 19, 30]
  | 124 => some [0, 1, 2, 6, 7, 8, 9, 10, 15, 33, 43]
  | 125 => some [0, 1, 2, 6, 7, 8, 9, 10, 11, 12, 32, 34, 49, 51, 54]
  | 126 => some [0, 1, 2, 6, 7, 13]
  | 127 => some [0, 1, 2, 6, 7, 8, 9, 10, 14, 32, 37, 41, 61, 65, 78, 98, 103, 116]
  | 128 => some [0, 1, 4]
  | 129 => some [0, 1, 2, 3, 8, 9, 10, 43, 59, 64]
  | 130 => some [0, 1, 2, 3, 8, 9, 10, 11, 43, 60, 65, 112, 129, 134]
  | 131 => some [0, 1, 4, 5, 7, 8, 9, 16]
  | 132 => some [0, 1, 4, 13]
  | 133 => some [0, 1, 4, 16]
  | 134 => some [0, 2, 3, 4, 5, 9, 16]
  | 135 => some [0, 1, 4, 7, 12]
  | 136 => some [0, 1, 4, 7, 15]
  | 137 => some [0, 1, 4, 5, 6, 9, 18]
  | 138 => some [0, 1, 4, 5, 6, 9, 17, 26]
  | 139 => some [0, 1, 4, 5, 10, 12, 13, 14, 24]
  | 140 => some [0, 1, 2]
  | 141 => some [0, 1, 4, 6, 16]
  | 142 => some [0, 1, 2, 3, 4, 10, 11, 22]
  | 143 => some [0, 1, 2, 3, 8, 9, 18]
  | 144 => some [0, 1, 2, 3, 8, 9, 16, 36, 52]
  | 145 => some [0, 1, 2, 6]
  | 146 => some [0, 1, 2, 3, 4, 10]
  | 147 => some [0, 2]
  | 148 => some [0, 1, 4]
  | 149 => some [0, 2, 3, 10]
  | 150 => some [0, 1, 4]
  | 151 => some [0, 2, 3, 4, 5, 6, 10, 18, 27, 33, 35, 48]
  | 152 => some [0, 1, 4, 5, 6, 7, 8, 14]
  | 153 => some [0, 1, 2, 3, 8, 9, 18]
  | 154 => some [0, 2, 3, 4, 5, 6, 7, 8, 9, 10, 11, 12, 16, 23, 45, 57, 59, 75, 77, 98]
  | 155 => some [0, 1, 4, 5, 6, 7, 8, 9, 10, 11, 12, 13, 14, 15, 16, 26, 33, 43, 51, 64, 98, 108, 124, 139, 143, 156, 160, 171, 175, 176, 177, 181, 183]
  | 156 => some [0, 2]
  | 157 => some [0, 1, 4]
  | 158 => some [0, 2, 3, 10]
  | 159 => some [0, 2]
  | 161 => some [0, 1, 4]
  | 187 => some []
  | _ => none
def lo (f t : Nat) : List Nat := match f with
  | 16 => match t with | 42 => [1, 2] | _ => []
  | _ => []
@[reducible] noncomputable def glb : Nat → Option AV := Go.Proofs.YtpnafmeehjfnaaaGreatDoor.glb
def prm (f : Nat) : Option (List AV → Heap → Option (CRes × Heap)) := match f with
  | 37 => some sortZ
  | _ => none
def told : RvTold := { pure := pu, imm := im, live := lv, glob := glb, prim := prm, loose := lo }
def cfg : Cfg := told.cfg Tryz.prog
def cfg0 : Cfg := told.bare Tryz.prog
instance : NoAlone cfg := ⟨fun _ => rfl⟩
instance : NoRounds cfg := ⟨fun _ => rfl⟩
theorem qt_eq (f t : Nat) : cfg.quiet f t = false := rfl
theorem fnat {f : Nat} {fn : Func} {b : Code} (h1 : Tryz.prog.funcs[f]? = some fn) (h2 : fn.body = some b) (h3 : okB cfg0 f fn b = true) : cfg.fn f = some ⟨fn.params.size + fn.nfree, fn.results.toList, b⟩ := fn_of (T := told) h1 h2 h3
theorem ty3 : cfg.ty 3 = some ⟨.int .i64, 1, 8, [.int .i64 0]⟩ := by kernel_rfl
theorem ty4 : cfg.ty 4 = some ⟨.bool, 1, 1, [.bool false]⟩ := by kernel_rfl
theorem ty34 : cfg.ty 34 = some ⟨.slice 3, 1, 24, [.lst [] 0 .nil]⟩ := by kernel_rfl
theorem ty42 : cfg.ty 42 = some ⟨.slice 49, 1, 24, [.lst [] 0 .nil]⟩ := by kernel_rfl
theorem ty45 : cfg.ty 45 = some ⟨.slice 34, 1, 24, [.lst [] 0 .nil]⟩ := by kernel_rfl
theorem ty49 : cfg.ty 49 = some ⟨.struct [(3, 0), (3, 1), (3, 2), (3, 3)], 4, 32, [.int .i64 0, .int .i64 0, .int .i64 0, .int .i64 0]⟩ := by kernel_rfl
theorem ty72 : cfg.ty 72 = some ⟨.func, 1, 8, [.nilFunc]⟩ := by kernel_rfl
theorem ty91 : cfg.ty 91 = some ⟨.slice 4, 1, 24, [.lst [] 0 .nil]⟩ := by kernel_rfl
end
end Go.Proofs.Sx
namespace Go.Proofs.Sx
open Go.Rv Go.Proofs
attribute [local congr] bind_left got_left guardK_left
noncomputable section
def intL (xs : List Int) : List AV := xs.map (AV.int .i64)
theorem intL_len (xs : List Int) : (intL xs).length = xs.length := by simp [intL]
structure SRow where
  xs : List Int
  z : Nat
  r : Room
def SRow.val (r : SRow) : AV := .lst (intL r.xs) r.z r.r
def rowsL (g : List SRow) : List AV := g.map SRow.val
theorem rowsL_len (g : List SRow) : (rowsL g).length = g.length := by simp [rowsL]
instance t20 {d : Option Nat} : TightD cfg 20 d := ⟨fun _ _ => rfl⟩
instance t39 {d : Option Nat} : TightD cfg 39 d := ⟨fun _ _ => rfl⟩
def B39 (p : List Bool) := cA p Tryz.f39.body
def R39 (p : List Bool) (i : Nat) := Code.region i (cA p Tryz.f39.body) false
theorem F39 : (∀ p i, XR cfg 39 (R39 p i) (B39 p) (cA p Tryz.f39.body).toList i false) ∧ GO cfg 39 (B39 [tt, ff]) 2 6 ∧ RE cfg 39 [0, 1, 3] ∧ cfg.pure 39 = true := ⟨fun _ _ => xr rfl rfl, gO (by kernel_rfl), rE fun _ => rfl, rfl⟩
def k39 : Code := (.seq (R39 [ff] 0) (.seq (R39 [tt, ff] 1) .ret))
theorem call39 (x0 x1 : AV) (h : Heap) : call cfg 39 [x0, x1] h = (exec cfg 39 k39 [(0, x0), (1, x1)] h).bind (callEnd cfg 39 h [.tmp 3]) := call_at2 (fnat Tryz.func39 (b := k39) (by kernel_rfl) (by kernel_rfl)) rfl rfl
instance t18 {d : Option Nat} : TightD cfg 18 d := ⟨fun _ _ => rfl⟩
def B18 (p : List Bool) := cA p Tryz.f18.body
def R18 (p : List Bool) (i : Nat) := Code.region i (cA p Tryz.f18.body) false
theorem F18 : (∀ p i, XR cfg 18 (R18 p i) (B18 p) (cA p Tryz.f18.body).toList i false) ∧ cfg.imm 18 3 = true ∧ GO cfg 18 (B18 [tt, ff, tt, ff, ff]) 4 19 ∧ cfg.imm 18 29 = false ∧ GO cfg 18 (B18 [tt, ff, tt, tt, tt, tt, tt, tt, ff, ff, ff, tt, ff, tt, tt, tt, ff, ff, tt, tt, ff, ff, tt, ff, tt, tt, ff]) 3 61 ∧ cfg.imm 18 73 = true ∧ RE cfg 18 [0, 1, 2, 3, 6, 7, 8, 9, 10, 11, 13, 24, 32, 47, 48, 49, 50, 53, 57] ∧ cfg.pure 18 = true := ⟨fun _ _ => xr rfl rfl, by kernel_rfl, gO (by kernel_rfl), by kernel_rfl, gO (by kernel_rfl), by kernel_rfl, rE fun _ => rfl, rfl⟩
def l18_1 : Code := (.seq (R18 [tt, ff, tt, tt, tt, tt, tt, tt, ff, ff, ff, tt, ff, tt, tt, tt, ff, ff, ff] 11) (.seq (.cond (.tmp 50) .skip (.exit 2)) (.seq (.block 3 (.seq (R18 [tt, ff, tt, tt, tt, tt, tt, tt, ff, ff, ff, tt, ff, tt, tt, tt, ff, ff, tt, tt, ff, ff, ff] 12) (.block 4 (.seq (R18 [tt, ff, tt, tt, tt, tt, tt, tt, ff, ff, ff, tt, ff, tt, tt, tt, ff, ff, tt, tt, ff, ff, tt, ff, ff] 13) (.cond (.tmp 53) (.seq (R18 [tt, ff, tt, tt, tt, tt, tt, tt, ff, ff, ff, tt, ff, tt, tt, tt, ff, ff, tt, tt, ff, ff, tt, ff, tt, ff, ff] 14) (.exit 0)) (.seq (R18 [tt, ff, tt, tt, tt, tt, tt, tt, ff, ff, ff, tt, ff, tt, tt, tt, ff, ff, tt, tt, ff, ff, tt, ff, tt, tt, ff] 15) (.cond (.tmp 57) (.seq (R18 [tt, ff, tt, tt, tt, tt, tt, tt, ff, ff, ff, tt, ff, tt, tt, tt, ff, ff, tt, tt, ff, ff, tt, ff, tt, tt, tt, ff, ff] 16) (R18 [tt, ff, tt, tt, tt, tt, tt, tt, ff, ff, ff, tt, ff, tt, tt, tt, ff, ff, tt, tt, ff, ff, tt, ff, tt, tt, tt, ff, tt] 17)) .skip))))))) (R18 [tt, ff, tt, tt, tt, tt, tt, tt, ff, ff, ff, tt, ff, tt, tt, tt, ff, ff, tt, tt, tt] 18))))
def l18_0 : Code := (.seq (.seq (R18 [tt, ff, tt, tt, tt, tt, tt, tt, ff, ff, ff, ff, ff] 7) (.cond (.tmp 32) .skip (.exit 0))) (.block 1 (.seq (R18 [tt, ff, tt, tt, tt, tt, tt, tt, ff, ff, ff, tt, ff, ff] 8) (.seq (R18 [tt, ff, tt, tt, tt, tt, tt, tt, ff, ff, ff, tt, ff, tt, ff] 9) (.seq (R18 [tt, ff, tt, tt, tt, tt, tt, tt, ff, ff, ff, tt, ff, tt, tt, ff] 10) (.block 2 (.loop l18_1)))))))
def k18 : Code := (.seq (R18 [ff] 0) (.scope (.seq (R18 [tt, ff, ff] 1) (.seq (.seq (R18 [tt, ff, tt, ff, ff] 2) (.cond (.tmp 24) (.seq (R18 [tt, ff, tt, ff, tt, ff, ff] 3) .ret) .skip)) (.seq (R18 [tt, ff, tt, tt, ff] 4) (.seq (R18 [tt, ff, tt, tt, tt, ff] 5) (.seq (R18 [tt, ff, tt, tt, tt, tt, ff] 6) (.seq (.label 0) (.seq (.block 0 (.loop l18_0)) (.seq (R18 [tt, ff, tt, tt, tt, tt, tt, tt, tt, ff] 19) .ret))))))))))
theorem call18 (x0 x1 x2 : AV) (h : Heap) : call cfg 18 [x0, x1, x2] h = (exec cfg 18 k18 [(0, x0), (1, x1), (2, x2)] h).bind (callEnd cfg 18 h [.tmp 6]) := call_at2 (fnat Tryz.func18 (b := k18) (by kernel_rfl) (by kernel_rfl)) rfl rfl
theorem leadsIn_eq (g : List SRow) (z : Nat) (r : Room) (x : Int) (h : Heap) (hn : g.length < 1000000000) :
    call cfg 39 [.int .i64 x, .ref [.lst (rowsL g) z r]] h = some (.ret (.bool (decide (0 ≤ x ∧ x < g.length))), h) := by
  rw [call39]
  by_cases h1 : 0 ≤ x
  · by_cases h2 : x < g.length
    · simp only [F39, k39, Tryz.f39, sxAll, cA, arithA, Env.keep, qt_eq, resultsA, packA, loadA, Rv.part, cellsAt, TD.isAgg, lenA, ↓Option.bind_some, Nat.reduceBEq, Nat.reduceAdd, ↓reduceIte, ty45, rowsL_len, h1, h2]
      exact leave_kept rfl rfl
    · simp only [F39, k39, Tryz.f39, sxAll, cA, arithA, Env.keep, qt_eq, resultsA, packA, loadA, Rv.part, cellsAt, TD.isAgg, lenA, ↓Option.bind_some, Nat.reduceBEq, Nat.reduceAdd, ↓reduceIte, ty45, rowsL_len, h1, h2]
      exact leave_kept rfl rfl
  · simp only [F39, k39, Tryz.f39, sxAll, cA, arithA, Env.keep, resultsA, packA, ↓Option.bind_some, Nat.reduceBEq, ↓reduceIte, h1]
    exact leave_kept rfl rfl
end
end Go.Proofs.Sx
