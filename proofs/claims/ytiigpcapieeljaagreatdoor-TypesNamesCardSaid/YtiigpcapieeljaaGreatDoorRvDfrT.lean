/-
  The quick twin of a call that defers.
-/
import Derived.Test.YtiigpcapieeljaaGreatDoorPtH
import Derived.Test.YtiigpcapieeljaaGreatDoorRvDfr
set_option linter.unusedSimpArgs false
set_option linter.unusedVariables false
namespace Go.Rv
noncomputable section
variable (C : Cfg)
abbrev KontD := Out → TE → TH → Nat → Option AV → Res
abbrev CodeFD := Caller → TE → TH → Nat → KontD → Res
def execDB (f d : Nat) : Code → Bx CodeFD
  | .seq a b => match hasReg d a with
    | true => (execDB f d a).use fun ga => (codeB C f b).use fun gb => ⟨fun call E H n k => ga call E H n fun out E H n g => match out with
      | .nrm => gb call E H n fun out E H n => k out E H n g
      | .ret => k .ret E H n g
      | .exit id => k (.exit id) E H n g
      | .pan v => k (.pan v) E H n g⟩
    | false => (codeB C f a).use fun ga => (execDB f d b).use fun gb => ⟨fun call E H n k => ga call E H n fun out E H n => match out with
      | .nrm => gb call E H n k
      | .ret => k .ret E H n none
      | .exit id => k (.exit id) E H n none
      | .pan v => k (.pan v) E H n none⟩
  | .scope b => execDB f d b
  | .region _ os false => match deferOf os with
    | none => ⟨fun _ _ _ _ _ => .bad f 19000000⟩
    | some q => (opsB C f os q.1).use fun go => ⟨fun call E H n k => go call E H n fun out E H n => match out with
      | .nrm => (match evalT C E q.2.2 with
        | some (.clo g caps) => k .nrm (putD E q.2.1.dst (.tup [])) H n (some (.clo g caps))
        | _ => .bad f 19000001)
      | _ => .bad f 19000002⟩
  | _ => ⟨fun _ _ _ _ _ => .bad f 19000003⟩

structure RunDOk (f d : Nat) (call : Caller) (c : Code) : Prop where
  ok : ∀ {E : TE} {e : Env} {H : TH} {n : Nat} {h : Heap} {k : KontD} {r : Bool}, RepE E e → Rep H n h → (execDB C f d c).fn call E H n k = .ok r →
    ∃ x E' H' n', execD C f d c e h = some x ∧ RepE E' x.2.1 ∧ Rep H' n' x.2.2.1 ∧ k x.1 E' H' n' x.2.2.2 = .ok r

variable {C}
theorem codeB_run (hP : Plainly C) {call : Caller} (hc : CallerOk C call) {f : Nat} (c : Code) {E : TE} {e : Env} {H : TH} {n : Nat} {h : Heap} {k : Kont} {r : Bool} (RE : RepE E e) (R : Rep H n h) (hs : (codeB C f c).fn call E H n k = .ok r) :
    ∃ out e' h' E' H' n', exec C f c e h = some (out, e', h') ∧ RepE E' e' ∧ Rep H' n' h' ∧ k out E' H' n' = .ok r := by
  rw [codeB_eq] at hs
  exact codeT_ok hP hc c RE R hs

theorem execDB_ok (hP : Plainly C) {call : Caller} (hc : CallerOk C call) {f d : Nat} (c : Code) : RunDOk C f d call c := by
  induction c with
  | seq a b iha ihb =>
    refine ⟨fun {E e H n h k r} RE R hs => ?_⟩
    unfold execDB at hs
    simp only [execD]
    cases hr : hasReg d a with
    | true =>
      rw [hr] at hs
      simp only [Bx.use_eq] at hs
      obtain ⟨x, E1, H1, n1, q1, q2, q3, q4⟩ := iha.ok RE R hs
      obtain ⟨out, e1, h1, g⟩ := x
      simp only [q1, Option.bind_some]
      cases out with
      | nrm =>
        obtain ⟨out2, e2, h2, E2, H2, n2, w1, w2, w3, w4⟩ := codeB_run hP hc b q2 q3 q4
        simp only [w1, Option.bind_some]
        exact ⟨_, E2, H2, n2, rfl, w2, w3, w4⟩
      | ret => exact ⟨_, E1, H1, n1, rfl, q2, q3, q4⟩
      | exit id => exact ⟨_, E1, H1, n1, rfl, q2, q3, q4⟩
      | pan v => exact ⟨_, E1, H1, n1, rfl, q2, q3, q4⟩
    | false =>
      rw [hr] at hs
      simp only [Bx.use_eq] at hs
      obtain ⟨out, e1, h1, E1, H1, n1, q1, q2, q3, q4⟩ := codeB_run hP hc a RE R hs
      simp only [q1, Option.bind_some]
      cases out with
      | nrm => exact ihb.ok q2 q3 q4
      | ret => exact ⟨_, E1, H1, n1, rfl, q2, q3, q4⟩
      | exit id => exact ⟨_, E1, H1, n1, rfl, q2, q3, q4⟩
      | pan v => exact ⟨_, E1, H1, n1, rfl, q2, q3, q4⟩
  | scope b ih => exact ⟨fun RE R hs => ih.ok RE R hs⟩
  | region id os draw =>
    refine ⟨fun {E e H n h k r} RE R hs => ?_⟩
    cases draw with
    | true => cases hs
    | false =>
      unfold execDB at hs
      simp only [execD]
      cases hq : deferOf os with
      | none => rw [hq] at hs; cases hs
      | some q =>
        rw [hq] at hs
        simp only [Bx.use_eq, opsB_eq] at hs
        obtain ⟨out, e1, h1, E1, H1, n1, q1, q2, q3, q4⟩ := opsT_ok hP hc _ RE R hs
        simp only [Option.bind_some, q1]
        cases out <;> first | (cases q4; done) | skip
        simp only [evalT_eq C q2] at q4 ⊢
        cases hv : evalA C e1 q.2.2 with
        | none => rw [hv] at q4; cases q4
        | some gv =>
          rw [hv] at q4
          cases gv <;> first | (cases q4; done) | skip
          exact ⟨_, _, H1, n1, rfl, q2.putD _ _, q3, q4⟩
  | _ => exact ⟨fun RE R hs => by cases hs⟩

/-! ### The deferred call -/
variable (C)
abbrev CodeFS := TE → TH → Nat → (TE → TH → Nat → Res) → Res
def execSB (g : Nat) : Code → CodeFS
  | .seq a b => fun E H n k => execSB g a E H n fun E H n => execSB g b E H n k
  | .cond c a b => fun E H n k => match evalT C E c with
    | some (.bool true) => execSB g a E H n k
    | some (.bool false) => execSB g b E H n k
    | _ => .bad g 19000010
  | .skip => fun E H n k => k E H n
  | .region _ os false => fun E H n k => match flatOps os.toList with
    | true => opsT C g os os.toList (fun _ _ _ _ _ => .bad g 19000011) E H n fun out E H n => match out with
      | .nrm => k E H n
      | _ => .bad g 19000012
    | false => .bad g 19000013
  | .region _ os true => fun E H n k => match os.toList.all plainOp with
    | true => opsT C g os (sched os true) (fun _ _ _ _ _ => .bad g 19000011) E H n fun out E H n => match out with
      | .nrm => k E H n
      | _ => .bad g 19000015
    | false => .bad g 19000016
  | _ => fun _ _ _ _ => .bad g 19000014

variable {C}
theorem nocall_ok (g : Nat) : CallerOk C (fun _ _ _ _ _ => .bad g 19000011) := ⟨fun R hs => by cases hs⟩
theorem execSB_ok (hP : Plainly C) {g : Nat} : ∀ (c : Code) {E : TE} {e : Env} {H : TH} {n : Nat} {h : Heap} {k : TE → TH → Nat → Res} {r : Bool}, RepE E e → Rep H n h → execSB C g c E H n k = .ok r →
    ∃ e' h' E' H' n', execS C g c e h = some (e', h') ∧ RepE E' e' ∧ Rep H' n' h' ∧ k E' H' n' = .ok r := by
  intro c
  induction c with
  | seq a b iha ihb =>
    intro E e H n h k r RE R hs
    obtain ⟨e1, h1, E1, H1, n1, q1, q2, q3, q4⟩ := iha RE R hs
    simp only [execS, q1, Option.bind_some]
    exact ihb q2 q3 q4
  | cond c a b iha ihb =>
    intro E e H n h k r RE R hs
    simp only [execSB, evalT_eq C RE] at hs
    simp only [execS]
    cases hv : evalA C e c with
    | none => rw [hv] at hs; cases hs
    | some v =>
      rw [hv] at hs
      simp only [Option.bind_some]
      cases v <;> first | (cases hs; done) | skip
      rename_i bb
      cases bb with
      | true => exact iha RE R hs
      | false => exact ihb RE R hs
  | skip => intro E e H n h k r RE R hs; exact ⟨e, h, E, H, n, rfl, RE, R, hs⟩
  | region id os draw =>
    intro E e H n h k r RE R hs
    cases draw with
    | true =>
      simp only [execSB] at hs
      simp only [execS]
      cases hf : os.toList.all plainOp with
      | false => rw [hf] at hs; cases hs
      | true =>
        rw [hf] at hs
        obtain ⟨out, e1, h1, E1, H1, n1, q1, q2, q3, q4⟩ := opsT_ok hP (nocall_ok g) _ RE R hs
        simp only [q1, Option.bind_some]
        cases out <;> first | (cases q4; done) | skip
        exact ⟨e1, h1, E1, H1, n1, rfl, q2, q3, q4⟩
    | false =>
      simp only [execSB] at hs
      simp only [execS]
      cases hf : flatOps os.toList with
      | false => rw [hf] at hs; cases hs
      | true =>
        rw [hf] at hs
        obtain ⟨out, e1, h1, E1, H1, n1, q1, q2, q3, q4⟩ := opsT_ok hP (nocall_ok g) _ RE R hs
        simp only [q1, Option.bind_some]
        cases out <;> first | (cases q4; done) | skip
        exact ⟨e1, h1, E1, H1, n1, rfl, q2, q3, q4⟩
  | _ => intro E e H n h k r RE R hs; cases hs

variable (C) (FN : Nat → Option FI)
def runDB (gv : AV) (pn : Option AV) (H : TH) (n : Nat) (k : TH → Nat → Res) : Res := match gv with
  | .clo g caps => match FN g with
    | none => .bad g 19000020
    | some fi => match Nat.beq caps.length fi.params, recOf fi.body with
      | true, some q => opsT C g q.2.1 q.2.2.1 (fun _ _ _ _ _ => .bad g 19000011) (stoT q.1 (pn.getD .nilIface) (argsT (nat_lit 0) caps .nil)) H n fun out E H n => match out with
        | .nrm => execSB C g q.2.2.2 E H n fun E H n => match resultsF C (evalT C E) (RT H) fi.results with
          | some _ => k H n
          | none => .bad g 19000021
        | _ => .bad g 19000022
      | _, _ => .bad g 19000023
  | _ => .bad 0 19000024

def noLoopB (H : TH) (n : Nat) : Bool := Nat.rec (motive := fun _ => Bool) true (fun m ih => match H.get none m with
  | some (.ob _) => ih
  | _ => false) n

def callDB (f d : Nat) (call : Caller) : Bx (List AV → TH → Nat → KontC → Res) := match FN f with
  | none => ⟨fun _ _ _ _ => .bad f 19000030⟩
  | some fi => (execDB C f d fi.body).use fun g => ⟨fun args H n k => match noLoopB H n, Nat.beq args.length fi.params with
    | true, true => g call (argsT (nat_lit 0) args .nil) H n fun out E H n gv => match gv with
      | none => (match out with
        | .nrm | .ret => (match resultsF C (evalT C E) (RT H) fi.results, noLoopB H n with
          | some vs, true => k (.ret (packA vs)) H n
          | _, _ => .bad f 19000031)
        | _ => .bad f 19000032)
      | some gv => (match out with
        | .nrm | .ret => runDB C FN gv none H n fun H n => (match resultsF C (evalT C E) (RT H) fi.results, noLoopB H n with
          | some vs, true => k (.ret (packA vs)) H n
          | _, _ => .bad f 19000033)
        | .pan v => runDB C FN gv (some v) H n fun H n => (match resultsF C (evalT C E) (RT H) fi.results, noLoopB H n with
          | some vs, true => k (.ret (packA vs)) H n
          | _, _ => .bad f 19000034)
        | .exit _ => .bad f 19000035)
    | _, _ => .bad f 19000036⟩
variable {C} {FN}

theorem noLoopB_at {H : TH} : ∀ (n : Nat), noLoopB H n = true → ∀ i, i < n → ∃ x, H.get none i = some (.ob x)
  | 0, _, i, hi => by omega
  | n + 1, hn, i, hi => by
    have h1 : (match H.get none n with | some (.ob _) => noLoopB H n | _ => false) = true := hn
    split at h1 <;> first | (cases h1; done) | skip
    rename_i x hx
    by_cases e : i = n
    · subst e; exact ⟨x, hx⟩
    · exact noLoopB_at n h1 i (by omega)
theorem noLoopB_ok {H : TH} {n : Nat} {h : Heap} (R : Rep H n h) (hn : noLoopB H n = true) : noLoop h = true := by
  unfold noLoop
  rw [List.all_eq_true]
  intro y hy
  obtain ⟨i, hi⟩ := List.getElem?_of_mem hy
  have hl : i < n := by rw [← R.len]; exact (List.getElem?_eq_some_iff.1 hi).1
  obtain ⟨x, hx⟩ := noLoopB_at n hn i hl
  have hrep := R.at_ i
  rw [hx, hi] at hrep
  obtain ⟨rfl, h2⟩ := hrep
  cases x <;> first | rfl | exact absurd rfl (h2 _)

theorem runDB_ok (hP : Plainly C) (hF : ∀ f fi, FN f = some fi → C.fn f = some fi) {gv : AV} {pn : Option AV} {H : TH} {n : Nat} {h : Heap} {k : TH → Nat → Res} {r : Bool} (R : Rep H n h) (hs : runDB C FN gv pn H n k = .ok r) :
    ∃ h' H' n', runD C gv pn h = some h' ∧ Rep H' n' h' ∧ k H' n' = .ok r := by
  unfold runDB at hs
  cases gv <;> first | (cases hs; done) | skip
  rename_i g caps
  simp only at hs
  simp only [runD]
  cases hf : FN g with
  | none => rw [hf] at hs; cases hs
  | some fi =>
    rw [hf] at hs
    simp only at hs
    rw [hF g fi hf]
    simp only [Option.bind_some]
    cases hl : Nat.beq caps.length fi.params with
    | false => rw [hl] at hs; cases hs
    | true =>
      rw [hl] at hs
      have hl' : (caps.length != fi.params) = false := by rw [Nat.eq_of_beq_eq_true hl]; simp
      rw [hl']
      simp only [Bool.false_eq_true, if_false]
      cases hq : recOf fi.body with
      | none => rw [hq] at hs; cases hs
      | some q =>
        rw [hq] at hs
        simp only at hs
        simp only [Option.bind_some]
        obtain ⟨out, e1, h1, E1, H1, n1, q1, q2, q3, q4⟩ := opsT_ok hP (nocall_ok g) _ ((RepE.args caps).sto q.1 (pn.getD .nilIface)) R hs
        simp only [q1, Option.bind_some]
        cases out <;> first | (cases q4; done) | skip
        simp only at q4 ⊢
        obtain ⟨e2, h2, E2, H2, n2, w1, w2, w3, w4⟩ := execSB_ok hP _ q2 q3 q4
        simp only [w1, Option.bind_some]
        rw [evalT_eq C w2, RT_eq w3, results_of] at w4
        cases hv : resultsA C h2 e2 fi.results with
        | none => rw [hv] at w4; cases w4
        | some vs =>
          rw [hv] at w4
          exact ⟨h2, H2, n2, rfl, w3, w4⟩

theorem callDB_ok (hP : Plainly C) (hF : ∀ f fi, FN f = some fi → C.fn f = some fi) {call : Caller} (hc : CallerOk C call) {f d : Nat} {args : List AV} {H : TH} {n : Nat} {h : Heap} {k : KontC} {r : Bool} (R : Rep H n h) (hs : (callDB C FN f d call).fn args H n k = .ok r) :
    ∃ res h' H' n', callD C f d args h = some (res, h') ∧ Rep H' n' h' ∧ k res H' n' = .ok r := by
  unfold callDB at hs
  cases hf : FN f with
  | none => rw [hf] at hs; cases hs
  | some fi =>
    rw [hf] at hs
    simp only [Bx.use_eq] at hs
    cases hn : noLoopB H n with
    | false => rw [hn] at hs; cases hs
    | true =>
      cases hl : Nat.beq args.length fi.params with
      | false => rw [hn, hl] at hs; cases hs
      | true =>
        rw [hn, hl] at hs
        simp only at hs
        obtain ⟨x, E1, H1, n1, q1, q2, q3, q4⟩ := (execDB_ok hP hc (f := f) (d := d) fi.body).ok (RepE.args args) R hs
        obtain ⟨out, e1, h1, gv⟩ := x
        have hl' : (args.length != fi.params) = false := by rw [Nat.eq_of_beq_eq_true hl]; simp
        unfold callD
        rw [noLoopB_ok R hn]
        simp only [Bool.not_true, Bool.false_eq_true, if_false, hF f fi hf, Option.bind_some, hl', q1]
        simp only at q2 q3 q4
        have fin : ∀ {H2 : TH} {n2 : Nat} {h2 : Heap} {t : Nat}, Rep H2 n2 h2 → (match resultsF C (evalT C E1) (RT H2) fi.results, noLoopB H2 n2 with | some vs, true => k (.ret (packA vs)) H2 n2 | _, _ => (KR.bad f t : Res)) = .ok r →
            ∃ res h' H' n', ((resultsA C h2 e1 fi.results).bind fun vs => if noLoop h2 then some (CRes.ret (packA vs), h2) else none) = some (res, h') ∧ Rep H' n' h' ∧ k res H' n' = .ok r := by
          intro H2 n2 h2 t R2 hs2
          rw [evalT_eq C q2, RT_eq R2, results_of] at hs2
          cases hv : resultsA C h2 e1 fi.results with
          | none => rw [hv] at hs2; cases hs2
          | some vs =>
            cases hn2 : noLoopB H2 n2 with
            | false => rw [hv, hn2] at hs2; cases hs2
            | true =>
              rw [hv, hn2] at hs2
              exact ⟨_, h2, H2, n2, by simp only [Option.bind_some, noLoopB_ok R2 hn2, if_true], R2, hs2⟩
        cases gv with
        | none =>
          simp only at q4 ⊢
          cases out <;> first | (cases q4; done) | exact fin q3 q4
        | some gv =>
          simp only at q4 ⊢
          cases out <;> first | (cases q4; done) | skip
          all_goals
            obtain ⟨h2, H2, n2, w1, w2, w3⟩ := runDB_ok hP hF q3 q4
            simp only [w1, Option.bind_some]
            exact fin w2 w3
end
end Go.Rv
