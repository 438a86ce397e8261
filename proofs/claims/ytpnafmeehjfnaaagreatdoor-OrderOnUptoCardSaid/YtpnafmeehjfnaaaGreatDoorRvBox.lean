/-
  The quick twin once more, each part of the code gone through once and kept.
-/
import Derived.Test.YtpnafmeehjfnaaaGreatDoorRvClosed
set_option linter.unusedSimpArgs false
set_option linter.unusedVariables false
namespace Go.Rv
noncomputable section

variable (C : Cfg)
abbrev FetchF := TE → (AV → Res) → Res
def fetchB : Operand → Option (Bx FetchF)
  | .tmp t => (accB (Nat.succ t) t).use fun g => some ⟨fun E k => (g E).forceJ k⟩
  | .const v => match ofValue v with
    | some c => some ⟨fun _ k => k c⟩
    | none => none
  | .func f => some ⟨fun _ k => k (.clo f [])⟩
  | .global _ => none
theorem fetchB_eq (x : Operand) : (fetchB x).map Bx.fn = fetchT x := by
  cases x with
  | tmp t =>
    rfl
  | const v =>
    simp only [fetchB, fetchT]
    cases ofValue v <;> rfl
  | func f => rfl
  | global g => rfl
def getsB (x : Option (Bx FetchF)) (k : FetchF → Option Quick) : Option Quick := match x with
  | some b => b.use k
  | none => none
theorem getsB_eq (x : Operand) (k : FetchF → Option Quick) : getsB (fetchB x) k = (fetchT x).bind k := by
  rw [← fetchB_eq]
  cases fetchB x <;> rfl

/-- The operation, where it is one of the frequent ones. -/
def quickB (f : Nat) (ops : Array Oper) (o : Oper) (d : Nat) : Option Quick := (setB (Nat.succ d) d).use fun st => match o.op with
  | .move x => getsB (fetchB x) fun gx => some fun E H n k => gx E fun v => k (st v E) H n
  | .assign x => getsB (fetchB x) fun gx => some fun E H n k => gx E fun v => k (st v E) H n
  | .binOp op _ x y _ => match arithT op with
    | some ar => getsB (fetchB x) fun gx => getsB (fetchB y) fun gy => some fun E H n k => gx E fun u => gy E fun v => match u, v with
      | .int ka a, .int kb b => Bool.rec (motive := fun _ => Res) (.bad f 17000000) ((ar ka a b).force fun z => k (st z E) H n) (kindEq ka kb)
      | _, _ => Rv.stepT C f ops o E H n k
    | none => none
  | .load t a => match isPlain C t, (C.quiet f d) with
    | true, false => getsB (fetchB a) fun ga => some fun E H n k => ga E fun v => match v with
      | .ptr p off g => (match H.get none p with
        | some (.ob (.cells cs g')) => Bool.rec (motive := fun _ => Res) (.bad f 17000001) (nthT cs off fun z => k (st z E) H n) (Nat.beq g' g)
        | _ => .bad f 17000002)
      | _ => Rv.stepT C f ops o E H n k
    | _, _ => none
  | .fieldAddr t x j => match fieldOff C t j with
    | some off => getsB (fetchB x) fun gx => some fun E H n k => gx E fun v => match v with
      | .ptr p off' g => (match H.get none p with
        | some (.ob (.cells cs g')) => Bool.rec (motive := fun _ => Res) (.bad f 17000003) (k (st (.ptr p (Nat.add off' off) g) E) H n) (Nat.beq g' g)
        | _ => .bad f 17000004)
      | _ => Rv.stepT C f ops o E H n k
    | none => none
  | _ => none
theorem quickB_eq (f : Nat) (ops : Array Oper) (o : Oper) (d : Nat) : quickB C f ops o d = quickT C f ops o d := by
  unfold quickB
  rw [Bx.use_eq]
  unfold quickT
  generalize o.op = op
  cases op <;> first | rfl | skip
  case move x => simp only [getsB_eq]; cases fetchT x <;> rfl
  case assign x => simp only [getsB_eq]; cases fetchT x <;> rfl
  case binOp op t x y t' =>
    simp only [getsB_eq]
    cases arithT op <;> cases fetchT x <;> cases fetchT y <;> rfl
  case load t a =>
    simp only [getsB_eq]
    cases isPlain C t <;> cases C.quiet f d <;> cases fetchT a <;> rfl
  case fieldAddr t x j =>
    simp only [getsB_eq]
    cases fieldOff C t j <;> cases fetchT x <;> rfl
def stageB (f : Nat) (ops : Array Oper) (o : Oper) : Option Quick := match o.guard, o.dst, noLoose C f o with
  | none, some d, true => quickB C f ops o d
  | _, _, _ => none
theorem stageB_eq (f : Nat) (ops : Array Oper) (o : Oper) : stageB C f ops o = stageT C f ops o := by
  unfold stageB stageT
  cases o.guard <;> cases o.dst <;> cases noLoose C f o <;> first | rfl | exact quickB_eq C f ops o _

abbrev StepF := Caller → TE → TH → Nat → Kont → (TE → TH → Nat → Res) → Res
def opB (f : Nat) (ops : Array Oper) (o : Oper) : Bx StepF := match stageB C f ops o with
  | some q => ⟨fun _ E H n _ k => q E H n k⟩
  | none => match o.guard with
    | none => (match callee o with
      | none => ⟨fun _ E H n _ k => Rv.stepT C f ops o E H n k⟩
      | some ga => ⟨fun call E H n kp k => stepCT C f ops o ga.1 ga.2.toList call E H n kp k⟩)
    | some _ => ⟨fun call E H n kp k => match wantT ops E o with
      | none => .bad f (2000000 + o.dst.getD 99999)
      | some false => k (putD E o.dst (.tup [])) H n
      | some true => match callee o with
        | none => Rv.stepT C f ops o E H n k
        | some ga => stepCT C f ops o ga.1 ga.2.toList call E H n kp k⟩
abbrev CodeF := Caller → TE → TH → Nat → Kont → Res
def opsB (f : Nat) (ops : Array Oper) : List Oper → Bx CodeF
  | [] => ⟨fun _ E H n k => k .nrm E H n⟩
  | o :: r => (opB C f ops o).use fun g => (opsB f ops r).use fun gr => ⟨fun call E H n k => g call E H n k fun E H n => gr call E H n k⟩
theorem opsB_eq (f : Nat) (ops : Array Oper) : ∀ l, (opsB C f ops l).fn = opsT C f ops l
  | [] => rfl
  | o :: r => by
    have ih := opsB_eq f ops r
    simp only [opsB, Bx.use_eq, opB, stageB_eq, ih, opsT]
    cases stageT C f ops o with
    | some q => rfl
    | none =>
      cases hg : o.guard with
      | none =>
        have hw : ∀ E, wantT ops E o = some true := fun E => by unfold wantT; rw [hg]
        simp only [hw]
        cases callee o <;> rfl
      | some g =>
        funext call E H n k
        simp only
        cases wantT ops E o with
        | none => rfl
        | some b => cases b <;> first | rfl | (cases callee o <;> rfl)

def rangeB (f : Nat) (g : Operand) (ps : Array Nat) (assign body : Code) : Bx CodeF := ⟨rangeT C f g ps assign body⟩
def codeB (f : Nat) : Code → Bx CodeF
  | .skip => ⟨fun _ E H n k => k .nrm E H n⟩
  | .label _ => ⟨fun _ E H n k => k .nrm E H n⟩
  | .exit id => ⟨fun _ E H n k => k (.exit id) E H n⟩
  | .ret => ⟨fun _ E H n k => k .ret E H n⟩
  | .seq a b => (codeB f a).use fun ga => (codeB f b).use fun gb => ⟨fun call E H n k => ga call E H n fun out E H n => match out with
    | .nrm => gb call E H n k
    | .ret => k .ret E H n
    | .exit id => k (.exit id) E H n
    | .pan v => k (.pan v) E H n⟩
  | .cond c a b => (codeB f a).use fun ga => (codeB f b).use fun gb => match c with
    | .tmp t => (accB (Nat.succ t) t).use fun gc => ⟨fun call E H n k => match gc E with
      | .bool true => ga call E H n k
      | .bool false => gb call E H n k
      | _ => .bad f 999986⟩
    | c => ⟨fun call E H n k => match evalT C E c with
      | some (.bool true) => ga call E H n k
      | some (.bool false) => gb call E H n k
      | _ => .bad f 999986⟩
  | .block id b => (codeB f b).use fun gb => ⟨fun call E H n k => gb call E H n fun out E H n => match out with
    | .exit id' => Bool.rec (motive := fun _ => Res) (k (.exit id') E H n) (k .nrm E H n) (Nat.beq id' id)
    | .nrm => k .nrm E H n
    | .ret => k .ret E H n
    | .pan v => k (.pan v) E H n⟩
  | .scope b => codeB f b
  | .loop b => match C.roundsOf f b, b with
    | some m, .seq _ rest => (codeB f rest).use fun gr => ⟨fun call E H n k => mapLoopF C (gr call) m f E H n k⟩
    | some _, _ => ⟨fun _ _ _ _ _ => .bad f 18000007⟩
    | none, b => (codeB f b).use fun gb => ⟨fun call E H n k => loopGo f (gb call) k loopFuel E H n⟩
  | .region id ops draw => (opsB C f ops (sched ops draw)).use fun go => match C.live f id, draw with
    | some l, true => ⟨fun call E H n k => go call E H n fun out E H n => match out with
      | .nrm => k .nrm (keepT E l) H n
      | out => .bad f (1000000 + id)⟩
    | some l, false => ⟨fun call E H n k => go call E H n fun out E H n => match out with
      | .nrm => k .nrm (keepT E l) H n
      | out => k out E H n⟩
    | none, true => ⟨fun call E H n k => go call E H n fun out E H n => match out with
      | .nrm => k .nrm E H n
      | out => .bad f (1000000 + id)⟩
    | none, false => ⟨fun call E H n k => go call E H n fun out E H n => match out with
      | .nrm => k .nrm E H n
      | out => k out E H n⟩
  | .rangeFunc g ps assign body => rangeB C f g ps assign body
  | _ => ⟨fun _ _ _ _ _ => .bad f 999980⟩
theorem codeB_both (f : Nat) (c : Code) : (codeB C f c).fn = codeT C f c ∧ ∀ a r, c = .seq a r → (codeB C f r).fn = codeT C f r := by
  induction c with
  | seq a b iha ihb => exact ⟨by simp only [codeB, Bx.use_eq, iha.1, ihb.1, codeT]; rfl, fun a' r' h => by injection h with _ h; subst h; exact ihb.1⟩
  | cond c a b iha ihb =>
    refine ⟨?_, fun _ _ h => by cases h⟩
    simp only [codeB, Bx.use_eq, iha.1, ihb.1, codeT]
    cases c with
    | tmp t =>
      simp only [Bx.use_eq]
      funext call E H n k
      show (match accT t E with | .bool true => _ | .bool false => _ | _ => _) = (match (accT t E).got with | some (.bool true) => _ | some (.bool false) => _ | _ => _)
      cases accT t E <;> first | rfl | skip
      rename_i b
      cases b <;> rfl
    | _ => rfl
  | block id b ih => exact ⟨by simp only [codeB, Bx.use_eq, ih.1, codeT]; rfl, fun _ _ h => by cases h⟩
  | scope b ih => exact ⟨by simp only [codeB, ih.1, codeT], fun _ _ h => by cases h⟩
  | loop b ih =>
    refine ⟨?_, fun _ _ h => by cases h⟩
    unfold codeB codeT
    cases hr : C.roundsOf f b with
    | some m =>
      cases b <;> first | rfl | skip
      simp only [Bx.use_eq, ih.2 _ _ rfl]
    | none => simp only [Bx.use_eq, ih.1]
  | region id ops draw =>
    refine ⟨?_, fun _ _ h => by cases h⟩
    simp only [codeB, Bx.use_eq, opsB_eq, codeT]
    cases C.live f id <;> cases draw <;> rfl
  | _ => exact ⟨rfl, fun _ _ h => by cases h⟩
theorem codeB_eq (f : Nat) (c : Code) : (codeB C f c).fn = codeT C f c := (codeB_both C f c).1

variable (TP : PrimT) (FN : Nat → Option FI)
abbrev CallF := Caller → List AV → TH → Nat → KontC → Res
def callB (f : Nat) : Bx CallF := match TP f with
  | some p => ⟨fun _ args H n k => match p args (RT H) n with
    | none => .bad f 999998
    | some (res, y) => effT f 0 y H n fun H n => k res H n⟩
  | none => match FN f with
    | none => ⟨fun _ _ _ _ _ => .bad f 999997⟩
    | some fi => (codeB C f fi.body).use fun g => ⟨fun call args H n k => match Nat.beq args.length fi.params with
      | false => .bad f 999996
      | true => g call (argsT (nat_lit 0) args .nil) H n fun out E H n => match out with
        | .nrm | .ret => (match resultsF C (evalT C E) (RT H) fi.results with
          | none => .bad f 999995
          | some vs => k (.ret (packA vs)) H n)
        | .pan v => k (.pan v) H n
        | .exit _ => .bad f 999994⟩
theorem callB_eq (f : Nat) : (callB C TP FN f).fn = callT C TP FN f := by
  unfold callB callT
  cases TP f with
  | some p => rfl
  | none =>
    simp only
    cases FN f with
    | none => rfl
    | some fi => simp only [Bx.use_eq, codeB_eq]; rfl

def roundB (call : Caller) (o : Nat) (vs : List AV) (H : TH) (n : Nat) (k : KontC) : Res := match loopT H o with
  | some ⟨.ready, _, f, env, ps, assign, body⟩ => match Nat.beq ps.length vs.length with
    | false => .bad f 999992
    | true => (codeB C f assign).use fun ga => ga call (putsT env ps vs) H n fun out E1 H1 n1 => match out, loopT H1 o with
      | .nrm, some ⟨.ready, pend1, f1, env1, ps1, assign1, body1⟩ =>
        (codeB C f body).use fun gb => gb call E1 (H1.put none o (some (.lp ⟨.busy, pend1, f1, env1, ps1, assign1, body1⟩))) n1 fun out E2 H2 n2 => match loopT H2 o, jumpOf out with
          | some ⟨_, _, f2, env2, ps2, assign2, body2⟩, some j => k (.ret (.bool j.isNone)) (H2.put none o (some (.lp ⟨match j with | none => .ready | some _ => .done, j, f2, env2, ps2, assign2, body2⟩))) n2
          | _, _ => .bad f 999989
      | _, _ => .bad f 999991
  | _ => .bad 0 999993
theorem roundB_eq (call : Caller) (o : Nat) (vs : List AV) (H : TH) (n : Nat) (k : KontC) : roundB C call o vs H n k = roundT C call o vs H n k := by
  unfold roundB roundT
  simp only [Bx.use_eq, codeB_eq]; rfl

def runB (fuel : Nat) : Caller := Nat.rec (motive := fun _ => Caller) (fun _ _ _ _ _ => .bad 0 999999) (fun _ ih g vs H n k => match g with
  | .clo f caps => (callB C TP FN f).use fun q => q ih (vs ++ caps) H n k
  | .yld o => roundB C ih o vs H n k
  | _ => .bad 0 999987) fuel
theorem runB_eq (fuel : Nat) : runB C TP FN fuel = Rv.runT C TP FN fuel := by
  induction fuel with
  | zero => rfl
  | succ fuel ih =>
    funext g vs H n k
    show (match g with | .clo f caps => (callB C TP FN f).use fun q => q (runB C TP FN fuel) (vs ++ caps) H n k | .yld o => roundB C (runB C TP FN fuel) o vs H n k | _ => KR.bad 0 999987) = (match g with | .clo f caps => callT C TP FN f (Rv.runT C TP FN fuel) (vs ++ caps) H n k | .yld o => roundT C (Rv.runT C TP FN fuel) o vs H n k | _ => KR.bad 0 999987)
    rw [ih]
    simp only [Bx.use_eq, callB_eq, roundB_eq]
end

theorem runs_box {C : Cfg} {TP : PrimT} {FN : Nat → Option FI} (hP : Plainly C) (hT : TwinOk C TP FN) {f fuel : Nat} (hs : runB C TP FN fuel (.clo f []) [] .nil 0 kTrue = .ok true) : ∃ h', call C f [] [] = some (.ret (.bool true), h') := by
  rw [runB_eq] at hs
  exact runs_fast hP hT hs
end Go.Rv
