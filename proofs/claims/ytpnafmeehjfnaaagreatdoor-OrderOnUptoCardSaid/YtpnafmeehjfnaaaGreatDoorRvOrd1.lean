/-
  Regions that draw their order: what may change places; the interpreter's run as a row of states.
-/
import Derived.Test.YtpnafmeehjfnaaaGreatDoorRvExec
import Derived.Orders
set_option linter.unusedSimpArgs false
set_option linter.unusedVariables false
namespace Go.Rv

def tmpsOf (xs : List Operand) : List Nat := xs.filterMap fun | .tmp t => some t | _ => none

/-- The slots that an operation reads. -/
def reads (ops : Array Oper) (o : Oper) : List Nat :=
  tmpsOf o.op.operands.toList ++ (match o.guard with | some (j, _) => ((ops[j]?).bind (·.dst)).toList | none => [])

def loudOp (C : Cfg) (f : Nat) (o : Oper) : Bool :=
  match o.op with
  | .move _ | .assign _ | .pick .. | .build .. | .load .. | .nilCheck _ | .binOp .. | .unOp .. | .convert .. | .makeInterface .. | .makeFunc .. | .slice .. | .fieldAddr .. | .field .. | .indexAddr .. | .index .. | .extract .. | .lookup .. => false
  | .buildSlice .. | .box .. => !(o.dst.map (C.imm f)).getD false
  | .call { callee := .builtin .len, .. } => false
  | .call { callee := .value (.func g), .. } => !C.pure g
  | .call { callee := .value _, .. } => !(o.dst.map (C.quiet f)).getD false
  | _ => true

def touchOp (C : Cfg) (f : Nat) (o : Oper) : Bool :=
  match o.op with
  | .convert src _ _ => (match C.ty src with | some ti => (match ti.td with | .slice _ => true | _ => false) | none => false)
  | .move _ | .assign _ | .pick .. | .build .. | .unOp .. | .makeInterface .. | .makeFunc .. | .field .. | .index .. | .extract .. => false
  | .binOp _ t _ _ _ => (match C.ty t with | some ti => (match ti.td with | .ptr | .slice _ => true | _ => false) | none => false)
  | .buildSlice .. | .box .. => !(o.dst.map (C.imm f)).getD false
  | .load .. => !(o.dst.map (C.quiet f)).getD false
  | _ => true

/-- Does the one write what the other one reads or writes? -/
def dstC (ops : Array Oper) (x y : Oper) : Bool :=
  (match x.dst with | some d => (reads ops y).contains d || y.dst == some d | none => false) ||
  (match y.dst with | some d => (reads ops x).contains d | none => false)
/-- Does the one change the heap, and the other one look at it? -/
def heapC (C : Cfg) (f : Nat) (x y : Oper) : Bool :=
  !isAlloc x && !isAlloc y && ((loudOp C f x && touchOp C f y) || (loudOp C f y && touchOp C f x))

/-- Does the second one, which is looked at, let the first one, number i, be done behind it? -/
def looseP (C : Cfg) (f : Nat) (i : Nat) (x y : Oper) : Bool :=
  !loudOp C f x && (match dkey y with | some t => (C.loose f t).contains i | none => false)

/-- Does the second one write nothing that the first one reads or writes? -/
def antiC (ops : Array Oper) (x y : Oper) : Bool :=
  match y.dst with | some d => !(reads ops x).contains d && !(x.dst == some d) | none => true

def anyLoose (C : Cfg) (f : Nat) (ops : Array Oper) : Bool := ops.toList.any fun o => match dkey o with | some t => !(C.loose f t).isEmpty | none => false

def pairsOk (C : Cfg) (f : Nat) (ops : Array Oper) (b : Array Nat) : List Nat → Bool
  | [] => true
  | i :: r => r.all (fun j => match ops[i]?, ops[j]? with
      | some x, some y => ((!dstC ops x y && (!heapC C f x y || looseP C f i x y)) || (b.getD j 0).testBit i) && (!anyLoose C f ops || antiC ops x y)
      | _, _ => true) && pairsOk C f ops b r

def ordOk (C : Cfg) (f : Nat) (ops : Array Oper) : Bool :=
  pairsOk C f ops (Region.before ops) (ordIdx ops) &&
  (List.range ops.size).all (fun i => match ops[i]? with
    | some o => (!isAlloc o || (o.guard.isNone && o.dst.isSome)) && o.after.all (fun e => !Region.binds .any e || e.on < i) && !(match o.dst with | some d => (reads ops o).contains d | none => false)
    | none => true)

theorem loud_touch {C : Cfg} {f : Nat} {o : Oper} (h : loudOp C f o = true) : touchOp C f o = true := by
  unfold loudOp at h
  unfold touchOp
  generalize o.op = op at h ⊢
  cases op <;> first | rfl | exact h | (cases h; done) | skip

section
variable {P : Program} {C : Cfg} {s : Sim} {h : Heap} {w : World}

/-! ### Only the operands count -/

theorem evalA_congr {e e' : Env} {x : Operand} (hx : ∀ t, x = .tmp t → e.get t = e'.get t) : evalA C e x = evalA C e' x := by
  cases x with
  | tmp t => simp only [evalA, hx t rfl]
  | _ => rfl
theorem mapO_congr {α β : Type} {f g : α → Option β} : ∀ {l : List α}, (∀ a ∈ l, f a = g a) → mapO f l = mapO g l
  | [], _ => rfl
  | a :: l, hl => by
    simp only [mapO]
    rw [hl a (by simp), mapO_congr (l := l) (fun b hb => hl b (by simp [hb]))]
theorem optA_congr {e e' : Env} {x : Option Operand} (hx : ∀ y, x = some y → evalA C e y = evalA C e' y) : optA C e x = optA C e' x := by
  cases x with
  | none => rfl
  | some x => simp only [optA, hx x rfl]

theorem mem_tmpsOf {xs : List Operand} {t : Nat} (hx : Operand.tmp t ∈ xs) : t ∈ tmpsOf xs := by
  unfold tmpsOf
  exact List.mem_filterMap.2 ⟨_, hx, rfl⟩

theorem opA_congr {f : Nat} {e e' : Env} {h : Heap} {o : Oper} (he : ∀ t, t ∈ tmpsOf o.op.operands.toList → e.get t = e'.get t) : opA C f e h o = opA C f e' h o := by
  have ev : ∀ x : Operand, x ∈ o.op.operands.toList → evalA C e x = evalA C e' x := fun x hx => evalA_congr fun t ht => he t (mem_tmpsOf (ht ▸ hx))
  unfold opA
  simp only
  generalize o.op = op at ev ⊢
  cases op <;> (try simp only)
  case move x => rw [ev x (by simp [Op.operands])]
  case assign x => rw [ev x (by simp [Op.operands])]
  case pick c a b => rw [ev c (by simp [Op.operands]), ev a (by simp [Op.operands]), ev b (by simp [Op.operands])]
  case box t x => rw [ev x (by simp [Op.operands])]
  case build t ps => rw [mapO_congr (l := ps.toList) (fun p hp => by rw [ev p.2 (by simp [Op.operands]; exact ⟨p.1, by simpa using hp⟩)])]
  case buildSlice t n ps => rw [mapO_congr (l := ps.toList) (fun p hp => by rw [ev p.2 (by simp [Op.operands]; exact ⟨p.1, by simpa using hp⟩)])]
  case load t x => rw [ev x (by simp [Op.operands])]
  case store t x y => rw [ev x (by simp [Op.operands]), ev y (by simp [Op.operands])]
  case nilCheck x => rw [ev x (by simp [Op.operands])]
  case binOp b t x y t' => rw [ev x (by simp [Op.operands]), ev y (by simp [Op.operands])]
  case unOp u t x => rw [ev x (by simp [Op.operands])]
  case convert a b x => rw [ev x (by simp [Op.operands])]
  case makeInterface t x => rw [ev x (by simp [Op.operands])]
  case makeFunc fn first caps =>
    cases fn <;> simp only
    rw [mapO_congr (l := caps.toList) (fun x hx => ev x (by simp [Op.operands]; right; simpa using hx))]
  case makeSlice t x y => rw [ev x (by simp [Op.operands]), ev y (by simp [Op.operands])]
  case makeMap t r => cases r <;> rfl
  case range t x => rw [ev x (by simp [Op.operands])]
  case entry x => rw [ev x (by simp [Op.operands])]
  case lookup t x y ok => rw [ev x (by simp [Op.operands]), ev y (by simp [Op.operands])]
  case mapUpdate t x y z => rw [ev x (by simp [Op.operands]), ev y (by simp [Op.operands]), ev z (by simp [Op.operands])]
  case insert t x y z => rw [ev x (by simp [Op.operands]), ev y (by simp [Op.operands]), ev z (by simp [Op.operands])]
  case slice t x lo hi mx =>
    rw [ev x (by simp [Op.operands]), optA_congr (C := C) (e := e) (e' := e') (x := lo) (fun y hy => ev y (by simp [Op.operands, hy])), optA_congr (C := C) (e := e) (e' := e') (x := hi) (fun y hy => ev y (by simp [Op.operands, hy]))]
  case fieldAddr t x k => rw [ev x (by simp [Op.operands])]
  case field t x k => rw [ev x (by simp [Op.operands])]
  case indexAddr t x y => rw [ev x (by simp [Op.operands]), ev y (by simp [Op.operands])]
  case index t x y => rw [ev x (by simp [Op.operands]), ev y (by simp [Op.operands])]
  case extract x k => rw [ev x (by simp [Op.operands])]
  case call c =>
    obtain ⟨callee, args, ct⟩ := c
    cases callee <;> simp only
    rw [mapO_congr (l := args.toList) (fun x hx => ev x (by simp [Op.operands, Call.operands]; simpa using hx))]

/-! ### What leaves the heap alone -/

theorem eqA_still {h h2 : Heap} {td : TD} {x y : AV} (ht : (match td with | .ptr | .slice _ => true | _ => false) = false) : eqA h td x y = eqA h2 td x y := by
  cases td <;> simp only [reduceCtorEq] at ht <;> cases x <;> first | rfl | (cases y <;> rfl)

theorem opA_still {f : Nat} {e : Env} {h h1 : Heap} {o : Oper} {v : AV} (hl : touchOp C f o = false) (ha : isAlloc o = false) (hv : opA C f e h o = some (v, h1)) : h1 = h ∧ ∀ h2, opA C f e h2 o = some (v, h2) := by
  have fin : ∀ {x : Option AV}, (x.bind fun y => some (y, h)) = some (v, h1) → h1 = h ∧ ∀ h2 : Heap, (x.bind fun y => some (y, h2)) = some (v, h2) := by
    intro x hx
    obtain ⟨y, hy, hx⟩ := Option.bind_eq_some_iff.1 hx
    simp only [Option.some.injEq, Prod.mk.injEq] at hx
    obtain ⟨rfl, rfl⟩ := hx
    exact ⟨rfl, fun h2 => by rw [hy]; rfl⟩
  have cong : ∀ {α : Type} {x : Option α} {F G : α → Option (AV × Heap)}, (∀ y, F y = some (v, h1) → h1 = h ∧ ∀ h2 : Heap, True) → True := fun _ => trivial
  unfold opA at hv ⊢
  unfold touchOp at hl
  unfold isAlloc at ha
  simp only [Option.bind_eq_bind] at hv ⊢
  generalize o.op = op at hv hl ha ⊢
  cases op <;> simp only [reduceCtorEq, Bool.true_eq_false] at hv hl ha ⊢
  case move x => exact fin hv
  case assign x => exact fin hv
  case pick c a b =>
    obtain ⟨cv, hc, hv⟩ := Option.bind_eq_some_iff.1 hv
    simp only [hc, Option.bind_some]
    split at hv
    · exact fin hv
    · exact fin hv
    · cases hv
  case build t ps =>
    obtain ⟨q, hq, hv⟩ := Option.bind_eq_some_iff.1 hv
    simp only [hq, Option.bind_some]
    exact fin hv
  case box t x =>
    simp only [Bool.not_eq_false'] at hl
    obtain ⟨ti, hti, hv⟩ := Option.bind_eq_some_iff.1 hv
    obtain ⟨xv, hx, hv⟩ := Option.bind_eq_some_iff.1 hv
    simp only [hti, hx, Option.bind_some]
    split at hv
    · rename_i hc
      simp only [hl, if_true, Option.some.injEq, Prod.mk.injEq] at hv
      obtain ⟨rfl, rfl⟩ := hv
      exact ⟨rfl, fun h2 => by rw [if_pos hc]; simp [hl]⟩
    · cases hv
  case load t x =>
    simp only [Bool.not_eq_false'] at hl
    obtain ⟨xv, hx, hv⟩ := Option.bind_eq_some_iff.1 hv
    simp only [hx, Option.bind_some]
    split at hv
    · cases hv
    · rename_i hc
      have hr : xv.isRef = true := by simpa [hl] using hc
      cases xv <;> simp only [AV.isRef, Bool.false_eq_true] at hr
      obtain ⟨h1, h2⟩ := fin hv
      exact ⟨h1, fun h3 => by rw [if_neg hc]; exact h2 h3⟩
  case buildSlice t n ps =>
    simp only [Bool.not_eq_false'] at hl
    obtain ⟨q, hq, hv⟩ := Option.bind_eq_some_iff.1 hv
    obtain ⟨ti, hti, hv⟩ := Option.bind_eq_some_iff.1 hv
    simp only [hq, hti, Option.bind_some]
    generalize ti.td = td at hv ⊢
    cases td <;> simp only [reduceCtorEq] at hv ⊢
    obtain ⟨te, hte, hv⟩ := Option.bind_eq_some_iff.1 hv
    simp only [hte, Option.bind_some]
    split at hv
    · cases hv
    · rename_i hc
      obtain ⟨cs, hcs, hv⟩ := Option.bind_eq_some_iff.1 hv
      simp only [hl, if_true, Option.some.injEq, Prod.mk.injEq] at hv
      obtain ⟨rfl, rfl⟩ := hv
      exact ⟨rfl, fun h2 => by rw [if_neg hc, hcs]; simp [hl]⟩
  case binOp b t x y t' =>
    obtain ⟨xv, hx, hv⟩ := Option.bind_eq_some_iff.1 hv
    obtain ⟨yv, hy, hv⟩ := Option.bind_eq_some_iff.1 hv
    simp only [hx, hy, Option.bind_some]
    obtain ⟨z, hz, hv⟩ := Option.bind_eq_some_iff.1 hv
    simp only [Option.some.injEq, Prod.mk.injEq] at hv
    obtain ⟨rfl, rfl⟩ := hv
    refine ⟨rfl, fun h2 => ?_⟩
    have : binA C h2 b t xv yv = binA C h b t xv yv := by
      unfold binA
      split
      · rfl
      · rfl
      · cases hti : C.ty t with
        | none => rfl
        | some ti =>
          simp only [hti] at hl
          have he : eqC C h2 t ti.td xv yv = eqC C h t ti.td xv yv := by
            unfold eqC
            split
            · rfl
            · exact eqA_still (h := h2) (h2 := h) hl
          simp only [Option.bind_eq_bind, Option.bind_some, he]
    rw [this, hz]; rfl
  case unOp u t x =>
    obtain ⟨xv, hx, hv⟩ := Option.bind_eq_some_iff.1 hv
    simp only [hx, Option.bind_some]
    exact fin hv
  case convert a b x =>
    obtain ⟨xv, hx, hv⟩ := Option.bind_eq_some_iff.1 hv
    simp only [hx, Option.bind_some]
    obtain ⟨z, hz, hv⟩ := Option.bind_eq_some_iff.1 hv
    simp only [Option.some.injEq, Prod.mk.injEq] at hv
    obtain ⟨rfl, rfl⟩ := hv
    refine ⟨rfl, fun h2 => ?_⟩
    have : convH C h2 a b xv = convH C h a b xv := by
      unfold convH
      cases hti : C.ty a with
      | none => rfl
      | some ti =>
        simp only [hti] at hl
        simp only [Option.bind_eq_bind, Option.bind_some]
        generalize ti.td = td at hl ⊢
        cases td <;> first | rfl | cases hl
    rw [this, hz]; rfl
  case makeInterface t x =>
    obtain ⟨ti, hti, hv⟩ := Option.bind_eq_some_iff.1 hv
    simp only [hti, Option.bind_some]
    generalize ti.td = td at hv ⊢
    cases td <;> first | (cases hv; done) | (
      obtain ⟨xv, hx, hv⟩ := Option.bind_eq_some_iff.1 hv
      simp only [Option.some.injEq, Prod.mk.injEq] at hv
      obtain ⟨rfl, rfl⟩ := hv
      exact ⟨rfl, fun h2 => by simp only [hx, Option.bind_some]⟩)
  case makeFunc fn first caps =>
    cases fn <;> simp only [reduceCtorEq] at hv ⊢
    split at hv
    · rename_i hf
      obtain ⟨cs, hcs, hv⟩ := Option.bind_eq_some_iff.1 hv
      simp only [Option.some.injEq, Prod.mk.injEq] at hv
      obtain ⟨rfl, rfl⟩ := hv
      exact ⟨rfl, fun h2 => by rw [if_pos hf, hcs]; rfl⟩
    · cases hv
  case field t x k =>
    obtain ⟨xv, hx, hv⟩ := Option.bind_eq_some_iff.1 hv
    simp only [hx, Option.bind_some]
    exact fin hv
  case index t x y =>
    obtain ⟨xv, hx, hv⟩ := Option.bind_eq_some_iff.1 hv
    obtain ⟨yv, hy, hv⟩ := Option.bind_eq_some_iff.1 hv
    simp only [hx, hy, Option.bind_some]
    exact fin hv
  case extract x k =>
    obtain ⟨xv, hx, hv⟩ := Option.bind_eq_some_iff.1 hv
    simp only [hx, Option.bind_some]
    split at hv
    · exact fin hv
    · cases hv

theorem opA_quiet {f : Nat} {e : Env} {h h1 : Heap} {o : Oper} {v : AV} (hl : loudOp C f o = false) (hv : opA C f e h o = some (v, h1)) : h1 = h := by
  have fin : ∀ {x : Option AV}, (x.bind fun y => some (y, h)) = some (v, h1) → h1 = h := by
    intro x hx
    obtain ⟨y, hy, hx⟩ := Option.bind_eq_some_iff.1 hx
    simp only [Option.some.injEq, Prod.mk.injEq] at hx
    exact hx.2.symm
  by_cases ht : touchOp C f o = false
  · refine (opA_still (C := C) ht ?_ hv).1
    unfold isAlloc
    unfold loudOp at hl
    split <;> first | rfl | skip
    rename_i t ho
    rw [ho] at hl
    cases hl
  · unfold opA at hv
    unfold loudOp at hl
    unfold touchOp at ht
    simp only [Option.bind_eq_bind] at hv
    generalize o.op = op at hv hl ht
    cases op <;> simp only [reduceCtorEq, Bool.true_eq_false, not_true_eq_false] at hv hl ht
    case load t x =>
      obtain ⟨xv, hx, hv⟩ := Option.bind_eq_some_iff.1 hv
      split at hv
      · cases hv
      · exact fin hv
    case box t x => exact absurd hl ht
    case buildSlice t n ps => exact absurd hl ht
    case nilCheck x =>
      obtain ⟨xv, hx, hv⟩ := Option.bind_eq_some_iff.1 hv
      split at hv
      · split at hv
        · simp only [Option.some.injEq, Prod.mk.injEq] at hv; exact hv.2.symm
        · cases hv
      all_goals first | (simp only [Option.some.injEq, Prod.mk.injEq] at hv; exact hv.2.symm) | cases hv
    case binOp b t x y t' =>
      obtain ⟨xv, hx, hv⟩ := Option.bind_eq_some_iff.1 hv
      obtain ⟨yv, hy, hv⟩ := Option.bind_eq_some_iff.1 hv
      exact fin hv
    case convert a b x =>
      obtain ⟨xv, hx, hv⟩ := Option.bind_eq_some_iff.1 hv
      exact fin hv
    case slice t x lo hi mx =>
      obtain ⟨xv, hx, hv⟩ := Option.bind_eq_some_iff.1 hv
      obtain ⟨yv, hy, hv⟩ := Option.bind_eq_some_iff.1 hv
      split at hv
      · cases hv
      · obtain ⟨zv, hz, hv⟩ := Option.bind_eq_some_iff.1 hv
        exact fin hv
    case fieldAddr t x k =>
      obtain ⟨xv, hx, hv⟩ := Option.bind_eq_some_iff.1 hv
      exact fin hv
    case lookup t x y ok =>
      obtain ⟨xv, hx, hv⟩ := Option.bind_eq_some_iff.1 hv
      obtain ⟨yv, hy, hv⟩ := Option.bind_eq_some_iff.1 hv
      exact fin hv
    case indexAddr t x y =>
      obtain ⟨xv, hx, hv⟩ := Option.bind_eq_some_iff.1 hv
      obtain ⟨yv, hy, hv⟩ := Option.bind_eq_some_iff.1 hv
      exact fin hv
    case call c =>
      obtain ⟨callee, args, ct⟩ := c
      cases callee <;> simp only [reduceCtorEq] at hv hl
      case builtin b =>
        cases b <;> simp only [Bool.true_eq_false] at hl
        obtain ⟨vs, hvs, hv⟩ := Option.bind_eq_some_iff.1 hv
        split at hv
        · obtain ⟨t, ht', hv⟩ := Option.bind_eq_some_iff.1 hv
          obtain ⟨ti, hti, hv⟩ := Option.bind_eq_some_iff.1 hv
          obtain ⟨n, hn, hv⟩ := Option.bind_eq_some_iff.1 hv
          simp only [Option.some.injEq, Prod.mk.injEq] at hv
          exact hv.2.symm
        · rename_i hb; cases hb
        · simp [moreA] at hv

theorem callF_pure {ord : Nat → Array Oper → Bool} (K : Ok P C ord) {k g : Nat} {args : List AV} {h h' : Heap} {v : AV} (hp : C.pure g = true) (hc : callF C k g args h = some (.ret v, h')) : h' = h := by
  cases k with
  | zero => simp [callF] at hc
  | succ k =>
    simp only [callF, Option.bind_eq_bind] at hc
    cases hpr : C.prim g with
    | some p =>
      simp only [hpr] at hc
      exact (K.prim g p hpr).2.1 hp _ _ _ _ hc
    | none =>
      simp only [hpr] at hc
      obtain ⟨fi, hfi, hc⟩ := Option.bind_eq_some_iff.1 hc
      split at hc
      · cases hc
      split at hc
      · obtain ⟨avs, _, hc⟩ := Option.bind_eq_some_iff.1 hc
        obtain ⟨⟨out, e1, h1⟩, hx, hc⟩ := Option.bind_eq_some_iff.1 hc
        have hrs : ∀ {y : Option (List AV)}, (y.bind fun rs => if (packA rs).plain then some (CRes.ret (packA rs), h) else none) = some (.ret v, h') → h' = h := by
          intro y hy
          obtain ⟨rs, _, hy⟩ := Option.bind_eq_some_iff.1 hy
          split at hy
          · simp only [Option.some.injEq, Prod.mk.injEq] at hy; exact hy.2.symm
          · cases hy
        cases out <;> first | exact hrs hc | cases hc
      obtain ⟨⟨out, e1, h1⟩, hx, hc⟩ := Option.bind_eq_some_iff.1 hc
      have hleave : ∀ {vs : Option (List AV)}, (vs.bind fun vs => leaveA C g h (packA vs) h1) = some (.ret v, h') → h' = h := by
        intro vs hv
        obtain ⟨rs, _, hv⟩ := Option.bind_eq_some_iff.1 hv
        unfold leaveA at hv
        rw [if_pos hp] at hv
        split at hv
        · obtain ⟨y, _, hy⟩ := Option.map_eq_some_iff.1 hv
          simp only [Prod.mk.injEq] at hy
          exact hy.2.symm
        · cases hv
      cases out with
      | nrm => exact hleave hc
      | ret => exact hleave hc
      | exit id => cases hc
      | pan u =>
        simp only [Option.some.injEq, Prod.mk.injEq, reduceCtorEq, false_and] at hc

theorem callV_pure {ord : Nat → Array Oper → Bool} (K : Ok P C ord) {k : Nat} {gv : AV} {vs : List AV} {h h' : Heap} {v : AV} (hp : pureV C gv = true) (hc : callV C k gv vs h = some (.ret v, h')) : h' = h := by
  cases k with
  | zero => simp [callV] at hc
  | succ k =>
    cases gv <;> simp only [pureV, Bool.false_eq_true] at hp
    simp only [callV] at hc
    exact callF_pure K hp hc
end
end Go.Rv
