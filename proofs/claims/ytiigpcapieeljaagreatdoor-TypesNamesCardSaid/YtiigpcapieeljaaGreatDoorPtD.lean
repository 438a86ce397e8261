/-
  Regions that draw their order: what may change places; the interpreter's run as a row of states.
-/
import Derived.Test.YtiigpcapieeljaaGreatDoorRvExec
import Derived.Orders
set_option linter.unusedSectionVars false
set_option linter.unusedSimpArgs false
set_option linter.unusedVariables false
set_option linter.defProp false
set_option linter.unusedSimpArgs false
set_option linter.unusedVariables false
namespace Go.Rv

def tmpsOf (xs : List Operand) : List Nat := xs.filterMap fun | .tmp t => some t | _ => none

/-- The slots that an operation reads. -/
def reads (ops : Array Oper) (o : Oper) : List Nat :=
  tmpsOf o.op.operands.toList ++ (match o.guard with | some (j, _) => ((ops[j]?).bind (·.dst)).toList | none => [])

def loudOp (C : Cfg) (f : Nat) (o : Oper) : Bool :=
  match o.op with
  | .move _ | .assign _ | .pick .. | .build .. | .load .. | .nilCheck _ | .binOp .. | .unOp .. | .convert .. | .makeInterface .. | .makeFunc .. | .slice .. | .fieldAddr .. | .field .. | .indexAddr .. | .index .. | .extract .. | .lookup .. => false
  | .buildSlice .. | .box .. => !(o.dst.map (C.imm f)).getD false
  | .call { callee := .builtin .len, .. } => false
  | .call { callee := .value (.func g), .. } => !C.pure g
  | .call { callee := .value _, .. } => !(o.dst.map (C.quiet f)).getD false
  | _ => true

def touchOp (C : Cfg) (f : Nat) (o : Oper) : Bool :=
  match o.op with
  | .convert src _ _ => (match C.ty src with | some ti => (match ti.td with | .slice _ => true | _ => false) | none => false)
  | .move _ | .assign _ | .pick .. | .build .. | .unOp .. | .makeInterface .. | .makeFunc .. | .field .. | .index .. | .extract .. => false
  | .binOp _ t _ _ _ => (match C.ty t with | some ti => (match ti.td with | .ptr | .slice _ => true | _ => false) | none => false)
  | .buildSlice .. | .box .. => !(o.dst.map (C.imm f)).getD false
  | .load .. => !(o.dst.map (C.quiet f)).getD false
  | _ => true

/-- Does the one write what the other one reads or writes? -/
def dstC (ops : Array Oper) (x y : Oper) : Bool :=
  (match x.dst with | some d => (reads ops y).contains d || y.dst == some d | none => false) ||
  (match y.dst with | some d => (reads ops x).contains d | none => false)
/-- Does the one change the heap, and the other one look at it? -/
def heapC (C : Cfg) (f : Nat) (x y : Oper) : Bool :=
  !isAlloc x && !isAlloc y && ((loudOp C f x && touchOp C f y) || (loudOp C f y && touchOp C f x))

/-- Does the second one, which is looked at, let the first one, number i, be done behind it? -/
def looseP (C : Cfg) (f : Nat) (i : Nat) (x y : Oper) : Bool :=
  !loudOp C f x && (match dkey y with | some t => (C.loose f t).contains i | none => false)

/-- Does the second one write nothing that the first one reads or writes? -/
def antiC (ops : Array Oper) (x y : Oper) : Bool :=
  match y.dst with | some d => !(reads ops x).contains d && !(x.dst == some d) | none => true

/-- May that operation be done behind some other one? -/
def looseI (C : Cfg) (f : Nat) (ops : Array Oper) (i : Nat) : Bool := ops.toList.any fun o => match dkey o with | some t => (C.loose f t).contains i | none => false

def pairsOk (C : Cfg) (f : Nat) (ops : Array Oper) (b : Array Nat) : List Nat → Bool
  | [] => true
  | i :: r => r.all (fun j => match ops[i]?, ops[j]? with
      | some x, some y => ((!dstC ops x y && (!heapC C f x y || looseP C f i x y)) || (b.getD j 0).testBit i) && (!looseI C f ops i || antiC ops x y)
      | _, _ => true) && pairsOk C f ops b r

def ordOk (C : Cfg) (f : Nat) (ops : Array Oper) : Bool :=
  pairsOk C f ops (Region.before ops) (ordIdx ops) &&
  (List.range ops.size).all (fun i => match ops[i]? with
    | some o => (!isAlloc o || (o.guard.isNone && o.dst.isSome)) && o.after.all (fun e => !Region.binds .any e || e.on < i) && !(match o.dst with | some d => (reads ops o).contains d | none => false)
    | none => true)

theorem loud_touch {C : Cfg} {f : Nat} {o : Oper} (h : loudOp C f o = true) : touchOp C f o = true := by
  unfold loudOp at h
  unfold touchOp
  generalize o.op = op at h ⊢
  cases op <;> first | rfl | exact h | (cases h; done) | skip

section
variable {P : Program} {C : Cfg} {s : Sim} {h : Heap} {w : World}


theorem evalA_congr {e e' : Env} {x : Operand} (hx : ∀ t, x = .tmp t → e.get t = e'.get t) : evalA C e x = evalA C e' x := by
  cases x with
  | tmp t => simp only [evalA, hx t rfl]
  | _ => rfl
theorem mapO_congr {α β : Type} {f g : α → Option β} : ∀ {l : List α}, (∀ a ∈ l, f a = g a) → mapO f l = mapO g l
  | [], _ => rfl
  | a :: l, hl => by
    simp only [mapO]
    rw [hl a (by simp), mapO_congr (l := l) (fun b hb => hl b (by simp [hb]))]
theorem optA_congr {e e' : Env} {x : Option Operand} (hx : ∀ y, x = some y → evalA C e y = evalA C e' y) : optA C e x = optA C e' x := by
  cases x with
  | none => rfl
  | some x => simp only [optA, hx x rfl]

theorem mem_tmpsOf {xs : List Operand} {t : Nat} (hx : Operand.tmp t ∈ xs) : t ∈ tmpsOf xs := by
  unfold tmpsOf
  exact List.mem_filterMap.2 ⟨_, hx, rfl⟩

theorem opA_congr {f : Nat} {e e' : Env} {h : Heap} {o : Oper} (he : ∀ t, t ∈ tmpsOf o.op.operands.toList → e.get t = e'.get t) : opA C f e h o = opA C f e' h o := by
  have ev : ∀ x : Operand, x ∈ o.op.operands.toList → evalA C e x = evalA C e' x := fun x hx => evalA_congr fun t ht => he t (mem_tmpsOf (ht ▸ hx))
  unfold opA
  simp only
  generalize o.op = op at ev ⊢
  cases op <;> (try simp only)
  case move x => rw [ev x (by simp [Op.operands])]
  case assign x => rw [ev x (by simp [Op.operands])]
  case pick c a b => rw [ev c (by simp [Op.operands]), ev a (by simp [Op.operands]), ev b (by simp [Op.operands])]
  case box t x => rw [ev x (by simp [Op.operands])]
  case build t ps => rw [mapO_congr (l := ps.toList) (fun p hp => by rw [ev p.2 (by simp [Op.operands]; exact ⟨p.1, by simpa using hp⟩)])]
  case buildSlice t n ps => rw [mapO_congr (l := ps.toList) (fun p hp => by rw [ev p.2 (by simp [Op.operands]; exact ⟨p.1, by simpa using hp⟩)])]
  case load t x => rw [ev x (by simp [Op.operands])]
  case store t x y => rw [ev x (by simp [Op.operands]), ev y (by simp [Op.operands])]
  case nilCheck x => rw [ev x (by simp [Op.operands])]
  case binOp b t x y t' => rw [ev x (by simp [Op.operands]), ev y (by simp [Op.operands])]
  case unOp u t x => rw [ev x (by simp [Op.operands])]
  case convert a b x => rw [ev x (by simp [Op.operands])]
  case makeInterface t x => rw [ev x (by simp [Op.operands])]
  case makeFunc fn first caps =>
    cases fn <;> simp only
    rw [mapO_congr (l := caps.toList) (fun x hx => ev x (by simp [Op.operands]; right; simpa using hx)), mapO_congr (l := first.toList) (fun x hx => ev x (by simp [Op.operands]; left; simpa using hx))]
  case makeSlice t x y => rw [ev x (by simp [Op.operands]), ev y (by simp [Op.operands])]
  case makeMap t r => cases r <;> rfl
  case range t x => rw [ev x (by simp [Op.operands])]
  case entry x => rw [ev x (by simp [Op.operands])]
  case typeAssert x t t' ok =>
    cases ok
    · rfl
    · simp only [ev x (by simp [Op.operands])]
  case lookup t x y ok => rw [ev x (by simp [Op.operands]), ev y (by simp [Op.operands])]
  case mapUpdate t x y z => rw [ev x (by simp [Op.operands]), ev y (by simp [Op.operands]), ev z (by simp [Op.operands])]
  case insert t x y z => rw [ev x (by simp [Op.operands]), ev y (by simp [Op.operands]), ev z (by simp [Op.operands])]
  case slice t x lo hi mx =>
    rw [ev x (by simp [Op.operands]), optA_congr (C := C) (e := e) (e' := e') (x := lo) (fun y hy => ev y (by simp [Op.operands, hy])), optA_congr (C := C) (e := e) (e' := e') (x := hi) (fun y hy => ev y (by simp [Op.operands, hy]))]
  case fieldAddr t x k => rw [ev x (by simp [Op.operands])]
  case field t x k => rw [ev x (by simp [Op.operands])]
  case indexAddr t x y => rw [ev x (by simp [Op.operands]), ev y (by simp [Op.operands])]
  case index t x y => rw [ev x (by simp [Op.operands]), ev y (by simp [Op.operands])]
  case extract x k => rw [ev x (by simp [Op.operands])]
  case call c =>
    obtain ⟨callee, args, ct⟩ := c
    cases callee <;> simp only
    rw [mapO_congr (l := args.toList) (fun x hx => ev x (by simp [Op.operands, Call.operands]; simpa using hx))]


theorem eqA_still {h h2 : Heap} {td : TD} {x y : AV} (ht : (match td with | .ptr | .slice _ => true | _ => false) = false) : eqA h td x y = eqA h2 td x y := by
  cases td <;> simp only [reduceCtorEq] at ht <;> cases x <;> first | rfl | (cases y <;> rfl)

theorem opA_still {f : Nat} {e : Env} {h h1 : Heap} {o : Oper} {v : AV} (hl : touchOp C f o = false) (ha : isAlloc o = false) (hv : opA C f e h o = some (v, h1)) : h1 = h ∧ ∀ h2, opA C f e h2 o = some (v, h2) := by
  have fin : ∀ {x : Option AV}, (x.bind fun y => some (y, h)) = some (v, h1) → h1 = h ∧ ∀ h2 : Heap, (x.bind fun y => some (y, h2)) = some (v, h2) := by
    intro x hx
    obtain ⟨y, hy, hx⟩ := Option.bind_eq_some_iff.1 hx
    simp only [Option.some.injEq, Prod.mk.injEq] at hx
    obtain ⟨rfl, rfl⟩ := hx
    exact ⟨rfl, fun h2 => by rw [hy]; rfl⟩
  have cong : ∀ {α : Type} {x : Option α} {F G : α → Option (AV × Heap)}, (∀ y, F y = some (v, h1) → h1 = h ∧ ∀ h2 : Heap, True) → True := fun _ => trivial
  unfold opA at hv ⊢
  unfold touchOp at hl
  unfold isAlloc at ha
  simp only [Option.bind_eq_bind] at hv ⊢
  generalize o.op = op at hv hl ha ⊢
  cases op <;> simp only [reduceCtorEq, Bool.true_eq_false] at hv hl ha ⊢
  case move x => exact fin hv
  case assign x => exact fin hv
  case pick c a b =>
    obtain ⟨cv, hc, hv⟩ := Option.bind_eq_some_iff.1 hv
    simp only [hc, Option.bind_some]
    split at hv
    · exact fin hv
    · exact fin hv
    · cases hv
  case build t ps =>
    obtain ⟨q, hq, hv⟩ := Option.bind_eq_some_iff.1 hv
    simp only [hq, Option.bind_some]
    exact fin hv
  case box t x =>
    simp only [Bool.not_eq_false'] at hl
    obtain ⟨ti, hti, hv⟩ := Option.bind_eq_some_iff.1 hv
    obtain ⟨xv, hx, hv⟩ := Option.bind_eq_some_iff.1 hv
    simp only [hti, hx, Option.bind_some]
    split at hv
    · rename_i hc
      simp only [hl, if_true, Option.some.injEq, Prod.mk.injEq] at hv
      obtain ⟨rfl, rfl⟩ := hv
      exact ⟨rfl, fun h2 => by rw [if_pos hc]; simp [hl]⟩
    · cases hv
  case load t x =>
    simp only [Bool.not_eq_false'] at hl
    obtain ⟨xv, hx, hv⟩ := Option.bind_eq_some_iff.1 hv
    simp only [hx, Option.bind_some]
    split at hv
    · cases hv
    · rename_i hc
      have hr : xv.isRef = true := by simpa [hl] using hc
      cases xv <;> simp only [AV.isRef, Bool.false_eq_true] at hr
      obtain ⟨h1, h2⟩ := fin hv
      exact ⟨h1, fun h3 => by rw [if_neg hc]; exact h2 h3⟩
  case buildSlice t n ps =>
    simp only [Bool.not_eq_false'] at hl
    obtain ⟨q, hq, hv⟩ := Option.bind_eq_some_iff.1 hv
    obtain ⟨ti, hti, hv⟩ := Option.bind_eq_some_iff.1 hv
    simp only [hq, hti, Option.bind_some]
    generalize ti.td = td at hv ⊢
    cases td <;> simp only [reduceCtorEq] at hv ⊢
    obtain ⟨te, hte, hv⟩ := Option.bind_eq_some_iff.1 hv
    simp only [hte, Option.bind_some]
    split at hv
    · cases hv
    · rename_i hc
      obtain ⟨cs, hcs, hv⟩ := Option.bind_eq_some_iff.1 hv
      simp only [hl, if_true, Option.some.injEq, Prod.mk.injEq] at hv
      obtain ⟨rfl, rfl⟩ := hv
      exact ⟨rfl, fun h2 => by rw [if_neg hc, hcs]; simp [hl]⟩
  case binOp b t x y t' =>
    obtain ⟨xv, hx, hv⟩ := Option.bind_eq_some_iff.1 hv
    simp only [hx, Option.bind_some]
    split at hv
    · rename_i hn
      obtain ⟨z, hz, hv⟩ := Option.bind_eq_some_iff.1 hv
      simp only [Option.some.injEq, Prod.mk.injEq] at hv
      obtain ⟨rfl, rfl⟩ := hv
      exact ⟨rfl, fun h2 => by rw [if_pos hn, hz]; rfl⟩
    rename_i hn
    simp only [if_neg hn]
    obtain ⟨yv, hy, hv⟩ := Option.bind_eq_some_iff.1 hv
    simp only [hy, Option.bind_some]
    obtain ⟨z, hz, hv⟩ := Option.bind_eq_some_iff.1 hv
    simp only [Option.some.injEq, Prod.mk.injEq] at hv
    obtain ⟨rfl, rfl⟩ := hv
    refine ⟨rfl, fun h2 => ?_⟩
    have : binA C h2 b t xv yv = binA C h b t xv yv := by
      unfold binA
      split
      · rfl
      · rfl
      · cases hti : C.ty t with
        | none => rfl
        | some ti =>
          simp only [hti] at hl
          have he : eqC C h2 t ti.td xv yv = eqC C h t ti.td xv yv := by
            unfold eqC
            split
            · rfl
            · exact eqA_still (h := h2) (h2 := h) hl
          simp only [Option.bind_eq_bind, Option.bind_some, he]
    rw [this, hz]; rfl
  case unOp u t x =>
    obtain ⟨xv, hx, hv⟩ := Option.bind_eq_some_iff.1 hv
    simp only [hx, Option.bind_some]
    exact fin hv
  case convert a b x =>
    obtain ⟨xv, hx, hv⟩ := Option.bind_eq_some_iff.1 hv
    simp only [hx, Option.bind_some]
    obtain ⟨z, hz, hv⟩ := Option.bind_eq_some_iff.1 hv
    simp only [Option.some.injEq, Prod.mk.injEq] at hv
    obtain ⟨rfl, rfl⟩ := hv
    refine ⟨rfl, fun h2 => ?_⟩
    have : convH C h2 a b xv = convH C h a b xv := by
      unfold convH
      cases hti : C.ty a with
      | none => rfl
      | some ti =>
        simp only [hti] at hl
        simp only [Option.bind_eq_bind, Option.bind_some]
        generalize ti.td = td at hl ⊢
        cases td <;> first | rfl | cases hl
    rw [this, hz]; rfl
  case makeInterface t x =>
    obtain ⟨ti, hti, hv⟩ := Option.bind_eq_some_iff.1 hv
    simp only [hti, Option.bind_some]
    generalize ti.td = td at hv ⊢
    cases td <;> first | (cases hv; done) | (
      obtain ⟨xv, hx, hv⟩ := Option.bind_eq_some_iff.1 hv
      simp only [Option.some.injEq, Prod.mk.injEq] at hv
      obtain ⟨rfl, rfl⟩ := hv
      exact ⟨rfl, fun h2 => by simp only [hx, Option.bind_some]⟩)
  case makeFunc fn first caps =>
    cases fn <;> simp only [reduceCtorEq] at hv ⊢
    split at hv
    · rename_i hf
      obtain ⟨cs, hcs, hv⟩ := Option.bind_eq_some_iff.1 hv
      simp only [Option.some.injEq, Prod.mk.injEq] at hv
      obtain ⟨rfl, rfl⟩ := hv
      exact ⟨rfl, fun h2 => by rw [if_pos hf, hcs]; rfl⟩
    · rename_i hf
      split at hv
      · rename_i hg
        obtain ⟨cs, hcs, hv⟩ := Option.bind_eq_some_iff.1 hv
        simp only [Option.some.injEq, Prod.mk.injEq] at hv
        obtain ⟨rfl, rfl⟩ := hv
        exact ⟨rfl, fun h2 => by rw [if_neg hf, if_pos hg, hcs]; rfl⟩
      · cases hv
  case field t x k =>
    obtain ⟨xv, hx, hv⟩ := Option.bind_eq_some_iff.1 hv
    simp only [hx, Option.bind_some]
    exact fin hv
  case index t x y =>
    obtain ⟨xv, hx, hv⟩ := Option.bind_eq_some_iff.1 hv
    obtain ⟨yv, hy, hv⟩ := Option.bind_eq_some_iff.1 hv
    simp only [hx, hy, Option.bind_some]
    exact fin hv
  case extract x k =>
    obtain ⟨xv, hx, hv⟩ := Option.bind_eq_some_iff.1 hv
    simp only [hx, Option.bind_some]
    split at hv
    · exact fin hv
    · cases hv

theorem opA_quiet {f : Nat} {e : Env} {h h1 : Heap} {o : Oper} {v : AV} (hl : loudOp C f o = false) (hv : opA C f e h o = some (v, h1)) : h1 = h := by
  have fin : ∀ {x : Option AV}, (x.bind fun y => some (y, h)) = some (v, h1) → h1 = h := by
    intro x hx
    obtain ⟨y, hy, hx⟩ := Option.bind_eq_some_iff.1 hx
    simp only [Option.some.injEq, Prod.mk.injEq] at hx
    exact hx.2.symm
  by_cases ht : touchOp C f o = false
  · refine (opA_still (C := C) ht ?_ hv).1
    unfold isAlloc
    unfold loudOp at hl
    split <;> first | rfl | skip
    rename_i t ho
    rw [ho] at hl
    cases hl
  · unfold opA at hv
    unfold loudOp at hl
    unfold touchOp at ht
    simp only [Option.bind_eq_bind] at hv
    generalize o.op = op at hv hl ht
    cases op <;> simp only [reduceCtorEq, Bool.true_eq_false, not_true_eq_false] at hv hl ht
    case load t x =>
      obtain ⟨xv, hx, hv⟩ := Option.bind_eq_some_iff.1 hv
      split at hv
      · cases hv
      · exact fin hv
    case box t x => exact absurd hl ht
    case buildSlice t n ps => exact absurd hl ht
    case nilCheck x =>
      obtain ⟨xv, hx, hv⟩ := Option.bind_eq_some_iff.1 hv
      split at hv
      · split at hv
        · simp only [Option.some.injEq, Prod.mk.injEq] at hv; exact hv.2.symm
        · cases hv
      all_goals first | (simp only [Option.some.injEq, Prod.mk.injEq] at hv; exact hv.2.symm) | cases hv
    case binOp b t x y t' =>
      obtain ⟨xv, hx, hv⟩ := Option.bind_eq_some_iff.1 hv
      split at hv
      · exact fin hv
      obtain ⟨yv, hy, hv⟩ := Option.bind_eq_some_iff.1 hv
      exact fin hv
    case convert a b x =>
      obtain ⟨xv, hx, hv⟩ := Option.bind_eq_some_iff.1 hv
      exact fin hv
    case slice t x lo hi mx =>
      obtain ⟨xv, hx, hv⟩ := Option.bind_eq_some_iff.1 hv
      obtain ⟨yv, hy, hv⟩ := Option.bind_eq_some_iff.1 hv
      split at hv
      · cases hv
      · obtain ⟨zv, hz, hv⟩ := Option.bind_eq_some_iff.1 hv
        exact fin hv
    case fieldAddr t x k =>
      obtain ⟨xv, hx, hv⟩ := Option.bind_eq_some_iff.1 hv
      exact fin hv
    case lookup t x y ok =>
      obtain ⟨xv, hx, hv⟩ := Option.bind_eq_some_iff.1 hv
      obtain ⟨yv, hy, hv⟩ := Option.bind_eq_some_iff.1 hv
      exact fin hv
    case indexAddr t x y =>
      obtain ⟨xv, hx, hv⟩ := Option.bind_eq_some_iff.1 hv
      obtain ⟨yv, hy, hv⟩ := Option.bind_eq_some_iff.1 hv
      exact fin hv
    case call c =>
      obtain ⟨callee, args, ct⟩ := c
      cases callee <;> simp only [reduceCtorEq] at hv hl
      case builtin b =>
        cases b <;> simp only [Bool.true_eq_false] at hl
        obtain ⟨vs, hvs, hv⟩ := Option.bind_eq_some_iff.1 hv
        split at hv
        · obtain ⟨t, ht', hv⟩ := Option.bind_eq_some_iff.1 hv
          obtain ⟨ti, hti, hv⟩ := Option.bind_eq_some_iff.1 hv
          obtain ⟨n, hn, hv⟩ := Option.bind_eq_some_iff.1 hv
          simp only [Option.some.injEq, Prod.mk.injEq] at hv
          exact hv.2.symm
        · rename_i hb; cases hb
        · simp [moreA] at hv

theorem callF_pure {ord : Nat → Array Oper → Bool} (K : Ok P C ord) {k g : Nat} {args : List AV} {h h' : Heap} {v : AV} (hp : C.pure g = true) (hc : callF C k g args h = some (.ret v, h')) : h' = h := by
  cases k with
  | zero => simp [callF] at hc
  | succ k =>
    simp only [callF, Option.bind_eq_bind] at hc
    cases hpr : C.prim g with
    | some p =>
      simp only [hpr] at hc
      exact (K.prim g p hpr).2.1 hp _ _ _ _ hc
    | none =>
      simp only [hpr] at hc
      obtain ⟨fi, hfi, hc⟩ := Option.bind_eq_some_iff.1 hc
      split at hc
      · cases hc
      split at hc
      · obtain ⟨avs, _, hc⟩ := Option.bind_eq_some_iff.1 hc
        obtain ⟨⟨out, e1, h1⟩, hx, hc⟩ := Option.bind_eq_some_iff.1 hc
        have hrs : ∀ {y : Option (List AV)}, (y.bind fun rs => if (packA rs).plain then some (CRes.ret (packA rs), h) else none) = some (.ret v, h') → h' = h := by
          intro y hy
          obtain ⟨rs, _, hy⟩ := Option.bind_eq_some_iff.1 hy
          split at hy
          · simp only [Option.some.injEq, Prod.mk.injEq] at hy; exact hy.2.symm
          · cases hy
        cases out <;> first | exact hrs hc | cases hc
      obtain ⟨⟨out, e1, h1⟩, hx, hc⟩ := Option.bind_eq_some_iff.1 hc
      have hleave : ∀ {vs : Option (List AV)}, (vs.bind fun vs => leaveA C g h (packA vs) h1) = some (.ret v, h') → h' = h := by
        intro vs hv
        obtain ⟨rs, _, hv⟩ := Option.bind_eq_some_iff.1 hv
        unfold leaveA at hv
        rw [if_pos hp] at hv
        split at hv
        · obtain ⟨y, _, hy⟩ := Option.map_eq_some_iff.1 hv
          simp only [Prod.mk.injEq] at hy
          exact hy.2.symm
        · cases hv
      cases out with
      | nrm => exact hleave hc
      | ret => exact hleave hc
      | exit id => cases hc
      | pan u =>
        simp only [Option.some.injEq, Prod.mk.injEq, reduceCtorEq, false_and] at hc

theorem callV_pure {ord : Nat → Array Oper → Bool} (K : Ok P C ord) {k : Nat} {gv : AV} {vs : List AV} {h h' : Heap} {v : AV} (hp : pureV C gv = true) (hc : callV C k gv vs h = some (.ret v, h')) : h' = h := by
  cases k with
  | zero => simp [callV] at hc
  | succ k =>
    cases gv <;> simp only [pureV, Bool.false_eq_true] at hp <;> (simp only [callV] at hc; exact callF_pure K hp hc)
end
end Go.Rv

/-
  Regions that draw their order: the interpreter's run as a row of states; what is ahead of what.
-/
set_option linter.unusedSimpArgs false
set_option linter.unusedVariables false
namespace Go.Rv
section
variable {P : Program} {C : Cfg} {s : Sim} {h : Heap} {w : World}

def StepA (C : Cfg) (f : Nat) (ops : Array Oper) (k : Nat) (o : Oper) (x : Env × Heap) (v : AV) (h' : Heap) : Prop :=
  (wantA ops x.1 o = some false ∧ v = .tup [] ∧ h' = x.2) ∨
  (wantA ops x.1 o = some true ∧ callee o = none ∧ opA C f x.1 x.2 o = some (v, h') ∧ looseAll C f ops (dkey o) x.1 h' = true) ∨
  (wantA ops x.1 o = some true ∧ ∃ g args vs gv k', callee o = some (g, args) ∧ mapO (evalA C x.1) args.toList = some vs ∧ evalA C x.1 g = some gv ∧
    ((o.dst.map (C.quiet f)).getD false && !pureV C gv) = false ∧ k' ≤ k ∧ callV C k' gv vs x.2 = some (.ret v, h') ∧ looseAll C f ops (dkey o) x.1 h' = true)

theorem StepA.le {f : Nat} {ops : Array Oper} {k k' : Nat} {o : Oper} {x : Env × Heap} {v : AV} {h' : Heap} (hk : k ≤ k') (H : StepA C f ops k o x v h') : StepA C f ops k' o x v h' := by
  rcases H with H | H | ⟨h1, g, args, vs, gv, j, h2, h3, h4, h5, h6, h7⟩
  · exact .inl H
  · exact .inr (.inl H)
  · exact .inr (.inr ⟨h1, g, args, vs, gv, j, h2, h3, h4, h5, by omega, h7⟩)

/-- A run without a panic as a row of states. -/
theorem trace_of {f : Nat} {ops : Array Oper} : ∀ (l : List Oper) (k : Nat) (e : Env) (h : Heap) (e' : Env) (h' : Heap), opsF C k f ops l e h = some (.nrm, e', h') →
    ∃ (tr : Nat → Env × Heap) (vl : Nat → AV), tr 0 = (e, h) ∧ tr l.length = (e', h') ∧ ∀ (j : Nat) o, l[j]? = some o → StepA C f ops k o (tr j) (vl j) (tr (j + 1)).2 ∧ (tr (j + 1)).1 = (tr j).1.putAt o.dst (vl j)
  | [], k, e, h, e', h', hf => by
    cases k with
    | zero => simp [opsF] at hf
    | succ k =>
      simp only [opsF, Option.some.injEq, Prod.mk.injEq, true_and] at hf
      obtain ⟨rfl, rfl⟩ := hf
      exact ⟨fun _ => (e, h), fun _ => .junk, rfl, rfl, fun j o hj => by simp at hj⟩
  | o :: r, k, e, h, e', h', hf => by
    cases k with
    | zero => simp [opsF] at hf
    | succ k =>
      rw [opsF_cons] at hf
      replace hf := Option.bind_eq_some_iff.1 hf
      obtain ⟨b, hw, hf⟩ := hf
      have fin : ∀ {v : AV} {h1 : Heap}, StepA C f ops (k + 1) o (e, h) v h1 → opsF C k f ops r (e.putAt o.dst v) h1 = some (.nrm, e', h') →
          ∃ (tr : Nat → Env × Heap) (vl : Nat → AV), tr 0 = (e, h) ∧ tr (r.length + 1) = (e', h') ∧ ∀ (j : Nat) o', (o :: r)[j]? = some o' → StepA C f ops (k + 1) o' (tr j) (vl j) (tr (j + 1)).2 ∧ (tr (j + 1)).1 = (tr j).1.putAt o'.dst (vl j) := by
        intro v h1 hs hr
        obtain ⟨tr, vl, t0, tn, ts⟩ := trace_of r k _ _ _ _ hr
        refine ⟨fun j => match j with | 0 => (e, h) | j + 1 => tr j, fun j => match j with | 0 => v | j + 1 => vl j, rfl, tn, fun j o' hj => ?_⟩
        cases j with
        | zero =>
          simp only [List.getElem?_cons_zero, Option.some.injEq] at hj
          subst hj
          simp only [t0]
          exact ⟨hs, trivial⟩
        | succ j =>
          obtain ⟨a1, a2⟩ := ts j o' (by simpa using hj)
          exact ⟨a1.le (by omega), a2⟩
      cases b with
      | false => exact fin (.inl ⟨hw, rfl, rfl⟩) hf
      | true =>
        cases hc : callee o with
        | none =>
          simp only [hc] at hf
          cases hp : panO C e o with
          | some v => simp [hp] at hf
          | none =>
          simp only [hp] at hf
          replace hf := Option.bind_eq_some_iff.1 hf
          obtain ⟨⟨v, h1⟩, hv, hf⟩ := hf
          split at hf <;> first | cases hf | skip
          rename_i hlo
          exact fin (.inr (.inl ⟨hw, hc, hv, hlo⟩)) hf
        | some ga =>
          obtain ⟨g, args⟩ := ga
          simp only [hc] at hf
          replace hf := Option.bind_eq_some_iff.1 hf
          obtain ⟨vs, hvs, hf⟩ := hf
          replace hf := Option.bind_eq_some_iff.1 hf
          obtain ⟨gv, hgv, hf⟩ := hf
          split at hf
          · cases hf
          rename_i hq
          replace hf := Option.bind_eq_some_iff.1 hf
          obtain ⟨⟨res, h1⟩, hcall, hf⟩ := hf
          cases res with
          | pan v => simp at hf
          | ret v =>
            dsimp only at hf
            split at hf <;> first | cases hf | skip
            rename_i hlo
            exact fin (.inr (.inr ⟨hw, g, args, vs, gv, k, hc, hvs, hgv, by simpa using hq, by omega, hcall, hlo⟩)) hf

theorem step_quiet {ord : Nat → Array Oper → Bool} (K : Ok P C ord) {f : Nat} {ops : Array Oper} {k : Nat} {o : Oper} {x : Env × Heap} {v : AV} {h' : Heap} (hl : loudOp C f o = false) (H : StepA C f ops k o x v h') : h' = x.2 := by
  rcases H with ⟨_, _, H⟩ | ⟨_, _, H, _⟩ | ⟨_, g, args, vs, gv, j, h2, h3, h4, h5, _, h7, _⟩
  · exact H
  · exact opA_quiet hl H
  · refine callV_pure K ?_ h7
    obtain ⟨ct, ho⟩ := callee_op h2
    unfold loudOp at hl
    simp only [ho] at hl
    cases g with
    | func g0 =>
      simp only [Bool.not_eq_false'] at hl
      simp only [evalA, Option.some.injEq] at h4
      rw [← h4]; exact hl
    | _ =>
      simp only [Bool.not_eq_false'] at hl
      rw [hl] at h5
      simpa using h5


theorem map_range (ops : Array Oper) : (List.range ops.size).map (ops[·]?) = ops.toList.map some := by
  apply List.ext_getElem?
  intro i
  simp only [List.getElem?_map, List.getElem?_range', List.getElem?_toArray]
  by_cases hi : i < ops.size
  · simp [hi]
  · simp [hi, Array.getElem?_eq_none (Nat.le_of_not_lt hi)]

theorem filter_idx (ops : Array Oper) (p : Oper → Bool) (q : Option Oper → Bool) (hq : ∀ o, q (some o) = p o) : ((List.range ops.size).filter (fun i => q (ops[i]?))).map (ops[·]?) = (ops.toList.filter p).map some := by
  have h1 : ((List.range ops.size).filter (fun i => q (ops[i]?))).map (ops[·]?) = ((List.range ops.size).map (ops[·]?)).filter q := by
    rw [List.filter_map]; rfl
  rw [h1, map_range, List.filter_map]
  congr 1
  apply List.filter_congr
  intro o _
  exact hq o

theorem ord_lt {ops : Array Oper} {i : Nat} (h : i ∈ ordIdx ops) : i < ops.size := by
  unfold ordIdx at h
  rcases List.mem_append.1 h with h | h
  · exact List.mem_range.1 (List.mem_filter.1 h).1
  · obtain ⟨l, _, h⟩ := List.mem_flatMap.1 h
    exact List.mem_range.1 (List.mem_filter.1 h).1
theorem pick_map (ops : Array Oper) : ∀ (L : List Nat), (∀ i ∈ L, i < ops.size) → L.map (ops[·]?) = (L.filterMap (ops[·]?)).map some
  | [], _ => rfl
  | i :: r, H => by
    have hi := H i (List.mem_cons_self ..)
    have : ops[i]? = some ops[i] := Array.getElem?_eq_getElem hi
    rw [List.map_cons, List.filterMap_cons, this, List.map_cons, pick_map ops r fun j hj => H j (List.mem_cons_of_mem _ hj)]
theorem idx_sched (ops : Array Oper) : (ordIdx ops).map (ops[·]?) = (sched ops true).map some := by
  unfold sched
  rw [if_pos rfl]
  exact pick_map ops _ fun i hi => ord_lt hi

theorem idx_at {ops : Array Oper} {p i : Nat} (hp : (ordIdx ops)[p]? = some i) : ∃ o, ops[i]? = some o ∧ (sched ops true)[p]? = some o := by
  have h1 : ((ordIdx ops).map (ops[·]?))[p]? = some (ops[i]?) := by rw [List.getElem?_map, hp]; rfl
  rw [idx_sched, List.getElem?_map] at h1
  obtain ⟨o, h2, h3⟩ := Option.map_eq_some_iff.1 h1
  exact ⟨o, h3.symm, h2⟩
theorem sched_at {ops : Array Oper} {p : Nat} {o : Oper} (hp : (sched ops true)[p]? = some o) : ∃ i, (ordIdx ops)[p]? = some i ∧ ops[i]? = some o := by
  have h1 : ((sched ops true).map some)[p]? = some (some o) := by rw [List.getElem?_map, hp]; rfl
  rw [← idx_sched, List.getElem?_map] at h1
  obtain ⟨i, h2, h3⟩ := Option.map_eq_some_iff.1 h1
  exact ⟨i, h2, h3⟩
theorem idx_length (ops : Array Oper) : (ordIdx ops).length = (sched ops true).length := by
  have := congrArg List.length (idx_sched ops)
  simpa using this

theorem idx_mem {ops : Array Oper} {i : Nat} (hi : i < ops.size) : ∃ p : Nat, (ordIdx ops)[p]? = some i := by
  have : i ∈ ordIdx ops := by
    unfold ordIdx
    rw [List.mem_append]
    cases h : ((ops[i]?).map isAlloc).getD false
    · refine .inr (List.mem_flatMap.2 ⟨Nat.min (rankO ops i) ops.size, List.mem_range.2 (Nat.lt_succ_of_le (Nat.min_le_right _ _)), List.mem_filter.2 ⟨List.mem_range.2 hi, ?_⟩⟩)
      rw [h]
      simp
    · exact .inl (List.mem_filter.2 ⟨List.mem_range.2 hi, h⟩)
  exact List.mem_iff_getElem?.1 this
theorem idx_lt {ops : Array Oper} {p i : Nat} (hp : (ordIdx ops)[p]? = some i) : i < ops.size := by
  obtain ⟨o, ho, _⟩ := idx_at hp
  exact (Array.getElem?_eq_some_iff.1 ho).1
theorem idx_nodup (ops : Array Oper) : (ordIdx ops).Nodup := by
  unfold ordIdx
  refine List.nodup_append.2 ⟨List.nodup_range.filter _, ?_, ?_⟩
  · refine List.pairwise_flatMap.2 ⟨fun l _ => List.nodup_range.filter _, ?_⟩
    have hr : (List.range (ops.size + 1)).Pairwise (· ≠ ·) := List.nodup_range
    refine hr.imp fun {a b} hab x hx y hy e => ?_
    subst e
    have h1 := (List.mem_filter.1 hx).2
    have h2 := (List.mem_filter.1 hy).2
    simp only [Bool.and_eq_true] at h1 h2
    exact hab ((Nat.eq_of_beq_eq_true h1.2).symm.trans (Nat.eq_of_beq_eq_true h2.2))
  · intro a ha b hb e
    subst e
    have h1 := (List.mem_filter.1 ha).2
    obtain ⟨l, _, hb⟩ := List.mem_flatMap.1 hb
    have h2 := (List.mem_filter.1 hb).2
    simp only [Bool.and_eq_true, Bool.not_eq_true'] at h2
    rw [h1] at h2
    exact absurd h2.1 (by simp)
theorem idx_inj {ops : Array Oper} {p q i : Nat} (hp : (ordIdx ops)[p]? = some i) (hq : (ordIdx ops)[q]? = some i) : p = q := by
  obtain ⟨h1, h2⟩ := List.getElem?_eq_some_iff.1 hp
  obtain ⟨h3, h4⟩ := List.getElem?_eq_some_iff.1 hq
  have hpw := List.pairwise_iff_getElem.1 (idx_nodup ops)
  rcases Nat.lt_trichotomy p q with hlt | he | hgt
  · exact absurd (h2.trans h4.symm) (hpw p q h1 h3 hlt)
  · exact he
  · exact absurd (h4.trans h2.symm) (hpw q p h3 h1 hgt)

/-- How many variables the region makes: they come first. -/
def allocs (ops : Array Oper) : Nat := (ops.toList.filter isAlloc).length
theorem alloc_len (ops : Array Oper) : ((List.range ops.size).filter (fun i => ((ops[i]?).map isAlloc).getD false)).length = allocs ops := by
  have := congrArg List.length (filter_idx ops isAlloc (fun x => (x.map isAlloc).getD false) (fun o => rfl))
  simpa [allocs] using this
theorem alloc_at {ops : Array Oper} {p : Nat} {o : Oper} (hp : (sched ops true)[p]? = some o) : isAlloc o = decide (p < allocs ops) := by
  obtain ⟨i, hi, ho⟩ := sched_at hp
  unfold ordIdx at hi
  rw [List.getElem?_append, alloc_len] at hi
  split at hi
  · rename_i hlt
    have := (List.mem_filter.1 (List.mem_of_getElem? hi)).2
    rw [ho] at this
    simp only [Option.map_some, Option.getD_some] at this
    simp [this, hlt]
  · rename_i hlt
    have hm := List.mem_of_getElem? hi
    have : isAlloc o = false := by
      obtain ⟨l, _, hm⟩ := List.mem_flatMap.1 hm
      have := (List.mem_filter.1 hm).2
      rw [ho] at this
      simp only [Option.map_some, Option.getD_some, Bool.and_eq_true, Bool.not_eq_true'] at this
      exact this.1
    simp [this, hlt]

theorem pairs_spec {f : Nat} {ops : Array Oper} {b : Array Nat} : ∀ (L : List Nat), pairsOk C f ops b L = true → ∀ (p q i j : Nat) (x y : Oper), p < q → L[p]? = some i → L[q]? = some j → ops[i]? = some x → ops[j]? = some y →
    ((dstC ops x y = true → (b.getD j 0).testBit i = true) ∧ (heapC C f x y = true → looseP C f i x y = false → (b.getD j 0).testBit i = true)) ∧ (looseI C f ops i = true → antiC ops x y = true)
  | [], _, p, q, i, j, x, y, _, hp, _, _, _ => by simp at hp
  | a :: L, H, p, q, i, j, x, y, hpq, hp, hq, hx, hy => by
    simp only [pairsOk, Bool.and_eq_true, List.all_eq_true] at H
    obtain ⟨H1, H2⟩ := H
    cases q with
    | zero => omega
    | succ q =>
      have hq' : L[q]? = some j := by simpa using hq
      cases p with
      | zero =>
        simp only [List.getElem?_cons_zero, Option.some.injEq] at hp
        subst hp
        have := H1 j (List.mem_of_getElem? hq')
        simp only [hx, hy, Bool.and_eq_true, Bool.or_eq_true, Bool.not_eq_true'] at this
        obtain ⟨h1, h2⟩ := this
        refine ⟨⟨fun hd => ?_, fun hh hl => ?_⟩, fun ha => ?_⟩
        · rcases h1 with ⟨h1, _⟩ | h1
          · rw [hd] at h1; cases h1
          · exact h1
        · rcases h1 with ⟨_, h1 | h1⟩ | h1
          · rw [hh] at h1; cases h1
          · rw [hl] at h1; cases h1
          · exact h1
        · rcases h2 with h2 | h2
          · rw [ha] at h2; cases h2
          · exact h2
      | succ p => exact pairs_spec L H2 p q i j x y (by omega) (by simpa using hp) hq' hx hy

/-- What stands ahead of an operation by some way has been done where all that stands right ahead of it has. -/
theorem before_in (D : Nat → Prop) (ops : Array Oper) (hcl : ∀ i o, ops[i]? = some o → D i → ∀ e ∈ o.after, Region.binds .any e = true → D e.on) (i : Nat) (o : Oper) (ho : ops[i]? = some o) (hr : ∀ e ∈ o.after, Region.binds .any e = true → D e.on)
    (x : Nat) (hx : ((Region.before ops).getD i 0).testBit x = true) : D x := by
  have inner : ∀ (acc : Array Nat), acc.size ≤ ops.size → (∀ i, i < acc.size → ∀ o, ops[i]? = some o → (∀ e ∈ o.after, Region.binds .any e = true → D e.on) → ∀ x, (acc.getD i 0).testBit x = true → D x) →
      ∀ (es : List Edge) (m : Nat), (∀ e ∈ es, Region.binds .any e = true → D e.on) → (∀ x, m.testBit x = true → D x) →
      ∀ x, (es.foldl (fun s e => if Region.binds .any e then s ||| 2 ^ e.on ||| acc.getD e.on 0 else s) m).testBit x = true → D x := by
    intro acc hsz hacc es
    induction es with
    | nil => intro m _ hm x hx; exact hm x hx
    | cons e es ih =>
      intro m he hm x hx
      simp only [List.foldl_cons] at hx
      refine ih _ (fun e' he' => he e' (by simp [he'])) ?_ x hx
      intro y hy
      split at hy
      · rename_i hb
        rw [Nat.testBit_or, Nat.testBit_or, Bool.or_eq_true, Bool.or_eq_true] at hy
        have hDe := he e (by simp) hb
        rcases hy with (hy | hy) | hy
        · exact hm y hy
        · rw [Nat.testBit_two_pow] at hy
          have : e.on = y := by simpa using hy
          rw [← this]; exact hDe
        · by_cases hlt : e.on < acc.size
          · have hlt' : e.on < ops.size := by omega
            have hoe : ops[e.on]? = some ops[e.on] := Array.getElem?_eq_getElem hlt'
            exact hacc e.on hlt _ hoe (fun e' he' hb' => hcl _ _ hoe hDe e' he' hb') y hy
          · rw [show acc.getD e.on 0 = 0 by simp [hlt]] at hy
            simp at hy
      · exact hm y hy
  have outer : ∀ (l : List Oper) (acc : Array Nat), acc.size + l.length ≤ ops.size → (∀ (j : Nat) o, l[j]? = some o → ops[acc.size + j]? = some o) →
      (∀ i, i < acc.size → ∀ o, ops[i]? = some o → (∀ e ∈ o.after, Region.binds .any e = true → D e.on) → ∀ x, (acc.getD i 0).testBit x = true → D x) →
      ∀ i o, ops[i]? = some o → (∀ e ∈ o.after, Region.binds .any e = true → D e.on) → ∀ x,
        ((l.foldl (fun (acc : Array Nat) o => acc.push (o.after.foldl (fun s e => if Region.binds .any e then s ||| 2 ^ e.on ||| acc.getD e.on 0 else s) 0)) acc).getD i 0).testBit x = true → D x := by
    intro l
    induction l with
    | nil =>
      intro acc _ _ hacc i o ho hr x hx
      simp only [List.foldl_nil] at hx
      by_cases hlt : i < acc.size
      · exact hacc i hlt o ho hr x hx
      · rw [show acc.getD i 0 = 0 by simp [hlt]] at hx
        simp at hx
    | cons o l ih =>
      intro acc hsz hl hacc i o' ho' hr x hx
      simp only [List.foldl_cons] at hx
      refine ih _ (by simp at hsz ⊢; omega) (fun j o'' hj => ?_) (fun i' hi' o'' ho'' hr'' y hy => ?_) i o' ho' hr x hx
      · have := hl (j + 1) o'' (by simpa using hj)
        simp only [Array.size_push]
        rw [show acc.size + 1 + j = acc.size + (j + 1) by omega]
        exact this
      · simp only [Array.size_push] at hi'
        by_cases hlt : i' < acc.size
        · refine hacc i' hlt o'' ho'' hr'' y ?_
          have : (acc.push (o.after.foldl (fun s e => if Region.binds .any e then s ||| 2 ^ e.on ||| acc.getD e.on 0 else s) 0)).getD i' 0 = acc.getD i' 0 := by
            simp [Array.getElem?_push, Nat.ne_of_lt hlt, hlt]
          rw [this] at hy; exact hy
        · obtain rfl : i' = acc.size := by omega
          have hoo : ops[acc.size]? = some o := by simpa using hl 0 o rfl
          rw [hoo] at ho''
          injection ho'' with ho''; subst ho''
          have : (acc.push (o.after.foldl (fun s e => if Region.binds .any e then s ||| 2 ^ e.on ||| acc.getD e.on 0 else s) 0)).getD acc.size 0 = o.after.toList.foldl (fun s e => if Region.binds .any e then s ||| 2 ^ e.on ||| acc.getD e.on 0 else s) 0 := by
            rw [← Array.foldl_toList]
            simp
          rw [this] at hy
          exact inner acc (by simp at hsz; omega) hacc o.after.toList 0 (fun e he hb => hr'' e (by simpa using he) hb) (fun y hy => by simp at hy) y hy
  have hb : Region.before ops = ops.toList.foldl (fun (acc : Array Nat) o => acc.push (o.after.foldl (fun s e => if Region.binds .any e then s ||| 2 ^ e.on ||| acc.getD e.on 0 else s) 0)) #[] := by
    unfold Region.before
    rw [← Array.foldl_toList]
  rw [hb] at hx
  exact outer ops.toList #[] (by simp) (fun j o hj => by simpa using hj) (fun i hi => by simp at hi) i o ho hr x hx
end
end Go.Rv
