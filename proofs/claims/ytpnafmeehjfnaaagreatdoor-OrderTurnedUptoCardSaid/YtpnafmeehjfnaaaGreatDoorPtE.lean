/-
  Regions that draw their order: what may change places; the interpreter's run as a row of states.
-/
import Derived.Test.YtpnafmeehjfnaaaGreatDoorPtD
import Derived.Orders
set_option linter.unusedSectionVars false
set_option linter.unusedSimpArgs false
set_option linter.unusedVariables false
set_option linter.defProp false
namespace Go.Rv
def tmpsOf (xs : List Operand) : List Nat := xs.filterMap fun | .tmp t => some t | _ => none
def reads (ops : Array Oper) (o : Oper) : List Nat :=
  tmpsOf o.op.operands.toList ++ (match o.guard with | some (j, _) => ((ops[j]?).bind (·.dst)).toList | none => [])
def loudOp (C : Cfg) (f : Nat) (o : Oper) : Bool :=
  match o.op with
  | .move _ | .assign _ | .pick .. | .build .. | .load .. | .nilCheck _ | .binOp .. | .unOp .. | .convert .. | .makeInterface .. | .makeFunc .. | .slice .. | .fieldAddr .. | .field .. | .indexAddr .. | .index .. | .extract .. | .lookup .. => false
  | .buildSlice .. | .box .. => !(o.dst.map (C.imm f)).getD false
  | .call { callee := .builtin .len, .. } => false
  | .call { callee := .value (.func g), .. } => !C.pure g
  | .call { callee := .value _, .. } => !(o.dst.map (C.quiet f)).getD false
  | _ => true
def touchOp (C : Cfg) (f : Nat) (o : Oper) : Bool :=
  match o.op with
  | .convert src _ _ => (match C.ty src with | some ti => (match ti.td with | .slice _ => true | _ => false) | none => false)
  | .move _ | .assign _ | .pick .. | .build .. | .unOp .. | .makeInterface .. | .makeFunc .. | .field .. | .index .. | .extract .. => false
  | .binOp _ t _ _ _ => (match C.ty t with | some ti => (match ti.td with | .ptr | .slice _ => true | _ => false) | none => false)
  | .buildSlice .. | .box .. => !(o.dst.map (C.imm f)).getD false
  | .load .. => !(o.dst.map (C.quiet f)).getD false
  | _ => true
def dstC (ops : Array Oper) (x y : Oper) : Bool :=
  (match x.dst with | some d => (reads ops y).contains d || y.dst == some d | none => false) ||
  (match y.dst with | some d => (reads ops x).contains d | none => false)
def heapC (C : Cfg) (f : Nat) (x y : Oper) : Bool :=
  !isAlloc x && !isAlloc y && ((loudOp C f x && touchOp C f y) || (loudOp C f y && touchOp C f x))
def looseP (C : Cfg) (f : Nat) (i : Nat) (x y : Oper) : Bool :=
  !loudOp C f x && (match dkey y with | some t => (C.loose f t).contains i | none => false)
def antiC (ops : Array Oper) (x y : Oper) : Bool :=
  match y.dst with | some d => !(reads ops x).contains d && !(x.dst == some d) | none => true
def looseI (C : Cfg) (f : Nat) (ops : Array Oper) (i : Nat) : Bool := ops.toList.any fun o => match dkey o with | some t => (C.loose f t).contains i | none => false
def pairsOk (C : Cfg) (f : Nat) (ops : Array Oper) (b : Array Nat) : List Nat → Bool
  | [] => true
  | i :: r => r.all (fun j => match ops[i]?, ops[j]? with
      | some x, some y => ((!dstC ops x y && (!heapC C f x y || looseP C f i x y)) || (b.getD j 0).testBit i) && (!looseI C f ops i || antiC ops x y)
      | _, _ => true) && pairsOk C f ops b r
def ordOk (C : Cfg) (f : Nat) (ops : Array Oper) : Bool :=
  pairsOk C f ops (Region.before ops) (ordIdx ops) &&
  (List.range ops.size).all (fun i => match ops[i]? with
    | some o => (!isAlloc o || (o.guard.isNone && o.dst.isSome)) && o.after.all (fun e => !Region.binds .any e || e.on < i) && !(match o.dst with | some d => (reads ops o).contains d | none => false)
    | none => true)
theorem loud_touch {C : Cfg} {f : Nat} {o : Oper} (h : loudOp C f o = true) : touchOp C f o = true := by
  unfold loudOp at h
  unfold touchOp
  generalize o.op = op at h ⊢
  cases op <;> first | rfl | exact h | (cases h; done) | skip
section
variable {P : Program} {C : Cfg} {s : Sim} {h : Heap} {w : World}
theorem evalA_congr {e e' : Env} {x : Operand} (hx : ∀ t, x = .tmp t → e.get t = e'.get t) : evalA C e x = evalA C e' x := by
  cases x with
  | tmp t => simp only [evalA, hx t rfl]
  | _ => rfl
theorem mapO_congr {α β : Type} {f g : α → Option β} : ∀ {l : List α}, (∀ a ∈ l, f a = g a) → mapO f l = mapO g l
  | [], _ => rfl
  | a :: l, hl => by
    simp only [mapO]
    rw [hl a (by simp), mapO_congr (l := l) (fun b hb => hl b (by simp [hb]))]
theorem optA_congr {e e' : Env} {x : Option Operand} (hx : ∀ y, x = some y → evalA C e y = evalA C e' y) : optA C e x = optA C e' x := by
  cases x with
  | none => rfl
  | some x => simp only [optA, hx x rfl]
theorem mem_tmpsOf {xs : List Operand} {t : Nat} (hx : Operand.tmp t ∈ xs) : t ∈ tmpsOf xs := by
  unfold tmpsOf
  exact List.mem_filterMap.2 ⟨_, hx, rfl⟩
theorem opA_congr {f : Nat} {e e' : Env} {h : Heap} {o : Oper} (he : ∀ t, t ∈ tmpsOf o.op.operands.toList → e.get t = e'.get t) : opA C f e h o = opA C f e' h o := by
  have ev : ∀ x : Operand, x ∈ o.op.operands.toList → evalA C e x = evalA C e' x := fun x hx => evalA_congr fun t ht => he t (mem_tmpsOf (ht ▸ hx))
  unfold opA
  simp only
  generalize o.op = op at ev ⊢
  cases op <;> (try simp only)
  case move x => rw [ev x (by simp [Op.operands])]
  case assign x => rw [ev x (by simp [Op.operands])]
  case pick c a b => rw [ev c (by simp [Op.operands]), ev a (by simp [Op.operands]), ev b (by simp [Op.operands])]
  case box t x => rw [ev x (by simp [Op.operands])]
  case build t ps => rw [mapO_congr (l := ps.toList) (fun p hp => by rw [ev p.2 (by simp [Op.operands]; exact ⟨p.1, by simpa using hp⟩)])]
  case buildSlice t n ps => rw [mapO_congr (l := ps.toList) (fun p hp => by rw [ev p.2 (by simp [Op.operands]; exact ⟨p.1, by simpa using hp⟩)])]
  case load t x => rw [ev x (by simp [Op.operands])]
  case store t x y => rw [ev x (by simp [Op.operands]), ev y (by simp [Op.operands])]
  case nilCheck x => rw [ev x (by simp [Op.operands])]
  case binOp b t x y t' => rw [ev x (by simp [Op.operands]), ev y (by simp [Op.operands])]
  case unOp u t x => rw [ev x (by simp [Op.operands])]
  case convert a b x => rw [ev x (by simp [Op.operands])]
  case makeInterface t x => rw [ev x (by simp [Op.operands])]
  case makeFunc fn first caps =>
    cases fn <;> simp only
    rw [mapO_congr (l := caps.toList) (fun x hx => ev x (by simp [Op.operands]; right; simpa using hx)), mapO_congr (l := first.toList) (fun x hx => ev x (by simp [Op.operands]; left; simpa using hx))]
  case makeSlice t x y => rw [ev x (by simp [Op.operands]), ev y (by simp [Op.operands])]
  case makeMap t r => cases r <;> rfl
  case range t x => rw [ev x (by simp [Op.operands])]
  case entry x => rw [ev x (by simp [Op.operands])]
  case typeAssert x t t' ok =>
    cases ok
    · rfl
    · simp only [ev x (by simp [Op.operands])]
  case lookup t x y ok => rw [ev x (by simp [Op.operands]), ev y (by simp [Op.operands])]
  case mapUpdate t x y z => rw [ev x (by simp [Op.operands]), ev y (by simp [Op.operands]), ev z (by simp [Op.operands])]
  case insert t x y z => rw [ev x (by simp [Op.operands]), ev y (by simp [Op.operands]), ev z (by simp [Op.operands])]
  case slice t x lo hi mx =>
    rw [ev x (by simp [Op.operands]), optA_congr (C := C) (e := e) (e' := e') (x := lo) (fun y hy => ev y (by simp [Op.operands, hy])), optA_congr (C := C) (e := e) (e' := e') (x := hi) (fun y hy => ev y (by simp [Op.operands, hy]))]
  case fieldAddr t x k => rw [ev x (by simp [Op.operands])]
  case field t x k => rw [ev x (by simp [Op.operands])]
  case indexAddr t x y => rw [ev x (by simp [Op.operands]), ev y (by simp [Op.operands])]
  case index t x y => rw [ev x (by simp [Op.operands]), ev y (by simp [Op.operands])]
  case extract x k => rw [ev x (by simp [Op.operands])]
  case call c =>
    obtain ⟨callee, args, ct⟩ := c
    cases callee <;> simp only
    rw [mapO_congr (l := args.toList) (fun x hx => ev x (by simp [Op.operands, Call.operands]; simpa using hx))]
theorem eqA_still {h h2 : Heap} {td : TD} {x y : AV} (ht : (match td with | .ptr | .slice _ => true | _ => false) = false) : eqA h td x y = eqA h2 td x y := by
  cases td <;> simp only [reduceCtorEq] at ht <;> cases x <;> first | rfl | (cases y <;> rfl)
theorem opA_still {f : Nat} {e : Env} {h h1 : Heap} {o : Oper} {v : AV} (hl : touchOp C f o = false) (ha : isAlloc o = false) (hv : opA C f e h o = some (v, h1)) : h1 = h ∧ ∀ h2, opA C f e h2 o = some (v, h2) := by
  have fin : ∀ {x : Option AV}, (x.bind fun y => some (y, h)) = some (v, h1) → h1 = h ∧ ∀ h2 : Heap, (x.bind fun y => some (y, h2)) = some (v, h2) := by
    intro x hx
    obtain ⟨y, hy, hx⟩ := Option.bind_eq_some_iff.1 hx
    simp only [Option.some.injEq, Prod.mk.injEq] at hx
    obtain ⟨rfl, rfl⟩ := hx
    exact ⟨rfl, fun h2 => by rw [hy]; rfl⟩
  have cong : ∀ {α : Type} {x : Option α} {F G : α → Option (AV × Heap)}, (∀ y, F y = some (v, h1) → h1 = h ∧ ∀ h2 : Heap, True) → True := fun _ => trivial
  unfold opA at hv ⊢
  unfold touchOp at hl
  unfold isAlloc at ha
  simp only [Option.bind_eq_bind] at hv ⊢
  generalize o.op = op at hv hl ha ⊢
  cases op <;> simp only [reduceCtorEq, Bool.true_eq_false] at hv hl ha ⊢
  case move x => exact fin hv
  case assign x => exact fin hv
  case pick c a b =>
    obtain ⟨cv, hc, hv⟩ := Option.bind_eq_some_iff.1 hv
    simp only [hc, Option.bind_some]
    split at hv
    · exact fin hv
    · exact fin hv
    · cases hv
  case build t ps =>
    obtain ⟨q, hq, hv⟩ := Option.bind_eq_some_iff.1 hv
    simp only [hq, Option.bind_some]
    exact fin hv
  case box t x =>
    simp only [Bool.not_eq_false'] at hl
    obtain ⟨ti, hti, hv⟩ := Option.bind_eq_some_iff.1 hv
    obtain ⟨xv, hx, hv⟩ := Option.bind_eq_some_iff.1 hv
    simp only [hti, hx, Option.bind_some]
    split at hv
    · rename_i hc
      simp only [Option.some.injEq, Prod.mk.injEq] at hv
      obtain ⟨rfl, rfl⟩ := hv
      exact ⟨rfl, fun h2 => by rw [if_pos hc]; simp [hl]⟩
    · cases hv
  case load t x =>
    simp only [Bool.not_eq_false'] at hl
    obtain ⟨xv, hx, hv⟩ := Option.bind_eq_some_iff.1 hv
    simp only [hx, Option.bind_some]
    split at hv
    · cases hv
    · rename_i hc
      have hr : xv.isRef = true := by simpa [hl] using hc
      cases xv <;> simp only [AV.isRef, Bool.false_eq_true] at hr
      obtain ⟨h1, h2⟩ := fin hv
      exact ⟨h1, fun h3 => by rw [if_neg hc]; exact h2 h3⟩
  case buildSlice t n ps =>
    simp only [Bool.not_eq_false'] at hl
    obtain ⟨q, hq, hv⟩ := Option.bind_eq_some_iff.1 hv
    obtain ⟨ti, hti, hv⟩ := Option.bind_eq_some_iff.1 hv
    simp only [hq, hti, Option.bind_some]
    generalize ti.td = td at hv ⊢
    cases td <;> simp only [reduceCtorEq] at hv ⊢
    obtain ⟨te, hte, hv⟩ := Option.bind_eq_some_iff.1 hv
    simp only [hte, Option.bind_some]
    split at hv
    · cases hv
    · rename_i hc
      obtain ⟨cs, hcs, hv⟩ := Option.bind_eq_some_iff.1 hv
      simp only [Option.some.injEq, Prod.mk.injEq] at hv
      obtain ⟨rfl, rfl⟩ := hv
      exact ⟨rfl, fun h2 => by rw [if_neg hc, hcs]; simp [hl]⟩
  case binOp b t x y t' =>
    obtain ⟨xv, hx, hv⟩ := Option.bind_eq_some_iff.1 hv
    simp only [hx, Option.bind_some]
    split at hv
    · rename_i hn
      obtain ⟨z, hz, hv⟩ := Option.bind_eq_some_iff.1 hv
      simp only [Option.some.injEq, Prod.mk.injEq] at hv
      obtain ⟨rfl, rfl⟩ := hv
      exact ⟨rfl, fun h2 => by rw [if_pos hn, hz]; rfl⟩
    rename_i hn
    simp only [if_neg hn]
    obtain ⟨yv, hy, hv⟩ := Option.bind_eq_some_iff.1 hv
    simp only [hy, Option.bind_some]
    obtain ⟨z, hz, hv⟩ := Option.bind_eq_some_iff.1 hv
    simp only [Option.some.injEq, Prod.mk.injEq] at hv
    obtain ⟨rfl, rfl⟩ := hv
    refine ⟨rfl, fun h2 => ?_⟩
    have : binA C h2 b t xv yv = binA C h b t xv yv := by
      unfold binA
      split
      · rfl
      · rfl
      · cases hti : C.ty t with
        | none => rfl
        | some ti =>
          simp only [hti] at hl
          have he : eqC C h2 t ti.td xv yv = eqC C h t ti.td xv yv := by
            unfold eqC
            split
            · rfl
            · exact eqA_still (h := h2) (h2 := h) hl
          simp only [Option.bind_eq_bind, Option.bind_some, he]
    rw [this, hz]; rfl
  case unOp u t x =>
    obtain ⟨xv, hx, hv⟩ := Option.bind_eq_some_iff.1 hv
    simp only [hx, Option.bind_some]
    exact fin hv
  case convert a b x =>
    obtain ⟨xv, hx, hv⟩ := Option.bind_eq_some_iff.1 hv
    simp only [hx, Option.bind_some]
    obtain ⟨z, hz, hv⟩ := Option.bind_eq_some_iff.1 hv
    simp only [Option.some.injEq, Prod.mk.injEq] at hv
    obtain ⟨rfl, rfl⟩ := hv
    refine ⟨rfl, fun h2 => ?_⟩
    have : convH C h2 a b xv = convH C h a b xv := by
      unfold convH
      cases hti : C.ty a with
      | none => rfl
      | some ti =>
        simp only [hti] at hl
        simp only [Option.bind_eq_bind, Option.bind_some]
        generalize ti.td = td at hl ⊢
        cases td <;> first | rfl | cases hl
    rw [this, hz]; rfl
  case makeInterface t x =>
    obtain ⟨ti, hti, hv⟩ := Option.bind_eq_some_iff.1 hv
    simp only [hti, Option.bind_some]
    generalize ti.td = td at hv ⊢
    cases td <;> first | (cases hv; done) | (
      obtain ⟨xv, hx, hv⟩ := Option.bind_eq_some_iff.1 hv
      simp only [Option.some.injEq, Prod.mk.injEq] at hv
      obtain ⟨rfl, rfl⟩ := hv
      exact ⟨rfl, fun h2 => by simp only [hx, Option.bind_some]⟩)
  case makeFunc fn first caps =>
    cases fn <;> simp only [reduceCtorEq] at hv ⊢
    split at hv
    · rename_i hf
      obtain ⟨cs, hcs, hv⟩ := Option.bind_eq_some_iff.1 hv
      simp only [Option.some.injEq, Prod.mk.injEq] at hv
      obtain ⟨rfl, rfl⟩ := hv
      exact ⟨rfl, fun h2 => by rw [if_pos hf, hcs]; rfl⟩
    · rename_i hf
      split at hv
      · rename_i hg
        obtain ⟨cs, hcs, hv⟩ := Option.bind_eq_some_iff.1 hv
        simp only [Option.some.injEq, Prod.mk.injEq] at hv
        obtain ⟨rfl, rfl⟩ := hv
        exact ⟨rfl, fun h2 => by rw [if_neg hf, if_pos hg, hcs]; rfl⟩
      · cases hv
  case field t x k =>
    obtain ⟨xv, hx, hv⟩ := Option.bind_eq_some_iff.1 hv
    simp only [hx, Option.bind_some]
    exact fin hv
  case index t x y =>
    obtain ⟨xv, hx, hv⟩ := Option.bind_eq_some_iff.1 hv
    obtain ⟨yv, hy, hv⟩ := Option.bind_eq_some_iff.1 hv
    simp only [hx, hy, Option.bind_some]
    exact fin hv
  case extract x k =>
    obtain ⟨xv, hx, hv⟩ := Option.bind_eq_some_iff.1 hv
    simp only [hx, Option.bind_some]
    split at hv
    · exact fin hv
    · cases hv
theorem opA_quiet {f : Nat} {e : Env} {h h1 : Heap} {o : Oper} {v : AV} (hl : loudOp C f o = false) (hv : opA C f e h o = some (v, h1)) : h1 = h := by
  have fin : ∀ {x : Option AV}, (x.bind fun y => some (y, h)) = some (v, h1) → h1 = h := by
    intro x hx
    obtain ⟨y, hy, hx⟩ := Option.bind_eq_some_iff.1 hx
    simp only [Option.some.injEq, Prod.mk.injEq] at hx
    exact hx.2.symm
  by_cases ht : touchOp C f o = false
  · refine (opA_still (C := C) ht ?_ hv).1
    unfold isAlloc
    unfold loudOp at hl
    split <;> first | rfl | skip
    rename_i t ho
    rw [ho] at hl
    cases hl
  · unfold opA at hv
    unfold loudOp at hl
    unfold touchOp at ht
    simp only [Option.bind_eq_bind] at hv
    generalize o.op = op at hv hl ht
    cases op <;> simp only [reduceCtorEq, Bool.true_eq_false, not_true_eq_false] at hv hl ht
    case load t x =>
      obtain ⟨xv, hx, hv⟩ := Option.bind_eq_some_iff.1 hv
      split at hv
      · cases hv
      · exact fin hv
    case box t x => exact absurd hl ht
    case buildSlice t n ps => exact absurd hl ht
    case nilCheck x =>
      obtain ⟨xv, hx, hv⟩ := Option.bind_eq_some_iff.1 hv
      split at hv
      · split at hv
        · simp only [Option.some.injEq, Prod.mk.injEq] at hv; exact hv.2.symm
        · cases hv
      all_goals first | (simp only [Option.some.injEq, Prod.mk.injEq] at hv; exact hv.2.symm) | cases hv
    case binOp b t x y t' =>
      obtain ⟨xv, hx, hv⟩ := Option.bind_eq_some_iff.1 hv
      split at hv
      · exact fin hv
      obtain ⟨yv, hy, hv⟩ := Option.bind_eq_some_iff.1 hv
      exact fin hv
    case convert a b x =>
      obtain ⟨xv, hx, hv⟩ := Option.bind_eq_some_iff.1 hv
      exact fin hv
    case slice t x lo hi mx =>
      obtain ⟨xv, hx, hv⟩ := Option.bind_eq_some_iff.1 hv
      obtain ⟨yv, hy, hv⟩ := Option.bind_eq_some_iff.1 hv
      split at hv
      · cases hv
      · obtain ⟨zv, hz, hv⟩ := Option.bind_eq_some_iff.1 hv
        exact fin hv
    case fieldAddr t x k =>
      obtain ⟨xv, hx, hv⟩ := Option.bind_eq_some_iff.1 hv
      exact fin hv
    case lookup t x y ok =>
      obtain ⟨xv, hx, hv⟩ := Option.bind_eq_some_iff.1 hv
      obtain ⟨yv, hy, hv⟩ := Option.bind_eq_some_iff.1 hv
      exact fin hv
    case indexAddr t x y =>
      obtain ⟨xv, hx, hv⟩ := Option.bind_eq_some_iff.1 hv
      obtain ⟨yv, hy, hv⟩ := Option.bind_eq_some_iff.1 hv
      exact fin hv
    case call c =>
      obtain ⟨callee, args, ct⟩ := c
      cases callee <;> simp only [reduceCtorEq] at hv hl
      case builtin b =>
        cases b <;> simp only [Bool.true_eq_false] at hl
        obtain ⟨vs, hvs, hv⟩ := Option.bind_eq_some_iff.1 hv
        split at hv
        · obtain ⟨t, ht', hv⟩ := Option.bind_eq_some_iff.1 hv
          obtain ⟨ti, hti, hv⟩ := Option.bind_eq_some_iff.1 hv
          obtain ⟨n, hn, hv⟩ := Option.bind_eq_some_iff.1 hv
          simp only [Option.some.injEq, Prod.mk.injEq] at hv
          exact hv.2.symm
        · rename_i hb; cases hb
        · simp [moreA] at hv
theorem callF_pure {ord : Nat → Array Oper → Bool} (K : Ok P C ord) {k g : Nat} {args : List AV} {h h' : Heap} {v : AV} (hp : C.pure g = true) (hc : callF C k g args h = some (.ret v, h')) : h' = h := by
  cases k with
  | zero => simp [callF] at hc
  | succ k =>
    simp only [callF, Option.bind_eq_bind] at hc
    cases hpr : C.prim g with
    | some p =>
      simp only [hpr] at hc
      exact (K.prim g p hpr).2.1 hp _ _ _ _ hc
    | none =>
      simp only [hpr] at hc
      obtain ⟨fi, hfi, hc⟩ := Option.bind_eq_some_iff.1 hc
      split at hc
      · cases hc
      split at hc
      · obtain ⟨avs, _, hc⟩ := Option.bind_eq_some_iff.1 hc
        obtain ⟨⟨out, e1, h1⟩, hx, hc⟩ := Option.bind_eq_some_iff.1 hc
        have hrs : ∀ {y : Option (List AV)}, (y.bind fun rs => if (packA rs).plain then some (CRes.ret (packA rs), h) else none) = some (.ret v, h') → h' = h := by
          intro y hy
          obtain ⟨rs, _, hy⟩ := Option.bind_eq_some_iff.1 hy
          split at hy
          · simp only [Option.some.injEq, Prod.mk.injEq] at hy; exact hy.2.symm
          · cases hy
        cases out <;> first | exact hrs hc | cases hc
      obtain ⟨⟨out, e1, h1⟩, hx, hc⟩ := Option.bind_eq_some_iff.1 hc
      have hleave : ∀ {vs : Option (List AV)}, (vs.bind fun vs => leaveA C g h (packA vs) h1) = some (.ret v, h') → h' = h := by
        intro vs hv
        obtain ⟨rs, _, hv⟩ := Option.bind_eq_some_iff.1 hv
        unfold leaveA at hv
        rw [if_pos hp] at hv
        split at hv
        · obtain ⟨y, _, hy⟩ := Option.map_eq_some_iff.1 hv
          simp only [Prod.mk.injEq] at hy
          exact hy.2.symm
        · cases hv
      cases out with
      | nrm => exact hleave hc
      | ret => exact hleave hc
      | exit id => cases hc
      | pan u =>
        simp only [Option.some.injEq, Prod.mk.injEq, reduceCtorEq, false_and] at hc
theorem callV_pure {ord : Nat → Array Oper → Bool} (K : Ok P C ord) {k : Nat} {gv : AV} {vs : List AV} {h h' : Heap} {v : AV} (hp : pureV C gv = true) (hc : callV C k gv vs h = some (.ret v, h')) : h' = h := by
  cases k with
  | zero => simp [callV] at hc
  | succ k =>
    cases gv <;> simp only [pureV, Bool.false_eq_true] at hp <;> (simp only [callV] at hc; exact callF_pure K hp hc)
end
end Go.Rv
namespace Go.Rv
section
variable {P : Program} {C : Cfg} {s : Sim} {h : Heap} {w : World}
def StepA (C : Cfg) (f : Nat) (ops : Array Oper) (k : Nat) (o : Oper) (x : Env × Heap) (v : AV) (h' : Heap) : Prop :=
  (wantA ops x.1 o = some false ∧ v = .tup [] ∧ h' = x.2) ∨
  (wantA ops x.1 o = some true ∧ callee o = none ∧ opA C f x.1 x.2 o = some (v, h') ∧ looseAll C f ops (dkey o) x.1 h' = true) ∨
  (wantA ops x.1 o = some true ∧ ∃ g args vs gv k', callee o = some (g, args) ∧ mapO (evalA C x.1) args.toList = some vs ∧ evalA C x.1 g = some gv ∧
    ((o.dst.map (C.quiet f)).getD false && !pureV C gv) = false ∧ k' ≤ k ∧ callV C k' gv vs x.2 = some (.ret v, h') ∧ looseAll C f ops (dkey o) x.1 h' = true)
theorem StepA.le {f : Nat} {ops : Array Oper} {k k' : Nat} {o : Oper} {x : Env × Heap} {v : AV} {h' : Heap} (hk : k ≤ k') (H : StepA C f ops k o x v h') : StepA C f ops k' o x v h' := by
  rcases H with H | H | ⟨h1, g, args, vs, gv, j, h2, h3, h4, h5, h6, h7⟩
  · exact .inl H
  · exact .inr (.inl H)
  · exact .inr (.inr ⟨h1, g, args, vs, gv, j, h2, h3, h4, h5, by omega, h7⟩)
theorem trace_of {f : Nat} {ops : Array Oper} : ∀ (l : List Oper) (k : Nat) (e : Env) (h : Heap) (e' : Env) (h' : Heap), opsF C k f ops l e h = some (.nrm, e', h') →
    ∃ (tr : Nat → Env × Heap) (vl : Nat → AV), tr 0 = (e, h) ∧ tr l.length = (e', h') ∧ ∀ (j : Nat) o, l[j]? = some o → StepA C f ops k o (tr j) (vl j) (tr (j + 1)).2 ∧ (tr (j + 1)).1 = (tr j).1.putAt o.dst (vl j)
  | [], k, e, h, e', h', hf => by
    cases k with
    | zero => simp [opsF] at hf
    | succ k =>
      simp only [opsF, Option.some.injEq, Prod.mk.injEq, true_and] at hf
      obtain ⟨rfl, rfl⟩ := hf
      exact ⟨fun _ => (e, h), fun _ => .junk, rfl, rfl, fun j o hj => by simp at hj⟩
  | o :: r, k, e, h, e', h', hf => by
    cases k with
    | zero => simp [opsF] at hf
    | succ k =>
      rw [opsF_cons] at hf
      replace hf := Option.bind_eq_some_iff.1 hf
      obtain ⟨b, hw, hf⟩ := hf
      have fin : ∀ {v : AV} {h1 : Heap}, StepA C f ops (k + 1) o (e, h) v h1 → opsF C k f ops r (e.putAt o.dst v) h1 = some (.nrm, e', h') →
          ∃ (tr : Nat → Env × Heap) (vl : Nat → AV), tr 0 = (e, h) ∧ tr (r.length + 1) = (e', h') ∧ ∀ (j : Nat) o', (o :: r)[j]? = some o' → StepA C f ops (k + 1) o' (tr j) (vl j) (tr (j + 1)).2 ∧ (tr (j + 1)).1 = (tr j).1.putAt o'.dst (vl j) := by
        intro v h1 hs hr
        obtain ⟨tr, vl, t0, tn, ts⟩ := trace_of r k _ _ _ _ hr
        refine ⟨fun j => match j with | 0 => (e, h) | j + 1 => tr j, fun j => match j with | 0 => v | j + 1 => vl j, rfl, tn, fun j o' hj => ?_⟩
        cases j with
        | zero =>
          simp only [List.getElem?_cons_zero, Option.some.injEq] at hj
          subst hj
          simp only [t0]
          exact ⟨hs, trivial⟩
        | succ j =>
          obtain ⟨a1, a2⟩ := ts j o' (by simpa using hj)
          exact ⟨a1.le (by omega), a2⟩
      cases b with
      | false => exact fin (.inl ⟨hw, rfl, rfl⟩) hf
      | true =>
        cases hc : callee o with
        | none =>
          simp only [hc] at hf
          cases hp : panO C e o with
          | some v => simp [hp] at hf
          | none =>
          simp only [hp] at hf
          replace hf := Option.bind_eq_some_iff.1 hf
          obtain ⟨⟨v, h1⟩, hv, hf⟩ := hf
          split at hf <;> first | cases hf | skip
          rename_i hlo
          exact fin (.inr (.inl ⟨hw, hc, hv, hlo⟩)) hf
        | some ga =>
          obtain ⟨g, args⟩ := ga
          simp only [hc] at hf
          replace hf := Option.bind_eq_some_iff.1 hf
          obtain ⟨vs, hvs, hf⟩ := hf
          replace hf := Option.bind_eq_some_iff.1 hf
          obtain ⟨gv, hgv, hf⟩ := hf
          split at hf
          · cases hf
          rename_i hq
          replace hf := Option.bind_eq_some_iff.1 hf
          obtain ⟨⟨res, h1⟩, hcall, hf⟩ := hf
          cases res with
          | pan v => simp at hf
          | ret v =>
            dsimp only at hf
            split at hf <;> first | cases hf | skip
            rename_i hlo
            exact fin (.inr (.inr ⟨hw, g, args, vs, gv, k, hc, hvs, hgv, by simpa using hq, by omega, hcall, hlo⟩)) hf
theorem step_quiet {ord : Nat → Array Oper → Bool} (K : Ok P C ord) {f : Nat} {ops : Array Oper} {k : Nat} {o : Oper} {x : Env × Heap} {v : AV} {h' : Heap} (hl : loudOp C f o = false) (H : StepA C f ops k o x v h') : h' = x.2 := by
  rcases H with ⟨_, _, H⟩ | ⟨_, _, H, _⟩ | ⟨_, g, args, vs, gv, j, h2, h3, h4, h5, _, h7, _⟩
  · exact H
  · exact opA_quiet hl H
  · refine callV_pure K ?_ h7
    obtain ⟨ct, ho⟩ := callee_op h2
    unfold loudOp at hl
    simp only [ho] at hl
    cases g with
    | func g0 =>
      simp only [Bool.not_eq_false'] at hl
      simp only [evalA, Option.some.injEq] at h4
      rw [← h4]; exact hl
    | _ =>
      simp only [Bool.not_eq_false'] at hl
      rw [hl] at h5
      simpa using h5
theorem map_range (ops : Array Oper) : (List.range ops.size).map (ops[·]?) = ops.toList.map some := by
  apply List.ext_getElem?
  intro i
  simp only [List.getElem?_map]
  by_cases hi : i < ops.size
  · simp [hi]
  · simp [hi]
theorem filter_idx (ops : Array Oper) (p : Oper → Bool) (q : Option Oper → Bool) (hq : ∀ o, q (some o) = p o) : ((List.range ops.size).filter (fun i => q (ops[i]?))).map (ops[·]?) = (ops.toList.filter p).map some := by
  have h1 : ((List.range ops.size).filter (fun i => q (ops[i]?))).map (ops[·]?) = ((List.range ops.size).map (ops[·]?)).filter q := by
    rw [List.filter_map]; rfl
  rw [h1, map_range, List.filter_map]
  congr 1
  apply List.filter_congr
  intro o _
  exact hq o
theorem ord_lt {ops : Array Oper} {i : Nat} (h : i ∈ ordIdx ops) : i < ops.size := by
  unfold ordIdx at h
  rcases List.mem_append.1 h with h | h
  · exact List.mem_range.1 (List.mem_filter.1 h).1
  · obtain ⟨l, _, h⟩ := List.mem_flatMap.1 h
    exact List.mem_range.1 (List.mem_filter.1 h).1
theorem pick_map (ops : Array Oper) : ∀ (L : List Nat), (∀ i ∈ L, i < ops.size) → L.map (ops[·]?) = (L.filterMap (ops[·]?)).map some
  | [], _ => rfl
  | i :: r, H => by
    have hi := H i (List.mem_cons_self ..)
    have : ops[i]? = some ops[i] := Array.getElem?_eq_getElem hi
    rw [List.map_cons, List.filterMap_cons, this, List.map_cons, pick_map ops r fun j hj => H j (List.mem_cons_of_mem _ hj)]
theorem idx_sched (ops : Array Oper) : (ordIdx ops).map (ops[·]?) = (sched ops true).map some := by
  unfold sched
  rw [if_pos rfl]
  exact pick_map ops _ fun i hi => ord_lt hi
theorem idx_at {ops : Array Oper} {p i : Nat} (hp : (ordIdx ops)[p]? = some i) : ∃ o, ops[i]? = some o ∧ (sched ops true)[p]? = some o := by
  have h1 : ((ordIdx ops).map (ops[·]?))[p]? = some (ops[i]?) := by rw [List.getElem?_map, hp]; rfl
  rw [idx_sched, List.getElem?_map] at h1
  obtain ⟨o, h2, h3⟩ := Option.map_eq_some_iff.1 h1
  exact ⟨o, h3.symm, h2⟩
theorem sched_at {ops : Array Oper} {p : Nat} {o : Oper} (hp : (sched ops true)[p]? = some o) : ∃ i, (ordIdx ops)[p]? = some i ∧ ops[i]? = some o := by
  have h1 : ((sched ops true).map some)[p]? = some (some o) := by rw [List.getElem?_map, hp]; rfl
  rw [← idx_sched, List.getElem?_map] at h1
  obtain ⟨i, h2, h3⟩ := Option.map_eq_some_iff.1 h1
  exact ⟨i, h2, h3⟩
theorem idx_length (ops : Array Oper) : (ordIdx ops).length = (sched ops true).length := by
  have := congrArg List.length (idx_sched ops)
  simpa using this
theorem idx_mem {ops : Array Oper} {i : Nat} (hi : i < ops.size) : ∃ p : Nat, (ordIdx ops)[p]? = some i := by
  have : i ∈ ordIdx ops := by
    unfold ordIdx
    rw [List.mem_append]
    cases h : ((ops[i]?).map isAlloc).getD false
    · refine .inr (List.mem_flatMap.2 ⟨Nat.min (rankO ops i) ops.size, List.mem_range.2 (Nat.lt_succ_of_le (Nat.min_le_right _ _)), List.mem_filter.2 ⟨List.mem_range.2 hi, ?_⟩⟩)
      rw [h]
      simp
    · exact .inl (List.mem_filter.2 ⟨List.mem_range.2 hi, h⟩)
  exact List.mem_iff_getElem?.1 this
theorem idx_nodup (ops : Array Oper) : (ordIdx ops).Nodup := by
  unfold ordIdx
  refine List.nodup_append.2 ⟨List.nodup_range.filter _, ?_, ?_⟩
  · refine List.pairwise_flatMap.2 ⟨fun l _ => List.nodup_range.filter _, ?_⟩
    have hr : (List.range (ops.size + 1)).Pairwise (· ≠ ·) := List.nodup_range
    refine hr.imp fun {a b} hab x hx y hy e => ?_
    subst e
    have h1 := (List.mem_filter.1 hx).2
    have h2 := (List.mem_filter.1 hy).2
    simp only [Bool.and_eq_true] at h1 h2
    exact hab ((Nat.eq_of_beq_eq_true h1.2).symm.trans (Nat.eq_of_beq_eq_true h2.2))
  · intro a ha b hb e
    subst e
    have h1 := (List.mem_filter.1 ha).2
    obtain ⟨l, _, hb⟩ := List.mem_flatMap.1 hb
    have h2 := (List.mem_filter.1 hb).2
    simp only [Bool.and_eq_true, Bool.not_eq_true'] at h2
    rw [h1] at h2
    exact absurd h2.1 (by simp)
theorem idx_inj {ops : Array Oper} {p q i : Nat} (hp : (ordIdx ops)[p]? = some i) (hq : (ordIdx ops)[q]? = some i) : p = q := by
  obtain ⟨h1, h2⟩ := List.getElem?_eq_some_iff.1 hp
  obtain ⟨h3, h4⟩ := List.getElem?_eq_some_iff.1 hq
  have hpw := List.pairwise_iff_getElem.1 (idx_nodup ops)
  rcases Nat.lt_trichotomy p q with hlt | he | hgt
  · exact absurd (h2.trans h4.symm) (hpw p q h1 h3 hlt)
  · exact he
  · exact absurd (h4.trans h2.symm) (hpw q p h3 h1 hgt)
def allocs (ops : Array Oper) : Nat := (ops.toList.filter isAlloc).length
theorem alloc_len (ops : Array Oper) : ((List.range ops.size).filter (fun i => ((ops[i]?).map isAlloc).getD false)).length = allocs ops := by
  have := congrArg List.length (filter_idx ops isAlloc (fun x => (x.map isAlloc).getD false) (fun o => rfl))
  simpa [allocs] using this
theorem alloc_at {ops : Array Oper} {p : Nat} {o : Oper} (hp : (sched ops true)[p]? = some o) : isAlloc o = decide (p < allocs ops) := by
  obtain ⟨i, hi, ho⟩ := sched_at hp
  unfold ordIdx at hi
  rw [List.getElem?_append, alloc_len] at hi
  split at hi
  · rename_i hlt
    have := (List.mem_filter.1 (List.mem_of_getElem? hi)).2
    rw [ho] at this
    simp only [Option.map_some, Option.getD_some] at this
    simp [this, hlt]
  · rename_i hlt
    have hm := List.mem_of_getElem? hi
    have : isAlloc o = false := by
      obtain ⟨l, _, hm⟩ := List.mem_flatMap.1 hm
      have := (List.mem_filter.1 hm).2
      rw [ho] at this
      simp only [Option.map_some, Option.getD_some, Bool.and_eq_true, Bool.not_eq_true'] at this
      exact this.1
    simp [this, hlt]
theorem pairs_spec {f : Nat} {ops : Array Oper} {b : Array Nat} : ∀ (L : List Nat), pairsOk C f ops b L = true → ∀ (p q i j : Nat) (x y : Oper), p < q → L[p]? = some i → L[q]? = some j → ops[i]? = some x → ops[j]? = some y →
    ((dstC ops x y = true → (b.getD j 0).testBit i = true) ∧ (heapC C f x y = true → looseP C f i x y = false → (b.getD j 0).testBit i = true)) ∧ (looseI C f ops i = true → antiC ops x y = true)
  | [], _, p, q, i, j, x, y, _, hp, _, _, _ => by simp at hp
  | a :: L, H, p, q, i, j, x, y, hpq, hp, hq, hx, hy => by
    simp only [pairsOk, Bool.and_eq_true, List.all_eq_true] at H
    obtain ⟨H1, H2⟩ := H
    cases q with
    | zero => omega
    | succ q =>
      have hq' : L[q]? = some j := by simpa using hq
      cases p with
      | zero =>
        simp only [List.getElem?_cons_zero, Option.some.injEq] at hp
        subst hp
        have := H1 j (List.mem_of_getElem? hq')
        simp only [hx, hy, Bool.and_eq_true, Bool.or_eq_true, Bool.not_eq_true'] at this
        obtain ⟨h1, h2⟩ := this
        refine ⟨⟨fun hd => ?_, fun hh hl => ?_⟩, fun ha => ?_⟩
        · rcases h1 with ⟨h1, _⟩ | h1
          · rw [hd] at h1; cases h1
          · exact h1
        · rcases h1 with ⟨_, h1 | h1⟩ | h1
          · rw [hh] at h1; cases h1
          · rw [hl] at h1; cases h1
          · exact h1
        · rcases h2 with h2 | h2
          · rw [ha] at h2; cases h2
          · exact h2
      | succ p => exact pairs_spec L H2 p q i j x y (by omega) (by simpa using hp) hq' hx hy
theorem before_in (D : Nat → Prop) (ops : Array Oper) (hcl : ∀ i o, ops[i]? = some o → D i → ∀ e ∈ o.after, Region.binds .any e = true → D e.on) (i : Nat) (o : Oper) (ho : ops[i]? = some o) (hr : ∀ e ∈ o.after, Region.binds .any e = true → D e.on)
    (x : Nat) (hx : ((Region.before ops).getD i 0).testBit x = true) : D x := by
  have inner : ∀ (acc : Array Nat), acc.size ≤ ops.size → (∀ i, i < acc.size → ∀ o, ops[i]? = some o → (∀ e ∈ o.after, Region.binds .any e = true → D e.on) → ∀ x, (acc.getD i 0).testBit x = true → D x) →
      ∀ (es : List Edge) (m : Nat), (∀ e ∈ es, Region.binds .any e = true → D e.on) → (∀ x, m.testBit x = true → D x) →
      ∀ x, (es.foldl (fun s e => if Region.binds .any e then s ||| 2 ^ e.on ||| acc.getD e.on 0 else s) m).testBit x = true → D x := by
    intro acc hsz hacc es
    induction es with
    | nil => intro m _ hm x hx; exact hm x hx
    | cons e es ih =>
      intro m he hm x hx
      simp only [List.foldl_cons] at hx
      refine ih _ (fun e' he' => he e' (by simp [he'])) ?_ x hx
      intro y hy
      split at hy
      · rename_i hb
        rw [Nat.testBit_or, Nat.testBit_or, Bool.or_eq_true, Bool.or_eq_true] at hy
        have hDe := he e (by simp) hb
        rcases hy with (hy | hy) | hy
        · exact hm y hy
        · rw [Nat.testBit_two_pow] at hy
          have : e.on = y := by simpa using hy
          rw [← this]; exact hDe
        · by_cases hlt : e.on < acc.size
          · have hlt' : e.on < ops.size := by omega
            have hoe : ops[e.on]? = some ops[e.on] := Array.getElem?_eq_getElem hlt'
            exact hacc e.on hlt _ hoe (fun e' he' hb' => hcl _ _ hoe hDe e' he' hb') y hy
          · rw [show acc.getD e.on 0 = 0 by simp [hlt]] at hy
            simp at hy
      · exact hm y hy
  have outer : ∀ (l : List Oper) (acc : Array Nat), acc.size + l.length ≤ ops.size → (∀ (j : Nat) o, l[j]? = some o → ops[acc.size + j]? = some o) →
      (∀ i, i < acc.size → ∀ o, ops[i]? = some o → (∀ e ∈ o.after, Region.binds .any e = true → D e.on) → ∀ x, (acc.getD i 0).testBit x = true → D x) →
      ∀ i o, ops[i]? = some o → (∀ e ∈ o.after, Region.binds .any e = true → D e.on) → ∀ x,
        ((l.foldl (fun (acc : Array Nat) o => acc.push (o.after.foldl (fun s e => if Region.binds .any e then s ||| 2 ^ e.on ||| acc.getD e.on 0 else s) 0)) acc).getD i 0).testBit x = true → D x := by
    intro l
    induction l with
    | nil =>
      intro acc _ _ hacc i o ho hr x hx
      simp only [List.foldl_nil] at hx
      by_cases hlt : i < acc.size
      · exact hacc i hlt o ho hr x hx
      · rw [show acc.getD i 0 = 0 by simp [hlt]] at hx
        simp at hx
    | cons o l ih =>
      intro acc hsz hl hacc i o' ho' hr x hx
      simp only [List.foldl_cons] at hx
      refine ih _ (by simp at hsz ⊢; omega) (fun j o'' hj => ?_) (fun i' hi' o'' ho'' hr'' y hy => ?_) i o' ho' hr x hx
      · have := hl (j + 1) o'' (by simpa using hj)
        simp only [Array.size_push]
        rw [show acc.size + 1 + j = acc.size + (j + 1) by omega]
        exact this
      · simp only [Array.size_push] at hi'
        by_cases hlt : i' < acc.size
        · refine hacc i' hlt o'' ho'' hr'' y ?_
          have : (acc.push (o.after.foldl (fun s e => if Region.binds .any e then s ||| 2 ^ e.on ||| acc.getD e.on 0 else s) 0)).getD i' 0 = acc.getD i' 0 := by
            simp [Array.getElem?_push, Nat.ne_of_lt hlt, hlt]
          rw [this] at hy; exact hy
        · obtain rfl : i' = acc.size := by omega
          have hoo : ops[acc.size]? = some o := by simpa using hl 0 o rfl
          rw [hoo] at ho''
          injection ho'' with ho''; subst ho''
          have : (acc.push (o.after.foldl (fun s e => if Region.binds .any e then s ||| 2 ^ e.on ||| acc.getD e.on 0 else s) 0)).getD acc.size 0 = o.after.toList.foldl (fun s e => if Region.binds .any e then s ||| 2 ^ e.on ||| acc.getD e.on 0 else s) 0 := by
            rw [← Array.foldl_toList]
            simp
          rw [this] at hy
          exact inner acc (by simp at hsz; omega) hacc o.after.toList 0 (fun e he hb => hr'' e (by simpa using he) hb) (fun y hy => by simp at hy) y hy
  have hb : Region.before ops = ops.toList.foldl (fun (acc : Array Nat) o => acc.push (o.after.foldl (fun s e => if Region.binds .any e then s ||| 2 ^ e.on ||| acc.getD e.on 0 else s) 0)) #[] := by
    unfold Region.before
    rw [← Array.foldl_toList]
  rw [hb] at hx
  exact outer ops.toList #[] (by simp) (fun j o hj => by simpa using hj) (fun i hi => by simp at hi) i o ho hr x hx
end
end Go.Rv
namespace Go.Rv
section
variable {P : Program} {C : Cfg}
theorem countP_lt {p p' : Nat → Bool} : ∀ (l : List Nat), (∀ x ∈ l, p' x = true → p x = true) → (∃ x ∈ l, p x = true ∧ p' x = false) → l.countP p' < l.countP p
  | [], _, ⟨x, hx, _⟩ => by simp at hx
  | a :: l, h1, ⟨x, hx, h2, h3⟩ => by
    have hle : l.countP p' ≤ l.countP p := List.countP_mono_left (fun y hy => h1 y (by simp [hy]))
    rcases List.mem_cons.1 hx with rfl | hx'
    · simp only [List.countP_cons, h2, h3]
      simp
      omega
    · have := countP_lt l (fun y hy => h1 y (by simp [hy])) ⟨x, hx', h2, h3⟩
      have ha := h1 a (by simp)
      simp only [List.countP_cons]
      cases hp : p' a
      · simp; omega
      · simp [ha hp]; omega
theorem getD_set {listed : Array Bool} {i j : Nat} (hi : i < listed.size) : (listed.setIfInBounds i true).getD j false = if i = j then true else listed.getD j false := by
  by_cases e : i = j
  · subst e; simp [hi]
  · simp [e, Array.getElem?_setIfInBounds_ne e]
theorem Env.get_putAt (e : Env) (d : Option Nat) (v : AV) (t : Nat) : (e.putAt d v).get t = if d = some t then v else e.get t := by
  cases d with
  | none => simp [Env.putAt]
  | some d => simp only [Env.putAt, Env.get_put, Option.some.injEq]
theorem put_get (a : Act) (d : Option Nat) (u : Value) (t : Nat) (hd : ∀ x, d = some x → x < a.tmps.size) : (a.put d u).tmps.getD t undef = if d = some t then u else a.tmps.getD t undef := by
  cases d with
  | none => simp [Act.put]
  | some d =>
    have := hd d rfl
    simp only [Act.put, Option.some.injEq]
    by_cases e : d = t
    · subst e; simp [this]
    · simp [e, Array.getElem?_setIfInBounds_ne e]
theorem Ext.pad (s : Sim) (h : Heap) (w : World) (X : Heap) : Ext s h w s (h ++ X) w := by
  have hget : ∀ {o}, o < h.length → (h ++ X)[o]? = h[o]? := fun ho => List.getElem?_append_left ho
  refine ⟨⟨Nat.le_refl _, fun _ _ _ => rfl, fun _ _ h => h, fun _ h => h, fun o g hg => ⟨g, ?_, Nat.le_refl _⟩, fun o g hg _ => ⟨fun _ h => h, ?_⟩, fun o hm _ => ?_, fun o b hb => .inl ⟨o, hb⟩, rfl, rfl, rfl, fun o hm => ?_, rfl⟩, fun o b _ hb => ⟨b, hb⟩, fun o ho _ => hget ho, fun _ _ h => .inl h⟩
  · unfold genOf at *; rw [hget (genOf_lt hg)]; exact hg
  · unfold lenOf; rw [hget (genOf_lt hg)]
  · have := isMap_lt hm
    unfold isMap at *; rw [hget this]; exact hm
  · have := isLoop_lt hm
    unfold isLoop at *; rw [hget this]; exact hm
theorem Rel.pad {s : Sim} {h : Heap} {w : World} (R : Rel s h w) (X : Heap) : Rel s (h ++ X) w :=
  ⟨R.inj, fun o b hb => by
    obtain ⟨x, hx, hr⟩ := R.obj o b hb
    exact ⟨x, by rw [List.getElem?_append_left (R.old hb)]; exact hx, hr.ext R.apart (Ext.pad s h w X) rfl⟩, R.apart, R.imm⟩
noncomputable def Env.only (e : Env) (l : List Nat) : Env := e.keep l
theorem Env.get_only {e : Env} {l : List Nat} {t : Nat} (ht : t ∈ l) : (e.only l).get t = e.get t := by
  induction l with
  | nil => simp at ht
  | cons k r ih =>
    simp only [Env.only, Env.keep, Env.get_cons]
    by_cases hk : k = t
    · subst hk; simp
    · have : (k == t) = false := by simp [hk]
      rw [this]
      simp only [Bool.false_eq_true, if_false]
      exact ih (by rcases List.mem_cons.1 ht with h | h; exact absurd h.symm hk; exact h)
theorem Env.get_only_not {e : Env} {l : List Nat} {t : Nat} (ht : t ∉ l) : (e.only l).get t = .junk := by
  induction l with
  | nil => rfl
  | cons k r ih =>
    simp only [Env.only, Env.keep, Env.get_cons]
    have hk : ¬ k = t := fun e => ht (by simp [e])
    have : (k == t) = false := by simp [hk]
    rw [this]
    simp only [Bool.false_eq_true, if_false]
    exact ih (fun h => ht (by simp [h]))
theorem wantA_congr {ops : Array Oper} {e e' : Env} {o : Oper} (he : ∀ t, t ∈ reads ops o → e.get t = e'.get t) : wantA ops e o = wantA ops e' o := by
  unfold wantA
  cases hg : o.guard with
  | none => rfl
  | some jw =>
    obtain ⟨j, want⟩ := jw
    simp only
    cases hj : (ops[j]?).bind (·.dst) with
    | none => rfl
    | some d =>
      simp only [Option.map_some]
      rw [he d (by unfold reads; rw [hg]; simp [hj])]
theorem oper_alloc {o : Oper} (ha : isAlloc o = true) : ∃ t, o.op = .alloc t := by
  unfold isAlloc at ha
  split at ha
  · rename_i t ho; exact ⟨t, ho⟩
  · cases ha
theorem draw_sound {ord : Nat → Array Oper → Bool} (K : Ok P C ord) {N f : Nat} {ops : Array Oper} (hd : dstsOk N ops = true) (hord : ordOk C f ops = true) {k : Nat} (HC : CallsAt P C ord k) {r0 : Option Nat} {B : Nat}
    {e : Env} {h : Heap} {e' : Env} {h' : Heap} (hf : opsF C k f ops (sched ops true) e h = some (.nrm, e', h'))
    {s : Sim} {w : World} {a : Act} (hN : a.tmps.size = N) (hdf : Dues B s w a.defers) (R : Rel s h w) (G : GG C ord s h w) (H : EnvRel s h w e a.tmps) :
    wpAnyIn (Fr r0) 0 P .any ops (OutOk B s h w N .nrm e' h') ops.size (Array.replicate ops.size false) a w := by
  obtain ⟨tr, vl, t0, tn, ts⟩ := trace_of _ _ _ _ _ _ hf
  simp only [ordOk, Bool.and_eq_true] at hord
  obtain ⟨hpairs, hsing⟩ := hord
  have hpair := pairs_spec (C := C) (f := f) (ops := ops) (b := Region.before ops) _ hpairs
  have hone : ∀ i o, ops[i]? = some o → (isAlloc o = true → o.guard = none) ∧ (∀ e ∈ o.after, Region.binds .any e = true → e.on < i) ∧ (∀ d, o.dst = some d → d ∉ reads ops o) := by
    intro i o ho
    have := List.all_eq_true.1 hsing i (by simp; exact (Array.getElem?_eq_some_iff.1 ho).1)
    simp only [ho, Bool.and_eq_true, Bool.or_eq_true, Bool.not_eq_true', Array.all_eq_true_iff_forall_mem, decide_eq_true_eq] at this
    obtain ⟨⟨h1, h2⟩, h3⟩ := this
    refine ⟨fun ha => ?_, fun e he hb => ?_, fun d hdd => ?_⟩
    · rcases h1 with h1 | h1
      · rw [ha] at h1; cases h1
      · simpa using h1.1
    · rcases h2 e he with h2 | h2
      · rw [hb] at h2; cases h2
      · exact h2
    · rw [hdd] at h3
      simpa using h3
  generalize hl : sched ops true = l at *
  generalize hL : ordIdx ops = L at *
  have hLl : ∀ {p i : Nat}, L[p]? = some i → ∃ o, ops[i]? = some o ∧ l[p]? = some o := fun {p i} hp => by
    subst hL; subst hl; exact idx_at hp
  have hlL : ∀ {p : Nat} {o : Oper}, l[p]? = some o → ∃ i, L[p]? = some i ∧ ops[i]? = some o := fun {p o} hp => by
    subst hL; subst hl; exact sched_at hp
  have hLinj : ∀ {p q i : Nat}, L[p]? = some i → L[q]? = some i → p = q := fun {p q i} hp hq => by subst hL; exact idx_inj hp hq
  have hLmem : ∀ {i : Nat}, i < ops.size → ∃ p : Nat, L[p]? = some i := fun {i} hi => by subst hL; exact idx_mem hi
  have halloc : ∀ {p : Nat} {o : Oper}, l[p]? = some o → isAlloc o = decide (p < allocs ops) := fun {p o} hp => by subst hl; exact alloc_at hp
  have hql : allocs ops ≤ l.length := by
    subst hl
    rw [← idx_length, ← alloc_len]
    unfold ordIdx
    simp only [List.length_append]
    omega
  generalize hq0 : allocs ops = q0 at *
  have get_step : ∀ (p : Nat) o t, l[p]? = some o → (tr (p + 1)).1.get t = if o.dst = some t then vl p else (tr p).1.get t := fun p o t hp => by
    rw [(ts p o hp).2, Env.get_putAt]
  have get_same : ∀ (q p t : Nat), p ≤ q → q ≤ l.length → (∀ (r : Nat) o, p ≤ r → r < q → l[r]? = some o → o.dst ≠ some t) → (tr q).1.get t = (tr p).1.get t := by
    intro q
    induction q with
    | zero => intro p t hp _ _; obtain rfl : p = 0 := by omega
              rfl
    | succ q ih =>
      intro p t hp hq hn
      by_cases he : p = q + 1
      · subst he; rfl
      · have hlt : q < l.length := by omega
        rw [get_step q _ t (List.getElem?_eq_getElem hlt), if_neg (hn q _ (by omega) (by omega) (List.getElem?_eq_getElem hlt))]
        exact ih p t (by omega) (by omega) (fun r o h1 h2 h3 => hn r o h1 (by omega) h3)
  have heap_same : ∀ (q p : Nat), p ≤ q → q ≤ l.length → (∀ (r : Nat) o, p ≤ r → r < q → l[r]? = some o → loudOp C f o = false) → (tr q).2 = (tr p).2 := by
    intro q
    induction q with
    | zero => intro p hp _ _; obtain rfl : p = 0 := by omega
              rfl
    | succ q ih =>
      intro p hp hq hn
      by_cases he : p = q + 1
      · subst he; rfl
      · have hlt : q < l.length := by omega
        rw [step_quiet K (hn q _ (by omega) (by omega) (List.getElem?_eq_getElem hlt)) (ts q _ (List.getElem?_eq_getElem hlt)).1]
        exact ih p (by omega) (by omega) (fun r o h1 h2 h3 => hn r o h1 (by omega) h3)
  have alloc_step : ∀ (p : Nat) o, p < q0 → l[p]? = some o → ∃ t ti, o.op = .alloc t ∧ C.ty t = some ti ∧ ti.zero.length = ti.size ∧ vl p = .ptr (tr p).2.length 0 0 ∧ (tr (p + 1)).2 = (tr p).2 ++ [.cells ti.zero 0] := by
    intro p o hp ho
    have ha : isAlloc o = true := by rw [halloc ho]; simpa using hp
    obtain ⟨t, hot⟩ := oper_alloc ha
    obtain ⟨i, hi, hoi⟩ := hlL ho
    have hg := (hone i o hoi).1 ha
    have hst := (ts p o ho).1
    have hw : wantA ops (tr p).1 o = some true := by unfold wantA; rw [hg]
    have hce : callee o = none := by unfold callee; rw [hot]
    rcases hst with ⟨h1, _⟩ | ⟨_, _, h3, _⟩ | ⟨_, g, args, vs, gv, j, h2, _⟩
    · rw [hw] at h1; cases h1
    · unfold opA at h3
      simp only [hot, Option.bind_eq_bind] at h3
      obtain ⟨ti, hti, h3⟩ := Option.bind_eq_some_iff.1 h3
      split at h3
      · rename_i hz
        simp only [Option.some.injEq, Prod.mk.injEq] at h3
        exact ⟨t, ti, hot, hti, by simpa using hz, h3.1.symm, h3.2.symm⟩
      · cases h3
    · rw [hce] at h2; cases h2
  have alloc_tr : ∀ p, p ≤ q0 → ∃ X, (tr p).2 = h ++ X ∧ X.length = p ∧ ∀ r, r < p → ∀ o, l[r]? = some o → ∃ t ti, o.op = .alloc t ∧ C.ty t = some ti ∧ ti.zero.length = ti.size ∧ X[r]? = some (.cells ti.zero 0) ∧ vl r = .ptr (h.length + r) 0 0 := by
    intro p
    induction p with
    | zero => intro _; exact ⟨[], by rw [t0]; simp, rfl, fun r hr => by omega⟩
    | succ p ih =>
      intro hp
      obtain ⟨X, h1, h2, h3⟩ := ih (by omega)
      have hlt : p < l.length := by omega
      obtain ⟨t, ti, e1, e2, e3, e4, e5⟩ := alloc_step p _ (by omega) (List.getElem?_eq_getElem hlt)
      refine ⟨X ++ [.cells ti.zero 0], by rw [e5, h1, List.append_assoc], by simp [h2], fun r hr o ho => ?_⟩
      by_cases he : r = p
      · subst he
        rw [List.getElem?_eq_getElem hlt] at ho
        injection ho with ho; subst ho
        refine ⟨t, ti, e1, e2, e3, ?_, by rw [e4, h1]; simp [h2]⟩
        rw [List.getElem?_append_right (by omega)]
        simp [h2]
      · obtain ⟨t', ti', k1, k2, k3, k4, k5⟩ := h3 r (by omega) o ho
        exact ⟨t', ti', k1, k2, k3, by rw [List.getElem?_append_left (by omega)]; exact k4, k5⟩
  obtain ⟨X, hX, hXl, hXr⟩ := alloc_tr q0 (Nat.le_refl _)
  let D (listed : Array Bool) (p : Nat) : Prop := ∃ i, L[p]? = some i ∧ listed.getD i false = true
  let Rd (p t : Nat) : Prop := p = l.length ∨ ∃ o, l[p]? = some o ∧ t ∈ reads ops o
  let Inv (listed : Array Bool) (a1 : Act) (w1 : World) : Prop := ∃ s1 m, q0 ≤ m ∧ m ≤ l.length ∧
    (∀ p o, q0 ≤ p → p < m → l[p]? = some o → loudOp C f o = true → D listed p) ∧ (∀ p o, m ≤ p → l[p]? = some o → loudOp C f o = true → ¬ D listed p) ∧
    Ext s h w s1 (tr m).2 w1 ∧ Rel s1 (tr m).2 w1 ∧ a1.tmps.size = N ∧ Dues B s1 w1 a1.defers ∧
    (∀ p t, p ≤ l.length → Rd p t → (p < l.length → ¬ D listed p) → (∀ r o, r < p → l[r]? = some o → o.dst = some t → D listed r) → VR s1 (tr m).2 w1 ((tr p).1.get t) (a1.tmps.getD t undef)) ∧
    (∀ p, p < q0 → ¬ D listed p → s1.μ (h.length + p) = none ∧ (tr m).2[h.length + p]? = X[p]?) ∧ h.length + q0 ≤ (tr m).2.length
  let cnt (listed : Array Bool) : Nat := (List.range ops.size).countP (fun i => !listed.getD i false)
  have main : ∀ (fuel : Nat) (listed : Array Bool) (a1 : Act) (w1 : World), listed.size = ops.size →
      (∀ i o, ops[i]? = some o → listed.getD i false = true → ∀ e ∈ o.after, Region.binds .any e = true → listed.getD e.on false = true) →
      Inv listed a1 w1 → cnt listed ≤ fuel → wpAnyIn (Fr r0) 0 P .any ops (OutOk B s h w N .nrm e' h') fuel listed a1 w1 := by
    intro fuel
    have done : ∀ (listed : Array Bool) (a1 : Act) (w1 : World), listed.size = ops.size → Inv listed a1 w1 → Region.ready .any ops listed = [] → OutOk B s h w N .nrm e' h' .normal a1 w1 := by
      intro listed a1 w1 hsz hI hr
      have hall : ∀ i, i < ops.size → listed.getD i false = true := by
        intro i
        induction i using Nat.strongRecOn with
        | _ i ih =>
          intro hi
          cases hli : listed.getD i false with
          | true => rfl
          | false =>
            exfalso
            have hoi : ops[i]? = some ops[i] := Array.getElem?_eq_getElem hi
            have hmem : i ∈ Region.ready .any ops listed := by
              refine mem_ready.2 ⟨?_, _, hoi, fun e he hb => ?_⟩
              · have : i < listed.size := by omega
                simp [this] at hli ⊢
                exact hli
              · have hlt := (hone i _ hoi).2.1 e he hb
                exact ih e.on hlt (by omega)
            rw [hr] at hmem
            simp at hmem
      have hDall : ∀ p, p < l.length → D listed p := by
        intro p hp
        obtain ⟨i, hi, ho⟩ := hlL (List.getElem?_eq_getElem hp)
        exact ⟨i, hi, hall i (Array.getElem?_eq_some_iff.1 ho).1⟩
      obtain ⟨s1, m, i1, i2, i3, i4, i5, i6, i7, i8, i9, _, _⟩ := hI
      have hm : (tr l.length).2 = (tr m).2 := heap_same _ _ i2 (Nat.le_refl _) (fun r o h1 h2 h3 => by
        cases hlo : loudOp C f o with
        | false => rfl
        | true => exact absurd (hDall r h2) (i4 r o h1 h3 hlo))
      rw [tn] at hm
      simp only at hm
      rw [← hm] at i5 i6 i9
      refine ⟨s1, i5, i6, i7, i8, fun t => ?_⟩
      have := i9 l.length t (Nat.le_refl _) (.inl rfl) (fun h => by omega) (fun r o h1 h2 h3 => hDall r h1)
      rw [tn] at this
      exact this
    induction fuel with
    | zero =>
      intro listed a1 w1 hsz hcl hI hc
      have hr : Region.ready .any ops listed = [] := by
        cases hrr : Region.ready .any ops listed with
        | nil => rfl
        | cons i r =>
          exfalso
          have hmem : i ∈ Region.ready .any ops listed := by rw [hrr]; simp
          obtain ⟨h1, o, ho, _⟩ := mem_ready.1 hmem
          have hi : i < ops.size := (Array.getElem?_eq_some_iff.1 ho).1
          have hpos : 0 < cnt listed := by
            refine List.countP_pos_iff.2 ⟨i, by simp [hi], ?_⟩
            have : i < listed.size := by omega
            simp [this] at h1 ⊢
            exact h1
          omega
      exact ⟨hr, done listed a1 w1 hsz hI hr⟩
    | succ fuel ih =>
      intro listed a1 w1 hsz hcl hI hc
      refine ⟨done listed a1 w1 hsz hI, fun i hi => ?_⟩
      obtain ⟨hli, o, ho, hready⟩ := mem_ready.1 hi
      have hio : i < ops.size := (Array.getElem?_eq_some_iff.1 ho).1
      have his : i < listed.size := by omega
      have hlif : listed.getD i false = false := by simp [his] at hli ⊢; exact hli
      obtain ⟨p, hp⟩ := hLmem hio
      obtain ⟨o', ho', hlp⟩ := hLl hp
      rw [ho] at ho'
      injection ho' with ho'; subst ho'
      have hpl : p < l.length := (List.getElem?_eq_some_iff.1 hlp).1
      have hDp : ¬ D listed p := by
        rintro ⟨j, hj, hjd⟩
        rw [hp] at hj
        injection hj with hj; subst hj
        rw [hlif] at hjd; cases hjd
      have ahead : ∀ (r : Nat) x, r < p → l[r]? = some x → (dstC ops x o = true ∨ (heapC C f x o = true ∧ loudOp C f x = true)) → D listed r := by
        intro r x hr hx hc
        obtain ⟨j, hj, hjo⟩ := hlL hx
        refine ⟨j, hj, ?_⟩
        have hbit : ((Region.before ops).getD i 0).testBit j = true := by
          have hs := (hpair r p j i x o hr hj hp hjo ho).1
          rcases hc with hc | ⟨hc, hx⟩
          · exact hs.1 hc
          · exact hs.2 hc (by unfold looseP; rw [hx]; rfl)
        exact before_in (fun x => listed.getD x false = true) ops hcl i o ho hready j hbit
      have behind : ∀ (r : Nat) x, p < r → l[r]? = some x → (dstC ops o x = true ∨ (heapC C f o x = true ∧ looseP C f i o x = false)) → ¬ D listed r := by
        rintro r x hr hx hc ⟨j, hj, hjd⟩
        obtain ⟨j', hj', hjo⟩ := hlL hx
        rw [hj] at hj'
        injection hj' with hj'; subst hj'
        have hbit : ((Region.before ops).getD j 0).testBit i = true := by
          have hs := (hpair p r i j o x hr hp hj ho hjo).1
          rcases hc with hc | ⟨hc, hx⟩
          · exact hs.1 hc
          · exact hs.2 hc hx
        have := before_in (fun x => listed.getD x false = true) ops hcl j x hjo (hcl j x hjo hjd) i hbit
        simp only [hlif] at this
        cases this
      have hD' : ∀ r, D (listed.setIfInBounds i true) r ↔ D listed r ∨ r = p := by
        intro r
        constructor
        · rintro ⟨j, hj, hjd⟩
          rw [getD_set his] at hjd
          split at hjd
          · rename_i e; subst e; exact .inr (hLinj hj hp)
          · exact .inl ⟨j, hj, hjd⟩
        · rintro (⟨j, hj, hjd⟩ | rfl)
          · exact ⟨j, hj, by rw [getD_set his]; split <;> first | rfl | exact hjd⟩
          · exact ⟨i, hp, by rw [getD_set his]; simp⟩
      have hcl' : ∀ j x, ops[j]? = some x → (listed.setIfInBounds i true).getD j false = true → ∀ e ∈ x.after, Region.binds .any e = true → (listed.setIfInBounds i true).getD e.on false = true := by
        intro j x hx hjd e he hb
        have hold : listed.getD e.on false = true := by
          rw [getD_set his] at hjd
          split at hjd
          · rename_i e'; subst e'
            rw [ho] at hx
            injection hx with hx; subst hx
            exact hready e he hb
          · exact hcl j x hx hjd e he hb
        rw [getD_set his]
        split <;> first | rfl | exact hold
      have hcnt : cnt (listed.setIfInBounds i true) ≤ fuel := by
        have : cnt (listed.setIfInBounds i true) < cnt listed := by
          refine countP_lt _ (fun x _ hx => ?_) ⟨i, by simp [hio], by simp only [hlif]; rfl, by rw [getD_set his]; simp⟩
          rw [getD_set his] at hx
          split at hx
          · cases hx
          · exact hx
        omega
      obtain ⟨s1, m, i1, i2, i3, i4, i5, i6, i7, i8, i9, i10, i11⟩ := hI
      have hdst : ∀ t, o.dst = some t → t < a1.tmps.size := fun t ht => by rw [i7]; exact dst_lt hd ho t ht
      have hG1 : GG C ord s1 (tr m).2 w1 := G.ext R.apart i5
      have names : ∀ {s2 : Sim} {m2 : Nat} {w2 : World} {u : Value}, Ext0 s1 (tr m).2 w1 s2 (tr m2).2 w2 → VR s2 (tr m2).2 w2 (vl p) u →
          ∀ q t, q ≤ l.length → Rd q t → (q < l.length → ¬ D (listed.setIfInBounds i true) q) → (∀ r x, r < q → l[r]? = some x → x.dst = some t → D (listed.setIfInBounds i true) r) → VR s2 (tr m2).2 w2 ((tr q).1.get t) ((a1.put o.dst u).tmps.getD t undef) := by
        intro s2 m2 w2 u E hu q t hq hrd hnD hwr
        rw [put_get a1 o.dst u t hdst]
        by_cases hdt : o.dst = some t
        · rw [if_pos hdt]
          have hpq : p < q := by
            rcases Nat.lt_trichotomy p q with h1 | h1 | h1
            · exact h1
            · subst h1; exact absurd ((hD' p).2 (.inr rfl)) (hnD hpl)
            ·
              exfalso
              have hql' : q < l.length := by omega
              rcases hrd with h2 | ⟨x, hx, hxr⟩
              · omega
              · have hcf : dstC ops x o = true := by
                  unfold dstC
                  rw [hdt]
                  simp [hxr]
                exact hnD hql' ((hD' q).2 (.inl (ahead q x h1 hx (.inl hcf))))
          have hlast : (tr q).1.get t = (tr (p + 1)).1.get t := by
            refine get_same q (p + 1) t (by omega) hq (fun r x h1 h2 h3 hxd => ?_)
            have hcf : dstC ops o x = true := by
              unfold dstC
              rw [hdt]
              simp [hxd]
            have hnd := behind r x (by omega) h3 (.inl hcf)
            rcases (hD' r).1 (hwr r x h2 h3 hxd) with h4 | h4
            · exact hnd h4
            · omega
          rw [hlast, get_step p o t hlp, if_pos hdt]
          exact hu
        · rw [if_neg hdt]
          refine (i9 q t hq hrd (fun h1 h2 => hnD h1 ((hD' q).2 (.inl h2))) (fun r x h1 h2 h3 => ?_)).ext0 i6.apart E
          rcases (hD' r).1 (hwr r x h1 h2 h3) with h4 | h4
          · exact h4
          · subst h4
            rw [hlp] at h2
            injection h2 with h2; subst h2
            exact absurd h3 hdt
      have hputs : ∀ u, (a1.put o.dst u).tmps.size = N ∧ (a1.put o.dst u).defers = a1.defers := fun u => by
        cases o.dst <;> simp [Act.put, i7]
      unfold wpOpIn
      simp only [ho]
      by_cases hpa : p < q0
      ·
        obtain ⟨t, ti, e1, e2, e3, e4, e5⟩ := hXr p hpa o hlp
        have hal : isAlloc o = true := by rw [halloc hlp]; simpa using hpa
        have hg := (hone i o ho).1 hal
        have hwant : Region.wanted o (yielded ops a1.tmps) = true := by unfold Region.wanted; rw [hg]
        rw [if_pos hwant]
        obtain ⟨z, hz1, hz2⟩ := zero_rel (P := P) (s := s1) (h := (tr m).2) (w := w1) (K.ty t ti e2)
        obtain ⟨hmu, hXp⟩ := i10 p hpa hDp
        rw [e4] at hXp
        have hlen : h.length + p < (tr m).2.length := by omega
        have hrun : (execOp a1.eval o).run P w1 = .ok (.value (.pointer (some ⟨w1.heap.size, 0, none⟩))) (w1.alloc (.cells z.cells t)) := by
          unfold execOp
          simp only [e1, Instr.alloc, Sem.run_bind, hz1, Result.andThen_ok, newVar, newRow, run_newObj, Sem.run_pure]
          rfl
        have E0 : Ext0 s1 (tr m).2 w1 (s1.add (h.length + p) w1.heap.size) (tr m).2 (w1.alloc (.cells z.cells t)) := by
          refine ⟨by rw [size_alloc]; omega, fun b hb _ => heap_alloc_lt w1 _ hb, fun b x hx => by rw [shape_of (heap_alloc_lt w1 _ (shape_lt hx))]; exact hx, fun _ h => h, fun _ g hg => ⟨g, hg, Nat.le_refl _⟩, fun o' g hg _ => ⟨fun b hb => ?_, rfl⟩, fun _ h _ => h, fun o' b hb => ?_, rfl, rfl, rfl, fun _ h => h, rfl⟩
          · have : o' ≠ h.length + p := by rintro rfl; rw [hmu] at hb; cases hb
            simp [Sim.add, this, hb]
          · simp only [Sim.add] at hb
            split at hb
            · injection hb with hb; exact .inr (by omega)
            · exact .inl ⟨o', hb⟩
        have hR2 : Rel (s1.add (h.length + p) w1.heap.size) (tr m).2 (w1.alloc (.cells z.cells t)) := by
          refine ⟨fun x y b hx hy => ?_, fun x b hx => ?_, fun x b hx hI => ?_, fun b hI => ?_⟩
          · simp only [Sim.add] at hx hy
            split at hx <;> split at hy
            · omega
            · injection hx with hx; have := i6.lt hy; omega
            · injection hy with hy; have := i6.lt hx; omega
            · exact i6.inj _ _ _ hx hy
          · by_cases hxe : x = h.length + p
            · subst hxe
              simp only [Sim.add, if_true, Option.some.injEq] at hx
              subst hx
              refine ⟨_, hXp, z.cells, t, heap_alloc_at w1 _, by have := hz2.1; simp at this; omega, fun j c hj => ?_⟩
              obtain ⟨v, hv, hvr⟩ := hz2.2 j c hj
              exact ⟨v, by simpa using hv, hvr.ext0 i6.apart E0⟩
            · simp only [Sim.add, hxe, if_false] at hx
              obtain ⟨y, hy, hyr⟩ := i6.obj x b hx
              refine ⟨y, hy, ?_⟩
              have hbk := heap_alloc_lt w1 (.cells z.cells t) (i6.lt hx)
              cases y with
              | cells cs g =>
                obtain ⟨bc, el, k1, k2, k3⟩ := hyr
                refine ⟨bc, el, hbk.trans k1, k2, fun j c hj => ?_⟩
                obtain ⟨v, hv, hvr⟩ := k3 j c hj
                exact ⟨v, hv, hvr.ext0 i6.apart E0⟩
              | map es =>
                obtain ⟨es0, hp0, en, cl, k1, k2, k3⟩ := hyr
                refine ⟨es0, hp0, en, cl, hbk.trans k1, k2, k3.1, fun j c hj => ?_⟩
                obtain ⟨mm, hm, hm1, hm2⟩ := k3.2 j c hj
                exact ⟨mm, hm, hm1.ext0 i6.apart E0, hm2.ext0 i6.apart E0⟩
              | loop lr =>
                obtain ⟨rec, k1, k2, k3, k4⟩ := hyr
                exact ⟨rec, hbk.trans k1, k2, fun t => (k3 t).ext0 i6.apart E0, k4⟩
              | iter kk es =>
                obtain ⟨bm, since, seen, last, en, cl, k1, k2, k3, k4, k5⟩ := hyr
                refine ⟨bm, since, seen, last, en, cl, hbk.trans k1, k2, (heap_alloc_lt w1 _ (i6.imm bm k2)).trans k3, fun hk => ?_, fun hk => ?_⟩
                · obtain ⟨q1, q2, q3, q4, q5, es0, hp0, q6⟩ := k4 hk
                  exact ⟨q1, q2, q3, q4, q5, es0, hp0, fun i e hi => let ⟨m, hm, h6, h7⟩ := q6 i e hi; ⟨m, hm, h6.ext0 i6.apart E0, h7.ext0 i6.apart E0⟩⟩
                · obtain ⟨q1, q2, q3, q4⟩ := k5 hk
                  exact ⟨q1, q2, q3, fun e he => let ⟨m, hm, h6, h7, h8⟩ := q4 e he; ⟨m, hm, h6, h7.ext0 i6.apart E0, h8.ext0 i6.apart E0⟩⟩
          · simp only [Sim.add] at hx hI
            split at hx
            · injection hx with hx; subst hx; have := i6.imm _ hI; omega
            · exact i6.apart _ _ hx hI
          · have := i6.imm b hI; rw [size_alloc]; omega
        have hv : VR (s1.add (h.length + p) w1.heap.size) (tr m).2 (w1.alloc (.cells z.cells t)) (vl p) (.pointer (some ⟨w1.heap.size, 0, none⟩)) := by
          rw [e5]
          exact .ptr _ _ _ _ (by simp [genOf, hXp]) (by simp [Sim.add])
        refine ⟨fun _ _ => trivial, ?_⟩
        rw [Oper.semAt_eq _ _ _ (fun c hc => by rw [e1] at hc; cases hc), hrun]
        obtain ⟨g1, g2⟩ := hputs (.pointer (some ⟨w1.heap.size, 0, none⟩))
        refine ih _ _ _ (by simpa using hsz) hcl' ⟨_, m, i1, i2, fun r x h1 h2 h3 h4 => (hD' r).2 (.inl (i3 r x h1 h2 h3 h4)), fun r x h1 h2 h3 h4 => ?_, ?_, hR2, g1, by rw [g2]; exact i8.ext0 E0, names E0 hv, fun r hr hnD => ?_, i11⟩ hcnt
        · rcases (hD' r).1 h4 with h5 | h5
          · exact i4 r x h1 h2 h3 h5
          · omega
        · refine ⟨i5.toExt0.trans E0, fun o' b ho' hb => ?_, fun o' ho' hn => i5.kept o' ho' hn, i5.immOld⟩
          have : o' ≠ h.length + p := by omega
          simp only [Sim.add, this, if_false] at hb
          exact i5.old o' b ho' hb
        · have hne : r ≠ p := fun e' => hnD ((hD' r).2 (.inr e'))
          obtain ⟨h1, h2⟩ := i10 r hr (fun h3 => hnD ((hD' r).2 (.inl h3)))
          exact ⟨by simp only [Sim.add]; rw [if_neg (show ¬ h.length + r = h.length + p from by omega)]; exact h1, h2⟩
      ·
        have hnal : isAlloc o = false := by rw [halloc hlp]; simpa using hpa
        have hrdp : ∀ t, t ∈ reads ops o → VR s1 (tr m).2 w1 ((tr p).1.get t) (a1.tmps.getD t undef) := by
          intro t ht
          refine i9 p t (by omega) (.inr ⟨o, hlp, ht⟩) (fun _ => hDp) (fun r x h1 h2 h3 => ahead r x h1 h2 (.inl ?_))
          unfold dstC
          rw [h3]
          simp [ht]
        have henv : EnvRel s1 (tr m).2 w1 ((tr p).1.only (reads ops o)) a1.tmps := by
          intro t
          by_cases ht : t ∈ reads ops o
          · rw [Env.get_only ht]; exact hrdp t ht
          · rw [Env.get_only_not ht]; exact .junk _
        have hsame : ∀ t, t ∈ reads ops o → (tr p).1.get t = ((tr p).1.only (reads ops o)).get t := fun t ht => (Env.get_only ht).symm
        have hsame' : ∀ t, t ∈ tmpsOf o.op.operands.toList → (tr p).1.get t = ((tr p).1.only (reads ops o)).get t := fun t ht => hsame t (by unfold reads; simp [ht])
        have hwc := wantA_congr (e' := (tr p).1.only (reads ops o)) hsame
        have hloose : ∀ r x, p ≤ r → r < m → l[r]? = some x → loudOp C f x = true → touchOp C f o = true → p < r ∧ looseP C f i o x = true := by
          intro r x h1 h2 h3 h4 htc
          have hDr := i3 r x (by omega) h2 h3 h4
          have hne : r ≠ p := by rintro rfl; exact hDp hDr
          refine ⟨by omega, ?_⟩
          cases hlo : looseP C f i o x with
          | true => rfl
          | false =>
            refine absurd hDr (behind r x (by omega) h3 (.inr ⟨?_, hlo⟩))
            have hx : isAlloc x = false := by rw [halloc h3]; simp; omega
            unfold heapC
            simp [hx, hnal, h4, htc]
        have hahead : ∀ r x, m ≤ r → r < p → l[r]? = some x → loudOp C f x = true → touchOp C f o = true → False := by
          intro r x h1 h2 h3 h4 htc
          refine i4 r x h1 h3 h4 (ahead r x h2 h3 (.inr ⟨?_, h4⟩))
          have hx : isAlloc x = false := by rw [halloc h3]; simp; omega
          unfold heapC
          simp [hx, hnal, h4, htc]
        have hexact : touchOp C f o = true → (∀ r x, p ≤ r → r < m → l[r]? = some x → loudOp C f x = true → looseP C f i o x = false) → (tr m).2 = (tr p).2 := by
          intro htc hn
          rcases Nat.le_total m p with hmp | hmp
          · exact (heap_same p m hmp (by omega) (fun r x h1 h2 h3 => by
              cases hlo : loudOp C f x with
              | false => rfl
              | true => exact (hahead r x h1 h2 h3 hlo htc).elim)).symm
          · exact heap_same m p hmp i2 (fun r x h1 h2 h3 => by
              cases hlo : loudOp C f x with
              | false => rfl
              | true => have := (hloose r x h1 h2 h3 hlo htc).2; rw [hn r x h1 h2 h3 hlo] at this; cases this)
        have hheap : touchOp C f o = true → loudOp C f o = true → (tr m).2 = (tr p).2 := fun htc hlo => hexact htc (fun r x _ _ _ _ => by unfold looseP; rw [hlo]; rfl)
        have hkeep : ∀ r t, p ≤ r → r ≤ l.length → looseI C f ops i = true → (t ∈ reads ops o) → (tr r).1.get t = (tr p).1.get t := by
          intro r t h1 h2 hany ht
          refine get_same r p t h1 h2 (fun q x h3 h4 h5 hxd => ?_)
          by_cases hq : q = p
          · subst hq
            rw [hlp] at h5
            injection h5 with h5; subst h5
            exact (hone i o ho).2.2 t hxd ht
          · obtain ⟨j, hj, hjo⟩ := hlL h5
            have := (hpair p q i j o x (by omega) hp hj ho hjo).2 hany
            unfold antiC at this
            rw [hxd] at this
            simp [ht] at this
        have hkeepd : ∀ r t, p < r → r ≤ l.length → looseI C f ops i = true → o.dst = some t → (tr r).1.get t = vl p := by
          intro r t h1 h2 hany ht
          rw [get_same r (p + 1) t (by omega) h2 (fun q x h3 h4 h5 hxd => ?_), get_step p o t hlp, if_pos ht]
          obtain ⟨j, hj, hjo⟩ := hlL h5
          have := (hpair p q i j o x (by omega) hp hj ho hjo).2 hany
          unfold antiC at this
          rw [hxd] at this
          simp [ht] at this
        have hlb : ∀ r x, p ≤ r → r < m → l[r]? = some x → loudOp C f x = true → touchOp C f o = true → (tr (r + 1)).2 = (tr r).2 ∨ (looseB C f ops (tr r).1 (tr (r + 1)).2 i = true ∧ p < r ∧ looseI C f ops i = true) := by
          intro r x h1 h2 h3 h4 htc
          obtain ⟨hqp, hlp'⟩ := hloose r x h1 h2 h3 h4 htc
          have hcon : ∃ t, dkey x = some t ∧ i ∈ C.loose f t := by
            unfold looseP at hlp'
            simp only [Bool.and_eq_true] at hlp'
            obtain ⟨_, hlp'⟩ := hlp'
            cases hdx : dkey x with
            | none => rw [hdx] at hlp'; cases hlp'
            | some t => rw [hdx] at hlp'; exact ⟨t, rfl, by simpa using hlp'⟩
          obtain ⟨t, hdx, hit⟩ := hcon
          have hany : looseI C f ops i = true := by
            unfold looseI
            refine List.any_eq_true.2 ⟨x, ?_, ?_⟩
            · obtain ⟨j, _, hjo⟩ := hlL h3
              exact List.mem_iff_getElem?.2 ⟨j, by simpa using hjo⟩
            · rw [hdx]
              simpa using hit
          have hchk : looseAll C f ops (dkey x) (tr r).1 (tr (r + 1)).2 = true → looseB C f ops (tr r).1 (tr (r + 1)).2 i = true := by
            intro hh1
            rw [hdx] at hh1
            exact List.all_eq_true.1 hh1 i hit
          rcases (ts r x h3).1 with ⟨_, _, hs⟩ | ⟨_, _, _, hs⟩ | ⟨_, _, _, _, _, _, _, _, _, _, _, _, hs⟩
          · exact .inl hs
          · exact .inr ⟨hchk hs, hqp, hany⟩
          · exact .inr ⟨hchk hs, hqp, hany⟩
        have hback : m ≤ p → touchOp C f o = true → (tr p).2 = (tr m).2 := fun hmp htc => heap_same p m hmp (by omega) (fun r x h1 h2 h3 => by
          cases hlx : loudOp C f x with
          | false => rfl
          | true => exact (hahead r x h1 h2 h3 hlx htc).elim)
        have hread : wantA ops (tr p).1 o = some true → opA C f (tr p).1 (tr p).2 o = some (vl p, (tr (p + 1)).2) → loudOp C f o = false → touchOp C f o = true →
            opA C f (tr p).1 (tr m).2 o = some (vl p, (tr m).2) := by
          intro hw hv hlo htc
          have hv' : opA C f (tr p).1 (tr p).2 o = some (vl p, (tr p).2) := by
            rw [hv, opA_quiet hlo hv]
          have key : ∀ q, p ≤ q → q ≤ m → opA C f (tr p).1 (tr q).2 o = some (vl p, (tr q).2) := by
            intro q
            induction q with
            | zero => intro h1 _; obtain rfl : p = 0 := by omega
                      exact hv'
            | succ q ih =>
              intro h1 h2
              by_cases hpq : p = q + 1
              · rw [← hpq]; exact hv'
              have ihq := ih (by omega) (by omega)
              have hlt : q < l.length := by omega
              have hlq := List.getElem?_eq_getElem hlt
              cases hlx : loudOp C f l[q] with
              | false => rw [step_quiet K hlx (ts q _ hlq).1]; exact ihq
              | true =>
                rcases hlb q _ (by omega) (by omega) hlq hlx htc with hs | ⟨hb, hqp, hany⟩
                · rw [hs]; exact ihq
                · unfold looseB at hb
                  simp only [ho] at hb
                  have hwq : wantA ops (tr q).1 o = some true := by
                    rw [← hw]
                    exact wantA_congr fun t' ht' => hkeep q t' (by omega) (by omega) hany ht'
                  rw [hwq] at hb
                  simp only at hb
                  have hcg : opA C f (tr q).1 (tr (q + 1)).2 o = opA C f (tr p).1 (tr (q + 1)).2 o := opA_congr fun t' ht' => hkeep q t' (by omega) (by omega) hany (by unfold reads; simp [ht'])
                  rw [hcg] at hb
                  cases hdo : o.dst with
                  | none => simp only [hdo] at hb; cases hb
                  | some t' =>
                    simp only [hdo] at hb
                    cases hop : opA C f (tr p).1 (tr (q + 1)).2 o with
                    | none => simp only [hop] at hb; cases hb
                    | some y =>
                      obtain ⟨y1, y2⟩ := y
                      simp only [hop] at hb
                      have := AV.eqb_eq _ _ hb
                      rw [hkeepd q t' hqp (by omega) hany hdo] at this
                      rw [this, opA_quiet hlo hop]
          rcases Nat.le_total m p with hmp | hmp
          · rw [← hback hmp htc]; exact hv'
          · exact key m hmp (Nat.le_refl _)
        have hcalls : wantA ops (tr p).1 o = some true → (∀ e h, opA C f e h o = none) → touchOp C f o = true → (tr m).2 = (tr p).2 := by
          intro hw hno htc
          have key : ∀ q, p ≤ q → q ≤ m → (tr q).2 = (tr p).2 := by
            intro q
            induction q with
            | zero => intro h1 _; obtain rfl : p = 0 := by omega
                      rfl
            | succ q ih =>
              intro h1 h2
              by_cases hpq : p = q + 1
              · rw [← hpq]
              have ihq := ih (by omega) (by omega)
              have hlt : q < l.length := by omega
              have hlq := List.getElem?_eq_getElem hlt
              cases hlx : loudOp C f l[q] with
              | false => rw [step_quiet K hlx (ts q _ hlq).1]; exact ihq
              | true =>
                rcases hlb q _ (by omega) (by omega) hlq hlx htc with hs | ⟨hb, hqp, hany⟩
                · rw [hs]; exact ihq
                · unfold looseB at hb
                  simp only [ho] at hb
                  have hwq : wantA ops (tr q).1 o = some true := by
                    rw [← hw]
                    exact wantA_congr fun t' ht' => hkeep q t' (by omega) (by omega) hany ht'
                  rw [hwq] at hb
                  simp only [hno] at hb
                  cases hdo : o.dst <;> simp only [hdo] at hb <;> cases hb
          rcases Nat.le_total m p with hmp | hmp
          · exact (hback hmp htc).symm
          · exact key m hmp (Nat.le_refl _)
        have hstep := (ts p o hlp).1
        have rest : ∀ {s2 : Sim} {w2 : World} {u : Value} {h2 : Heap}, (loudOp C f o = true → h2 = (tr (p + 1)).2) → (loudOp C f o = false → h2 = (tr m).2) → Ext s1 (tr m).2 w1 s2 h2 w2 → Rel s2 h2 w2 → VR s2 h2 w2 (vl p) u →
            wpAnyIn (Fr r0) 0 P .any ops (OutOk B s h w N .nrm e' h') fuel (listed.setIfInBounds i true) (a1.put o.dst u) w2 := by
          intro s2 w2 u h2 ht1 ht2 E2 R2 hu
          obtain ⟨g1, g2⟩ := hputs u
          obtain ⟨m2, j1, j2, j3, j4, j5⟩ : ∃ m2, q0 ≤ m2 ∧ m2 ≤ l.length ∧ h2 = (tr m2).2 ∧ (∀ r x, q0 ≤ r → r < m2 → l[r]? = some x → loudOp C f x = true → D (listed.setIfInBounds i true) r) ∧ (∀ r x, m2 ≤ r → l[r]? = some x → loudOp C f x = true → ¬ D (listed.setIfInBounds i true) r) := by
            cases hlo : loudOp C f o with
            | true =>
              have htc : touchOp C f o = true := loud_touch hlo
              refine ⟨p + 1, by omega, by omega, ht1 hlo, fun r x h1 h3 h4 h5 => ?_, fun r x h1 h3 h4 h5 => ?_⟩
              · by_cases he : r = p
                · exact (hD' r).2 (.inr he)
                · refine (hD' r).2 (.inl (ahead r x (by omega) h4 (.inr ⟨?_, h5⟩)))
                  have hx : isAlloc x = false := by rw [halloc h4]; simp; omega
                  unfold heapC
                  simp [hx, hnal, h5, htc]
              · rcases (hD' r).1 h5 with h6 | h6
                · refine behind r x (by omega) h3 (.inr ⟨?_, by unfold looseP; rw [hlo]; rfl⟩) h6
                  have hx : isAlloc x = false := by rw [halloc h3]; simp; omega
                  unfold heapC
                  simp [hx, hnal, h4, htc]
                · omega
            | false =>
              refine ⟨m, i1, i2, ht2 hlo, fun r x h1 h3 h4 h5 => (hD' r).2 (.inl (i3 r x h1 h3 h4 h5)), fun r x h1 h3 h4 h5 => ?_⟩
              · rcases (hD' r).1 h5 with h6 | h6
                · exact i4 r x h1 h3 h4 h6
                · subst h6
                  rw [hlp] at h3
                  injection h3 with h3; subst h3
                  rw [hlo] at h4; cases h4
          subst j3
          refine ih _ _ _ (by simpa using hsz) hcl' ⟨s2, m2, j1, j2, j4, j5, i5.trans E2, R2, g1, by rw [g2]; exact i8.ext0 E2.toExt0, names E2.toExt0 hu, fun r hr hnD => ?_, ?_⟩ hcnt
          · obtain ⟨k1, k2⟩ := i10 r hr (fun h3 => hnD ((hD' r).2 (.inl h3)))
            refine ⟨?_, by rw [E2.kept _ (by omega) k1]; exact k2⟩
            cases hx : s2.μ (h.length + r) with
            | none => rfl
            | some b =>
              obtain ⟨b0, hb0⟩ := E2.old _ b (by omega) hx
              rw [k1] at hb0; cases hb0
          · by_cases hq1 : q0 = 0
            · have := E2.toExt0
              by_cases hh0 : h.length = 0
              · omega
              · have := E2.toExt0.len (o := h.length - 1) (by omega)
                omega
            · have := E2.toExt0.len (o := h.length + q0 - 1) (by omega)
              omega
        rcases hstep with ⟨hw, hv, hh⟩ | ⟨hw, hce, hv⟩ | ⟨hw, g, args, vs, gv, k', hce, hvs, hg, hquiet, hk', hcall, hloo⟩
        ·
          rw [hwc] at hw
          have hwant := want_rel hd i7 henv hw
          rw [hwant]
          simp only [Bool.false_eq_true, if_false]
          refine ⟨fun _ _ => trivial, rest (h2 := (tr m).2) (fun hlo => ?_) (fun _ => rfl) (Ext.refl _ _ _) i6 ?_⟩
          · rw [hh, hheap (loud_touch hlo) hlo]
          · rw [hv]; exact .tup [] #[] rfl fun i c hi => by simp at hi
        · rw [hwc] at hw
          have hwant := want_rel hd i7 henv hw
          rw [if_pos hwant]
          have hv2 : ∃ h2, opA C f ((tr p).1.only (reads ops o)) (tr m).2 o = some (vl p, h2) ∧ (loudOp C f o = true → h2 = (tr (p + 1)).2) ∧ (loudOp C f o = false → h2 = (tr m).2) := by
            rw [← hwc] at hw
            cases hlo : loudOp C f o with
            | true =>
              rw [← opA_congr hsame', hheap (loud_touch hlo) hlo]
              exact ⟨_, hv.1, fun _ => rfl, fun h => by cases h⟩
            | false =>
              rw [← opA_congr hsame']
              cases htc : touchOp C f o with
              | true => exact ⟨_, hread hw hv.1 hlo htc, fun h => (by cases h), fun _ => rfl⟩
              | false => exact ⟨_, (opA_still htc hnal hv.1).2 _, fun h => (by cases h), fun _ => rfl⟩
          obtain ⟨h2, hv2, hh1, hh2⟩ := hv2
          exact oper_sound K i6 hG1 henv hv2 fun s2 w2 u E2 R2 hu => rest hh1 hh2 E2 R2 hu
        · rw [hwc] at hw
          have hwant := want_rel hd i7 henv hw
          rw [if_pos hwant]
          obtain ⟨ct, hoc⟩ := callee_op hce
          have htc : touchOp C f o = true := by unfold touchOp; rw [hoc]
          have hops : ∀ x : Operand, x ∈ o.op.operands.toList → evalA C (tr p).1 x = evalA C ((tr p).1.only (reads ops o)) x := fun x hx => evalA_congr fun t ht => hsame' t (mem_tmpsOf (ht ▸ hx))
          rw [mapO_congr (l := args.toList) (fun x hx => hops x (by rw [hoc]; simp [Op.operands, Call.operands]; right; simpa using hx))] at hvs
          rw [hops g (by rw [hoc]; simp [Op.operands, Call.operands])] at hg
          have hno : ∀ e h, opA C f e h o = none := fun e h => by unfold opA; simp only [hoc]
          have hsm : (tr m).2 = (tr p).2 := hcalls (by rw [hwc]; exact hw) hno htc
          rw [← hsm] at hcall
          refine callop_sound (HC.le hk') i6 hG1 henv hce hvs hg hcall (fun v hres s2 w2 u E2 R2 hu => ?_) (fun v hres => by cases hres)
          injection hres with hres
          rw [← hres] at hu
          exact rest (fun _ => rfl) (fun hlo => by rw [step_quiet K hlo (ts p o hlp).1, hsm]) E2 R2 hu
  have hrep : ∀ j : Nat, (Array.replicate ops.size false).getD j false = false := fun j => by
    rw [Array.getD_eq_getD_getElem?, Array.getElem?_replicate]; split <;> rfl
  refine main _ _ _ _ (by simp) (fun i o ho hi => ?_) ?_ ?_
  · rw [hrep] at hi; cases hi
  · refine ⟨s, q0, Nat.le_refl _, hql, fun p o h1 h2 => by omega, fun p o _ _ _ hDp => ?_, ?_, ?_, hN, hdf, fun p t hp hrd hnD hwr => ?_, fun p hp _ => ?_, ?_⟩
    · obtain ⟨i, hi, hiD⟩ := hDp
      rw [hrep] at hiD; cases hiD
    · rw [hX]; exact Ext.pad s h w X
    · rw [hX]; exact R.pad X
    · have hno : (tr p).1.get t = (tr 0).1.get t := get_same p 0 t (Nat.zero_le _) hp (fun r o _ h2 h3 h4 => by
        obtain ⟨i, hi, hiD⟩ := hwr r o h2 h3 h4
        rw [hrep] at hiD; cases hiD)
      rw [hno, t0, hX]
      exact (H t).ext R.apart (Ext.pad s h w X)
    · refine ⟨?_, ?_⟩
      · cases hx : s.μ (h.length + p) with
        | none => rfl
        | some b => have := R.old hx; omega
      · rw [hX, List.getElem?_append_right (by omega)]
        congr 1; omega
    · rw [hX]; simp [hXl]
  · exact Nat.le_trans List.countP_le_length (by simp)
end
end Go.Rv
