/-
  Going through code with open values: the rewrite rules in one bundle; loops.
-/
import Derived.Test.YtiigpcapieeljaaGreatDoorSxEval
import Derived.Laws.BitsLemmas
set_option linter.unusedSimpArgs false
set_option linter.unusedVariables false
namespace Go.Rv

theorem get_hit (k : Nat) (v : AV) (r : Env) : Env.get ((k, v) :: r) k = v := by rw [Env.get_cons]; simp
theorem get_miss {k t : Nat} (v : AV) (r : Env) (h : (k == t) = false) : Env.get ((k, v) :: r) t = Env.get r t := by rw [Env.get_cons, h]; rfl

/-! ### Pieces of code by name -/

/-- The part of a piece of code at a place. -/
noncomputable def codeAt : List Bool → Code → Code
  | [], c => c
  | false :: p, .seq a _ => codeAt p a
  | true :: p, .seq _ b => codeAt p b
  | false :: p, .cond _ a _ => codeAt p a
  | true :: p, .cond _ _ b => codeAt p b
  | _ :: p, .block _ a => codeAt p a
  | _ :: p, .loop a => codeAt p a
  | _ :: p, .scope a => codeAt p a
  | false :: p, .rangeFunc _ _ a _ => codeAt p a
  | true :: p, .rangeFunc _ _ _ b => codeAt p b
  | _, c => c
noncomputable def codeOps : Code → Array Oper
  | .region _ os _ => os
  | _ => #[]
theorem codeAt_nil (c : Code) : codeAt [] c = c := by simp [codeAt]
theorem codeAt_seq0 (p : List Bool) (a b : Code) : codeAt (false :: p) (.seq a b) = codeAt p a := rfl
theorem codeAt_seq1 (p : List Bool) (a b : Code) : codeAt (true :: p) (.seq a b) = codeAt p b := rfl
theorem codeAt_cond0 (p : List Bool) (x : Operand) (a b : Code) : codeAt (false :: p) (.cond x a b) = codeAt p a := rfl
theorem codeAt_cond1 (p : List Bool) (x : Operand) (a b : Code) : codeAt (true :: p) (.cond x a b) = codeAt p b := rfl
theorem codeAt_block (p : List Bool) (i : Nat) (a : Code) : codeAt (false :: p) (.block i a) = codeAt p a := rfl
theorem codeAt_loop (p : List Bool) (a : Code) : codeAt (false :: p) (.loop a) = codeAt p a := rfl
theorem codeAt_scope (p : List Bool) (a : Code) : codeAt (false :: p) (.scope a) = codeAt p a := rfl
theorem codeAt_range0 (p : List Bool) (x : Operand) (q : Array Tmp) (a b : Code) : codeAt (false :: p) (.rangeFunc x q a b) = codeAt p a := rfl
theorem codeAt_range1 (p : List Bool) (x : Operand) (q : Array Tmp) (a b : Code) : codeAt (true :: p) (.rangeFunc x q a b) = codeAt p b := rfl
theorem codeOps_region (i : Nat) (os : Array Oper) (d : Bool) : codeOps (.region i os d) = os := rfl

noncomputable def regEnd (C : Cfg) (f : Nat) (os : Array Oper) (id : Nat) (draw : Bool) (x : Out × Env × Heap) : Option (Out × Env × Heap) := match x.1 with
  | .nrm => some (.nrm, (match C.live f id with | some l => x.2.1.keep l | none => x.2.1), x.2.2)
  | .pan v => if draw then (if panOk os then some (.pan v, x.2.1.outside os, x.2.2) else none) else some x
  | _ => if draw then none else some x
theorem regEnd_nrm {C : Cfg} {f id : Nat} {os : Array Oper} {d : Bool} {e : Env} {h : Heap} {l : List Nat} (hl : C.live f id = some l) : regEnd C f os id d (.nrm, e, h) = some (.nrm, e.keep l, h) := by simp only [regEnd, hl]
theorem region_at (C : Cfg) (f id : Nat) (os : Array Oper) (d : Bool) (e : Env) (h : Heap) : exec C f (.region id os d) e h = (ops C f os (sched os d) e h).bind (regEnd C f os id d) := by
  rw [exec_region]
  cases ops C f os (sched os d) e h with
  | none => rfl
  | some x =>
    obtain ⟨o, e, h⟩ := x
    cases o <;> rfl

noncomputable def callEnd (C : Cfg) (f : Nat) (h : Heap) (rs : List ResultVar) (x : Out × Env × Heap) : Option (CRes × Heap) := match x.1 with
  | .nrm | .ret => (resultsA C x.2.2 x.2.1 rs).bind fun vs => leaveA C f h (packA vs) x.2.2
  | .pan v => some (.pan v, x.2.2)
  | .exit _ => none
theorem callEnd_ret {C : Cfg} {f : Nat} {h h' : Heap} {rs : List ResultVar} {e : Env} : callEnd C f h rs (.ret, e, h') = (resultsA C h' e rs).bind fun vs => leaveA C f h (packA vs) h' := rfl
theorem callEnd_nrm {C : Cfg} {f : Nat} {h h' : Heap} {rs : List ResultVar} {e : Env} : callEnd C f h rs (.nrm, e, h') = (resultsA C h' e rs).bind fun vs => leaveA C f h (packA vs) h' := rfl
theorem call_at2 {C : Cfg} [NoAlone C] {f : Nat} {h : Heap} {args : List AV} {n : Nat} {rs : List ResultVar} {b : Code} (hf : C.fn f = some ⟨n, rs, b⟩) (hp : C.prim f = none) (hl : (args.length != n) = false) :
    call C f args h = (exec C f b (args.zipIdx.map fun (v, i) => (i, v)) h).bind (callEnd C f h rs) := by
  rw [call_at args _ hp hf hl]
  cases exec C f b (args.zipIdx.map fun (v, i) => (i, v)) h with
  | none => rfl
  | some x =>
    obtain ⟨o, e, h⟩ := x
    cases o <;> rfl

/-! ### Leaving a pure function -/
theorem leave_pure {C : Cfg} {f : Nat} {h h' : Heap} {v v' : AV} (hp : C.pure f = true) (hh : h'.take h.length = h) (hv : freezeV h' h.length 40 v = some v') : leaveA C f h v h' = some (.ret v', h) := by
  unfold leaveA
  rw [if_pos hp, if_pos hh, hv]
  rfl
theorem leave_kept {C : Cfg} {f : Nat} {h : Heap} {v v' : AV} (hp : C.pure f = true) (hv : freezeV h h.length 40 v = some v') : leaveA C f h v h = some (.ret v', h) := leave_pure hp (by simp) hv
theorem leave_impure {C : Cfg} {f : Nat} {h h' : Heap} {v : AV} (hp : C.pure f = false) : leaveA C f h v h' = some (.ret v, h') := by
  unfold leaveA
  rw [if_neg (by simp [hp])]

theorem natlt (a b : Nat) : ((a : Int) < (b : Int)) = (a < b) := by simp
theorem natneg (a : Nat) : ((a : Int) < 0) = False := by simp
theorem guardK_dt {α : Type} (P : Prop) [Decidable P] (x y : Option α) : guardK (.bool (decide P)) true x y = if P then x else y := by
  by_cases h : P <;> simp [h, guardK]
theorem guardK_df {α : Type} (P : Prop) [Decidable P] (x y : Option α) : guardK (.bool (decide P)) false x y = if P then y else x := by
  by_cases h : P <;> simp [h, guardK]
theorem guardK_vt {α : Type} (b : Bool) (x y : Option α) : guardK (.bool b) true x y = if b = true then x else y := by cases b <;> rfl
theorem guardK_vf {α : Type} (b : Bool) (x y : Option α) : guardK (.bool b) false x y = if b = true then y else x := by cases b <;> rfl

/-- A row of operations by numbers. -/
def pickL (l : List Oper) : List Nat → List Oper
  | [] => []
  | i :: r => match l[i]? with
    | some o => o :: pickL l r
    | none => pickL l r
theorem pickL_nil (l : List Oper) : pickL l [] = [] := rfl
theorem pickL_cons (l : List Oper) (i : Nat) (r : List Nat) : pickL l (i :: r) = match l[i]? with
    | some o => o :: pickL l r
    | none => pickL l r := rfl

section
variable {C : Cfg} (e : Env)
theorem evalA_lst : evalA C e (.const (.slice none 0 0)) = some (.lst [] 0 .nil) := rfl
theorem evalA_nilFunc : evalA C e (.const .nilFunc) = some .nilFunc := rfl
theorem evalA_nilMap : evalA C e (.const (.map none)) = some .nilMap := rfl
theorem evalA_nilPtr : evalA C e (.const (.pointer none)) = some .nilPtr := rfl
theorem evalA_str (l : List UInt8) : evalA C e (.const (.string ⟨l.toArray⟩)) = some (.str l) := rfl
end

theorem exec_seq_nrm {C : Cfg} {f : Nat} {a b : Code} {e e1 : Env} {h h1 : Heap} (H : exec C f a e h = some (.nrm, e1, h1)) : exec C f (.seq a b) e h = exec C f b e1 h1 := by
  rw [exec_seq, H]; rfl
theorem freeze_clo (h : Heap) (n d f : Nat) (cs : List AV) : freezeV h n (d + 1) (.clo f cs) = (mapO (freezeV h n d) cs).map (.clo f) := rfl
theorem freeze_ref (h : Heap) (n d : Nat) (cs : List AV) : freezeV h n (d + 1) (.ref cs) = (mapO (freezeV h n d) cs).map .ref := rfl
theorem freeze_aggv (h : Heap) (n d : Nat) (cs : List AV) : freezeV h n (d + 1) (.agg cs) = (mapO (freezeV h n d) cs).map .agg := rfl
theorem freeze_tup (h : Heap) (n d : Nat) (cs : List AV) : freezeV h n (d + 1) (.tup cs) = (mapO (freezeV h n d) cs).map .tup := rfl
theorem freeze_lstv (h : Heap) (n d : Nat) (cs : List AV) (z : Nat) (r : Room) : freezeV h n (d + 1) (.lst cs z r) = (mapO (freezeV h n d) cs).map (.lst · z r) := rfl
theorem mapO_nil {α β : Type} (f : α → Option β) : mapO f [] = some [] := rfl
theorem mapO_cons {α β : Type} (f : α → Option β) (a : α) (r : List α) : mapO f (a :: r) = (f a).bind fun b => (mapO f r).bind fun bs => some (b :: bs) := rfl

/-! ### Counting -/
theorem wrap_id {a : Int} (h1 : -9223372036854775808 ≤ a) (h2 : a < 9223372036854775808) : IntKind.i64.wrap a = a := by rw [IntKind.wrap_i64]; omega
theorem wrap_succ {i : Nat} (h : i < 1000000000000) : IntKind.i64.wrap ((i : Int) + 1) = ((i + 1 : Nat) : Int) := by rw [wrap_id (by omega) (by omega)]; rfl
/-- At a place of a list of which it is known how it goes on. -/
theorem at_drop {α : Type} {xs r : List α} {y : α} {i : Nat} (hd : xs.drop i = y :: r) : (i < xs.length) = True ∧ xs[i]? = some y ∧ xs.drop (i + 1) = r := by
  have hl := congrArg List.length hd
  have h0 := congrArg (·[0]?) hd
  simp only [List.length_drop, List.length_cons] at hl
  refine ⟨by simp; omega, by simpa using h0, by rw [← List.drop_drop, hd]; rfl⟩
theorem at_end {α : Type} {xs : List α} {i : Nat} (hd : xs.drop i = []) : (i < xs.length) = False := by
  have := List.drop_eq_nil_iff.1 hd
  simp; omega

/-! ### Slices that a call builds -/
def objOf : AV → Option Nat
  | .msl o _ _ _ _ _ => some o
  | _ => none
noncomputable def flatC (xs : List AV) : List AV := (xs.map AV.cells).flatten
/-- A slice of the call's own: its elements. -/
def Built (h : Heap) (v : AV) (xs : List AV) (sz : Nat) : Prop :=
  (v = .lst [] 0 .nil ∧ xs = []) ∨ ∃ o g cap, v = .msl o 0 xs.length sz g cap ∧ h.obj o g = some (flatC xs) ∧ (cap = none ∨ cap = some xs.length)
theorem flatC_len {xs : List AV} {sz : Nat} (H : ∀ x ∈ xs, x.cells.length = sz) : (flatC xs).length = xs.length * sz := by
  induction xs with
  | nil => simp [flatC]
  | cons x r ih =>
    have := ih (fun y hy => H y (List.mem_cons_of_mem _ hy))
    simp only [flatC, List.map_cons, List.flatten_cons, List.length_append, List.length_cons] at this ⊢
    rw [this, H x (List.mem_cons_self ..), Nat.add_mul]; omega
theorem flatC_append (xs ys : List AV) : flatC (xs ++ ys) = flatC xs ++ flatC ys := by simp [flatC]
theorem obj_some {h : Heap} {o g : Nat} {cs : List AV} (H : h.obj o g = some cs) : o < h.length := by
  unfold Heap.obj at H
  split at H
  · rename_i hx
    exact (List.getElem?_eq_some_iff.1 hx).1
  · cases H
theorem append_built {h : Heap} {v : AV} {xs ys : List AV} {sz : Nat} (B : Built h v xs sz) (hx : ∀ x ∈ xs, x.cells.length = sz) (hy : ∀ y ∈ ys, y.cells.length = sz ∧ y.cells.all AV.leaf = true) (hsz : 0 < sz) (hlen : xs.length + ys.length ≤ mostLen) :
    ∃ v' h', appendA h sz v ys = some (v', h') ∧ Built h' v' (xs ++ ys) sz ∧ h.length ≤ h'.length ∧ (∀ o, o < h.length → objOf v ≠ some o → h'[o]? = h[o]?) ∧ (objOf v' = objOf v ∨ objOf v' = some h.length) := by
  have hfl := flatC_len (fun y hm => (hy y hm).1)
  have hall : (flatC ys).all AV.leaf = true := by
    rw [List.all_eq_true]
    intro c hc
    simp only [flatC, List.mem_flatten, List.mem_map] at hc
    obtain ⟨l, ⟨y, hm, rfl⟩, hc⟩ := hc
    exact List.all_eq_true.1 (hy y hm).2 c hc
  have h0 : (sz == 0) = false := by simp; omega
  have hfl' : ((flatC ys).length != ys.length * sz) = false := by simp [hfl]
  cases ys with
  | nil =>
    refine ⟨v, h, ?_, by simpa using B, Nat.le_refl _, fun _ _ _ => rfl, .inl rfl⟩
    rcases B with ⟨rfl, rfl⟩ | ⟨o, g, cap, rfl, hob, _⟩
    · simp [appendA, h0]
    · simp [appendA, h0, hob]
  | cons y r =>
    have hne : (y :: r).isEmpty = false := rfl
    rcases B with ⟨rfl, rfl⟩ | ⟨o, g, cap, rfl, hob, hcap⟩
    · refine ⟨.msl h.length 0 (y :: r).length sz 0 none, h ++ [.cells (flatC (y :: r)) 0], ?_, .inr ⟨h.length, 0, none, by simp, by rw [obj_app0, obj_zero]; rfl, .inl rfl⟩, by simp, fun o ho _ => List.getElem?_append_left ho, .inr rfl⟩
      unfold appendA
      simp only
      rw [show ((y :: r).map AV.cells).flatten = flatC (y :: r) from rfl, hfl', hall, h0, hne]
      have : (Room.nil.full ([] : List AV).length && ((0 : Nat) == sz || ([] : List AV).isEmpty) && decide (([] : List AV).length + (y :: r).length ≤ mostLen)) = true := by
        simp only [Room.full, List.isEmpty_nil, Bool.or_true, Bool.true_and, decide_eq_true_eq]; exact hlen
      rw [this]
      simp [flatC]
    · have hxl := flatC_len hx
      unfold appendA
      simp only
      rw [show ((y :: r).map AV.cells).flatten = flatC (y :: r) from rfl, hfl', hall, h0, hne]
      have e1 : (decide (0 + xs.length * sz + (flatC (y :: r)).length ≤ (flatC xs).length) && capOk cap (xs.length + (y :: r).length)) = false := by
        have : 0 < (flatC (y :: r)).length := by rw [hfl]; exact Nat.mul_pos (by simp) hsz
        rw [Bool.and_eq_false_iff]; left
        simp only [decide_eq_false_iff_not]
        rw [hxl]; omega
      have e2 : (0 + xs.length * sz == (flatC xs).length && (0 : Nat) == 0 && decide (xs.length + (y :: r).length ≤ mostLen)) = true := by
        simp only [Nat.zero_add, hxl, beq_self_eq_true, Bool.true_and, decide_eq_true_eq]
        exact hlen
      simp only [hob, Option.bind_eq_bind, Option.bind_some, bne_self_eq_false, Bool.false_eq_true, if_false, Bool.or_false, Bool.not_true, e1, e2, if_true]
      have ho := obj_some hob
      rcases hcap with rfl | rfl
      · refine ⟨_, _, rfl, .inr ⟨o, g + 1, none, by simp, ?_, .inl rfl⟩, by simp, fun o' _ hn => ?_, .inl rfl⟩
        · rw [flatC_append]
          simp [Heap.obj, List.getElem?_set_self ho]
        · rw [List.getElem?_set_ne (by intro hc; exact hn (by simp [objOf, hc]))]
      · refine ⟨.msl h.length 0 (xs.length + (y :: r).length) sz 0 none, h ++ [.cells (flatC xs ++ flatC (y :: r)) 0], by simp [growA], .inr ⟨h.length, 0, none, by simp, by rw [obj_app0, obj_zero, flatC_append], .inl rfl⟩, by simp, fun o' ho' _ => List.getElem?_append_left ho', .inr rfl⟩

theorem known_built {h : Heap} {v : AV} {xs : List AV} {sz : Nat} (B : Built h v xs sz) : known v = some v := by
  rcases B with ⟨rfl, _⟩ | ⟨o, g, cap, rfl, _⟩ <;> rfl
/-- Elements of one cell each. -/
def Plain1 (xs : List AV) : Prop := ∀ x ∈ xs, x.cells = [x] ∧ one x = x ∧ x.leaf = true ∧ x.dead = true
theorem flatC_plain {xs : List AV} (H : Plain1 xs) : flatC xs = xs := by
  induction xs with
  | nil => rfl
  | cons x r ih =>
    have := ih (fun y hy => H y (List.mem_cons_of_mem _ hy))
    simp only [flatC, List.map_cons, List.flatten_cons] at this ⊢
    rw [this, (H x (List.mem_cons_self ..)).1]; rfl
theorem group_plain {xs : List AV} (H : Plain1 xs) : group xs.length xs 1 = xs := by
  induction xs with
  | nil => rfl
  | cons x r ih =>
    have := ih (fun y hy => H y (List.mem_cons_of_mem _ hy))
    simp only [List.length_cons, group, beq_self_eq_true, if_true, List.headD_cons, List.drop_succ_cons, List.drop_zero, this, (H x (List.mem_cons_self ..)).2.1]
theorem plain_dead {xs : List AV} (H : Plain1 xs) : xs.all AV.dead = true := List.all_eq_true.2 fun x hx => (H x hx).2.2.2
theorem plain_ints (xs : List Int) : Plain1 (xs.map (AV.int .i64)) := fun x hx => by
  obtain ⟨n, _, rfl⟩ := List.mem_map.1 hx
  exact ⟨rfl, rfl, rfl, rfl⟩
theorem plain_strs (xs : List (List UInt8)) : Plain1 (xs.map AV.str) := fun x hx => by
  obtain ⟨n, _, rfl⟩ := List.mem_map.1 hx
  exact ⟨rfl, rfl, rfl, rfl⟩
theorem plain_bools (xs : List Bool) : Plain1 (xs.map AV.bool) := fun x hx => by
  obtain ⟨n, _, rfl⟩ := List.mem_map.1 hx
  exact ⟨rfl, rfl, rfl, rfl⟩
theorem Plain1.append {xs ys : List AV} (H : Plain1 xs) (K : Plain1 ys) : Plain1 (xs ++ ys) := fun x hx => (List.mem_append.1 hx).elim (H x) (K x)
theorem Plain1.size {xs : List AV} (H : Plain1 xs) : ∀ x ∈ xs, x.cells.length = 1 := fun x hx => by rw [(H x hx).1]; rfl
theorem Plain1.leafs {xs : List AV} (H : Plain1 xs) : ∀ x ∈ xs, x.cells.length = 1 ∧ x.cells.all AV.leaf = true := fun x hx => by rw [(H x hx).1]; simp [(H x hx).2.2.1]
theorem freeze_built {h : Heap} {v : AV} {xs : List AV} {n d : Nat} (B : Built h v xs 1) (H : Plain1 xs) (ho : ∀ o, objOf v = some o → n ≤ o) :
    (v = .lst [] 0 .nil ∧ xs = [] ∧ freezeV h n (d + 2) v = some (.lst [] 0 .nil)) ∨ freezeV h n (d + 2) v = some (.lst xs 1 .open) := by
  rcases B with ⟨rfl, rfl⟩ | ⟨o, g, cap, rfl, hob, _⟩
  · exact .inl ⟨rfl, rfl, rfl⟩
  · right
    have hn := ho o rfl
    unfold freezeV
    simp only
    rw [if_neg (by omega), hob]
    simp only [Option.bind_eq_bind, Option.bind_some, Nat.zero_add, Nat.mul_one, flatC_plain H, List.drop_zero, Nat.le_refl, if_true, List.take_length, freeze_deads h n d (plain_dead H), group_plain H]
theorem elems_built {h : Heap} {v : AV} {xs : List AV} (B : Built h v xs 1) (H : Plain1 xs) : elems h v = some xs := by
  rcases B with ⟨rfl, rfl⟩ | ⟨o, g, cap, rfl, hob, _⟩
  · rfl
  · simp only [elems, hob, Option.bind_eq_bind, Option.bind_some, Nat.zero_add, Nat.mul_one, flatC_plain H, Nat.le_refl, if_true, List.drop_zero, group_plain H]

/-! ### Ranges over functions -/
theorem callv_yld_of {C : Cfg} {o : Nat} {vs : List AV} {h h1 h2 : Heap} {r r1 r2 : ALoop} {e1 e2 : Env} {out : Out} {j : Option Code} (hr : h.loopAt o = some r) (hs : r.st = .ready) (hp : r.ps.length = vs.length)
    (ha : exec C r.f r.assign (r.env.puts r.ps vs) h = some (.nrm, e1, h1)) (hr1 : h1.loopAt o = some r1) (hs1 : r1.st = .ready) (hb : exec C r.f r.body e1 (h1.set o (.loop { r1 with st := .busy })) = some (out, e2, h2)) (hr2 : h2.loopAt o = some r2) (hj : jumpOf out = some j) :
    callv C (.yld o) vs h = some (.ret (.bool j.isNone), h2.set o (.loop { r2 with st := if j.isNone then .ready else .done, pend := j })) := by
  obtain ⟨k1, ha⟩ := (exec_iff C).1 ha
  obtain ⟨k2, hb⟩ := (exec_iff C).1 hb
  refine (callv_succ C).2 ⟨max k1 k2, ?_⟩
  have ha' := execF_le C (Nat.le_max_left k1 k2) _ _ _ _ _ ha
  have hb' := execF_le C (Nat.le_max_right k1 k2) _ _ _ _ _ hb
  simp only [callV, hr, Option.bind_eq_bind, Option.bind_some, hs, hp, ha', hr1, hs1, hb', hr2, hj]
  simp
theorem exec_range_of {C : Cfg} {f : Nat} {g : Operand} {ps : Array Tmp} {assign body : Code} {e : Env} {h h1 : Heap} {gn : Nat} {caps : List AV} {v : AV} {r : ALoop} (hg : evalA C e g = some (.clo gn caps))
    (hc : call C gn (.yld h.length :: caps) (h ++ [.loop { st := .ready, pend := none, f, env := e, ps := ps.toList, assign, body }]) = some (.ret v, h1)) (hr : h1.loopAt h.length = some r) (hb : (r.st == .busy) = false) {out : Out}
    (ho : out = .nrm ∧ r.pend = none ∨ out = .ret ∧ r.pend = some .ret) :
    exec C f (.rangeFunc g ps assign body) e h = some (out, e, h1.set h.length (.cells [] 1)) := by
  obtain ⟨k, hc⟩ := (call_iff C).1 hc
  refine (exec_succ C).2 ⟨k, ?_⟩
  simp only [execF, hg, Option.bind_eq_bind, Option.bind_some, hc, hr, hb, Bool.false_eq_true, if_false]
  rcases ho with ⟨rfl, hp⟩ | ⟨rfl, hp⟩ <;> rw [hp]

/-- What ends: the run, how it stands behind it. -/
def Ends (C : Cfg) (f : Nat) (c : Code) (e : Env) (h : Heap) (Q : Out → Env → Heap → Prop) : Prop := ∃ o e' h', exec C f c e h = some (o, e', h') ∧ Q o e' h'

theorem Ends.mono {C : Cfg} {f : Nat} {c : Code} {e : Env} {h : Heap} {Q R : Out → Env → Heap → Prop} (H : Ends C f c e h Q) (k : ∀ o e' h', Q o e' h' → R o e' h') : Ends C f c e h R :=
  let ⟨o, e', h', a, b⟩ := H; ⟨o, e', h', a, k _ _ _ b⟩

/-- It comes to something of which that holds. -/
def Got {α : Type} (x : Option α) (Q : α → Prop) : Prop := ∃ a, x = some a ∧ Q a
theorem got_some {α : Type} (a : α) (Q : α → Prop) : Got (some a) Q = Q a := by
  simp [Got]
theorem got_none {α : Type} (Q : α → Prop) : Got none Q = False := by
  simp [Got]
theorem got_bind {α β : Type} (x : Option α) (f : α → Option β) (Q : β → Prop) : Got (x.bind f) Q = Got x (fun a => Got (f a) Q) := by
  cases x <;> simp [Got]
theorem Got.mono {α : Type} {x : Option α} {Q R : α → Prop} (H : Got x Q) (k : ∀ a, Q a → R a) : Got x R := let ⟨a, b, c⟩ := H; ⟨a, b, k a c⟩
theorem got_left {α : Type} {x y : Option α} (h : x = y) (Q : α → Prop) : Got x Q = Got y Q := by rw [h]
theorem got_loop {C : Cfg} [NoRounds C] {f : Nat} {b : Code} {e : Env} {h : Heap} {Q : Out × Env × Heap → Prop} : Got (exec C f (.loop b) e h) Q = Got (exec C f b e h) (fun x => match x.1 with | .nrm => Got (exec C f (.loop b) x.2.1 x.2.2) Q | _ => Q x) := by
  rw [exec_loop, got_bind]
  congr 1
  funext x
  obtain ⟨o, e, h⟩ := x
  cases o <;> simp [got_some]

/-- A loop: as long as rounds go on normally, the measure goes down. -/
theorem loop_ends {C : Cfg} [NoRounds C] {f : Nat} {b : Code} {Q : Out → Env → Heap → Prop} (I : Nat → Env → Heap → Prop)
    (H : ∀ n e h, I n e h → Ends C f b e h fun o e' h' => match o with
      | .nrm => ∃ m, m < n ∧ I m e' h'
      | o => Q o e' h') : ∀ n e h, I n e h → Ends C f (.loop b) e h Q := by
  intro n
  induction n using Nat.strongRecOn with
  | ind n ih =>
    intro e h hI
    obtain ⟨o, e', h', hx, hq⟩ := H n e h hI
    have hl := exec_loop (C := C) (f := f) (e := e) (h := h) b
    rw [hx] at hl
    simp only [Option.bind_some] at hl
    cases o with
    | nrm =>
      obtain ⟨m, hm, hI'⟩ := hq
      obtain ⟨o2, e2, h2, hx2, hq2⟩ := ih m hm e' h' hI'
      exact ⟨o2, e2, h2, hl.trans hx2, hq2⟩
    | exit id => exact ⟨_, _, _, hl, hq⟩
    | ret => exact ⟨_, _, _, hl, hq⟩
    | pan v => exact ⟨_, _, _, hl, hq⟩
end Go.Rv
