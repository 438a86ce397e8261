/-
  The interpreter of RvCore without a count of rounds: what it answers with some count; its equations.
-/
import Derived.Test.YtiigpcapieeljaaGreatDoorRvCore
set_option linter.unusedSimpArgs false
set_option linter.unusedVariables false
namespace Go.Rv

theorem Nat.eq_of_beqb {a b : Nat} (h : Nat.beq a b = true) : a = b := Nat.eq_of_beq_eq_true h

mutual
theorem AV.eqb_eq : ∀ (a b : AV), AV.eqb a b = true → a = b := fun a b h => by
  cases a <;> cases b <;> simp only [AV.eqb, Bool.and_eq_true, Bool.false_eq_true, decide_eq_true_eq] at h <;> first | rfl | skip
  · simp at h; rw [h]
  · rw [h.1, h.2]
  · simp at h; rw [h]
  · rw [Nat.eq_of_beqb h.1.1, Nat.eq_of_beqb h.1.2, Nat.eq_of_beqb h.2]
  · rw [AV.eqbs_eq _ _ h]
  · rw [Nat.eq_of_beqb h.1.1, h.1.2, AV.eqbs_eq _ _ h.2]
  · rw [Nat.eq_of_beqb h.1.1.1.1.1, Nat.eq_of_beqb h.1.1.1.1.2, Nat.eq_of_beqb h.1.1.1.2, Nat.eq_of_beqb h.1.1.2, Nat.eq_of_beqb h.1.2, h.2]
  · rw [Nat.eq_of_beqb h.1, AV.eqbs_eq _ _ h.2]
  · rw [Nat.eq_of_beqb h.1, AV.eqbs_eq _ _ h.2]
  · rw [Nat.eq_of_beqb h]
  · rw [Nat.eq_of_beqb h]
  · rw [Nat.eq_of_beqb h.1, AV.eqb_eq _ _ h.2]
  · rw [AV.eqbs_eq _ _ h]
  · rw [AV.eqbs_eq _ _ h]
theorem AV.eqbs_eq : ∀ (a b : List AV), AV.eqbs a b = true → a = b := fun a b h => by
  cases a <;> cases b <;> simp only [AV.eqbs, Bool.and_eq_true, Bool.false_eq_true] at h <;> first | rfl | skip
  rw [AV.eqb_eq _ _ h.1, AV.eqbs_eq _ _ h.2]
end


/-- The first answers whatever the second does. -/
def LeO {α : Type} (a b : Option α) : Prop := ∀ r, a = some r → b = some r
theorem LeO.refl {α : Type} (a : Option α) : LeO a a := fun _ h => h
theorem LeO.none {α : Type} (b : Option α) : LeO Option.none b := fun _ h => by cases h
theorem LeO.trans {α : Type} {a b c : Option α} (h : LeO a b) (h' : LeO b c) : LeO a c := fun r e => h' r (h r e)
theorem LeO.bind {α β : Type} {a b : Option α} {f g : α → Option β} (h : LeO a b) (h' : ∀ x, LeO (f x) (g x)) : LeO (a.bind f) (b.bind g) := by
  intro r e
  obtain ⟨x, hx, hf⟩ := Option.bind_eq_some_iff.1 e
  exact Option.bind_eq_some_iff.2 ⟨x, h x hx, h' x r hf⟩

theorem mapO_le {α β : Type} {g g' : α → Option β} (hg : ∀ x, LeO (g x) (g' x)) : ∀ l, LeO (mapO g l) (mapO g' l)
  | [] => LeO.refl _
  | x :: r => by
    simp only [mapO]
    exact LeO.bind (hg x) fun y => LeO.bind (mapO_le hg r) fun _ => LeO.refl _

theorem mapRound_le {ex ex' : Env → Heap → Option (Out × Env × Heap)} (hx : ∀ e h, LeO (ex e h) (ex' e h)) (m : MapLoop) (l : List Nat) (o : Nat) (s : Env × Heap) (p : AV × AV) : LeO (mapRound ex m l o s p) (mapRound ex' m l o s p) := LeO.bind (hx _ _) fun _ => LeO.refl _

theorem mapRounds_le {ex ex' : Env → Heap → Option (Out × Env × Heap)} (hx : ∀ e h, LeO (ex e h) (ex' e h)) (m : MapLoop) (l : List Nat) (o : Nat) (es : List (AV × AV)) (s : Env × Heap) : LeO (mapRounds ex m l o es s) (mapRounds ex' m l o es s) :=
  LeO.bind (mapO_le (mapRound_le hx m l o s) es) fun _ => LeO.bind (mapO_le (mapRound_le hx m l o _) es) fun _ => LeO.refl _

variable (C : Cfg)

theorem mapLoop_le {ex ex' : Env → Heap → Option (Out × Env × Heap)} (m : MapLoop) (f : Nat) (hx : ∀ e h, LeO (ex e h) (ex' e h)) (e : Env) (h : Heap) : LeO (mapLoopA C m f ex e h) (mapLoopA C m f ex' e h) := by
  refine LeO.bind (LeO.refl _) fun v => ?_
  split <;> first | exact LeO.refl _ | skip
  refine LeO.bind (LeO.refl _) fun p => ?_
  split <;> first | exact LeO.refl _ | skip
  refine LeO.bind (LeO.refl _) fun l => LeO.bind (mapRounds_le hx _ _ _ _ _) fun s => ?_
  split <;> first | exact LeO.refl _ | skip
  exact LeO.bind (hx _ _) fun _ => LeO.refl _

structure MonoAt (k : Nat) : Prop where
  val : ∀ g vs h, LeO (callV C k g vs h) (callV C (k + 1) g vs h)
  call : ∀ f args h, LeO (callF C k f args h) (callF C (k + 1) f args h)
  exec : ∀ f c e h, LeO (execF C k f c e h) (execF C (k + 1) f c e h)
  ops : ∀ f ops l e h, LeO (opsF C k f ops l e h) (opsF C (k + 1) f ops l e h)

theorem mono_at : ∀ k, MonoAt C k
  | 0 => ⟨fun _ _ _ r h => by simp [callV] at h, fun _ _ _ r h => by simp [callF] at h, fun _ _ _ _ r h => by simp [execF] at h, fun _ _ _ _ _ r h => by simp [opsF] at h⟩
  | k + 1 => by
    have ih := mono_at k
    refine ⟨?_, ?_, ?_, ?_⟩
    · intro g vs h
      cases g <;> simp only [callV, Option.bind_eq_bind] <;> first | exact LeO.refl _ | exact ih.call _ _ _ | skip
      refine LeO.bind (LeO.refl _) fun r => ?_
      split
      · exact LeO.refl _
      · refine LeO.bind (ih.exec _ _ _ _) fun x => ?_
        obtain ⟨out, e1, h1⟩ := x
        cases out <;> first | exact LeO.refl _ | skip
        refine LeO.bind (LeO.refl _) fun r1 => ?_
        dsimp only
        split
        · exact LeO.refl _
        · exact LeO.bind (ih.exec _ _ _ _) fun x => LeO.refl _
    · intro f args h
      rw [callF, callF]
      split
      · exact LeO.refl _
      · refine LeO.bind (LeO.refl _) fun fi => ?_
        split
        · exact LeO.refl _
        · split
          · exact LeO.bind (LeO.refl _) fun avs => LeO.bind (ih.exec _ _ _ _) fun x => LeO.refl _
          · exact LeO.bind (ih.exec _ _ _ _) fun x => LeO.refl _
    · intro f c e h
      cases c with
      | seq a b =>
        simp only [execF]
        refine LeO.bind (ih.exec _ _ _ _) fun x => ?_
        obtain ⟨out, e1, h1⟩ := x
        cases out <;> first | exact ih.exec _ _ _ _ | exact LeO.refl _
      | cond c a b =>
        simp only [execF]
        refine LeO.bind (LeO.refl _) fun x => ?_
        split <;> first | exact ih.exec _ _ _ _ | exact LeO.refl _
      | block id b =>
        simp only [execF]
        exact LeO.bind (ih.exec _ _ _ _) fun x => LeO.refl _
      | loop b =>
        have e1 : ∀ k, execF C (k + 1) f (.loop b) e h = (match C.roundsOf f b with | some m => mapLoopA C m f (execF C k f m.rest) e h | none => (execF C k f b e h).bind fun x => match x.1 with | .nrm => execF C k f (.loop b) x.2.1 x.2.2 | out => some (out, x.2.1, x.2.2)) := fun k => by
          rw [execF]; rfl
        rw [e1, e1]
        split
        · exact mapLoop_le C _ _ (ih.exec _ _) _ _
        · refine LeO.bind (ih.exec _ _ _ _) fun x => ?_
          obtain ⟨out, e1, h1⟩ := x
          cases out <;> first | exact ih.exec _ _ _ _ | exact LeO.refl _
      | scope b =>
        simp only [execF]
        exact ih.exec _ _ _ _
      | region id ops draw =>
        simp only [execF]
        exact LeO.bind (ih.ops _ _ _ _ _) fun x => LeO.refl _
      | rangeFunc g ps assign body =>
        simp only [execF]
        refine LeO.bind (LeO.refl _) fun gv => ?_
        split
        · exact LeO.bind (ih.call _ _ _) fun x => LeO.refl _
        · exact LeO.refl _
      | _ => simp only [execF]; exact LeO.refl _
    · intro f ops l e h
      cases l with
      | nil => simp only [opsF]; exact LeO.refl _
      | cons o r =>
        simp only [opsF]
        refine LeO.bind (LeO.refl _) fun w => ?_
        split
        · split
          · refine LeO.bind (LeO.refl _) fun vs => LeO.bind (LeO.refl _) fun g => ?_
            split
            · exact LeO.refl _
            · refine LeO.bind (ih.val _ _ _) fun x => ?_
              obtain ⟨res, h1⟩ := x
              cases res <;> first | exact LeO.refl _ | skip
              dsimp only
              split <;> first | exact ih.ops _ _ _ _ _ | exact LeO.refl _
          · split
            · exact LeO.refl _
            · refine LeO.bind (LeO.refl _) fun x => ?_
              split <;> first | exact ih.ops _ _ _ _ _ | exact LeO.refl _
        · exact ih.ops _ _ _ _ _

theorem mono_le {α : Type} {g : Nat → Option α} (hg : ∀ k, LeO (g k) (g (k + 1))) {j k : Nat} (h : j ≤ k) : LeO (g j) (g k) := by
  induction k with
  | zero => obtain rfl : j = 0 := by omega
            exact LeO.refl _
  | succ k ih =>
    by_cases e : j = k + 1
    · subst e; exact LeO.refl _
    · exact (ih (by omega)).trans (hg k)

open Classical in
noncomputable def lim {α : Type} (g : Nat → Option α) : Option α := if h : ∃ r, ∃ k, g k = some r then some (Classical.choose h) else none

theorem lim_iff {α : Type} {g : Nat → Option α} (hg : ∀ k, LeO (g k) (g (k + 1))) (r : α) : lim g = some r ↔ ∃ k, g k = some r := by
  unfold lim
  split
  · rename_i hx
    obtain ⟨k, hk⟩ := Classical.choose_spec hx
    constructor
    · intro e; injection e with e; exact ⟨k, by rw [hk, e]⟩
    · rintro ⟨j, hj⟩
      have h1 := mono_le hg (Nat.le_max_left j k) _ hj
      have h2 := mono_le hg (Nat.le_max_right j k) _ hk
      rw [h1] at h2
      injection h2 with h2
      rw [← h2]
  · rename_i hx
    constructor
    · intro e; cases e
    · rintro ⟨k, hk⟩; exact absurd ⟨r, k, hk⟩ hx

noncomputable def call (f : Nat) (args : List AV) (h : Heap) : Option (CRes × Heap) := lim fun k => callF C k f args h
noncomputable def callv (g : AV) (vs : List AV) (h : Heap) : Option (CRes × Heap) := lim fun k => callV C k g vs h
noncomputable def exec (f : Nat) (c : Code) (e : Env) (h : Heap) : Option (Out × Env × Heap) := lim fun k => execF C k f c e h
noncomputable def ops (f : Nat) (os : Array Oper) (l : List Oper) (e : Env) (h : Heap) : Option (Out × Env × Heap) := lim fun k => opsF C k f os l e h

theorem call_iff {f : Nat} {args : List AV} {h : Heap} {r : CRes × Heap} : call C f args h = some r ↔ ∃ k, callF C k f args h = some r := lim_iff (fun k => (mono_at C k).call f args h) r
theorem callv_iff {g : AV} {vs : List AV} {h : Heap} {r : CRes × Heap} : callv C g vs h = some r ↔ ∃ k, callV C k g vs h = some r := lim_iff (fun k => (mono_at C k).val g vs h) r
theorem exec_iff {f : Nat} {c : Code} {e : Env} {h : Heap} {r : Out × Env × Heap} : exec C f c e h = some r ↔ ∃ k, execF C k f c e h = some r := lim_iff (fun k => (mono_at C k).exec f c e h) r
theorem ops_iff {f : Nat} {os : Array Oper} {l : List Oper} {e : Env} {h : Heap} {r : Out × Env × Heap} : ops C f os l e h = some r ↔ ∃ k, opsF C k f os l e h = some r := lim_iff (fun k => (mono_at C k).ops f os l e h) r

theorem callF_le {j k : Nat} (hjk : j ≤ k) (f : Nat) (args : List AV) (h : Heap) : LeO (callF C j f args h) (callF C k f args h) := mono_le (g := fun k => callF C k f args h) (fun k => (mono_at C k).call f args h) hjk
theorem callV_le {j k : Nat} (hjk : j ≤ k) (g : AV) (vs : List AV) (h : Heap) : LeO (callV C j g vs h) (callV C k g vs h) := mono_le (g := fun k => callV C k g vs h) (fun k => (mono_at C k).val g vs h) hjk
theorem execF_le {j k : Nat} (hjk : j ≤ k) (f : Nat) (c : Code) (e : Env) (h : Heap) : LeO (execF C j f c e h) (execF C k f c e h) := mono_le (g := fun k => execF C k f c e h) (fun k => (mono_at C k).exec f c e h) hjk
theorem opsF_le {j k : Nat} (hjk : j ≤ k) (f : Nat) (os : Array Oper) (l : List Oper) (e : Env) (h : Heap) : LeO (opsF C j f os l e h) (opsF C k f os l e h) := mono_le (g := fun k => opsF C k f os l e h) (fun k => (mono_at C k).ops f os l e h) hjk

theorem ext_some {α : Type} {a b : Option α} (h : ∀ r, a = some r ↔ b = some r) : a = b := by
  cases a with
  | none => cases b with
    | none => rfl
    | some x => exact absurd ((h x).2 rfl) (by simp)
  | some x => exact ((h x).1 rfl).symm

theorem exec_succ {f : Nat} {c : Code} {e : Env} {h : Heap} {r : Out × Env × Heap} : exec C f c e h = some r ↔ ∃ k, execF C (k + 1) f c e h = some r := by
  rw [exec_iff]
  constructor
  · rintro ⟨k, hk⟩; exact ⟨k, (mono_at C k).exec _ _ _ _ _ hk⟩
  · rintro ⟨k, hk⟩; exact ⟨k + 1, hk⟩
theorem ops_succ {f : Nat} {os : Array Oper} {l : List Oper} {e : Env} {h : Heap} {r : Out × Env × Heap} : ops C f os l e h = some r ↔ ∃ k, opsF C (k + 1) f os l e h = some r := by
  rw [ops_iff]
  constructor
  · rintro ⟨k, hk⟩; exact ⟨k, (mono_at C k).ops _ _ _ _ _ _ hk⟩
  · rintro ⟨k, hk⟩; exact ⟨k + 1, hk⟩
theorem call_succ {f : Nat} {args : List AV} {h : Heap} {r : CRes × Heap} : call C f args h = some r ↔ ∃ k, callF C (k + 1) f args h = some r := by
  rw [call_iff]
  constructor
  · rintro ⟨k, hk⟩; exact ⟨k, (mono_at C k).call _ _ _ _ hk⟩
  · rintro ⟨k, hk⟩; exact ⟨k + 1, hk⟩

theorem callv_succ {g : AV} {vs : List AV} {h : Heap} {r : CRes × Heap} : callv C g vs h = some r ↔ ∃ k, callV C (k + 1) g vs h = some r := by
  rw [callv_iff]
  constructor
  · rintro ⟨k, hk⟩; exact ⟨k, (mono_at C k).val _ _ _ _ hk⟩
  · rintro ⟨k, hk⟩; exact ⟨k + 1, hk⟩

/-! ### The equations -/
section
variable {C} (f : Nat) (e : Env) (h : Heap)

theorem exec_skip : exec C f .skip e h = some (.nrm, e, h) := (exec_succ C).2 ⟨0, rfl⟩
theorem exec_label (l : Nat) : exec C f (.label l) e h = some (.nrm, e, h) := (exec_succ C).2 ⟨0, rfl⟩
theorem exec_exit (id : Nat) : exec C f (.exit id) e h = some (.exit id, e, h) := (exec_succ C).2 ⟨0, rfl⟩
theorem exec_ret : exec C f .ret e h = some (.ret, e, h) := (exec_succ C).2 ⟨0, rfl⟩

theorem exec_seq (a b : Code) : exec C f (.seq a b) e h = (exec C f a e h).bind fun x => match x.1 with | .nrm => exec C f b x.2.1 x.2.2 | _ => some x := by
  apply ext_some
  intro r
  rw [exec_succ]
  constructor
  · rintro ⟨k, hk⟩
    simp only [execF] at hk
    obtain ⟨⟨out, e1, h1⟩, hx, hr⟩ := Option.bind_eq_some_iff.1 hk
    refine Option.bind_eq_some_iff.2 ⟨_, (exec_iff C).2 ⟨k, hx⟩, ?_⟩
    cases out <;> first | exact (exec_iff C).2 ⟨k, hr⟩ | exact hr
  · intro hk
    obtain ⟨⟨out, e1, h1⟩, hx, hr⟩ := Option.bind_eq_some_iff.1 hk
    obtain ⟨k1, hk1⟩ := (exec_iff C).1 hx
    cases out with
    | nrm =>
      obtain ⟨k2, hk2⟩ := (exec_iff C).1 hr
      refine ⟨max k1 k2, ?_⟩
      simp only [execF]
      exact Option.bind_eq_some_iff.2 ⟨_, execF_le C (Nat.le_max_left _ _) _ _ _ _ _ hk1, execF_le C (Nat.le_max_right _ _) _ _ _ _ _ hk2⟩
    | _ => exact ⟨k1, by simp only [execF]; exact Option.bind_eq_some_iff.2 ⟨_, hk1, hr⟩⟩

theorem exec_cond (c : Operand) (a b : Code) : exec C f (.cond c a b) e h = (evalA C e c).bind fun v => match v with | .bool true => exec C f a e h | .bool false => exec C f b e h | _ => none := by
  apply ext_some
  intro r
  rw [exec_succ]
  simp only [execF]
  cases hv : evalA C e c with
  | none => simp
  | some v =>
    simp only [Option.bind_eq_bind, Option.bind_some]
    constructor
    · rintro ⟨k, hk⟩
      split at hk <;> first | exact (exec_iff C).2 ⟨k, hk⟩ | cases hk
    · intro hk
      split at hk <;> first | exact (exec_iff C).1 hk | cases hk

theorem exec_block (id : Nat) (b : Code) : exec C f (.block id b) e h = (exec C f b e h).bind fun x => match x.1 with | .exit id' => if id' == id then some (.nrm, x.2.1, x.2.2) else some x | _ => some x := by
  apply ext_some
  intro r
  rw [exec_succ]
  constructor
  · rintro ⟨k, hk⟩
    simp only [execF] at hk
    obtain ⟨⟨out, e1, h1⟩, hx, hr⟩ := Option.bind_eq_some_iff.1 hk
    exact Option.bind_eq_some_iff.2 ⟨_, (exec_iff C).2 ⟨k, hx⟩, by cases out <;> exact hr⟩
  · intro hk
    obtain ⟨⟨out, e1, h1⟩, hx, hr⟩ := Option.bind_eq_some_iff.1 hk
    obtain ⟨k, hk⟩ := (exec_iff C).1 hx
    exact ⟨k, by simp only [execF]; exact Option.bind_eq_some_iff.2 ⟨_, hk, by cases out <;> exact hr⟩⟩

/-- No range over a map. -/
class NoRounds (C : Cfg) : Prop where
  no : ∀ f, C.rounds f = false
theorem roundsOf_no [N : NoRounds C] (f : Nat) (b : Code) : C.roundsOf f b = none := by unfold Cfg.roundsOf; rw [N.no]

theorem exec_loop [NoRounds C] (b : Code) : exec C f (.loop b) e h = (exec C f b e h).bind fun x => match x.1 with | .nrm => exec C f (.loop b) x.2.1 x.2.2 | _ => some x := by
  apply ext_some
  intro r
  rw [exec_succ]
  constructor
  · rintro ⟨k, hk⟩
    simp only [execF, roundsOf_no] at hk
    obtain ⟨⟨out, e1, h1⟩, hx, hr⟩ := Option.bind_eq_some_iff.1 hk
    refine Option.bind_eq_some_iff.2 ⟨_, (exec_iff C).2 ⟨k, hx⟩, ?_⟩
    cases out <;> first | exact (exec_iff C).2 ⟨k, hr⟩ | exact hr
  · intro hk
    obtain ⟨⟨out, e1, h1⟩, hx, hr⟩ := Option.bind_eq_some_iff.1 hk
    obtain ⟨k1, hk1⟩ := (exec_iff C).1 hx
    cases out with
    | nrm =>
      obtain ⟨k2, hk2⟩ := (exec_iff C).1 hr
      refine ⟨max k1 k2, ?_⟩
      simp only [execF, roundsOf_no]
      exact Option.bind_eq_some_iff.2 ⟨_, execF_le C (Nat.le_max_left _ _) _ _ _ _ _ hk1, execF_le C (Nat.le_max_right _ _) _ _ _ _ _ hk2⟩
    | _ => exact ⟨k1, by simp only [execF, roundsOf_no]; exact Option.bind_eq_some_iff.2 ⟨_, hk1, hr⟩⟩

theorem exec_scope (b : Code) : exec C f (.scope b) e h = exec C f b e h := by
  apply ext_some
  intro r
  rw [exec_succ, exec_iff]
  simp only [execF]

theorem exec_region (id : Nat) (os : Array Oper) (d : Bool) : exec C f (.region id os d) e h = (ops C f os (sched os d) e h).bind fun x => match x.1 with | .nrm => some (.nrm, (match C.live f id with | some l => x.2.1.keep l | none => x.2.1), x.2.2) | .pan v => if d then (if panOk os then some (.pan v, x.2.1.outside os, x.2.2) else none) else some x | _ => if d then none else some x := by
  apply ext_some
  intro r
  rw [exec_succ]
  constructor
  · rintro ⟨k, hk⟩
    simp only [execF] at hk
    obtain ⟨⟨out, e1, h1⟩, hx, hr⟩ := Option.bind_eq_some_iff.1 hk
    exact Option.bind_eq_some_iff.2 ⟨_, (ops_iff C).2 ⟨k, hx⟩, by cases out <;> exact hr⟩
  · intro hk
    obtain ⟨⟨out, e1, h1⟩, hx, hr⟩ := Option.bind_eq_some_iff.1 hk
    obtain ⟨k, hk⟩ := (ops_iff C).1 hx
    exact ⟨k, by simp only [execF]; exact Option.bind_eq_some_iff.2 ⟨_, hk, by cases out <;> exact hr⟩⟩

theorem ops_nil (os : Array Oper) : ops C f os [] e h = some (.nrm, e, h) := (ops_succ C).2 ⟨0, rfl⟩

/-- An operation that calls a function. -/
def callee (o : Oper) : Option (Operand × Array Operand) :=
  match o.op with
  | .call { callee := .value g, args, .. } => some (g, args)
  | _ => none

theorem ops_skip (os : Array Oper) (o : Oper) (r : List Oper) (hw : wantA os e o = some false) : ops C f os (o :: r) e h = ops C f os r (e.putAt o.dst (.tup [])) h := by
  apply ext_some
  intro x
  rw [ops_succ, ops_iff]
  simp only [opsF, hw, Option.bind_eq_bind, Option.bind_some, Bool.false_eq_true, if_false]

theorem ops_op (os : Array Oper) (o : Oper) (r : List Oper) (hw : wantA os e o = some true) (hc : callee o = none) (hp : panO C e o = none) :
    ops C f os (o :: r) e h = (opA C f e h o).bind fun x => if looseAll C f os (dkey o) e x.2 then ops C f os r (e.putAt o.dst x.1) x.2 else none := by
  have key : ∀ k, opsF C (k + 1) f os (o :: r) e h = (opA C f e h o).bind fun x => if looseAll C f os (dkey o) e x.2 then opsF C k f os r (e.putAt o.dst x.1) x.2 else none := by
    intro k
    simp only [opsF, hw, Option.bind_eq_bind, Option.bind_some, if_true]
    split
    · rename_i g args _ ho
      simp [callee, ho] at hc
    · simp only [hp]
  apply ext_some
  intro x
  rw [ops_succ]
  constructor
  · rintro ⟨k, hk⟩
    rw [key] at hk
    obtain ⟨y, hy, hr⟩ := Option.bind_eq_some_iff.1 hk
    refine Option.bind_eq_some_iff.2 ⟨y, hy, ?_⟩
    split at hr <;> first | cases hr | skip
    rename_i hl
    rw [if_pos hl]
    exact (ops_iff C).2 ⟨k, hr⟩
  · intro hk
    obtain ⟨y, hy, hr⟩ := Option.bind_eq_some_iff.1 hk
    split at hr <;> first | cases hr | skip
    rename_i hl
    obtain ⟨k, hk⟩ := (ops_iff C).1 hr
    exact ⟨k, by rw [key]; exact Option.bind_eq_some_iff.2 ⟨y, hy, by rw [if_pos hl]; exact hk⟩⟩

theorem ops_pan (os : Array Oper) (o : Oper) (r : List Oper) (hw : wantA os e o = some true) (hc : callee o = none) {v : AV} (hp : panO C e o = some v) : ops C f os (o :: r) e h = some (.pan v, e, h) := by
  apply ext_some
  intro x
  rw [ops_succ]
  have key : ∀ k, opsF C (k + 1) f os (o :: r) e h = some (.pan v, e, h) := by
    intro k
    simp only [opsF, hw, Option.bind_eq_bind, Option.bind_some, if_true]
    split
    · rename_i g args _ ho
      simp [callee, ho] at hc
    · simp only [hp]
  constructor
  · rintro ⟨k, hk⟩; rw [key] at hk; exact hk
  · intro hk; exact ⟨0, by rw [key]; exact hk⟩

theorem callv_clo (g : Nat) (caps vs : List AV) : callv C (.clo g caps) vs h = call C g (vs ++ caps) h := by
  apply ext_some
  intro r
  rw [callv_succ, call_iff]
  simp only [callV]

theorem callv_bnd (g : Nat) (first vs : List AV) : callv C (.bnd g first) vs h = call C g (first ++ vs) h := by
  apply ext_some
  intro r
  rw [callv_succ, call_iff]
  simp only [callV]

theorem ops_callv (os : Array Oper) (o : Oper) (r : List Oper) (g : Operand) (args : Array Operand) (hw : wantA os e o = some true) (hc : callee o = some (g, args)) :
    ops C f os (o :: r) e h = (mapO (evalA C e) args.toList).bind fun vs => (evalA C e g).bind fun gv =>
      if (o.dst.map (C.quiet f)).getD false && !pureV C gv then none else (callv C gv vs h).bind fun x => match x.1 with
        | .ret v => if looseAll C f os (dkey o) e x.2 then ops C f os r (e.putAt o.dst v) x.2 else none
        | .pan v => some (.pan v, e, x.2) := by
  obtain ⟨ct, ho⟩ : ∃ ct, o.op = .call { callee := .value g, args, argTypes := ct } := by
    unfold callee at hc
    split at hc
    · rename_i g' args' ct ho
      simp only [Option.some.injEq, Prod.mk.injEq] at hc
      obtain ⟨rfl, rfl⟩ := hc
      exact ⟨ct, ho⟩
    · cases hc
  have key : ∀ k, opsF C (k + 1) f os (o :: r) e h = (mapO (evalA C e) args.toList).bind fun vs => (evalA C e g).bind fun gv =>
      if (o.dst.map (C.quiet f)).getD false && !pureV C gv then none else (callV C k gv vs h).bind fun x => match x.1 with
        | .ret v => if looseAll C f os (dkey o) e x.2 then opsF C k f os r (e.putAt o.dst v) x.2 else none
        | .pan v => some (.pan v, e, x.2) := by
    intro k
    simp only [opsF, hw, Option.bind_eq_bind, Option.bind_some, if_true, ho] <;> rfl
  apply ext_some
  intro x
  rw [ops_succ]
  simp only [key]
  cases hvs : mapO (evalA C e) args.toList with
  | none => simp
  | some vs =>
    cases hg : evalA C e g with
    | none => simp
    | some gv =>
      simp only [Option.bind_some]
      split
      · simp
      constructor
      · rintro ⟨k, hk⟩
        obtain ⟨⟨res, h1⟩, hy, hr⟩ := Option.bind_eq_some_iff.1 hk
        refine Option.bind_eq_some_iff.2 ⟨_, (callv_iff C).2 ⟨k, hy⟩, ?_⟩
        cases res with
        | pan v => exact hr
        | ret v =>
          dsimp only at hr ⊢
          split at hr <;> first | cases hr | skip
          rename_i hl
          rw [if_pos hl]
          exact (ops_iff C).2 ⟨k, hr⟩
      · intro hk
        obtain ⟨⟨res, h1⟩, hy, hr⟩ := Option.bind_eq_some_iff.1 hk
        obtain ⟨k1, hk1⟩ := (callv_iff C).1 hy
        cases res with
        | ret v =>
          dsimp only at hr
          split at hr <;> first | cases hr | skip
          rename_i hl
          obtain ⟨k2, hk2⟩ := (ops_iff C).1 hr
          exact ⟨max k1 k2, Option.bind_eq_some_iff.2 ⟨_, callV_le C (Nat.le_max_left _ _) _ _ _ _ hk1, by dsimp only; rw [if_pos hl]; exact opsF_le C (Nat.le_max_right _ _) _ _ _ _ _ _ hk2⟩⟩
        | pan v => exact ⟨k1, Option.bind_eq_some_iff.2 ⟨_, hk1, hr⟩⟩

theorem ops_cons (os : Array Oper) (o : Oper) (r : List Oper) : ops C f os (o :: r) e h = (wantA os e o).bind fun w => match w with
    | false => ops C f os r (e.putAt o.dst (.tup [])) h
    | true => match callee o with
      | none => match panO C e o with
        | some v => some (.pan v, e, h)
        | none => (opA C f e h o).bind fun x => if looseAll C f os (dkey o) e x.2 then ops C f os r (e.putAt o.dst x.1) x.2 else none
      | some ga => (mapO (evalA C e) ga.2.toList).bind fun vs => (evalA C e ga.1).bind fun gv =>
        if (o.dst.map (C.quiet f)).getD false && !pureV C gv then none else (callv C gv vs h).bind fun x => match x.1 with
          | .ret v => if looseAll C f os (dkey o) e x.2 then ops C f os r (e.putAt o.dst v) x.2 else none
          | .pan v => some (.pan v, e, x.2) := by
  cases hw : wantA os e o with
  | none =>
    simp only [Option.bind_none]
    apply ext_some
    intro x
    rw [ops_succ]
    simp [opsF, hw]
  | some w =>
    simp only [Option.bind_some]
    cases w with
    | false => exact ops_skip f e h os o r hw
    | true =>
      cases hc : callee o with
      | none =>
        cases hp : panO C e o with
        | none => exact ops_op f e h os o r hw hc hp
        | some v => exact ops_pan f e h os o r hw hc hp
      | some ga => exact ops_callv f e h os o r ga.1 ga.2 hw hc

/-- Nothing is loose. -/
class Tight (C : Cfg) : Prop where
  none : ∀ f t, C.loose f t = []
  alone : ∀ f, C.alone f = false

theorem looseAll_tight [T : Tight C] (os : Array Oper) (d : Option Nat) (h : Heap) : looseAll C f os d e h = true := by
  cases d with
  | none => rfl
  | some t => simp only [looseAll, T.none, List.all_nil]

theorem ops_cons' [Tight C] (os : Array Oper) (o : Oper) (r : List Oper) : ops C f os (o :: r) e h = (wantA os e o).bind fun w => match w with
    | false => ops C f os r (e.putAt o.dst (.tup [])) h
    | true => match callee o with
      | none => match panO C e o with
        | some v => some (.pan v, e, h)
        | none => (opA C f e h o).bind fun x => ops C f os r (e.putAt o.dst x.1) x.2
      | some ga => (mapO (evalA C e) ga.2.toList).bind fun vs => (evalA C e ga.1).bind fun gv =>
        if (o.dst.map (C.quiet f)).getD false && !pureV C gv then none else (callv C gv vs h).bind fun x => match x.1 with
          | .ret v => ops C f os r (e.putAt o.dst v) x.2
          | .pan v => some (.pan v, e, x.2) := by
  rw [ops_cons]
  simp only [looseAll_tight, if_true]

theorem call_fn (args : List AV) (fi : FI) (hp : C.prim f = none) (hf : C.fn f = some fi) (hl : (args.length != fi.params) = false) [T : Tight C] :
    call C f args h = (exec C f fi.body (args.zipIdx.map fun (v, i) => (i, v)) h).bind fun x => match x.1 with
      | .nrm | .ret => (resultsA C x.2.2 x.2.1 fi.results).bind fun vs => leaveA C f h (packA vs) x.2.2
      | .pan v => some (.pan v, x.2.2)
      | .exit _ => none := by
  apply ext_some
  intro r
  rw [call_succ]
  simp only [callF, hp, hf, Option.bind_eq_bind, Option.bind_some, hl, Bool.false_eq_true, if_false, T.alone]
  constructor
  · rintro ⟨k, hk⟩
    obtain ⟨⟨out, e1, h1⟩, hx, hr⟩ := Option.bind_eq_some_iff.1 hk
    exact Option.bind_eq_some_iff.2 ⟨_, (exec_iff C).2 ⟨k, hx⟩, by cases out <;> exact hr⟩
  · intro hk
    obtain ⟨⟨out, e1, h1⟩, hx, hr⟩ := Option.bind_eq_some_iff.1 hk
    obtain ⟨k, hk⟩ := (exec_iff C).1 hx
    exact ⟨k, Option.bind_eq_some_iff.2 ⟨_, hk, by cases out <;> exact hr⟩⟩
theorem call_prim (args : List AV) (p : List AV → Heap → Option (CRes × Heap)) (hp : C.prim f = some p) : call C f args h = p args h := by
  apply ext_some
  intro r
  rw [call_succ]
  simp only [callF, hp]
  exact ⟨fun ⟨_, h⟩ => h, fun h => ⟨0, h⟩⟩
end
end Go.Rv
