/-
  Runs cut in pieces: statement after statement, between explicit environments and heaps.
-/
import Derived.Test.YtlblnmjakkfhjaaGreatDoorRvRun
set_option linter.unusedSimpArgs false
set_option linter.unusedVariables false
namespace Go.Rv
noncomputable section
variable (C : Cfg)

def takeC : Nat → Code → Code
  | 0, _ => .skip
  | n + 1, .seq a b => .seq a (takeC n b)
  | _ + 1, c => c
def dropC : Nat → Code → Code
  | 0, c => c
  | n + 1, .seq _ b => dropC n b
  | _ + 1, _ => .skip

theorem exec_of_run {k f : Nat} {c : Code} {e : Env} {h : Heap} {r : Out × Env × Heap} (hr : execK C k f c e h = .ok r) : exec C f c e h = some r :=
  (exec_iff C).2 ⟨k, (twin_at C k).exec f c e h r (by rw [hr]; rfl)⟩

theorem exec_skip_eq {f : Nat} {e : Env} {h : Heap} {r : Out × Env × Heap} (H : exec C f .skip e h = some r) : r = (.nrm, e, h) := by
  obtain ⟨k, H⟩ := (exec_iff C).1 H
  cases k with
  | zero => simp [execF] at H
  | succ k =>
    simp only [execF, Option.some.injEq] at H
    exact H.symm

theorem exec_cut {f : Nat} : ∀ (n : Nat) {c : Code} {e e1 : Env} {h h1 : Heap} {r : Out × Env × Heap}, exec C f (takeC n c) e h = some (.nrm, e1, h1) → exec C f (dropC n c) e1 h1 = some r → exec C f c e h = some r := by
  intro n
  induction n with
  | zero =>
    intro c e e1 h h1 r H1 H2
    have H := exec_skip_eq C H1
    simp only [Prod.mk.injEq, true_and] at H
    obtain ⟨rfl, rfl⟩ := H
    exact H2
  | succ n ih =>
    intro c e e1 h h1 r H1 H2
    cases c with
    | seq a b =>
      simp only [takeC] at H1
      simp only [dropC] at H2
      rw [exec_seq] at H1 ⊢
      obtain ⟨⟨o, e2, h2⟩, ha, hb⟩ := Option.bind_eq_some_iff.1 H1
      rw [ha]
      cases o with
      | nrm => exact ih hb H2
      | _ => simp at hb
    | _ =>
      simp only [dropC] at H2
      have H := exec_skip_eq C H2
      subst H
      exact H1

/-- The call, by its body. -/
theorem call_of_comes {f : Nat} {args : List AV} {h : Heap} {fi : FI} {x : Out × Env × Heap} {r : CRes × Heap} (hp : C.prim f = none) (hf : C.fn f = some fi) (hl : (args.length != fi.params) = false) (hal : C.alone f = false)
    (hx : exec C f fi.body (argsE 0 args) h = some x) (hr : endK C f fi h (.ok x) = .ok r) : call C f args h = some r := by
  obtain ⟨k, hx⟩ := (exec_iff C).1 hx
  refine (call_iff C).2 ⟨k + 1, ?_⟩
  rw [argsE_eq] at hx
  simp only [callF, hp, hf, hl, hal, Option.bind_eq_bind, Option.bind_some, Bool.false_eq_true, if_false, hx]
  obtain ⟨out, e1, h1⟩ := x
  simp only [endK, KR.bind] at hr
  have key : ∀ {y : Option (CRes × Heap)} {n m : Nat}, lift n m y = .ok r → y = some r := by
    intro y n m hy
    cases y with
    | none => simp [lift] at hy
    | some z => simp only [lift, KR.ok.injEq] at hy; rw [hy]
  have key2 : lift f 999995 ((resultsA C h1 e1 fi.results).bind fun vs => leaveK C f h (packA vs) h1) = .ok r → ((resultsA C h1 e1 fi.results).bind fun vs => leaveA C f h (packA vs) h1) = some r := by
    intro hy
    have hy := key hy
    exact LeO.bind (LeO.refl _) (fun vs => leaveK_le C _ _ _ _) _ hy
  cases out with
  | nrm => exact key2 hr
  | ret => exact key2 hr
  | pan v => simp only [KR.ok.injEq] at hr; simp only [hr]
  | exit id => simp at hr
end
end Go.Rv
