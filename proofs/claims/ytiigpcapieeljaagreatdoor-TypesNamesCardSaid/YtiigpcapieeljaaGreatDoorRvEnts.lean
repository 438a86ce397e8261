/-
  A map's entries: their order is of no weight to what is found, put and struck out.
-/
import Derived.Test.YtiigpcapieeljaaGreatDoorRvCore
set_option linter.unusedSimpArgs false
set_option linter.unusedVariables false
namespace Go.Rv

theorem sameKey_symm {a b : AV} {p : Bool} (h : sameKey a b = some p) : sameKey b a = some p := by
  cases a <;> cases b <;> simp only [sameKey, reduceCtorEq] at h ⊢
  · rw [← h, Bool.beq_comm]
  · rename_i k m k' n
    by_cases e : k = k'
    · subst e
      simp only [beq_self_eq_true, if_true, Option.some.injEq] at h ⊢
      rw [← h]; exact BEq.comm
    · simp [e] at h
  · simp only [Option.some.injEq] at h ⊢
    rw [← h]; exact BEq.comm

theorem sameKeys_symm : ∀ {a b : List AV} {p : Bool}, sameKeys a b = some p → sameKeys b a = some p
  | [], [], _, h => h
  | [], _ :: _, _, h => by simp [sameKeys] at h
  | _ :: _, [], _, h => by simp [sameKeys] at h
  | a :: x, b :: y, p, h => by
    simp only [sameKeys, Option.bind_eq_bind] at h ⊢
    obtain ⟨q, hq, h⟩ := Option.bind_eq_some_iff.1 h
    obtain ⟨r, hr, h⟩ := Option.bind_eq_some_iff.1 h
    rw [sameKey_symm hq, Option.bind_some, sameKeys_symm hr, Option.bind_some, h]

theorem sameK_symm {a b : AV} {p : Bool} (h : sameK a b = some p) : sameK b a = some p := by
  cases a <;> cases b <;> simp only [sameK] at h ⊢ <;> first | exact sameKeys_symm h | exact sameKey_symm h

theorem sameKey_true {a b : AV} (h : sameKey a b = some true) : a = b := by
  cases a <;> cases b <;> simp only [sameKey, reduceCtorEq] at h
  · simp at h; rw [h]
  · split at h
    · rename_i hk
      simp at hk h; rw [hk, h]
    · cases h
  · simp at h; rw [h]

theorem sameKeys_true : ∀ {a b : List AV}, sameKeys a b = some true → a = b
  | [], [], _ => rfl
  | [], _ :: _, h => by simp [sameKeys] at h
  | _ :: _, [], h => by simp [sameKeys] at h
  | a :: x, b :: y, h => by
    simp only [sameKeys, Option.bind_eq_bind] at h
    obtain ⟨q, hq, h⟩ := Option.bind_eq_some_iff.1 h
    obtain ⟨r, hr, h⟩ := Option.bind_eq_some_iff.1 h
    simp only [Option.some.injEq, Bool.and_eq_true] at h
    obtain ⟨rfl, rfl⟩ := h
    rw [sameKey_true hq, sameKeys_true hr]

theorem sameK_true {a b : AV} (h : sameK a b = some true) : a = b := by
  cases a <;> cases b <;> simp only [sameK] at h <;> first | exact congrArg AV.agg (sameKeys_true h) | exact sameKey_true h

/-- The keys are told apart. -/
def KeysOk (es : List (AV × AV)) : Prop := es.Pairwise fun a b => sameK a.1 b.1 = some false

theorem KeysOk.perm {es es' : List (AV × AV)} (H : KeysOk es) (p : es.Perm es') : KeysOk es' :=
  (p.pairwise_iff fun h => sameK_symm h).1 H

/-- Either no entry has that key, or one. -/
theorem find_cases {k : AV} : ∀ {es : List (AV × AV)} {r : Option AV}, findA k es = some r →
    (r = none ∧ ∀ e ∈ es, sameK k e.1 = some false) ∨ (∃ e ∈ es, sameK k e.1 = some true ∧ r = some e.2)
  | [], r, h => by
    simp only [findA, Option.some.injEq] at h
    exact .inl ⟨h.symm, fun e he => by simp at he⟩
  | (k', v) :: es, r, h => by
    simp only [findA, Option.bind_eq_bind] at h
    obtain ⟨p, hp, h⟩ := Option.bind_eq_some_iff.1 h
    cases p with
    | true => simp only [if_true, Option.some.injEq] at h; exact .inr ⟨_, List.mem_cons_self .., hp, h.symm⟩
    | false =>
      simp only [Bool.false_eq_true, if_false] at h
      rcases find_cases h with ⟨h1, h2⟩ | ⟨e, h1, h2, h3⟩
      · exact .inl ⟨h1, fun e he => by
          rcases List.mem_cons.1 he with rfl | he
          · exact hp
          · exact h2 e he⟩
      · exact .inr ⟨e, List.mem_cons_of_mem _ h1, h2, h3⟩

theorem find_miss {k : AV} : ∀ {es : List (AV × AV)}, (∀ e ∈ es, sameK k e.1 = some false) → findA k es = some none
  | [], _ => rfl
  | e :: es, h => by
    simp only [findA, h e (List.mem_cons_self ..), Option.bind_eq_bind, Option.bind_some, Bool.false_eq_true, if_false]
    exact find_miss fun e he => h e (List.mem_cons_of_mem _ he)

theorem find_hit {k : AV} : ∀ {es : List (AV × AV)} {e : AV × AV}, KeysOk es → e ∈ es → sameK k e.1 = some true → findA k es = some (some e.2)
  | [], e, _, he, _ => by simp at he
  | x :: es, e, H, he, hk => by
    have H := List.pairwise_cons.1 H
    simp only [findA, Option.bind_eq_bind]
    rcases List.mem_cons.1 he with rfl | he
    · simp [hk]
    · have h1 : sameK k x.1 = some false := by
        rw [sameK_true hk]; exact sameK_symm (H.1 e he)
      simp only [h1, Option.bind_some, Bool.false_eq_true, if_false]
      exact find_hit H.2 he hk

theorem findA_perm {k : AV} {es es' : List (AV × AV)} {r : Option AV} (H : KeysOk es) (p : es.Perm es') (h : findA k es = some r) : findA k es' = some r := by
  rcases find_cases h with ⟨rfl, h2⟩ | ⟨e, h1, h2, rfl⟩
  · exact find_miss fun e he => h2 e (p.mem_iff.2 he)
  · exact find_hit (H.perm p) (p.mem_iff.1 h1) h2

/-- With that key's value another one. -/
def withV (k v : AV) (e : AV × AV) : AV × AV := if sameK k e.1 = some true then (e.1, v) else e
theorem withV_key (k v : AV) (e : AV × AV) : (withV k v e).1 = e.1 := by unfold withV; split <;> rfl

theorem put_cases {k v : AV} : ∀ {es es' : List (AV × AV)}, putA k v es = some es' → (∀ e ∈ es, sameK k e.1 = some false) ∨ (∃ e ∈ es, sameK k e.1 = some true)
  | [], _, _ => .inl fun e he => by simp at he
  | (k', u) :: es, es', h => by
    simp only [putA, Option.bind_eq_bind] at h
    obtain ⟨p, hp, h⟩ := Option.bind_eq_some_iff.1 h
    cases p with
    | true => exact .inr ⟨_, List.mem_cons_self .., hp⟩
    | false =>
      simp only [Bool.false_eq_true, if_false] at h
      obtain ⟨es2, h2, _⟩ := Option.map_eq_some_iff.1 h
      rcases put_cases h2 with h3 | ⟨e, h3, h4⟩
      · exact .inl fun e he => by
          rcases List.mem_cons.1 he with rfl | he
          · exact hp
          · exact h3 e he
      · exact .inr ⟨e, List.mem_cons_of_mem _ h3, h4⟩

theorem put_miss {k v : AV} : ∀ {es : List (AV × AV)}, (∀ e ∈ es, sameK k e.1 = some false) → putA k v es = some (es ++ [(k, v)])
  | [], _ => rfl
  | e :: es, h => by
    simp only [putA, h e (List.mem_cons_self ..), Option.bind_eq_bind, Option.bind_some, Bool.false_eq_true, if_false]
    rw [put_miss fun e he => h e (List.mem_cons_of_mem _ he)]
    rfl

theorem withV_none {k v : AV} : ∀ {es : List (AV × AV)}, (∀ e ∈ es, sameK k e.1 = some false) → es.map (withV k v) = es
  | [], _ => rfl
  | e :: es, h => by
    rw [List.map_cons, withV_none fun e he => h e (List.mem_cons_of_mem _ he)]
    simp [withV, h e (List.mem_cons_self ..)]

theorem put_hit {k v : AV} : ∀ {es : List (AV × AV)} {e : AV × AV}, KeysOk es → e ∈ es → sameK k e.1 = some true → putA k v es = some (es.map (withV k v))
  | [], e, _, he, _ => by simp at he
  | x :: es, e, H, he, hk => by
    have H := List.pairwise_cons.1 H
    simp only [putA, Option.bind_eq_bind]
    rcases List.mem_cons.1 he with rfl | he
    · rw [hk, Option.bind_some, if_pos rfl, List.map_cons, withV_none fun e' he' => by rw [sameK_true hk]; exact H.1 e' he']
      simp [withV, hk]
    · have h1 : sameK k x.1 = some false := by
        rw [sameK_true hk]; exact sameK_symm (H.1 e he)
      simp only [h1, Option.bind_some, Bool.false_eq_true, if_false]
      rw [put_hit H.2 he hk]
      simp [withV, h1]

theorem putA_perm {k v : AV} {es es' es0 : List (AV × AV)} (H : KeysOk es) (p : es.Perm es0) (h : putA k v es = some es') : ∃ es0', putA k v es0 = some es0' ∧ es'.Perm es0' ∧ KeysOk es' := by
  rcases put_cases h with h1 | ⟨e, he, hk⟩
  · rw [put_miss h1] at h
    injection h with h; subst h
    refine ⟨_, put_miss fun e he => h1 e (p.mem_iff.2 he), p.append_right _, List.pairwise_append.2 ⟨H, by simp, fun a ha b hb => ?_⟩⟩
    simp only [List.mem_singleton] at hb
    subst hb
    exact sameK_symm (h1 a ha)
  · rw [put_hit H he hk] at h
    injection h with h; subst h
    refine ⟨_, put_hit (H.perm p) (p.mem_iff.1 he) hk, p.map _, ?_⟩
    unfold KeysOk
    rw [List.pairwise_map]
    exact H.imp fun h => by rw [withV_key, withV_key]; exact h

theorem erase_cases {k : AV} : ∀ {es es' : List (AV × AV)}, eraseA k es = some es' → (∀ e ∈ es, sameK k e.1 = some false) ∨ (∃ e ∈ es, sameK k e.1 = some true)
  | [], _, _ => .inl fun e he => by simp at he
  | (k', u) :: es, es', h => by
    simp only [eraseA, Option.bind_eq_bind] at h
    obtain ⟨p, hp, h⟩ := Option.bind_eq_some_iff.1 h
    cases p with
    | true => exact .inr ⟨_, List.mem_cons_self .., hp⟩
    | false =>
      simp only [Bool.false_eq_true, if_false] at h
      obtain ⟨es2, h2, _⟩ := Option.map_eq_some_iff.1 h
      rcases erase_cases h2 with h3 | ⟨e, h3, h4⟩
      · exact .inl fun e he => by
          rcases List.mem_cons.1 he with rfl | he
          · exact hp
          · exact h3 e he
      · exact .inr ⟨e, List.mem_cons_of_mem _ h3, h4⟩

/-- Entries of other keys. -/
def others (k : AV) (e : AV × AV) : Bool := !(sameK k e.1 == some true)

theorem others_all {k : AV} : ∀ {es : List (AV × AV)}, (∀ e ∈ es, sameK k e.1 = some false) → es.filter (others k) = es := fun h =>
  List.filter_eq_self.2 fun e he => by simp [others, h e he]

theorem erase_eq {k : AV} : ∀ {es : List (AV × AV)} {es' : List (AV × AV)}, KeysOk es → eraseA k es = some es' → es' = es.filter (others k)
  | [], es', _, h => by simp only [eraseA, Option.some.injEq] at h; subst h; rfl
  | x :: es, es', H, h => by
    have H := List.pairwise_cons.1 H
    simp only [eraseA, Option.bind_eq_bind] at h
    obtain ⟨p, hp, h⟩ := Option.bind_eq_some_iff.1 h
    cases p with
    | true =>
      simp only [if_true, Option.some.injEq] at h
      subst h
      rw [List.filter_cons, if_neg (by simp [others, hp]), others_all fun e he => by rw [sameK_true hp]; exact H.1 e he]
    | false =>
      simp only [Bool.false_eq_true, if_false] at h
      obtain ⟨es2, h2, rfl⟩ := Option.map_eq_some_iff.1 h
      rw [List.filter_cons, if_pos (by simp [others, hp]), erase_eq H.2 h2]

theorem erase_def {k : AV} : ∀ {es : List (AV × AV)}, (∀ e ∈ es, ∃ p, sameK k e.1 = some p) → ∃ es', eraseA k es = some es'
  | [], _ => ⟨_, rfl⟩
  | x :: es, h => by
    obtain ⟨p, hp⟩ := h x (List.mem_cons_self ..)
    obtain ⟨es', he⟩ := erase_def fun e he => h e (List.mem_cons_of_mem _ he)
    simp only [eraseA, hp, he, Option.bind_eq_bind, Option.bind_some, Option.map_some]
    split <;> exact ⟨_, rfl⟩

theorem keys_def {k : AV} {es : List (AV × AV)} (H : KeysOk es) (h : (∀ e ∈ es, sameK k e.1 = some false) ∨ (∃ e ∈ es, sameK k e.1 = some true)) : ∀ e ∈ es, ∃ p, sameK k e.1 = some p := by
  intro e he
  rcases h with h | ⟨x, hx, hk⟩
  · exact ⟨_, h e he⟩
  · by_cases hex : e = x
    · subst hex; exact ⟨_, hk⟩
    · rw [sameK_true hk]
      obtain ⟨l1, l2, rfl⟩ := List.append_of_mem hx
      have H' := List.pairwise_append.1 H
      rcases List.mem_append.1 he with h1 | h1
      · exact ⟨_, sameK_symm (H'.2.2 e h1 x (List.mem_cons_self ..))⟩
      · rcases List.mem_cons.1 h1 with h1 | h1
        · exact absurd h1 hex
        · exact ⟨_, (List.pairwise_cons.1 H'.2.1).1 e h1⟩

theorem eraseA_perm {k : AV} {es es' es0 : List (AV × AV)} (H : KeysOk es) (p : es.Perm es0) (h : eraseA k es = some es') : ∃ es0', eraseA k es0 = some es0' ∧ es'.Perm es0' ∧ KeysOk es' := by
  obtain ⟨es0', h0⟩ := erase_def (k := k) (es := es0) fun e he => keys_def H (erase_cases h) e (p.mem_iff.2 he)
  have e1 := erase_eq H h
  have e2 := erase_eq (H.perm p) h0
  subst e1 e2
  exact ⟨_, h0, p.filter _, H.sublist List.filter_sublist⟩
end Go.Rv
