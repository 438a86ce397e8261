/-
  Keys that are structs of plain fields: how the model compares them.
-/
import Derived.Test.YtiigpcapieeljaaGreatDoorRvOps7
import Derived.Laws.StructEq
set_option linter.unusedSimpArgs false
set_option linter.unusedVariables false
namespace Go.Rv
section
variable {P : Program} {s : Sim} {h : Heap} {w : World}

theorem run_part_scalar {t : Nat} {c : AV} (hs : scalarB (P.underlying t) c = true) {cs : Array Value} {i : Nat} {v : Value} (hv : cs[i]? = some v) (w : World) : (Go.part t cs i).run P w = .ok v w := by
  cases hd : P.underlying t with
  | none => rw [hd] at hs; cases c <;> simp [scalarB] at hs
  | some d =>
    rw [hd] at hs
    cases d <;> cases c <;> simp only [scalarB, Bool.false_eq_true] at hs <;>
      simp only [Go.part, isAgg, Sem.run_bind, run_underlying hd, Result.andThen_ok, Sem.run_pure, Bool.false_eq_true, if_false, hv]

theorem scalar_check {t : Nat} {c : AV} (hs : scalarB (P.underlying t) c = true) (b : Bool) (n : Nat) (v : Value) (w : World) : (Instr.checkKey b (n + 1) t v).run P w = .ok () w := by
  cases hd : P.underlying t with
  | none => rw [hd] at hs; cases c <;> simp [scalarB] at hs
  | some d =>
    rw [hd] at hs
    cases d <;> cases c <;> simp only [scalarB, Bool.false_eq_true] at hs <;>
      (unfold Instr.checkKey; simp only [Sem.run_bind, run_underlying hd, Result.andThen_ok]; rfl)

theorem scalar_eq {t : Nat} {c c' : AV} (hs : scalarB (P.underlying t) c = true) {v v' : Value} (hv : VR s h w c v) (hv' : VR s h w c' v') {p : Bool} (hp : sameKey c c' = some p) (n : Nat) (w1 : World) : (Op.equalIn (n + 1) t v v').run P w1 = .ok p w1 ∧ (p = true → v' = v) := by
  cases hd : P.underlying t with
  | none => rw [hd] at hs; cases c <;> simp [scalarB] at hs
  | some d =>
    rw [hd] at hs
    cases d <;> cases c <;> simp only [scalarB, Bool.false_eq_true] at hs <;> cases c' <;> simp only [sameKey, reduceCtorEq] at hp <;> cases hv <;> cases hv'
    · injection hp with hp
      subst hp
      exact ⟨run_equalIn_bool' w1 n t _ _ hd, fun h => by simp at h; rw [h]⟩
    · split at hp
      · rename_i he
        injection hp with hp
        subst hp
        simp only [beq_iff_eq] at he
        subst he
        exact ⟨run_equalIn_int w1 n t _ _ _ _ hd, fun h => by simp at h; rw [h]⟩
      · cases hp
    · injection hp with hp
      subst hp
      refine ⟨?_, fun h => by simp at h; rw [h]⟩
      simp only [Op.equalIn, Sem.run_bind, run_underlying hd, Result.andThen_ok, Sem.run_pure]
      congr 1
      rename_i a b
      change (a.toArray == b.toArray) = (a == b)
      simp

theorem flat_eq {xs ys : Array Value} : ∀ (fs : List Field) (i : Nat) (as' bs : List AV), flatFs P i fs as' = true → (∀ (j : Nat) c, as'[j]? = some c → ∃ v, xs[i + j]? = some v ∧ VR s h w c v) → (∀ (j : Nat) c, bs[j]? = some c → ∃ v, ys[i + j]? = some v ∧ VR s h w c v) →
    ∀ {p : Bool}, sameKeys as' bs = some p → ∀ (n : Nat) (w1 : World), (Op.eqFields (n + 1) xs ys fs).run P w1 = .ok p w1 ∧ (p = true → ∀ j, j < as'.length → ys[i + j]? = xs[i + j]?)
  | [], i, [], bs, _, _, _, p, hp, n, w1 => by
    cases bs with
    | nil => simp only [sameKeys, Option.some.injEq] at hp; subst hp; exact ⟨rfl, fun _ j hj => by simp at hj⟩
    | cons => simp [sameKeys] at hp
  | [], i, _ :: _, bs, hf, _, _, p, hp, n, w1 => by simp [flatFs] at hf
  | f :: r, i, [], bs, hf, _, _, p, hp, n, w1 => by simp [flatFs] at hf
  | f :: r, i, c :: cs, bs, hf, hx, hy, p, hp, n, w1 => by
    cases bs with
    | nil => simp [sameKeys] at hp
    | cons d ds =>
    simp only [flatFs, Bool.and_eq_true, bne_iff_ne, ne_eq] at hf
    obtain ⟨⟨⟨f1, f2⟩, f3⟩, f4⟩ := hf
    have f2 := Nat.eq_of_beqb f2
    simp only [sameKeys, Option.bind_eq_bind] at hp
    obtain ⟨p1, hp1, hp⟩ := Option.bind_eq_some_iff.1 hp
    obtain ⟨q1, hq1, hp⟩ := Option.bind_eq_some_iff.1 hp
    injection hp with hp
    subst hp
    obtain ⟨v, hv, hvr⟩ := hx 0 c rfl
    obtain ⟨u, hu, hur⟩ := hy 0 d rfl
    simp only [Nat.add_zero] at hv hu
    obtain ⟨e1, e2⟩ := scalar_eq f3 hvr hur hp1 n w1
    obtain ⟨g1, g2⟩ := flat_eq r (i + 1) cs ds f4 (fun j c hj => by rw [show i + 1 + j = i + (j + 1) from by omega]; exact hx (j + 1) c (by simpa using hj)) (fun j c hj => by rw [show i + 1 + j = i + (j + 1) from by omega]; exact hy (j + 1) c (by simpa using hj)) hq1 n w1
    refine ⟨?_, fun hb j hj => ?_⟩
    · simp only [Op.eqFields, f1, ne_eq, not_false_eq_true, if_true, Sem.run_bind, f2, run_part_scalar f3 hv, run_part_scalar f3 hu, Result.andThen_ok, e1]
      cases p1 with
      | false => simp
      | true => simpa using g1
    · simp only [Bool.and_eq_true] at hb
      cases j with
      | zero => simp only [Nat.add_zero]; rw [hu, hv, e2 hb.1]
      | succ j => rw [show i + (j + 1) = i + 1 + j from by omega]; exact g2 hb.2 j (by simpa using hj)

theorem flat_equal {t : Nat} {cs ds : List AV} (hf : flatKey P t cs = true) {u v : Value} (hu : VR s h w (.agg cs) u) (hv : VR s h w (.agg ds) v) {p : Bool} (hp : sameKeys cs ds = some p) (w1 : World) : (Op.equal t u v).run P w1 = .ok p w1 ∧ (p = true → v = u) := by
  unfold flatKey at hf
  split at hf <;> first | cases hf | skip
  rename_i fs hd
  simp only [Bool.and_eq_true, Bool.not_eq_true'] at hf
  have hfs : P.fieldsOf t = fs := by simp [Program.fieldsOf, hd]
  cases hu with
  | agg _ xs hl hr =>
  cases hv with
  | agg _ ys hl' hr' =>
  have at' : ∀ {cs : List AV} {xs : Array Value}, cs.length = xs.size → (∀ (i : Nat) c, cs[i]? = some c → VR s h w c (xs.getD i undef)) → ∀ (j : Nat) c, cs[j]? = some c → ∃ v, xs[0 + j]? = some v ∧ VR s h w c v := fun {cs xs} hl hr j c hj => by
    have hlt : j < xs.size := by rw [← hl]; exact (List.getElem?_eq_some_iff.1 hj).1
    refine ⟨xs[j], by simp [hlt], ?_⟩
    have := hr j c hj
    simpa [hlt] using this
  obtain ⟨g1, g2⟩ := flat_eq fs.toList 0 cs ds hf.2 (at' hl hr) (at' hl' hr') hp 9998 w1
  refine ⟨?_, fun hb => ?_⟩
  · show (Op.equalIn (9999 + 1) t (.agg xs) (.agg ys)).run P w1 = _
    rw [run_equalIn_struct w1 9999 t xs ys (by rw [hfs]; exact hd) hf.1, hfs]
    exact g1
  · have hlen : cs.length = ds.length := by
      have : ∀ (a b : List AV) q, sameKeys a b = some q → a.length = b.length := by
        intro a
        induction a with
        | nil => intro b q h; cases b <;> simp [sameKeys] at h ⊢
        | cons a x ih =>
          intro b q h
          cases b with
          | nil => simp [sameKeys] at h
          | cons b y =>
            simp only [sameKeys, Option.bind_eq_bind] at h
            obtain ⟨_, _, h⟩ := Option.bind_eq_some_iff.1 h
            obtain ⟨q', hq', _⟩ := Option.bind_eq_some_iff.1 h
            simp [ih y q' hq']
      exact this _ _ _ hp
    congr 1
    apply Array.ext (by omega)
    intro j h1 h2
    have := g2 hb j (by omega)
    simpa [h1, h2] using this

theorem flat_scalar : ∀ {fs : List Field} {i : Nat} {cs : List AV}, flatFs P i fs cs = true → ∀ c ∈ cs, ∃ d, scalarB d c = true
  | [], _, [], _, c, hc => by simp at hc
  | [], _, _ :: _, h, _, _ => by simp [flatFs] at h
  | _ :: _, _, [], h, _, _ => by simp [flatFs] at h
  | f :: r, i, c :: cs, h, x, hx => by
    simp only [flatFs, Bool.and_eq_true] at h
    rcases List.mem_cons.1 hx with rfl | hx
    · exact ⟨_, h.1.2⟩
    · exact flat_scalar h.2 x hx
theorem flat_bits {fs : List Field} {i : Nat} {cs : List AV} (hf : flatFs P i fs cs = true) {u : Value} (hu : VR s h w (.agg cs) u) : Instr.sameBits 10000 u u = true := by
  cases hu with
  | agg _ vs hl hr =>
  have hall : ∀ v ∈ vs.toList, Instr.sameBits 9999 v v = true := fun v hv => by
    obtain ⟨j, hj⟩ := List.getElem?_of_mem hv
    have hlt : j < vs.size := by simpa using (List.getElem?_eq_some_iff.1 hj).1
    have hc : cs[j]? = some cs[j] := List.getElem?_eq_getElem (by omega)
    have hvr := hr j _ hc
    have hjv : vs.getD j undef = v := by rw [Array.getElem?_toList] at hj; simp [Array.getD_eq_getD_getElem?, hj]
    rw [hjv] at hvr
    obtain ⟨d, hd⟩ := flat_scalar hf cs[j] (List.getElem_mem (by omega))
    generalize cs[j] = c at hvr hd
    cases d with
    | none => cases c <;> simp [scalarB] at hd
    | some d => cases d <;> cases c <;> simp only [scalarB, Bool.false_eq_true] at hd <;> cases hvr <;> first | (simp [Instr.sameBits]; done) | (rename_i a; show ((⟨a.toArray⟩ : ByteArray) == ⟨a.toArray⟩) = true; change (a.toArray == a.toArray) = true; simp)
  show (vs.size == vs.size && (vs.toList.zip vs.toList).all fun (x, y) => Instr.sameBits 9999 x y) = true
  simp only [beq_self_eq_true, Bool.true_and, List.all_eq_true]
  rintro ⟨x, y⟩ hxy
  have : ∀ (l : List Value) (x y : Value), (x, y) ∈ l.zip l → x = y ∧ x ∈ l := by
    intro l
    induction l with
    | nil => intro x y h; simp at h
    | cons a l ih =>
      intro x y h
      simp only [List.zip_cons_cons, List.mem_cons, Prod.mk.injEq] at h
      rcases h with ⟨rfl, rfl⟩ | h
      · exact ⟨rfl, by simp⟩
      · exact ⟨(ih x y h).1, by simp [(ih x y h).2]⟩
  obtain ⟨rfl, hx⟩ := this _ _ _ hxy
  exact hall x hx

theorem flat_check {t : Nat} {cs : List AV} (hf : flatKey P t cs = true) {u : Value} (hu : VR s h w (.agg cs) u) (b : Bool) (n : Nat) (w1 : World) : (Instr.checkKey b (n + 2) t u).run P w1 = .ok () w1 := by
  unfold flatKey at hf
  split at hf <;> first | cases hf | skip
  rename_i fs hd
  simp only [Bool.and_eq_true, Bool.not_eq_true'] at hf
  cases hu with
  | agg _ xs hl hr =>
  rw [Instr.checkKey]
  simp only [Sem.run_bind, run_underlying hd, Result.andThen_ok]
  rw [← Array.forIn_toList]
  have key : ∀ (L : List Field) (i : Nat) (c : List AV), flatFs P i L c = true → (∀ (j : Nat) y, c[j]? = some y → ∃ v, xs[i + j]? = some v) → (forIn L PUnit.unit (fun f (_ : PUnit) => (if f.name ≠ "_" then do Instr.checkKey b (n + 1) f.type (← Go.part f.type xs f.offset); pure (ForInStep.yield PUnit.unit) else pure (ForInStep.yield PUnit.unit) : Sem (ForInStep PUnit)))).run P w1 = .ok PUnit.unit w1 := by
    intro L
    induction L with
    | nil => intro i c _ _; simp
    | cons f L ih =>
      intro i c hc hx
      cases c with
      | nil => simp [flatFs] at hc
      | cons c cs =>
        simp only [flatFs, Bool.and_eq_true, bne_iff_ne, ne_eq] at hc
        obtain ⟨⟨⟨f1, f2⟩, f3⟩, f4⟩ := hc
        have f2 := Nat.eq_of_beqb f2
        obtain ⟨v, hv⟩ := hx 0 c rfl
        simp only [Nat.add_zero] at hv
        simp only [List.forIn_cons, Sem.run_bind, f1, ne_eq, not_false_eq_true, if_true, f2, run_part_scalar f3 hv, Result.andThen_ok, scalar_check f3, Sem.run_pure]
        exact ih (i + 1) cs f4 (fun j y hj => by rw [show i + 1 + j = i + (j + 1) from by omega]; exact hx (j + 1) y (by simpa using hj))
  have := key fs.toList 0 cs hf.2 (fun j y hj => ⟨xs[j]'(by rw [← hl]; exact (List.getElem?_eq_some_iff.1 hj).1), by simp [← hl, (List.getElem?_eq_some_iff.1 hj).1]⟩)
  rw [this]
  rfl
end
end Go.Rv
