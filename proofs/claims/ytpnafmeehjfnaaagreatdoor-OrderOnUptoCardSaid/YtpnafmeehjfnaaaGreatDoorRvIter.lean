/-
  Ranges over maps: the iterator's making, the entry at which it is.
-/
import Derived.Test.YtpnafmeehjfnaaaGreatDoorRvMore
import Derived.Maps.RangeRun
set_option linter.unusedSimpArgs false
set_option linter.unusedVariables false
namespace Go.Rv
section
variable {P : Program} {C : Cfg} {s : Sim} {h : Heap} {w : World}

/-- An object is given up; its block is never written again. -/
def Sim.give (s : Sim) (o b : Nat) : Sim := { s with μ := fun k => if k = o then none else s.μ k, I := fun c => s.I c ∨ c = b }

theorem give_map (R : Rel s h w) {o b : Nat} {es : List (AV × AV)} (hb : s.μ o = some b) (ho : h[o]? = some (.map es)) : Ext s h w (s.give o b) (h.set o (.cells [] 1)) w ∧ Rel (s.give o b) (h.set o (.cells [] 1)) w := by
  have hlt := (List.getElem?_eq_some_iff.1 ho).1
  have E : Ext s h w (s.give o b) (h.set o (.cells [] 1)) w := by
    refine ⟨⟨Nat.le_refl _, fun _ _ _ => rfl, fun _ _ h => h, fun _ h => .inl h, fun k g0 hg0 => ?_, fun k g0 hg0 hg1 => ?_, fun k hk hg => ?_, fun k c hc => ?_, rfl, rfl, rfl, fun k hk => ?_, rfl⟩, fun k c _ hc => ?_, fun k _ hn => ?_⟩
    · rw [genOf_set (g := g0)]
      by_cases e : o = k
      · subst e
        have : g0 = 0 := by simp [genOf, ho] at hg0; omega
        exact ⟨1, by simp [hlt], by omega⟩
      · exact ⟨g0, by simp [e, hg0], Nat.le_refl _⟩
    · by_cases e : o = k
      · subst e
        have : g0 = 0 := by simp [genOf, ho] at hg0; omega
        rw [genOf_set (g := g0)] at hg1
        simp [hlt] at hg1
        omega
      · exact ⟨fun c hc => by simp [Sim.give, Ne.symm e, hc], lenOf_set e⟩
    · by_cases e : o = k
      · subst e
        rw [genOf_set (g := 0)] at hg
        simp [hlt] at hg
      · rw [isMap_set e]; exact hk
    · simp only [Sim.give] at hc
      split at hc
      · cases hc
      · exact .inl ⟨k, hc⟩
    · by_cases e : o = k
      · subst e; simp [isLoop, ho] at hk
      · rw [isLoop_set e]; exact hk
    · simp only [Sim.give] at hc
      split at hc
      · cases hc
      · exact ⟨c, hc⟩
    · have : o ≠ k := by rintro rfl; rw [hb] at hn; cases hn
      exact List.getElem?_set_ne this
  refine ⟨E, fun k k' c hk hk' => ?_, fun k c hk => ?_, fun k c hk hI => ?_, fun c hI => ?_⟩
  · simp only [Sim.give] at hk hk'
    split at hk <;> split at hk' <;> first | cases hk | cases hk' | exact R.inj k k' c hk hk'
  · simp only [Sim.give] at hk
    split at hk
    · cases hk
    · rename_i e
      obtain ⟨x, hx, hr⟩ := R.obj k c hk
      exact ⟨x, by rw [List.getElem?_set_ne (Ne.symm e)]; exact hx, hr.ext R.apart E rfl⟩
  · simp only [Sim.give] at hk hI
    split at hk
    · cases hk
    · rename_i e
      rcases hI with hI | hI
      · exact R.apart k c hk hI
      · subst hI; exact e (R.inj k o c hk hb)
  · rcases hI with hI | hI
    · exact R.imm c hI
    · subst hI; exact R.lt hb

theorem range_rel (TT : TabOk P C) (R : Rel s h w) {t o : Nat} {ti : TI} {kt et : Nat} (hti : C.ty t = some ti) (htd : ti.td = .map kt et) {u : Value} (hv : VR s h w (.map o) u) {es : List (AV × AV)} (ho : h.mapAt o = some es) :
    HRun P s h w (Instr.range t u) (.ptr h.length 0 0) (h.set o (.cells [] 1) ++ [.iter 0 es]) := by
  obtain ⟨d, hd, hok⟩ := (TT t ti hti).und
  rw [htd] at hok
  cases d <;> simp only [TD.ok] at hok
  obtain ⟨b, en, cl, es0, rfl, hb, hheap, hp0, hE, hS⟩ := map_obj R ho hv
  obtain ⟨E1, R1⟩ := give_map R hb (mapAt_some ho)
  have hl : (h.set o (.cells [] 1)).length = h.length := by simp
  have E2 := Ext.new R1 (.mapIter (some b) cl #[] cl) (.iter 0 es)
  have R2 := Rel.new R1 (.mapIter (some b) cl #[] cl) (.iter 0 es) ⟨b, cl, #[], cl, en, cl, heap_alloc_at w _, .inr rfl, (heap_alloc_lt w _ (R.lt hb)).trans hheap, fun _ => ⟨rfl, rfl, rfl, by rw [← hp0.1.length_eq]; simpa using hE.1, hS, es0, hp0, fun i e hi => by
    obtain ⟨m, hm, h1, h2⟩ := hE.2 i e hi
    exact ⟨m, by simpa using hm, (h1.ext R.apart E1).ext R1.apart E2, (h2.ext R.apart E1).ext R1.apart E2⟩⟩, fun hk => by cases hk⟩
  rw [hl] at E2 R2
  refine ⟨_, _, _, run_range_map w t _ _ b en cl hd hheap, E1.trans E2, R2, .ptr h.length 0 0 w.heap.size ?_ (by simp [Sim.add])⟩
  have := genOf_new (h := h.set o (.cells [] 1)) (x := .iter 0 es)
  rw [hl] at this
  exact this

theorem iterAt_some {o k : Nat} {es : List (AV × AV)} (ho : h.iterAt o = some (k, es)) : h[o]? = some (.iter k es) := by
  unfold Heap.iterAt at ho
  split at ho
  · rename_i k' es' hx
    simp only [Option.some.injEq, Prod.mk.injEq] at ho
    obtain ⟨rfl, rfl⟩ := ho
    exact hx
  · cases ho

/-- The iterator's block. -/
theorem iter_obj (R : Rel s h w) {o k : Nat} {es : List (AV × AV)} (ho : h.iterAt o = some (k, es)) {u : Value} (hv : VR s h w (.ptr o 0 0) u) : ∃ b, u = .pointer (some ⟨b, 0, none⟩) ∧ s.μ o = some b ∧ ORel s h w b (.iter k es) := by
  cases hv with
  | ptr _ _ _ b hg hb =>
    obtain ⟨x, hx, hr⟩ := R.obj o b hb
    rw [iterAt_some ho] at hx
    injection hx with hx; subst hx
    exact ⟨b, rfl, hb, hr⟩
  | ptrOld _ _ _ g' a hg hlt => simp [genOf, iterAt_some ho] at hg; omega

theorem entry_rel (R : Rel s h w) {o : Nat} {p : AV × AV} (ho : h.iterAt o = some (2, [p])) {u : Value} (hv : VR s h w (.ptr o 0 0) u) : HRun P s h w (Instr.entry u) (.tup [p.1, p.2]) h := by
  obtain ⟨b, rfl, hb, bm, since, seen, last, en, cl, h1, h2, h3, _, h5⟩ := iter_obj R ho hv
  obtain ⟨hp, hl, hS, hes⟩ := h5 rfl
  obtain ⟨m, hm, hback, hk, hx⟩ := hes p (by simp)
  refine ⟨s, w, .tuple #[m.key, m.val], ?_, Ext.refl _ _ _, R, .tup _ _ rfl fun i c hi => ?_⟩
  · have hf : en.find? (·.born == m.born) = some m := by rw [← Array.find?_toList]; exact find_born m en.toList hS.2.1 hm
    subst hl
    simp only [Instr.entry, getObj, Sem.run_bind, Sem.run, h1, h3, Result.andThen, hback, bne_self_eq_false, Bool.false_eq_true, if_false, hf]
    rfl
  · match i, hi with
    | 0, hi => simp at hi; subst hi; exact hk
    | 1, hi => simp at hi; subst hi; exact hx
    | i + 2, hi => simp at hi
end

/-- Which code rounds have is of no weight to values. -/
theorem VR.regood {s : Sim} {h : Heap} {w : World} (g : Fixed) {x : AV} {v : Value} (H : VR s h w x v) : VR { s with good := g } h w x v := by
  induction H with
  | bool b => exact .bool b
  | int k n => exact .int k n
  | str l => exact .str l
  | nilPtr => exact .nilPtr
  | nilMap => exact .nilMap
  | nilFunc => exact .nilFunc
  | nilIface => exact .nilIface
  | junk v => exact .junk v
  | ptr o off g b hg hb => exact .ptr o off g b hg hb
  | ptrOld o off g g1 a hg hlt => exact .ptrOld o off g g1 a hg hlt
  | ref cs b off f hI hc _ ih => exact .ref cs b off f hI hc ih
  | lstNil z => exact .lstNil z
  | lstEmpty z A => exact .lstEmpty z A
  | lst xs z r b off c f hI hr hle hz hc _ ih => exact .lst xs z r b off c f hI hr hle hz hc ih
  | msl o off len z g cap b c el n off' hoff hg hb hle hcap hnone hsh hn => exact .msl o off len z g cap b c el n off' hoff hg hb hle hcap hnone hsh hn
  | mslOld o off len z g cap g1 a n c hg hlt => exact .mslOld o off len z g cap g1 a n c hg hlt
  | clo f cs vs hl _ ih => exact .clo f cs vs hl ih
  | map o b hg hb => exact .map o b hg hb
  | mapOld o g b hg hb => exact .mapOld o g b hg hb
  | yld o b hg hb => exact .yld o b hg hb
  | yldOld o g b hg hb => exact .yldOld o g b hg hb
  | iface t x v hx ih => exact .iface t x v ih
  | agg cs vs hl _ ih => exact .agg cs vs hl ih
  | tup cs vs hl _ ih => exact .tup cs vs hl ih
theorem VRs.regood {s : Sim} {h : Heap} {w : World} (g : Fixed) {xs : List AV} {vs : List Value} (H : VRs s h w xs vs) : VRs { s with good := g } h w xs vs :=
  ⟨H.1, fun i c hi => let ⟨v, h1, h2⟩ := H.2 i c hi; ⟨v, h1, h2.regood g⟩⟩
end Go.Rv
