/-
  A call that changed nothing of what was there: its answer made immutable, its own objects forgotten.
-/
import Derived.Test.YtiigpcapieeljaaGreatDoorRvOps8
set_option linter.unusedSimpArgs false
set_option linter.unusedVariables false
namespace Go.Rv
section
variable {P : Program} {C : Cfg} {s s1 : Sim} {h h1 : Heap} {w w1 : World}

def Sim.cut (s : Sim) (n : Nat) : Sim := { μ := fun o => if o < n then s.μ o else none, I := fun b => s.I b ∨ ∃ o, n ≤ o ∧ s.μ o = some b, good := s.good }

theorem genOf_take {o n : Nat} (ho : o < n) : genOf (h1.take n) o = genOf h1 o := by
  unfold genOf; rw [List.getElem?_take_of_lt ho]
theorem lenOf_take {o n : Nat} (ho : o < n) : lenOf (h1.take n) o = lenOf h1 o := by
  unfold lenOf; rw [List.getElem?_take_of_lt ho]
theorem isMap_take {o n : Nat} (ho : o < n) : isMap (h1.take n) o = isMap h1 o := by
  unfold isMap; rw [List.getElem?_take_of_lt ho]
theorem isLoop_take {o n : Nat} (ho : o < n) : isLoop (h1.take n) o = isLoop h1 o := by
  unfold isLoop; rw [List.getElem?_take_of_lt ho]
theorem isLoop_lt {o : Nat} (hm : isLoop h o = true) : o < h.length := genOf_lt (genOf_loop hm)
theorem isMap_lt {o : Nat} (hm : isMap h o = true) : o < h.length := genOf_lt (genOf_map hm)

theorem VR.cut (hh : h1.take h.length = h) {x : AV} {v : Value} (H : VR s h w x v) : ∀ {v' : Value}, VR s1 h1 w1 x v' → VR (s1.cut h.length) h w1 x v' := by
  have hg : ∀ {o}, o < h.length → genOf h o = genOf h1 o := fun {o} ho => by
    conv => lhs; rw [← hh]
    exact genOf_take ho
  have hlen : ∀ {o}, o < h.length → lenOf h o = lenOf h1 o := fun {o} ho => by
    conv => lhs; rw [← hh]
    exact lenOf_take ho
  have hmap : ∀ {o}, o < h.length → isMap h o = isMap h1 o := fun {o} ho => by
    conv => lhs; rw [← hh]
    exact isMap_take ho
  have hloop : ∀ {o}, o < h.length → isLoop h o = isLoop h1 o := fun {o} ho => by
    conv => lhs; rw [← hh]
    exact isLoop_take ho
  have ptr_case : ∀ {o off g : Nat} {v' : Value}, o < h.length → VR s1 h1 w1 (.ptr o off g) v' → VR (s1.cut h.length) h w1 (.ptr o off g) v' := by
    intro o off g v' ho H'
    cases H' with
    | ptr _ _ _ b h1' h2' => exact .ptr _ _ _ b (by rw [hg ho]; exact h1') (by simp [Sim.cut, ho, h2'])
    | ptrOld _ _ _ g' a h1' h2' => exact .ptrOld _ _ _ g' a (by rw [hg ho]; exact h1') h2'
  have map_case : ∀ {o : Nat} {v' : Value}, o < h.length → VR s1 h1 w1 (.map o) v' → VR (s1.cut h.length) h w1 (.map o) v' := by
    intro o v' ho H'
    cases H' with
    | map _ b' k1' k2' => exact .map _ b' (by rw [hmap ho]; exact k1') (by simp [Sim.cut, ho, k2'])
    | mapOld _ g' b' k1' k2' => exact .mapOld _ g' b' (by rw [hg ho]; exact k1') k2'
  have yld_case : ∀ {o : Nat} {v' : Value}, o < h.length → VR s1 h1 w1 (.yld o) v' → VR (s1.cut h.length) h w1 (.yld o) v' := by
    intro o v' ho H'
    cases H' with
    | yld _ b' k1' k2' => exact .yld _ b' (by rw [hloop ho]; exact k1') (by simp [Sim.cut, ho, k2'])
    | yldOld _ g' b' k1' k2' => exact .yldOld _ g' b' (by rw [hg ho]; exact k1') k2'
  have msl_case : ∀ {o off len z g : Nat} {cap : Option Nat} {v' : Value}, o < h.length → VR s1 h1 w1 (.msl o off len z g cap) v' → VR (s1.cut h.length) h w1 (.msl o off len z g cap) v' := by
    intro o off len z g cap v' ho H'
    cases H' with
    | msl _ _ _ _ _ _ b c el n off' k0 k1 k2 k3 k4 k5 k6 k7 => exact .msl _ _ _ _ _ _ b c el n off' k0 (by rw [hg ho]; exact k1) (by simp [Sim.cut, ho, k2]) k3 k4 (fun hc => by rw [hlen ho]; exact k5 hc) k6 k7
    | mslOld _ _ _ _ _ _ g' a n c k1 k2 => exact .mslOld _ _ _ _ _ _ g' a n c (by rw [hg ho]; exact k1) k2
  induction H with
  | bool b => intro v' H'; cases H'; exact .bool _
  | int k n => intro v' H'; cases H'; exact .int _ _
  | str l => intro v' H'; cases H'; exact .str _
  | nilPtr => intro v' H'; cases H'; exact .nilPtr
  | nilMap => intro v' H'; cases H'; exact .nilMap
  | nilFunc => intro v' H'; cases H'; exact .nilFunc
  | nilIface => intro v' H'; cases H'; exact .nilIface
  | junk v => intro v' H'; exact .junk _
  | ptr o off g b k1 k2 => intro v' H'; exact ptr_case (genOf_lt k1) H'
  | ptrOld o off g g' a k1 k2 => intro v' H'; exact ptr_case (genOf_lt k1) H'
  | ref cs b off f hI hc hr ih =>
    intro v' H'
    cases H' with
    | ref _ b' off' f' hI' hc' hr' => exact .ref _ b' off' f' (fun h0 => .inl (hI' h0)) hc' (fun i c hi => ih i c hi (hr' i c hi))
  | lstNil z =>
    intro v' H'
    cases H' with
    | lstNil => exact .lstNil _
    | lst _ _ _ b off c f k1 k2 => exact k2.elim
  | lstEmpty z A =>
    intro v' H'
    cases H' with
    | lstEmpty _ A' => exact .lstEmpty _ A'
    | lst _ _ _ b off c f k1 k2 k3 k4 k5 k6 => exact .lst _ _ _ b off c f (fun h0 => by simp at h0) k2 k3 k4 k5 (fun i j x y hx => by simp at hx)
  | lst xs z r b off c f hI hr hle hz hc hrr ih =>
    intro v' H'
    cases H' with
    | lstNil => exact .lstNil _
    | lstEmpty _ A' => exact .lstEmpty _ A'
    | lst _ _ _ b' off' c' f' k1 k2 k3 k4 k5 k6 => exact .lst _ _ _ b' off' c' f' (fun h0 => .inl (k1 h0)) k2 k3 k4 k5 (fun i j x y hx hy => ih i j x y hx hy (k6 i j x y hx hy))
  | msl o off len z g cap b c el n off' k0 k1 => intro v' H'; exact msl_case (genOf_lt k1) H'
  | mslOld o off len z g cap g' a n c k1 k2 => intro v' H'; exact msl_case (genOf_lt k1) H'
  | clo f cs vs hl hr ih =>
    intro v' H'
    cases H' with
    | clo _ _ vs' hl' hr' => exact .clo _ _ vs' hl' (fun i c hi => ih i c hi (hr' i c hi))
  | bnd f cs vs hl hr ih =>
    intro v' H'
    cases H' with
    | bnd _ _ vs' hl' hr' => exact .bnd _ _ vs' hl' (fun i c hi => ih i c hi (hr' i c hi))
  | map o b k1 k2 =>
    intro v' H'
    have ho := isMap_lt k1
    exact map_case ho H'
  | mapOld o g b k1 k2 => intro v' H'; exact map_case (genOf_lt k1) H'
  | yld o b k1 k2 =>
    intro v' H'
    have ho := isLoop_lt k1
    exact yld_case ho H'
  | yldOld o g b k1 k2 => intro v' H'; exact yld_case (genOf_lt k1) H'
  | iface t x v hx ih =>
    intro v' H'
    cases H' with
    | iface _ _ v'' hx' => exact .iface _ _ _ (ih hx')
  | agg cs vs hl hr ih =>
    intro v' H'
    cases H' with
    | agg _ vs' hl' hr' => exact .agg _ vs' hl' (fun i c hi => ih i c hi (hr' i c hi))
  | tup cs vs hl hr ih =>
    intro v' H'
    cases H' with
    | tup _ vs' hl' hr' => exact .tup _ vs' hl' (fun i c hi => ih i c hi (hr' i c hi))

theorem Ext.cut (E : Ext s h w s1 h1 w1) (hh : h1.take h.length = h) : Ext s h w (s1.cut h.length) h w1 where
  size := E.size
  far := E.far
  shape := E.shape
  imm := fun b hb => .inl (E.imm b hb)
  gen := fun o g hg => ⟨g, hg, Nat.le_refl _⟩
  same := fun o g hg _ => ⟨fun b hb => by
    have ho := genOf_lt hg
    have : genOf h1 o = some g := by rw [← genOf_take (h1 := h1) ho, hh]; exact hg
    simp [Sim.cut, ho, (E.same o g hg this).1 b hb], rfl⟩
  kind := fun _ h _ => h
  own := fun o b hb => by
    simp only [Sim.cut] at hb
    split at hb
    · exact E.own o b hb
    · cases hb
  os := E.os
  tape := E.tape
  output := E.output
  kindL := fun _ h => h
  good := E.good
  old := fun o b ho hb => by
    simp only [Sim.cut, ho, if_true] at hb
    exact E.old o b ho hb
  kept := fun _ _ _ => rfl
  immOld := fun b hb h => by
    rcases h with h | ⟨o, _, ho⟩
    · exact E.immOld b hb h
    · rcases E.own o b ho with h | h
      · exact .inr h
      · omega

theorem Rel.cut (R : Rel s h w) (R1 : Rel s1 h1 w1) (hO : Ext s h w s1 h1 w1) (hh : h1.take h.length = h) : Rel (s1.cut h.length) h w1 where
  inj := fun o o' b h1' h2' => by
    simp only [Sim.cut] at h1' h2'
    split at h1' <;> split at h2' <;> first | exact R1.inj _ _ _ h1' h2' | cases h1' | cases h2'
  obj := fun o b hb => by
    simp only [Sim.cut] at hb
    split at hb
    · rename_i ho
      obtain ⟨x, hx, hr⟩ := R1.obj o b hb
      have hx' : h[o]? = some x := by rw [← hh, List.getElem?_take_of_lt ho]; exact hx
      refine ⟨x, hx', ?_⟩
      obtain ⟨b0, hb0⟩ := hO.old o b ho hb
      obtain ⟨y, hy, hr0⟩ := R.obj o b0 hb0
      rw [hx'] at hy
      injection hy with hy; subst hy
      cases x with
      | cells cs g =>
        obtain ⟨bc, el, k1, k2, k3⟩ := hr
        obtain ⟨_, _, _, _, k3'⟩ := hr0
        refine ⟨bc, el, k1, k2, fun i c hi => ?_⟩
        obtain ⟨v, hv, hvr⟩ := k3 i c hi
        obtain ⟨v0, _, hvr0⟩ := k3' i c hi
        exact ⟨v, hv, hvr0.cut hh hvr⟩
      | map es =>
        obtain ⟨es0, hp0, en, cl, k1, k2, k3⟩ := hr
        obtain ⟨es1, hp1, _, _, _, _, k3'⟩ := hr0
        refine ⟨es0, hp0, en, cl, k1, k2, k3.1, fun i c hi => ?_⟩
        obtain ⟨m, hm, hm1, hm2⟩ := k3.2 i c hi
        obtain ⟨i', hi'⟩ := List.getElem?_of_mem (hp1.1.mem_iff.2 (hp0.1.mem_iff.1 (List.mem_of_getElem? hi)))
        obtain ⟨m0, _, hn1, hn2⟩ := k3'.2 i' c hi'
        exact ⟨m, hm, hn1.cut hh hm1, hn2.cut hh hm2⟩
      | loop r =>
        obtain ⟨rec, k1, k2, k3, k4⟩ := hr
        obtain ⟨_, _, _, k3', _⟩ := hr0
        exact ⟨rec, k1, k2, fun t => (k3' t).cut hh (k3 t), k4⟩
      | iter k es =>
        obtain ⟨bm, since, seen, last, en, cl, k1, k2, k3, k4, k5⟩ := hr
        obtain ⟨_, _, _, _, _, _, _, _, _, k4', k5'⟩ := hr0
        refine ⟨bm, since, seen, last, en, cl, k1, .inl k2, k3, fun hk => ?_, fun hk => ?_⟩
        · obtain ⟨q1, q2, q3, q4, q5, es0, hp0, q6⟩ := k4 hk
          obtain ⟨_, _, _, _, _, es1, hp1, q6'⟩ := k4' hk
          refine ⟨q1, q2, q3, q4, q5, es0, hp0, fun i c hi => ?_⟩
          obtain ⟨m, hm, hm1, hm2⟩ := q6 i c hi
          obtain ⟨i', hi'⟩ := List.getElem?_of_mem (hp1.1.mem_iff.2 (hp0.1.mem_iff.1 (List.mem_of_getElem? hi)))
          obtain ⟨m0, _, hn1, hn2⟩ := q6' i' c hi'
          exact ⟨m, hm, hn1.cut hh hm1, hn2.cut hh hm2⟩
        · obtain ⟨q1, q2, q3, q4⟩ := k5 hk
          obtain ⟨_, _, _, q4'⟩ := k5' hk
          refine ⟨q1, q2, q3, fun e he => ?_⟩
          obtain ⟨m, hm, hm0, hm1, hm2⟩ := q4 e he
          obtain ⟨m0, _, _, hn1, hn2⟩ := q4' e he
          exact ⟨m, hm, hm0, hn1.cut hh hm1, hn2.cut hh hm2⟩
    · cases hb
  apart := fun o b hb hI => by
    simp only [Sim.cut] at hb hI
    split at hb
    · rename_i ho
      rcases hI with hI | ⟨o', ho', hb'⟩
      · exact R1.apart o b hb hI
      · have := R1.inj o o' b hb hb'; omega
    · cases hb
  imm := fun b hI => by
    rcases hI with hI | ⟨o', ho', hb'⟩
    · exact R1.imm b hI
    · exact R1.lt hb'

theorem freeze_cells {n d : Nat} {x x' : AV} (hf : freezeV h1 n d x = some x') : x'.cells.length = x.cells.length ∧ ∀ (j : Nat) y, x.cells[j]? = some y → ∃ y' d', d' ≤ d ∧ x'.cells[j]? = some y' ∧ freezeV h1 n d' y = some y' := by
  cases d with
  | zero => simp [freezeV] at hf
  | succ d =>
    have one : ∀ x' : AV, freezeV h1 n (d + 1) x = some x' → x.cells = [x] → x'.cells = [x'] → x'.cells.length = x.cells.length ∧ ∀ (j : Nat) y, x.cells[j]? = some y → ∃ y' d', d' ≤ d + 1 ∧ x'.cells[j]? = some y' ∧ freezeV h1 n d' y = some y' := by
      intro x' hf h1' h2'
      rw [h1', h2']
      refine ⟨rfl, fun j y hj => ?_⟩
      cases j with
      | zero => simp at hj; subst hj; exact ⟨x', d + 1, Nat.le_refl _, rfl, hf⟩
      | succ j => simp at hj
    have hf0 := hf
    cases x <;> simp only [freezeV] at hf
    case agg cs =>
      obtain ⟨cs', hcs, rfl⟩ := Option.map_eq_some_iff.1 hf
      obtain ⟨k1, k2⟩ := mapO_get hcs
      refine ⟨k1, fun j y hj => ?_⟩
      obtain ⟨b, hb, hfb⟩ := k2 j y hj
      exact ⟨b, d, by omega, hb, hfb⟩
    case ptr o off g =>
      split at hf
      · injection hf with hf; subst hf; exact one _ hf0 rfl rfl
      · simp only [Option.bind_eq_bind] at hf
        obtain ⟨_, _, hf⟩ := Option.bind_eq_some_iff.1 hf
        obtain ⟨_, _, hf⟩ := Option.bind_eq_some_iff.1 hf
        injection hf with hf; subst hf; exact one _ hf0 rfl rfl
    case msl o off len sz g cap =>
      split at hf
      · injection hf with hf; subst hf; exact one _ hf0 rfl rfl
      · simp only [Option.bind_eq_bind] at hf
        obtain ⟨_, _, hf⟩ := Option.bind_eq_some_iff.1 hf
        split at hf
        · obtain ⟨_, _, hf⟩ := Option.bind_eq_some_iff.1 hf
          injection hf with hf; subst hf; exact one _ hf0 rfl rfl
        · cases hf
    case map o =>
      split at hf
      · injection hf with hf; subst hf; exact one _ hf0 rfl rfl
      · cases hf
    case yld l => cases hf
    case ref cs => obtain ⟨cs', hcs, rfl⟩ := Option.map_eq_some_iff.1 hf; exact one _ hf0 rfl rfl
    case tup cs => obtain ⟨cs', hcs, rfl⟩ := Option.map_eq_some_iff.1 hf; exact one _ hf0 rfl rfl
    case clo f cs => obtain ⟨cs', hcs, rfl⟩ := Option.map_eq_some_iff.1 hf; exact one _ hf0 rfl rfl
    case bnd f cs => obtain ⟨cs', hcs, rfl⟩ := Option.map_eq_some_iff.1 hf; exact one _ hf0 rfl rfl
    case lst xs z r => obtain ⟨cs', hcs, rfl⟩ := Option.map_eq_some_iff.1 hf; exact one _ hf0 rfl rfl
    case iface t x => obtain ⟨cs', hcs, rfl⟩ := Option.map_eq_some_iff.1 hf; exact one _ hf0 rfl rfl
    all_goals (injection hf with hf; subst hf; exact one _ hf0 rfl rfl)

theorem freeze_rel (R1 : Rel s1 h1 w1) {n : Nat} (hn : n ≤ h1.length) : ∀ (D : Nat) {d : Nat}, d ≤ D → ∀ {v v' : AV} {u : Value}, freezeV h1 n d v = some v' → VR s1 h1 w1 v u → VR (s1.cut n) (h1.take n) w1 v' u := by
  intro D
  induction D with
  | zero =>
    intro d hd v v' u hf _
    obtain rfl : d = 0 := by omega
    simp [freezeV] at hf
  | succ D ih =>
    intro d hd v v' u hf hv
    cases d with
    | zero => simp [freezeV] at hf
    | succ d =>
      have ih' : ∀ {v v' : AV} {u : Value}, freezeV h1 n d v = some v' → VR s1 h1 w1 v u → VR (s1.cut n) (h1.take n) w1 v' u := fun hf hv => ih (d := d) (by omega) hf hv
      cases v <;> simp only [freezeV] at hf
      case bool b => injection hf with hf; subst hf; cases hv; exact .bool _
      case int k i => injection hf with hf; subst hf; cases hv; exact .int _ _
      case str l => injection hf with hf; subst hf; cases hv; exact .str _
      case nilPtr => injection hf with hf; subst hf; cases hv; exact .nilPtr
      case nilMap => injection hf with hf; subst hf; cases hv; exact .nilMap
      case nilFunc => injection hf with hf; subst hf; cases hv; exact .nilFunc
      case nilIface => injection hf with hf; subst hf; cases hv; exact .nilIface
      case junk => injection hf with hf; subst hf; exact .junk _
      case yld l => cases hf
      case map o =>
        split at hf
        · rename_i ho
          injection hf with hf; subst hf
          cases hv with
          | map _ b k1 k2 => exact .map _ b (by rw [isMap_take ho]; exact k1) (by simp [Sim.cut, ho, k2])
          | mapOld _ g' b k1 k2 => exact .mapOld _ g' b (by rw [genOf_take ho]; exact k1) k2
        · cases hf
      case ptr o off g =>
        split at hf
        · rename_i ho
          injection hf with hf; subst hf
          cases hv with
          | ptr _ _ _ b k1 k2 => exact .ptr _ _ _ b (by rw [genOf_take ho]; exact k1) (by simp [Sim.cut, ho, k2])
          | ptrOld _ _ _ g' a k1 k2 => exact .ptrOld _ _ _ g' a (by rw [genOf_take ho]; exact k1) k2
        · rename_i ho
          simp only [Option.bind_eq_bind] at hf
          replace hf := Option.bind_eq_some_iff.1 hf
          obtain ⟨cs, hcs, hf⟩ := hf
          replace hf := Option.bind_eq_some_iff.1 hf
          obtain ⟨cs', hcs', hf⟩ := hf
          injection hf with hf; subst hf
          obtain ⟨k1, k2⟩ := mapO_get hcs'
          cases hv with
          | ptrOld _ _ _ g' a e1 e2 => have := (genOf_obj hcs).1; rw [this] at e1; injection e1; omega
          | ptr _ _ _ b e1 e2 =>
            have hread := (obj_reads R1 hcs e2).drop off
            have key : ∀ (i : Nat) c', cs'[i]? = some c' → ∃ v, w1.cell? ⟨b, off + i, none⟩ = some v ∧ VR (s1.cut n) (h1.take n) w1 c' v := by
              intro i c' hi
              have hlt : i < (cs.drop off).length := by rw [← k1]; exact (List.getElem?_eq_some_iff.1 hi).1
              obtain ⟨b', hb', hfb⟩ := k2 i _ (List.getElem?_eq_getElem hlt)
              rw [hi] at hb'
              injection hb' with hb'; subst hb'
              obtain ⟨v, hv, hvr⟩ := hread i _ (List.getElem?_eq_getElem hlt)
              exact ⟨v, by simpa using hv, ih' hfb hvr⟩
            refine .ref cs' b off (fun i => (w1.cell? ⟨b, off + i, none⟩).getD undef) (fun _ => .inr ⟨o, by omega, e2⟩) (fun i c hi => ?_) (fun i c hi => ?_)
            · obtain ⟨v, hv, _⟩ := key i c hi
              rw [hv]; rfl
            · obtain ⟨v, hv, hvr⟩ := key i c hi
              rw [hv]; exact hvr
      case msl o off len sz g cap =>
        split at hf
        · rename_i ho
          injection hf with hf; subst hf
          cases hv with
          | msl _ _ _ _ _ _ b c el m off' k0 k1 k2 k3 k4 k5 k6 k7 => exact .msl _ _ _ _ _ _ b c el m off' k0 (by rw [genOf_take ho]; exact k1) (by simp [Sim.cut, ho, k2]) k3 k4 (fun hc => by rw [lenOf_take ho]; exact k5 hc) k6 k7
          | mslOld _ _ _ _ _ _ g' a m c k1 k2 => exact .mslOld _ _ _ _ _ _ g' a m c (by rw [genOf_take ho]; exact k1) k2
        · rename_i ho
          simp only [Option.bind_eq_bind] at hf
          replace hf := Option.bind_eq_some_iff.1 hf
          obtain ⟨cs, hcs, hf⟩ := hf
          split at hf
          · rename_i hle
            replace hf := Option.bind_eq_some_iff.1 hf
            obtain ⟨cs', hcs', hf⟩ := hf
            injection hf with hf; subst hf
            obtain ⟨k1, k2⟩ := mapO_get hcs'
            cases hv with
            | mslOld _ _ _ _ _ _ g' a m c e1 e2 => have := (genOf_obj hcs).1; rw [this] at e1; injection e1; omega
            | msl _ _ _ _ _ _ b c el m off' e0 e1 e2 e3 e4 e5 e6 e7 =>
              by_cases hl0 : len = 0
              · subst hl0
                exact lst_empty _ _ _ _ _ trivial
              · obtain rfl : off' = off := e0.resolve_right (by omega)
                have hread := ((obj_reads R1 hcs e2).drop off').take (len * sz)
                refine lst_of_cells (fun _ => .inr ⟨o, by omega, e2⟩) (by rw [k1]; simp; omega) (fun i c' hi => ?_) trivial e3
                have hlt : i < ((cs.drop off').take (len * sz)).length := by rw [← k1]; exact (List.getElem?_eq_some_iff.1 hi).1
                obtain ⟨b', hb', hfb⟩ := k2 i _ (List.getElem?_eq_getElem hlt)
                rw [hi] at hb'
                injection hb' with hb'; subst hb'
                obtain ⟨v, hv, hvr⟩ := hread i _ (List.getElem?_eq_getElem hlt)
                exact ⟨v, by simpa using hv, ih' hfb hvr⟩
          · cases hf
      case ref cs =>
        obtain ⟨cs', hcs, rfl⟩ := Option.map_eq_some_iff.1 hf
        obtain ⟨k1, k2⟩ := mapO_get hcs
        cases hv with
        | ref _ b off f e1 e2 e3 =>
          have key : ∀ (i : Nat) c', cs'[i]? = some c' → ∃ c, cs[i]? = some c ∧ freezeV h1 n d c = some c' := by
            intro i c' hi
            have hlt : i < cs.length := by rw [← k1]; exact (List.getElem?_eq_some_iff.1 hi).1
            obtain ⟨b', hb', hfb⟩ := k2 i _ (List.getElem?_eq_getElem hlt)
            rw [hi] at hb'
            injection hb' with hb'; subst hb'
            exact ⟨_, List.getElem?_eq_getElem hlt, hfb⟩
          refine .ref _ b off f (fun h0 => .inl (e1 (by omega))) (fun i c' hi => ?_) (fun i c' hi => ?_)
          · obtain ⟨c, hc, _⟩ := key i c' hi
            exact e2 i c hc
          · obtain ⟨c, hc, hfc⟩ := key i c' hi
            exact ih' hfc (e3 i c hc)
      case lst xs z r =>
        obtain ⟨xs', hxs, rfl⟩ := Option.map_eq_some_iff.1 hf
        obtain ⟨k1, k2⟩ := mapO_get hxs
        cases hv with
        | lstNil =>
          simp only [mapO, Option.some.injEq] at hxs
          subst hxs
          exact .lstNil _
        | lstEmpty _ A =>
          simp only [mapO, Option.some.injEq] at hxs
          subst hxs
          exact .lstEmpty _ A
        | lst _ _ _ b off c f e1 e2 e3 e4 e5 e6 =>
          have key : ∀ (i : Nat) x', xs'[i]? = some x' → ∃ x, xs[i]? = some x ∧ freezeV h1 n d x = some x' := by
            intro i x' hi
            have hlt : i < xs.length := by rw [← k1]; exact (List.getElem?_eq_some_iff.1 hi).1
            obtain ⟨b', hb', hfb⟩ := k2 i _ (List.getElem?_eq_getElem hlt)
            rw [hi] at hb'
            injection hb' with hb'; subst hb'
            exact ⟨_, List.getElem?_eq_getElem hlt, hfb⟩
          have cell : ∀ (i j : Nat) x' y', xs'[i]? = some x' → x'.cells[j]? = some y' → ∃ x y d', d' ≤ d ∧ xs[i]? = some x ∧ x.cells[j]? = some y ∧ freezeV h1 n d' y = some y' := by
            intro i j x' y' hi hj
            obtain ⟨x, hx, hfx⟩ := key i x' hi
            obtain ⟨m1, m2⟩ := freeze_cells hfx
            have hlt : j < x.cells.length := by rw [← m1]; exact (List.getElem?_eq_some_iff.1 hj).1
            obtain ⟨y'', d', hd', hy'', hfy⟩ := m2 j _ (List.getElem?_eq_getElem hlt)
            rw [hj] at hy''
            injection hy'' with hy''; subst hy''
            exact ⟨x, _, d', hd', hx, List.getElem?_eq_getElem hlt, hfy⟩
          have := VR.lst (s := s1.cut n) (h := h1.take n) (w := w1) xs' z r b off c f (fun h0 => .inl (e1 (by omega))) e2 (by omega)
            (fun i x' hi => by
              obtain ⟨x, hx, hfx⟩ := key i x' hi
              rw [(freeze_cells hfx).1]; exact e4 i x hx)
            (fun i j x' y' hi hj => by
              obtain ⟨x, y, d', _, hx, hy, _⟩ := cell i j x' y' hi hj
              exact e5 i j x y hx hy)
            (fun i j x' y' hi hj => by
              obtain ⟨x, y, d', hd', hx, hy, hfy⟩ := cell i j x' y' hi hj
              exact ih (d := d') (by omega) hfy (e6 i j x y hx hy))
          rw [k1] at this
          exact this
      case clo f cs =>
        obtain ⟨cs', hcs, rfl⟩ := Option.map_eq_some_iff.1 hf
        obtain ⟨k1, k2⟩ := mapO_get hcs
        cases hv with
        | clo _ _ vs hl hr =>
          refine .clo _ _ vs (by omega) fun i c' hi => ?_
          have hlt : i < cs.length := by rw [← k1]; exact (List.getElem?_eq_some_iff.1 hi).1
          obtain ⟨b', hb', hfb⟩ := k2 i _ (List.getElem?_eq_getElem hlt)
          rw [hi] at hb'
          injection hb' with hb'; subst hb'
          exact ih' hfb (hr i _ (List.getElem?_eq_getElem hlt))
      case bnd f cs =>
        obtain ⟨cs', hcs, rfl⟩ := Option.map_eq_some_iff.1 hf
        obtain ⟨k1, k2⟩ := mapO_get hcs
        cases hv with
        | bnd _ _ vs hl hr =>
          refine .bnd _ _ vs (by omega) fun i c' hi => ?_
          have hlt : i < cs.length := by rw [← k1]; exact (List.getElem?_eq_some_iff.1 hi).1
          obtain ⟨b', hb', hfb⟩ := k2 i _ (List.getElem?_eq_getElem hlt)
          rw [hi] at hb'
          injection hb' with hb'; subst hb'
          exact ih' hfb (hr i _ (List.getElem?_eq_getElem hlt))
      case agg cs =>
        obtain ⟨cs', hcs, rfl⟩ := Option.map_eq_some_iff.1 hf
        obtain ⟨k1, k2⟩ := mapO_get hcs
        cases hv with
        | agg _ vs hl hr =>
          refine .agg _ vs (by omega) fun i c' hi => ?_
          have hlt : i < cs.length := by rw [← k1]; exact (List.getElem?_eq_some_iff.1 hi).1
          obtain ⟨b', hb', hfb⟩ := k2 i _ (List.getElem?_eq_getElem hlt)
          rw [hi] at hb'
          injection hb' with hb'; subst hb'
          exact ih' hfb (hr i _ (List.getElem?_eq_getElem hlt))
      case tup cs =>
        obtain ⟨cs', hcs, rfl⟩ := Option.map_eq_some_iff.1 hf
        obtain ⟨k1, k2⟩ := mapO_get hcs
        cases hv with
        | tup _ vs hl hr =>
          refine .tup _ vs (by omega) fun i c' hi => ?_
          have hlt : i < cs.length := by rw [← k1]; exact (List.getElem?_eq_some_iff.1 hi).1
          obtain ⟨b', hb', hfb⟩ := k2 i _ (List.getElem?_eq_getElem hlt)
          rw [hi] at hb'
          injection hb' with hb'; subst hb'
          exact ih' hfb (hr i _ (List.getElem?_eq_getElem hlt))
      case iface t x =>
        obtain ⟨x', hx, rfl⟩ := Option.map_eq_some_iff.1 hf
        cases hv with
        | iface _ _ v hv => exact .iface _ _ _ (ih' hx hv)
end
end Go.Rv
