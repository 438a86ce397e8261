/-
  A call that changed nothing of what was there: its answer made immutable, its own objects forgotten.
-/
import Derived.Test.YthljjckomhnhoaaGreatDoorPtD
import Derived.LoopNIn
import Derived.RangeFuncRecord
import Derived.OrdersIn
import Derived.Orders
set_option linter.unusedSectionVars false
set_option linter.unusedSimpArgs false
set_option linter.unusedVariables false
set_option linter.defProp false
namespace Go.Rv
section
variable {P : Program} {C : Cfg} {s s1 : Sim} {h h1 : Heap} {w w1 : World}
def Sim.cut (s : Sim) (n : Nat) : Sim := { μ := fun o => if o < n then s.μ o else none, I := fun b => s.I b ∨ ∃ o, n <= o /\ s.μ o = some b, good := s.good }
theorem genOf_take {o n : Nat} (ho : o < n) : genOf (h1.take n) o = genOf h1 o := by
 unfold genOf; rw [qBa ho]
theorem lenOf_take {o n : Nat} (ho : o < n) : lenOf (h1.take n) o = lenOf h1 o := by
 unfold lenOf; rw [qBa ho]
theorem isMap_take {o n : Nat} (ho : o < n) : isMap (h1.take n) o = isMap h1 o := by
 unfold isMap; rw [qBa ho]
theorem isLoop_take {o n : Nat} (ho : o < n) : isLoop (h1.take n) o = isLoop h1 o := by
 unfold isLoop; rw [qBa ho]
theorem isLoop_lt {o : Nat} (hm : isLoop h o = true) : o < h.length := genOf_lt (genOf_loop hm)
theorem isMap_lt {o : Nat} (hm : isMap h o = true) : o < h.length := genOf_lt (genOf_map hm)
theorem VR.cut (hh : h1.take h.length = h) {x : AV} {v : Value} (H : VR s h w x v) : ∀ {v' : Value}, VR s1 h1 w1 x v' -> VR (s1.cut h.length) h w1 x v' := by
 have hg : ∀ {o}, o < h.length -> genOf h o = genOf h1 o := fun {o} ho => by
  conv => lhs; rw [← hh]
  exact genOf_take ho
 have hlen : ∀ {o}, o < h.length -> lenOf h o = lenOf h1 o := fun {o} ho => by
  conv => lhs; rw [← hh]
  exact lenOf_take ho
 have hmap : ∀ {o}, o < h.length -> isMap h o = isMap h1 o := fun {o} ho => by
  conv => lhs; rw [← hh]
  exact isMap_take ho
 have hloop : ∀ {o}, o < h.length -> isLoop h o = isLoop h1 o := fun {o} ho => by
  conv => lhs; rw [← hh]
  exact isLoop_take ho
 have ptr_case : ∀ {o off g : Nat} {v' : Value}, o < h.length -> VR s1 h1 w1 (.ptr o off g) v' -> VR (s1.cut h.length) h w1 (.ptr o off g) v' := by
  intro o off g v' ho H'
  cases H' with
  | ptr _ _ _ b h1' h2' => exact .ptr _ _ _ b (by rw [hg ho]; exact h1') (by simp [Sim.cut, ho, h2'])
  | ptrOld _ _ _ g' a h1' h2' => exact .ptrOld _ _ _ g' a (by rw [hg ho]; exact h1') h2'
 have map_case : ∀ {o : Nat} {v' : Value}, o < h.length -> VR s1 h1 w1 (.map o) v' -> VR (s1.cut h.length) h w1 (.map o) v' := by
  intro o v' ho H'
  cases H' with
  | map _ b' k1' k2' => exact .map _ b' (by rw [hmap ho]; exact k1') (by simp [Sim.cut, ho, k2'])
  | mapOld _ g' b' k1' k2' => exact .mapOld _ g' b' (by rw [hg ho]; exact k1') k2'
 have yld_case : ∀ {o : Nat} {v' : Value}, o < h.length -> VR s1 h1 w1 (.yld o) v' -> VR (s1.cut h.length) h w1 (.yld o) v' := by
  intro o v' ho H'
  cases H' with
  | yld _ b' k1' k2' => exact .yld _ b' (by rw [hloop ho]; exact k1') (by simp [Sim.cut, ho, k2'])
  | yldOld _ g' b' k1' k2' => exact .yldOld _ g' b' (by rw [hg ho]; exact k1') k2'
 have msl_case : ∀ {o off len z g : Nat} {cap : Option Nat} {v' : Value}, o < h.length -> VR s1 h1 w1 (.msl o off len z g cap) v' -> VR (s1.cut h.length) h w1 (.msl o off len z g cap) v' := by
  intro o off len z g cap v' ho H'
  cases H' with
  | msl _ _ _ _ _ _ b c el n off' k0 k1 k2 k3 k4 k5 k6 k7 => exact .msl _ _ _ _ _ _ b c el n off' k0 (by rw [hg ho]; exact k1) (by simp [Sim.cut, ho, k2]) k3 k4 (fun hc => by rw [hlen ho]; exact k5 hc) k6 k7
  | mslOld _ _ _ _ _ _ g' a n c k1 k2 => exact .mslOld _ _ _ _ _ _ g' a n c (by rw [hg ho]; exact k1) k2
 induction H with
 | bool b => intro v' H'; cases H'; exact .bool _
 | int k n => intro v' H'; cases H'; exact .int _ _
 | str l => intro v' H'; cases H'; exact .str _
 | nilPtr => intro v' H'; cases H'; exact .nilPtr
 | nilMap => intro v' H'; cases H'; exact .nilMap
 | nilFunc => intro v' H'; cases H'; exact .nilFunc
 | nilIface => intro v' H'; cases H'; exact .nilIface
 | junk v => intro v' H'; exact .junk _
 | ptr o off g b k1 k2 => intro v' H'; exact ptr_case (genOf_lt k1) H'
 | ptrOld o off g g' a k1 k2 => intro v' H'; exact ptr_case (genOf_lt k1) H'
 | ref cs b off f hI hc hr ih =>
  intro v' H'
  cases H' with
  | ref _ b' off' f' hI' hc' hr' => exact .ref _ b' off' f' (fun h0 => .inl (hI' h0)) hc' (fun i c hi => ih i c hi (hr' i c hi))
 | lstNil z =>
  intro v' H'
  cases H' with
  | lstNil => exact .lstNil _
  | lst _ _ _ b off c f k1 k2 => exact k2.elim
 | lstEmpty z A =>
  intro v' H'
  cases H' with
  | lstEmpty _ A' => exact .lstEmpty _ A'
  | lst _ _ _ b off c f k1 k2 k3 k4 k5 k6 => exact .lst _ _ _ b off c f (fun h0 => by simp at h0) k2 k3 k4 k5 (fun i j x y hx => by simp at hx)
 | lst xs z r b off c f hI hr hle hz hc hrr ih =>
  intro v' H'
  cases H' with
  | lstNil => exact .lstNil _
  | lstEmpty _ A' => exact .lstEmpty _ A'
  | lst _ _ _ b' off' c' f' k1 k2 k3 k4 k5 k6 => exact .lst _ _ _ b' off' c' f' (fun h0 => .inl (k1 h0)) k2 k3 k4 k5 (fun i j x y hx hy => ih i j x y hx hy (k6 i j x y hx hy))
 | msl o off len z g cap b c el n off' k0 k1 => intro v' H'; exact msl_case (genOf_lt k1) H'
 | mslOld o off len z g cap g' a n c k1 k2 => intro v' H'; exact msl_case (genOf_lt k1) H'
 | clo f cs vs hl hr ih =>
  intro v' H'
  cases H' with
  | clo _ _ vs' hl' hr' => exact .clo _ _ vs' hl' (fun i c hi => ih i c hi (hr' i c hi))
 | bnd f cs vs hl hr ih =>
  intro v' H'
  cases H' with
  | bnd _ _ vs' hl' hr' => exact .bnd _ _ vs' hl' (fun i c hi => ih i c hi (hr' i c hi))
 | map o b k1 k2 =>
  intro v' H'
  have ho := isMap_lt k1
  exact map_case ho H'
 | mapOld o g b k1 k2 => intro v' H'; exact map_case (genOf_lt k1) H'
 | yld o b k1 k2 =>
  intro v' H'
  have ho := isLoop_lt k1
  exact yld_case ho H'
 | yldOld o g b k1 k2 => intro v' H'; exact yld_case (genOf_lt k1) H'
 | iface t x v hx ih =>
  intro v' H'
  cases H' with
  | iface _ _ v'' hx' => exact .iface _ _ _ (ih hx')
 | agg cs vs hl hr ih =>
  intro v' H'
  cases H' with
  | agg _ vs' hl' hr' => exact .agg _ vs' hl' (fun i c hi => ih i c hi (hr' i c hi))
 | tup cs vs hl hr ih =>
  intro v' H'
  cases H' with
  | tup _ vs' hl' hr' => exact .tup _ vs' hl' (fun i c hi => ih i c hi (hr' i c hi))
theorem Ext.cut (E : Ext s h w s1 h1 w1) (hh : h1.take h.length = h) : Ext s h w (s1.cut h.length) h w1 where
 size := E.size
 far := E.far
 shape := E.shape
 imm := fun b hb => .inl (E.imm b hb)
 gen := fun o g hg => ⟨g, hg, qAr _⟩
 same := fun o g hg _ => ⟨fun b hb => by
  have ho := genOf_lt hg
  have : genOf h1 o = some g := by rw [← genOf_take (h1 := h1) ho, hh]; exact hg
  simp [Sim.cut, ho, (E.same o g hg this).1 b hb], rfl⟩
 kind := fun _ h _ => h
 own := fun o b hb => by
  simp only [Sim.cut] at hb
  split at hb
  ·exact E.own o b hb
  ·cases hb
 os := E.os
 tape := E.tape
 output := E.output
 kindL := fun _ h => h
 good := E.good
 old := fun o b ho hb => by
  simp only [Sim.cut, ho, if_true] at hb
  exact E.old o b ho hb
 kept := fun _ _ _ => rfl
 immOld := fun b hb h => by
  rcases h with h | ⟨o, _, ho⟩
  ·exact E.immOld b hb h
  ·rcases E.own o b ho with h | h
   ·exact .inr h
   ·omega
theorem Rel.cut (R : Rel s h w) (R1 : Rel s1 h1 w1) (hO : Ext s h w s1 h1 w1) (hh : h1.take h.length = h) : Rel (s1.cut h.length) h w1 where
 inj := fun o o' b h1' h2' => by
  simp only [Sim.cut] at h1' h2'
  split at h1' <;> split at h2' <;> first | exact R1.inj _ _ _ h1' h2' | cases h1' | cases h2'
 obj := fun o b hb => by
  simp only [Sim.cut] at hb
  split at hb
  ·rename_i ho
   obtain ⟨x, hx, hr⟩ := R1.obj o b hb
   have hx' : h[o]? = some x := by rw [← hh, qBa ho]; exact hx
   refine ⟨x, hx', ?_⟩
   obtain ⟨b0, hb0⟩ := hO.old o b ho hb
   obtain ⟨y, hy, hr0⟩ := R.obj o b0 hb0
   rw [hx'] at hy
   injection hy with hy; subst hy
   cases x with
   | cells cs g =>
    obtain ⟨bc, el, k1, k2, k3⟩ := hr
    obtain ⟨_, _, _, _, k3'⟩ := hr0
    refine ⟨bc, el, k1, k2, fun i c hi => ?_⟩
    obtain ⟨v, hv, hvr⟩ := k3 i c hi
    obtain ⟨v0, _, hvr0⟩ := k3' i c hi
    exact ⟨v, hv, hvr0.cut hh hvr⟩
   | map es =>
    obtain ⟨es0, hp0, en, cl, k1, k2, k3⟩ := hr
    obtain ⟨es1, hp1, _, _, _, _, k3'⟩ := hr0
    refine ⟨es0, hp0, en, cl, k1, k2, k3.1, fun i c hi => ?_⟩
    obtain ⟨m, hm, hm1, hm2⟩ := k3.2 i c hi
    obtain ⟨i', hi'⟩ := List.getElem?_of_mem (hp1.1.mem_iff.2 (hp0.1.mem_iff.1 (qBj hi)))
    obtain ⟨m0, _, hn1, hn2⟩ := k3'.2 i' c hi'
    exact ⟨m, hm, hn1.cut hh hm1, hn2.cut hh hm2⟩
   | loop r =>
    obtain ⟨rec, k1, k2, k3, k4⟩ := hr
    obtain ⟨_, _, _, k3', _⟩ := hr0
    exact ⟨rec, k1, k2, fun t => (k3' t).cut hh (k3 t), k4⟩
   | iter k es =>
    obtain ⟨bm, since, seen, last, en, cl, k1, k2, k3, k4, k5⟩ := hr
    obtain ⟨_, _, _, _, _, _, _, _, _, k4', k5'⟩ := hr0
    refine ⟨bm, since, seen, last, en, cl, k1, .inl k2, k3, fun hk => ?_, fun hk => ?_⟩
    ·obtain ⟨q1, q2, q3, q4, q5, es0, hp0, q6⟩ := k4 hk
     obtain ⟨_, _, _, _, _, es1, hp1, q6'⟩ := k4' hk
     refine ⟨q1, q2, q3, q4, q5, es0, hp0, fun i c hi => ?_⟩
     obtain ⟨m, hm, hm1, hm2⟩ := q6 i c hi
     obtain ⟨i', hi'⟩ := List.getElem?_of_mem (hp1.1.mem_iff.2 (hp0.1.mem_iff.1 (qBj hi)))
     obtain ⟨m0, _, hn1, hn2⟩ := q6' i' c hi'
     exact ⟨m, hm, hn1.cut hh hm1, hn2.cut hh hm2⟩
    ·obtain ⟨q1, q2, q3, q4⟩ := k5 hk
     obtain ⟨_, _, _, q4'⟩ := k5' hk
     refine ⟨q1, q2, q3, fun e he => ?_⟩
     obtain ⟨m, hm, hm0, hm1, hm2⟩ := q4 e he
     obtain ⟨m0, _, _, hn1, hn2⟩ := q4' e he
     exact ⟨m, hm, hm0, hn1.cut hh hm1, hn2.cut hh hm2⟩
  ·cases hb
 apart := fun o b hb hI => by
  simp only [Sim.cut] at hb hI
  split at hb
  ·rename_i ho
   rcases hI with hI | ⟨o', ho', hb'⟩
   ·exact R1.apart o b hb hI
   ·have := R1.inj o o' b hb hb'; omega
  ·cases hb
 imm := fun b hI => by
  rcases hI with hI | ⟨o', ho', hb'⟩
  ·exact R1.imm b hI
  ·exact R1.lt hb'
theorem freeze_cells {n d : Nat} {x x' : AV} (hf : freezeV h1 n d x = some x') : x'.cells.length = x.cells.length /\ ∀ (j : Nat) y, x.cells[j]? = some y -> ∃ y' d', d' <= d /\ x'.cells[j]? = some y' /\ freezeV h1 n d' y = some y' := by
 cases d with
 | zero => simp [freezeV] at hf
 | succ d =>
  have one : ∀ x' : AV, freezeV h1 n (d + 1) x = some x' -> x.cells = [x] -> x'.cells = [x'] -> x'.cells.length = x.cells.length /\ ∀ (j : Nat) y, x.cells[j]? = some y -> ∃ y' d', d' <= d + 1 /\ x'.cells[j]? = some y' /\ freezeV h1 n d' y = some y' := by
   intro x' hf h1' h2'
   rw [h1', h2']
   refine ⟨rfl, fun j y hj => ?_⟩
   cases j with
   | zero => simp at hj; subst hj; exact ⟨x', d + 1, qAr _, rfl, hf⟩
   | succ j => simp at hj
  have hf0 := hf
  cases x <;> simp only [freezeV] at hf
  case agg cs =>
   obtain ⟨cs', hcs, rfl⟩ := qAl.1 hf
   obtain ⟨k1, k2⟩ := mapO_get hcs
   refine ⟨k1, fun j y hj => ?_⟩
   obtain ⟨b, hb, hfb⟩ := k2 j y hj
   exact ⟨b, d, by omega, hb, hfb⟩
  case ptr o off g =>
   split at hf
   ·injection hf with hf; subst hf; exact one _ hf0 rfl rfl
   ·simp only [qAd] at hf
    obtain ⟨_, _, hf⟩ := qAc.1 hf
    obtain ⟨_, _, hf⟩ := qAc.1 hf
    injection hf with hf; subst hf; exact one _ hf0 rfl rfl
  case msl o off len sz g cap =>
   split at hf
   ·injection hf with hf; subst hf; exact one _ hf0 rfl rfl
   ·simp only [qAd] at hf
    obtain ⟨_, _, hf⟩ := qAc.1 hf
    split at hf
    ·obtain ⟨_, _, hf⟩ := qAc.1 hf
     injection hf with hf; subst hf; exact one _ hf0 rfl rfl
    ·cases hf
  case map o =>
   split at hf
   ·injection hf with hf; subst hf; exact one _ hf0 rfl rfl
   ·cases hf
  case yld l => cases hf
  case ref cs => obtain ⟨cs', hcs, rfl⟩ := qAl.1 hf; exact one _ hf0 rfl rfl
  case tup cs => obtain ⟨cs', hcs, rfl⟩ := qAl.1 hf; exact one _ hf0 rfl rfl
  case clo f cs => obtain ⟨cs', hcs, rfl⟩ := qAl.1 hf; exact one _ hf0 rfl rfl
  case bnd f cs => obtain ⟨cs', hcs, rfl⟩ := qAl.1 hf; exact one _ hf0 rfl rfl
  case lst xs z r => obtain ⟨cs', hcs, rfl⟩ := qAl.1 hf; exact one _ hf0 rfl rfl
  case iface t x => obtain ⟨cs', hcs, rfl⟩ := qAl.1 hf; exact one _ hf0 rfl rfl
  all_goals (injection hf with hf; subst hf; exact one _ hf0 rfl rfl)
theorem freeze_rel (R1 : Rel s1 h1 w1) {n : Nat} (hn : n <= h1.length) : ∀ (D : Nat) {d : Nat}, d <= D -> ∀ {v v' : AV} {u : Value}, freezeV h1 n d v = some v' -> VR s1 h1 w1 v u -> VR (s1.cut n) (h1.take n) w1 v' u := by
 intro D
 induction D with
 | zero =>
  intro d hd v v' u hf _
  obtain rfl : d = 0 := by omega
  simp [freezeV] at hf
 | succ D ih =>
  intro d hd v v' u hf hv
  cases d with
  | zero => simp [freezeV] at hf
  | succ d =>
   have ih' : ∀ {v v' : AV} {u : Value}, freezeV h1 n d v = some v' -> VR s1 h1 w1 v u -> VR (s1.cut n) (h1.take n) w1 v' u := fun hf hv => ih (d := d) (by omega) hf hv
   cases v <;> simp only [freezeV] at hf
   case bool b => injection hf with hf; subst hf; cases hv; exact .bool _
   case int k i => injection hf with hf; subst hf; cases hv; exact .int _ _
   case str l => injection hf with hf; subst hf; cases hv; exact .str _
   case nilPtr => injection hf with hf; subst hf; cases hv; exact .nilPtr
   case nilMap => injection hf with hf; subst hf; cases hv; exact .nilMap
   case nilFunc => injection hf with hf; subst hf; cases hv; exact .nilFunc
   case nilIface => injection hf with hf; subst hf; cases hv; exact .nilIface
   case junk => injection hf with hf; subst hf; exact .junk _
   case yld l => cases hf
   case map o =>
    split at hf
    ·rename_i ho
     injection hf with hf; subst hf
     cases hv with
     | map _ b k1 k2 => exact .map _ b (by rw [isMap_take ho]; exact k1) (by simp [Sim.cut, ho, k2])
     | mapOld _ g' b k1 k2 => exact .mapOld _ g' b (by rw [genOf_take ho]; exact k1) k2
    ·cases hf
   case ptr o off g =>
    split at hf
    ·rename_i ho
     injection hf with hf; subst hf
     cases hv with
     | ptr _ _ _ b k1 k2 => exact .ptr _ _ _ b (by rw [genOf_take ho]; exact k1) (by simp [Sim.cut, ho, k2])
     | ptrOld _ _ _ g' a k1 k2 => exact .ptrOld _ _ _ g' a (by rw [genOf_take ho]; exact k1) k2
    ·rename_i ho
     simp only [qAd] at hf
     replace hf := qAc.1 hf
     obtain ⟨cs, hcs, hf⟩ := hf
     replace hf := qAc.1 hf
     obtain ⟨cs', hcs', hf⟩ := hf
     injection hf with hf; subst hf
     obtain ⟨k1, k2⟩ := mapO_get hcs'
     cases hv with
     | ptrOld _ _ _ g' a e1 e2 => have := (genOf_obj hcs).1; rw [this] at e1; injection e1; omega
     | ptr _ _ _ b e1 e2 =>
      have hread := (obj_reads R1 hcs e2).drop off
      have key : ∀ (i : Nat) c', cs'[i]? = some c' -> ∃ v, w1.cell? ⟨b, off + i, none⟩ = some v /\ VR (s1.cut n) (h1.take n) w1 c' v := by
       intro i c' hi
       have hlt : i < (cs.drop off).length := by rw [← k1]; exact (qAu.1 hi).1
       obtain ⟨b', hb', hfb⟩ := k2 i _ (qAs hlt)
       rw [hi] at hb'
       injection hb' with hb'; subst hb'
       obtain ⟨v, hv, hvr⟩ := hread i _ (qAs hlt)
       exact ⟨v, by simpa using hv, ih' hfb hvr⟩
      refine .ref cs' b off (fun i => (w1.cell? ⟨b, off + i, none⟩).getD undef) (fun _ => .inr ⟨o, by omega, e2⟩) (fun i c hi => ?_) (fun i c hi => ?_)
      ·obtain ⟨v, hv, _⟩ := key i c hi
       rw [hv]; rfl
      ·obtain ⟨v, hv, hvr⟩ := key i c hi
       rw [hv]; exact hvr
   case msl o off len sz g cap =>
    split at hf
    ·rename_i ho
     injection hf with hf; subst hf
     cases hv with
     | msl _ _ _ _ _ _ b c el m off' k0 k1 k2 k3 k4 k5 k6 k7 => exact .msl _ _ _ _ _ _ b c el m off' k0 (by rw [genOf_take ho]; exact k1) (by simp [Sim.cut, ho, k2]) k3 k4 (fun hc => by rw [lenOf_take ho]; exact k5 hc) k6 k7
     | mslOld _ _ _ _ _ _ g' a m c k1 k2 => exact .mslOld _ _ _ _ _ _ g' a m c (by rw [genOf_take ho]; exact k1) k2
    ·rename_i ho
     simp only [qAd] at hf
     replace hf := qAc.1 hf
     obtain ⟨cs, hcs, hf⟩ := hf
     split at hf
     ·rename_i hle
      replace hf := qAc.1 hf
      obtain ⟨cs', hcs', hf⟩ := hf
      injection hf with hf; subst hf
      obtain ⟨k1, k2⟩ := mapO_get hcs'
      cases hv with
      | mslOld _ _ _ _ _ _ g' a m c e1 e2 => have := (genOf_obj hcs).1; rw [this] at e1; injection e1; omega
      | msl _ _ _ _ _ _ b c el m off' e0 e1 e2 e3 e4 e5 e6 e7 =>
       by_cases hl0 : len = 0
       ·subst hl0
        exact lst_empty _ _ _ _ _ trivial
       ·obtain rfl : off' = off := e0.resolve_right (by omega)
        have hread := ((obj_reads R1 hcs e2).drop off').take (len * sz)
        refine lst_of_cells (fun _ => .inr ⟨o, by omega, e2⟩) (by rw [k1]; simp; omega) (fun i c' hi => ?_) trivial e3
        have hlt : i < ((cs.drop off').take (len * sz)).length := by rw [← k1]; exact (qAu.1 hi).1
        obtain ⟨b', hb', hfb⟩ := k2 i _ (qAs hlt)
        rw [hi] at hb'
        injection hb' with hb'; subst hb'
        obtain ⟨v, hv, hvr⟩ := hread i _ (qAs hlt)
        exact ⟨v, by simpa using hv, ih' hfb hvr⟩
     ·cases hf
   case ref cs =>
    obtain ⟨cs', hcs, rfl⟩ := qAl.1 hf
    obtain ⟨k1, k2⟩ := mapO_get hcs
    cases hv with
    | ref _ b off f e1 e2 e3 =>
     have key : ∀ (i : Nat) c', cs'[i]? = some c' -> ∃ c, cs[i]? = some c /\ freezeV h1 n d c = some c' := by
      intro i c' hi
      have hlt : i < cs.length := by rw [← k1]; exact (qAu.1 hi).1
      obtain ⟨b', hb', hfb⟩ := k2 i _ (qAs hlt)
      rw [hi] at hb'
      injection hb' with hb'; subst hb'
      exact ⟨_, qAs hlt, hfb⟩
     refine .ref _ b off f (fun h0 => .inl (e1 (by omega))) (fun i c' hi => ?_) (fun i c' hi => ?_)
     ·obtain ⟨c, hc, _⟩ := key i c' hi
      exact e2 i c hc
     ·obtain ⟨c, hc, hfc⟩ := key i c' hi
      exact ih' hfc (e3 i c hc)
   case lst xs z r =>
    obtain ⟨xs', hxs, rfl⟩ := qAl.1 hf
    obtain ⟨k1, k2⟩ := mapO_get hxs
    cases hv with
    | lstNil =>
     simp only [mapO, qAf] at hxs
     subst hxs
     exact .lstNil _
    | lstEmpty _ A =>
     simp only [mapO, qAf] at hxs
     subst hxs
     exact .lstEmpty _ A
    | lst _ _ _ b off c f e1 e2 e3 e4 e5 e6 =>
     have key : ∀ (i : Nat) x', xs'[i]? = some x' -> ∃ x, xs[i]? = some x /\ freezeV h1 n d x = some x' := by
      intro i x' hi
      have hlt : i < xs.length := by rw [← k1]; exact (qAu.1 hi).1
      obtain ⟨b', hb', hfb⟩ := k2 i _ (qAs hlt)
      rw [hi] at hb'
      injection hb' with hb'; subst hb'
      exact ⟨_, qAs hlt, hfb⟩
     have cell : ∀ (i j : Nat) x' y', xs'[i]? = some x' -> x'.cells[j]? = some y' -> ∃ x y d', d' <= d /\ xs[i]? = some x /\ x.cells[j]? = some y /\ freezeV h1 n d' y = some y' := by
      intro i j x' y' hi hj
      obtain ⟨x, hx, hfx⟩ := key i x' hi
      obtain ⟨m1, m2⟩ := freeze_cells hfx
      have hlt : j < x.cells.length := by rw [← m1]; exact (qAu.1 hj).1
      obtain ⟨y'', d', hd', hy'', hfy⟩ := m2 j _ (qAs hlt)
      rw [hj] at hy''
      injection hy'' with hy''; subst hy''
      exact ⟨x, _, d', hd', hx, qAs hlt, hfy⟩
     have := VR.lst (s := s1.cut n) (h := h1.take n) (w := w1) xs' z r b off c f (fun h0 => .inl (e1 (by omega))) e2 (by omega)
      (fun i x' hi => by
       obtain ⟨x, hx, hfx⟩ := key i x' hi
       rw [(freeze_cells hfx).1]; exact e4 i x hx)
      (fun i j x' y' hi hj => by
       obtain ⟨x, y, d', _, hx, hy, _⟩ := cell i j x' y' hi hj
       exact e5 i j x y hx hy)
      (fun i j x' y' hi hj => by
       obtain ⟨x, y, d', hd', hx, hy, hfy⟩ := cell i j x' y' hi hj
       exact ih (d := d') (by omega) hfy (e6 i j x y hx hy))
     rw [k1] at this
     exact this
   case clo f cs =>
    obtain ⟨cs', hcs, rfl⟩ := qAl.1 hf
    obtain ⟨k1, k2⟩ := mapO_get hcs
    cases hv with
    | clo _ _ vs hl hr =>
     refine .clo _ _ vs (by omega) fun i c' hi => ?_
     have hlt : i < cs.length := by rw [← k1]; exact (qAu.1 hi).1
     obtain ⟨b', hb', hfb⟩ := k2 i _ (qAs hlt)
     rw [hi] at hb'
     injection hb' with hb'; subst hb'
     exact ih' hfb (hr i _ (qAs hlt))
   case bnd f cs =>
    obtain ⟨cs', hcs, rfl⟩ := qAl.1 hf
    obtain ⟨k1, k2⟩ := mapO_get hcs
    cases hv with
    | bnd _ _ vs hl hr =>
     refine .bnd _ _ vs (by omega) fun i c' hi => ?_
     have hlt : i < cs.length := by rw [← k1]; exact (qAu.1 hi).1
     obtain ⟨b', hb', hfb⟩ := k2 i _ (qAs hlt)
     rw [hi] at hb'
     injection hb' with hb'; subst hb'
     exact ih' hfb (hr i _ (qAs hlt))
   case agg cs =>
    obtain ⟨cs', hcs, rfl⟩ := qAl.1 hf
    obtain ⟨k1, k2⟩ := mapO_get hcs
    cases hv with
    | agg _ vs hl hr =>
     refine .agg _ vs (by omega) fun i c' hi => ?_
     have hlt : i < cs.length := by rw [← k1]; exact (qAu.1 hi).1
     obtain ⟨b', hb', hfb⟩ := k2 i _ (qAs hlt)
     rw [hi] at hb'
     injection hb' with hb'; subst hb'
     exact ih' hfb (hr i _ (qAs hlt))
   case tup cs =>
    obtain ⟨cs', hcs, rfl⟩ := qAl.1 hf
    obtain ⟨k1, k2⟩ := mapO_get hcs
    cases hv with
    | tup _ vs hl hr =>
     refine .tup _ vs (by omega) fun i c' hi => ?_
     have hlt : i < cs.length := by rw [← k1]; exact (qAu.1 hi).1
     obtain ⟨b', hb', hfb⟩ := k2 i _ (qAs hlt)
     rw [hi] at hb'
     injection hb' with hb'; subst hb'
     exact ih' hfb (hr i _ (qAs hlt))
   case iface t x =>
    obtain ⟨x', hx, rfl⟩ := qAl.1 hf
    cases hv with
    | iface _ _ v hv => exact .iface _ _ _ (ih' hx hv)
end
end Go.Rv
namespace Go.Rv
section
variable {P : Program} {C : Cfg} {s : Sim} {h : Heap} {w : World}
def EndOk (s : Sim) (h : Heap) (w : World) (res : CRes) (h' : Heap) (e : Ending) (w' : World) : Prop :=
 ∃ s', Ext s h w s' h' w' /\ Rel s' h' w' /\ match res, e with
  | .ret v, .returned u => VR s' h' w' v u
  | .pan v, .panicked chain => ∃ u, chain = [{ v := u, recovered := false }] /\ VR s' h' w' v u
  | _, _ => False
def CallOk (P : Program) (f : Nat) (vs : List Value) (s : Sim) (h : Heap) (w : World) (res : CRes) (h' : Heap) : Prop :=
 Calls P f vs.toArray w (EndOk s h w res h')
def Known (P : Program) (f : Nat) : Prop := ∃ fn c, P.funcs[f]? = some fn /\ fn.body = some c /\ (fn.name == "runtime.NumGoroutine") = false
def PrimOk (P : Program) (C : Cfg) : Prop := ∀ f p, C.prim f = some p -> Known P f /\ (C.pure f = true -> ∀ args h v h', p args h = some (.ret v, h') -> h' = h) /\ ∀ args h res h', p args h = some (res, h') ->
 ∀ s w vs, Rel s h w -> Glob C s h w -> VRs s h w args vs -> CallOk P f vs s h w res h'
structure CodeOk (ord : Nat -> Array Oper -> Bool) (f N : Nat) (c : Code) : Prop where
 ok : True
def dstsOk (N : Nat) (ops : Array Oper) : Bool := ops.all fun o => match o.dst with | some d => d < N | none => true
def codeOk (ord : Array Oper -> Bool) (N : Nat) : Code -> Bool
 | .region _ ops draw => dstsOk N ops && (!draw || ord ops)
 | .seq a b => codeOk ord N a && codeOk ord N b
 | .cond _ a b => codeOk ord N a && codeOk ord N b
 | .block _ b | .loop b | .scope b => codeOk ord N b
 | .rangeFunc _ ps a b => ps.toList.all (fun t => decide (t < N)) && codeOk ord N a && codeOk ord N b
 | _ => true
def goodOf (ord : Nat -> Array Oper -> Bool) (f N : Nat) (ps : List Nat) (a b : Code) : Prop := ps.all (fun t => decide (t < N)) = true /\ codeOk (ord f) N a = true /\ codeOk (ord f) N b = true
structure GG (C : Cfg) (ord : Nat -> Array Oper -> Bool) (s : Sim) (h : Heap) (w : World) : Prop where
 g : Glob C s h w
 good : s.good.good = goodOf ord
theorem GG.ext {ord : Nat -> Array Oper -> Bool} {s' : Sim} {h' : Heap} {w' : World} (hd : ∀ o b, s.μ o = some b -> ¬ s.I b) (E : Ext s h w s' h' w') (G : GG C ord s h w) : GG C ord s' h' w' := ⟨G.g.ext hd E, by rw [E.good]; exact G.good⟩
def Fr (r : Option Nat) : Fence := { Fence.wide with round := r }
theorem Fr_depth (r : Option Nat) : (Fr r).depth.isSome = true -> 1 <= 0 := fun h => by simp [Fr, Fence.wide] at h
theorem callsIn_fr {r : Option Nat} {n : Nat} {f : FuncId} {args : Array Value} {R : Ending -> World -> Prop} : CallsIn (Fr r) n P f args w R ↔ Calls P f args w R := callsIn_wide (n := n)
def Around (s : Sim) (h : Heap) : Option Nat -> Prop
 | none => True
 | some l => ∃ o, isLoop h o = true /\ s.μ o = some l
theorem Around.ext0 {s' : Sim} {h' : Heap} {w' : World} (E : Ext0 s h w s' h' w') {r : Option Nat} (A : Around s h r) : Around s' h' r := by
 cases r with
 | none => trivial
 | some l =>
  obtain ⟨o, h1, h2⟩ := A
  have hk := E.kindL o h1
  exact ⟨o, hk, (E.same o 0 (genOf_loop h1) (genOf_loop hk)).1 l h2⟩
def Deferred.plain (d : Deferred) : Prop := ∀ b, d.target ≠ .collected b
def MarksT (B : Nat) (s : Sim) (w : World) : List Deferred -> List Deferred -> Prop
 | T, [] => T = []
 | T, d :: ds => ((∃ b, d.target = .collected b /\ B <= b /\ b < w.heap.size /\ (∀ o, s.μ o ≠ some b) /\ w.heap[b]? = some (.deferred (some [])) /\ ∀ e ∈ ds, e.target ≠ .collected b) /\ MarksT B s w T ds) ∨
  (Deferred.plain d /\ ∃ T', T = d :: T' /\ MarksT B s w T' ds)
def Marks (B : Nat) (s : Sim) (w : World) (ds : List Deferred) : Prop := MarksT B s w s.good.tail ds
def Dues (B : Nat) (s : Sim) (w : World) (ds : List Deferred) : Prop := B <= w.heap.size /\ Marks B s w ds
theorem MarksT.ext0 {B : Nat} {s' : Sim} {h' : Heap} {w' : World} (E : Ext0 s h w s' h' w') : ∀ {ds T : List Deferred}, MarksT B s w T ds -> MarksT B s' w' T ds
 | [], _, h => h
 | d :: ds, _, .inl ⟨⟨b, h1, h2, h3, h4, h5, h6⟩, h7⟩ => .inl ⟨⟨b, h1, h2, Nat.lt_of_lt_of_le h3 E.size, fun o ho => by
   rcases E.own o b ho with ⟨o', ho'⟩ | hle
   ·exact h4 o' ho'
   ·omega, by rw [E.far b h3 h4]; exact h5, h6⟩, MarksT.ext0 E h7⟩
 | d :: ds, _, .inr ⟨h1, T', h2, h3⟩ => .inr ⟨h1, T', h2, MarksT.ext0 E h3⟩
theorem Marks.ext0 {B : Nat} {s' : Sim} {h' : Heap} {w' : World} (E : Ext0 s h w s' h' w') {ds : List Deferred} (H : Marks B s w ds) : Marks B s' w' ds := by
 unfold Marks
 rw [E.good]
 exact MarksT.ext0 E H
theorem Dues.ext0 {B : Nat} {s' : Sim} {h' : Heap} {w' : World} (E : Ext0 s h w s' h' w') {ds : List Deferred} (D : Dues B s w ds) : Dues B s' w' ds := ⟨Nat.le_trans D.1 E.size, D.2.ext0 E⟩
theorem MarksT.lt {B : Nat} : ∀ {ds T : List Deferred}, MarksT B s w T ds -> ∀ e ∈ ds, e.target ≠ .collected w.heap.size
 | [], _, _, e, he => by simp at he
 | d :: ds, _, H, e, he => by
  rcases H with ⟨⟨b, h1, _, h3, _⟩, h7⟩ | ⟨h1, T', _, h7⟩
  ·rcases qAj.1 he with rfl | he
   ·rw [h1]; intro hx; injection hx with hx; omega
   ·exact MarksT.lt h7 e he
  ·rcases qAj.1 he with rfl | he
   ·exact h1 _
   ·exact MarksT.lt h7 e he
theorem Marks.lt {B : Nat} {ds : List Deferred} (H : Marks B s w ds) : ∀ e ∈ ds, e.target ≠ .collected w.heap.size := MarksT.lt H
theorem Marks.cons {B b : Nat} {d : Deferred} {ds : List Deferred} (h1 : d.target = .collected b) (h2 : B <= b) (h3 : b < w.heap.size) (h4 : ∀ o, s.μ o ≠ some b) (h5 : w.heap[b]? = some (.deferred (some []))) (h6 : ∀ e ∈ ds, e.target ≠ .collected b) (H : Marks B s w ds) : Marks B s w (d :: ds) := .inl ⟨⟨b, h1, h2, h3, h4, h5, h6⟩, H⟩
theorem Marks.nil {B : Nat} (h : s.good.tail = []) : Marks B s w [] := h
def FnOk (P : Program) (C : Cfg) (ord : Nat -> Array Oper -> Bool) : Prop := ∀ f fi, C.fn f = some fi -> ∃ fn, P.funcs[f]? = some fn /\ fn.body = some fi.body /\ fn.results.toList = fi.results /\ (fn.name == "runtime.NumGoroutine") = false /\
 fi.params <= fn.ntmps /\ codeOk (ord f) fn.ntmps fi.body = true
structure Ok (P : Program) (C : Cfg) (ord : Nat -> Array Oper -> Bool) : Prop where
 ty : TabOk P C
 glob : GlobOk C
 prim : PrimOk P C
 fn : FnOk P C ord
 close : ∀ g v, C.glob g = some v -> ∀ h, freezeV h 0 40 v = some v
 mixed : P.follows .mixedOrders = true
def OutOk (B : Nat) (s : Sim) (h : Heap) (w : World) (N : Nat) (out : Out) (e' : Env) (h' : Heap) (ex : Exit) (a' : Act) (w' : World) : Prop :=
 ∃ s', Ext s h w s' h' w' /\ Rel s' h' w' /\ a'.tmps.size = N /\ Dues B s' w' a'.defers /\ match out, ex with
  | .nrm, .normal => EnvRel s' h' w' e' a'.tmps
  | .exit id, .exit id' => id' = id /\ EnvRel s' h' w' e' a'.tmps
  | .ret, .ret => EnvRel s' h' w' e' a'.tmps
  | .pan v, .panic chain => (∃ u, chain = [{ v := u, recovered := false }] /\ VR s' h' w' v u) /\ EnvRel s' h' w' e' a'.tmps
  | _, _ => False
def ValOk (P : Program) (C : Cfg) (ord : Nat -> Array Oper -> Bool) (g : AV) (vs : List AV) (h : Heap) (res : CRes) (h' : Heap) : Prop :=
 match g with
 | .clo f caps => Known P f /\ ∀ s w us, Rel s h w -> GG C ord s h w -> VRs s h w (vs ++ caps) us -> CallOk P f us s h w res h'
 | .bnd f first => Known P f /\ ∀ s w us, Rel s h w -> GG C ord s h w -> VRs s h w (first ++ vs) us -> CallOk P f us s h w res h'
 | .yld o => ∀ s w b us rec, s.μ o = some b -> w.heap[b]? = some (.loop rec) -> Rel s h w -> GG C ord s h w -> VRs s h w vs us ->
   us.length = rec.params.size /\ RoundIn Fence.wide 0 P b rec.fn ((rec.params.zip us.toArray).foldl (fun tmps (t, a) => tmps.setIfInBounds t a) rec.tmps) rec.assign rec.body w (EndOk s h w res h')
 | _ => False
structure CallsAt (P : Program) (C : Cfg) (ord : Nat -> Array Oper -> Bool) (k : Nat) : Prop where
 fn : ∀ k', k' <= k -> ∀ f args h res h', callF C k' f args h = some (res, h') -> Known P f /\ ∀ s w vs, Rel s h w -> GG C ord s h w -> VRs s h w args vs -> CallOk P f vs s h w res h'
 val : ∀ k', k' <= k -> ∀ g vs h res h', callV C k' g vs h = some (res, h') -> ValOk P C ord g vs h res h'
theorem CallsAt.le {ord : Nat -> Array Oper -> Bool} {k k' : Nat} (hk : k' <= k) (H : CallsAt P C ord k) : CallsAt P C ord k' := ⟨fun j hj => H.fn j (by omega), fun j hj => H.val j (by omega)⟩
theorem want_rel {N : Nat} {ops : Array Oper} (hd : dstsOk N ops = true) {e : Env} {a : Act} (hN : a.tmps.size = N) (H : EnvRel s h w e a.tmps) {o : Oper} {b : Bool} (hw : wantA ops e o = some b) : Region.wanted o (yielded ops a.tmps) = b := by
 unfold wantA at hw
 unfold Region.wanted
 cases hg : o.guard with
 | none => simp only [hg, qAf] at hw ⊢; exact hw
 | some jw =>
  obtain ⟨j, want⟩ := jw
  simp only [hg] at hw ⊢
  unfold yielded
  cases hj : (ops[j]?).bind (·.dst) with
  | none =>
   simp only [hj, Option.map_none, qAf] at hw
   subst hw
   rfl
  | some d =>
   simp only [hj, qAo] at hw
   have hlt : d < a.tmps.size := by
    rw [hN]
    obtain ⟨oj, h1, h2⟩ := qAc.1 hj
    have := Array.all_eq_true.1 hd j (qAq.1 h1).1
    rw [(qAq.1 h1).2, h2] at this
    simpa using this
   have hr := H d
   have hget : a.tmps[d]? = some (a.tmps.getD d undef) := by simp [hlt]
   simp only [qAe, hget]
   generalize a.tmps.getD d undef = u at hr
   generalize e.get d = x at hr hw
   cases hr <;> first | (cases hw; done) | skip
   case bool b' =>
    simp only [qAf] at hw
    subst hw
    rfl
   case tup cs vs hl hr' =>
    cases cs with
    | nil =>
     simp only [qAf] at hw
     subst hw
     rfl
    | cons c r => cases hw
theorem dst_lt {N : Nat} {ops : Array Oper} (hd : dstsOk N ops = true) {i : Nat} {o : Oper} (ho : ops[i]? = some o) : ∀ t, o.dst = some t -> t < N := fun t ht => by
 have := Array.all_eq_true.1 hd i (qAq.1 ho).1
 rw [(qAq.1 ho).2, ht] at this
 simpa using this
theorem run_call {g : Nat} (hk : Known P g) {o : Oper} {args : Array Operand} {gx : Operand} {ct : Array TypeId} {a : Act} {us : Array Value} (ho : o.op = .call { callee := .value gx, args, argTypes := ct }) (hg : a.eval gx = .func (.func g) #[] us) :
  (execOp a.eval o).run P w = .ok (.enter g (args.map a.eval ++ us)) w := by
 obtain ⟨fn, c, h1, h2, h3⟩ := hk
 unfold execOp
 simp only [ho, resolve, hg, Deferred.ofValue, Sem.run_bind, Sem.run_pure, Result.andThen_ok, invoke, callFunc, run_program, h1, h3, h2, Option.isNone_some, qAb, if_false, Array.empty_append]
theorem run_bound {g : Nat} (hk : Known P g) {o : Oper} {args : Array Operand} {gx : Operand} {ct : Array TypeId} {a : Act} {us : Array Value} (ho : o.op = .call { callee := .value gx, args, argTypes := ct }) (hg : a.eval gx = .func (.func g) us #[]) :
  (execOp a.eval o).run P w = .ok (.enter g (us ++ args.map a.eval)) w := by
 obtain ⟨fn, c, h1, h2, h3⟩ := hk
 unfold execOp
 simp only [ho, resolve, hg, Deferred.ofValue, Sem.run_bind, Sem.run_pure, Result.andThen_ok, invoke, callFunc, run_program, h1, h3, h2, Option.isNone_some, qAb, if_false, Array.append_empty]
theorem run_yieldCall {o : Oper} {args : Array Operand} {gx : Operand} {ct : Array TypeId} {a : Act} {b : Nat} {rec : Loop} (ho : o.op = .call { callee := .value gx, args, argTypes := ct }) (hg : a.eval gx = .func (.yield b) #[] #[]) (hb : w.heap[b]? = some (.loop rec)) (hs : args.size = rec.params.size) :
  (execOp a.eval o).run P w = .ok (.round b rec.fn ((rec.params.zip (args.map a.eval)).foldl (fun tmps (t, a) => tmps.setIfInBounds t a) rec.tmps) rec.assign rec.body) w := by
 have := run_yield (P := P) (args := args.map a.eval) hb (by simpa using hs)
 unfold execOp
 simp only [ho, resolve, hg, Deferred.ofValue, Sem.run_bind, Sem.run_pure, Result.andThen_ok, invoke, Array.empty_append]
 exact this
theorem oper_sound {ord : Nat -> Array Oper -> Bool} (K : Ok P C ord) {r : Option Nat} {f : Nat} {Q : Exit -> Act -> World -> Prop} {next : Act -> World -> Prop} {o : Oper}
  {e : Env} {a : Act} (R : Rel s h w) (G : GG C ord s h w) (H : EnvRel s h w e a.tmps)
  {v : AV} {h' : Heap} (hv : opA C f e h o = some (v, h'))
  (hnext : ∀ s' w' u, Ext s h w s' h' w' -> Rel s' h' w' -> VR s' h' w' v u -> next (a.put o.dst u) w') : o.wpIn (Fr r) 0 P a w next Q := by
 have hnd : ∀ c, o.op ≠ .defer c := fun c hc => by unfold opA at hv; simp only [hc, reduceCtorEq] at hv
 obtain ⟨s', w', n, u, h1, h2, h3, h4, h5⟩ := op_sound K.ty K.glob R G.g H hv
 refine ⟨fun _ _ => trivial, ?_⟩
 rw [Oper.semAt_eq _ _ _ hnd, h1]
 rcases h2 with rfl | ⟨rfl, rfl⟩
 ·exact hnext s' w' u h3 h4 h5
 ·exact hnext s' w' undef h3 h4 h5
theorem callee_op {o : Oper} {g : Operand} {args : Array Operand} (hc : callee o = some (g, args)) : ∃ ct, o.op = .call { callee := .value g, args, argTypes := ct } := by
 unfold callee at hc
 split at hc
 ·rename_i g' args' ct ho
  simp only [qAf, qAg] at hc
  obtain ⟨rfl, rfl⟩ := hc
  exact ⟨ct, ho⟩
 ·cases hc
theorem opsF_cons (k f : Nat) (os : Array Oper) (o : Oper) (r : List Oper) (e : Env) (h : Heap) : opsF C (k + 1) f os (o :: r) e h = (wantA os e o).bind fun w => match w with
  | false => opsF C k f os r (e.putAt o.dst (.tup [])) h
  | true => match callee o with
   | none => match panO C e o with
    | some v => some (.pan v, e, h)
    | none => (opA C f e h o).bind fun x => if looseAll C f os (dkey o) e x.2 then opsF C k f os r (e.putAt o.dst x.1) x.2 else none
   | some ga => (mapO (evalA C e) ga.2.toList).bind fun vs => (evalA C e ga.1).bind fun gv =>
    if (o.dst.map (C.quiet f)).getD false && !pureV C gv then none else (callV C k gv vs h).bind fun x => match x.1 with
     | .ret v => if looseAll C f os (dkey o) e x.2 then opsF C k f os r (e.putAt o.dst v) x.2 else none
     | .pan v => some (.pan v, e, x.2) := by
 simp only [opsF, qAd]
 cases hw : wantA os e o with
 | none => rfl
 | some b =>
  simp only [qAe]
  cases b with
  | false => simp
  | true =>
   simp only [if_true]
   cases hc : callee o with
   | some ga =>
    obtain ⟨g, args⟩ := ga
    obtain ⟨ct, ho⟩ := callee_op hc
    simp only [ho]
    rfl
   | none =>
    split
    ·rename_i g args ct ho
     simp [callee, ho] at hc
    ·rfl
theorem yld_live {k o : Nat} {vs : List AV} {h : Heap} {x : CRes × Heap} (hc : callV C k (.yld o) vs h = some x) : genOf h o = some 0 := by
 cases k with
 | zero => simp [callV] at hc
 | succ k =>
  simp only [callV, qAd] at hc
  obtain ⟨r, hr, _⟩ := qAc.1 hc
  unfold Heap.loopAt at hr
  unfold genOf
  split at hr
  ·rename_i r' h'; rw [h']
  ·cases hr
theorem callop_sound {ord : Nat -> Array Oper -> Bool} {k : Nat} (HC : CallsAt P C ord k) {r : Option Nat} {Q : Exit -> Act -> World -> Prop} {next : Act -> World -> Prop} {o : Oper} {e : Env} {a : Act} (R : Rel s h w) (G : GG C ord s h w) (H : EnvRel s h w e a.tmps)
  {g : Operand} {args : Array Operand} (hc : callee o = some (g, args)) {vs : List AV} (hvs : mapO (evalA C e) args.toList = some vs) {gv : AV} (hg : evalA C e g = some gv)
  {res : CRes} {h' : Heap} (hcall : callV C k gv vs h = some (res, h'))
  (hret : ∀ v, res = .ret v -> ∀ s' w' u, Ext s h w s' h' w' -> Rel s' h' w' -> VR s' h' w' v u -> next (a.put o.dst u) w')
  (hpan : ∀ v, res = .pan v -> ∀ s' w' u, Ext s h w s' h' w' -> Rel s' h' w' -> VR s' h' w' v u -> Q (.panic [{ v := u, recovered := false }]) a w') : o.wpIn (Fr r) 0 P a w next Q := by
 obtain ⟨ct, ho⟩ := callee_op hc
 have hnd : ∀ c, o.op ≠ .defer c := fun c hc => by rw [ho] at hc; cases hc
 have hok := HC.val k (qAr _) _ _ _ _ _ hcall
 have hgr := evalA_rel G.g H hg
 refine ⟨fun _ _ => trivial, ?_⟩
 rw [Oper.semAt_eq _ _ _ hnd]
 have fin : ∀ en w', EndOk s h w res h' en w' -> (match en, w' with
   | .returned v, w'' => next (a.put o.dst v) w''
   | .panicked chain, w'' => Q (.panic chain) a w''
   | .outgrown, _ => LetsOut Q) := fun en w' hend => by
  obtain ⟨s', h1, h2, h3⟩ := hend
  cases res with
  | ret v =>
   cases en with
   | returned u => exact hret v rfl s' w' u h1 h2 h3
   | panicked chain => exact h3.elim
   | outgrown => exact h3.elim
  | pan v =>
   cases en with
   | returned u => exact h3.elim
   | panicked chain =>
    obtain ⟨u, rfl, hu⟩ := h3
    exact hpan v rfl s' w' u h1 h2 hu
   | outgrown => exact h3.elim
 generalize hag : a.eval g = ag at hgr
 cases gv <;> simp only [ValOk] at hok
 case clo g' caps =>
  obtain ⟨hk, hok⟩ := hok
  cases hgr with
  | clo _ _ us hl hr =>
  have hargs := (args_rel G.g H hvs).append (us := us.toList) ⟨by simpa using hl, fun i c hi => by
   have hlt : i < us.size := by rw [← hl]; exact (qAu.1 hi).1
   refine ⟨us[i], by simp [hlt], ?_⟩
   have := hr i c hi
   simpa [hlt] using this⟩
  have hC := hok s w _ R G hargs
  rw [run_call hk ho hag]
  rw [Oper.uponIn_enter]
  have harr : (args.toList.map a.eval ++ us.toList).toArray = args.map a.eval ++ us := by apply Array.ext'; simp
  rw [← harr]
  exact ⟨Fr_depth r, callsIn_fr.2 (Calls.mono hC fun en w' hend => fin en w' hend)⟩
 case bnd g' first =>
  obtain ⟨hk, hok⟩ := hok
  cases hgr with
  | bnd _ _ us hl hr =>
  have hfirst : VRs s h w first us.toList := ⟨by simpa using hl, fun i c hi => by
   have hlt : i < us.size := by rw [← hl]; exact (qAu.1 hi).1
   refine ⟨us[i], by simp [hlt], ?_⟩
   have := hr i c hi
   simpa [hlt] using this⟩
  have hargs := hfirst.append (args_rel G.g H hvs)
  have hC := hok s w _ R G hargs
  rw [run_bound hk ho hag]
  rw [Oper.uponIn_enter]
  have harr : (us.toList ++ args.toList.map a.eval).toArray = us ++ args.map a.eval := by apply Array.ext'; simp
  rw [← harr]
  exact ⟨Fr_depth r, callsIn_fr.2 (Calls.mono hC fun en w' hend => fin en w' hend)⟩
 case yld o' =>
  cases hgr with
  | yldOld _ g' b hg' hlt => have h1 := yld_live hcall; rw [h1] at hg'; injection hg' with hg'; omega
  | yld _ b hl hb =>
  obtain ⟨x, hx, hxr⟩ := R.obj o' b hb
  unfold isLoop at hl
  rw [hx] at hl
  cases x <;> simp only [qAb] at hl
  rename_i lr
  obtain ⟨rec, hrec, _⟩ := hxr
  have hargs := args_rel G.g H hvs
  obtain ⟨hlen, hC⟩ := hok s w b _ rec hb hrec R G hargs
  rw [run_yieldCall ho hag hrec (by simpa using hlen)]
  rw [Oper.uponIn_round]
  have harr : (args.toList.map a.eval).toArray = args.map a.eval := by apply Array.ext'; simp
  rw [← harr]
  exact ⟨Fr_depth r, RoundIn.mono (F := Fr r) hC fun en w' hend => fin en w' hend⟩
theorem oper_mono {F : Fence} {n : Nat} {o : Oper} {Q Q' : Exit -> Act -> World -> Prop} {K K' : Act -> World -> Prop} (hq : ∀ ex a w, Q ex a w -> Q' ex a w) (hk : ∀ a w, K a w -> K' a w) {a : Act} {w : World} (H : o.wpIn F n P a w K Q) : o.wpIn F n P a w K' Q' := by
 unfold Oper.wpIn at *
 refine ⟨H.1, ?_⟩
 have H := H.2
 generalize (o.semAt F.round a.eval).run P w = r at *
 have lets : LetsOut Q -> LetsOut Q' := fun ⟨a, w, h⟩ => ⟨a, w, hq _ _ _ h⟩
 cases r with
 | ok n w' =>
  cases n <;> simp only [Oper.uponIn] at H ⊢ <;>
   first
    | exact hk _ _ H
    | exact ⟨H.1, CallsIn.mono H.2 (fun e w'' he => by cases e <;> first | exact hk _ _ he | exact hq _ _ _ he | exact lets he)⟩
    | exact ⟨H.1, RowsIn.mono H.2 (fun _ _ he => hk _ _ he)⟩
    | exact ⟨H.1, RoundIn.mono H.2 (fun e w'' he => by cases e <;> first | exact hk _ _ he | exact hq _ _ _ he | exact lets he)⟩
    | exact hq _ _ _ H
    | exact H
 | halt x w' => cases x <;> simp only [Oper.uponIn] at H ⊢ <;> first | exact hq _ _ _ H | exact H
theorem wpOps_mono {F : Fence} {n : Nat} {ops : Array Oper} {Q Q' : Exit -> Act -> World -> Prop} (hq : ∀ ex a w, Q ex a w -> Q' ex a w) : ∀ (l : List Nat) (a : Act) (w : World), wpOpsIn F n P ops Q l a w -> wpOpsIn F n P ops Q' l a w
 | [], a, w, H => hq _ _ _ H
 | i :: r, a, w, H => by
  simp only [wpOpsIn] at H ⊢
  cases ho : ops[i]? with
  | none => simp only [ho] at H ⊢; exact wpOps_mono hq r a w H
  | some o =>
   simp only [ho] at H ⊢
   split
   ·rename_i hw
    simp only [hw, if_true] at H
    exact oper_mono hq (fun a w => wpOps_mono hq r a w) H
   ·rename_i hw
    simp only [hw] at H
    exact ⟨H.1, wpOps_mono hq r _ w H.2⟩
theorem pan_run {e : Env} {a : Act} (G : Glob C s h w) (H : EnvRel s h w e a.tmps) {o : Oper} {v : AV} (hp : panO C e o = some v) : ∃ u, VR s h w v u /\ (execOp a.eval o).run P w = .halt (.panic u) w /\ ∀ c, o.op ≠ .defer c := by
 unfold panO at hp
 split at hp <;> first | (cases hp; done) | skip
 rename_i x hop
 split at hp <;> first | (cases hp; done) | skip
 rename_i t v' hv
 injection hp with hp
 subst hp
 have hr := evalA_rel G H hv
 refine ⟨a.eval x, hr, ?_, fun c hc => by rw [hop] at hc; cases hc⟩
 generalize hax : a.eval x = u at hr
 cases hr
 unfold execOp
 simp only [hop, hax, Instr.panic, goPanic, Sem.run_bind]
 rfl
theorem ops_sound {ord : Nat -> Array Oper -> Bool} (K : Ok P C ord) {N f : Nat} {ops : Array Oper} (hd : dstsOk N ops = true) {r : Option Nat} {B : Nat} :
  ∀ (k : Nat), CallsAt P C ord k -> ∀ (l : List Oper) (is : List Nat), is.map (ops[·]?) = l.map some -> ∀ (e : Env) (h : Heap) (out : Out) (e' : Env) (h' : Heap), opsF C k f ops l e h = some (out, e', h') ->
  ∀ (s : Sim) (w : World) (a : Act), a.tmps.size = N -> Dues B s w a.defers -> Rel s h w -> GG C ord s h w -> EnvRel s h w e a.tmps -> wpOpsIn (Fr r) 0 P ops (OutOk B s h w N out e' h') is a w := by
 intro k
 induction k with
 | zero => intro _ l is _ e h out e' h' hf; simp [opsF] at hf
 | succ k ih =>
  intro HC l is hl e h out e' h' hf s w a hN hdf R G H
  have HC' : CallsAt P C ord k := HC.le (by omega)
  cases l with
  | nil =>
   have : is = [] := by simpa using hl
   subst this
   simp only [opsF, qAf, qAg] at hf
   obtain ⟨rfl, rfl, rfl⟩ := hf
   exact ⟨s, Ext.refl _ _ _, R, hN, hdf, H⟩
  | cons o l =>
   cases is with
   | nil => simp at hl
   | cons i is =>
    simp only [qAm, List.cons.injEq] at hl
    obtain ⟨ho, hl⟩ := hl
    rw [opsF_cons] at hf
    replace hf := qAc.1 hf
    obtain ⟨b, hw, hf⟩ := hf
    have hwant := want_rel hd hN H hw
    simp only [wpOpsIn, ho, hwant]
    have rest : ∀ {e1 : Env} {h1 : Heap}, opsF C k f ops l e1 h1 = some (out, e', h') -> ∀ s1 w1 a1, Ext s h w s1 h1 w1 -> a1.tmps.size = N -> a1.defers = a.defers -> Rel s1 h1 w1 -> EnvRel s1 h1 w1 e1 a1.tmps -> wpOpsIn (Fr r) 0 P ops (OutOk B s h w N out e' h') is a1 w1 := by
     intro e1 h1 hf1 s1 w1 a1 E hN1 hdf1 R1 H1
     have := ih HC' l is hl e1 h1 out e' h' hf1 s1 w1 a1 hN1 (by rw [hdf1]; exact hdf.ext0 E.toExt0) R1 (G.ext R.apart E) H1
     exact wpOps_mono (fun ex a' w' hq => by
      obtain ⟨s', k1, k2, k3⟩ := hq
      exact ⟨s', E.trans k1, k2, k3⟩) is a1 w1 this
    have hput : ∀ {s1 : Sim} {h1 : Heap} {w1 : World} {v : AV} {u : Value}, Ext s h w s1 h1 w1 -> VR s1 h1 w1 v u -> EnvRel s1 h1 w1 (e.putAt o.dst v) (a.put o.dst u).tmps /\ (a.put o.dst u).tmps.size = N /\ (a.put o.dst u).defers = a.defers := by
     intro s1 h1 w1 v u E hv
     refine ⟨(H.ext R.apart E).put o.dst (fun t ht => by rw [hN]; exact dst_lt hd ho t ht) hv, ?_, ?_⟩
     ·cases o.dst <;> simp [Act.put, hN]
     ·cases o.dst <;> simp [Act.put]
    cases b with
    | false =>
     simp only [qAb, if_false]
     have hu : VR s h w (.tup []) undef := .tup [] #[] rfl fun i c hi => by simp at hi
     obtain ⟨g1, g2, g3⟩ := hput (Ext.refl s h w) hu
     exact ⟨fun _ _ => trivial, rest hf s w _ (Ext.refl _ _ _) g2 g3 R g1⟩
    | true =>
     simp only [if_true]
     cases hc : callee o with
     | none =>
      simp only [hc] at hf
      cases hp : panO C e o with
      | some v =>
       simp only [hp, qAf, qAg] at hf
       obtain ⟨rfl, rfl, rfl⟩ := hf
       obtain ⟨u, hu, hrun, hnd⟩ := pan_run (w := w) G.g H hp
       refine ⟨fun _ _ => trivial, ?_⟩
       rw [Oper.semAt_eq _ _ _ hnd, hrun]
       exact ⟨s, Ext.refl _ _ _, R, hN, hdf, ⟨u, rfl, hu⟩, H⟩
      | none =>
      simp only [hp] at hf
      replace hf := qAc.1 hf
      obtain ⟨⟨v, h1⟩, hv, hf⟩ := hf
      split at hf <;> first | cases hf | skip
      refine oper_sound K R G H hv fun s1 w1 u E R1 hu => ?_
      obtain ⟨g1, g2, g3⟩ := hput E hu
      exact rest hf s1 w1 _ E g2 g3 R1 g1
     | some ga =>
      obtain ⟨g, args⟩ := ga
      simp only [hc] at hf
      replace hf := qAc.1 hf
      obtain ⟨vs, hvs, hf⟩ := hf
      replace hf := qAc.1 hf
      obtain ⟨gv, hgv, hf⟩ := hf
      split at hf
      ·cases hf
      replace hf := qAc.1 hf
      obtain ⟨⟨res, h1⟩, hcall, hf⟩ := hf
      refine callop_sound HC' R G H hc hvs hgv hcall (fun v hres s1 w1 u E R1 hu => ?_) (fun v hres s1 w1 u E R1 hu => ?_)
      ·subst hres
       dsimp only at hf
       split at hf <;> first | cases hf | skip
       obtain ⟨g1, g2, g3⟩ := hput E hu
       exact rest hf s1 w1 _ E g2 g3 R1 g1
      ·subst hres
       simp only [qAf, qAg] at hf
       obtain ⟨rfl, rfl, rfl⟩ := hf
       exact ⟨s1, E, R1, hN, hdf.ext0 E.toExt0, ⟨u, rfl, hu⟩, H.ext R.apart E⟩
end
end Go.Rv
namespace Go.Rv
def tmpsOf (xs : List Operand) : List Nat := xs.filterMap fun | .tmp t => some t | _ => none
def reads (ops : Array Oper) (o : Oper) : List Nat :=
 tmpsOf o.op.operands.toList ++ (match o.guard with | some (j, _) => ((ops[j]?).bind (·.dst)).toList | none => [])
def loudOp (C : Cfg) (f : Nat) (o : Oper) : Bool :=
 match o.op with
 | .move _ | .assign _ | .pick .. | .build .. | .load .. | .nilCheck _ | .binOp .. | .unOp .. | .convert .. | .makeInterface .. | .makeFunc .. | .slice .. | .fieldAddr .. | .field .. | .indexAddr .. | .index .. | .extract .. | .lookup .. => false
 | .buildSlice .. | .box .. => !(o.dst.map (C.imm f)).getD false
 | .call { callee := .builtin .len, .. } => false
 | .call { callee := .value (.func g), .. } => !C.pure g
 | .call { callee := .value _, .. } => !(o.dst.map (C.quiet f)).getD false
 | _ => true
def touchOp (C : Cfg) (f : Nat) (o : Oper) : Bool :=
 match o.op with
 | .convert src _ _ => (match C.ty src with | some ti => (match ti.td with | .slice _ => true | _ => false) | none => false)
 | .move _ | .assign _ | .pick .. | .build .. | .unOp .. | .makeInterface .. | .makeFunc .. | .field .. | .index .. | .extract .. => false
 | .binOp _ t _ _ _ => (match C.ty t with | some ti => (match ti.td with | .ptr | .slice _ => true | _ => false) | none => false)
 | .buildSlice .. | .box .. => !(o.dst.map (C.imm f)).getD false
 | .load .. => !(o.dst.map (C.quiet f)).getD false
 | _ => true
def dstC (ops : Array Oper) (x y : Oper) : Bool :=
 (match x.dst with | some d => (reads ops y).contains d || y.dst == some d | none => false) ||
 (match y.dst with | some d => (reads ops x).contains d | none => false)
def heapC (C : Cfg) (f : Nat) (x y : Oper) : Bool :=
 !isAlloc x && !isAlloc y && ((loudOp C f x && touchOp C f y) || (loudOp C f y && touchOp C f x))
def looseP (C : Cfg) (f : Nat) (i : Nat) (x y : Oper) : Bool :=
 !loudOp C f x && (match dkey y with | some t => (C.loose f t).contains i | none => false)
def antiC (ops : Array Oper) (x y : Oper) : Bool :=
 match y.dst with | some d => !(reads ops x).contains d && !(x.dst == some d) | none => true
def looseI (C : Cfg) (f : Nat) (ops : Array Oper) (i : Nat) : Bool := ops.toList.any fun o => match dkey o with | some t => (C.loose f t).contains i | none => false
def pairsOk (C : Cfg) (f : Nat) (ops : Array Oper) (b : Array Nat) : List Nat -> Bool
 | [] => true
 | i :: r => r.all (fun j => match ops[i]?, ops[j]? with
   | some x, some y => ((!dstC ops x y && (!heapC C f x y || looseP C f i x y)) || (b.getD j 0).testBit i) && (!looseI C f ops i || antiC ops x y)
   | _, _ => true) && pairsOk C f ops b r
def ordOk (C : Cfg) (f : Nat) (ops : Array Oper) : Bool :=
 pairsOk C f ops (Region.before ops) (ordIdx ops) &&
 (List.range ops.size).all (fun i => match ops[i]? with
  | some o => (!isAlloc o || (o.guard.isNone && o.dst.isSome)) && o.after.all (fun e => !Region.binds .any e || e.on < i) && !(match o.dst with | some d => (reads ops o).contains d | none => false)
  | none => true)
theorem loud_touch {C : Cfg} {f : Nat} {o : Oper} (h : loudOp C f o = true) : touchOp C f o = true := by
 unfold loudOp at h
 unfold touchOp
 generalize o.op = op at h ⊢
 cases op <;> first | rfl | exact h | (cases h; done) | skip
section
variable {P : Program} {C : Cfg} {s : Sim} {h : Heap} {w : World}
theorem evalA_congr {e e' : Env} {x : Operand} (hx : ∀ t, x = .tmp t -> e.get t = e'.get t) : evalA C e x = evalA C e' x := by
 cases x with
 | tmp t => simp only [evalA, hx t rfl]
 | _ => rfl
theorem mapO_congr {α β : Type} {f g : α -> Option β} : ∀ {l : List α}, (∀ a ∈ l, f a = g a) -> mapO f l = mapO g l
 | [], _ => rfl
 | a :: l, hl => by
  simp only [mapO]
  rw [hl a (by simp), mapO_congr (l := l) (fun b hb => hl b (by simp [hb]))]
theorem optA_congr {e e' : Env} {x : Option Operand} (hx : ∀ y, x = some y -> evalA C e y = evalA C e' y) : optA C e x = optA C e' x := by
 cases x with
 | none => rfl
 | some x => simp only [optA, hx x rfl]
theorem mem_tmpsOf {xs : List Operand} {t : Nat} (hx : Operand.tmp t ∈ xs) : t ∈ tmpsOf xs := by
 unfold tmpsOf
 exact List.mem_filterMap.2 ⟨_, hx, rfl⟩
theorem opA_congr {f : Nat} {e e' : Env} {h : Heap} {o : Oper} (he : ∀ t, t ∈ tmpsOf o.op.operands.toList -> e.get t = e'.get t) : opA C f e h o = opA C f e' h o := by
 have ev : ∀ x : Operand, x ∈ o.op.operands.toList -> evalA C e x = evalA C e' x := fun x hx => evalA_congr fun t ht => he t (mem_tmpsOf (ht ▸ hx))
 unfold opA
 simp only
 generalize o.op = op at ev ⊢
 cases op <;> (try simp only)
 case move x => rw [ev x (by simp [Op.operands])]
 case assign x => rw [ev x (by simp [Op.operands])]
 case pick c a b => rw [ev c (by simp [Op.operands]), ev a (by simp [Op.operands]), ev b (by simp [Op.operands])]
 case box t x => rw [ev x (by simp [Op.operands])]
 case build t ps => rw [mapO_congr (l := ps.toList) (fun p hp => by rw [ev p.2 (by simp [Op.operands]; exact ⟨p.1, by simpa using hp⟩)])]
 case buildSlice t n ps => rw [mapO_congr (l := ps.toList) (fun p hp => by rw [ev p.2 (by simp [Op.operands]; exact ⟨p.1, by simpa using hp⟩)])]
 case load t x => rw [ev x (by simp [Op.operands])]
 case store t x y => rw [ev x (by simp [Op.operands]), ev y (by simp [Op.operands])]
 case nilCheck x => rw [ev x (by simp [Op.operands])]
 case binOp b t x y t' => rw [ev x (by simp [Op.operands]), ev y (by simp [Op.operands])]
 case unOp u t x => rw [ev x (by simp [Op.operands])]
 case convert a b x => rw [ev x (by simp [Op.operands])]
 case makeInterface t x => rw [ev x (by simp [Op.operands])]
 case makeFunc fn first caps =>
  cases fn <;> simp only
  rw [mapO_congr (l := caps.toList) (fun x hx => ev x (by simp [Op.operands]; right; simpa using hx)), mapO_congr (l := first.toList) (fun x hx => ev x (by simp [Op.operands]; left; simpa using hx))]
 case makeSlice t x y => rw [ev x (by simp [Op.operands]), ev y (by simp [Op.operands])]
 case makeMap t r => cases r <;> rfl
 case range t x => rw [ev x (by simp [Op.operands])]
 case entry x => rw [ev x (by simp [Op.operands])]
 case typeAssert x t t' ok =>
  cases ok
  ·rfl
  ·simp only [ev x (by simp [Op.operands])]
 case lookup t x y ok => rw [ev x (by simp [Op.operands]), ev y (by simp [Op.operands])]
 case mapUpdate t x y z => rw [ev x (by simp [Op.operands]), ev y (by simp [Op.operands]), ev z (by simp [Op.operands])]
 case insert t x y z => rw [ev x (by simp [Op.operands]), ev y (by simp [Op.operands]), ev z (by simp [Op.operands])]
 case slice t x lo hi mx =>
  rw [ev x (by simp [Op.operands]), optA_congr (C := C) (e := e) (e' := e') (x := lo) (fun y hy => ev y (by simp [Op.operands, hy])), optA_congr (C := C) (e := e) (e' := e') (x := hi) (fun y hy => ev y (by simp [Op.operands, hy]))]
 case fieldAddr t x k => rw [ev x (by simp [Op.operands])]
 case field t x k => rw [ev x (by simp [Op.operands])]
 case indexAddr t x y => rw [ev x (by simp [Op.operands]), ev y (by simp [Op.operands])]
 case index t x y => rw [ev x (by simp [Op.operands]), ev y (by simp [Op.operands])]
 case extract x k => rw [ev x (by simp [Op.operands])]
 case call c =>
  obtain ⟨callee, args, ct⟩ := c
  cases callee <;> simp only
  rw [mapO_congr (l := args.toList) (fun x hx => ev x (by simp [Op.operands, Call.operands]; simpa using hx))]
theorem eqA_still {h h2 : Heap} {td : TD} {x y : AV} (ht : (match td with | .ptr | .slice _ => true | _ => false) = false) : eqA h td x y = eqA h2 td x y := by
 cases td <;> simp only [reduceCtorEq] at ht <;> cases x <;> first | rfl | (cases y <;> rfl)
theorem opA_still {f : Nat} {e : Env} {h h1 : Heap} {o : Oper} {v : AV} (hl : touchOp C f o = false) (ha : isAlloc o = false) (hv : opA C f e h o = some (v, h1)) : h1 = h /\ ∀ h2, opA C f e h2 o = some (v, h2) := by
 have fin : ∀ {x : Option AV}, (x.bind fun y => some (y, h)) = some (v, h1) -> h1 = h /\ ∀ h2 : Heap, (x.bind fun y => some (y, h2)) = some (v, h2) := by
  intro x hx
  obtain ⟨y, hy, hx⟩ := qAc.1 hx
  simp only [qAf, qAg] at hx
  obtain ⟨rfl, rfl⟩ := hx
  exact ⟨rfl, fun h2 => by rw [hy]; rfl⟩
 have cong : ∀ {α : Type} {x : Option α} {F G : α -> Option (AV × Heap)}, (∀ y, F y = some (v, h1) -> h1 = h /\ ∀ h2 : Heap, True) -> True := fun _ => trivial
 unfold opA at hv ⊢
 unfold touchOp at hl
 unfold isAlloc at ha
 simp only [qAd] at hv ⊢
 generalize o.op = op at hv hl ha ⊢
 cases op <;> simp only [reduceCtorEq, Bool.true_eq_false] at hv hl ha ⊢
 case move x => exact fin hv
 case assign x => exact fin hv
 case pick c a b =>
  obtain ⟨cv, hc, hv⟩ := qAc.1 hv
  simp only [hc, qAe]
  split at hv
  ·exact fin hv
  ·exact fin hv
  ·cases hv
 case build t ps =>
  obtain ⟨q, hq, hv⟩ := qAc.1 hv
  simp only [hq, qAe]
  exact fin hv
 case box t x =>
  simp only [Bool.not_eq_false'] at hl
  obtain ⟨ti, hti, hv⟩ := qAc.1 hv
  obtain ⟨xv, hx, hv⟩ := qAc.1 hv
  simp only [hti, hx, qAe]
  split at hv
  ·rename_i hc
   simp only [qAf, qAg] at hv
   obtain ⟨rfl, rfl⟩ := hv
   exact ⟨rfl, fun h2 => by rw [if_pos hc]; simp [hl]⟩
  ·cases hv
 case load t x =>
  simp only [Bool.not_eq_false'] at hl
  obtain ⟨xv, hx, hv⟩ := qAc.1 hv
  simp only [hx, qAe]
  split at hv
  ·cases hv
  ·rename_i hc
   have hr : xv.isRef = true := by simpa [hl] using hc
   cases xv <;> simp only [AV.isRef, qAb] at hr
   obtain ⟨h1, h2⟩ := fin hv
   exact ⟨h1, fun h3 => by rw [if_neg hc]; exact h2 h3⟩
 case buildSlice t n ps =>
  simp only [Bool.not_eq_false'] at hl
  obtain ⟨q, hq, hv⟩ := qAc.1 hv
  obtain ⟨ti, hti, hv⟩ := qAc.1 hv
  simp only [hq, hti, qAe]
  generalize ti.td = td at hv ⊢
  cases td <;> simp only [reduceCtorEq] at hv ⊢
  obtain ⟨te, hte, hv⟩ := qAc.1 hv
  simp only [hte, qAe]
  split at hv
  ·cases hv
  ·rename_i hc
   obtain ⟨cs, hcs, hv⟩ := qAc.1 hv
   simp only [qAf, qAg] at hv
   obtain ⟨rfl, rfl⟩ := hv
   exact ⟨rfl, fun h2 => by rw [if_neg hc, hcs]; simp [hl]⟩
 case binOp b t x y t' =>
  obtain ⟨xv, hx, hv⟩ := qAc.1 hv
  simp only [hx, qAe]
  split at hv
  ·rename_i hn
   obtain ⟨z, hz, hv⟩ := qAc.1 hv
   simp only [qAf, qAg] at hv
   obtain ⟨rfl, rfl⟩ := hv
   exact ⟨rfl, fun h2 => by rw [if_pos hn, hz]; rfl⟩
  rename_i hn
  simp only [if_neg hn]
  obtain ⟨yv, hy, hv⟩ := qAc.1 hv
  simp only [hy, qAe]
  obtain ⟨z, hz, hv⟩ := qAc.1 hv
  simp only [qAf, qAg] at hv
  obtain ⟨rfl, rfl⟩ := hv
  refine ⟨rfl, fun h2 => ?_⟩
  have : binA C h2 b t xv yv = binA C h b t xv yv := by
   unfold binA
   split
   ·rfl
   ·rfl
   ·cases hti : C.ty t with
    | none => rfl
    | some ti =>
     simp only [hti] at hl
     have he : eqC C h2 t ti.td xv yv = eqC C h t ti.td xv yv := by
      unfold eqC
      split
      ·rfl
      ·exact eqA_still (h := h2) (h2 := h) hl
     simp only [qAd, qAe, he]
  rw [this, hz]; rfl
 case unOp u t x =>
  obtain ⟨xv, hx, hv⟩ := qAc.1 hv
  simp only [hx, qAe]
  exact fin hv
 case convert a b x =>
  obtain ⟨xv, hx, hv⟩ := qAc.1 hv
  simp only [hx, qAe]
  obtain ⟨z, hz, hv⟩ := qAc.1 hv
  simp only [qAf, qAg] at hv
  obtain ⟨rfl, rfl⟩ := hv
  refine ⟨rfl, fun h2 => ?_⟩
  have : convH C h2 a b xv = convH C h a b xv := by
   unfold convH
   cases hti : C.ty a with
   | none => rfl
   | some ti =>
    simp only [hti] at hl
    simp only [qAd, qAe]
    generalize ti.td = td at hl ⊢
    cases td <;> first | rfl | cases hl
  rw [this, hz]; rfl
 case makeInterface t x =>
  obtain ⟨ti, hti, hv⟩ := qAc.1 hv
  simp only [hti, qAe]
  generalize ti.td = td at hv ⊢
  cases td <;> first | (cases hv; done) | (
   obtain ⟨xv, hx, hv⟩ := qAc.1 hv
   simp only [qAf, qAg] at hv
   obtain ⟨rfl, rfl⟩ := hv
   exact ⟨rfl, fun h2 => by simp only [hx, qAe]⟩)
 case makeFunc fn first caps =>
  cases fn <;> simp only [reduceCtorEq] at hv ⊢
  split at hv
  ·rename_i hf
   obtain ⟨cs, hcs, hv⟩ := qAc.1 hv
   simp only [qAf, qAg] at hv
   obtain ⟨rfl, rfl⟩ := hv
   exact ⟨rfl, fun h2 => by rw [if_pos hf, hcs]; rfl⟩
  ·rename_i hf
   split at hv
   ·rename_i hg
    obtain ⟨cs, hcs, hv⟩ := qAc.1 hv
    simp only [qAf, qAg] at hv
    obtain ⟨rfl, rfl⟩ := hv
    exact ⟨rfl, fun h2 => by rw [if_neg hf, if_pos hg, hcs]; rfl⟩
   ·cases hv
 case field t x k =>
  obtain ⟨xv, hx, hv⟩ := qAc.1 hv
  simp only [hx, qAe]
  exact fin hv
 case index t x y =>
  obtain ⟨xv, hx, hv⟩ := qAc.1 hv
  obtain ⟨yv, hy, hv⟩ := qAc.1 hv
  simp only [hx, hy, qAe]
  exact fin hv
 case extract x k =>
  obtain ⟨xv, hx, hv⟩ := qAc.1 hv
  simp only [hx, qAe]
  split at hv
  ·exact fin hv
  ·cases hv
theorem opA_quiet {f : Nat} {e : Env} {h h1 : Heap} {o : Oper} {v : AV} (hl : loudOp C f o = false) (hv : opA C f e h o = some (v, h1)) : h1 = h := by
 have fin : ∀ {x : Option AV}, (x.bind fun y => some (y, h)) = some (v, h1) -> h1 = h := by
  intro x hx
  obtain ⟨y, hy, hx⟩ := qAc.1 hx
  simp only [qAf, qAg] at hx
  exact hx.2.symm
 by_cases ht : touchOp C f o = false
 ·refine (opA_still (C := C) ht ?_ hv).1
  unfold isAlloc
  unfold loudOp at hl
  split <;> first | rfl | skip
  rename_i t ho
  rw [ho] at hl
  cases hl
 ·unfold opA at hv
  unfold loudOp at hl
  unfold touchOp at ht
  simp only [qAd] at hv
  generalize o.op = op at hv hl ht
  cases op <;> simp only [reduceCtorEq, Bool.true_eq_false, not_true_eq_false] at hv hl ht
  case load t x =>
   obtain ⟨xv, hx, hv⟩ := qAc.1 hv
   split at hv
   ·cases hv
   ·exact fin hv
  case box t x => exact absurd hl ht
  case buildSlice t n ps => exact absurd hl ht
  case nilCheck x =>
   obtain ⟨xv, hx, hv⟩ := qAc.1 hv
   split at hv
   ·split at hv
    ·simp only [qAf, qAg] at hv; exact hv.2.symm
    ·cases hv
   all_goals first | (simp only [qAf, qAg] at hv; exact hv.2.symm) | cases hv
  case binOp b t x y t' =>
   obtain ⟨xv, hx, hv⟩ := qAc.1 hv
   split at hv
   ·exact fin hv
   obtain ⟨yv, hy, hv⟩ := qAc.1 hv
   exact fin hv
  case convert a b x =>
   obtain ⟨xv, hx, hv⟩ := qAc.1 hv
   exact fin hv
  case slice t x lo hi mx =>
   obtain ⟨xv, hx, hv⟩ := qAc.1 hv
   obtain ⟨yv, hy, hv⟩ := qAc.1 hv
   split at hv
   ·cases hv
   ·obtain ⟨zv, hz, hv⟩ := qAc.1 hv
    exact fin hv
  case fieldAddr t x k =>
   obtain ⟨xv, hx, hv⟩ := qAc.1 hv
   exact fin hv
  case lookup t x y ok =>
   obtain ⟨xv, hx, hv⟩ := qAc.1 hv
   obtain ⟨yv, hy, hv⟩ := qAc.1 hv
   exact fin hv
  case indexAddr t x y =>
   obtain ⟨xv, hx, hv⟩ := qAc.1 hv
   obtain ⟨yv, hy, hv⟩ := qAc.1 hv
   exact fin hv
  case call c =>
   obtain ⟨callee, args, ct⟩ := c
   cases callee <;> simp only [reduceCtorEq] at hv hl
   case builtin b =>
    cases b <;> simp only [Bool.true_eq_false] at hl
    obtain ⟨vs, hvs, hv⟩ := qAc.1 hv
    split at hv
    ·obtain ⟨t, ht', hv⟩ := qAc.1 hv
     obtain ⟨ti, hti, hv⟩ := qAc.1 hv
     obtain ⟨n, hn, hv⟩ := qAc.1 hv
     simp only [qAf, qAg] at hv
     exact hv.2.symm
    ·rename_i hb; cases hb
    ·simp [moreA] at hv
theorem callF_pure {ord : Nat -> Array Oper -> Bool} (K : Ok P C ord) {k g : Nat} {args : List AV} {h h' : Heap} {v : AV} (hp : C.pure g = true) (hc : callF C k g args h = some (.ret v, h')) : h' = h := by
 cases k with
 | zero => simp [callF] at hc
 | succ k =>
  simp only [callF, qAd] at hc
  cases hpr : C.prim g with
  | some p =>
   simp only [hpr] at hc
   exact (K.prim g p hpr).2.1 hp _ _ _ _ hc
  | none =>
   simp only [hpr] at hc
   obtain ⟨fi, hfi, hc⟩ := qAc.1 hc
   split at hc
   ·cases hc
   split at hc
   ·obtain ⟨avs, _, hc⟩ := qAc.1 hc
    obtain ⟨⟨out, e1, h1⟩, hx, hc⟩ := qAc.1 hc
    have hrs : ∀ {y : Option (List AV)}, (y.bind fun rs => if (packA rs).plain then some (CRes.ret (packA rs), h) else none) = some (.ret v, h') -> h' = h := by
     intro y hy
     obtain ⟨rs, _, hy⟩ := qAc.1 hy
     split at hy
     ·simp only [qAf, qAg] at hy; exact hy.2.symm
     ·cases hy
    cases out <;> first | exact hrs hc | cases hc
   obtain ⟨⟨out, e1, h1⟩, hx, hc⟩ := qAc.1 hc
   have hleave : ∀ {vs : Option (List AV)}, (vs.bind fun vs => leaveA C g h (packA vs) h1) = some (.ret v, h') -> h' = h := by
    intro vs hv
    obtain ⟨rs, _, hv⟩ := qAc.1 hv
    unfold leaveA at hv
    rw [if_pos hp] at hv
    split at hv
    ·obtain ⟨y, _, hy⟩ := qAl.1 hv
     simp only [qAg] at hy
     exact hy.2.symm
    ·cases hv
   cases out with
   | nrm => exact hleave hc
   | ret => exact hleave hc
   | exit id => cases hc
   | pan u =>
    simp only [qAf, qAg, reduceCtorEq, false_and] at hc
theorem callV_pure {ord : Nat -> Array Oper -> Bool} (K : Ok P C ord) {k : Nat} {gv : AV} {vs : List AV} {h h' : Heap} {v : AV} (hp : pureV C gv = true) (hc : callV C k gv vs h = some (.ret v, h')) : h' = h := by
 cases k with
 | zero => simp [callV] at hc
 | succ k =>
  cases gv <;> simp only [pureV, qAb] at hp <;> (simp only [callV] at hc; exact callF_pure K hp hc)
end
end Go.Rv
namespace Go.Rv
section
variable {P : Program} {C : Cfg} {s : Sim} {h : Heap} {w : World}
def StepA (C : Cfg) (f : Nat) (ops : Array Oper) (k : Nat) (o : Oper) (x : Env × Heap) (v : AV) (h' : Heap) : Prop :=
 (wantA ops x.1 o = some false /\ v = .tup [] /\ h' = x.2) ∨
 (wantA ops x.1 o = some true /\ callee o = none /\ opA C f x.1 x.2 o = some (v, h') /\ looseAll C f ops (dkey o) x.1 h' = true) ∨
 (wantA ops x.1 o = some true /\ ∃ g args vs gv k', callee o = some (g, args) /\ mapO (evalA C x.1) args.toList = some vs /\ evalA C x.1 g = some gv /\
  ((o.dst.map (C.quiet f)).getD false && !pureV C gv) = false /\ k' <= k /\ callV C k' gv vs x.2 = some (.ret v, h') /\ looseAll C f ops (dkey o) x.1 h' = true)
theorem StepA.le {f : Nat} {ops : Array Oper} {k k' : Nat} {o : Oper} {x : Env × Heap} {v : AV} {h' : Heap} (hk : k <= k') (H : StepA C f ops k o x v h') : StepA C f ops k' o x v h' := by
 rcases H with H | H | ⟨h1, g, args, vs, gv, j, h2, h3, h4, h5, h6, h7⟩
 ·exact .inl H
 ·exact .inr (.inl H)
 ·exact .inr (.inr ⟨h1, g, args, vs, gv, j, h2, h3, h4, h5, by omega, h7⟩)
theorem trace_of {f : Nat} {ops : Array Oper} : ∀ (l : List Oper) (k : Nat) (e : Env) (h : Heap) (e' : Env) (h' : Heap), opsF C k f ops l e h = some (.nrm, e', h') ->
  ∃ (tr : Nat -> Env × Heap) (vl : Nat -> AV), tr 0 = (e, h) /\ tr l.length = (e', h') /\ ∀ (j : Nat) o, l[j]? = some o -> StepA C f ops k o (tr j) (vl j) (tr (j + 1)).2 /\ (tr (j + 1)).1 = (tr j).1.putAt o.dst (vl j)
 | [], k, e, h, e', h', hf => by
  cases k with
  | zero => simp [opsF] at hf
  | succ k =>
   simp only [opsF, qAf, qAg, true_and] at hf
   obtain ⟨rfl, rfl⟩ := hf
   exact ⟨fun _ => (e, h), fun _ => .junk, rfl, rfl, fun j o hj => by simp at hj⟩
 | o :: r, k, e, h, e', h', hf => by
  cases k with
  | zero => simp [opsF] at hf
  | succ k =>
   rw [opsF_cons] at hf
   replace hf := qAc.1 hf
   obtain ⟨b, hw, hf⟩ := hf
   have fin : ∀ {v : AV} {h1 : Heap}, StepA C f ops (k + 1) o (e, h) v h1 -> opsF C k f ops r (e.putAt o.dst v) h1 = some (.nrm, e', h') ->
     ∃ (tr : Nat -> Env × Heap) (vl : Nat -> AV), tr 0 = (e, h) /\ tr (r.length + 1) = (e', h') /\ ∀ (j : Nat) o', (o :: r)[j]? = some o' -> StepA C f ops (k + 1) o' (tr j) (vl j) (tr (j + 1)).2 /\ (tr (j + 1)).1 = (tr j).1.putAt o'.dst (vl j) := by
    intro v h1 hs hr
    obtain ⟨tr, vl, t0, tn, ts⟩ := trace_of r k _ _ _ _ hr
    refine ⟨fun j => match j with | 0 => (e, h) | j + 1 => tr j, fun j => match j with | 0 => v | j + 1 => vl j, rfl, tn, fun j o' hj => ?_⟩
    cases j with
    | zero =>
     simp only [qBe, qAf] at hj
     subst hj
     simp only [t0]
     exact ⟨hs, trivial⟩
    | succ j =>
     obtain ⟨a1, a2⟩ := ts j o' (by simpa using hj)
     exact ⟨a1.le (by omega), a2⟩
   cases b with
   | false => exact fin (.inl ⟨hw, rfl, rfl⟩) hf
   | true =>
    cases hc : callee o with
    | none =>
     simp only [hc] at hf
     cases hp : panO C e o with
     | some v => simp [hp] at hf
     | none =>
     simp only [hp] at hf
     replace hf := qAc.1 hf
     obtain ⟨⟨v, h1⟩, hv, hf⟩ := hf
     split at hf <;> first | cases hf | skip
     rename_i hlo
     exact fin (.inr (.inl ⟨hw, hc, hv, hlo⟩)) hf
    | some ga =>
     obtain ⟨g, args⟩ := ga
     simp only [hc] at hf
     replace hf := qAc.1 hf
     obtain ⟨vs, hvs, hf⟩ := hf
     replace hf := qAc.1 hf
     obtain ⟨gv, hgv, hf⟩ := hf
     split at hf
     ·cases hf
     rename_i hq
     replace hf := qAc.1 hf
     obtain ⟨⟨res, h1⟩, hcall, hf⟩ := hf
     cases res with
     | pan v => simp at hf
     | ret v =>
      dsimp only at hf
      split at hf <;> first | cases hf | skip
      rename_i hlo
      exact fin (.inr (.inr ⟨hw, g, args, vs, gv, k, hc, hvs, hgv, by simpa using hq, by omega, hcall, hlo⟩)) hf
theorem step_quiet {ord : Nat -> Array Oper -> Bool} (K : Ok P C ord) {f : Nat} {ops : Array Oper} {k : Nat} {o : Oper} {x : Env × Heap} {v : AV} {h' : Heap} (hl : loudOp C f o = false) (H : StepA C f ops k o x v h') : h' = x.2 := by
 rcases H with ⟨_, _, H⟩ | ⟨_, _, H, _⟩ | ⟨_, g, args, vs, gv, j, h2, h3, h4, h5, _, h7, _⟩
 ·exact H
 ·exact opA_quiet hl H
 ·refine callV_pure K ?_ h7
  obtain ⟨ct, ho⟩ := callee_op h2
  unfold loudOp at hl
  simp only [ho] at hl
  cases g with
  | func g0 =>
   simp only [Bool.not_eq_false'] at hl
   simp only [evalA, qAf] at h4
   rw [← h4]; exact hl
  | _ =>
   simp only [Bool.not_eq_false'] at hl
   rw [hl] at h5
   simpa using h5
theorem map_range (ops : Array Oper) : (List.range ops.size).map (ops[·]?) = ops.toList.map some := by
 apply qBk
 intro i
 simp only [qBc]
 by_cases hi : i < ops.size
 ·simp [hi]
 ·simp [hi]
theorem filter_idx (ops : Array Oper) (p : Oper -> Bool) (q : Option Oper -> Bool) (hq : ∀ o, q (some o) = p o) : ((List.range ops.size).filter (fun i => q (ops[i]?))).map (ops[·]?) = (ops.toList.filter p).map some := by
 have h1 : ((List.range ops.size).filter (fun i => q (ops[i]?))).map (ops[·]?) = ((List.range ops.size).map (ops[·]?)).filter q := by
  rw [List.filter_map]; rfl
 rw [h1, map_range, List.filter_map]
 congr 1
 apply List.filter_congr
 intro o _
 exact hq o
theorem ord_lt {ops : Array Oper} {i : Nat} (h : i ∈ ordIdx ops) : i < ops.size := by
 unfold ordIdx at h
 rcases qAp.1 h with h | h
 ·exact List.mem_range.1 (List.mem_filter.1 h).1
 ·obtain ⟨l, _, h⟩ := List.mem_flatMap.1 h
  exact List.mem_range.1 (List.mem_filter.1 h).1
theorem pick_map (ops : Array Oper) : ∀ (L : List Nat), (∀ i ∈ L, i < ops.size) -> L.map (ops[·]?) = (L.filterMap (ops[·]?)).map some
 | [], _ => rfl
 | i :: r, H => by
  have hi := H i (qAi ..)
  have : ops[i]? = some ops[i] := Array.getElem?_eq_getElem hi
  rw [qAm, List.filterMap_cons, this, qAm, pick_map ops r fun j hj => H j (qAk _ hj)]
theorem idx_sched (ops : Array Oper) : (ordIdx ops).map (ops[·]?) = (sched ops true).map some := by
 unfold sched
 rw [if_pos rfl]
 exact pick_map ops _ fun i hi => ord_lt hi
theorem idx_at {ops : Array Oper} {p i : Nat} (hp : (ordIdx ops)[p]? = some i) : ∃ o, ops[i]? = some o /\ (sched ops true)[p]? = some o := by
 have h1 : ((ordIdx ops).map (ops[·]?))[p]? = some (ops[i]?) := by rw [qBc, hp]; rfl
 rw [idx_sched, qBc] at h1
 obtain ⟨o, h2, h3⟩ := qAl.1 h1
 exact ⟨o, h3.symm, h2⟩
theorem sched_at {ops : Array Oper} {p : Nat} {o : Oper} (hp : (sched ops true)[p]? = some o) : ∃ i, (ordIdx ops)[p]? = some i /\ ops[i]? = some o := by
 have h1 : ((sched ops true).map some)[p]? = some (some o) := by rw [qBc, hp]; rfl
 rw [← idx_sched, qBc] at h1
 obtain ⟨i, h2, h3⟩ := qAl.1 h1
 exact ⟨i, h2, h3⟩
theorem idx_length (ops : Array Oper) : (ordIdx ops).length = (sched ops true).length := by
 have := congrArg List.length (idx_sched ops)
 simpa using this
theorem idx_mem {ops : Array Oper} {i : Nat} (hi : i < ops.size) : ∃ p : Nat, (ordIdx ops)[p]? = some i := by
 have : i ∈ ordIdx ops := by
  unfold ordIdx
  rw [qAp]
  cases h : ((ops[i]?).map isAlloc).getD false
  ·refine .inr (List.mem_flatMap.2 ⟨Nat.min (rankO ops i) ops.size, List.mem_range.2 (Nat.lt_succ_of_le (Nat.min_le_right _ _)), List.mem_filter.2 ⟨List.mem_range.2 hi, ?_⟩⟩)
   rw [h]
   simp
  ·exact .inl (List.mem_filter.2 ⟨List.mem_range.2 hi, h⟩)
 exact List.mem_iff_getElem?.1 this
theorem idx_nodup (ops : Array Oper) : (ordIdx ops).Nodup := by
 unfold ordIdx
 refine List.nodup_append.2 ⟨List.nodup_range.filter _, ?_, ?_⟩
 ·refine List.pairwise_flatMap.2 ⟨fun l _ => List.nodup_range.filter _, ?_⟩
  have hr : (List.range (ops.size + 1)).Pairwise (· ≠ ·) := List.nodup_range
  refine hr.imp fun {a b} hab x hx y hy e => ?_
  subst e
  have h1 := (List.mem_filter.1 hx).2
  have h2 := (List.mem_filter.1 hy).2
  simp only [qAa] at h1 h2
  exact hab ((Nat.eq_of_beq_eq_true h1.2).symm.trans (Nat.eq_of_beq_eq_true h2.2))
 ·intro a ha b hb e
  subst e
  have h1 := (List.mem_filter.1 ha).2
  obtain ⟨l, _, hb⟩ := List.mem_flatMap.1 hb
  have h2 := (List.mem_filter.1 hb).2
  simp only [qAa, qBh] at h2
  rw [h1] at h2
  exact absurd h2.1 (by simp)
theorem idx_inj {ops : Array Oper} {p q i : Nat} (hp : (ordIdx ops)[p]? = some i) (hq : (ordIdx ops)[q]? = some i) : p = q := by
 obtain ⟨h1, h2⟩ := qAu.1 hp
 obtain ⟨h3, h4⟩ := qAu.1 hq
 have hpw := List.pairwise_iff_getElem.1 (idx_nodup ops)
 rcases Nat.lt_trichotomy p q with hlt | he | hgt
 ·exact absurd (h2.trans h4.symm) (hpw p q h1 h3 hlt)
 ·exact he
 ·exact absurd (h4.trans h2.symm) (hpw q p h3 h1 hgt)
def allocs (ops : Array Oper) : Nat := (ops.toList.filter isAlloc).length
theorem alloc_len (ops : Array Oper) : ((List.range ops.size).filter (fun i => ((ops[i]?).map isAlloc).getD false)).length = allocs ops := by
 have := congrArg List.length (filter_idx ops isAlloc (fun x => (x.map isAlloc).getD false) (fun o => rfl))
 simpa [allocs] using this
theorem alloc_at {ops : Array Oper} {p : Nat} {o : Oper} (hp : (sched ops true)[p]? = some o) : isAlloc o = decide (p < allocs ops) := by
 obtain ⟨i, hi, ho⟩ := sched_at hp
 unfold ordIdx at hi
 rw [List.getElem?_append, alloc_len] at hi
 split at hi
 ·rename_i hlt
  have := (List.mem_filter.1 (qBj hi)).2
  rw [ho] at this
  simp only [qAo, Option.getD_some] at this
  simp [this, hlt]
 ·rename_i hlt
  have hm := qBj hi
  have : isAlloc o = false := by
   obtain ⟨l, _, hm⟩ := List.mem_flatMap.1 hm
   have := (List.mem_filter.1 hm).2
   rw [ho] at this
   simp only [qAo, Option.getD_some, qAa, qBh] at this
   exact this.1
  simp [this, hlt]
theorem pairs_spec {f : Nat} {ops : Array Oper} {b : Array Nat} : ∀ (L : List Nat), pairsOk C f ops b L = true -> ∀ (p q i j : Nat) (x y : Oper), p < q -> L[p]? = some i -> L[q]? = some j -> ops[i]? = some x -> ops[j]? = some y ->
  ((dstC ops x y = true -> (b.getD j 0).testBit i = true) /\ (heapC C f x y = true -> looseP C f i x y = false -> (b.getD j 0).testBit i = true)) /\ (looseI C f ops i = true -> antiC ops x y = true)
 | [], _, p, q, i, j, x, y, _, hp, _, _, _ => by simp at hp
 | a :: L, H, p, q, i, j, x, y, hpq, hp, hq, hx, hy => by
  simp only [pairsOk, qAa, qBd] at H
  obtain ⟨H1, H2⟩ := H
  cases q with
  | zero => omega
  | succ q =>
   have hq' : L[q]? = some j := by simpa using hq
   cases p with
   | zero =>
    simp only [qBe, qAf] at hp
    subst hp
    have := H1 j (qBj hq')
    simp only [hx, hy, qAa, Bool.or_eq_true, qBh] at this
    obtain ⟨h1, h2⟩ := this
    refine ⟨⟨fun hd => ?_, fun hh hl => ?_⟩, fun ha => ?_⟩
    ·rcases h1 with ⟨h1, _⟩ | h1
     ·rw [hd] at h1; cases h1
     ·exact h1
    ·rcases h1 with ⟨_, h1 | h1⟩ | h1
     ·rw [hh] at h1; cases h1
     ·rw [hl] at h1; cases h1
     ·exact h1
    ·rcases h2 with h2 | h2
     ·rw [ha] at h2; cases h2
     ·exact h2
   | succ p => exact pairs_spec L H2 p q i j x y (by omega) (by simpa using hp) hq' hx hy
theorem before_in (D : Nat -> Prop) (ops : Array Oper) (hcl : ∀ i o, ops[i]? = some o -> D i -> ∀ e ∈ o.after, Region.binds .any e = true -> D e.on) (i : Nat) (o : Oper) (ho : ops[i]? = some o) (hr : ∀ e ∈ o.after, Region.binds .any e = true -> D e.on)
  (x : Nat) (hx : ((Region.before ops).getD i 0).testBit x = true) : D x := by
 have inner : ∀ (acc : Array Nat), acc.size <= ops.size -> (∀ i, i < acc.size -> ∀ o, ops[i]? = some o -> (∀ e ∈ o.after, Region.binds .any e = true -> D e.on) -> ∀ x, (acc.getD i 0).testBit x = true -> D x) ->
   ∀ (es : List Edge) (m : Nat), (∀ e ∈ es, Region.binds .any e = true -> D e.on) -> (∀ x, m.testBit x = true -> D x) ->
   ∀ x, (es.foldl (fun s e => if Region.binds .any e then s ||| 2 ^ e.on ||| acc.getD e.on 0 else s) m).testBit x = true -> D x := by
  intro acc hsz hacc es
  induction es with
  | nil => intro m _ hm x hx; exact hm x hx
  | cons e es ih =>
   intro m he hm x hx
   simp only [List.foldl_cons] at hx
   refine ih _ (fun e' he' => he e' (by simp [he'])) ?_ x hx
   intro y hy
   split at hy
   ·rename_i hb
    rw [Nat.testBit_or, Nat.testBit_or, Bool.or_eq_true, Bool.or_eq_true] at hy
    have hDe := he e (by simp) hb
    rcases hy with (hy | hy) | hy
    ·exact hm y hy
    ·rw [Nat.testBit_two_pow] at hy
     have : e.on = y := by simpa using hy
     rw [← this]; exact hDe
    ·by_cases hlt : e.on < acc.size
     ·have hlt' : e.on < ops.size := by omega
      have hoe : ops[e.on]? = some ops[e.on] := Array.getElem?_eq_getElem hlt'
      exact hacc e.on hlt _ hoe (fun e' he' hb' => hcl _ _ hoe hDe e' he' hb') y hy
     ·rw [show acc.getD e.on 0 = 0 by simp [hlt]] at hy
      simp at hy
   ·exact hm y hy
 have outer : ∀ (l : List Oper) (acc : Array Nat), acc.size + l.length <= ops.size -> (∀ (j : Nat) o, l[j]? = some o -> ops[acc.size + j]? = some o) ->
   (∀ i, i < acc.size -> ∀ o, ops[i]? = some o -> (∀ e ∈ o.after, Region.binds .any e = true -> D e.on) -> ∀ x, (acc.getD i 0).testBit x = true -> D x) ->
   ∀ i o, ops[i]? = some o -> (∀ e ∈ o.after, Region.binds .any e = true -> D e.on) -> ∀ x,
    ((l.foldl (fun (acc : Array Nat) o => acc.push (o.after.foldl (fun s e => if Region.binds .any e then s ||| 2 ^ e.on ||| acc.getD e.on 0 else s) 0)) acc).getD i 0).testBit x = true -> D x := by
  intro l
  induction l with
  | nil =>
   intro acc _ _ hacc i o ho hr x hx
   simp only [List.foldl_nil] at hx
   by_cases hlt : i < acc.size
   ·exact hacc i hlt o ho hr x hx
   ·rw [show acc.getD i 0 = 0 by simp [hlt]] at hx
    simp at hx
  | cons o l ih =>
   intro acc hsz hl hacc i o' ho' hr x hx
   simp only [List.foldl_cons] at hx
   refine ih _ (by simp at hsz ⊢; omega) (fun j o'' hj => ?_) (fun i' hi' o'' ho'' hr'' y hy => ?_) i o' ho' hr x hx
   ·have := hl (j + 1) o'' (by simpa using hj)
    simp only [Array.size_push]
    rw [show acc.size + 1 + j = acc.size + (j + 1) by omega]
    exact this
   ·simp only [Array.size_push] at hi'
    by_cases hlt : i' < acc.size
    ·refine hacc i' hlt o'' ho'' hr'' y ?_
     have : (acc.push (o.after.foldl (fun s e => if Region.binds .any e then s ||| 2 ^ e.on ||| acc.getD e.on 0 else s) 0)).getD i' 0 = acc.getD i' 0 := by
      simp [Array.getElem?_push, Nat.ne_of_lt hlt, hlt]
     rw [this] at hy; exact hy
    ·obtain rfl : i' = acc.size := by omega
     have hoo : ops[acc.size]? = some o := by simpa using hl 0 o rfl
     rw [hoo] at ho''
     injection ho'' with ho''; subst ho''
     have : (acc.push (o.after.foldl (fun s e => if Region.binds .any e then s ||| 2 ^ e.on ||| acc.getD e.on 0 else s) 0)).getD acc.size 0 = o.after.toList.foldl (fun s e => if Region.binds .any e then s ||| 2 ^ e.on ||| acc.getD e.on 0 else s) 0 := by
      rw [← Array.foldl_toList]
      simp
     rw [this] at hy
     exact inner acc (by simp at hsz; omega) hacc o.after.toList 0 (fun e he hb => hr'' e (by simpa using he) hb) (fun y hy => by simp at hy) y hy
 have hb : Region.before ops = ops.toList.foldl (fun (acc : Array Nat) o => acc.push (o.after.foldl (fun s e => if Region.binds .any e then s ||| 2 ^ e.on ||| acc.getD e.on 0 else s) 0)) #[] := by
  unfold Region.before
  rw [← Array.foldl_toList]
 rw [hb] at hx
 exact outer ops.toList #[] (by simp) (fun j o hj => by simpa using hj) (fun i hi => by simp at hi) i o ho hr x hx
end
end Go.Rv
