/-
  A range over a map: whichever entry comes next, the rounds come to the same.
-/
import Derived.Test.YtiigpcapieeljaaGreatDoorRvExec
set_option linter.unusedSimpArgs false
set_option linter.unusedVariables false
namespace Go.Rv
open Go.ChangeMaps (setBlock)
section
variable {P : Program} {C : Cfg} {s : Sim} {h : Heap} {w : World}

def Sim.fix (s : Sim) (g : Fixed) : Sim := { s with good := g }

theorem Rel.fix (R : Rel s h w) (g : Fixed) (hg : g.good = s.good.good) (hp : ∀ o b es, s.μ o = some b → h[o]? = some (.iter 2 es) → ∀ x, s.good.pin b x → g.pin b x) : Rel (s.fix g) h w where
  inj := R.inj
  obj o b hb := by
    obtain ⟨x, hx, hr⟩ := R.obj o b hb
    refine ⟨x, hx, ?_⟩
    cases x with
    | cells cs gn =>
      obtain ⟨bc, el, k1, k2, k3⟩ := hr
      exact ⟨bc, el, k1, k2, fun i c hi => let ⟨v, h1, h2⟩ := k3 i c hi; ⟨v, h1, h2.regood g⟩⟩
    | map es =>
      obtain ⟨es0, hp0, en, cl, k1, k2, k3, k4⟩ := hr
      exact ⟨es0, hp0, en, cl, k1, k2, k3, fun i e hi => let ⟨m, h1, h2, h3⟩ := k4 i e hi; ⟨m, h1, h2.regood g, h3.regood g⟩⟩
    | loop r =>
      obtain ⟨rec, k1, k2, k3, k4⟩ := hr
      exact ⟨rec, k1, k2, fun t => (k3 t).regood g, by show g.good _ _ _ _ _; rw [hg]; exact k4⟩
    | iter k es =>
      obtain ⟨bm, since, seen, last, en, cl, k1, k2, k3, k4, k5⟩ := hr
      refine ⟨bm, since, seen, last, en, cl, k1, k2, k3, fun hk => ?_, fun hk => ?_⟩
      · obtain ⟨q1, q2, q3, q4, q5, es0, hp0, q6⟩ := k4 hk
        exact ⟨q1, q2, q3, q4, q5, es0, hp0, fun i e hi => let ⟨m, hm, h6, h7⟩ := q6 i e hi; ⟨m, hm, h6.regood g, h7.regood g⟩⟩
      · subst hk
        obtain ⟨q1, q2, q3, q4⟩ := k5 rfl
        exact ⟨hp o b es hb hx _ q1, q2, q3, fun e he => let ⟨m, hm, h6, h7, h8⟩ := q4 e he; ⟨m, hm, h6, h7.regood g, h8.regood g⟩⟩
  apart := R.apart
  imm := R.imm

theorem Ext.fix {g : Fixed} {s' : Sim} {h' : Heap} {w' : World} (E : Ext (s.fix g) h w s' h' w') : Ext s h w (s'.fix s.good) h' w' where
  size := E.size
  far := E.far
  shape := E.shape
  imm := E.imm
  gen := E.gen
  same := E.same
  kind := E.kind
  own := E.own
  os := E.os
  tape := E.tape
  output := E.output
  kindL := E.kindL
  good := rfl
  old := E.old
  kept := E.kept
  immOld := E.immOld

/-- The iterator's object and its block are written. -/
theorem iter_write (R : Rel s h w) {o r k k' bm since last : Nat} {seen : Array Nat} {es es' : List (AV × AV)} {en : Array MapEntry} {cl : Nat} {w' : World} (hb : s.μ o = some r) (ho : h[o]? = some (.iter k es)) (hI : s.I bm) (hbm : w.heap[bm]? = some (.map en cl))
    (W : Wrote w w' r) (hr : w'.heap[r]? = some (.mapIter (some bm) since seen last)) (hk0 : k' ≠ 0)
    (hk2 : k' = 2 → s.good.pin r (.mapIter (some bm) since seen last) ∧ last = cl ∧ MapKept.Stamped en cl ∧ ∀ e ∈ es', ∃ m ∈ en.toList, seen.back? = some m.born ∧ VR s h w e.1 m.key ∧ VR s h w e.2 m.val) :
    Ext s h w s (h.set o (.iter k' es')) w' ∧ Rel s (h.set o (.iter k' es')) w' := by
  have hlt := (List.getElem?_eq_some_iff.1 ho).1
  have E : Ext s h w s (h.set o (.iter k' es')) w' := by
    refine ⟨⟨W.size, fun k hk hn => W.far k hk (fun e => hn o (e ▸ hb)), W.shape, fun _ h => h, fun k g0 hg0 => ?_, fun k g0 _ _ => ⟨fun _ h => h, ?_⟩, fun k hk _ => ?_, fun k c hc => .inl ⟨k, hc⟩, W.os, W.tape, W.output, fun k hk => ?_, rfl⟩, fun k c _ hc => ⟨c, hc⟩, fun k _ hn => ?_, fun _ _ h => .inl h⟩
    · rw [genOf_set (g := g0)]
      by_cases e : o = k
      · subst e
        have : g0 = 0 := by simp [genOf, ho] at hg0; omega
        exact ⟨0, by simp [hlt], by omega⟩
      · exact ⟨g0, by simp [e, hg0], Nat.le_refl _⟩
    · by_cases e : o = k
      · subst e
        unfold lenOf
        rw [ho, List.getElem?_set_self hlt]
      · exact lenOf_set e
    · by_cases e : o = k
      · subst e; simp [isMap, ho] at hk
      · rw [isMap_set e]; exact hk
    · by_cases e : o = k
      · subst e; simp [isLoop, ho] at hk
      · rw [isLoop_set e]; exact hk
    · have : o ≠ k := by rintro rfl; rw [hb] at hn; cases hn
      exact List.getElem?_set_ne this
  have hbm' : w'.heap[bm]? = some (.map en cl) := (W.far bm (R.imm bm hI) (fun e => R.apart o r hb (e ▸ hI))).trans hbm
  refine ⟨E, R.inj, fun k c hk => ?_, R.apart, fun c hI => Nat.lt_of_lt_of_le (R.imm c hI) W.size⟩
  by_cases e : k = o
  · subst e
    rw [hb] at hk; injection hk with hk; subst hk
    refine ⟨.iter k' es', by rw [List.getElem?_set_self hlt], bm, since, seen, last, en, cl, hr, hI, hbm', fun h0 => absurd h0 hk0, fun h2 => ?_⟩
    obtain ⟨q1, q2, q3, q4⟩ := hk2 h2
    exact ⟨q1, q2, q3, fun e he => let ⟨m, hm, h6, h7, h8⟩ := q4 e he; ⟨m, hm, h6, h7.ext R.apart E, h8.ext R.apart E⟩⟩
  · obtain ⟨x, hx, hr'⟩ := R.obj k c hk
    have hne : c ≠ r := fun e' => e (R.inj k o c hk (e' ▸ hb))
    exact ⟨x, by rw [List.getElem?_set_ne (Ne.symm e)]; exact hx, hr'.ext R.apart E (W.far c (R.lt hk) hne)⟩

theorem wrote_refl (w : World) (r : Nat) : Wrote w w r := ⟨Nat.le_refl _, fun _ _ _ => rfl, fun _ _ h => h, rfl, rfl, rfl⟩

theorem wrote_iter {w1 : World} (h1 : w1 = w ∨ w1 = w.drew) {r : Nat} {m : Option Nat} {since last : Nat} {seen : Array Nat} (hr : w.heap[r]? = some (.mapIter m since seen last)) (x : Obj) : Wrote w (setBlock w1 r x) r ∧ (setBlock w1 r x).heap[r]? = some x := by
  have hh : w1.heap = w.heap := by rcases h1 with rfl | rfl <;> rfl
  have hlt := (Array.getElem?_eq_some_iff.1 hr).1
  have far : ∀ k, k ≠ r → (setBlock w1 r x).heap[k]? = w.heap[k]? := fun k hk => by
    show (w1.heap.setIfInBounds r x)[k]? = _
    rw [Array.getElem?_setIfInBounds_ne (Ne.symm hk), hh]
  refine ⟨⟨by simp [setBlock, hh], fun k _ hk => far k hk, fun k y hy => ?_, by rcases h1 with rfl | rfl <;> rfl, by rcases h1 with rfl | rfl <;> rfl, by rcases h1 with rfl | rfl <;> rfl⟩, ?_⟩
  · by_cases e : k = r
    · subst e
      simp [World.shape?, hr] at hy
    · rw [shape_of (far k e)]; exact hy
  · show (w1.heap.setIfInBounds r x)[r]? = _
    rw [Array.getElem?_setIfInBounds_self_of_lt (by rw [hh]; exact hlt)]

/-! ### An object that came into being on the way is forgotten -/
def Sim.drop (s : Sim) (o : Nat) : Sim := { s with μ := fun k => if k = o then none else s.μ k }
theorem VR.drop {o : Nat} (hlt : o < h.length) (hg : genOf h o = some 0) {x : AV} {v : Value} (H : VR s h w x v) : VR (s.drop o) (h.set o (.cells [] 1)) w x v := by
  have hg1 : genOf (h.set o (.cells [] 1)) o = some 1 := by rw [genOf_set (g := 0)]; simp [hlt]
  have hgk : ∀ {k g}, o ≠ k → genOf h k = some g → genOf (h.set o (.cells [] 1)) k = some g := fun {k g} e hk => by rw [genOf_set (g := 0)]; simp [e, hk]
  have h0 : ∀ {g}, genOf h o = some g → g = 0 := fun hk => by rw [hg] at hk; injection hk with hk; exact hk.symm
  induction H with
  | bool b => exact .bool b
  | int k n => exact .int k n
  | str l => exact .str l
  | nilPtr => exact .nilPtr
  | nilMap => exact .nilMap
  | nilFunc => exact .nilFunc
  | nilIface => exact .nilIface
  | junk v => exact .junk v
  | ptr k off g b hk hb =>
    by_cases e : o = k
    · subst e; exact .ptrOld _ _ _ 1 _ hg1 (by rw [h0 hk]; omega)
    · exact .ptr _ _ _ b (hgk e hk) (by simp [Sim.drop, Ne.symm e, hb])
  | ptrOld k off g g1 a hk hl =>
    by_cases e : o = k
    · subst e; have := h0 hk; omega
    · exact .ptrOld _ _ _ g1 a (hgk e hk) hl
  | ref cs b off f hI hc _ ih => exact .ref cs b off f hI hc ih
  | lstNil z => exact .lstNil z
  | lstEmpty z A => exact .lstEmpty z A
  | lst xs z r b off c f hI hr hle hz hc _ ih => exact .lst xs z r b off c f hI hr hle hz hc ih
  | msl k off len z g cap b c el n off' hoff hk hb hle hcap hnone hsh hn =>
    by_cases e : o = k
    · subst e; exact .mslOld _ _ _ _ _ _ 1 _ _ _ hg1 (by rw [h0 hk]; omega)
    · exact .msl _ off len z g cap b c el n off' hoff (hgk e hk) (by simp [Sim.drop, Ne.symm e, hb]) hle hcap (fun hc => by rw [lenOf_set e]; exact hnone hc) hsh hn
  | mslOld k off len z g cap g1 a n c hk hl =>
    by_cases e : o = k
    · subst e; have := h0 hk; omega
    · exact .mslOld _ off len z g cap g1 a n c (hgk e hk) hl
  | clo f cs vs hl _ ih => exact .clo f cs vs hl ih
  | bnd f cs vs hl _ ih => exact .bnd f cs vs hl ih
  | map k b hk hb =>
    by_cases e : o = k
    · subst e; exact .mapOld _ 1 _ hg1 (by omega)
    · exact .map _ b (by rw [isMap_set e]; exact hk) (by simp [Sim.drop, Ne.symm e, hb])
  | mapOld k g b hk hl =>
    by_cases e : o = k
    · subst e; have := h0 hk; omega
    · exact .mapOld _ g b (hgk e hk) hl
  | yld k b hk hb =>
    by_cases e : o = k
    · subst e; exact .yldOld _ 1 _ hg1 (by omega)
    · exact .yld _ b (by rw [isLoop_set e]; exact hk) (by simp [Sim.drop, Ne.symm e, hb])
  | yldOld k g b hk hl =>
    by_cases e : o = k
    · subst e; have := h0 hk; omega
    · exact .yldOld _ g b (hgk e hk) hl
  | iface t x v hx ih => exact .iface t x v ih
  | agg cs vs hl _ ih => exact .agg cs vs hl ih
  | tup cs vs hl _ ih => exact .tup cs vs hl ih

theorem drop_new {s1 : Sim} {h1 : Heap} {w1 : World} (E : Ext s h w s1 h1 w1) (R1 : Rel s1 h1 w1) {o : Nat} (ho : h.length ≤ o) (hlt : o < h1.length) (hg : genOf h1 o = some 0) :
    Ext s h w (s1.drop o) (h1.set o (.cells [] 1)) w1 ∧ Rel (s1.drop o) (h1.set o (.cells [] 1)) w1 := by
  have hgk : ∀ {k}, k < h.length → genOf (h1.set o (.cells [] 1)) k = genOf h1 k := fun {k} hk => by rw [genOf_set (g := 0)]; simp [show o ≠ k by omega]
  have hμ : ∀ {k}, k < h.length → (s1.drop o).μ k = s1.μ k := fun {k} hk => by simp [Sim.drop, show k ≠ o by omega]
  have hμ' : ∀ {k b}, (s1.drop o).μ k = some b → k ≠ o ∧ s1.μ k = some b := fun {k b} hk => by
    simp only [Sim.drop] at hk
    split at hk
    · cases hk
    · exact ⟨by assumption, hk⟩
  refine ⟨⟨⟨E.size, E.far, E.shape, E.imm, fun k g hk => ?_, fun k g hk hk' => ?_, fun k hk hk' => ?_, fun k b hk => E.own k b (hμ' hk).2, E.os, E.tape, E.output, fun k hk => ?_, E.good⟩, fun k b hk hb => E.old k b hk (hμ' hb).2, fun k hk hn => ?_, E.immOld⟩, ?_⟩
  · rw [hgk (genOf_lt hk)]; exact E.gen k g hk
  · have hl := genOf_lt hk
    rw [hgk hl] at hk'
    obtain ⟨a1, a2⟩ := E.same k g hk hk'
    exact ⟨fun b hb => by rw [hμ hl]; exact a1 b hb, by rw [lenOf_set (by omega)]; exact a2⟩
  · have hl := isMap_lt hk
    rw [hgk hl] at hk'
    rw [isMap_set (by omega)]; exact E.kind k hk hk'
  · have hl := isLoop_lt hk
    rw [isLoop_set (by omega)]; exact E.kindL k hk
  · rw [List.getElem?_set_ne (by omega)]; exact E.kept k hk hn
  · refine ⟨fun k k' b hk hk' => R1.inj k k' b (hμ' hk).2 (hμ' hk').2, fun k b hk => ?_, fun k b hk hI => R1.apart k b (hμ' hk).2 hI, R1.imm⟩
    obtain ⟨hne, hk⟩ := hμ' hk
    obtain ⟨x, hx, hr⟩ := R1.obj k b hk
    refine ⟨x, by rw [List.getElem?_set_ne (Ne.symm hne)]; exact hx, ?_⟩
    cases x with
    | cells cs gn =>
      obtain ⟨bc, el, k1, k2, k3⟩ := hr
      exact ⟨bc, el, k1, k2, fun i c hi => let ⟨v, h1, h2⟩ := k3 i c hi; ⟨v, h1, h2.drop hlt hg⟩⟩
    | map es =>
      obtain ⟨es0, hp0, en, cl, k1, k2, k3, k4⟩ := hr
      exact ⟨es0, hp0, en, cl, k1, k2, k3, fun i e hi => let ⟨m, h1, h2, h3⟩ := k4 i e hi; ⟨m, h1, h2.drop hlt hg, h3.drop hlt hg⟩⟩
    | loop r =>
      obtain ⟨rec, k1, k2, k3, k4⟩ := hr
      exact ⟨rec, k1, k2, fun t => (k3 t).drop hlt hg, k4⟩
    | iter kk es =>
      obtain ⟨bm, since, seen, last, en, cl, k1, k2, k3, k4, k5⟩ := hr
      refine ⟨bm, since, seen, last, en, cl, k1, k2, k3, fun hk => ?_, fun hk => ?_⟩
      · obtain ⟨q1, q2, q3, q4, q5, es0, hp0, q6⟩ := k4 hk
        exact ⟨q1, q2, q3, q4, q5, es0, hp0, fun i e hi => let ⟨m, hm, h6, h7⟩ := q6 i e hi; ⟨m, hm, h6.drop hlt hg, h7.drop hlt hg⟩⟩
      · obtain ⟨q1, q2, q3, q4⟩ := k5 hk
        exact ⟨q1, q2, q3, fun e he => let ⟨m, hm, h6, h7, h8⟩ := q4 e he; ⟨m, hm, h6, h7.drop hlt hg, h8.drop hlt hg⟩⟩

/-! ### What came into being on the way is cut off -/
theorem belowBs_mem {n : Nat} : ∀ {l : List AV}, belowBs n l = true → ∀ x ∈ l, belowB n x = true
  | [], _, x, hx => by simp at hx
  | a :: l, h, x, hx => by
    simp only [belowBs, Bool.and_eq_true] at h
    rcases List.mem_cons.1 hx with rfl | hx
    · exact h.1
    · exact belowBs_mem h.2 x hx
theorem belowBs_at {n : Nat} {l : List AV} (h : belowBs n l = true) {i : Nat} {x : AV} (hi : l[i]? = some x) : belowB n x = true := belowBs_mem h x (List.mem_of_getElem? hi)

theorem keptB_get {n : Nat} : ∀ {e : Env}, (e.all fun p => belowB n p.2) = true → ∀ t, belowB n (e.get t) = true
  | [], _, t => by rw [Env.get_nil]; rfl
  | (k, v) :: r, h, t => by
    simp only [List.all_cons, Bool.and_eq_true] at h
    rw [Env.get_cons]
    split
    · exact h.1
    · exact keptB_get h.2 t

def Sim.cutTo (s : Sim) (n : Nat) : Sim := { s with μ := fun k => if k < n then s.μ k else none }

theorem below_cells {n : Nat} {x : AV} (h : belowB n x = true) : belowBs n x.cells = true := by
  cases x <;> simp_all [AV.cells, belowB, belowBs]

theorem VR.cutTo {n : Nat} {x : AV} {v : Value} (H : VR s h w x v) : belowB n x = true → VR (s.cutTo n) (h.take n) w x v := by
  have hg : ∀ {k}, k < n → genOf (h.take n) k = genOf h k := fun {k} hk => by unfold genOf; rw [List.getElem?_take_of_lt hk]
  have hm : ∀ {k}, k < n → isMap (h.take n) k = isMap h k := fun {k} hk => by unfold isMap; rw [List.getElem?_take_of_lt hk]
  have hl : ∀ {k}, k < n → isLoop (h.take n) k = isLoop h k := fun {k} hk => by unfold isLoop; rw [List.getElem?_take_of_lt hk]
  have hn : ∀ {k}, k < n → lenOf (h.take n) k = lenOf h k := fun {k} hk => by unfold lenOf; rw [List.getElem?_take_of_lt hk]
  have hb : ∀ {k}, Nat.blt k n = true → k < n := fun h => by simpa [Nat.blt_eq] using h
  induction H with
  | bool b => intro _; exact .bool b
  | int k n => intro _; exact .int k n
  | str l => intro _; exact .str l
  | nilPtr => intro _; exact .nilPtr
  | nilMap => intro _; exact .nilMap
  | nilFunc => intro _; exact .nilFunc
  | nilIface => intro _; exact .nilIface
  | junk v => intro _; exact .junk v
  | ptr k off g b k1 k2 => intro hk; have hk := hb hk; exact .ptr _ _ _ b (by rw [hg hk]; exact k1) (by simp [Sim.cutTo, hk, k2])
  | ptrOld k off g g1 a k1 k2 => intro hk; have hk := hb hk; exact .ptrOld _ _ _ g1 a (by rw [hg hk]; exact k1) k2
  | ref cs b off f hI hc _ ih => intro hk; simp only [belowB] at hk; exact .ref cs b off f hI hc fun i c hi => ih i c hi (belowBs_at hk hi)
  | lstNil z => intro _; exact .lstNil z
  | lstEmpty z A => intro _; exact .lstEmpty z A
  | lst xs z r b off c f hI hr hle hz hc _ ih => intro hk; simp only [belowB] at hk; exact .lst xs z r b off c f hI hr hle hz hc fun i j x y hi hj => ih i j x y hi hj (belowBs_at (below_cells (belowBs_at hk hi)) hj)
  | msl k off len z g cap b c el m off' hoff k1 k2 hle hcap hnone hsh hm' => intro hk; have hk := hb hk; exact .msl _ off len z g cap b c el m off' hoff (by rw [hg hk]; exact k1) (by simp [Sim.cutTo, hk, k2]) hle hcap (fun hc => by rw [hn hk]; exact hnone hc) hsh hm'
  | mslOld k off len z g cap g1 a m c k1 k2 => intro hk; have hk := hb hk; exact .mslOld _ off len z g cap g1 a m c (by rw [hg hk]; exact k1) k2
  | clo f cs vs hl' _ ih => intro hk; simp only [belowB] at hk; exact .clo f cs vs hl' fun i c hi => ih i c hi (belowBs_at hk hi)
  | bnd f cs vs hl' _ ih => intro hk; simp only [belowB] at hk; exact .bnd f cs vs hl' fun i c hi => ih i c hi (belowBs_at hk hi)
  | map k b k1 k2 => intro hk; have hk := hb hk; exact .map _ b (by rw [hm hk]; exact k1) (by simp [Sim.cutTo, hk, k2])
  | mapOld k g b k1 k2 => intro hk; have hk := hb hk; exact .mapOld _ g b (by rw [hg hk]; exact k1) k2
  | yld k b k1 k2 => intro hk; have hk := hb hk; exact .yld _ b (by rw [hl hk]; exact k1) (by simp [Sim.cutTo, hk, k2])
  | yldOld k g b k1 k2 => intro hk; have hk := hb hk; exact .yldOld _ g b (by rw [hg hk]; exact k1) k2
  | iface t x v hx ih => intro hk; simp only [belowB] at hk; exact .iface t x v (ih hk)
  | agg cs vs hl' _ ih => intro hk; simp only [belowB] at hk; exact .agg cs vs hl' fun i c hi => ih i c hi (belowBs_at hk hi)
  | tup cs vs hl' _ ih => intro hk; simp only [belowB] at hk; exact .tup cs vs hl' fun i c hi => ih i c hi (belowBs_at hk hi)

theorem cut_to {s1 : Sim} {h1 : Heap} {w1 : World} (E : Ext s h w s1 h1 w1) (R1 : Rel s1 h1 w1) {n : Nat} (hn : h.length ≤ n) (hb : (h1.take n).all (belowO n) = true) :
    Ext s h w (s1.cutTo n) (h1.take n) w1 ∧ Rel (s1.cutTo n) (h1.take n) w1 := by
  have hget : ∀ {k}, k < n → (h1.take n)[k]? = h1[k]? := fun {k} hk => List.getElem?_take_of_lt hk
  have hμ : ∀ {k}, k < h.length → (s1.cutTo n).μ k = s1.μ k := fun {k} hk => by simp [Sim.cutTo, show k < n by omega]
  have hμ' : ∀ {k b}, (s1.cutTo n).μ k = some b → k < n ∧ s1.μ k = some b := fun {k b} hk => by
    simp only [Sim.cutTo] at hk
    split at hk
    · exact ⟨by assumption, hk⟩
    · cases hk
  refine ⟨⟨⟨E.size, E.far, E.shape, E.imm, fun k g hk => ?_, fun k g hk hk' => ?_, fun k hk hk' => ?_, fun k b hk => E.own k b (hμ' hk).2, E.os, E.tape, E.output, fun k hk => ?_, E.good⟩, fun k b hk hb => E.old k b hk (hμ' hb).2, fun k hk hn' => ?_, E.immOld⟩, ?_⟩
  · obtain ⟨g', h2, h3⟩ := E.gen k g hk
    exact ⟨g', by have := genOf_lt hk; unfold genOf at *; rw [hget (by omega)]; exact h2, h3⟩
  · have hl := genOf_lt hk
    obtain ⟨a1, a2⟩ := E.same k g hk (by unfold genOf at *; rw [hget (by omega)] at hk'; exact hk')
    exact ⟨fun b hb => by rw [hμ hl]; exact a1 b hb, by unfold lenOf at *; rw [hget (by omega)]; exact a2⟩
  · have hl := isMap_lt hk
    have := E.kind k hk (by unfold genOf at *; rw [hget (by omega)] at hk'; exact hk')
    unfold isMap at *; rw [hget (by omega)]; exact this
  · have hl := isLoop_lt hk
    have := E.kindL k hk
    unfold isLoop at *; rw [hget (by omega)]; exact this
  · rw [hget (by omega)]; exact E.kept k hk hn'
  · refine ⟨fun k k' b hk hk' => R1.inj k k' b (hμ' hk).2 (hμ' hk').2, fun k b hk => ?_, fun k b hk hI => R1.apart k b (hμ' hk).2 hI, R1.imm⟩
    obtain ⟨hkn, hk⟩ := hμ' hk
    obtain ⟨x, hx, hr⟩ := R1.obj k b hk
    have hx' : (h1.take n)[k]? = some x := by rw [hget hkn]; exact hx
    have hbo := List.all_eq_true.1 hb x (List.mem_of_getElem? hx')
    refine ⟨x, hx', ?_⟩
    cases x with
    | cells cs gn =>
      obtain ⟨bc, el, k1, k2, k3⟩ := hr
      exact ⟨bc, el, k1, k2, fun i c hi => let ⟨v, h1, h2⟩ := k3 i c hi; ⟨v, h1, h2.cutTo (belowBs_at hbo hi)⟩⟩
    | map es =>
      obtain ⟨es0, hp0, en, cl, k1, k2, k3, k4⟩ := hr
      refine ⟨es0, hp0, en, cl, k1, k2, k3, fun i e hi => ?_⟩
      have he := List.all_eq_true.1 hbo e (hp0.1.mem_iff.1 (List.mem_of_getElem? hi))
      simp only [Bool.and_eq_true] at he
      obtain ⟨m, h1, h2, h3⟩ := k4 i e hi
      exact ⟨m, h1, h2.cutTo he.1, h3.cutTo he.2⟩
    | loop r => simp [belowO] at hbo
    | iter kk es =>
      have hee : ∀ e ∈ es, belowB n e.1 = true ∧ belowB n e.2 = true := fun e he => by
        have := List.all_eq_true.1 hbo e he
        simpa only [Bool.and_eq_true] using this
      obtain ⟨bm, since, seen, last, en, cl, k1, k2, k3, k4, k5⟩ := hr
      refine ⟨bm, since, seen, last, en, cl, k1, k2, k3, fun hk => ?_, fun hk => ?_⟩
      · obtain ⟨q1, q2, q3, q4, q5, es0, hp0, q6⟩ := k4 hk
        exact ⟨q1, q2, q3, q4, q5, es0, hp0, fun i e hi => let ⟨m, hm, h6, h7⟩ := q6 i e hi; ⟨m, hm, h6.cutTo (hee e (hp0.1.mem_iff.1 (List.mem_of_getElem? hi))).1, h7.cutTo (hee e (hp0.1.mem_iff.1 (List.mem_of_getElem? hi))).2⟩⟩
      · obtain ⟨q1, q2, q3, q4⟩ := k5 hk
        exact ⟨q1, q2, q3, fun e he => let ⟨m, hm, h6, h7, h8⟩ := q4 e he; ⟨m, hm, h6, h7.cutTo (hee e he).1, h8.cutTo (hee e he).2⟩⟩
end
end Go.Rv
