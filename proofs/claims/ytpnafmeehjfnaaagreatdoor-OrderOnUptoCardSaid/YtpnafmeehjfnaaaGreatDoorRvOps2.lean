/-
  Steps that change the heap: a new object, an object that is written or grows, a new immutable block, draws.
-/
import Derived.Test.YtpnafmeehjfnaaaGreatDoorRvOps1
set_option linter.unusedSimpArgs false
set_option linter.unusedVariables false
namespace Go.Rv
section
variable {P : Program} {C : Cfg} {s : Sim} {h : Heap} {w : World}

theorem heap_alloc_lt (w : World) (o : Obj) {k : Nat} (hk : k < w.heap.size) : (w.alloc o).heap[k]? = w.heap[k]? := by
  show (w.heap.push o)[k]? = _
  simp [Array.getElem?_push, Nat.ne_of_lt hk]
theorem heap_alloc_at (w : World) (o : Obj) : (w.alloc o).heap[w.heap.size]? = some o := by
  show (w.heap.push o)[w.heap.size]? = _
  simp
theorem size_alloc (w : World) (o : Obj) : (w.alloc o).heap.size = w.heap.size + 1 := by
  show (w.heap.push o).size = _
  simp

theorem shape_of {w w' : World} {b : Nat} (h : w'.heap[b]? = w.heap[b]?) : w'.shape? b = w.shape? b := by
  unfold World.shape?; rw [h]
theorem shape_lt {w : World} {b : Nat} {x : TypeId × Nat} (h : w.shape? b = some x) : b < w.heap.size := by
  unfold World.shape? at h
  split at h
  · rename_i c el fz hb
    exact (Array.getElem?_eq_some_iff.1 hb).1
  · cases h

theorem Rel.old (R : Rel s h w) {o b : Nat} (hb : s.μ o = some b) : o < h.length := by
  obtain ⟨x, hx, _⟩ := R.obj o b hb
  exact (List.getElem?_eq_some_iff.1 hx).1

/-- With one object more. -/
def Sim.add (s : Sim) (o b : Nat) : Sim := { s with μ := fun k => if k = o then some b else s.μ k }

theorem genOf_append {x : AObj} {o g : Nat} (hg : genOf h o = some g) : genOf (h ++ [x]) o = some g := by
  unfold genOf at *
  have hlt : o < h.length := by
    rcases Nat.lt_or_ge o h.length with h1 | h1
    · exact h1
    · rw [List.getElem?_eq_none h1] at hg; cases hg
  rw [List.getElem?_append_left hlt]; exact hg
theorem lenOf_append {x : AObj} {o : Nat} (ho : o < h.length) : lenOf (h ++ [x]) o = lenOf h o := by
  unfold lenOf; rw [List.getElem?_append_left ho]
theorem isMap_append {x : AObj} {o : Nat} (hm : isMap h o = true) : isMap (h ++ [x]) o = true := by
  unfold isMap at *
  have hlt : o < h.length := by
    rcases Nat.lt_or_ge o h.length with h1 | h1
    · exact h1
    · rw [List.getElem?_eq_none h1] at hm; cases hm
  rw [List.getElem?_append_left hlt]; exact hm
theorem isLoop_append {x : AObj} {o : Nat} (hm : isLoop h o = true) : isLoop (h ++ [x]) o = true := by
  unfold isLoop at *
  have hlt : o < h.length := by
    rcases Nat.lt_or_ge o h.length with h1 | h1
    · exact h1
    · rw [List.getElem?_eq_none h1] at hm; cases hm
  rw [List.getElem?_append_left hlt]; exact hm
theorem genOf_lt {o g : Nat} (hg : genOf h o = some g) : o < h.length := by
  unfold genOf at hg
  rcases Nat.lt_or_ge o h.length with h1 | h1
  · exact h1
  · rw [List.getElem?_eq_none h1] at hg; cases hg

/-- A block more, of which the interpreter knows nothing, or which is never written. -/
theorem Ext.block (s : Sim) (h : Heap) (w : World) (o : Obj) (i : Bool) :
    Ext s h w { s with I := fun b => s.I b ∨ (i = true ∧ b = w.heap.size) } h (w.alloc o) where
  size := by rw [size_alloc]; omega
  far := fun b hb _ => heap_alloc_lt w o hb
  shape := fun b x hx => by rw [shape_of (heap_alloc_lt w o (shape_lt hx))]; exact hx
  imm := fun b hb => .inl hb
  gen := fun _ g hg => ⟨g, hg, Nat.le_refl _⟩
  same := fun _ _ _ _ => ⟨fun _ h => h, rfl⟩
  kind := fun _ h _ => h
  own := fun o b hb => .inl ⟨o, hb⟩
  os := rfl
  tape := rfl
  output := rfl
  kindL := fun _ h => h
  good := rfl
  old := fun o b _ hb => ⟨b, hb⟩
  kept := fun _ _ _ => rfl

theorem ORel.ext {s' : Sim} {h' : Heap} {w' : World} (hd : ∀ o b, s.μ o = some b → ¬ s.I b) (E : Ext s h w s' h' w') {b : Nat} (hb : w'.heap[b]? = w.heap[b]?) {x : AObj} (H : ORel s h w b x) : ORel s' h' w' b x := by
  cases x with
  | iter k es =>
    obtain ⟨bm, since, seen, last, en, cl, h1, h2, h3, h4, h5⟩ := H
    refine ⟨bm, since, seen, last, en, cl, hb.trans h1, E.imm bm h2, (E.far bm (Array.getElem?_eq_some_iff.1 h3).1 (fun o ho => hd o bm ho h2)).trans h3, fun hk => ?_, fun hk => ?_⟩
    · obtain ⟨q1, q2, q3, q4, q5, es0, hp0, q6⟩ := h4 hk
      exact ⟨q1, q2, q3, q4, q5, es0, hp0, fun i e hi => let ⟨m, hm, h6, h7⟩ := q6 i e hi; ⟨m, hm, h6.ext hd E, h7.ext hd E⟩⟩
    · obtain ⟨q1, q2, q3, q4⟩ := h5 hk
      exact ⟨by rw [E.good]; exact q1, q2, q3, fun e he => let ⟨m, hm, h6, h7, h8⟩ := q4 e he; ⟨m, hm, h6, h7.ext hd E, h8.ext hd E⟩⟩
  | cells cs g =>
    obtain ⟨bc, el, h1, h2, h3⟩ := H
    refine ⟨bc, el, hb.trans h1, h2, fun i c hi => ?_⟩
    obtain ⟨v, hv, hr⟩ := h3 i c hi
    exact ⟨v, hv, hr.ext hd E⟩
  | map es =>
    obtain ⟨es0, hp0, en, cl, h1, h2, h3⟩ := H
    refine ⟨es0, hp0, en, cl, hb.trans h1, h2, h3.1, fun i c hi => ?_⟩
    obtain ⟨m, hm, h4, h5⟩ := h3.2 i c hi
    exact ⟨m, hm, h4.ext hd E, h5.ext hd E⟩
  | loop r =>
    obtain ⟨rec, h1, h2, h3, h4⟩ := H
    exact ⟨rec, hb.trans h1, h2, fun t => (h3 t).ext hd E, by rw [E.good]; exact h4⟩

theorem Rel.block (R : Rel s h w) (o : Obj) (i : Bool) : Rel { s with I := fun b => s.I b ∨ (i = true ∧ b = w.heap.size) } h (w.alloc o) where
  inj := R.inj
  obj := fun k b hb => by
    obtain ⟨x, hx, hr⟩ := R.obj k b hb
    exact ⟨x, hx, hr.ext R.apart (Ext.block s h w o i) (heap_alloc_lt w o (R.lt hb))⟩
  apart := fun k b hb hI => by
    rcases hI with hI | ⟨_, hI⟩
    · exact R.apart k b hb hI
    · have := R.lt hb; omega
  imm := fun b hb => by
    rw [size_alloc]
    rcases hb with hb | ⟨_, hb⟩
    · have := R.imm b hb; omega
    · omega

/-- A new object in a new block. -/
theorem Ext.new (R : Rel s h w) (o : Obj) (x : AObj) : Ext s h w (s.add h.length w.heap.size) (h ++ [x]) (w.alloc o) where
  size := by rw [size_alloc]; omega
  far := fun b hb _ => heap_alloc_lt w o hb
  shape := fun b y hy => by rw [shape_of (heap_alloc_lt w o (shape_lt hy))]; exact hy
  imm := fun b hb => hb
  gen := fun _ g hg => ⟨g, genOf_append hg, Nat.le_refl _⟩
  same := fun k g hg _ => ⟨fun b hb => by
    have := R.old hb
    simp [Sim.add, Nat.ne_of_lt this, hb], lenOf_append (genOf_lt hg)⟩
  kind := fun _ h _ => isMap_append h
  own := fun k b hb => by
    simp only [Sim.add] at hb
    split at hb
    · injection hb with hb; exact .inr (by omega)
    · exact .inl ⟨k, hb⟩
  os := rfl
  tape := rfl
  output := rfl
  kindL := fun _ h => isLoop_append h
  good := rfl
  old := fun k b hk hb => by
    simp only [Sim.add, Nat.ne_of_lt hk, if_false] at hb
    exact ⟨b, hb⟩
  kept := fun k hk _ => List.getElem?_append_left hk

theorem Rel.new (R : Rel s h w) (o : Obj) (x : AObj) (hx : ORel (s.add h.length w.heap.size) (h ++ [x]) (w.alloc o) w.heap.size x) : Rel (s.add h.length w.heap.size) (h ++ [x]) (w.alloc o) where
  inj := fun k k' b hk hk' => by
    simp only [Sim.add] at hk hk'
    split at hk <;> split at hk'
    · omega
    · injection hk with hk; have := R.lt hk'; omega
    · injection hk' with hk'; have := R.lt hk; omega
    · exact R.inj k k' b hk hk'
  obj := fun k b hb => by
    by_cases e : k = h.length
    · subst e
      simp only [Sim.add, if_true, Option.some.injEq] at hb
      subst hb
      exact ⟨x, by simp, hx⟩
    · simp only [Sim.add, e, if_false] at hb
      obtain ⟨y, hy, hr⟩ := R.obj k b hb
      exact ⟨y, by rw [List.getElem?_append_left (R.old hb)]; exact hy, hr.ext R.apart (Ext.new R o x) (heap_alloc_lt w o (R.lt hb))⟩
  apart := fun k b hb hI => by
    simp only [Sim.add] at hb hI
    split at hb
    · injection hb with hb; have := R.imm b hI; omega
    · exact R.apart k b hb hI
  imm := fun b hb => by have := R.imm b hb; rw [size_alloc]; omega

/-- A new object of cells. -/
theorem new_cells (R : Rel s h w) {cs : List AV} {vs : Array Value} (el : TypeId) (hl : cs.length ≤ vs.size) (hc : ∀ (i : Nat) c, cs[i]? = some c → ∃ v, vs[i]? = some v ∧ VR s h w c v) :
    Ext s h w (s.add h.length w.heap.size) (h ++ [.cells cs 0]) (w.alloc (.cells vs el)) ∧ Rel (s.add h.length w.heap.size) (h ++ [.cells cs 0]) (w.alloc (.cells vs el)) :=
  ⟨Ext.new R _ _, Rel.new R _ _ ⟨vs, el, heap_alloc_at w _, hl, fun i c hi => by
    obtain ⟨v, hv, hr⟩ := hc i c hi
    exact ⟨v, hv, hr.ext R.apart (Ext.new R _ _)⟩⟩⟩

theorem genOf_new {x : AObj} : genOf (h ++ [x]) h.length = match x with | .cells _ g => some g | .map _ => some 0 | .loop _ => some 0 | .iter _ _ => some 0 := by
  unfold genOf
  rw [List.getElem?_append_right (Nat.le_refl _)]
  cases x <;> simp
theorem lenOf_new {cs : List AV} {g : Nat} : lenOf (h ++ [.cells cs g]) h.length = cs.length := by
  unfold lenOf
  rw [List.getElem?_append_right (Nat.le_refl _)]
  simp

/-- Draws change nothing. -/
theorem Ext.draw (s : Sim) (h : Heap) (w : World) (n : Nat) : Ext s h w s h { w with drawn := n } :=
  ⟨⟨Nat.le_refl _, fun _ _ _ => rfl, fun _ _ h => h, fun _ h => h, fun _ g hg => ⟨g, hg, Nat.le_refl _⟩, fun _ _ _ _ => ⟨fun _ h => h, rfl⟩, fun _ h _ => h, fun o b hb => .inl ⟨o, hb⟩, rfl, rfl, rfl, fun _ h => h, rfl⟩, fun o b _ hb => ⟨b, hb⟩, fun _ _ _ => rfl⟩
theorem Rel.draw (R : Rel s h w) (n : Nat) : Rel s h { w with drawn := n } :=
  ⟨R.inj, fun o b hb => by
    obtain ⟨x, hx, hr⟩ := R.obj o b hb
    exact ⟨x, hx, hr.ext R.apart (Ext.draw s h w n) rfl⟩, R.apart, R.imm⟩

/-! ### An object is written -/

theorem genOf_set {o o' g : Nat} {x : AObj} : genOf (h.set o x) o' = if o = o' ∧ o < h.length then (match x with | .cells _ g => some g | .map _ => some 0 | .loop _ => some 0 | .iter _ _ => some 0) else genOf h o' := by
  unfold genOf
  rw [List.getElem?_set]
  by_cases e : o = o'
  · subst e
    by_cases hl : o < h.length
    · simp only [hl, if_true, and_self]; cases x <;> rfl
    · simp only [hl, if_true, if_false, and_false]
      rw [List.getElem?_eq_none (by omega)]
  · simp [e]
theorem lenOf_set {o o' : Nat} {x : AObj} (e : o ≠ o') : lenOf (h.set o x) o' = lenOf h o' := by
  unfold lenOf; rw [List.getElem?_set_ne e]
theorem isMap_set {o o' : Nat} {x : AObj} (e : o ≠ o') : isMap (h.set o x) o' = isMap h o' := by
  unfold isMap; rw [List.getElem?_set_ne e]
theorem isLoop_set {o o' : Nat} {x : AObj} (e : o ≠ o') : isLoop (h.set o x) o' = isLoop h o' := by
  unfold isLoop; rw [List.getElem?_set_ne e]

/-- What a world must keep when block b is written, a block may be laid behind the others. -/
structure Wrote (w w' : World) (b : Nat) : Prop where
  size : w.heap.size ≤ w'.heap.size
  far : ∀ k, k < w.heap.size → k ≠ b → w'.heap[k]? = w.heap[k]?
  shape : ∀ k x, w.shape? k = some x → w'.shape? k = some x
  os : w'.os = w.os
  tape : w'.tape = w.tape
  output : w'.output = w.output

/-- An object's cells are written: in its block, or, if it grew, in a new one. -/
theorem Ext.write (R : Rel s h w) {o b b' g g' : Nat} {cs cs' : List AV} {w' : World} (hb : s.μ o = some b) (ho : h[o]? = some (.cells cs g)) (hg : g ≤ g') (hlen : g' = g → cs'.length = cs.length)
    (hb' : b' = b ∨ (g < g' ∧ w.heap.size ≤ b')) (W : Wrote w w' b) : Ext s h w (s.add o b') (h.set o (.cells cs' g')) w' where
  size := W.size
  far := fun k hk hn => W.far k hk (fun e => hn o (e ▸ hb))
  shape := W.shape
  imm := fun b hb => hb
  gen := fun k g0 hg0 => by
    have hlt := (List.getElem?_eq_some_iff.1 ho).1
    rw [genOf_set (g := g)]
    by_cases e : o = k
    · subst e
      have : g0 = g := by simp [genOf, ho] at hg0; omega
      subst this
      exact ⟨g', by simp [hlt], hg⟩
    · exact ⟨g0, by simp [e, hg0], Nat.le_refl _⟩
  same := fun k g0 hg0 hg1 => by
    have hlt := (List.getElem?_eq_some_iff.1 ho).1
    by_cases e : o = k
    · subst e
      have h0 : g0 = g := by simp [genOf, ho] at hg0; omega
      subst h0
      rw [genOf_set (g := g0)] at hg1
      simp only [hlt, and_self, if_true, Option.some.injEq] at hg1
      subst hg1
      refine ⟨fun c hc => ?_, ?_⟩
      · rw [hb] at hc; injection hc with hc; subst hc
        rcases hb' with h1 | ⟨h1, _⟩
        · simp [Sim.add, h1]
        · omega
      · unfold lenOf
        rw [ho, List.getElem?_set_self hlt]
        exact hlen rfl
    · refine ⟨fun c hc => by simp [Sim.add, Ne.symm e, hc], lenOf_set e⟩
  kind := fun k hk _ => by
    by_cases e : o = k
    · subst e; simp [isMap, ho] at hk
    · rw [isMap_set e]; exact hk
  own := fun k c hc => by
    simp only [Sim.add] at hc
    split at hc
    · injection hc with hc; subst hc
      rcases hb' with h1 | ⟨_, h1⟩
      · exact .inl ⟨o, h1 ▸ hb⟩
      · exact .inr h1
    · exact .inl ⟨k, hc⟩
  os := W.os
  tape := W.tape
  output := W.output
  kindL := fun k hk => by
    by_cases e : o = k
    · subst e; simp [isLoop, ho] at hk
    · rw [isLoop_set e]; exact hk
  good := rfl
  old := fun k c _ hc => by
    simp only [Sim.add] at hc
    split at hc
    · rename_i e; subst e; exact ⟨b, hb⟩
    · exact ⟨c, hc⟩
  kept := fun k _ hn => by
    have : o ≠ k := by rintro rfl; rw [hb] at hn; cases hn
    exact List.getElem?_set_ne this

theorem write_cells (R : Rel s h w) {o b b' g g' : Nat} {cs cs' : List AV} {w' : World} {bc' : Array Value} {el : TypeId} (hb : s.μ o = some b) (ho : h[o]? = some (.cells cs g)) (hg : g ≤ g') (hlen : g' = g → cs'.length = cs.length)
    (hb' : b' = b ∨ (g < g' ∧ w.heap.size ≤ b')) (W : Wrote w w' b) (hheap : w'.heap[b']? = some (.cells bc' el (0, 0))) (hsz : cs'.length ≤ bc'.size)
    (hc : ∀ (i : Nat) c, cs'[i]? = some c → ∃ v, bc'[i]? = some v ∧ VR s h w c v) :
    Ext s h w (s.add o b') (h.set o (.cells cs' g')) w' ∧ Rel (s.add o b') (h.set o (.cells cs' g')) w' := by
  have E := Ext.write R hb ho hg hlen hb' W
  have hlt := (List.getElem?_eq_some_iff.1 ho).1
  refine ⟨E, ?_⟩
  refine ⟨fun k k' c hk hk' => ?_, fun k c hk => ?_, fun k c hk hI => ?_, fun c hI => ?_⟩
  · simp only [Sim.add] at hk hk'
    split at hk <;> split at hk'
    · omega
    · injection hk with hk
      subst hk
      rcases hb' with h1 | ⟨_, h1⟩
      · subst h1; have := R.inj _ _ _ hk' hb; omega
      · have := R.lt hk'; omega
    · injection hk' with hk'
      subst hk'
      rcases hb' with h1 | ⟨_, h1⟩
      · subst h1; have := R.inj _ _ _ hk hb; omega
      · have := R.lt hk; omega
    · exact R.inj k k' c hk hk'
  · by_cases e : k = o
    · subst e
      simp only [Sim.add, if_true, Option.some.injEq] at hk
      subst hk
      refine ⟨.cells cs' g', by rw [List.getElem?_set_self hlt], bc', el, hheap, hsz, fun i x hi => ?_⟩
      obtain ⟨v, hv, hr⟩ := hc i x hi
      exact ⟨v, hv, hr.ext R.apart E⟩
    · simp only [Sim.add, e, if_false] at hk
      obtain ⟨x, hx, hr⟩ := R.obj k c hk
      have hne : c ≠ b := fun e' => e (R.inj k o c hk (e' ▸ hb))
      exact ⟨x, by rw [List.getElem?_set_ne (Ne.symm e)]; exact hx, hr.ext R.apart E (W.far c (R.lt hk) hne)⟩
  · simp only [Sim.add] at hk hI
    split at hk
    · injection hk with hk; subst hk
      rcases hb' with h1 | ⟨_, h1⟩
      · subst h1; exact R.apart o b' hb hI
      · have := R.imm _ hI; omega
    · exact R.apart k c hk hI
  · exact Nat.lt_of_lt_of_le (R.imm c hI) W.size

theorem Wrote.row {b : Nat} {bc : Array Value} {el : TypeId} (hb : w.heap[b]? = some (.cells bc el (0, 0))) (bc' : Array Value) (hs : bc'.size = bc.size) : Wrote w (w.setRow b bc') b := by
  have hsz : (w.setRow b bc').heap.size = w.heap.size := by simp [World.setRow]
  have hfar : ∀ k, k ≠ b → (w.setRow b bc').heap[k]? = w.heap[k]? := fun k hk => by
    simp only [World.setRow]
    rw [Array.getElem?_modify]
    simp [Ne.symm hk]
  refine ⟨by omega, fun k _ hk => hfar k hk, fun k x hx => ?_, rfl, rfl, rfl⟩
  by_cases e : k = b
  · subst e
    unfold World.shape? at *
    rw [setRow_heap w k bc bc' el (0, 0) hb]
    rw [hb] at hx
    simpa [hs] using hx
  · rw [shape_of (hfar k e)]; exact hx

/-- Cells of an object are written in place. -/
theorem store_cells (R : Rel s h w) {o b g off : Nat} {cs xs : List AV} (hb : s.μ o = some b) (ho : h.obj o g = some cs) (hl : off + xs.length ≤ cs.length) {vs : List Value} (hv : VRs s h w xs vs) (h1 : ∀ v ∈ vs, v.oneCell' = true) (i : Nat) :
    ∃ w', (∀ k, off = k + i → (storeCells ⟨b, k, none⟩ vs i).run P w = .ok () w') ∧ Ext s h w s (h.set o (.cells (setCells cs off xs) g)) w' ∧ Rel s (h.set o (.cells (setCells cs off xs) g)) w' := by
  obtain ⟨x, hx, hr⟩ := R.obj o b hb
  have hobj := (genOf_obj ho).2.1
  rw [hobj] at hx
  injection hx with hx; subst hx
  obtain ⟨bc, el, hheap, hsz, hcell⟩ := hr
  have hvl := hv.1
  have hs : s.add o b = s := by
    unfold Sim.add
    cases s with
    | mk μ I G =>
      congr 1
      funext k
      by_cases e : k = o
      · subst e; simp [show μ k = some b from hb]
      · simp [e]
  have key := write_cells R (b' := b) (g' := g) (cs' := setCells cs off xs) (w' := w.setRow b (bc.toList.take off ++ vs ++ bc.toList.drop (off + vs.length)).toArray) (bc' := (bc.toList.take off ++ vs ++ bc.toList.drop (off + vs.length)).toArray) (el := el) hb hobj (Nat.le_refl _) (fun _ => setCells_length _ _ _) (.inl rfl)
    (Wrote.row hheap _ (by simp; omega)) (setRow_heap w b bc _ el (0, 0) hheap) (by rw [setCells_length]; simp; omega) (fun j c hj => by
      rw [setCells_get xs cs off j hl] at hj
      simp only [List.getElem?_toArray]
      split at hj
      · rename_i hin
        obtain ⟨v, hv1, hv2⟩ := hv.2 _ c hj
        refine ⟨v, ?_, hv2⟩
        rw [List.append_assoc, List.getElem?_append_right (by simp; omega), List.getElem?_append_left (by simp; omega)]
        simp only [List.length_take, Array.length_toList, Nat.min_eq_left (show off ≤ bc.size by omega)]
        exact hv1
      · rename_i hout
        obtain ⟨v, hv1, hv2⟩ := hcell j c hj
        refine ⟨v, ?_, hv2⟩
        have hjl : j < cs.length := (List.getElem?_eq_some_iff.1 hj).1
        by_cases hlo : j < off
        · rw [List.append_assoc, List.getElem?_append_left (by simp; omega), List.getElem?_take_of_lt hlo]
          simpa using hv1
        · rw [List.getElem?_append_right (by simp; omega), List.getElem?_drop]
          simp only [List.length_append, List.length_take, Array.length_toList, Nat.min_eq_left (show off ≤ bc.size by omega)]
          rw [show off + vs.length + (j - (off + vs.length)) = j from by omega]
          simpa using hv1)
  rw [hs] at key
  refine ⟨_, fun k hk => ?_, key.1, key.2⟩
  subst hk
  have := run_storeCells_at (P := P) b k el vs i bc w hheap (by omega) h1
  rw [this]
end
end Go.Rv
