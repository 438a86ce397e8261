/-
  What the interpreter's values and heap say of the model's values and world; that later worlds keep it.
-/
import Derived.Test.YtiigpcapieeljaaGreatDoorRvLim
import Derived.Test.YtiigpcapieeljaaGreatDoorRvEnts
import Derived.Laws.Sem
import Derived.MapKept
set_option linter.unusedSimpArgs false
set_option linter.unusedVariables false
namespace Go.Rv

structure Fixed where
  /-- Which code a round may have (of whose function, with how many slots). -/
  good : Nat → Nat → List Nat → Code → Code → Prop
  /-- What a map's iterator is in its round. -/
  pin : Nat → Obj → Prop
  /-- The deferred calls of functions that are due behind the marks of loops. -/
  tail : List Deferred := []

/-- Which block an object is; which blocks are never written. -/
structure Sim where
  μ : Nat → Option Nat
  I : Nat → Prop
  good : Fixed

def genOf (h : Heap) (o : Nat) : Option Nat :=
  match h[o]? with
  | some (.cells _ g) => some g
  | some (.map _) => some 0
  | some (.loop _) => some 0
  | some (.iter _ _) => some 0
  | none => none

def lenOf (h : Heap) (o : Nat) : Nat :=
  match h[o]? with
  | some (.cells cs _) => cs.length
  | _ => 0

def isMap (h : Heap) (o : Nat) : Bool :=
  match h[o]? with
  | some (.map _) => true
  | _ => false

def isLoop (h : Heap) (o : Nat) : Bool :=
  match h[o]? with
  | some (.loop _) => true
  | _ => false

def Room.ok (r : Room) (c : Nat) : Prop :=
  match r with
  | .nil => False
  | .exact n => c = n
  | .open => True

inductive VR (s : Sim) (h : Heap) (w : World) : AV → Value → Prop
  | bool (b : Bool) : VR s h w (.bool b) (.bool b)
  | int (k : IntKind) (n : Int) : VR s h w (.int k n) (.int k n)
  | str (l : List UInt8) : VR s h w (.str l) (.string ⟨l.toArray⟩)
  | nilPtr : VR s h w .nilPtr (.pointer none)
  | nilMap : VR s h w .nilMap (.map none)
  | nilFunc : VR s h w .nilFunc .nilFunc
  | nilIface : VR s h w .nilIface .nilIface
  | junk (v : Value) : VR s h w .junk v
  | ptr (o off g b : Nat) : genOf h o = some g → s.μ o = some b → VR s h w (.ptr o off g) (.pointer (some ⟨b, off, none⟩))
  | ptrOld (o off g g' : Nat) (a : Option Addr) : genOf h o = some g' → g < g' → VR s h w (.ptr o off g) (.pointer a)
  | ref (cs : List AV) (b off : Nat) (f : Nat → Value) : (0 < cs.length → s.I b) → (∀ (i : Nat) c, cs[i]? = some c → w.cell? ⟨b, off + i, none⟩ = some (f i)) → (∀ (i : Nat) c, cs[i]? = some c → VR s h w c (f i)) → VR s h w (.ref cs) (.pointer (some ⟨b, off, none⟩))
  | lstNil (z : Nat) : VR s h w (.lst [] z .nil) (.slice none 0 0)
  | lstEmpty (z : Nat) (A : Addr) : VR s h w (.lst [] z (.exact 0)) (.slice (some A) 0 0)
  | lst (xs : List AV) (z : Nat) (r : Room) (b off c : Nat) (f : Nat → Nat → Value) : (0 < xs.length → s.I b) → r.ok c → xs.length ≤ c → (∀ (i : Nat) x, xs[i]? = some x → x.cells.length = z) →
      (∀ (i j : Nat) x y, xs[i]? = some x → x.cells[j]? = some y → w.cell? ⟨b, off + i * z + j, none⟩ = some (f i j)) →
      (∀ (i j : Nat) x y, xs[i]? = some x → x.cells[j]? = some y → VR s h w y (f i j)) →
      VR s h w (.lst xs z r) (.slice (some ⟨b, off, none⟩) xs.length c)
  | msl (o off len z g : Nat) (cap : Option Nat) (b c el n off' : Nat) : (off' = off ∨ c = 0) → genOf h o = some g → s.μ o = some b → len ≤ c → (∀ m, cap = some m → c = m) →
      (cap = none → lenOf h o ≤ off + c * z) → w.shape? b = some (el, n) → off + c * z ≤ n →
      VR s h w (.msl o off len z g cap) (.slice (some ⟨b, off', none⟩) len c)
  | mslOld (o off len z g : Nat) (cap : Option Nat) (g' : Nat) (a : Option Addr) (n c : Nat) : genOf h o = some g' → g < g' → VR s h w (.msl o off len z g cap) (.slice a n c)
  | clo (f : Nat) (cs : List AV) (vs : Array Value) : cs.length = vs.size → (∀ (i : Nat) c, cs[i]? = some c → VR s h w c (vs.getD i undef)) → VR s h w (.clo f cs) (.func (.func f) #[] vs)
  | bnd (f : Nat) (cs : List AV) (vs : Array Value) : cs.length = vs.size → (∀ (i : Nat) c, cs[i]? = some c → VR s h w c (vs.getD i undef)) → VR s h w (.bnd f cs) (.func (.func f) vs #[])
  | map (o b : Nat) : isMap h o = true → s.μ o = some b → VR s h w (.map o) (.map (some b))
  | mapOld (o g b : Nat) : genOf h o = some g → 0 < g → VR s h w (.map o) (.map (some b))
  | yld (o b : Nat) : isLoop h o = true → s.μ o = some b → VR s h w (.yld o) (.func (.yield b) #[] #[])
  | yldOld (o g b : Nat) : genOf h o = some g → 0 < g → VR s h w (.yld o) (.func (.yield b) #[] #[])
  | iface (t : Nat) (x : AV) (v : Value) : VR s h w x v → VR s h w (.iface t x) (.iface t v)
  | agg (cs : List AV) (vs : Array Value) : cs.length = vs.size → (∀ (i : Nat) c, cs[i]? = some c → VR s h w c (vs.getD i undef)) → VR s h w (.agg cs) (.agg vs)
  | tup (cs : List AV) (vs : Array Value) : cs.length = vs.size → (∀ (i : Nat) c, cs[i]? = some c → VR s h w c (vs.getD i undef)) → VR s h w (.tup cs) (.tuple vs)

/-- Lists, part by part. -/
def VRs (s : Sim) (h : Heap) (w : World) (cs : List AV) (vs : List Value) : Prop :=
  cs.length = vs.length ∧ ∀ (i : Nat) c, cs[i]? = some c → ∃ v, vs[i]? = some v ∧ VR s h w c v

def ORel (s : Sim) (h : Heap) (w : World) (b : Nat) : AObj → Prop
  | .cells cs _ => ∃ bc el, w.heap[b]? = some (.cells bc el (0, 0)) ∧ cs.length ≤ bc.size ∧ ∀ (i : Nat) c, cs[i]? = some c → ∃ v, bc[i]? = some v ∧ VR s h w c v
  | .map es => ∃ es0 : List (AV × AV), (es0.Perm es ∧ KeysOk es) ∧ ∃ en cl, w.heap[b]? = some (.map en cl) ∧ es0.length = en.size ∧ MapKept.Stamped en cl ∧ ∀ (i : Nat) e, es0[i]? = some e → ∃ m, en[i]? = some m ∧ VR s h w e.1 m.key ∧ VR s h w e.2 m.val
  | .loop r => ∃ rec, w.heap[b]? = some (.loop rec) ∧ (rec.state = r.st ∧ rec.pending = r.pend ∧ rec.params.toList = r.ps ∧ rec.assign = r.assign ∧ rec.body = r.body) ∧
    (∀ t, VR s h w (r.env.get t) (rec.tmps.getD t undef)) ∧ s.good.good r.f rec.tmps.size r.ps r.assign r.body
  | .iter k es => ∃ bm since seen last en cl, w.heap[b]? = some (.mapIter (some bm) since seen last) ∧ s.I bm ∧ w.heap[bm]? = some (.map en cl) ∧
    ((k = 0 → since = cl ∧ seen = #[] ∧ last = cl ∧ es.length = en.size ∧ MapKept.Stamped en cl ∧ ∃ es0 : List (AV × AV), (es0.Perm es ∧ KeysOk es) ∧ ∀ (i : Nat) e, es0[i]? = some e → ∃ m, en[i]? = some m ∧ VR s h w e.1 m.key ∧ VR s h w e.2 m.val) ∧
      (k = 2 → s.good.pin b (.mapIter (some bm) since seen last) ∧ last = cl ∧ MapKept.Stamped en cl ∧ ∀ e ∈ es, ∃ m ∈ en.toList, seen.back? = some m.born ∧ VR s h w e.1 m.key ∧ VR s h w e.2 m.val))

structure Rel (s : Sim) (h : Heap) (w : World) : Prop where
  inj : ∀ o o' b, s.μ o = some b → s.μ o' = some b → o = o'
  obj : ∀ o b, s.μ o = some b → ∃ x, h[o]? = some x ∧ ORel s h w b x
  apart : ∀ o b, s.μ o = some b → ¬ s.I b
  imm : ∀ b, s.I b → b < w.heap.size

structure Ext0 (s : Sim) (h : Heap) (w : World) (s' : Sim) (h' : Heap) (w' : World) : Prop where
  size : w.heap.size ≤ w'.heap.size
  far : ∀ b, b < w.heap.size → (∀ o, s.μ o ≠ some b) → w'.heap[b]? = w.heap[b]?
  shape : ∀ b x, w.shape? b = some x → w'.shape? b = some x
  imm : ∀ b, s.I b → s'.I b
  gen : ∀ o g, genOf h o = some g → ∃ g', genOf h' o = some g' ∧ g ≤ g'
  same : ∀ o g, genOf h o = some g → genOf h' o = some g → (∀ b, s.μ o = some b → s'.μ o = some b) ∧ lenOf h' o = lenOf h o
  kind : ∀ o, isMap h o = true → genOf h' o = some 0 → isMap h' o = true
  own : ∀ o b, s'.μ o = some b → (∃ o', s.μ o' = some b) ∨ w.heap.size ≤ b
  os : w'.os = w.os
  tape : w'.tape = w.tape
  output : w'.output = w.output
  kindL : ∀ o, isLoop h o = true → isLoop h' o = true
  good : s'.good = s.good

structure Ext (s : Sim) (h : Heap) (w : World) (s' : Sim) (h' : Heap) (w' : World) : Prop extends Ext0 s h w s' h' w' where
  /-- Objects that were there get no block anew. -/
  old : ∀ o b, o < h.length → s'.μ o = some b → ∃ b0, s.μ o = some b0
  /-- Objects that have no block stay as they are. -/
  kept : ∀ o, o < h.length → s.μ o = none → h'[o]? = h[o]?
  /-- Of the old blocks none becomes immutable but an object's. -/
  immOld : ∀ b, b < w.heap.size → s'.I b → s.I b ∨ ∃ o, s.μ o = some b := by exact fun _ _ h => .inl h

theorem Rel.lt {s : Sim} {h : Heap} {w : World} (R : Rel s h w) {o b : Nat} (hb : s.μ o = some b) : b < w.heap.size := by
  obtain ⟨x, _, ho⟩ := R.obj o b hb
  cases x with
  | cells cs g => obtain ⟨bc, el, h1, _⟩ := ho; exact (Array.getElem?_eq_some_iff.1 h1).1
  | map es => obtain ⟨_, _, bc, el, h1, _⟩ := ho; exact (Array.getElem?_eq_some_iff.1 h1).1
  | loop r => obtain ⟨rec, h1, _⟩ := ho; exact (Array.getElem?_eq_some_iff.1 h1).1
  | iter k es => obtain ⟨_, _, _, _, _, _, h1, _⟩ := ho; exact (Array.getElem?_eq_some_iff.1 h1).1

theorem Ext.refl (s : Sim) (h : Heap) (w : World) : Ext s h w s h w :=
  ⟨⟨Nat.le_refl _, fun _ _ _ => rfl, fun _ _ h => h, fun _ h => h, fun _ g hg => ⟨g, hg, Nat.le_refl _⟩, fun _ _ _ _ => ⟨fun _ h => h, rfl⟩, fun _ h _ => h, fun o b hb => .inl ⟨o, hb⟩, rfl, rfl, rfl, fun _ h => h, rfl⟩, fun o b _ hb => ⟨b, hb⟩, fun _ _ _ => rfl, fun _ _ h => .inl h⟩

theorem genOf_map {h : Heap} {o : Nat} (hm : isMap h o = true) : genOf h o = some 0 := by
  unfold isMap at hm
  unfold genOf
  split at hm
  · rename_i es he; rw [he]
  · cases hm

theorem Ext0.trans {s s1 s2 : Sim} {h h1 h2 : Heap} {w w1 w2 : World} (E : Ext0 s h w s1 h1 w1) (F : Ext0 s1 h1 w1 s2 h2 w2) : Ext0 s h w s2 h2 w2 where
  size := Nat.le_trans E.size F.size
  far := fun b hb hn => by
    rw [F.far b (Nat.lt_of_lt_of_le hb E.size) (fun o ho => ?_), E.far b hb hn]
    rcases E.own o b ho with ⟨o', ho'⟩ | hle
    · exact hn o' ho'
    · omega
  shape := fun b x hx => F.shape b x (E.shape b x hx)
  imm := fun b hb => F.imm b (E.imm b hb)
  gen := fun o g hg => by
    obtain ⟨g1, hg1, h1⟩ := E.gen o g hg
    obtain ⟨g2, hg2, h2⟩ := F.gen o g1 hg1
    exact ⟨g2, hg2, Nat.le_trans h1 h2⟩
  same := fun o g hg hg2 => by
    obtain ⟨g1, hg1, hle1⟩ := E.gen o g hg
    obtain ⟨g2, hg2', hle2⟩ := F.gen o g1 hg1
    rw [hg2] at hg2'
    injection hg2' with e
    have : g1 = g := by omega
    subst this
    obtain ⟨a1, a2⟩ := E.same o g1 hg hg1
    obtain ⟨b1, b2⟩ := F.same o g1 hg1 hg2
    exact ⟨fun b hb => b1 b (a1 b hb), b2.trans a2⟩
  kind := fun o ho hg2 => by
    obtain ⟨g1, hg1, _⟩ := E.gen o 0 (genOf_map ho)
    obtain ⟨g2, hg2', hle⟩ := F.gen o g1 hg1
    rw [hg2] at hg2'
    injection hg2' with e
    obtain rfl : g1 = 0 := by omega
    exact F.kind o (E.kind o ho hg1) hg2
  own := fun o b hb => by
    rcases F.own o b hb with ⟨o', ho'⟩ | hle
    · exact E.own o' b ho'
    · exact .inr (Nat.le_trans E.size hle)
  os := F.os.trans E.os
  tape := F.tape.trans E.tape
  output := F.output.trans E.output
  kindL := fun o ho => F.kindL o (E.kindL o ho)
  good := F.good.trans E.good

theorem genOf_at {h : Heap} {o : Nat} (ho : o < h.length) : ∃ g, genOf h o = some g := by
  unfold genOf
  rw [List.getElem?_eq_getElem ho]
  cases h[o] <;> exact ⟨_, rfl⟩
theorem genOf_lt' {h : Heap} {o g : Nat} (hg : genOf h o = some g) : o < h.length := by
  unfold genOf at hg
  rcases Nat.lt_or_ge o h.length with h1 | h1
  · exact h1
  · rw [List.getElem?_eq_none h1] at hg; cases hg
theorem Ext0.len {s s' : Sim} {h h' : Heap} {w w' : World} (E : Ext0 s h w s' h' w') {o : Nat} (ho : o < h.length) : o < h'.length := by
  obtain ⟨g, hg⟩ := genOf_at ho
  obtain ⟨g', hg', _⟩ := E.gen o g hg
  exact genOf_lt' hg'
theorem Ext.trans {s s1 s2 : Sim} {h h1 h2 : Heap} {w w1 w2 : World} (E : Ext s h w s1 h1 w1) (F : Ext s1 h1 w1 s2 h2 w2) : Ext s h w s2 h2 w2 where
  toExt0 := E.toExt0.trans F.toExt0
  old := fun o b ho hb => by
    obtain ⟨b1, hb1⟩ := F.old o b (E.toExt0.len ho) hb
    exact E.old o b1 ho hb1
  kept := fun o ho hn => by
    have h1 : s1.μ o = none := by
      cases hx : s1.μ o with
      | none => rfl
      | some b =>
        obtain ⟨b0, hb0⟩ := E.old o b ho hx
        rw [hn] at hb0; cases hb0
    rw [F.kept o (E.toExt0.len ho) h1, E.kept o ho hn]
  immOld := fun b hb h => by
    rcases F.immOld b (Nat.lt_of_lt_of_le hb E.size) h with h | ⟨o, ho⟩
    · exact E.immOld b hb h
    · rcases E.own o b ho with h | h
      · exact .inr h
      · omega

theorem cell_block {w : World} {b off : Nat} {v : Value} (h : w.cell? ⟨b, off, none⟩ = some v) : b < w.heap.size := by
  unfold World.cell? at h
  split at h
  · rename_i c el fz hb
    exact (Array.getElem?_eq_some_iff.1 hb).1
  · cases h

theorem cell_same {w w' : World} {b off : Nat} (h : w'.heap[b]? = w.heap[b]?) : w'.cell? ⟨b, off, none⟩ = w.cell? ⟨b, off, none⟩ := by
  unfold World.cell?
  rw [h]

theorem genOf_loop {h : Heap} {o : Nat} (hm : isLoop h o = true) : genOf h o = some 0 := by
  unfold isLoop at hm
  unfold genOf
  split at hm
  · rename_i es he; rw [he]
  · cases hm

/-- What was said of a value is kept. -/
theorem VR.ext0 {s s' : Sim} {h h' : Heap} {w w' : World} (hd : ∀ o b, s.μ o = some b → ¬ s.I b) (E : Ext0 s h w s' h' w') {x : AV} {v : Value} (H : VR s h w x v) : VR s' h' w' x v := by
  induction H with
  | bool b => exact .bool b
  | int k n => exact .int k n
  | str l => exact .str l
  | nilPtr => exact .nilPtr
  | nilMap => exact .nilMap
  | nilFunc => exact .nilFunc
  | nilIface => exact .nilIface
  | junk v => exact .junk v
  | ptr o off g b hg hb =>
    obtain ⟨g', hg', hle⟩ := E.gen o g hg
    by_cases e : g = g'
    · subst e; exact .ptr o off g b hg' ((E.same o g hg hg').1 b hb)
    · exact .ptrOld o off g g' _ hg' (by omega)
  | ptrOld o off g g1 a hg hlt =>
    obtain ⟨g', hg', hle⟩ := E.gen o g1 hg
    exact .ptrOld o off g g' a hg' (by omega)
  | ref cs b off f hI hc _ ih =>
    refine .ref cs b off f (fun h0 => E.imm b (hI h0)) (fun i c hi => ?_) ih
    have hIb : s.I b := hI (by have := (List.getElem?_eq_some_iff.1 hi).1; omega)
    have hv := hc i c hi
    rw [cell_same (E.far b (cell_block hv) (fun o ho => hd o b ho hIb))]
    exact hv
  | lstNil z => exact .lstNil z
  | lstEmpty z A => exact .lstEmpty z A
  | lst xs z r b off c f hI hr hle hz hc _ ih =>
    refine .lst xs z r b off c f (fun h0 => E.imm b (hI h0)) hr hle hz (fun i j x y hi hj => ?_) ih
    have hIb : s.I b := hI (by have := (List.getElem?_eq_some_iff.1 hi).1; omega)
    have hv := hc i j x y hi hj
    rw [cell_same (E.far b (cell_block hv) (fun o ho => hd o b ho hIb))]
    exact hv
  | msl o off len z g cap b c el n off' hoff hg hb hle hcap hnone hsh hn =>
    obtain ⟨g', hg', hle'⟩ := E.gen o g hg
    by_cases e : g = g'
    · subst e
      obtain ⟨e1, e2⟩ := E.same o g hg hg'
      exact .msl o off len z g cap b c el n off' hoff hg' (e1 b hb) hle hcap (fun hc => by rw [e2]; exact hnone hc) (E.shape b _ hsh) hn
    · exact .mslOld o off len z g cap g' _ _ _ hg' (by omega)
  | mslOld o off len z g cap g1 a n c hg hlt =>
    obtain ⟨g', hg', hle⟩ := E.gen o g1 hg
    exact .mslOld o off len z g cap g' a n c hg' (by omega)
  | clo f cs vs hl _ ih => exact .clo f cs vs hl ih
  | bnd f cs vs hl _ ih => exact .bnd f cs vs hl ih
  | map o b hg hb =>
    obtain ⟨g', hg', _⟩ := E.gen o 0 (genOf_map hg)
    by_cases e : g' = 0
    · subst e
      have hk := E.kind o hg hg'
      exact .map o b hk ((E.same o 0 (genOf_map hg) (genOf_map hk)).1 b hb)
    · exact .mapOld o g' b hg' (by omega)
  | mapOld o g b hg hlt =>
    obtain ⟨g', hg', hle⟩ := E.gen o g hg
    exact .mapOld o g' b hg' (by omega)
  | yld o b hg hb =>
    have hk := E.kindL o hg
    exact .yld o b hk ((E.same o 0 (genOf_loop hg) (genOf_loop hk)).1 b hb)
  | yldOld o g b hg hlt =>
    obtain ⟨g', hg', hle⟩ := E.gen o g hg
    exact .yldOld o g' b hg' (by omega)
  | iface t x v hx ih => exact .iface t x v ih
  | agg cs vs hl _ ih => exact .agg cs vs hl ih
  | tup cs vs hl _ ih => exact .tup cs vs hl ih

theorem VR.ext {s s' : Sim} {h h' : Heap} {w w' : World} (hd : ∀ o b, s.μ o = some b → ¬ s.I b) (E : Ext s h w s' h' w') {x : AV} {v : Value} (H : VR s h w x v) : VR s' h' w' x v := H.ext0 hd E.toExt0

theorem VRs.ext {s s' : Sim} {h h' : Heap} {w w' : World} (hd : ∀ o b, s.μ o = some b → ¬ s.I b) (E : Ext s h w s' h' w') {cs : List AV} {vs : List Value} (H : VRs s h w cs vs) : VRs s' h' w' cs vs :=
  ⟨H.1, fun i c hi => by obtain ⟨v, hv, hr⟩ := H.2 i c hi; exact ⟨v, hv, hr.ext hd E⟩⟩

/-- The slots of a frame. -/
def EnvRel (s : Sim) (h : Heap) (w : World) (e : Env) (tmps : Array Value) : Prop := ∀ t, VR s h w (e.get t) (tmps.getD t undef)

theorem EnvRel.ext {s s' : Sim} {h h' : Heap} {w w' : World} (hd : ∀ o b, s.μ o = some b → ¬ s.I b) (E : Ext s h w s' h' w') {e : Env} {tmps : Array Value} (H : EnvRel s h w e tmps) : EnvRel s' h' w' e tmps := fun t => (H t).ext hd E

theorem Env.get_put (e : Env) (t u : Nat) (v : AV) : (e.put t v).get u = if t = u then v else e.get u := by
  rw [Env.put_eq, Env.get_cons]
  by_cases hk : t = u <;> simp [hk]

theorem EnvRel.put {s : Sim} {h : Heap} {w : World} {e : Env} {a : Act} (H : EnvRel s h w e a.tmps) (d : Option Nat) (hd : ∀ t, d = some t → t < a.tmps.size) {v : AV} {u : Value} (hv : VR s h w v u) : EnvRel s h w (e.putAt d v) (a.put d u).tmps := by
  cases d with
  | none => exact H
  | some t =>
    intro k
    simp only [Env.putAt, Act.put, Env.get_put]
    have hlt := hd t rfl
    by_cases hk : t = k
    · subst hk; simp [hlt, hv]
    · simp only [hk, if_false]
      have := H k
      simpa [Array.getElem?_setIfInBounds_ne hk] using this

theorem Env.get_keep (e : Env) (l : List Nat) (t : Nat) : (e.keep l).get t = e.get t ∨ (e.keep l).get t = .junk := by
  induction l with
  | nil => exact .inr rfl
  | cons k r ih =>
    simp only [Env.keep, Env.get_nil, Env.get_cons]
    by_cases hk : k = t
    · subst hk; simp
    · have : (k == t) = false := by simp [hk]
      simpa [this] using ih

theorem EnvRel.keep {s : Sim} {h : Heap} {w : World} {e : Env} {tmps : Array Value} (H : EnvRel s h w e tmps) (l : List Nat) : EnvRel s h w (e.keep l) tmps := fun t => by
  rcases Env.get_keep e l t with h1 | h1
  · rw [h1]; exact H t
  · rw [h1]; exact .junk _
end Go.Rv
