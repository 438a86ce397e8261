/-
  What the interpreter's values and heap say of the model's values and world; that later worlds keep it.
-/
import Derived.Test.YthljjckomhnhoaaGreatDoorPtA
import Derived.Laws.Sem
import Derived.MapKept
import Derived.Laws.CopyRow
import Derived.Laws.Cells
import Derived.Lib.Strings
import Derived.Laws.StructEq
import Derived.Laws.Append
import Derived.Laws.Slices
set_option linter.unusedSectionVars false
set_option linter.unusedSimpArgs false
set_option linter.unusedVariables false
set_option linter.defProp false
namespace Go.Rv
structure Fixed where
 good : Nat -> Nat -> List Nat -> Code -> Code -> Prop
 pin : Nat -> Obj -> Prop
 tail : List Deferred := []
structure Sim where
 μ : Nat -> Option Nat
 I : Nat -> Prop
 good : Fixed
def genOf (h : Heap) (o : Nat) : Option Nat :=
 match h[o]? with
 | some (.cells _ g) => some g
 | some (.map _) => some 0
 | some (.loop _) => some 0
 | some (.iter _ _) => some 0
 | none => none
def lenOf (h : Heap) (o : Nat) : Nat :=
 match h[o]? with
 | some (.cells cs _) => cs.length
 | _ => 0
def isMap (h : Heap) (o : Nat) : Bool :=
 match h[o]? with
 | some (.map _) => true
 | _ => false
def isLoop (h : Heap) (o : Nat) : Bool :=
 match h[o]? with
 | some (.loop _) => true
 | _ => false
def Room.ok (r : Room) (c : Nat) : Prop :=
 match r with
 | .nil => False
 | .exact n => c = n
 | .open => True
inductive VR (s : Sim) (h : Heap) (w : World) : AV -> Value -> Prop
 | bool (b : Bool) : VR s h w (.bool b) (.bool b)
 | int (k : IntKind) (n : Int) : VR s h w (.int k n) (.int k n)
 | str (l : List UInt8) : VR s h w (.str l) (.string ⟨l.toArray⟩)
 | nilPtr : VR s h w .nilPtr (.pointer none)
 | nilMap : VR s h w .nilMap (.map none)
 | nilFunc : VR s h w .nilFunc .nilFunc
 | nilIface : VR s h w .nilIface .nilIface
 | junk (v : Value) : VR s h w .junk v
 | ptr (o off g b : Nat) : genOf h o = some g -> s.μ o = some b -> VR s h w (.ptr o off g) (.pointer (some ⟨b, off, none⟩))
 | ptrOld (o off g g' : Nat) (a : Option Addr) : genOf h o = some g' -> g < g' -> VR s h w (.ptr o off g) (.pointer a)
 | ref (cs : List AV) (b off : Nat) (f : Nat -> Value) : (0 < cs.length -> s.I b) -> (∀ (i : Nat) c, cs[i]? = some c -> w.cell? ⟨b, off + i, none⟩ = some (f i)) -> (∀ (i : Nat) c, cs[i]? = some c -> VR s h w c (f i)) -> VR s h w (.ref cs) (.pointer (some ⟨b, off, none⟩))
 | lstNil (z : Nat) : VR s h w (.lst [] z .nil) (.slice none 0 0)
 | lstEmpty (z : Nat) (A : Addr) : VR s h w (.lst [] z (.exact 0)) (.slice (some A) 0 0)
 | lst (xs : List AV) (z : Nat) (r : Room) (b off c : Nat) (f : Nat -> Nat -> Value) : (0 < xs.length -> s.I b) -> r.ok c -> xs.length <= c -> (∀ (i : Nat) x, xs[i]? = some x -> x.cells.length = z) ->
   (∀ (i j : Nat) x y, xs[i]? = some x -> x.cells[j]? = some y -> w.cell? ⟨b, off + i * z + j, none⟩ = some (f i j)) ->
   (∀ (i j : Nat) x y, xs[i]? = some x -> x.cells[j]? = some y -> VR s h w y (f i j)) ->
   VR s h w (.lst xs z r) (.slice (some ⟨b, off, none⟩) xs.length c)
 | msl (o off len z g : Nat) (cap : Option Nat) (b c el n off' : Nat) : (off' = off ∨ c = 0) -> genOf h o = some g -> s.μ o = some b -> len <= c -> (∀ m, cap = some m -> c = m) ->
   (cap = none -> lenOf h o <= off + c * z) -> w.shape? b = some (el, n) -> off + c * z <= n ->
   VR s h w (.msl o off len z g cap) (.slice (some ⟨b, off', none⟩) len c)
 | mslOld (o off len z g : Nat) (cap : Option Nat) (g' : Nat) (a : Option Addr) (n c : Nat) : genOf h o = some g' -> g < g' -> VR s h w (.msl o off len z g cap) (.slice a n c)
 | clo (f : Nat) (cs : List AV) (vs : Array Value) : cs.length = vs.size -> (∀ (i : Nat) c, cs[i]? = some c -> VR s h w c (vs.getD i undef)) -> VR s h w (.clo f cs) (.func (.func f) #[] vs)
 | bnd (f : Nat) (cs : List AV) (vs : Array Value) : cs.length = vs.size -> (∀ (i : Nat) c, cs[i]? = some c -> VR s h w c (vs.getD i undef)) -> VR s h w (.bnd f cs) (.func (.func f) vs #[])
 | map (o b : Nat) : isMap h o = true -> s.μ o = some b -> VR s h w (.map o) (.map (some b))
 | mapOld (o g b : Nat) : genOf h o = some g -> 0 < g -> VR s h w (.map o) (.map (some b))
 | yld (o b : Nat) : isLoop h o = true -> s.μ o = some b -> VR s h w (.yld o) (.func (.yield b) #[] #[])
 | yldOld (o g b : Nat) : genOf h o = some g -> 0 < g -> VR s h w (.yld o) (.func (.yield b) #[] #[])
 | iface (t : Nat) (x : AV) (v : Value) : VR s h w x v -> VR s h w (.iface t x) (.iface t v)
 | agg (cs : List AV) (vs : Array Value) : cs.length = vs.size -> (∀ (i : Nat) c, cs[i]? = some c -> VR s h w c (vs.getD i undef)) -> VR s h w (.agg cs) (.agg vs)
 | tup (cs : List AV) (vs : Array Value) : cs.length = vs.size -> (∀ (i : Nat) c, cs[i]? = some c -> VR s h w c (vs.getD i undef)) -> VR s h w (.tup cs) (.tuple vs)
def VRs (s : Sim) (h : Heap) (w : World) (cs : List AV) (vs : List Value) : Prop :=
 cs.length = vs.length /\ ∀ (i : Nat) c, cs[i]? = some c -> ∃ v, vs[i]? = some v /\ VR s h w c v
def ORel (s : Sim) (h : Heap) (w : World) (b : Nat) : AObj -> Prop
  | .cells cs _ => ∃ bc el, w.heap[b]? = some (.cells bc el (0, 0)) /\ cs.length <= bc.size /\ ∀ (i : Nat) c, cs[i]? = some c -> ∃ v, bc[i]? = some v /\ VR s h w c v
  | .map es => ∃ es0 : List (AV × AV), (es0.Perm es /\ KeysOk es) /\ ∃ en cl, w.heap[b]? = some (.map en cl) /\ es0.length = en.size /\ MapKept.Stamped en cl /\ ∀ (i : Nat) e, es0[i]? = some e -> ∃ m, en[i]? = some m /\ VR s h w e.1 m.key /\ VR s h w e.2 m.val
  | .loop r => ∃ rec, w.heap[b]? = some (.loop rec) /\ (rec.state = r.st /\ rec.pending = r.pend /\ rec.params.toList = r.ps /\ rec.assign = r.assign /\ rec.body = r.body) /\
    (∀ t, VR s h w (r.env.get t) (rec.tmps.getD t undef)) /\ s.good.good r.f rec.tmps.size r.ps r.assign r.body
  | .iter k es => ∃ bm since seen last en cl, w.heap[b]? = some (.mapIter (some bm) since seen last) /\ s.I bm /\ w.heap[bm]? = some (.map en cl) /\
    ((k = 0 -> since = cl /\ seen = #[] /\ last = cl /\ es.length = en.size /\ MapKept.Stamped en cl /\ ∃ es0 : List (AV × AV), (es0.Perm es /\ KeysOk es) /\ ∀ (i : Nat) e, es0[i]? = some e -> ∃ m, en[i]? = some m /\ VR s h w e.1 m.key /\ VR s h w e.2 m.val) /\
      (k = 2 -> s.good.pin b (.mapIter (some bm) since seen last) /\ last = cl /\ MapKept.Stamped en cl /\ ∀ e ∈ es, ∃ m ∈ en.toList, seen.back? = some m.born /\ VR s h w e.1 m.key /\ VR s h w e.2 m.val))
structure Rel (s : Sim) (h : Heap) (w : World) : Prop where
 inj : ∀ o o' b, s.μ o = some b -> s.μ o' = some b -> o = o'
 obj : ∀ o b, s.μ o = some b -> ∃ x, h[o]? = some x /\ ORel s h w b x
 apart : ∀ o b, s.μ o = some b -> ¬ s.I b
 imm : ∀ b, s.I b -> b < w.heap.size
structure Ext0 (s : Sim) (h : Heap) (w : World) (s' : Sim) (h' : Heap) (w' : World) : Prop where
 size : w.heap.size <= w'.heap.size
 far : ∀ b, b < w.heap.size -> (∀ o, s.μ o ≠ some b) -> w'.heap[b]? = w.heap[b]?
 shape : ∀ b x, w.shape? b = some x -> w'.shape? b = some x
 imm : ∀ b, s.I b -> s'.I b
 gen : ∀ o g, genOf h o = some g -> ∃ g', genOf h' o = some g' /\ g <= g'
 same : ∀ o g, genOf h o = some g -> genOf h' o = some g -> (∀ b, s.μ o = some b -> s'.μ o = some b) /\ lenOf h' o = lenOf h o
 kind : ∀ o, isMap h o = true -> genOf h' o = some 0 -> isMap h' o = true
 own : ∀ o b, s'.μ o = some b -> (∃ o', s.μ o' = some b) ∨ w.heap.size <= b
 os : w'.os = w.os
 tape : w'.tape = w.tape
 output : w'.output = w.output
 kindL : ∀ o, isLoop h o = true -> isLoop h' o = true
 good : s'.good = s.good
structure Ext (s : Sim) (h : Heap) (w : World) (s' : Sim) (h' : Heap) (w' : World) : Prop extends Ext0 s h w s' h' w' where
 old : ∀ o b, o < h.length -> s'.μ o = some b -> ∃ b0, s.μ o = some b0
 kept : ∀ o, o < h.length -> s.μ o = none -> h'[o]? = h[o]?
 immOld : ∀ b, b < w.heap.size -> s'.I b -> s.I b ∨ ∃ o, s.μ o = some b := by exact fun _ _ h => .inl h
theorem Rel.lt {s : Sim} {h : Heap} {w : World} (R : Rel s h w) {o b : Nat} (hb : s.μ o = some b) : b < w.heap.size := by
 obtain ⟨x, _, ho⟩ := R.obj o b hb
 cases x with
 | cells cs g => obtain ⟨bc, el, h1, _⟩ := ho; exact (qAq.1 h1).1
 | map es => obtain ⟨_, _, bc, el, h1, _⟩ := ho; exact (qAq.1 h1).1
 | loop r => obtain ⟨rec, h1, _⟩ := ho; exact (qAq.1 h1).1
 | iter k es => obtain ⟨_, _, _, _, _, _, h1, _⟩ := ho; exact (qAq.1 h1).1
theorem Ext.refl (s : Sim) (h : Heap) (w : World) : Ext s h w s h w :=
 ⟨⟨qAr _, fun _ _ _ => rfl, fun _ _ h => h, fun _ h => h, fun _ g hg => ⟨g, hg, qAr _⟩, fun _ _ _ _ => ⟨fun _ h => h, rfl⟩, fun _ h _ => h, fun o b hb => .inl ⟨o, hb⟩, rfl, rfl, rfl, fun _ h => h, rfl⟩, fun o b _ hb => ⟨b, hb⟩, fun _ _ _ => rfl, fun _ _ h => .inl h⟩
theorem genOf_map {h : Heap} {o : Nat} (hm : isMap h o = true) : genOf h o = some 0 := by
 unfold isMap at hm
 unfold genOf
 split at hm
 ·rename_i es he; rw [he]
 ·cases hm
theorem Ext0.trans {s s1 s2 : Sim} {h h1 h2 : Heap} {w w1 w2 : World} (E : Ext0 s h w s1 h1 w1) (F : Ext0 s1 h1 w1 s2 h2 w2) : Ext0 s h w s2 h2 w2 where
 size := Nat.le_trans E.size F.size
 far := fun b hb hn => by
  rw [F.far b (Nat.lt_of_lt_of_le hb E.size) (fun o ho => ?_), E.far b hb hn]
  rcases E.own o b ho with ⟨o', ho'⟩ | hle
  ·exact hn o' ho'
  ·omega
 shape := fun b x hx => F.shape b x (E.shape b x hx)
 imm := fun b hb => F.imm b (E.imm b hb)
 gen := fun o g hg => by
  obtain ⟨g1, hg1, h1⟩ := E.gen o g hg
  obtain ⟨g2, hg2, h2⟩ := F.gen o g1 hg1
  exact ⟨g2, hg2, Nat.le_trans h1 h2⟩
 same := fun o g hg hg2 => by
  obtain ⟨g1, hg1, hle1⟩ := E.gen o g hg
  obtain ⟨g2, hg2', hle2⟩ := F.gen o g1 hg1
  rw [hg2] at hg2'
  injection hg2' with e
  have : g1 = g := by omega
  subst this
  obtain ⟨a1, a2⟩ := E.same o g1 hg hg1
  obtain ⟨b1, b2⟩ := F.same o g1 hg1 hg2
  exact ⟨fun b hb => b1 b (a1 b hb), b2.trans a2⟩
 kind := fun o ho hg2 => by
  obtain ⟨g1, hg1, _⟩ := E.gen o 0 (genOf_map ho)
  obtain ⟨g2, hg2', hle⟩ := F.gen o g1 hg1
  rw [hg2] at hg2'
  injection hg2' with e
  obtain rfl : g1 = 0 := by omega
  exact F.kind o (E.kind o ho hg1) hg2
 own := fun o b hb => by
  rcases F.own o b hb with ⟨o', ho'⟩ | hle
  ·exact E.own o' b ho'
  ·exact .inr (Nat.le_trans E.size hle)
 os := F.os.trans E.os
 tape := F.tape.trans E.tape
 output := F.output.trans E.output
 kindL := fun o ho => F.kindL o (E.kindL o ho)
 good := F.good.trans E.good
theorem genOf_at {h : Heap} {o : Nat} (ho : o < h.length) : ∃ g, genOf h o = some g := by
 unfold genOf
 rw [qAs ho]
 cases h[o] <;> exact ⟨_, rfl⟩
theorem genOf_lt' {h : Heap} {o g : Nat} (hg : genOf h o = some g) : o < h.length := by
 unfold genOf at hg
 rcases Nat.lt_or_ge o h.length with h1 | h1
 ·exact h1
 ·rw [qAt h1] at hg; cases hg
theorem Ext0.len {s s' : Sim} {h h' : Heap} {w w' : World} (E : Ext0 s h w s' h' w') {o : Nat} (ho : o < h.length) : o < h'.length := by
 obtain ⟨g, hg⟩ := genOf_at ho
 obtain ⟨g', hg', _⟩ := E.gen o g hg
 exact genOf_lt' hg'
theorem Ext.trans {s s1 s2 : Sim} {h h1 h2 : Heap} {w w1 w2 : World} (E : Ext s h w s1 h1 w1) (F : Ext s1 h1 w1 s2 h2 w2) : Ext s h w s2 h2 w2 where
 toExt0 := E.toExt0.trans F.toExt0
 old := fun o b ho hb => by
  obtain ⟨b1, hb1⟩ := F.old o b (E.toExt0.len ho) hb
  exact E.old o b1 ho hb1
 kept := fun o ho hn => by
  have h1 : s1.μ o = none := by
   cases hx : s1.μ o with
   | none => rfl
   | some b =>
    obtain ⟨b0, hb0⟩ := E.old o b ho hx
    rw [hn] at hb0; cases hb0
  rw [F.kept o (E.toExt0.len ho) h1, E.kept o ho hn]
 immOld := fun b hb h => by
  rcases F.immOld b (Nat.lt_of_lt_of_le hb E.size) h with h | ⟨o, ho⟩
  ·exact E.immOld b hb h
  ·rcases E.own o b ho with h | h
   ·exact .inr h
   ·omega
theorem cell_block {w : World} {b off : Nat} {v : Value} (h : w.cell? ⟨b, off, none⟩ = some v) : b < w.heap.size := by
 unfold World.cell? at h
 split at h
 ·rename_i c el fz hb
  exact (qAq.1 hb).1
 ·cases h
theorem cell_same {w w' : World} {b off : Nat} (h : w'.heap[b]? = w.heap[b]?) : w'.cell? ⟨b, off, none⟩ = w.cell? ⟨b, off, none⟩ := by
 unfold World.cell?
 rw [h]
theorem genOf_loop {h : Heap} {o : Nat} (hm : isLoop h o = true) : genOf h o = some 0 := by
 unfold isLoop at hm
 unfold genOf
 split at hm
 ·rename_i es he; rw [he]
 ·cases hm
theorem VR.ext0 {s s' : Sim} {h h' : Heap} {w w' : World} (hd : ∀ o b, s.μ o = some b -> ¬ s.I b) (E : Ext0 s h w s' h' w') {x : AV} {v : Value} (H : VR s h w x v) : VR s' h' w' x v := by
 induction H with
 | bool b => exact .bool b
 | int k n => exact .int k n
 | str l => exact .str l
 | nilPtr => exact .nilPtr
 | nilMap => exact .nilMap
 | nilFunc => exact .nilFunc
 | nilIface => exact .nilIface
 | junk v => exact .junk v
 | ptr o off g b hg hb =>
  obtain ⟨g', hg', hle⟩ := E.gen o g hg
  by_cases e : g = g'
  ·subst e; exact .ptr o off g b hg' ((E.same o g hg hg').1 b hb)
  ·exact .ptrOld o off g g' _ hg' (by omega)
 | ptrOld o off g g1 a hg hlt =>
  obtain ⟨g', hg', hle⟩ := E.gen o g1 hg
  exact .ptrOld o off g g' a hg' (by omega)
 | ref cs b off f hI hc _ ih =>
  refine .ref cs b off f (fun h0 => E.imm b (hI h0)) (fun i c hi => ?_) ih
  have hIb : s.I b := hI (by have := (qAu.1 hi).1; omega)
  have hv := hc i c hi
  rw [cell_same (E.far b (cell_block hv) (fun o ho => hd o b ho hIb))]
  exact hv
 | lstNil z => exact .lstNil z
 | lstEmpty z A => exact .lstEmpty z A
 | lst xs z r b off c f hI hr hle hz hc _ ih =>
  refine .lst xs z r b off c f (fun h0 => E.imm b (hI h0)) hr hle hz (fun i j x y hi hj => ?_) ih
  have hIb : s.I b := hI (by have := (qAu.1 hi).1; omega)
  have hv := hc i j x y hi hj
  rw [cell_same (E.far b (cell_block hv) (fun o ho => hd o b ho hIb))]
  exact hv
 | msl o off len z g cap b c el n off' hoff hg hb hle hcap hnone hsh hn =>
  obtain ⟨g', hg', hle'⟩ := E.gen o g hg
  by_cases e : g = g'
  ·subst e
   obtain ⟨e1, e2⟩ := E.same o g hg hg'
   exact .msl o off len z g cap b c el n off' hoff hg' (e1 b hb) hle hcap (fun hc => by rw [e2]; exact hnone hc) (E.shape b _ hsh) hn
  ·exact .mslOld o off len z g cap g' _ _ _ hg' (by omega)
 | mslOld o off len z g cap g1 a n c hg hlt =>
  obtain ⟨g', hg', hle⟩ := E.gen o g1 hg
  exact .mslOld o off len z g cap g' a n c hg' (by omega)
 | clo f cs vs hl _ ih => exact .clo f cs vs hl ih
 | bnd f cs vs hl _ ih => exact .bnd f cs vs hl ih
 | map o b hg hb =>
  obtain ⟨g', hg', _⟩ := E.gen o 0 (genOf_map hg)
  by_cases e : g' = 0
  ·subst e
   have hk := E.kind o hg hg'
   exact .map o b hk ((E.same o 0 (genOf_map hg) (genOf_map hk)).1 b hb)
  ·exact .mapOld o g' b hg' (by omega)
 | mapOld o g b hg hlt =>
  obtain ⟨g', hg', hle⟩ := E.gen o g hg
  exact .mapOld o g' b hg' (by omega)
 | yld o b hg hb =>
  have hk := E.kindL o hg
  exact .yld o b hk ((E.same o 0 (genOf_loop hg) (genOf_loop hk)).1 b hb)
 | yldOld o g b hg hlt =>
  obtain ⟨g', hg', hle⟩ := E.gen o g hg
  exact .yldOld o g' b hg' (by omega)
 | iface t x v hx ih => exact .iface t x v ih
 | agg cs vs hl _ ih => exact .agg cs vs hl ih
 | tup cs vs hl _ ih => exact .tup cs vs hl ih
theorem VR.ext {s s' : Sim} {h h' : Heap} {w w' : World} (hd : ∀ o b, s.μ o = some b -> ¬ s.I b) (E : Ext s h w s' h' w') {x : AV} {v : Value} (H : VR s h w x v) : VR s' h' w' x v := H.ext0 hd E.toExt0
theorem VRs.ext {s s' : Sim} {h h' : Heap} {w w' : World} (hd : ∀ o b, s.μ o = some b -> ¬ s.I b) (E : Ext s h w s' h' w') {cs : List AV} {vs : List Value} (H : VRs s h w cs vs) : VRs s' h' w' cs vs :=
 ⟨H.1, fun i c hi => by obtain ⟨v, hv, hr⟩ := H.2 i c hi; exact ⟨v, hv, hr.ext hd E⟩⟩
def EnvRel (s : Sim) (h : Heap) (w : World) (e : Env) (tmps : Array Value) : Prop := ∀ t, VR s h w (e.get t) (tmps.getD t undef)
theorem EnvRel.ext {s s' : Sim} {h h' : Heap} {w w' : World} (hd : ∀ o b, s.μ o = some b -> ¬ s.I b) (E : Ext s h w s' h' w') {e : Env} {tmps : Array Value} (H : EnvRel s h w e tmps) : EnvRel s' h' w' e tmps := fun t => (H t).ext hd E
theorem Env.get_put (e : Env) (t u : Nat) (v : AV) : (e.put t v).get u = if t = u then v else e.get u := by
 rw [Env.put_eq, Env.get_cons]
 by_cases hk : t = u <;> simp [hk]
theorem EnvRel.put {s : Sim} {h : Heap} {w : World} {e : Env} {a : Act} (H : EnvRel s h w e a.tmps) (d : Option Nat) (hd : ∀ t, d = some t -> t < a.tmps.size) {v : AV} {u : Value} (hv : VR s h w v u) : EnvRel s h w (e.putAt d v) (a.put d u).tmps := by
 cases d with
 | none => exact H
 | some t =>
  intro k
  simp only [Env.putAt, Act.put, Env.get_put]
  have hlt := hd t rfl
  by_cases hk : t = k
  ·subst hk; simp [hlt, hv]
  ·simp only [hk, if_false]
   have := H k
   simpa [Array.getElem?_setIfInBounds_ne hk] using this
theorem Env.get_keep (e : Env) (l : List Nat) (t : Nat) : (e.keep l).get t = e.get t ∨ (e.keep l).get t = .junk := by
 induction l with
 | nil => exact .inr rfl
 | cons k r ih =>
  simp only [Env.keep, Env.get_cons]
  by_cases hk : k = t
  ·subst hk; simp
  ·have : (k == t) = false := by simp [hk]
   simpa [this] using ih
theorem EnvRel.keep {s : Sim} {h : Heap} {w : World} {e : Env} {tmps : Array Value} (H : EnvRel s h w e tmps) (l : List Nat) : EnvRel s h w (e.keep l) tmps := fun t => by
 rcases Env.get_keep e l t with h1 | h1
 ·rw [h1]; exact H t
 ·rw [h1]; exact .junk _
end Go.Rv
namespace Go.Rv
def TD.ok : TypeDesc -> TD -> Prop
 | .bool, .bool => True
 | .int k, .int k' => k = k'
 | .string, .str => True
 | .pointer _, .ptr => True
 | .func .., .func => True
 | .interface _, .iface => True
 | .slice e, .slice e' => e = e'
 | .array n e, .array n' e' => n = n' /\ e = e'
 | .map k e, .map k' e' => k = k' /\ e = e'
 | .struct fs, .struct l => fs.toList.map (fun f => (f.type, f.offset)) = l
 | _, _ => False
def wholeB (agg : Bool) (z : Value) : Bool := match z with
 | .agg _ => agg
 | _ => !agg
structure TyOk (P : Program) (t : Nat) (ti : TI) : Prop where
 info : ∃ i z, P.info? t = some i /\ i.size = ti.size /\ i.bytes = ti.bytes /\ i.zero = some z /\ z.cells.size = ti.zero.length /\ ∀ (j : Nat) c, ti.zero[j]? = some c -> ofValue (z.cells.getD j undef) = some c
 und : ∃ d, P.underlying t = some d /\ TD.ok d ti.td
 small : ti.bytes <= 4096
 zsize : ti.zero.length = ti.size
 fields : ∀ fs, P.underlying t = some (.struct fs) -> ∀ f ∈ fs, ∃ i, P.info? f.type = some i
 whole : ∀ i z, P.info? t = some i -> i.zero = some z -> wholeB ti.td.isAgg z = true
section
variable {P : Program} {C : Cfg} {s : Sim} {h : Heap} {w : World}
theorem run_sizeA {t : Nat} {ti : TI} (T : TyOk P t ti) (w : World) : (sizeOf t).run P w = .ok ti.size w := by
 obtain ⟨i, z, h1, h2, _⟩ := T.info
 simp [sizeOf, typeInfo, h1, h2]
theorem run_und {t : Nat} {d : TypeDesc} (h : P.underlying t = some d) (w : World) : (underlying t).run P w = .ok d w := by
 simp [underlying, h]
theorem run_isAggA {t : Nat} {ti : TI} (T : TyOk P t ti) (w : World) : (isAgg t).run P w = .ok ti.td.isAgg w := by
 obtain ⟨d, h1, h2⟩ := T.und
 simp only [isAgg, Sem.run_bind, run_und h1, Result.andThen_ok]
 generalize ti.td = td at h2 ⊢
 cases d <;> cases td <;> first | rfl | exact False.elim h2
theorem run_zeroA {t : Nat} {ti : TI} (T : TyOk P t ti) : ∃ z, (∀ w, (zeroValue t).run P w = .ok z w) /\ z.cells.size = ti.zero.length /\ ∀ (j : Nat) c, ti.zero[j]? = some c -> ofValue (z.cells.getD j undef) = some c := by
 obtain ⟨i, z, h1, _, _, h4, h5, h6⟩ := T.info
 exact ⟨z, fun w => by simp [zeroValue, typeInfo, h1, h4], h5, h6⟩
theorem ofValue_rel {v : Value} {x : AV} (hv : ofValue v = some x) : VR s h w x v := by
 unfold ofValue at hv
 split at hv
 ·injection hv with hv; subst hv; exact .bool _
 ·injection hv with hv; subst hv; exact .int _ _
 ·injection hv with hv; subst hv
  rename_i b
  have := VR.str (s := s) (h := h) (w := w) b.data.toList
  simpa using this
 ·injection hv with hv; subst hv; exact .nilPtr
 ·injection hv with hv; subst hv; exact .lstNil _
 ·injection hv with hv; subst hv; exact .nilMap
 ·injection hv with hv; subst hv; exact .nilFunc
 ·injection hv with hv; subst hv; exact .nilIface
 ·rename_i vs
  split at hv
  ·rename_i he
   injection hv with hv; subst hv
   have : vs = #[] := by simpa using he
   subst this
   exact .tup [] #[] rfl fun i c hi => by simp at hi
  ·cases hv
 ·cases hv
def Glob (C : Cfg) (s : Sim) (h : Heap) (w : World) : Prop := ∀ g v, C.glob g = some v -> VR s h w v (.pointer (some ⟨g, 0, none⟩))
theorem Glob.ext {s' : Sim} {h' : Heap} {w' : World} (hd : ∀ o b, s.μ o = some b -> ¬ s.I b) (E : Ext s h w s' h' w') (G : Glob C s h w) : Glob C s' h' w' := fun g v hg => (G g v hg).ext hd E
theorem evalA_rel {e : Env} {a : Act} (G : Glob C s h w) (H : EnvRel s h w e a.tmps) {x : Operand} {v : AV} (hv : evalA C e x = some v) : VR s h w v (a.eval x) := by
 cases x with
 | tmp t =>
  have := H t
  simp only [evalA] at hv
  split at hv
  ·cases hv
  ·injection hv with hv; subst hv; exact this
 | const c => exact ofValue_rel hv
 | global g => exact G g v hv
 | func f =>
  simp only [evalA, qAf] at hv
  subst hv
  exact .clo f [] #[] rfl fun i c hi => by simp at hi
theorem addr_add (b off j : Nat) : (⟨b, off, none⟩ : Addr).add j = ⟨b, off + j, none⟩ := by
 unfold Addr.add; split <;> simp_all
theorem genOf_obj {o g : Nat} {cs : List AV} (ho : h.obj o g = some cs) : genOf h o = some g /\ h[o]? = some (.cells cs g) /\ lenOf h o = cs.length := by
 unfold Heap.obj at ho
 split at ho
 ·rename_i cs' g' he
  split at ho
  ·rename_i hg
   have : g' = g := by simpa using hg
   subst this
   injection ho with ho; subst ho
   exact ⟨by simp [genOf, he], he, by simp [lenOf, he]⟩
  ·cases ho
 ·cases ho
theorem genOf_live {o g : Nat} (ho : h.live o g = true) : genOf h o = some g := by
 unfold Heap.live at ho
 obtain ⟨cs, hcs⟩ := Option.isSome_iff_exists.1 ho
 exact (genOf_obj hcs).1
def Reads (s : Sim) (h : Heap) (w : World) (b off : Nat) (cs : List AV) : Prop := ∀ (i : Nat) c, cs[i]? = some c -> ∃ v, w.cell? ⟨b, off + i, none⟩ = some v /\ VR s h w c v
theorem Reads.drop {b off : Nat} {cs : List AV} (H : Reads s h w b off cs) (n : Nat) : Reads s h w b (off + n) (cs.drop n) := fun i c hi => by
 have := H (n + i) c (by simpa using hi)
 rw [← Nat.add_assoc] at this
 exact this
theorem Reads.take {b off : Nat} {cs : List AV} (H : Reads s h w b off cs) (n : Nat) : Reads s h w b off (cs.take n) := fun i c hi => H i c (by
 rw [List.getElem?_take] at hi
 split at hi
 ·exact hi
 ·cases hi)
theorem obj_reads (R : Rel s h w) {o g b : Nat} {cs : List AV} (ho : h.obj o g = some cs) (hb : s.μ o = some b) : Reads s h w b 0 cs := by
 obtain ⟨x, hx, hr⟩ := R.obj o b hb
 rw [(genOf_obj ho).2.1] at hx
 injection hx with hx; subst hx
 obtain ⟨bc, el, h1, h2, h3⟩ := hr
 intro i c hi
 obtain ⟨v, hv, hvr⟩ := h3 i c hi
 exact ⟨v, by simp [World.cell?, h1, hv], hvr⟩
theorem cellsAt_reads (R : Rel s h w) {a : AV} {u : Value} {cs : List AV} (hv : VR s h w a u) (hc : cellsAt h a = some cs) : ∃ b off, u = .pointer (some ⟨b, off, none⟩) /\ Reads s h w b off cs := by
 cases hv with
 | ref cs' b off f hI hcell hr =>
  simp only [cellsAt, qAf] at hc
  subst hc
  exact ⟨b, off, rfl, fun i c hi => ⟨f i, hcell i c hi, hr i c hi⟩⟩
 | ptr o off g b hg hb =>
  simp only [cellsAt, qAl] at hc
  obtain ⟨cs', ho, rfl⟩ := hc
  exact ⟨b, off, rfl, by simpa using (obj_reads R ho hb).drop off⟩
 | ptrOld o off g g' a hg hlt =>
  simp only [cellsAt, qAl] at hc
  obtain ⟨cs', ho, _⟩ := hc
  have := (genOf_obj ho).1
  rw [hg] at this
  injection this
  omega
 | _ => simp [cellsAt] at hc
theorem reads_list {b off : Nat} {cs : List AV} (H : Reads s h w b off cs) : ∃ vs : List Value, vs.length = cs.length /\ (∀ j v, vs[j]? = some v -> w.cell? ⟨b, off + j, none⟩ = some v) /\ ∀ (i : Nat) c, cs[i]? = some c -> VR s h w c (vs.getD i undef) := by
 refine ⟨(List.range cs.length).map fun i => (w.cell? ⟨b, off + i, none⟩).getD undef, by simp, ?_, ?_⟩
 ·intro j v hj
  obtain ⟨hlt, he⟩ := qAu.1 hj
  have hlt' : j < cs.length := by simpa using hlt
  obtain ⟨u, hu, _⟩ := H j cs[j] (qAs hlt')
  simp [hu] at he
  rw [hu, he]
 ·intro i c hi
  have hlt := (qAu.1 hi).1
  obtain ⟨u, hu, hr⟩ := H i c hi
  simp [hlt, hu, hr]
theorem load_rel (R : Rel s h w) {t : Nat} {ti : TI} (T : TyOk P t ti) {a v : AV} {u : Value} {cs : List AV} (hv : VR s h w a u) (hc : cellsAt h a = some cs) (hp : part ti cs = some v) :
  ∃ x, (Instr.loadAt t u).run P w = .ok x w /\ VR s h w v x := by
 obtain ⟨b, off, rfl, H⟩ := cellsAt_reads R hv hc
 unfold part at hp
 simp only [Instr.loadAt, Instr.sureAddr, Sem.run_bind, Sem.run_pure, Result.andThen_ok, loadVar, run_isAggA T]
 split at hp
 ·rename_i hagg
  split at hp
  ·rename_i hlen
   injection hp with hp; subst hp
   obtain ⟨vs, hl, hcell, hr⟩ := reads_list (H.take ti.size)
   have hl' : vs.length = ti.size := by rw [hl]; simp; omega
   have hrun := run_loadCells_list (P := P) (w := w) ⟨b, off, none⟩ vs (fun j v hj => by rw [addr_add]; exact hcell j v hj)
   simp only [hagg, if_true, Sem.run_bind, run_sizeA T, Result.andThen_ok]
   rw [← hl', hrun]
   refine ⟨.agg vs.toArray, rfl, ?_⟩
   rw [hl']
   refine .agg _ _ (by simp; omega) fun i c hi => ?_
   have := hr i c hi
   simpa using this
  ·cases hp
 ·rename_i hagg
  have hagg' : ti.td.isAgg = false := by simpa using hagg
  have h0 : cs[0]? = some v := by rw [← List.head?_eq_getElem?]; exact hp
  obtain ⟨u, hu, hr⟩ := H 0 v h0
  simp only [hagg', qAb, if_false, run_load]
  rw [show (off + 0 = off) from rfl] at hu
  rw [hu]
  exact ⟨u, rfl, hr⟩
theorem leaf_one {x : AV} {v : Value} (hx : x.leaf = true) (hv : VR s h w x v) : v.oneCell' = true := by
 cases hv <;> first | rfl | (simp [AV.leaf] at hx)
theorem setCells_length {α : Type} (cs : List α) : ∀ (vs : List α) (off : Nat), (setCells cs off vs).length = cs.length := by
 intro vs
 induction vs generalizing cs with
 | nil => intro off; rfl
 | cons v r ih => intro off; simp [setCells, ih]
theorem setCells_get {α : Type} (vs : List α) : ∀ (cs : List α) (off i : Nat), off + vs.length <= cs.length ->
  (setCells cs off vs)[i]? = if off <= i /\ i < off + vs.length then vs[i - off]? else cs[i]? := by
 induction vs with
 | nil => intro cs off i _; simp [setCells]; intro h1 h2; omega
 | cons v r ih =>
  intro cs off i hl
  simp only [setCells]
  rw [ih (cs.set off v) (off + 1) i (by simp at hl ⊢; omega)]
  simp only [qAv] at hl ⊢
  by_cases h1 : off + 1 <= i /\ i < off + 1 + r.length
  ·rw [if_pos h1, if_pos (by omega)]
   rw [show i - off = (i - (off + 1)) + 1 from by omega]
   simp
  ·rw [if_neg h1]
   by_cases h2 : i = off
   ·subst h2
    rw [if_pos (by omega)]
    simp [show i < cs.length from by omega]
   ·rw [if_neg (by omega)]
    rw [qAw (Ne.symm h2)]
theorem agg_cells {x : AV} {v : Value} (hv : VR s h w x v) (hj : x ≠ .junk) : VRs s h w x.cells v.cells.toList := by
 have one : ∀ {x : AV} {v : Value}, VR s h w x v -> x.cells = [x] -> v.cells = #[v] -> VRs s h w x.cells v.cells.toList := by
  intro x v hv h1 h2
  rw [h1, h2]
  refine ⟨rfl, fun i c hi => ?_⟩
  cases i with
  | zero => simp at hi; subst hi; exact ⟨v, rfl, hv⟩
  | succ i => simp at hi
 cases hv with
 | agg cs vs hl hr =>
  refine ⟨by simpa [AV.cells, Value.cells] using hl, fun i c hi => ?_⟩
  have hlt : i < vs.size := by rw [← hl]; exact (qAu.1 hi).1
  refine ⟨vs[i], by simp [Value.cells, hlt], ?_⟩
  have := hr i c hi
  simpa [hlt] using this
 | junk => exact absurd rfl hj
 | bool b => exact one (.bool b) rfl rfl
 | int k n => exact one (.int k n) rfl rfl
 | str l => exact one (.str l) rfl rfl
 | nilPtr => exact one .nilPtr rfl rfl
 | nilMap => exact one .nilMap rfl rfl
 | nilFunc => exact one .nilFunc rfl rfl
 | nilIface => exact one .nilIface rfl rfl
 | ptr o off g b h1 h2 => exact one (.ptr o off g b h1 h2) rfl rfl
 | ptrOld o off g g' a h1 h2 => exact one (.ptrOld o off g g' a h1 h2) rfl rfl
 | ref cs b off f h1 h2 h3 => exact one (.ref cs b off f h1 h2 h3) rfl rfl
 | lstNil z => exact one (.lstNil z) rfl rfl
 | lstEmpty z A => exact one (.lstEmpty z A) rfl rfl
 | lst xs z r b off c f h1 h2 h3 h4 h5 h6 => exact one (.lst xs z r b off c f h1 h2 h3 h4 h5 h6) rfl rfl
 | msl o off len z g cap b c el n off' h0 h1 h2 h3 h4 h5 h6 h7 => exact one (.msl o off len z g cap b c el n off' h0 h1 h2 h3 h4 h5 h6 h7) rfl rfl
 | mslOld o off len z g cap g' a n c h1 h2 => exact one (.mslOld o off len z g cap g' a n c h1 h2) rfl rfl
 | clo f cs vs h1 h2 => exact one (.clo f cs vs h1 h2) rfl rfl
 | bnd f cs vs h1 h2 => exact one (.bnd f cs vs h1 h2) rfl rfl
 | map o b h1 h2 => exact one (.map o b h1 h2) rfl rfl
 | mapOld o g b h1 h2 => exact one (.mapOld o g b h1 h2) rfl rfl
 | yld o b h1 h2 => exact one (.yld o b h1 h2) rfl rfl
 | yldOld o g b h1 h2 => exact one (.yldOld o g b h1 h2) rfl rfl
 | iface t x v h1 => exact one (.iface t x v h1) rfl rfl
 | tup cs vs h1 h2 => exact one (.tup cs vs h1 h2) rfl rfl
end
end Go.Rv
namespace Go.Rv
section
variable {P : Program} {C : Cfg} {s : Sim} {h : Heap} {w : World}
theorem heap_alloc_lt (w : World) (o : Obj) {k : Nat} (hk : k < w.heap.size) : (w.alloc o).heap[k]? = w.heap[k]? := by
 show (w.heap.push o)[k]? = _
 simp [Array.getElem?_push, Nat.ne_of_lt hk]
theorem heap_alloc_at (w : World) (o : Obj) : (w.alloc o).heap[w.heap.size]? = some o := by
 show (w.heap.push o)[w.heap.size]? = _
 simp
theorem size_alloc (w : World) (o : Obj) : (w.alloc o).heap.size = w.heap.size + 1 := by
 show (w.heap.push o).size = _
 simp
theorem shape_of {w w' : World} {b : Nat} (h : w'.heap[b]? = w.heap[b]?) : w'.shape? b = w.shape? b := by
 unfold World.shape?; rw [h]
theorem shape_lt {w : World} {b : Nat} {x : TypeId × Nat} (h : w.shape? b = some x) : b < w.heap.size := by
 unfold World.shape? at h
 split at h
 ·rename_i c el fz hb
  exact (qAq.1 hb).1
 ·cases h
theorem Rel.old (R : Rel s h w) {o b : Nat} (hb : s.μ o = some b) : o < h.length := by
 obtain ⟨x, hx, _⟩ := R.obj o b hb
 exact (qAu.1 hx).1
def Sim.add (s : Sim) (o b : Nat) : Sim := { s with μ := fun k => if k = o then some b else s.μ k }
theorem genOf_append {x : AObj} {o g : Nat} (hg : genOf h o = some g) : genOf (h ++ [x]) o = some g := by
 unfold genOf at *
 have hlt : o < h.length := by
  rcases Nat.lt_or_ge o h.length with h1 | h1
  ·exact h1
  ·rw [qAt h1] at hg; cases hg
 rw [qAx hlt]; exact hg
theorem lenOf_append {x : AObj} {o : Nat} (ho : o < h.length) : lenOf (h ++ [x]) o = lenOf h o := by
 unfold lenOf; rw [qAx ho]
theorem isMap_append {x : AObj} {o : Nat} (hm : isMap h o = true) : isMap (h ++ [x]) o = true := by
 unfold isMap at *
 have hlt : o < h.length := by
  rcases Nat.lt_or_ge o h.length with h1 | h1
  ·exact h1
  ·rw [qAt h1] at hm; cases hm
 rw [qAx hlt]; exact hm
theorem isLoop_append {x : AObj} {o : Nat} (hm : isLoop h o = true) : isLoop (h ++ [x]) o = true := by
 unfold isLoop at *
 have hlt : o < h.length := by
  rcases Nat.lt_or_ge o h.length with h1 | h1
  ·exact h1
  ·rw [qAt h1] at hm; cases hm
 rw [qAx hlt]; exact hm
theorem genOf_lt {o g : Nat} (hg : genOf h o = some g) : o < h.length := by
 unfold genOf at hg
 rcases Nat.lt_or_ge o h.length with h1 | h1
 ·exact h1
 ·rw [qAt h1] at hg; cases hg
theorem Ext.block (s : Sim) (h : Heap) (w : World) (o : Obj) (i : Bool) :
  Ext s h w { s with I := fun b => s.I b ∨ (i = true /\ b = w.heap.size) } h (w.alloc o) where
 size := by rw [size_alloc]; omega
 far := fun b hb _ => heap_alloc_lt w o hb
 shape := fun b x hx => by rw [shape_of (heap_alloc_lt w o (shape_lt hx))]; exact hx
 imm := fun b hb => .inl hb
 gen := fun _ g hg => ⟨g, hg, qAr _⟩
 same := fun _ _ _ _ => ⟨fun _ h => h, rfl⟩
 kind := fun _ h _ => h
 own := fun o b hb => .inl ⟨o, hb⟩
 os := rfl
 tape := rfl
 output := rfl
 kindL := fun _ h => h
 good := rfl
 old := fun o b _ hb => ⟨b, hb⟩
 kept := fun _ _ _ => rfl
 immOld := fun b hb h => by
  rcases h with h | ⟨_, h⟩
  ·exact .inl h
  ·omega
theorem ORel.ext {s' : Sim} {h' : Heap} {w' : World} (hd : ∀ o b, s.μ o = some b -> ¬ s.I b) (E : Ext s h w s' h' w') {b : Nat} (hb : w'.heap[b]? = w.heap[b]?) {x : AObj} (H : ORel s h w b x) : ORel s' h' w' b x := by
 cases x with
 | iter k es =>
  obtain ⟨bm, since, seen, last, en, cl, h1, h2, h3, h4, h5⟩ := H
  refine ⟨bm, since, seen, last, en, cl, hb.trans h1, E.imm bm h2, (E.far bm (qAq.1 h3).1 (fun o ho => hd o bm ho h2)).trans h3, fun hk => ?_, fun hk => ?_⟩
  ·obtain ⟨q1, q2, q3, q4, q5, es0, hp0, q6⟩ := h4 hk
   exact ⟨q1, q2, q3, q4, q5, es0, hp0, fun i e hi => let ⟨m, hm, h6, h7⟩ := q6 i e hi; ⟨m, hm, h6.ext hd E, h7.ext hd E⟩⟩
  ·obtain ⟨q1, q2, q3, q4⟩ := h5 hk
   exact ⟨by rw [E.good]; exact q1, q2, q3, fun e he => let ⟨m, hm, h6, h7, h8⟩ := q4 e he; ⟨m, hm, h6, h7.ext hd E, h8.ext hd E⟩⟩
 | cells cs g =>
  obtain ⟨bc, el, h1, h2, h3⟩ := H
  refine ⟨bc, el, hb.trans h1, h2, fun i c hi => ?_⟩
  obtain ⟨v, hv, hr⟩ := h3 i c hi
  exact ⟨v, hv, hr.ext hd E⟩
 | map es =>
  obtain ⟨es0, hp0, en, cl, h1, h2, h3⟩ := H
  refine ⟨es0, hp0, en, cl, hb.trans h1, h2, h3.1, fun i c hi => ?_⟩
  obtain ⟨m, hm, h4, h5⟩ := h3.2 i c hi
  exact ⟨m, hm, h4.ext hd E, h5.ext hd E⟩
 | loop r =>
  obtain ⟨rec, h1, h2, h3, h4⟩ := H
  exact ⟨rec, hb.trans h1, h2, fun t => (h3 t).ext hd E, by rw [E.good]; exact h4⟩
theorem Rel.block (R : Rel s h w) (o : Obj) (i : Bool) : Rel { s with I := fun b => s.I b ∨ (i = true /\ b = w.heap.size) } h (w.alloc o) where
 inj := R.inj
 obj := fun k b hb => by
  obtain ⟨x, hx, hr⟩ := R.obj k b hb
  exact ⟨x, hx, hr.ext R.apart (Ext.block s h w o i) (heap_alloc_lt w o (R.lt hb))⟩
 apart := fun k b hb hI => by
  rcases hI with hI | ⟨_, hI⟩
  ·exact R.apart k b hb hI
  ·have := R.lt hb; omega
 imm := fun b hb => by
  rw [size_alloc]
  rcases hb with hb | ⟨_, hb⟩
  ·have := R.imm b hb; omega
  ·omega
theorem Ext.new (R : Rel s h w) (o : Obj) (x : AObj) : Ext s h w (s.add h.length w.heap.size) (h ++ [x]) (w.alloc o) where
 size := by rw [size_alloc]; omega
 far := fun b hb _ => heap_alloc_lt w o hb
 shape := fun b y hy => by rw [shape_of (heap_alloc_lt w o (shape_lt hy))]; exact hy
 imm := fun b hb => hb
 gen := fun _ g hg => ⟨g, genOf_append hg, qAr _⟩
 same := fun k g hg _ => ⟨fun b hb => by
  have := R.old hb
  simp [Sim.add, Nat.ne_of_lt this, hb], lenOf_append (genOf_lt hg)⟩
 kind := fun _ h _ => isMap_append h
 own := fun k b hb => by
  simp only [Sim.add] at hb
  split at hb
  ·injection hb with hb; exact .inr (by omega)
  ·exact .inl ⟨k, hb⟩
 os := rfl
 tape := rfl
 output := rfl
 kindL := fun _ h => isLoop_append h
 good := rfl
 old := fun k b hk hb => by
  simp only [Sim.add, Nat.ne_of_lt hk, if_false] at hb
  exact ⟨b, hb⟩
 kept := fun k hk _ => qAx hk
theorem Rel.new (R : Rel s h w) (o : Obj) (x : AObj) (hx : ORel (s.add h.length w.heap.size) (h ++ [x]) (w.alloc o) w.heap.size x) : Rel (s.add h.length w.heap.size) (h ++ [x]) (w.alloc o) where
 inj := fun k k' b hk hk' => by
  simp only [Sim.add] at hk hk'
  split at hk <;> split at hk'
  ·omega
  ·injection hk with hk; have := R.lt hk'; omega
  ·injection hk' with hk'; have := R.lt hk; omega
  ·exact R.inj k k' b hk hk'
 obj := fun k b hb => by
  by_cases e : k = h.length
  ·subst e
   simp only [Sim.add, if_true, qAf] at hb
   subst hb
   exact ⟨x, by simp, hx⟩
  ·simp only [Sim.add, e, if_false] at hb
   obtain ⟨y, hy, hr⟩ := R.obj k b hb
   exact ⟨y, by rw [qAx (R.old hb)]; exact hy, hr.ext R.apart (Ext.new R o x) (heap_alloc_lt w o (R.lt hb))⟩
 apart := fun k b hb hI => by
  simp only [Sim.add] at hb hI
  split at hb
  ·injection hb with hb; have := R.imm b hI; omega
  ·exact R.apart k b hb hI
 imm := fun b hb => by have := R.imm b hb; rw [size_alloc]; omega
theorem new_cells (R : Rel s h w) {cs : List AV} {vs : Array Value} (el : TypeId) (hl : cs.length <= vs.size) (hc : ∀ (i : Nat) c, cs[i]? = some c -> ∃ v, vs[i]? = some v /\ VR s h w c v) :
  Ext s h w (s.add h.length w.heap.size) (h ++ [.cells cs 0]) (w.alloc (.cells vs el)) /\ Rel (s.add h.length w.heap.size) (h ++ [.cells cs 0]) (w.alloc (.cells vs el)) :=
 ⟨Ext.new R _ _, Rel.new R _ _ ⟨vs, el, heap_alloc_at w _, hl, fun i c hi => by
  obtain ⟨v, hv, hr⟩ := hc i c hi
  exact ⟨v, hv, hr.ext R.apart (Ext.new R _ _)⟩⟩⟩
theorem genOf_new {x : AObj} : genOf (h ++ [x]) h.length = match x with | .cells _ g => some g | .map _ => some 0 | .loop _ => some 0 | .iter _ _ => some 0 := by
 unfold genOf
 rw [qAy (qAr _)]
 cases x <;> simp
theorem lenOf_new {cs : List AV} {g : Nat} : lenOf (h ++ [.cells cs g]) h.length = cs.length := by
 unfold lenOf
 rw [qAy (qAr _)]
 simp
theorem Ext.draw (s : Sim) (h : Heap) (w : World) (n : Nat) : Ext s h w s h { w with drawn := n } :=
 ⟨⟨qAr _, fun _ _ _ => rfl, fun _ _ h => h, fun _ h => h, fun _ g hg => ⟨g, hg, qAr _⟩, fun _ _ _ _ => ⟨fun _ h => h, rfl⟩, fun _ h _ => h, fun o b hb => .inl ⟨o, hb⟩, rfl, rfl, rfl, fun _ h => h, rfl⟩, fun o b _ hb => ⟨b, hb⟩, fun _ _ _ => rfl, fun _ _ h => .inl h⟩
theorem Rel.draw (R : Rel s h w) (n : Nat) : Rel s h { w with drawn := n } :=
 ⟨R.inj, fun o b hb => by
  obtain ⟨x, hx, hr⟩ := R.obj o b hb
  exact ⟨x, hx, hr.ext R.apart (Ext.draw s h w n) rfl⟩, R.apart, R.imm⟩
theorem genOf_set {o o' g : Nat} {x : AObj} : genOf (h.set o x) o' = if o = o' /\ o < h.length then (match x with | .cells _ g => some g | .map _ => some 0 | .loop _ => some 0 | .iter _ _ => some 0) else genOf h o' := by
 unfold genOf
 rw [List.getElem?_set]
 by_cases e : o = o'
 ·subst e
  by_cases hl : o < h.length
  ·simp only [hl, if_true, and_self]; cases x <;> rfl
  ·simp only [hl, if_true, if_false, and_false]
   rw [qAt (by omega)]
 ·simp [e]
theorem lenOf_set {o o' : Nat} {x : AObj} (e : o ≠ o') : lenOf (h.set o x) o' = lenOf h o' := by
 unfold lenOf; rw [qAw e]
theorem isMap_set {o o' : Nat} {x : AObj} (e : o ≠ o') : isMap (h.set o x) o' = isMap h o' := by
 unfold isMap; rw [qAw e]
theorem isLoop_set {o o' : Nat} {x : AObj} (e : o ≠ o') : isLoop (h.set o x) o' = isLoop h o' := by
 unfold isLoop; rw [qAw e]
structure Wrote (w w' : World) (b : Nat) : Prop where
 size : w.heap.size <= w'.heap.size
 far : ∀ k, k < w.heap.size -> k ≠ b -> w'.heap[k]? = w.heap[k]?
 shape : ∀ k x, w.shape? k = some x -> w'.shape? k = some x
 os : w'.os = w.os
 tape : w'.tape = w.tape
 output : w'.output = w.output
theorem Ext.write (R : Rel s h w) {o b b' g g' : Nat} {cs cs' : List AV} {w' : World} (hb : s.μ o = some b) (ho : h[o]? = some (.cells cs g)) (hg : g <= g') (hlen : g' = g -> cs'.length = cs.length)
  (hb' : b' = b ∨ (g < g' /\ w.heap.size <= b')) (W : Wrote w w' b) : Ext s h w (s.add o b') (h.set o (.cells cs' g')) w' where
 size := W.size
 far := fun k hk hn => W.far k hk (fun e => hn o (e ▸ hb))
 shape := W.shape
 imm := fun b hb => hb
 gen := fun k g0 hg0 => by
  have hlt := (qAu.1 ho).1
  rw [genOf_set (g := g)]
  by_cases e : o = k
  ·subst e
   have : g0 = g := by simp [genOf, ho] at hg0; omega
   subst this
   exact ⟨g', by simp [hlt], hg⟩
  ·exact ⟨g0, by simp [e, hg0], qAr _⟩
 same := fun k g0 hg0 hg1 => by
  have hlt := (qAu.1 ho).1
  by_cases e : o = k
  ·subst e
   have h0 : g0 = g := by simp [genOf, ho] at hg0; omega
   subst h0
   rw [genOf_set (g := g0)] at hg1
   simp only [hlt, and_self, if_true, qAf] at hg1
   subst hg1
   refine ⟨fun c hc => ?_, ?_⟩
   ·rw [hb] at hc; injection hc with hc; subst hc
    rcases hb' with h1 | ⟨h1, _⟩
    ·simp [Sim.add, h1]
    ·omega
   ·unfold lenOf
    rw [ho, qAz hlt]
    exact hlen rfl
  ·refine ⟨fun c hc => by simp [Sim.add, Ne.symm e, hc], lenOf_set e⟩
 kind := fun k hk _ => by
  by_cases e : o = k
  ·subst e; simp [isMap, ho] at hk
  ·rw [isMap_set e]; exact hk
 own := fun k c hc => by
  simp only [Sim.add] at hc
  split at hc
  ·injection hc with hc; subst hc
   rcases hb' with h1 | ⟨_, h1⟩
   ·exact .inl ⟨o, h1 ▸ hb⟩
   ·exact .inr h1
  ·exact .inl ⟨k, hc⟩
 os := W.os
 tape := W.tape
 output := W.output
 kindL := fun k hk => by
  by_cases e : o = k
  ·subst e; simp [isLoop, ho] at hk
  ·rw [isLoop_set e]; exact hk
 good := rfl
 old := fun k c _ hc => by
  simp only [Sim.add] at hc
  split at hc
  ·rename_i e; subst e; exact ⟨b, hb⟩
  ·exact ⟨c, hc⟩
 kept := fun k _ hn => by
  have : o ≠ k := by rintro rfl; rw [hb] at hn; cases hn
  exact qAw this
theorem write_cells (R : Rel s h w) {o b b' g g' : Nat} {cs cs' : List AV} {w' : World} {bc' : Array Value} {el : TypeId} (hb : s.μ o = some b) (ho : h[o]? = some (.cells cs g)) (hg : g <= g') (hlen : g' = g -> cs'.length = cs.length)
  (hb' : b' = b ∨ (g < g' /\ w.heap.size <= b')) (W : Wrote w w' b) (hheap : w'.heap[b']? = some (.cells bc' el (0, 0))) (hsz : cs'.length <= bc'.size)
  (hc : ∀ (i : Nat) c, cs'[i]? = some c -> ∃ v, bc'[i]? = some v /\ VR s h w c v) :
  Ext s h w (s.add o b') (h.set o (.cells cs' g')) w' /\ Rel (s.add o b') (h.set o (.cells cs' g')) w' := by
 have E := Ext.write R hb ho hg hlen hb' W
 have hlt := (qAu.1 ho).1
 refine ⟨E, ?_⟩
 refine ⟨fun k k' c hk hk' => ?_, fun k c hk => ?_, fun k c hk hI => ?_, fun c hI => ?_⟩
 ·simp only [Sim.add] at hk hk'
  split at hk <;> split at hk'
  ·omega
  ·injection hk with hk
   subst hk
   rcases hb' with h1 | ⟨_, h1⟩
   ·subst h1; have := R.inj _ _ _ hk' hb; omega
   ·have := R.lt hk'; omega
  ·injection hk' with hk'
   subst hk'
   rcases hb' with h1 | ⟨_, h1⟩
   ·subst h1; have := R.inj _ _ _ hk hb; omega
   ·have := R.lt hk; omega
  ·exact R.inj k k' c hk hk'
 ·by_cases e : k = o
  ·subst e
   simp only [Sim.add, if_true, qAf] at hk
   subst hk
   refine ⟨.cells cs' g', by rw [qAz hlt], bc', el, hheap, hsz, fun i x hi => ?_⟩
   obtain ⟨v, hv, hr⟩ := hc i x hi
   exact ⟨v, hv, hr.ext R.apart E⟩
  ·simp only [Sim.add, e, if_false] at hk
   obtain ⟨x, hx, hr⟩ := R.obj k c hk
   have hne : c ≠ b := fun e' => e (R.inj k o c hk (e' ▸ hb))
   exact ⟨x, by rw [qAw (Ne.symm e)]; exact hx, hr.ext R.apart E (W.far c (R.lt hk) hne)⟩
 ·simp only [Sim.add] at hk hI
  split at hk
  ·injection hk with hk; subst hk
   rcases hb' with h1 | ⟨_, h1⟩
   ·subst h1; exact R.apart o b' hb hI
   ·have := R.imm _ hI; omega
  ·exact R.apart k c hk hI
 ·exact Nat.lt_of_lt_of_le (R.imm c hI) W.size
theorem Wrote.row {b : Nat} {bc : Array Value} {el : TypeId} (hb : w.heap[b]? = some (.cells bc el (0, 0))) (bc' : Array Value) (hs : bc'.size = bc.size) : Wrote w (w.setRow b bc') b := by
 have hsz : (w.setRow b bc').heap.size = w.heap.size := by simp [World.setRow]
 have hfar : ∀ k, k ≠ b -> (w.setRow b bc').heap[k]? = w.heap[k]? := fun k hk => by
  simp only [World.setRow]
  rw [Array.getElem?_modify]
  simp [Ne.symm hk]
 refine ⟨by omega, fun k _ hk => hfar k hk, fun k x hx => ?_, rfl, rfl, rfl⟩
 by_cases e : k = b
 ·subst e
  unfold World.shape? at *
  rw [setRow_heap w k bc bc' el (0, 0) hb]
  rw [hb] at hx
  simpa [hs] using hx
 ·rw [shape_of (hfar k e)]; exact hx
theorem store_cells (R : Rel s h w) {o b g off : Nat} {cs xs : List AV} (hb : s.μ o = some b) (ho : h.obj o g = some cs) (hl : off + xs.length <= cs.length) {vs : List Value} (hv : VRs s h w xs vs) (h1 : ∀ v ∈ vs, v.oneCell' = true) (i : Nat) :
  ∃ w', (∀ k, off = k + i -> (storeCells ⟨b, k, none⟩ vs i).run P w = .ok () w') /\ Ext s h w s (h.set o (.cells (setCells cs off xs) g)) w' /\ Rel s (h.set o (.cells (setCells cs off xs) g)) w' := by
 obtain ⟨x, hx, hr⟩ := R.obj o b hb
 have hobj := (genOf_obj ho).2.1
 rw [hobj] at hx
 injection hx with hx; subst hx
 obtain ⟨bc, el, hheap, hsz, hcell⟩ := hr
 have hvl := hv.1
 have hs : s.add o b = s := by
  unfold Sim.add
  cases s with
  | mk μ I G =>
   congr 1
   funext k
   by_cases e : k = o
   ·subst e; simp [show μ k = some b from hb]
   ·simp [e]
 have key := write_cells R (b' := b) (g' := g) (cs' := setCells cs off xs) (w' := w.setRow b (bc.toList.take off ++ vs ++ bc.toList.drop (off + vs.length)).toArray) (bc' := (bc.toList.take off ++ vs ++ bc.toList.drop (off + vs.length)).toArray) (el := el) hb hobj (qAr _) (fun _ => setCells_length _ _ _) (.inl rfl)
  (Wrote.row hheap _ (by simp; omega)) (setRow_heap w b bc _ el (0, 0) hheap) (by rw [setCells_length]; simp; omega) (fun j c hj => by
   rw [setCells_get xs cs off j hl] at hj
   simp only [List.getElem?_toArray]
   split at hj
   ·rename_i hin
    obtain ⟨v, hv1, hv2⟩ := hv.2 _ c hj
    refine ⟨v, ?_, hv2⟩
    rw [List.append_assoc, qAy (by simp; omega), qAx (by simp; omega)]
    simp only [List.length_take, Array.length_toList, Nat.min_eq_left (show off <= bc.size by omega)]
    exact hv1
   ·rename_i hout
    obtain ⟨v, hv1, hv2⟩ := hcell j c hj
    refine ⟨v, ?_, hv2⟩
    have hjl : j < cs.length := (qAu.1 hj).1
    by_cases hlo : j < off
    ·rw [List.append_assoc, qAx (by simp; omega), qBa hlo]
     simpa using hv1
    ·rw [qAy (by simp; omega), List.getElem?_drop]
     simp only [qBb, List.length_take, Array.length_toList, Nat.min_eq_left (show off <= bc.size by omega)]
     rw [show off + vs.length + (j - (off + vs.length)) = j from by omega]
     simpa using hv1)
 rw [hs] at key
 refine ⟨_, fun k hk => ?_, key.1, key.2⟩
 subst hk
 have := run_storeCells_at (P := P) b k el vs i bc w hheap (by omega) h1
 rw [this]
end
end Go.Rv
namespace Go.Rv
section
variable {P : Program} {C : Cfg} {s : Sim} {h : Heap} {w : World}
def PRun (P : Program) (s : Sim) (h : Heap) (w : World) (m : Sem Value) (v : AV) : Prop := ∃ x, m.run P w = .ok x w /\ VR s h w v x
def HRun (P : Program) (s : Sim) (h : Heap) (w : World) (m : Sem Value) (v : AV) (h' : Heap) : Prop :=
 ∃ s' w' x, m.run P w = .ok x w' /\ Ext s h w s' h' w' /\ Rel s' h' w' /\ VR s' h' w' v x
theorem PRun.heap (R : Rel s h w) {m : Sem Value} {v : AV} (H : PRun P s h w m v) : HRun P s h w m v h := by
 obtain ⟨x, h1, h2⟩ := H
 exact ⟨s, w, x, h1, Ext.refl _ _ _, R, h2⟩
def scalarB : Option TypeDesc -> AV -> Bool
 | some .bool, .bool _ => true
 | some (.int _), .int _ _ => true
 | some .string, .str _ => true
 | _, _ => false
def flatFs (P : Program) : Nat -> List Field -> List AV -> Bool
 | _, [], [] => true
 | i, f :: r, c :: cs => (f.name != "_") && Nat.beq f.offset i && scalarB (P.underlying f.type) c && flatFs P (i + 1) r cs
 | _, _, _ => false
def flatKey (P : Program) (t : Nat) (cs : List AV) : Bool :=
 match P.underlying t with
 | some (.struct fs) => !P.stoodInHeld t && flatFs P 0 fs.toList cs
 | _ => false
structure TabOk (P : Program) (C : Cfg) : Prop where
 tab : ∀ t ti, C.ty t = some ti -> TyOk P t ti
 flat : ∀ t cs, C.flat t cs = true -> flatKey P t cs = true
 guard : ∀ t cs, C.flat t cs = true -> P.eqGuardType P.depth t = false
instance : CoeFun (TabOk P C) (fun _ => ∀ t ti, C.ty t = some ti -> TyOk P t ti) := ⟨TabOk.tab⟩
theorem bin_int {op : BinOp} {t : TypeId} {x y : Operand} {k : IntKind} {a b : Int} {v : AV} (hv : arithA op k a b = some v) :
  PRun P s h w (do eqGuard op t x y (.int k a) (.int k b); binOp op t (.int k a) (.int k b)) v := by
 have hg : (eqGuard op t x y (.int k a) (.int k b)).run P w = .ok () w := by
  unfold eqGuard
  cases op <;> rfl
 unfold PRun
 simp only [Sem.run_bind, hg, Result.andThen_ok]
 cases op <;> simp only [arithA, reduceCtorEq, qAf] at hv
 case add => subst hv; exact ⟨_, by simp [binOp, Op.intArith], .int _ _⟩
 case sub => subst hv; exact ⟨_, by simp [binOp, Op.intArith], .int _ _⟩
 case mul => subst hv; exact ⟨_, by simp [binOp, Op.intArith], .int _ _⟩
 case quo =>
  split at hv
  ·cases hv
  ·rename_i hb
   have hb' : ¬ b = 0 := by simpa using hb
   injection hv with hv; subst hv
   exact ⟨_, by simp [binOp, Op.intDiv, hb'], .int _ _⟩
 case rem =>
  split at hv
  ·cases hv
  ·rename_i hb
   have hb' : ¬ b = 0 := by simpa using hb
   injection hv with hv; subst hv
   exact ⟨_, by simp [binOp, Op.intDiv, hb'], .int _ _⟩
 case eql => subst hv; exact ⟨_, by simp [binOp, Op.intCmp], .bool _⟩
 case neq => subst hv; exact ⟨_, by simp [binOp, Op.intCmp], .bool _⟩
 case lss => subst hv; exact ⟨_, by simp [binOp, Op.intCmp], .bool _⟩
 case leq => subst hv; exact ⟨_, by simp [binOp, Op.intCmp], .bool _⟩
 case gtr => subst hv; exact ⟨_, by simp [binOp, Op.intCmp], .bool _⟩
 case geq => subst hv; exact ⟨_, by simp [binOp, Op.intCmp], .bool _⟩
 case and => subst hv; exact ⟨_, by simp [binOp, Op.intBits], .int _ _⟩
 case or => subst hv; exact ⟨_, by simp [binOp, Op.intBits], .int _ _⟩
 case xor => subst hv; exact ⟨_, by simp [binOp, Op.intBits], .int _ _⟩
 case shl =>
  split at hv
  ·cases hv
  ·rename_i hb
   injection hv with hv; subst hv
   exact ⟨.int k (k.wrap (a * 2 ^ Nat.min b.toNat k.bits)), by simp only [binOp, Op.shift, if_neg hb]; rfl, .int _ _⟩
 case shr =>
  split at hv
  ·cases hv
  ·rename_i hb
   injection hv with hv; subst hv
   exact ⟨.int k (a.fdiv (2 ^ Nat.min b.toNat k.bits)), by simp only [binOp, Op.shift, if_neg hb]; rfl, .int _ _⟩
theorem bytes_append (a b : List UInt8) : (⟨a.toArray⟩ : ByteArray) ++ ⟨b.toArray⟩ = ⟨(a ++ b).toArray⟩ := by
 apply ByteArray.ext
 simp
theorem bin_str {op : BinOp} {t : TypeId} {x y : Operand} {a b : List UInt8} {v : AV} (hv : binA C h op t (.str a) (.str b) = some v) :
  PRun P s h w (do eqGuard op t x y (.string ⟨a.toArray⟩) (.string ⟨b.toArray⟩); binOp op t (.string ⟨a.toArray⟩) (.string ⟨b.toArray⟩)) v := by
 have hg : (eqGuard op t x y (.string ⟨a.toArray⟩) (.string ⟨b.toArray⟩)).run P w = .ok () w := by
  unfold eqGuard
  cases op <;> rfl
 have e1 : (⟨a.toArray⟩ : ByteArray).toList = a := by rw [Lib.toList_data]
 have e2 : (⟨b.toArray⟩ : ByteArray).toList = b := by rw [Lib.toList_data]
 unfold PRun
 simp only [Sem.run_bind, hg, Result.andThen_ok]
 cases op <;> simp only [binA, reduceCtorEq, qAf] at hv
 case add =>
  split at hv
  ·rename_i hl
   injection hv with hv; subst hv
   have hsz : ¬ (((⟨a.toArray⟩ : ByteArray).size + (⟨b.toArray⟩ : ByteArray).size : Nat) : Int) > IntKind.i64.max := by
    have : IntKind.i64.max = 9223372036854775807 := by decide
    rw [this]
    simp only [ByteArray.size, List.size_toArray]
    simp only [mostLen] at hl
    omega
   refine ⟨.string ((⟨a.toArray⟩ : ByteArray) ++ ⟨b.toArray⟩), by simp only [binOp, Op.stringOp, hsz, if_false, Sem.run_pure], ?_⟩
   rw [bytes_append]
   exact .str _
  ·cases hv
 all_goals (subst hv; exact ⟨_, by simp only [binOp, Op.stringOp, e1, e2, Sem.run_pure], .bool _⟩)
theorem guard_plain {op : BinOp} {t : TypeId} {x y : Operand} {u v : Value} (h1 : u ≠ .nilIface ∨ v ≠ .nilIface) (h2 : ∀ c, u ≠ .agg c) (w : World) : (eqGuard op t x y u v).run P w = .ok () w := by
 have key : ∀ m : Sem Unit, ∀ m' : Sem Unit, (match u, v with | .nilIface, .nilIface => m | .agg _, .agg _ => m' | _, _ => (pure () : Sem Unit)) = pure () := by
  intro m m'
  split
  ·rcases h1 with h1 | h1 <;> exact absurd rfl h1
  ·rename_i c _; exact absurd rfl (h2 c)
  ·rfl
 cases op <;> first | rfl | skip
 all_goals
  simp only [eqGuard, Bool.not_true, qAb, if_false]
  exact (congrArg (fun m : Sem Unit => m.run P w) (key _ _)).trans rfl
theorem equal_in {t : Nat} {ti : TI} (T : TyOk P t ti) {x y : AV} {u v : Value} {b : Bool} (hx : VR s h w x u) (hy : VR s h w y v) (hb : eqA h ti.td x y = some b) :
    (∀ n, (Op.equalIn (n + 1) t u v).run P w = .ok b w) /\ (u ≠ .nilIface ∨ v ≠ .nilIface) /\ (∀ c, u ≠ .agg c) /\ (∀ k a, u ≠ .int k a) /\ (∀ c, u ≠ .string c) /\ (∀ k a, u ≠ .float k a) /\ (∀ k a c, u ≠ .complex k a c) := by
  obtain ⟨d, hd, hok⟩ := T.und
  have live : ∀ {o off g : Nat} {u : Value}, VR s h w (.ptr o off g) u -> h.live o g = true -> ∃ a, u = .pointer (some a) := by
    intro o off g u hu hl
    have hg := genOf_live hl
    cases hu with
    | ptr _ _ _ b h1 h2 => exact ⟨_, rfl⟩
    | ptrOld _ _ _ g' a h1 h2 => rw [hg] at h1; injection h1; omega
  have liveS : ∀ {o off len sz g : Nat} {cap : Option Nat} {u : Value}, VR s h w (.msl o off len sz g cap) u -> h.live o g = true -> ∃ a n c, u = .slice (some a) n c := by
    intro o off len sz g cap u hu hl
    have hg := genOf_live hl
    cases hu with
    | msl _ _ _ _ _ _ b c el n off' h1 => exact ⟨_, _, _, rfl⟩
    | mslOld _ _ _ _ _ _ g' a n c h1 h2 => rw [hg] at h1; injection h1; omega
  have lstv : ∀ {xs : List AV} {z : Nat} {r : Room} {u : Value}, VR s h w (.lst xs z r) u -> ∃ a n c, u = .slice a n c /\ (a.isNone = (r == .nil)) := by
    intro xs z r u hu
    cases hu with
    | lstNil => exact ⟨_, _, _, rfl, rfl⟩
    | lstEmpty => exact ⟨_, _, _, rfl, rfl⟩
    | lst _ _ _ b off c f h1 h2 => exact ⟨_, _, _, rfl, by cases r <;> first | exact h2.elim | rfl⟩
  have nilv : ∀ {xs : List AV} {z : Nat} {u : Value}, VR s h w (.lst xs z .nil) u -> u = .slice none 0 0 := by
    intro xs z u hu
    cases hu with
    | lstNil => rfl
    | lst _ _ _ b off c f h1 h2 => exact h2.elim
  generalize ti.td = td at hok hb
  unfold eqA at hb
  simp only [Op.equalIn, Sem.run_bind, run_und hd, Result.andThen_ok]
  split at hb
  · cases hx <;> cases hy <;>
    (cases d <;> simp only [TD.ok] at hok
     injection hb with hb; subst hb
     exact ⟨fun _ => rfl, by simp, by simp, by simp, by simp, by simp, by simp⟩)
  · cases hx <;> cases hy <;>
    (cases d <;> simp only [TD.ok] at hok
     injection hb with hb; subst hb
     exact ⟨fun _ => rfl, by simp, by simp, by simp, by simp, by simp, by simp⟩)
  · cases hx <;> cases hy <;>
    (cases d <;> simp only [TD.ok] at hok
     injection hb with hb; subst hb
     exact ⟨fun _ => rfl, by simp, by simp, by simp, by simp, by simp, by simp⟩)
  · cases hx <;> cases hy <;>
    (cases d <;> simp only [TD.ok] at hok
     injection hb with hb; subst hb
     exact ⟨fun _ => rfl, by simp, by simp, by simp, by simp, by simp, by simp⟩)
  · split at hb
    · rename_i hl
      cases hx
      obtain ⟨a, rfl⟩ := live hy hl
      cases d <;> simp only [TD.ok] at hok
      injection hb with hb; subst hb
      exact ⟨fun _ => rfl, by simp, by simp, by simp, by simp, by simp, by simp⟩
    · cases hb
  · split at hb
    · rename_i hl
      cases hy
      obtain ⟨a, rfl⟩ := live hx hl
      cases d <;> simp only [TD.ok] at hok
      injection hb with hb; subst hb
      exact ⟨fun _ => rfl, by simp, by simp, by simp, by simp, by simp, by simp⟩
    · cases hb
  · obtain ⟨a, n, c, rfl, ha⟩ := lstv hx
    obtain rfl := nilv hy
    cases d <;> simp only [TD.ok] at hok
    injection hb with hb; subst hb
    cases a with
    | none => exact ⟨fun _ => by rw [← ha]; rfl, by simp, by simp, by simp, by simp, by simp, by simp⟩
    | some a => exact ⟨fun _ => by rw [← ha]; rfl, by simp, by simp, by simp, by simp, by simp, by simp⟩
  · obtain ⟨a, n, c, rfl, ha⟩ := lstv hy
    obtain rfl := nilv hx
    cases d <;> simp only [TD.ok] at hok
    injection hb with hb; subst hb
    exact ⟨fun _ => by rw [← ha]; rfl, by simp, by simp, by simp, by simp, by simp, by simp⟩
  · split at hb
    · rename_i hl
      obtain ⟨a, n, c, rfl⟩ := liveS hx hl
      obtain rfl := nilv hy
      cases d <;> simp only [TD.ok] at hok
      injection hb with hb; subst hb
      exact ⟨fun _ => rfl, by simp, by simp, by simp, by simp, by simp, by simp⟩
    · cases hb
  · split at hb
    · rename_i hl
      obtain ⟨a, n, c, rfl⟩ := liveS hy hl
      obtain rfl := nilv hx
      cases d <;> simp only [TD.ok] at hok
      injection hb with hb; subst hb
      exact ⟨fun _ => rfl, by simp, by simp, by simp, by simp, by simp, by simp⟩
    · cases hb
  · cases hx <;> cases hy <;>
    (cases d <;> simp only [TD.ok] at hok
     injection hb with hb; subst hb
     exact ⟨fun _ => rfl, by simp, by simp, by simp, by simp, by simp, by simp⟩)
  · cases hx <;> cases hy <;>
    (cases d <;> simp only [TD.ok] at hok
     injection hb with hb; subst hb
     exact ⟨fun _ => rfl, by simp, by simp, by simp, by simp, by simp, by simp⟩)
  · cases hx <;> cases hy <;>
    (cases d <;> simp only [TD.ok] at hok
     injection hb with hb; subst hb
     exact ⟨fun _ => rfl, by simp, by simp, by simp, by simp, by simp, by simp⟩)
  · cases hx <;> cases hy <;>
    (cases d <;> simp only [TD.ok] at hok
     injection hb with hb; subst hb
     exact ⟨fun _ => rfl, by simp, by simp, by simp, by simp, by simp, by simp⟩)
  · cases hx <;> cases hy <;>
    (cases d <;> simp only [TD.ok] at hok
     injection hb with hb; subst hb
     exact ⟨fun _ => rfl, by simp, by simp, by simp, by simp, by simp, by simp⟩)
  · cases hx <;> cases hy <;>
    (cases d <;> simp only [TD.ok] at hok
     injection hb with hb; subst hb
     exact ⟨fun _ => rfl, by simp, by simp, by simp, by simp, by simp, by simp⟩)
  · cases hb
theorem equal_any {t : Nat} {ti : TI} (T : TyOk P t ti) {x y : AV} {u v : Value} {b : Bool} (hx : VR s h w x u) (hy : VR s h w y v) (hb : eqA h ti.td x y = some b) :
  (Op.equal t u v).run P w = .ok b w /\ (u ≠ .nilIface ∨ v ≠ .nilIface) /\ (∀ c, u ≠ .agg c) /\ (∀ k a, u ≠ .int k a) /\ (∀ c, u ≠ .string c) /\ (∀ k a, u ≠ .float k a) /\ (∀ k a c, u ≠ .complex k a c) := by
 have := equal_in T hx hy hb
 exact ⟨this.1 9999, this.2⟩
def AggEq (P : Program) (C : Cfg) (s : Sim) (h : Heap) (w : World) : Prop := ∀ {t : Nat} {cs ds : List AV} {u v : Value} {p : Bool}, C.flat t cs = true -> VR s h w (.agg cs) u -> VR s h w (.agg ds) v -> sameKeys cs ds = some p -> (Op.equal t u v).run P w = .ok p w
theorem eqC_cases {t : Nat} {td : TD} {a b : AV} {r : Bool} (hr : eqC C h t td a b = some r) : eqA h td a b = some r ∨ ∃ cs ds, a = .agg cs /\ b = .agg ds /\ C.flat t cs = true /\ sameKeys cs ds = some r := by
 unfold eqC at hr
 split at hr
 ·split at hr
  ·exact .inr ⟨_, _, rfl, rfl, by assumption, hr⟩
  ·cases hr
 ·exact .inl hr
theorem bin_rel (TT : TabOk P C) (hAgg : AggEq P C s h w) {op : BinOp} {t : Nat} {x y : Operand} {a b v : AV} {u u' : Value} (ha : VR s h w a u) (hb : VR s h w b u') (hv : binA C h op t a b = some v) :
  PRun P s h w (do eqGuard op t x y u u'; binOp op t u u') v := by
 unfold binA at hv
 split at hv
 ·cases ha; cases hb
  split at hv
  ·rename_i k a k' b hk
   have : k = k' := by simpa using hk
   subst this
   exact bin_int hv
  ·cases hv
 ·cases ha; cases hb
  exact bin_str (C := C) (h := h) (by unfold binA; exact hv)
 ·simp only [qAd] at hv
  replace hv := qAc.1 hv
  obtain ⟨ti, hti, hv⟩ := hv
  split at hv
  ·obtain ⟨r, hr, rfl⟩ := qAl.1 hv
   rcases eqC_cases hr with hr | ⟨cs, ds, rfl, rfl, hfl, hk⟩
   rotate_left
   ·have he := hAgg hfl ha hb hk
    refine ⟨.bool r, ?_, .bool r⟩
    obtain ⟨xs, rfl⟩ : ∃ xs, u = .agg xs := by cases ha; exact ⟨_, rfl⟩
    obtain ⟨ys, rfl⟩ : ∃ ys, u' = .agg ys := by cases hb; exact ⟨_, rfl⟩
    have : binOp .eql t (.agg xs) (.agg ys) = (do pure (.bool (← Op.equal t (.agg xs) (.agg ys)))) := rfl
    simp only [Sem.run_bind, run_eqGuard_agg (P := P) _ _ _ _ _ _ _ (TT.guard t cs hfl), Result.andThen_ok, this, he, Sem.run_pure]
   obtain ⟨h1, h2, h3, h4, h5, h6, h7⟩ := equal_any (TT t ti hti) ha hb hr
   refine ⟨.bool r, ?_, .bool r⟩
   simp only [Sem.run_bind, guard_plain h2 h3, Result.andThen_ok]
   have : binOp .eql t u u' = (do pure (.bool (← Op.equal t u u'))) := by
    cases u <;> cases u' <;> first | rfl | exact absurd rfl (h4 _ _) | exact absurd rfl (h5 _) | exact absurd rfl (h6 _ _) | exact absurd rfl (h7 _ _ _)
   rw [this]
   simp [h1]
  ·obtain ⟨r, hr, rfl⟩ := qAl.1 hv
   rcases eqC_cases hr with hr | ⟨cs, ds, rfl, rfl, hfl, hk⟩
   rotate_left
   ·have he := hAgg hfl ha hb hk
    refine ⟨.bool (!r), ?_, .bool (!r)⟩
    obtain ⟨xs, rfl⟩ : ∃ xs, u = .agg xs := by cases ha; exact ⟨_, rfl⟩
    obtain ⟨ys, rfl⟩ : ∃ ys, u' = .agg ys := by cases hb; exact ⟨_, rfl⟩
    have : binOp .neq t (.agg xs) (.agg ys) = (do pure (.bool (!(← Op.equal t (.agg xs) (.agg ys))))) := rfl
    simp only [Sem.run_bind, run_eqGuard_agg (P := P) _ _ _ _ _ _ _ (TT.guard t cs hfl), Result.andThen_ok, this, he, Sem.run_pure]
   obtain ⟨h1, h2, h3, h4, h5, h6, h7⟩ := equal_any (TT t ti hti) ha hb hr
   refine ⟨.bool (!r), ?_, .bool (!r)⟩
   simp only [Sem.run_bind, guard_plain h2 h3, Result.andThen_ok]
   have : binOp .neq t u u' = (do pure (.bool (!(← Op.equal t u u')))) := by
    cases u <;> cases u' <;> first | rfl | exact absurd rfl (h4 _ _) | exact absurd rfl (h5 _) | exact absurd rfl (h6 _ _) | exact absurd rfl (h7 _ _ _)
   rw [this]
   simp [h1]
  ·cases hv
theorem un_rel {op : UnOp} {a v : AV} {u : Value} (ha : VR s h w a u) (hv : unA op a = some v) : PRun P s h w (Op.unary op u) v := by
 cases a <;> simp only [unA, reduceCtorEq] at hv
 case bool b =>
  cases ha
  cases op <;> simp at hv
  subst hv
  exact ⟨_, rfl, .bool _⟩
 case int k n =>
  cases ha
  cases op <;> simp at hv
  subst hv
  rw [show -n = 0 - n by omega]
  exact ⟨_, rfl, .int _ _⟩
theorem conv_rel (TT : TabOk P C) {src dst : Nat} (hsrc : ∃ d, P.underlying src = some d) {a v : AV} {u : Value} (ha : VR s h w a u) (hv : convA C dst a = some v) : PRun P s h w (convert src dst u) v := by
 obtain ⟨ds, hds⟩ := hsrc
 unfold convA at hv
 simp only [qAd] at hv
 replace hv := qAc.1 hv
 obtain ⟨ti, hti, hv⟩ := hv
 obtain ⟨d, hd, hok⟩ := (TT dst ti hti).und
 generalize ti.td = td at hok hv
 split at hv
 ·cases ha
  injection hv with hv; subst hv
  cases d <;> simp only [TD.ok] at hok
  subst hok
  refine ⟨_, ?_, .int _ _⟩
  simp only [convert, Sem.run_bind, run_und hd, run_und hds, Result.andThen_ok]
  rfl
 ·cases ha
  injection hv with hv; subst hv
  cases d <;> simp only [TD.ok] at hok
  refine ⟨_, ?_, .str _⟩
  simp only [convert, Sem.run_bind, run_und hd, run_und hds, Result.andThen_ok]
  rfl
 ·cases hv
theorem fieldAddr_rel (TT : TabOk P C) {t k : Nat} {a v : AV} {u : Value} (ha : VR s h w a u) (hv : fieldAddrA C h t a k = some v) : PRun P s h w (Instr.fieldAt t u k) v := by
 unfold fieldAddrA at hv
 simp only [qAd] at hv
 replace hv := qAc.1 hv
 obtain ⟨ti, hti, hv⟩ := hv
 obtain ⟨d, hd, hok⟩ := (TT t ti hti).und
 generalize ti.td = td at hok hv
 split at hv
 ·rename_i fs
  replace hv := qAc.1 hv
  obtain ⟨⟨ft, off⟩, hf, hv⟩ := hv
  replace hv := qAc.1 hv
  obtain ⟨tf, htf, hv⟩ := hv
  cases d with
  | struct l =>
   simp only [TD.ok] at hok
   have hfl : ∃ fld, l[k]? = some fld /\ fld.type = ft /\ fld.offset = off := by
    rw [← hok] at hf
    simp only [qBc, qAl, qAg] at hf
    obtain ⟨fld, h1, h2, h3⟩ := hf
    exact ⟨fld, by simpa using h1, h2, h3⟩
   obtain ⟨fld, hfld, rfl, rfl⟩ := hfl
   split at hv
   ·cases hv
   ·rename_i hz
    have hz' : ¬ tf.size = 0 := by simpa using hz
    have run : ∀ b off', (Instr.fieldAt t (.pointer (some ⟨b, off', none⟩)) k).run P w = .ok (.pointer (some ⟨b, off' + fld.offset, none⟩)) w := by
     intro b off'
     simp only [Instr.fieldAt, Sem.run_bind, run_und hd, Result.andThen_ok, hfld, Instr.sureAddr, Sem.run_pure, fieldPlace, run_sizeA (TT _ _ htf), hz', if_false, addr_add]
    split at hv
    ·injection hv with hv; subst hv
     cases ha with
     | ref cs b off' f hI hc hr =>
      refine ⟨_, run b off', .ref _ b _ (fun i => f (fld.offset + i)) (fun h0 => hI (by simp at h0; omega)) (fun i c hi => ?_) (fun i c hi => ?_)⟩
      ·rw [Nat.add_assoc]; exact hc _ c (by simpa using hi)
      ·exact hr _ c (by simpa using hi)
    ·rename_i o off' g
     split at hv
     ·rename_i hl
      injection hv with hv; subst hv
      cases ha with
      | ptr _ _ _ b h1 h2 => exact ⟨_, run b off', .ptr _ _ _ b h1 h2⟩
      | ptrOld _ _ _ g' a h1 h2 => have := genOf_live hl; rw [this] at h1; injection h1; omega
     ·cases hv
    ·cases hv
  | _ => simp only [TD.ok] at hok
 ·cases hv
theorem indexAddr_rel (TT : TabOk P C) {t : Nat} {a i v : AV} {u ui : Value} (ha : VR s h w a u) (hi : VR s h w i ui) (hv : indexAddrA C h t a i = some v) : PRun P s h w (Instr.indexAt t u ui) v := by
 unfold indexAddrA at hv
 simp only [qAd] at hv
 replace hv := qAc.1 hv
 obtain ⟨ti, hti, hv⟩ := hv
 obtain ⟨d, hd, hok⟩ := (TT t ti hti).und
 generalize ti.td = td at hok hv
 cases i <;> simp only [reduceCtorEq] at hv
 case int kk n =>
  cases hi
  split at hv
  ·cases hv
  rename_i hn
  split at hv
  ·
   rename_i e xs z r
   replace hv := qAc.1 hv
   obtain ⟨x, hx, hv⟩ := hv
   replace hv := qAc.1 hv
   obtain ⟨te, hte, hv⟩ := hv
   split at hv
   ·rename_i hsz
    injection hv with hv; subst hv
    have hsz' : x.cells.length = te.size := by simpa using hsz
    cases d <;> simp only [TD.ok] at hok
    subst hok
    have hlt : n.toNat < xs.length := (qAu.1 hx).1
    cases ha with
    | lstNil => simp at hlt
    | lstEmpty => simp at hlt
    | lst _ _ _ b off c f hI hr hle hz hc hrr =>
     have ez : z = te.size := by rw [← hz _ x hx]; exact hsz'
     subst ez
     refine ⟨.pointer (some ⟨b, off + n.toNat * te.size, none⟩), ?_, .ref _ b _ (fun j => f n.toNat j) (fun _ => hI (by omega)) (fun j y hj => hc _ j x y hx hj) (fun j y hj => hrr _ j x y hx hj)⟩
     have h0 : 0 <= n /\ n < (xs.length : Int) := ⟨by omega, by omega⟩
     simp only [Instr.indexAt, asIntOf, Sem.run_bind, Sem.run_pure, Result.andThen_ok, run_und hd, h0, and_self, if_true, run_sizeA (TT _ _ hte), addr_add]
   ·cases hv
  ·
   rename_i e o off len sz g cap
   replace hv := qAc.1 hv
   obtain ⟨te, hte, hv⟩ := hv
   split at hv
   ·rename_i hcond
    injection hv with hv; subst hv
    simp only [qAa, decide_eq_true_eq, beq_iff_eq] at hcond
    obtain ⟨⟨hlt, rfl⟩, hl⟩ := hcond
    cases d <;> simp only [TD.ok] at hok
    subst hok
    cases ha with
    | msl _ _ _ _ _ _ b c el m off' h0 h1 h2 h3 h4 h5 h6 h7 =>
     obtain rfl : off' = off := h0.resolve_right (by omega)
     refine ⟨.pointer (some ⟨b, _ + n.toNat * te.size, none⟩), ?_, .ptr _ _ _ b h1 h2⟩
     have h0 : 0 <= n /\ n < (len : Int) := ⟨by omega, by omega⟩
     simp only [Instr.indexAt, asIntOf, Sem.run_bind, Sem.run_pure, Result.andThen_ok, run_und hd, h0, and_self, if_true, run_sizeA (TT _ _ hte), addr_add]
    | mslOld _ _ _ _ _ _ g' a n c h1 h2 => have := genOf_live hl; rw [this] at h1; injection h1; omega
   ·cases hv
  ·
   rename_i len e cs
   split at hv
   ·rename_i hlt
    replace hv := qAc.1 hv
    obtain ⟨te, hte, hv⟩ := hv
    injection hv with hv; subst hv
    cases d <;> simp only [TD.ok] at hok
    obtain ⟨ea, eb⟩ := hok
    rw [ea, eb] at hd
    cases ha with
    | ref _ b off f hI hc hr =>
     refine ⟨.pointer (some ⟨b, off + n.toNat * te.size, none⟩), ?_, .ref _ b _ (fun j => f (n.toNat * te.size + j)) (fun h0 => hI (by simp at h0; omega)) (fun j y hj => ?_) (fun j y hj => hr _ y (by simpa using hj))⟩
     ·have h0 : 0 <= n /\ n < (len : Int) := ⟨by omega, by omega⟩
      simp only [Instr.indexAt, asIntOf, Sem.run_bind, Sem.run_pure, Result.andThen_ok, run_und hd, Instr.sureAddr, h0, and_self, if_true, run_sizeA (TT _ _ hte), addr_add]
     ·rw [Nat.add_assoc]; exact hc _ y (by simpa using hj)
   ·cases hv
  ·
   rename_i len e o off g
   split at hv
   ·rename_i hcond
    simp only [qAa, decide_eq_true_eq] at hcond
    obtain ⟨hlt, hl⟩ := hcond
    replace hv := qAc.1 hv
    obtain ⟨te, hte, hv⟩ := hv
    injection hv with hv; subst hv
    cases d <;> simp only [TD.ok] at hok
    obtain ⟨ea, eb⟩ := hok
    rw [ea, eb] at hd
    cases ha with
    | ptr _ _ _ b h1 h2 =>
     refine ⟨.pointer (some ⟨b, _ + n.toNat * te.size, none⟩), ?_, .ptr _ _ _ b h1 h2⟩
     have h0 : 0 <= n /\ n < (len : Int) := ⟨by omega, by omega⟩
     simp only [Instr.indexAt, asIntOf, Sem.run_bind, Sem.run_pure, Result.andThen_ok, run_und hd, Instr.sureAddr, h0, and_self, if_true, run_sizeA (TT _ _ hte), addr_add]
    | ptrOld _ _ _ g' a h1 h2 => have := genOf_live hl; rw [this] at h1; injection h1; omega
   ·cases hv
  ·cases hv
end
end Go.Rv
namespace Go.Rv
section
variable {P : Program} {C : Cfg} {s : Sim} {h : Heap} {w : World}
theorem VRs.nil : VRs s h w [] [] := ⟨rfl, fun i c hi => by simp at hi⟩
theorem VRs.cons {x : AV} {v : Value} {xs : List AV} {vs : List Value} (h1 : VR s h w x v) (h2 : VRs s h w xs vs) : VRs s h w (x :: xs) (v :: vs) :=
 ⟨by simp [h2.1], fun i c hi => by
  cases i with
  | zero => simp at hi; subst hi; exact ⟨v, rfl, h1⟩
  | succ i => exact h2.2 i c (by simpa using hi)⟩
theorem VRs.tail {x : AV} {v : Value} {xs : List AV} {vs : List Value} (H : VRs s h w (x :: xs) (v :: vs)) : VR s h w x v /\ VRs s h w xs vs := by
 obtain ⟨u, hu, hr⟩ := H.2 0 x rfl
 simp at hu
 subst hu
 exact ⟨hr, by have := H.1; simpa using this, fun i c hi => H.2 (i + 1) c (by simpa using hi)⟩
theorem VRs.append {xs ys : List AV} {vs us : List Value} (h1 : VRs s h w xs vs) (h2 : VRs s h w ys us) : VRs s h w (xs ++ ys) (vs ++ us) :=
 ⟨by simp [h1.1, h2.1], fun i c hi => by
  rw [List.getElem?_append] at hi ⊢
  rw [← h1.1]
  split at hi
  ·rename_i hl; rw [if_pos hl]; exact h1.2 i c hi
  ·rename_i hl; rw [if_neg hl]; exact h2.2 _ c hi⟩
theorem VRs.set {xs ys : List AV} {vs us : List Value} (h1 : VRs s h w xs vs) (h2 : VRs s h w ys us) (off : Nat) (hl : off + ys.length <= xs.length) : VRs s h w (setCells xs off ys) (setCells vs off us) :=
 ⟨by simp [setCells_length, h1.1], fun i c hi => by
  rw [setCells_get ys xs off i hl] at hi
  rw [setCells_get us vs off i (by rw [← h1.1, ← h2.1]; exact hl), ← h2.1]
  split at hi
  ·rename_i hc; rw [if_pos hc]; exact h2.2 _ c hi
  ·rename_i hc; rw [if_neg hc]; exact h1.2 i c hi⟩
theorem all_one {xs : List AV} {vs : List Value} (H : VRs s h w xs vs) (hl : xs.all AV.leaf = true) : ∀ v ∈ vs, v.oneCell' = true := by
 intro v hv
 obtain ⟨i, hi, rfl⟩ := List.mem_iff_getElem.1 hv
 have hx : i < xs.length := by rw [H.1]; exact hi
 obtain ⟨u, hu, hr⟩ := H.2 i xs[i] (qAs hx)
 rw [qAs hi] at hu
 injection hu with hu
 rw [hu]
 exact leaf_one (qBd.1 hl _ (List.getElem_mem hx)) hr
theorem store_rel (TT : TabOk P C) (R : Rel s h w) {t : Nat} {a x : AV} {u v : Value} {h' : Heap} (ha : VR s h w a u) (hx : VR s h w x v) (hs : storeA C h t a x = some h') :
  ∃ w', (Instr.storeAt t u v).run P w = .ok () w' /\ Ext s h w s h' w' /\ Rel s h' w' := by
 unfold storeA at hs
 simp only [qAd] at hs
 replace hs := qAc.1 hs
 obtain ⟨ti, hti, hs⟩ := hs
 cases a <;> simp only [reduceCtorEq] at hs
 case ptr o off g =>
  replace hs := qAc.1 hs
  obtain ⟨cs, ho, hs⟩ := hs
  split at hs
  ·rename_i hc
   simp only [qAa, beq_iff_eq, decide_eq_true_eq] at hc
   obtain ⟨⟨hl, hle⟩, hleaf⟩ := hc
   injection hs with hs
   subst hs
   cases ha with
   | ptr _ _ _ b h1 h2 =>
    have hj : x ≠ .junk := by rintro rfl; simp [AV.cells, AV.leaf] at hleaf
    have hv := agg_cells hx hj
    obtain ⟨w', hrun, E, R'⟩ := store_cells (P := P) R h2 ho (by rw [hl]; exact hle) hv (all_one hv hleaf) 0
    refine ⟨w', ?_, E, R'⟩
    have hsz : v.cells.size = ti.size := by rw [← hl, hv.1]; simp
    simp only [Instr.storeAt, Instr.sureAddr, Sem.run_bind, Sem.run_pure, Result.andThen_ok, storeVar, run_sizeA (TT t ti hti), hsz, ne_eq, not_true_eq_false, if_false]
    exact hrun off rfl
   | ptrOld _ _ _ g' a h1 h2 => have := (genOf_obj ho).1; rw [this] at h1; injection h1; omega
  ·cases hs
theorem zero_rel {t : Nat} {ti : TI} (T : TyOk P t ti) : ∃ z, (∀ w, (zeroValue t).run P w = .ok z w) /\ VRs s h w ti.zero z.cells.toList := by
 obtain ⟨z, h1, h2, h3⟩ := run_zeroA T
 refine ⟨z, h1, by simp [h2], fun i c hi => ?_⟩
 have hlt : i < z.cells.size := by rw [h2]; exact (qAu.1 hi).1
 refine ⟨z.cells[i], by simp [hlt], ?_⟩
 have := ofValue_rel (s := s) (h := h) (w := w) (h3 i c hi)
 simpa [hlt] using this
theorem newVar_rel (R : Rel s h w) (el : TypeId) {cs : List AV} {vs : Array Value} (hv : VRs s h w cs vs.toList) :
  HRun P s h w (do pure (.pointer (some (← newRow el vs)))) (.ptr h.length 0 0) (h ++ [.cells cs 0]) := by
 have key := new_cells R (cs := cs) (vs := vs) el (by have := hv.1; simp at this; omega) (fun i c hi => by
  obtain ⟨v, h1, h2⟩ := hv.2 i c hi; exact ⟨v, by simpa using h1, h2⟩)
 refine ⟨_, _, .pointer (some ⟨w.heap.size, 0, none⟩), ?_, key.1, key.2, .ptr _ _ _ w.heap.size (by rw [genOf_new]) (by simp [Sim.add])⟩
 simp only [newRow, Sem.run_bind, run_newObj, Result.andThen_ok, Sem.run_pure]
 rfl
theorem alloc_rel (TT : TabOk P C) (R : Rel s h w) {t : Nat} {ti : TI} (hti : C.ty t = some ti) : HRun P s h w (Instr.alloc t true (.tuple #[])) (.ptr h.length 0 0) (h ++ [.cells ti.zero 0]) := by
 obtain ⟨z, h1, h2⟩ := zero_rel (s := s) (h := h) (w := w) (TT t ti hti)
 obtain ⟨s', w', x, hr, rest⟩ := newVar_rel (P := P) R t h2
 exact ⟨s', w', x, by
  simp only [Instr.alloc, Sem.run_bind, h1, Result.andThen_ok, newVar]
  simpa only [Sem.run_bind] using hr, rest⟩
theorem box_rel (R : Rel s h w) (t : Nat) {a : AV} {u : Value} (ha : VR s h w a u) (hj : a ≠ .junk) : HRun P s h w (Instr.box t u) (.ptr h.length 0 0) (h ++ [.cells a.cells 0]) := by
 obtain ⟨s', w', x, hr, rest⟩ := newVar_rel (P := P) R t (agg_cells ha hj)
 exact ⟨s', w', x, by simpa only [Instr.box, newVar, Sem.run_bind] using hr, rest⟩
theorem foldl_set (vs : List Value) (off : Nat) : ∀ (k : Nat) (cs : Array Value), ((vs.zipIdx k).foldl (fun (cs : Array Value) (p : Value × Nat) => cs.setIfInBounds (off + p.2) p.1) cs).toList = setCells cs.toList (off + k) vs := by
 induction vs with
 | nil => intro k cs; rfl
 | cons v r ih =>
  intro k cs
  simp only [List.zipIdx_cons, List.foldl_cons, setCells]
  rw [ih (k + 1)]
  simp [Nat.add_assoc]
theorem fill_rel {place place' : Nat -> Option (Nat × Nat)} (hp : ∀ i x, place i = some x -> place' i = some x) : ∀ (ps : List (Nat × AV)) (qs : List (Nat × Value)) (cells cells' : List AV) (vs : Array Value),
  ps.length = qs.length -> (∀ (i : Nat) p q, ps[i]? = some p -> qs[i]? = some q -> p.1 = q.1 /\ VR s h w p.2 q.2 /\ p.2 ≠ .junk) -> VRs s h w cells vs.toList -> fillA place cells ps = some cells' ->
  ∃ us, Instr.fill place' vs qs = some us /\ VRs s h w cells' us.toList
 | [], [], cells, cells', vs, _, _, hv, hf => by
  simp only [fillA, qAf] at hf
  subst hf
  exact ⟨vs, rfl, hv⟩
 | p :: ps, q :: qs, cells, cells', vs, hl, hpq, hv, hf => by
  obtain ⟨i, x⟩ := p
  obtain ⟨j, v⟩ := q
  obtain ⟨rfl, hx, hj⟩ := hpq 0 _ _ rfl rfl
  simp only at hx hj
  simp only [fillA, qAd] at hf
  replace hf := qAc.1 hf
  obtain ⟨⟨off, size⟩, hpl, hf⟩ := hf
  simp only at hf
  split at hf
  ·rename_i hc
   simp only [qAa, beq_iff_eq, decide_eq_true_eq] at hc
   obtain ⟨h1, h2⟩ := hc
   have hxc := agg_cells hx hj
   have hvsz : v.cells.size = size := by have := hxc.1; simp at this; omega
   have hcl : cells.length = vs.size := by have := hv.1; simpa using this
   have hset := hv.set hxc off (by rw [h1]; exact h2)
   have hfold := foldl_set v.cells.toList off 0 vs
   obtain ⟨us, hus, hr⟩ := fill_rel hp ps qs _ cells' (v.cells.zipIdx.foldl (fun (cs : Array Value) (p : Value × Nat) => cs.setIfInBounds (off + p.2) p.1) vs) (by simpa using hl) (fun k p q hk hk' => hpq (k + 1) p q (by simpa using hk) (by simpa using hk'))
    (by
     have e : (v.cells.zipIdx.foldl (fun (cs : Array Value) (p : Value × Nat) => cs.setIfInBounds (off + p.2) p.1) vs).toList = setCells vs.toList off v.cells.toList := by
      rw [← Array.foldl_toList, Array.toList_zipIdx]
      exact hfold
     rw [e]; exact hset) hf
   refine ⟨us, ?_, hr⟩
   simp only [Instr.fill, hp i _ hpl]
   rw [if_neg (by simp [hvsz]; omega)]
   exact hus
  ·cases hf
theorem mapM_list {α β : Type} (f : α -> Sem β) (g : α -> β) : ∀ (l : List α), (∀ a ∈ l, ∀ w, (f a).run P w = .ok (g a) w) -> (l.mapM f).run P w = .ok (l.map g) w
 | [], _ => by simp
 | a :: l, hf => by
  rw [List.mapM_cons]
  simp only [Sem.run_bind, hf a (by simp) w, Result.andThen_ok, mapM_list f g l (fun b hb => hf b (by simp [hb])), Sem.run_pure, qAm]
theorem mapM_arr {α β : Type} (f : α -> Sem β) (g : α -> β) (l : Array α) (hf : ∀ a ∈ l, ∀ w, (f a).run P w = .ok (g a) w) : (l.mapM f).run P w = .ok (l.map g) w := by
 rw [Array.mapM_eq_mapM_toList, Sem.run_map, mapM_list f g l.toList (fun a ha => hf a (by simpa using ha))]
 simp only [Result.andThen_ok]
 congr 1
 apply Array.ext'
 simp
theorem build_rel (TT : TabOk P C) {t : Nat} {ps : List (Nat × AV)} {qs : Array (Nat × Value)} {v : AV} (hl : ps.length = qs.size)
  (hpq : ∀ (i : Nat) p q, ps[i]? = some p -> qs.toList[i]? = some q -> p.1 = q.1 /\ VR s h w p.2 q.2 /\ p.2 ≠ .junk) (hv : buildA C t ps = some v) : PRun P s h w (Instr.build t qs) v := by
 unfold buildA at hv
 simp only [qAd] at hv
 replace hv := qAc.1 hv
 obtain ⟨ti, hti, hv⟩ := hv
 obtain ⟨d, hd, hok⟩ := (TT t ti hti).und
 obtain ⟨z, hz1, hz2⟩ := zero_rel (s := s) (h := h) (w := w) (TT t ti hti)
 generalize ti.td = td at hok hv
 cases td <;> simp only [reduceCtorEq] at hv
 case struct fs =>
  replace hv := qAc.1 hv
  obtain ⟨cs, hf, hv⟩ := hv
  injection hv with hv; subst hv
  cases d <;> simp only [TD.ok] at hok
  rename_i l
  have hrun := mapM_arr (P := P) (w := w) (fun f : Field => do pure (f.offset, ← sizeOf f.type)) (fun f : Field => (f.offset, ((P.info? f.type).map (·.size)).getD 0)) l
  ·have hall := (TT t ti hti).fields l hd
   have hrun := hrun (fun f hf w => by
    obtain ⟨i, hi⟩ := hall f hf
    simp [sizeOf, typeInfo, hi])
   obtain ⟨us, hus, hr⟩ := fill_rel (place' := ((l.map fun f : Field => (f.offset, ((P.info? f.type).map (·.size)).getD 0))[·]?)) (fun i x hx => by
    obtain ⟨⟨ft, off⟩, h1, h2⟩ := qAc.1 hx
    obtain ⟨tf, h3, h4⟩ := qAl.1 h2
    obtain ⟨info, z, h5, h6, _⟩ := (TT ft tf h3).info
    rw [← hok] at h1
    simp only [qBc, qAl, qAg] at h1
    obtain ⟨fld, h7, h8, h9⟩ := h1
    rw [← h4]
    have : l[i]? = some fld := by simpa using h7
    simp [this, h8, h9, h5, h6]) ps qs.toList ti.zero cs z.cells (by simpa using hl) hpq hz2 hf
   refine ⟨.agg us, ?_, .agg _ _ (by have := hr.1; simpa using this) (fun i c hi => ?_)⟩
   ·simp only [Instr.build, Sem.run_bind, hz1, Result.andThen_ok, run_und hd, hrun, hus, Sem.run_pure]
   ·obtain ⟨u, hu, hur⟩ := hr.2 i c hi
    have hlt : i < us.size := by have := (qAu.1 hu).1; simpa using this
    have : us[i] = u := by simpa [hlt] using hu
    simp [hlt, this, hur]
 case array n e =>
  replace hv := qAc.1 hv
  obtain ⟨te, hte, hv⟩ := hv
  replace hv := qAc.1 hv
  obtain ⟨cs, hf, hv⟩ := hv
  injection hv with hv; subst hv
  cases d <;> simp only [TD.ok] at hok
  obtain ⟨ea, eb⟩ := hok
  rw [ea, eb] at hd
  obtain ⟨us, hus, hr⟩ := fill_rel (place' := fun i => some (i * te.size, te.size)) (fun i x hx => hx) ps qs.toList ti.zero cs z.cells (by simpa using hl) hpq hz2 hf
  refine ⟨.agg us, ?_, .agg _ _ (by have := hr.1; simpa using this) (fun i c hi => ?_)⟩
  ·simp only [Instr.build, Sem.run_bind, hz1, Result.andThen_ok, run_und hd, run_sizeA (TT _ _ hte), hus, Sem.run_pure]
  ·obtain ⟨u, hu, hur⟩ := hr.2 i c hi
   have hlt : i < us.size := by have := (qAu.1 hu).1; simpa using this
   have : us[i] = u := by simpa [hlt] using hu
   simp [hlt, this, hur]
theorem copies_length (n : Nat) (z : List AV) : (copies n z).length = n * z.length := by
 induction n with
 | zero => simp [copies]
 | succ n ih => simp [copies, ih]; rw [Nat.succ_mul]; omega
theorem copies_get (n : Nat) (z : List AV) (i : Nat) (hi : i < n * z.length) : (copies n z)[i]? = z[i % z.length]? := by
 induction n generalizing i with
 | zero => simp at hi
 | succ n ih =>
  simp only [copies]
  by_cases h1 : i < z.length
  ·rw [qAx h1, Nat.mod_eq_of_lt h1]
  ·rw [qAy (by omega), ih (i - z.length) (by rw [Nat.succ_mul] at hi; omega)]
   rw [Nat.mod_eq_sub_mod (show z.length <= i by omega)]
theorem zeros_rel {zero : List AV} {z : Array Value} (hz : VRs s h w zero z.toList) (n : Nat) : VRs s h w (copies n zero) ((Array.range (n * z.size)).map fun i => z[i % z.size]!).toList := by
 have hl : zero.length = z.size := by have := hz.1; simpa using this
 refine ⟨by simp [copies_length, hl], fun i c hi => ?_⟩
 have hlt : i < n * zero.length := by have := (qAu.1 hi).1; rw [copies_length] at this; exact this
 rw [copies_get n zero i hlt] at hi
 obtain ⟨v, hv, hr⟩ := hz.2 _ c hi
 refine ⟨v, ?_, hr⟩
 rw [hl] at hv hlt
 have hm : i % z.size < z.size := Nat.mod_lt _ (by
  rcases Nat.eq_zero_or_pos z.size with h0 | h0
  ·rw [h0] at hlt; simp at hlt
  ·exact h0)
 have : z[i % z.size]! = v := by
  rw [getElem!_pos z _ hm]
  have : z[i % z.size]? = some v := by simpa using hv
  rw [Array.getElem?_eq_getElem hm] at this
  injection this
 simp [Array.toList_map, Array.toList_range, qBc, List.getElem?_range hlt, this]
end
end Go.Rv
