/-
  Types as the interpreter has them; operands; memory read and written.
-/
import Derived.Test.YtpnafmeehjfnaaaGreatDoorPtA
import Derived.Laws.CopyRow
import Derived.Laws.Cells
import Derived.Lib.Strings
import Derived.Laws.StructEq
import Derived.Laws.Append
import Derived.Laws.Slices
set_option linter.unusedSectionVars false
set_option linter.unusedSimpArgs false
set_option linter.unusedVariables false
set_option linter.defProp false
namespace Go.Rv
def TD.ok : TypeDesc → TD → Prop
  | .bool, .bool => True
  | .int k, .int k' => k = k'
  | .string, .str => True
  | .pointer _, .ptr => True
  | .func .., .func => True
  | .interface _, .iface => True
  | .slice e, .slice e' => e = e'
  | .array n e, .array n' e' => n = n' ∧ e = e'
  | .map k e, .map k' e' => k = k' ∧ e = e'
  | .struct fs, .struct l => fs.toList.map (fun f => (f.type, f.offset)) = l
  | _, _ => False
def wholeB (agg : Bool) (z : Value) : Bool := match z with
  | .agg _ => agg
  | _ => !agg
structure TyOk (P : Program) (t : Nat) (ti : TI) : Prop where
  info : ∃ i z, P.info? t = some i ∧ i.size = ti.size ∧ i.bytes = ti.bytes ∧ i.zero = some z ∧ z.cells.size = ti.zero.length ∧ ∀ (j : Nat) c, ti.zero[j]? = some c → ofValue (z.cells.getD j undef) = some c
  und : ∃ d, P.underlying t = some d ∧ TD.ok d ti.td
  small : ti.bytes ≤ 4096
  zsize : ti.zero.length = ti.size
  fields : ∀ fs, P.underlying t = some (.struct fs) → ∀ f ∈ fs, ∃ i, P.info? f.type = some i
  whole : ∀ i z, P.info? t = some i → i.zero = some z → wholeB ti.td.isAgg z = true
section
variable {P : Program} {C : Cfg} {s : Sim} {h : Heap} {w : World}
theorem run_sizeA {t : Nat} {ti : TI} (T : TyOk P t ti) (w : World) : (sizeOf t).run P w = .ok ti.size w := by
  obtain ⟨i, z, h1, h2, _⟩ := T.info
  simp [sizeOf, typeInfo, h1, h2]
theorem run_und {t : Nat} {d : TypeDesc} (h : P.underlying t = some d) (w : World) : (underlying t).run P w = .ok d w := by
  simp [underlying, h]
theorem run_isAggA {t : Nat} {ti : TI} (T : TyOk P t ti) (w : World) : (isAgg t).run P w = .ok ti.td.isAgg w := by
  obtain ⟨d, h1, h2⟩ := T.und
  simp only [isAgg, Sem.run_bind, run_und h1, Result.andThen_ok]
  generalize ti.td = td at h2 ⊢
  cases d <;> cases td <;> first | rfl | exact False.elim h2
theorem run_zeroA {t : Nat} {ti : TI} (T : TyOk P t ti) : ∃ z, (∀ w, (zeroValue t).run P w = .ok z w) ∧ z.cells.size = ti.zero.length ∧ ∀ (j : Nat) c, ti.zero[j]? = some c → ofValue (z.cells.getD j undef) = some c := by
  obtain ⟨i, z, h1, _, _, h4, h5, h6⟩ := T.info
  exact ⟨z, fun w => by simp [zeroValue, typeInfo, h1, h4], h5, h6⟩
theorem ofValue_rel {v : Value} {x : AV} (hv : ofValue v = some x) : VR s h w x v := by
  unfold ofValue at hv
  split at hv
  · injection hv with hv; subst hv; exact .bool _
  · injection hv with hv; subst hv; exact .int _ _
  · injection hv with hv; subst hv
    rename_i b
    have := VR.str (s := s) (h := h) (w := w) b.data.toList
    simpa using this
  · injection hv with hv; subst hv; exact .nilPtr
  · injection hv with hv; subst hv; exact .lstNil _
  · injection hv with hv; subst hv; exact .nilMap
  · injection hv with hv; subst hv; exact .nilFunc
  · injection hv with hv; subst hv; exact .nilIface
  · rename_i vs
    split at hv
    · rename_i he
      injection hv with hv; subst hv
      have : vs = #[] := by simpa using he
      subst this
      exact .tup [] #[] rfl fun i c hi => by simp at hi
    · cases hv
  · cases hv
def Glob (C : Cfg) (s : Sim) (h : Heap) (w : World) : Prop := ∀ g v, C.glob g = some v → VR s h w v (.pointer (some ⟨g, 0, none⟩))
theorem Glob.ext {s' : Sim} {h' : Heap} {w' : World} (hd : ∀ o b, s.μ o = some b → ¬ s.I b) (E : Ext s h w s' h' w') (G : Glob C s h w) : Glob C s' h' w' := fun g v hg => (G g v hg).ext hd E
theorem evalA_rel {e : Env} {a : Act} (G : Glob C s h w) (H : EnvRel s h w e a.tmps) {x : Operand} {v : AV} (hv : evalA C e x = some v) : VR s h w v (a.eval x) := by
  cases x with
  | tmp t =>
    have := H t
    simp only [evalA] at hv
    split at hv
    · cases hv
    · injection hv with hv; subst hv; exact this
  | const c => exact ofValue_rel hv
  | global g => exact G g v hv
  | func f =>
    simp only [evalA, Option.some.injEq] at hv
    subst hv
    exact .clo f [] #[] rfl fun i c hi => by simp at hi
theorem addr_add (b off j : Nat) : (⟨b, off, none⟩ : Addr).add j = ⟨b, off + j, none⟩ := by
  unfold Addr.add; split <;> simp_all
theorem genOf_obj {o g : Nat} {cs : List AV} (ho : h.obj o g = some cs) : genOf h o = some g ∧ h[o]? = some (.cells cs g) ∧ lenOf h o = cs.length := by
  unfold Heap.obj at ho
  split at ho
  · rename_i cs' g' he
    split at ho
    · rename_i hg
      have : g' = g := by simpa using hg
      subst this
      injection ho with ho; subst ho
      exact ⟨by simp [genOf, he], he, by simp [lenOf, he]⟩
    · cases ho
  · cases ho
theorem genOf_live {o g : Nat} (ho : h.live o g = true) : genOf h o = some g := by
  unfold Heap.live at ho
  obtain ⟨cs, hcs⟩ := Option.isSome_iff_exists.1 ho
  exact (genOf_obj hcs).1
def Reads (s : Sim) (h : Heap) (w : World) (b off : Nat) (cs : List AV) : Prop := ∀ (i : Nat) c, cs[i]? = some c → ∃ v, w.cell? ⟨b, off + i, none⟩ = some v ∧ VR s h w c v
theorem Reads.drop {b off : Nat} {cs : List AV} (H : Reads s h w b off cs) (n : Nat) : Reads s h w b (off + n) (cs.drop n) := fun i c hi => by
  have := H (n + i) c (by simpa using hi)
  rw [← Nat.add_assoc] at this
  exact this
theorem Reads.take {b off : Nat} {cs : List AV} (H : Reads s h w b off cs) (n : Nat) : Reads s h w b off (cs.take n) := fun i c hi => H i c (by
  rw [List.getElem?_take] at hi
  split at hi
  · exact hi
  · cases hi)
theorem obj_reads (R : Rel s h w) {o g b : Nat} {cs : List AV} (ho : h.obj o g = some cs) (hb : s.μ o = some b) : Reads s h w b 0 cs := by
  obtain ⟨x, hx, hr⟩ := R.obj o b hb
  rw [(genOf_obj ho).2.1] at hx
  injection hx with hx; subst hx
  obtain ⟨bc, el, h1, h2, h3⟩ := hr
  intro i c hi
  obtain ⟨v, hv, hvr⟩ := h3 i c hi
  exact ⟨v, by simp [World.cell?, h1, hv], hvr⟩
theorem cellsAt_reads (R : Rel s h w) {a : AV} {u : Value} {cs : List AV} (hv : VR s h w a u) (hc : cellsAt h a = some cs) : ∃ b off, u = .pointer (some ⟨b, off, none⟩) ∧ Reads s h w b off cs := by
  cases hv with
  | ref cs' b off f hI hcell hr =>
    simp only [cellsAt, Option.some.injEq] at hc
    subst hc
    exact ⟨b, off, rfl, fun i c hi => ⟨f i, hcell i c hi, hr i c hi⟩⟩
  | ptr o off g b hg hb =>
    simp only [cellsAt, Option.map_eq_some_iff] at hc
    obtain ⟨cs', ho, rfl⟩ := hc
    exact ⟨b, off, rfl, by simpa using (obj_reads R ho hb).drop off⟩
  | ptrOld o off g g' a hg hlt =>
    simp only [cellsAt, Option.map_eq_some_iff] at hc
    obtain ⟨cs', ho, _⟩ := hc
    have := (genOf_obj ho).1
    rw [hg] at this
    injection this
    omega
  | _ => simp [cellsAt] at hc
theorem reads_list {b off : Nat} {cs : List AV} (H : Reads s h w b off cs) : ∃ vs : List Value, vs.length = cs.length ∧ (∀ j v, vs[j]? = some v → w.cell? ⟨b, off + j, none⟩ = some v) ∧ ∀ (i : Nat) c, cs[i]? = some c → VR s h w c (vs.getD i undef) := by
  refine ⟨(List.range cs.length).map fun i => (w.cell? ⟨b, off + i, none⟩).getD undef, by simp, ?_, ?_⟩
  · intro j v hj
    obtain ⟨hlt, he⟩ := List.getElem?_eq_some_iff.1 hj
    have hlt' : j < cs.length := by simpa using hlt
    obtain ⟨u, hu, _⟩ := H j cs[j] (List.getElem?_eq_getElem hlt')
    simp [hu] at he
    rw [hu, he]
  · intro i c hi
    have hlt := (List.getElem?_eq_some_iff.1 hi).1
    obtain ⟨u, hu, hr⟩ := H i c hi
    simp [hlt, hu, hr]
theorem load_rel (R : Rel s h w) {t : Nat} {ti : TI} (T : TyOk P t ti) {a v : AV} {u : Value} {cs : List AV} (hv : VR s h w a u) (hc : cellsAt h a = some cs) (hp : part ti cs = some v) :
    ∃ x, (Instr.loadAt t u).run P w = .ok x w ∧ VR s h w v x := by
  obtain ⟨b, off, rfl, H⟩ := cellsAt_reads R hv hc
  unfold part at hp
  simp only [Instr.loadAt, Instr.sureAddr, Sem.run_bind, Sem.run_pure, Result.andThen_ok, loadVar, run_isAggA T]
  split at hp
  · rename_i hagg
    split at hp
    · rename_i hlen
      injection hp with hp; subst hp
      obtain ⟨vs, hl, hcell, hr⟩ := reads_list (H.take ti.size)
      have hl' : vs.length = ti.size := by rw [hl]; simp; omega
      have hrun := run_loadCells_list (P := P) (w := w) ⟨b, off, none⟩ vs (fun j v hj => by rw [addr_add]; exact hcell j v hj)
      simp only [hagg, if_true, Sem.run_bind, run_sizeA T, Result.andThen_ok]
      rw [← hl', hrun]
      refine ⟨.agg vs.toArray, rfl, ?_⟩
      rw [hl']
      refine .agg _ _ (by simp; omega) fun i c hi => ?_
      have := hr i c hi
      simpa using this
    · cases hp
  · rename_i hagg
    have hagg' : ti.td.isAgg = false := by simpa using hagg
    have h0 : cs[0]? = some v := by rw [← List.head?_eq_getElem?]; exact hp
    obtain ⟨u, hu, hr⟩ := H 0 v h0
    simp only [hagg', Bool.false_eq_true, if_false, run_load]
    rw [show (off + 0 = off) from rfl] at hu
    rw [hu]
    exact ⟨u, rfl, hr⟩
theorem leaf_one {x : AV} {v : Value} (hx : x.leaf = true) (hv : VR s h w x v) : v.oneCell' = true := by
  cases hv <;> first | rfl | (simp [AV.leaf] at hx)
theorem setCells_length {α : Type} (cs : List α) : ∀ (vs : List α) (off : Nat), (setCells cs off vs).length = cs.length := by
  intro vs
  induction vs generalizing cs with
  | nil => intro off; rfl
  | cons v r ih => intro off; simp [setCells, ih]
theorem setCells_get {α : Type} (vs : List α) : ∀ (cs : List α) (off i : Nat), off + vs.length ≤ cs.length →
    (setCells cs off vs)[i]? = if off ≤ i ∧ i < off + vs.length then vs[i - off]? else cs[i]? := by
  induction vs with
  | nil => intro cs off i _; simp [setCells]; intro h1 h2; omega
  | cons v r ih =>
    intro cs off i hl
    simp only [setCells]
    rw [ih (cs.set off v) (off + 1) i (by simp at hl ⊢; omega)]
    simp only [List.length_cons] at hl ⊢
    by_cases h1 : off + 1 ≤ i ∧ i < off + 1 + r.length
    · rw [if_pos h1, if_pos (by omega)]
      rw [show i - off = (i - (off + 1)) + 1 from by omega]
      simp
    · rw [if_neg h1]
      by_cases h2 : i = off
      · subst h2
        rw [if_pos (by omega)]
        simp [show i < cs.length from by omega]
      · rw [if_neg (by omega)]
        rw [List.getElem?_set_ne (Ne.symm h2)]
theorem agg_cells {x : AV} {v : Value} (hv : VR s h w x v) (hj : x ≠ .junk) : VRs s h w x.cells v.cells.toList := by
  have one : ∀ {x : AV} {v : Value}, VR s h w x v → x.cells = [x] → v.cells = #[v] → VRs s h w x.cells v.cells.toList := by
    intro x v hv h1 h2
    rw [h1, h2]
    refine ⟨rfl, fun i c hi => ?_⟩
    cases i with
    | zero => simp at hi; subst hi; exact ⟨v, rfl, hv⟩
    | succ i => simp at hi
  cases hv with
  | agg cs vs hl hr =>
    refine ⟨by simpa [AV.cells, Value.cells] using hl, fun i c hi => ?_⟩
    have hlt : i < vs.size := by rw [← hl]; exact (List.getElem?_eq_some_iff.1 hi).1
    refine ⟨vs[i], by simp [Value.cells, hlt], ?_⟩
    have := hr i c hi
    simpa [hlt] using this
  | junk => exact absurd rfl hj
  | bool b => exact one (.bool b) rfl rfl
  | int k n => exact one (.int k n) rfl rfl
  | str l => exact one (.str l) rfl rfl
  | nilPtr => exact one .nilPtr rfl rfl
  | nilMap => exact one .nilMap rfl rfl
  | nilFunc => exact one .nilFunc rfl rfl
  | nilIface => exact one .nilIface rfl rfl
  | ptr o off g b h1 h2 => exact one (.ptr o off g b h1 h2) rfl rfl
  | ptrOld o off g g' a h1 h2 => exact one (.ptrOld o off g g' a h1 h2) rfl rfl
  | ref cs b off f h1 h2 h3 => exact one (.ref cs b off f h1 h2 h3) rfl rfl
  | lstNil z => exact one (.lstNil z) rfl rfl
  | lstEmpty z A => exact one (.lstEmpty z A) rfl rfl
  | lst xs z r b off c f h1 h2 h3 h4 h5 h6 => exact one (.lst xs z r b off c f h1 h2 h3 h4 h5 h6) rfl rfl
  | msl o off len z g cap b c el n off' h0 h1 h2 h3 h4 h5 h6 h7 => exact one (.msl o off len z g cap b c el n off' h0 h1 h2 h3 h4 h5 h6 h7) rfl rfl
  | mslOld o off len z g cap g' a n c h1 h2 => exact one (.mslOld o off len z g cap g' a n c h1 h2) rfl rfl
  | clo f cs vs h1 h2 => exact one (.clo f cs vs h1 h2) rfl rfl
  | bnd f cs vs h1 h2 => exact one (.bnd f cs vs h1 h2) rfl rfl
  | map o b h1 h2 => exact one (.map o b h1 h2) rfl rfl
  | mapOld o g b h1 h2 => exact one (.mapOld o g b h1 h2) rfl rfl
  | yld o b h1 h2 => exact one (.yld o b h1 h2) rfl rfl
  | yldOld o g b h1 h2 => exact one (.yldOld o g b h1 h2) rfl rfl
  | iface t x v h1 => exact one (.iface t x v h1) rfl rfl
  | tup cs vs h1 h2 => exact one (.tup cs vs h1 h2) rfl rfl
end
end Go.Rv
namespace Go.Rv
section
variable {P : Program} {C : Cfg} {s : Sim} {h : Heap} {w : World}
theorem heap_alloc_lt (w : World) (o : Obj) {k : Nat} (hk : k < w.heap.size) : (w.alloc o).heap[k]? = w.heap[k]? := by
  show (w.heap.push o)[k]? = _
  simp [Array.getElem?_push, Nat.ne_of_lt hk]
theorem heap_alloc_at (w : World) (o : Obj) : (w.alloc o).heap[w.heap.size]? = some o := by
  show (w.heap.push o)[w.heap.size]? = _
  simp
theorem size_alloc (w : World) (o : Obj) : (w.alloc o).heap.size = w.heap.size + 1 := by
  show (w.heap.push o).size = _
  simp
theorem shape_of {w w' : World} {b : Nat} (h : w'.heap[b]? = w.heap[b]?) : w'.shape? b = w.shape? b := by
  unfold World.shape?; rw [h]
theorem shape_lt {w : World} {b : Nat} {x : TypeId × Nat} (h : w.shape? b = some x) : b < w.heap.size := by
  unfold World.shape? at h
  split at h
  · rename_i c el fz hb
    exact (Array.getElem?_eq_some_iff.1 hb).1
  · cases h
theorem Rel.old (R : Rel s h w) {o b : Nat} (hb : s.μ o = some b) : o < h.length := by
  obtain ⟨x, hx, _⟩ := R.obj o b hb
  exact (List.getElem?_eq_some_iff.1 hx).1
def Sim.add (s : Sim) (o b : Nat) : Sim := { s with μ := fun k => if k = o then some b else s.μ k }
theorem genOf_append {x : AObj} {o g : Nat} (hg : genOf h o = some g) : genOf (h ++ [x]) o = some g := by
  unfold genOf at *
  have hlt : o < h.length := by
    rcases Nat.lt_or_ge o h.length with h1 | h1
    · exact h1
    · rw [List.getElem?_eq_none h1] at hg; cases hg
  rw [List.getElem?_append_left hlt]; exact hg
theorem lenOf_append {x : AObj} {o : Nat} (ho : o < h.length) : lenOf (h ++ [x]) o = lenOf h o := by
  unfold lenOf; rw [List.getElem?_append_left ho]
theorem isMap_append {x : AObj} {o : Nat} (hm : isMap h o = true) : isMap (h ++ [x]) o = true := by
  unfold isMap at *
  have hlt : o < h.length := by
    rcases Nat.lt_or_ge o h.length with h1 | h1
    · exact h1
    · rw [List.getElem?_eq_none h1] at hm; cases hm
  rw [List.getElem?_append_left hlt]; exact hm
theorem isLoop_append {x : AObj} {o : Nat} (hm : isLoop h o = true) : isLoop (h ++ [x]) o = true := by
  unfold isLoop at *
  have hlt : o < h.length := by
    rcases Nat.lt_or_ge o h.length with h1 | h1
    · exact h1
    · rw [List.getElem?_eq_none h1] at hm; cases hm
  rw [List.getElem?_append_left hlt]; exact hm
theorem genOf_lt {o g : Nat} (hg : genOf h o = some g) : o < h.length := by
  unfold genOf at hg
  rcases Nat.lt_or_ge o h.length with h1 | h1
  · exact h1
  · rw [List.getElem?_eq_none h1] at hg; cases hg
theorem Ext.block (s : Sim) (h : Heap) (w : World) (o : Obj) (i : Bool) :
    Ext s h w { s with I := fun b => s.I b ∨ (i = true ∧ b = w.heap.size) } h (w.alloc o) where
  size := by rw [size_alloc]; omega
  far := fun b hb _ => heap_alloc_lt w o hb
  shape := fun b x hx => by rw [shape_of (heap_alloc_lt w o (shape_lt hx))]; exact hx
  imm := fun b hb => .inl hb
  gen := fun _ g hg => ⟨g, hg, Nat.le_refl _⟩
  same := fun _ _ _ _ => ⟨fun _ h => h, rfl⟩
  kind := fun _ h _ => h
  own := fun o b hb => .inl ⟨o, hb⟩
  os := rfl
  tape := rfl
  output := rfl
  kindL := fun _ h => h
  good := rfl
  old := fun o b _ hb => ⟨b, hb⟩
  kept := fun _ _ _ => rfl
  immOld := fun b hb h => by
    rcases h with h | ⟨_, h⟩
    · exact .inl h
    · omega
theorem ORel.ext {s' : Sim} {h' : Heap} {w' : World} (hd : ∀ o b, s.μ o = some b → ¬ s.I b) (E : Ext s h w s' h' w') {b : Nat} (hb : w'.heap[b]? = w.heap[b]?) {x : AObj} (H : ORel s h w b x) : ORel s' h' w' b x := by
  cases x with
  | iter k es =>
    obtain ⟨bm, since, seen, last, en, cl, h1, h2, h3, h4, h5⟩ := H
    refine ⟨bm, since, seen, last, en, cl, hb.trans h1, E.imm bm h2, (E.far bm (Array.getElem?_eq_some_iff.1 h3).1 (fun o ho => hd o bm ho h2)).trans h3, fun hk => ?_, fun hk => ?_⟩
    · obtain ⟨q1, q2, q3, q4, q5, es0, hp0, q6⟩ := h4 hk
      exact ⟨q1, q2, q3, q4, q5, es0, hp0, fun i e hi => let ⟨m, hm, h6, h7⟩ := q6 i e hi; ⟨m, hm, h6.ext hd E, h7.ext hd E⟩⟩
    · obtain ⟨q1, q2, q3, q4⟩ := h5 hk
      exact ⟨by rw [E.good]; exact q1, q2, q3, fun e he => let ⟨m, hm, h6, h7, h8⟩ := q4 e he; ⟨m, hm, h6, h7.ext hd E, h8.ext hd E⟩⟩
  | cells cs g =>
    obtain ⟨bc, el, h1, h2, h3⟩ := H
    refine ⟨bc, el, hb.trans h1, h2, fun i c hi => ?_⟩
    obtain ⟨v, hv, hr⟩ := h3 i c hi
    exact ⟨v, hv, hr.ext hd E⟩
  | map es =>
    obtain ⟨es0, hp0, en, cl, h1, h2, h3⟩ := H
    refine ⟨es0, hp0, en, cl, hb.trans h1, h2, h3.1, fun i c hi => ?_⟩
    obtain ⟨m, hm, h4, h5⟩ := h3.2 i c hi
    exact ⟨m, hm, h4.ext hd E, h5.ext hd E⟩
  | loop r =>
    obtain ⟨rec, h1, h2, h3, h4⟩ := H
    exact ⟨rec, hb.trans h1, h2, fun t => (h3 t).ext hd E, by rw [E.good]; exact h4⟩
theorem Rel.block (R : Rel s h w) (o : Obj) (i : Bool) : Rel { s with I := fun b => s.I b ∨ (i = true ∧ b = w.heap.size) } h (w.alloc o) where
  inj := R.inj
  obj := fun k b hb => by
    obtain ⟨x, hx, hr⟩ := R.obj k b hb
    exact ⟨x, hx, hr.ext R.apart (Ext.block s h w o i) (heap_alloc_lt w o (R.lt hb))⟩
  apart := fun k b hb hI => by
    rcases hI with hI | ⟨_, hI⟩
    · exact R.apart k b hb hI
    · have := R.lt hb; omega
  imm := fun b hb => by
    rw [size_alloc]
    rcases hb with hb | ⟨_, hb⟩
    · have := R.imm b hb; omega
    · omega
theorem Ext.new (R : Rel s h w) (o : Obj) (x : AObj) : Ext s h w (s.add h.length w.heap.size) (h ++ [x]) (w.alloc o) where
  size := by rw [size_alloc]; omega
  far := fun b hb _ => heap_alloc_lt w o hb
  shape := fun b y hy => by rw [shape_of (heap_alloc_lt w o (shape_lt hy))]; exact hy
  imm := fun b hb => hb
  gen := fun _ g hg => ⟨g, genOf_append hg, Nat.le_refl _⟩
  same := fun k g hg _ => ⟨fun b hb => by
    have := R.old hb
    simp [Sim.add, Nat.ne_of_lt this, hb], lenOf_append (genOf_lt hg)⟩
  kind := fun _ h _ => isMap_append h
  own := fun k b hb => by
    simp only [Sim.add] at hb
    split at hb
    · injection hb with hb; exact .inr (by omega)
    · exact .inl ⟨k, hb⟩
  os := rfl
  tape := rfl
  output := rfl
  kindL := fun _ h => isLoop_append h
  good := rfl
  old := fun k b hk hb => by
    simp only [Sim.add, Nat.ne_of_lt hk, if_false] at hb
    exact ⟨b, hb⟩
  kept := fun k hk _ => List.getElem?_append_left hk
theorem Rel.new (R : Rel s h w) (o : Obj) (x : AObj) (hx : ORel (s.add h.length w.heap.size) (h ++ [x]) (w.alloc o) w.heap.size x) : Rel (s.add h.length w.heap.size) (h ++ [x]) (w.alloc o) where
  inj := fun k k' b hk hk' => by
    simp only [Sim.add] at hk hk'
    split at hk <;> split at hk'
    · omega
    · injection hk with hk; have := R.lt hk'; omega
    · injection hk' with hk'; have := R.lt hk; omega
    · exact R.inj k k' b hk hk'
  obj := fun k b hb => by
    by_cases e : k = h.length
    · subst e
      simp only [Sim.add, if_true, Option.some.injEq] at hb
      subst hb
      exact ⟨x, by simp, hx⟩
    · simp only [Sim.add, e, if_false] at hb
      obtain ⟨y, hy, hr⟩ := R.obj k b hb
      exact ⟨y, by rw [List.getElem?_append_left (R.old hb)]; exact hy, hr.ext R.apart (Ext.new R o x) (heap_alloc_lt w o (R.lt hb))⟩
  apart := fun k b hb hI => by
    simp only [Sim.add] at hb hI
    split at hb
    · injection hb with hb; have := R.imm b hI; omega
    · exact R.apart k b hb hI
  imm := fun b hb => by have := R.imm b hb; rw [size_alloc]; omega
theorem new_cells (R : Rel s h w) {cs : List AV} {vs : Array Value} (el : TypeId) (hl : cs.length ≤ vs.size) (hc : ∀ (i : Nat) c, cs[i]? = some c → ∃ v, vs[i]? = some v ∧ VR s h w c v) :
    Ext s h w (s.add h.length w.heap.size) (h ++ [.cells cs 0]) (w.alloc (.cells vs el)) ∧ Rel (s.add h.length w.heap.size) (h ++ [.cells cs 0]) (w.alloc (.cells vs el)) :=
  ⟨Ext.new R _ _, Rel.new R _ _ ⟨vs, el, heap_alloc_at w _, hl, fun i c hi => by
    obtain ⟨v, hv, hr⟩ := hc i c hi
    exact ⟨v, hv, hr.ext R.apart (Ext.new R _ _)⟩⟩⟩
theorem genOf_new {x : AObj} : genOf (h ++ [x]) h.length = match x with | .cells _ g => some g | .map _ => some 0 | .loop _ => some 0 | .iter _ _ => some 0 := by
  unfold genOf
  rw [List.getElem?_append_right (Nat.le_refl _)]
  cases x <;> simp
theorem lenOf_new {cs : List AV} {g : Nat} : lenOf (h ++ [.cells cs g]) h.length = cs.length := by
  unfold lenOf
  rw [List.getElem?_append_right (Nat.le_refl _)]
  simp
theorem Ext.draw (s : Sim) (h : Heap) (w : World) (n : Nat) : Ext s h w s h { w with drawn := n } :=
  ⟨⟨Nat.le_refl _, fun _ _ _ => rfl, fun _ _ h => h, fun _ h => h, fun _ g hg => ⟨g, hg, Nat.le_refl _⟩, fun _ _ _ _ => ⟨fun _ h => h, rfl⟩, fun _ h _ => h, fun o b hb => .inl ⟨o, hb⟩, rfl, rfl, rfl, fun _ h => h, rfl⟩, fun o b _ hb => ⟨b, hb⟩, fun _ _ _ => rfl, fun _ _ h => .inl h⟩
theorem Rel.draw (R : Rel s h w) (n : Nat) : Rel s h { w with drawn := n } :=
  ⟨R.inj, fun o b hb => by
    obtain ⟨x, hx, hr⟩ := R.obj o b hb
    exact ⟨x, hx, hr.ext R.apart (Ext.draw s h w n) rfl⟩, R.apart, R.imm⟩
theorem genOf_set {o o' g : Nat} {x : AObj} : genOf (h.set o x) o' = if o = o' ∧ o < h.length then (match x with | .cells _ g => some g | .map _ => some 0 | .loop _ => some 0 | .iter _ _ => some 0) else genOf h o' := by
  unfold genOf
  rw [List.getElem?_set]
  by_cases e : o = o'
  · subst e
    by_cases hl : o < h.length
    · simp only [hl, if_true, and_self]; cases x <;> rfl
    · simp only [hl, if_true, if_false, and_false]
      rw [List.getElem?_eq_none (by omega)]
  · simp [e]
theorem lenOf_set {o o' : Nat} {x : AObj} (e : o ≠ o') : lenOf (h.set o x) o' = lenOf h o' := by
  unfold lenOf; rw [List.getElem?_set_ne e]
theorem isMap_set {o o' : Nat} {x : AObj} (e : o ≠ o') : isMap (h.set o x) o' = isMap h o' := by
  unfold isMap; rw [List.getElem?_set_ne e]
theorem isLoop_set {o o' : Nat} {x : AObj} (e : o ≠ o') : isLoop (h.set o x) o' = isLoop h o' := by
  unfold isLoop; rw [List.getElem?_set_ne e]
structure Wrote (w w' : World) (b : Nat) : Prop where
  size : w.heap.size ≤ w'.heap.size
  far : ∀ k, k < w.heap.size → k ≠ b → w'.heap[k]? = w.heap[k]?
  shape : ∀ k x, w.shape? k = some x → w'.shape? k = some x
  os : w'.os = w.os
  tape : w'.tape = w.tape
  output : w'.output = w.output
theorem Ext.write (R : Rel s h w) {o b b' g g' : Nat} {cs cs' : List AV} {w' : World} (hb : s.μ o = some b) (ho : h[o]? = some (.cells cs g)) (hg : g ≤ g') (hlen : g' = g → cs'.length = cs.length)
    (hb' : b' = b ∨ (g < g' ∧ w.heap.size ≤ b')) (W : Wrote w w' b) : Ext s h w (s.add o b') (h.set o (.cells cs' g')) w' where
  size := W.size
  far := fun k hk hn => W.far k hk (fun e => hn o (e ▸ hb))
  shape := W.shape
  imm := fun b hb => hb
  gen := fun k g0 hg0 => by
    have hlt := (List.getElem?_eq_some_iff.1 ho).1
    rw [genOf_set (g := g)]
    by_cases e : o = k
    · subst e
      have : g0 = g := by simp [genOf, ho] at hg0; omega
      subst this
      exact ⟨g', by simp [hlt], hg⟩
    · exact ⟨g0, by simp [e, hg0], Nat.le_refl _⟩
  same := fun k g0 hg0 hg1 => by
    have hlt := (List.getElem?_eq_some_iff.1 ho).1
    by_cases e : o = k
    · subst e
      have h0 : g0 = g := by simp [genOf, ho] at hg0; omega
      subst h0
      rw [genOf_set (g := g0)] at hg1
      simp only [hlt, and_self, if_true, Option.some.injEq] at hg1
      subst hg1
      refine ⟨fun c hc => ?_, ?_⟩
      · rw [hb] at hc; injection hc with hc; subst hc
        rcases hb' with h1 | ⟨h1, _⟩
        · simp [Sim.add, h1]
        · omega
      · unfold lenOf
        rw [ho, List.getElem?_set_self hlt]
        exact hlen rfl
    · refine ⟨fun c hc => by simp [Sim.add, Ne.symm e, hc], lenOf_set e⟩
  kind := fun k hk _ => by
    by_cases e : o = k
    · subst e; simp [isMap, ho] at hk
    · rw [isMap_set e]; exact hk
  own := fun k c hc => by
    simp only [Sim.add] at hc
    split at hc
    · injection hc with hc; subst hc
      rcases hb' with h1 | ⟨_, h1⟩
      · exact .inl ⟨o, h1 ▸ hb⟩
      · exact .inr h1
    · exact .inl ⟨k, hc⟩
  os := W.os
  tape := W.tape
  output := W.output
  kindL := fun k hk => by
    by_cases e : o = k
    · subst e; simp [isLoop, ho] at hk
    · rw [isLoop_set e]; exact hk
  good := rfl
  old := fun k c _ hc => by
    simp only [Sim.add] at hc
    split at hc
    · rename_i e; subst e; exact ⟨b, hb⟩
    · exact ⟨c, hc⟩
  kept := fun k _ hn => by
    have : o ≠ k := by rintro rfl; rw [hb] at hn; cases hn
    exact List.getElem?_set_ne this
theorem write_cells (R : Rel s h w) {o b b' g g' : Nat} {cs cs' : List AV} {w' : World} {bc' : Array Value} {el : TypeId} (hb : s.μ o = some b) (ho : h[o]? = some (.cells cs g)) (hg : g ≤ g') (hlen : g' = g → cs'.length = cs.length)
    (hb' : b' = b ∨ (g < g' ∧ w.heap.size ≤ b')) (W : Wrote w w' b) (hheap : w'.heap[b']? = some (.cells bc' el (0, 0))) (hsz : cs'.length ≤ bc'.size)
    (hc : ∀ (i : Nat) c, cs'[i]? = some c → ∃ v, bc'[i]? = some v ∧ VR s h w c v) :
    Ext s h w (s.add o b') (h.set o (.cells cs' g')) w' ∧ Rel (s.add o b') (h.set o (.cells cs' g')) w' := by
  have E := Ext.write R hb ho hg hlen hb' W
  have hlt := (List.getElem?_eq_some_iff.1 ho).1
  refine ⟨E, ?_⟩
  refine ⟨fun k k' c hk hk' => ?_, fun k c hk => ?_, fun k c hk hI => ?_, fun c hI => ?_⟩
  · simp only [Sim.add] at hk hk'
    split at hk <;> split at hk'
    · omega
    · injection hk with hk
      subst hk
      rcases hb' with h1 | ⟨_, h1⟩
      · subst h1; have := R.inj _ _ _ hk' hb; omega
      · have := R.lt hk'; omega
    · injection hk' with hk'
      subst hk'
      rcases hb' with h1 | ⟨_, h1⟩
      · subst h1; have := R.inj _ _ _ hk hb; omega
      · have := R.lt hk; omega
    · exact R.inj k k' c hk hk'
  · by_cases e : k = o
    · subst e
      simp only [Sim.add, if_true, Option.some.injEq] at hk
      subst hk
      refine ⟨.cells cs' g', by rw [List.getElem?_set_self hlt], bc', el, hheap, hsz, fun i x hi => ?_⟩
      obtain ⟨v, hv, hr⟩ := hc i x hi
      exact ⟨v, hv, hr.ext R.apart E⟩
    · simp only [Sim.add, e, if_false] at hk
      obtain ⟨x, hx, hr⟩ := R.obj k c hk
      have hne : c ≠ b := fun e' => e (R.inj k o c hk (e' ▸ hb))
      exact ⟨x, by rw [List.getElem?_set_ne (Ne.symm e)]; exact hx, hr.ext R.apart E (W.far c (R.lt hk) hne)⟩
  · simp only [Sim.add] at hk hI
    split at hk
    · injection hk with hk; subst hk
      rcases hb' with h1 | ⟨_, h1⟩
      · subst h1; exact R.apart o b' hb hI
      · have := R.imm _ hI; omega
    · exact R.apart k c hk hI
  · exact Nat.lt_of_lt_of_le (R.imm c hI) W.size
theorem Wrote.row {b : Nat} {bc : Array Value} {el : TypeId} (hb : w.heap[b]? = some (.cells bc el (0, 0))) (bc' : Array Value) (hs : bc'.size = bc.size) : Wrote w (w.setRow b bc') b := by
  have hsz : (w.setRow b bc').heap.size = w.heap.size := by simp [World.setRow]
  have hfar : ∀ k, k ≠ b → (w.setRow b bc').heap[k]? = w.heap[k]? := fun k hk => by
    simp only [World.setRow]
    rw [Array.getElem?_modify]
    simp [Ne.symm hk]
  refine ⟨by omega, fun k _ hk => hfar k hk, fun k x hx => ?_, rfl, rfl, rfl⟩
  by_cases e : k = b
  · subst e
    unfold World.shape? at *
    rw [setRow_heap w k bc bc' el (0, 0) hb]
    rw [hb] at hx
    simpa [hs] using hx
  · rw [shape_of (hfar k e)]; exact hx
theorem store_cells (R : Rel s h w) {o b g off : Nat} {cs xs : List AV} (hb : s.μ o = some b) (ho : h.obj o g = some cs) (hl : off + xs.length ≤ cs.length) {vs : List Value} (hv : VRs s h w xs vs) (h1 : ∀ v ∈ vs, v.oneCell' = true) (i : Nat) :
    ∃ w', (∀ k, off = k + i → (storeCells ⟨b, k, none⟩ vs i).run P w = .ok () w') ∧ Ext s h w s (h.set o (.cells (setCells cs off xs) g)) w' ∧ Rel s (h.set o (.cells (setCells cs off xs) g)) w' := by
  obtain ⟨x, hx, hr⟩ := R.obj o b hb
  have hobj := (genOf_obj ho).2.1
  rw [hobj] at hx
  injection hx with hx; subst hx
  obtain ⟨bc, el, hheap, hsz, hcell⟩ := hr
  have hvl := hv.1
  have hs : s.add o b = s := by
    unfold Sim.add
    cases s with
    | mk μ I G =>
      congr 1
      funext k
      by_cases e : k = o
      · subst e; simp [show μ k = some b from hb]
      · simp [e]
  have key := write_cells R (b' := b) (g' := g) (cs' := setCells cs off xs) (w' := w.setRow b (bc.toList.take off ++ vs ++ bc.toList.drop (off + vs.length)).toArray) (bc' := (bc.toList.take off ++ vs ++ bc.toList.drop (off + vs.length)).toArray) (el := el) hb hobj (Nat.le_refl _) (fun _ => setCells_length _ _ _) (.inl rfl)
    (Wrote.row hheap _ (by simp; omega)) (setRow_heap w b bc _ el (0, 0) hheap) (by rw [setCells_length]; simp; omega) (fun j c hj => by
      rw [setCells_get xs cs off j hl] at hj
      simp only [List.getElem?_toArray]
      split at hj
      · rename_i hin
        obtain ⟨v, hv1, hv2⟩ := hv.2 _ c hj
        refine ⟨v, ?_, hv2⟩
        rw [List.append_assoc, List.getElem?_append_right (by simp; omega), List.getElem?_append_left (by simp; omega)]
        simp only [List.length_take, Array.length_toList, Nat.min_eq_left (show off ≤ bc.size by omega)]
        exact hv1
      · rename_i hout
        obtain ⟨v, hv1, hv2⟩ := hcell j c hj
        refine ⟨v, ?_, hv2⟩
        have hjl : j < cs.length := (List.getElem?_eq_some_iff.1 hj).1
        by_cases hlo : j < off
        · rw [List.append_assoc, List.getElem?_append_left (by simp; omega), List.getElem?_take_of_lt hlo]
          simpa using hv1
        · rw [List.getElem?_append_right (by simp; omega), List.getElem?_drop]
          simp only [List.length_append, List.length_take, Array.length_toList, Nat.min_eq_left (show off ≤ bc.size by omega)]
          rw [show off + vs.length + (j - (off + vs.length)) = j from by omega]
          simpa using hv1)
  rw [hs] at key
  refine ⟨_, fun k hk => ?_, key.1, key.2⟩
  subst hk
  have := run_storeCells_at (P := P) b k el vs i bc w hheap (by omega) h1
  rw [this]
end
end Go.Rv
namespace Go.Rv
section
variable {P : Program} {C : Cfg} {s : Sim} {h : Heap} {w : World}
def PRun (P : Program) (s : Sim) (h : Heap) (w : World) (m : Sem Value) (v : AV) : Prop := ∃ x, m.run P w = .ok x w ∧ VR s h w v x
def HRun (P : Program) (s : Sim) (h : Heap) (w : World) (m : Sem Value) (v : AV) (h' : Heap) : Prop :=
  ∃ s' w' x, m.run P w = .ok x w' ∧ Ext s h w s' h' w' ∧ Rel s' h' w' ∧ VR s' h' w' v x
theorem PRun.heap (R : Rel s h w) {m : Sem Value} {v : AV} (H : PRun P s h w m v) : HRun P s h w m v h := by
  obtain ⟨x, h1, h2⟩ := H
  exact ⟨s, w, x, h1, Ext.refl _ _ _, R, h2⟩
def scalarB : Option TypeDesc → AV → Bool
  | some .bool, .bool _ => true
  | some (.int _), .int _ _ => true
  | some .string, .str _ => true
  | _, _ => false
def flatFs (P : Program) : Nat → List Field → List AV → Bool
  | _, [], [] => true
  | i, f :: r, c :: cs => (f.name != "_") && Nat.beq f.offset i && scalarB (P.underlying f.type) c && flatFs P (i + 1) r cs
  | _, _, _ => false
def flatKey (P : Program) (t : Nat) (cs : List AV) : Bool :=
  match P.underlying t with
  | some (.struct fs) => !P.stoodInHeld t && flatFs P 0 fs.toList cs
  | _ => false
structure TabOk (P : Program) (C : Cfg) : Prop where
  tab : ∀ t ti, C.ty t = some ti → TyOk P t ti
  flat : ∀ t cs, C.flat t cs = true → flatKey P t cs = true
  guard : ∀ t cs, C.flat t cs = true → P.eqGuardType P.depth t = false
instance : CoeFun (TabOk P C) (fun _ => ∀ t ti, C.ty t = some ti → TyOk P t ti) := ⟨TabOk.tab⟩
theorem bin_int {op : BinOp} {t : TypeId} {x y : Operand} {k : IntKind} {a b : Int} {v : AV} (hv : arithA op k a b = some v) :
    PRun P s h w (do eqGuard op t x y (.int k a) (.int k b); binOp op t (.int k a) (.int k b)) v := by
  have hg : (eqGuard op t x y (.int k a) (.int k b)).run P w = .ok () w := by
    unfold eqGuard
    cases op <;> rfl
  unfold PRun
  simp only [Sem.run_bind, hg, Result.andThen_ok]
  cases op <;> simp only [arithA, reduceCtorEq, Option.some.injEq] at hv
  case add => subst hv; exact ⟨_, by simp [binOp, Op.intArith], .int _ _⟩
  case sub => subst hv; exact ⟨_, by simp [binOp, Op.intArith], .int _ _⟩
  case mul => subst hv; exact ⟨_, by simp [binOp, Op.intArith], .int _ _⟩
  case quo =>
    split at hv
    · cases hv
    · rename_i hb
      have hb' : ¬ b = 0 := by simpa using hb
      injection hv with hv; subst hv
      exact ⟨_, by simp [binOp, Op.intDiv, hb'], .int _ _⟩
  case rem =>
    split at hv
    · cases hv
    · rename_i hb
      have hb' : ¬ b = 0 := by simpa using hb
      injection hv with hv; subst hv
      exact ⟨_, by simp [binOp, Op.intDiv, hb'], .int _ _⟩
  case eql => subst hv; exact ⟨_, by simp [binOp, Op.intCmp], .bool _⟩
  case neq => subst hv; exact ⟨_, by simp [binOp, Op.intCmp], .bool _⟩
  case lss => subst hv; exact ⟨_, by simp [binOp, Op.intCmp], .bool _⟩
  case leq => subst hv; exact ⟨_, by simp [binOp, Op.intCmp], .bool _⟩
  case gtr => subst hv; exact ⟨_, by simp [binOp, Op.intCmp], .bool _⟩
  case geq => subst hv; exact ⟨_, by simp [binOp, Op.intCmp], .bool _⟩
  case and => subst hv; exact ⟨_, by simp [binOp, Op.intBits], .int _ _⟩
  case or => subst hv; exact ⟨_, by simp [binOp, Op.intBits], .int _ _⟩
  case xor => subst hv; exact ⟨_, by simp [binOp, Op.intBits], .int _ _⟩
  case shl =>
    split at hv
    · cases hv
    · rename_i hb
      injection hv with hv; subst hv
      exact ⟨.int k (k.wrap (a * 2 ^ Nat.min b.toNat k.bits)), by simp only [binOp, Op.shift, if_neg hb]; rfl, .int _ _⟩
  case shr =>
    split at hv
    · cases hv
    · rename_i hb
      injection hv with hv; subst hv
      exact ⟨.int k (a.fdiv (2 ^ Nat.min b.toNat k.bits)), by simp only [binOp, Op.shift, if_neg hb]; rfl, .int _ _⟩
theorem bytes_append (a b : List UInt8) : (⟨a.toArray⟩ : ByteArray) ++ ⟨b.toArray⟩ = ⟨(a ++ b).toArray⟩ := by
  apply ByteArray.ext
  simp
theorem bin_str {op : BinOp} {t : TypeId} {x y : Operand} {a b : List UInt8} {v : AV} (hv : binA C h op t (.str a) (.str b) = some v) :
    PRun P s h w (do eqGuard op t x y (.string ⟨a.toArray⟩) (.string ⟨b.toArray⟩); binOp op t (.string ⟨a.toArray⟩) (.string ⟨b.toArray⟩)) v := by
  have hg : (eqGuard op t x y (.string ⟨a.toArray⟩) (.string ⟨b.toArray⟩)).run P w = .ok () w := by
    unfold eqGuard
    cases op <;> rfl
  have e1 : (⟨a.toArray⟩ : ByteArray).toList = a := by rw [Lib.toList_data]
  have e2 : (⟨b.toArray⟩ : ByteArray).toList = b := by rw [Lib.toList_data]
  unfold PRun
  simp only [Sem.run_bind, hg, Result.andThen_ok]
  cases op <;> simp only [binA, reduceCtorEq, Option.some.injEq] at hv
  case add =>
    split at hv
    · rename_i hl
      injection hv with hv; subst hv
      have hsz : ¬ (((⟨a.toArray⟩ : ByteArray).size + (⟨b.toArray⟩ : ByteArray).size : Nat) : Int) > IntKind.i64.max := by
        have : IntKind.i64.max = 9223372036854775807 := by decide
        rw [this]
        simp only [ByteArray.size, List.size_toArray]
        simp only [mostLen] at hl
        omega
      refine ⟨.string ((⟨a.toArray⟩ : ByteArray) ++ ⟨b.toArray⟩), by simp only [binOp, Op.stringOp, hsz, if_false, Sem.run_pure], ?_⟩
      rw [bytes_append]
      exact .str _
    · cases hv
  all_goals (subst hv; exact ⟨_, by simp only [binOp, Op.stringOp, e1, e2, Sem.run_pure], .bool _⟩)
theorem guard_plain {op : BinOp} {t : TypeId} {x y : Operand} {u v : Value} (h1 : u ≠ .nilIface ∨ v ≠ .nilIface) (h2 : ∀ c, u ≠ .agg c) (w : World) : (eqGuard op t x y u v).run P w = .ok () w := by
  have key : ∀ m : Sem Unit, ∀ m' : Sem Unit, (match u, v with | .nilIface, .nilIface => m | .agg _, .agg _ => m' | _, _ => (pure () : Sem Unit)) = pure () := by
    intro m m'
    split
    · rcases h1 with h1 | h1 <;> exact absurd rfl h1
    · rename_i c _; exact absurd rfl (h2 c)
    · rfl
  cases op <;> first | rfl | skip
  all_goals
    simp only [eqGuard, Bool.not_true, Bool.false_eq_true, if_false]
    exact (congrArg (fun m : Sem Unit => m.run P w) (key _ _)).trans rfl
theorem equal_in {t : Nat} {ti : TI} (T : TyOk P t ti) {x y : AV} {u v : Value} {b : Bool} (hx : VR s h w x u) (hy : VR s h w y v) (hb : eqA h ti.td x y = some b) :
    (∀ n, (Op.equalIn (n + 1) t u v).run P w = .ok b w) ∧ (u ≠ .nilIface ∨ v ≠ .nilIface) ∧ (∀ c, u ≠ .agg c) ∧ (∀ k a, u ≠ .int k a) ∧ (∀ c, u ≠ .string c) ∧ (∀ k a, u ≠ .float k a) ∧ (∀ k a c, u ≠ .complex k a c) := by
  obtain ⟨d, hd, hok⟩ := T.und
  have live : ∀ {o off g : Nat} {u : Value}, VR s h w (.ptr o off g) u → h.live o g = true → ∃ a, u = .pointer (some a) := by
    intro o off g u hu hl
    have hg := genOf_live hl
    cases hu with
    | ptr _ _ _ b h1 h2 => exact ⟨_, rfl⟩
    | ptrOld _ _ _ g' a h1 h2 => rw [hg] at h1; injection h1; omega
  have liveS : ∀ {o off len sz g : Nat} {cap : Option Nat} {u : Value}, VR s h w (.msl o off len sz g cap) u → h.live o g = true → ∃ a n c, u = .slice (some a) n c := by
    intro o off len sz g cap u hu hl
    have hg := genOf_live hl
    cases hu with
    | msl _ _ _ _ _ _ b c el n off' h1 => exact ⟨_, _, _, rfl⟩
    | mslOld _ _ _ _ _ _ g' a n c h1 h2 => rw [hg] at h1; injection h1; omega
  have lstv : ∀ {xs : List AV} {z : Nat} {r : Room} {u : Value}, VR s h w (.lst xs z r) u → ∃ a n c, u = .slice a n c ∧ (a.isNone = (r == .nil)) := by
    intro xs z r u hu
    cases hu with
    | lstNil => exact ⟨_, _, _, rfl, rfl⟩
    | lstEmpty => exact ⟨_, _, _, rfl, rfl⟩
    | lst _ _ _ b off c f h1 h2 => exact ⟨_, _, _, rfl, by cases r <;> first | exact h2.elim | rfl⟩
  have nilv : ∀ {xs : List AV} {z : Nat} {u : Value}, VR s h w (.lst xs z .nil) u → u = .slice none 0 0 := by
    intro xs z u hu
    cases hu with
    | lstNil => rfl
    | lst _ _ _ b off c f h1 h2 => exact h2.elim
  generalize ti.td = td at hok hb
  unfold eqA at hb
  simp only [Op.equalIn, Sem.run_bind, run_und hd, Result.andThen_ok]
  split at hb
  · cases hx <;> cases hy <;>
    (cases d <;> simp only [TD.ok] at hok
     injection hb with hb; subst hb
     exact ⟨fun _ => rfl, by simp, by simp, by simp, by simp, by simp, by simp⟩)
  · cases hx <;> cases hy <;>
    (cases d <;> simp only [TD.ok] at hok
     injection hb with hb; subst hb
     exact ⟨fun _ => rfl, by simp, by simp, by simp, by simp, by simp, by simp⟩)
  · cases hx <;> cases hy <;>
    (cases d <;> simp only [TD.ok] at hok
     injection hb with hb; subst hb
     exact ⟨fun _ => rfl, by simp, by simp, by simp, by simp, by simp, by simp⟩)
  · cases hx <;> cases hy <;>
    (cases d <;> simp only [TD.ok] at hok
     injection hb with hb; subst hb
     exact ⟨fun _ => rfl, by simp, by simp, by simp, by simp, by simp, by simp⟩)
  · split at hb
    · rename_i hl
      cases hx
      obtain ⟨a, rfl⟩ := live hy hl
      cases d <;> simp only [TD.ok] at hok
      injection hb with hb; subst hb
      exact ⟨fun _ => rfl, by simp, by simp, by simp, by simp, by simp, by simp⟩
    · cases hb
  · split at hb
    · rename_i hl
      cases hy
      obtain ⟨a, rfl⟩ := live hx hl
      cases d <;> simp only [TD.ok] at hok
      injection hb with hb; subst hb
      exact ⟨fun _ => rfl, by simp, by simp, by simp, by simp, by simp, by simp⟩
    · cases hb
  · obtain ⟨a, n, c, rfl, ha⟩ := lstv hx
    obtain rfl := nilv hy
    cases d <;> simp only [TD.ok] at hok
    injection hb with hb; subst hb
    cases a with
    | none => exact ⟨fun _ => by rw [← ha]; rfl, by simp, by simp, by simp, by simp, by simp, by simp⟩
    | some a => exact ⟨fun _ => by rw [← ha]; rfl, by simp, by simp, by simp, by simp, by simp, by simp⟩
  · obtain ⟨a, n, c, rfl, ha⟩ := lstv hy
    obtain rfl := nilv hx
    cases d <;> simp only [TD.ok] at hok
    injection hb with hb; subst hb
    exact ⟨fun _ => by rw [← ha]; rfl, by simp, by simp, by simp, by simp, by simp, by simp⟩
  · split at hb
    · rename_i hl
      obtain ⟨a, n, c, rfl⟩ := liveS hx hl
      obtain rfl := nilv hy
      cases d <;> simp only [TD.ok] at hok
      injection hb with hb; subst hb
      exact ⟨fun _ => rfl, by simp, by simp, by simp, by simp, by simp, by simp⟩
    · cases hb
  · split at hb
    · rename_i hl
      obtain ⟨a, n, c, rfl⟩ := liveS hy hl
      obtain rfl := nilv hx
      cases d <;> simp only [TD.ok] at hok
      injection hb with hb; subst hb
      exact ⟨fun _ => rfl, by simp, by simp, by simp, by simp, by simp, by simp⟩
    · cases hb
  · cases hx <;> cases hy <;>
    (cases d <;> simp only [TD.ok] at hok
     injection hb with hb; subst hb
     exact ⟨fun _ => rfl, by simp, by simp, by simp, by simp, by simp, by simp⟩)
  · cases hx <;> cases hy <;>
    (cases d <;> simp only [TD.ok] at hok
     injection hb with hb; subst hb
     exact ⟨fun _ => rfl, by simp, by simp, by simp, by simp, by simp, by simp⟩)
  · cases hx <;> cases hy <;>
    (cases d <;> simp only [TD.ok] at hok
     injection hb with hb; subst hb
     exact ⟨fun _ => rfl, by simp, by simp, by simp, by simp, by simp, by simp⟩)
  · cases hx <;> cases hy <;>
    (cases d <;> simp only [TD.ok] at hok
     injection hb with hb; subst hb
     exact ⟨fun _ => rfl, by simp, by simp, by simp, by simp, by simp, by simp⟩)
  · cases hx <;> cases hy <;>
    (cases d <;> simp only [TD.ok] at hok
     injection hb with hb; subst hb
     exact ⟨fun _ => rfl, by simp, by simp, by simp, by simp, by simp, by simp⟩)
  · cases hx <;> cases hy <;>
    (cases d <;> simp only [TD.ok] at hok
     injection hb with hb; subst hb
     exact ⟨fun _ => rfl, by simp, by simp, by simp, by simp, by simp, by simp⟩)
  · cases hb
theorem equal_any {t : Nat} {ti : TI} (T : TyOk P t ti) {x y : AV} {u v : Value} {b : Bool} (hx : VR s h w x u) (hy : VR s h w y v) (hb : eqA h ti.td x y = some b) :
    (Op.equal t u v).run P w = .ok b w ∧ (u ≠ .nilIface ∨ v ≠ .nilIface) ∧ (∀ c, u ≠ .agg c) ∧ (∀ k a, u ≠ .int k a) ∧ (∀ c, u ≠ .string c) ∧ (∀ k a, u ≠ .float k a) ∧ (∀ k a c, u ≠ .complex k a c) := by
  have := equal_in T hx hy hb
  exact ⟨this.1 9999, this.2⟩
def AggEq (P : Program) (C : Cfg) (s : Sim) (h : Heap) (w : World) : Prop := ∀ {t : Nat} {cs ds : List AV} {u v : Value} {p : Bool}, C.flat t cs = true → VR s h w (.agg cs) u → VR s h w (.agg ds) v → sameKeys cs ds = some p → (Op.equal t u v).run P w = .ok p w
theorem eqC_cases {t : Nat} {td : TD} {a b : AV} {r : Bool} (hr : eqC C h t td a b = some r) : eqA h td a b = some r ∨ ∃ cs ds, a = .agg cs ∧ b = .agg ds ∧ C.flat t cs = true ∧ sameKeys cs ds = some r := by
  unfold eqC at hr
  split at hr
  · split at hr
    · exact .inr ⟨_, _, rfl, rfl, by assumption, hr⟩
    · cases hr
  · exact .inl hr
theorem bin_rel (TT : TabOk P C) (hAgg : AggEq P C s h w) {op : BinOp} {t : Nat} {x y : Operand} {a b v : AV} {u u' : Value} (ha : VR s h w a u) (hb : VR s h w b u') (hv : binA C h op t a b = some v) :
    PRun P s h w (do eqGuard op t x y u u'; binOp op t u u') v := by
  unfold binA at hv
  split at hv
  · cases ha; cases hb
    split at hv
    · rename_i k a k' b hk
      have : k = k' := by simpa using hk
      subst this
      exact bin_int hv
    · cases hv
  · cases ha; cases hb
    exact bin_str (C := C) (h := h) (by unfold binA; exact hv)
  · simp only [Option.bind_eq_bind] at hv
    replace hv := Option.bind_eq_some_iff.1 hv
    obtain ⟨ti, hti, hv⟩ := hv
    split at hv
    · obtain ⟨r, hr, rfl⟩ := Option.map_eq_some_iff.1 hv
      rcases eqC_cases hr with hr | ⟨cs, ds, rfl, rfl, hfl, hk⟩
      rotate_left
      · have he := hAgg hfl ha hb hk
        refine ⟨.bool r, ?_, .bool r⟩
        obtain ⟨xs, rfl⟩ : ∃ xs, u = .agg xs := by cases ha; exact ⟨_, rfl⟩
        obtain ⟨ys, rfl⟩ : ∃ ys, u' = .agg ys := by cases hb; exact ⟨_, rfl⟩
        have : binOp .eql t (.agg xs) (.agg ys) = (do pure (.bool (← Op.equal t (.agg xs) (.agg ys)))) := rfl
        simp only [Sem.run_bind, run_eqGuard_agg (P := P) _ _ _ _ _ _ _ (TT.guard t cs hfl), Result.andThen_ok, this, he, Sem.run_pure]
      obtain ⟨h1, h2, h3, h4, h5, h6, h7⟩ := equal_any (TT t ti hti) ha hb hr
      refine ⟨.bool r, ?_, .bool r⟩
      simp only [Sem.run_bind, guard_plain h2 h3, Result.andThen_ok]
      have : binOp .eql t u u' = (do pure (.bool (← Op.equal t u u'))) := by
        cases u <;> cases u' <;> first | rfl | exact absurd rfl (h4 _ _) | exact absurd rfl (h5 _) | exact absurd rfl (h6 _ _) | exact absurd rfl (h7 _ _ _)
      rw [this]
      simp [h1]
    · obtain ⟨r, hr, rfl⟩ := Option.map_eq_some_iff.1 hv
      rcases eqC_cases hr with hr | ⟨cs, ds, rfl, rfl, hfl, hk⟩
      rotate_left
      · have he := hAgg hfl ha hb hk
        refine ⟨.bool (!r), ?_, .bool (!r)⟩
        obtain ⟨xs, rfl⟩ : ∃ xs, u = .agg xs := by cases ha; exact ⟨_, rfl⟩
        obtain ⟨ys, rfl⟩ : ∃ ys, u' = .agg ys := by cases hb; exact ⟨_, rfl⟩
        have : binOp .neq t (.agg xs) (.agg ys) = (do pure (.bool (!(← Op.equal t (.agg xs) (.agg ys))))) := rfl
        simp only [Sem.run_bind, run_eqGuard_agg (P := P) _ _ _ _ _ _ _ (TT.guard t cs hfl), Result.andThen_ok, this, he, Sem.run_pure]
      obtain ⟨h1, h2, h3, h4, h5, h6, h7⟩ := equal_any (TT t ti hti) ha hb hr
      refine ⟨.bool (!r), ?_, .bool (!r)⟩
      simp only [Sem.run_bind, guard_plain h2 h3, Result.andThen_ok]
      have : binOp .neq t u u' = (do pure (.bool (!(← Op.equal t u u')))) := by
        cases u <;> cases u' <;> first | rfl | exact absurd rfl (h4 _ _) | exact absurd rfl (h5 _) | exact absurd rfl (h6 _ _) | exact absurd rfl (h7 _ _ _)
      rw [this]
      simp [h1]
    · cases hv
theorem un_rel {op : UnOp} {a v : AV} {u : Value} (ha : VR s h w a u) (hv : unA op a = some v) : PRun P s h w (Op.unary op u) v := by
  cases a <;> simp only [unA, reduceCtorEq] at hv
  case bool b =>
    cases ha
    cases op <;> simp at hv
    subst hv
    exact ⟨_, rfl, .bool _⟩
  case int k n =>
    cases ha
    cases op <;> simp at hv
    subst hv
    rw [show -n = 0 - n by omega]
    exact ⟨_, rfl, .int _ _⟩
theorem conv_rel (TT : TabOk P C) {src dst : Nat} (hsrc : ∃ d, P.underlying src = some d) {a v : AV} {u : Value} (ha : VR s h w a u) (hv : convA C dst a = some v) : PRun P s h w (convert src dst u) v := by
  obtain ⟨ds, hds⟩ := hsrc
  unfold convA at hv
  simp only [Option.bind_eq_bind] at hv
  replace hv := Option.bind_eq_some_iff.1 hv
  obtain ⟨ti, hti, hv⟩ := hv
  obtain ⟨d, hd, hok⟩ := (TT dst ti hti).und
  generalize ti.td = td at hok hv
  split at hv
  · cases ha
    injection hv with hv; subst hv
    cases d <;> simp only [TD.ok] at hok
    subst hok
    refine ⟨_, ?_, .int _ _⟩
    simp only [convert, Sem.run_bind, run_und hd, run_und hds, Result.andThen_ok]
    rfl
  · cases ha
    injection hv with hv; subst hv
    cases d <;> simp only [TD.ok] at hok
    refine ⟨_, ?_, .str _⟩
    simp only [convert, Sem.run_bind, run_und hd, run_und hds, Result.andThen_ok]
    rfl
  · cases hv
theorem fieldAddr_rel (TT : TabOk P C) {t k : Nat} {a v : AV} {u : Value} (ha : VR s h w a u) (hv : fieldAddrA C h t a k = some v) : PRun P s h w (Instr.fieldAt t u k) v := by
  unfold fieldAddrA at hv
  simp only [Option.bind_eq_bind] at hv
  replace hv := Option.bind_eq_some_iff.1 hv
  obtain ⟨ti, hti, hv⟩ := hv
  obtain ⟨d, hd, hok⟩ := (TT t ti hti).und
  generalize ti.td = td at hok hv
  split at hv
  · rename_i fs
    replace hv := Option.bind_eq_some_iff.1 hv
    obtain ⟨⟨ft, off⟩, hf, hv⟩ := hv
    replace hv := Option.bind_eq_some_iff.1 hv
    obtain ⟨tf, htf, hv⟩ := hv
    cases d with
    | struct l =>
      simp only [TD.ok] at hok
      have hfl : ∃ fld, l[k]? = some fld ∧ fld.type = ft ∧ fld.offset = off := by
        rw [← hok] at hf
        simp only [List.getElem?_map, Option.map_eq_some_iff, Prod.mk.injEq] at hf
        obtain ⟨fld, h1, h2, h3⟩ := hf
        exact ⟨fld, by simpa using h1, h2, h3⟩
      obtain ⟨fld, hfld, rfl, rfl⟩ := hfl
      split at hv
      · cases hv
      · rename_i hz
        have hz' : ¬ tf.size = 0 := by simpa using hz
        have run : ∀ b off', (Instr.fieldAt t (.pointer (some ⟨b, off', none⟩)) k).run P w = .ok (.pointer (some ⟨b, off' + fld.offset, none⟩)) w := by
          intro b off'
          simp only [Instr.fieldAt, Sem.run_bind, run_und hd, Result.andThen_ok, hfld, Instr.sureAddr, Sem.run_pure, fieldPlace, run_sizeA (TT _ _ htf), hz', if_false, addr_add]
        split at hv
        · injection hv with hv; subst hv
          cases ha with
          | ref cs b off' f hI hc hr =>
            refine ⟨_, run b off', .ref _ b _ (fun i => f (fld.offset + i)) (fun h0 => hI (by simp at h0; omega)) (fun i c hi => ?_) (fun i c hi => ?_)⟩
            · rw [Nat.add_assoc]; exact hc _ c (by simpa using hi)
            · exact hr _ c (by simpa using hi)
        · rename_i o off' g
          split at hv
          · rename_i hl
            injection hv with hv; subst hv
            cases ha with
            | ptr _ _ _ b h1 h2 => exact ⟨_, run b off', .ptr _ _ _ b h1 h2⟩
            | ptrOld _ _ _ g' a h1 h2 => have := genOf_live hl; rw [this] at h1; injection h1; omega
          · cases hv
        · cases hv
    | _ => simp only [TD.ok] at hok
  · cases hv
theorem indexAddr_rel (TT : TabOk P C) {t : Nat} {a i v : AV} {u ui : Value} (ha : VR s h w a u) (hi : VR s h w i ui) (hv : indexAddrA C h t a i = some v) : PRun P s h w (Instr.indexAt t u ui) v := by
  unfold indexAddrA at hv
  simp only [Option.bind_eq_bind] at hv
  replace hv := Option.bind_eq_some_iff.1 hv
  obtain ⟨ti, hti, hv⟩ := hv
  obtain ⟨d, hd, hok⟩ := (TT t ti hti).und
  generalize ti.td = td at hok hv
  cases i <;> simp only [reduceCtorEq] at hv
  case int kk n =>
    cases hi
    split at hv
    · cases hv
    rename_i hn
    split at hv
    ·
      rename_i e xs z r
      replace hv := Option.bind_eq_some_iff.1 hv
      obtain ⟨x, hx, hv⟩ := hv
      replace hv := Option.bind_eq_some_iff.1 hv
      obtain ⟨te, hte, hv⟩ := hv
      split at hv
      · rename_i hsz
        injection hv with hv; subst hv
        have hsz' : x.cells.length = te.size := by simpa using hsz
        cases d <;> simp only [TD.ok] at hok
        subst hok
        have hlt : n.toNat < xs.length := (List.getElem?_eq_some_iff.1 hx).1
        cases ha with
        | lstNil => simp at hlt
        | lstEmpty => simp at hlt
        | lst _ _ _ b off c f hI hr hle hz hc hrr =>
          have ez : z = te.size := by rw [← hz _ x hx]; exact hsz'
          subst ez
          refine ⟨.pointer (some ⟨b, off + n.toNat * te.size, none⟩), ?_, .ref _ b _ (fun j => f n.toNat j) (fun _ => hI (by omega)) (fun j y hj => hc _ j x y hx hj) (fun j y hj => hrr _ j x y hx hj)⟩
          have h0 : 0 ≤ n ∧ n < (xs.length : Int) := ⟨by omega, by omega⟩
          simp only [Instr.indexAt, asIntOf, Sem.run_bind, Sem.run_pure, Result.andThen_ok, run_und hd, h0, and_self, if_true, run_sizeA (TT _ _ hte), addr_add]
      · cases hv
    ·
      rename_i e o off len sz g cap
      replace hv := Option.bind_eq_some_iff.1 hv
      obtain ⟨te, hte, hv⟩ := hv
      split at hv
      · rename_i hcond
        injection hv with hv; subst hv
        simp only [Bool.and_eq_true, decide_eq_true_eq, beq_iff_eq] at hcond
        obtain ⟨⟨hlt, rfl⟩, hl⟩ := hcond
        cases d <;> simp only [TD.ok] at hok
        subst hok
        cases ha with
        | msl _ _ _ _ _ _ b c el m off' h0 h1 h2 h3 h4 h5 h6 h7 =>
          obtain rfl : off' = off := h0.resolve_right (by omega)
          refine ⟨.pointer (some ⟨b, _ + n.toNat * te.size, none⟩), ?_, .ptr _ _ _ b h1 h2⟩
          have h0 : 0 ≤ n ∧ n < (len : Int) := ⟨by omega, by omega⟩
          simp only [Instr.indexAt, asIntOf, Sem.run_bind, Sem.run_pure, Result.andThen_ok, run_und hd, h0, and_self, if_true, run_sizeA (TT _ _ hte), addr_add]
        | mslOld _ _ _ _ _ _ g' a n c h1 h2 => have := genOf_live hl; rw [this] at h1; injection h1; omega
      · cases hv
    ·
      rename_i len e cs
      split at hv
      · rename_i hlt
        replace hv := Option.bind_eq_some_iff.1 hv
        obtain ⟨te, hte, hv⟩ := hv
        injection hv with hv; subst hv
        cases d <;> simp only [TD.ok] at hok
        obtain ⟨ea, eb⟩ := hok
        rw [ea, eb] at hd
        cases ha with
        | ref _ b off f hI hc hr =>
          refine ⟨.pointer (some ⟨b, off + n.toNat * te.size, none⟩), ?_, .ref _ b _ (fun j => f (n.toNat * te.size + j)) (fun h0 => hI (by simp at h0; omega)) (fun j y hj => ?_) (fun j y hj => hr _ y (by simpa using hj))⟩
          · have h0 : 0 ≤ n ∧ n < (len : Int) := ⟨by omega, by omega⟩
            simp only [Instr.indexAt, asIntOf, Sem.run_bind, Sem.run_pure, Result.andThen_ok, run_und hd, Instr.sureAddr, h0, and_self, if_true, run_sizeA (TT _ _ hte), addr_add]
          · rw [Nat.add_assoc]; exact hc _ y (by simpa using hj)
      · cases hv
    ·
      rename_i len e o off g
      split at hv
      · rename_i hcond
        simp only [Bool.and_eq_true, decide_eq_true_eq] at hcond
        obtain ⟨hlt, hl⟩ := hcond
        replace hv := Option.bind_eq_some_iff.1 hv
        obtain ⟨te, hte, hv⟩ := hv
        injection hv with hv; subst hv
        cases d <;> simp only [TD.ok] at hok
        obtain ⟨ea, eb⟩ := hok
        rw [ea, eb] at hd
        cases ha with
        | ptr _ _ _ b h1 h2 =>
          refine ⟨.pointer (some ⟨b, _ + n.toNat * te.size, none⟩), ?_, .ptr _ _ _ b h1 h2⟩
          have h0 : 0 ≤ n ∧ n < (len : Int) := ⟨by omega, by omega⟩
          simp only [Instr.indexAt, asIntOf, Sem.run_bind, Sem.run_pure, Result.andThen_ok, run_und hd, Instr.sureAddr, h0, and_self, if_true, run_sizeA (TT _ _ hte), addr_add]
        | ptrOld _ _ _ g' a h1 h2 => have := genOf_live hl; rw [this] at h1; injection h1; omega
      · cases hv
    · cases hv
end
end Go.Rv
namespace Go.Rv
section
variable {P : Program} {C : Cfg} {s : Sim} {h : Heap} {w : World}
theorem VRs.nil : VRs s h w [] [] := ⟨rfl, fun i c hi => by simp at hi⟩
theorem VRs.cons {x : AV} {v : Value} {xs : List AV} {vs : List Value} (h1 : VR s h w x v) (h2 : VRs s h w xs vs) : VRs s h w (x :: xs) (v :: vs) :=
  ⟨by simp [h2.1], fun i c hi => by
    cases i with
    | zero => simp at hi; subst hi; exact ⟨v, rfl, h1⟩
    | succ i => exact h2.2 i c (by simpa using hi)⟩
theorem VRs.tail {x : AV} {v : Value} {xs : List AV} {vs : List Value} (H : VRs s h w (x :: xs) (v :: vs)) : VR s h w x v ∧ VRs s h w xs vs := by
  obtain ⟨u, hu, hr⟩ := H.2 0 x rfl
  simp at hu
  subst hu
  exact ⟨hr, by have := H.1; simpa using this, fun i c hi => H.2 (i + 1) c (by simpa using hi)⟩
theorem VRs.append {xs ys : List AV} {vs us : List Value} (h1 : VRs s h w xs vs) (h2 : VRs s h w ys us) : VRs s h w (xs ++ ys) (vs ++ us) :=
  ⟨by simp [h1.1, h2.1], fun i c hi => by
    rw [List.getElem?_append] at hi ⊢
    rw [← h1.1]
    split at hi
    · rename_i hl; rw [if_pos hl]; exact h1.2 i c hi
    · rename_i hl; rw [if_neg hl]; exact h2.2 _ c hi⟩
theorem VRs.set {xs ys : List AV} {vs us : List Value} (h1 : VRs s h w xs vs) (h2 : VRs s h w ys us) (off : Nat) (hl : off + ys.length ≤ xs.length) : VRs s h w (setCells xs off ys) (setCells vs off us) :=
  ⟨by simp [setCells_length, h1.1], fun i c hi => by
    rw [setCells_get ys xs off i hl] at hi
    rw [setCells_get us vs off i (by rw [← h1.1, ← h2.1]; exact hl), ← h2.1]
    split at hi
    · rename_i hc; rw [if_pos hc]; exact h2.2 _ c hi
    · rename_i hc; rw [if_neg hc]; exact h1.2 i c hi⟩
theorem all_one {xs : List AV} {vs : List Value} (H : VRs s h w xs vs) (hl : xs.all AV.leaf = true) : ∀ v ∈ vs, v.oneCell' = true := by
  intro v hv
  obtain ⟨i, hi, rfl⟩ := List.mem_iff_getElem.1 hv
  have hx : i < xs.length := by rw [H.1]; exact hi
  obtain ⟨u, hu, hr⟩ := H.2 i xs[i] (List.getElem?_eq_getElem hx)
  rw [List.getElem?_eq_getElem hi] at hu
  injection hu with hu
  rw [hu]
  exact leaf_one (List.all_eq_true.1 hl _ (List.getElem_mem hx)) hr
theorem store_rel (TT : TabOk P C) (R : Rel s h w) {t : Nat} {a x : AV} {u v : Value} {h' : Heap} (ha : VR s h w a u) (hx : VR s h w x v) (hs : storeA C h t a x = some h') :
    ∃ w', (Instr.storeAt t u v).run P w = .ok () w' ∧ Ext s h w s h' w' ∧ Rel s h' w' := by
  unfold storeA at hs
  simp only [Option.bind_eq_bind] at hs
  replace hs := Option.bind_eq_some_iff.1 hs
  obtain ⟨ti, hti, hs⟩ := hs
  cases a <;> simp only [reduceCtorEq] at hs
  case ptr o off g =>
    replace hs := Option.bind_eq_some_iff.1 hs
    obtain ⟨cs, ho, hs⟩ := hs
    split at hs
    · rename_i hc
      simp only [Bool.and_eq_true, beq_iff_eq, decide_eq_true_eq] at hc
      obtain ⟨⟨hl, hle⟩, hleaf⟩ := hc
      injection hs with hs
      subst hs
      cases ha with
      | ptr _ _ _ b h1 h2 =>
        have hj : x ≠ .junk := by rintro rfl; simp [AV.cells, AV.leaf] at hleaf
        have hv := agg_cells hx hj
        obtain ⟨w', hrun, E, R'⟩ := store_cells (P := P) R h2 ho (by rw [hl]; exact hle) hv (all_one hv hleaf) 0
        refine ⟨w', ?_, E, R'⟩
        have hsz : v.cells.size = ti.size := by rw [← hl, hv.1]; simp
        simp only [Instr.storeAt, Instr.sureAddr, Sem.run_bind, Sem.run_pure, Result.andThen_ok, storeVar, run_sizeA (TT t ti hti), hsz, ne_eq, not_true_eq_false, if_false]
        exact hrun off rfl
      | ptrOld _ _ _ g' a h1 h2 => have := (genOf_obj ho).1; rw [this] at h1; injection h1; omega
    · cases hs
theorem zero_rel {t : Nat} {ti : TI} (T : TyOk P t ti) : ∃ z, (∀ w, (zeroValue t).run P w = .ok z w) ∧ VRs s h w ti.zero z.cells.toList := by
  obtain ⟨z, h1, h2, h3⟩ := run_zeroA T
  refine ⟨z, h1, by simp [h2], fun i c hi => ?_⟩
  have hlt : i < z.cells.size := by rw [h2]; exact (List.getElem?_eq_some_iff.1 hi).1
  refine ⟨z.cells[i], by simp [hlt], ?_⟩
  have := ofValue_rel (s := s) (h := h) (w := w) (h3 i c hi)
  simpa [hlt] using this
theorem newVar_rel (R : Rel s h w) (el : TypeId) {cs : List AV} {vs : Array Value} (hv : VRs s h w cs vs.toList) :
    HRun P s h w (do pure (.pointer (some (← newRow el vs)))) (.ptr h.length 0 0) (h ++ [.cells cs 0]) := by
  have key := new_cells R (cs := cs) (vs := vs) el (by have := hv.1; simp at this; omega) (fun i c hi => by
    obtain ⟨v, h1, h2⟩ := hv.2 i c hi; exact ⟨v, by simpa using h1, h2⟩)
  refine ⟨_, _, .pointer (some ⟨w.heap.size, 0, none⟩), ?_, key.1, key.2, .ptr _ _ _ w.heap.size (by rw [genOf_new]) (by simp [Sim.add])⟩
  simp only [newRow, Sem.run_bind, run_newObj, Result.andThen_ok, Sem.run_pure]
  rfl
theorem alloc_rel (TT : TabOk P C) (R : Rel s h w) {t : Nat} {ti : TI} (hti : C.ty t = some ti) : HRun P s h w (Instr.alloc t true (.tuple #[])) (.ptr h.length 0 0) (h ++ [.cells ti.zero 0]) := by
  obtain ⟨z, h1, h2⟩ := zero_rel (s := s) (h := h) (w := w) (TT t ti hti)
  obtain ⟨s', w', x, hr, rest⟩ := newVar_rel (P := P) R t h2
  exact ⟨s', w', x, by
    simp only [Instr.alloc, Sem.run_bind, h1, Result.andThen_ok, newVar]
    simpa only [Sem.run_bind] using hr, rest⟩
theorem box_rel (R : Rel s h w) (t : Nat) {a : AV} {u : Value} (ha : VR s h w a u) (hj : a ≠ .junk) : HRun P s h w (Instr.box t u) (.ptr h.length 0 0) (h ++ [.cells a.cells 0]) := by
  obtain ⟨s', w', x, hr, rest⟩ := newVar_rel (P := P) R t (agg_cells ha hj)
  exact ⟨s', w', x, by simpa only [Instr.box, newVar, Sem.run_bind] using hr, rest⟩
theorem foldl_set (vs : List Value) (off : Nat) : ∀ (k : Nat) (cs : Array Value), ((vs.zipIdx k).foldl (fun (cs : Array Value) (p : Value × Nat) => cs.setIfInBounds (off + p.2) p.1) cs).toList = setCells cs.toList (off + k) vs := by
  induction vs with
  | nil => intro k cs; rfl
  | cons v r ih =>
    intro k cs
    simp only [List.zipIdx_cons, List.foldl_cons, setCells]
    rw [ih (k + 1)]
    simp [Nat.add_assoc]
theorem fill_rel {place place' : Nat → Option (Nat × Nat)} (hp : ∀ i x, place i = some x → place' i = some x) : ∀ (ps : List (Nat × AV)) (qs : List (Nat × Value)) (cells cells' : List AV) (vs : Array Value),
    ps.length = qs.length → (∀ (i : Nat) p q, ps[i]? = some p → qs[i]? = some q → p.1 = q.1 ∧ VR s h w p.2 q.2 ∧ p.2 ≠ .junk) → VRs s h w cells vs.toList → fillA place cells ps = some cells' →
    ∃ us, Instr.fill place' vs qs = some us ∧ VRs s h w cells' us.toList
  | [], [], cells, cells', vs, _, _, hv, hf => by
    simp only [fillA, Option.some.injEq] at hf
    subst hf
    exact ⟨vs, rfl, hv⟩
  | p :: ps, q :: qs, cells, cells', vs, hl, hpq, hv, hf => by
    obtain ⟨i, x⟩ := p
    obtain ⟨j, v⟩ := q
    obtain ⟨rfl, hx, hj⟩ := hpq 0 _ _ rfl rfl
    simp only at hx hj
    simp only [fillA, Option.bind_eq_bind] at hf
    replace hf := Option.bind_eq_some_iff.1 hf
    obtain ⟨⟨off, size⟩, hpl, hf⟩ := hf
    simp only at hf
    split at hf
    · rename_i hc
      simp only [Bool.and_eq_true, beq_iff_eq, decide_eq_true_eq] at hc
      obtain ⟨h1, h2⟩ := hc
      have hxc := agg_cells hx hj
      have hvsz : v.cells.size = size := by have := hxc.1; simp at this; omega
      have hcl : cells.length = vs.size := by have := hv.1; simpa using this
      have hset := hv.set hxc off (by rw [h1]; exact h2)
      have hfold := foldl_set v.cells.toList off 0 vs
      obtain ⟨us, hus, hr⟩ := fill_rel hp ps qs _ cells' (v.cells.zipIdx.foldl (fun (cs : Array Value) (p : Value × Nat) => cs.setIfInBounds (off + p.2) p.1) vs) (by simpa using hl) (fun k p q hk hk' => hpq (k + 1) p q (by simpa using hk) (by simpa using hk'))
        (by
          have e : (v.cells.zipIdx.foldl (fun (cs : Array Value) (p : Value × Nat) => cs.setIfInBounds (off + p.2) p.1) vs).toList = setCells vs.toList off v.cells.toList := by
            rw [← Array.foldl_toList, Array.toList_zipIdx]
            exact hfold
          rw [e]; exact hset) hf
      refine ⟨us, ?_, hr⟩
      simp only [Instr.fill, hp i _ hpl]
      rw [if_neg (by simp [hvsz]; omega)]
      exact hus
    · cases hf
theorem mapM_list {α β : Type} (f : α → Sem β) (g : α → β) : ∀ (l : List α), (∀ a ∈ l, ∀ w, (f a).run P w = .ok (g a) w) → (l.mapM f).run P w = .ok (l.map g) w
  | [], _ => by simp
  | a :: l, hf => by
    rw [List.mapM_cons]
    simp only [Sem.run_bind, hf a (by simp) w, Result.andThen_ok, mapM_list f g l (fun b hb => hf b (by simp [hb])), Sem.run_pure, List.map_cons]
theorem mapM_arr {α β : Type} (f : α → Sem β) (g : α → β) (l : Array α) (hf : ∀ a ∈ l, ∀ w, (f a).run P w = .ok (g a) w) : (l.mapM f).run P w = .ok (l.map g) w := by
  rw [Array.mapM_eq_mapM_toList, Sem.run_map, mapM_list f g l.toList (fun a ha => hf a (by simpa using ha))]
  simp only [Result.andThen_ok]
  congr 1
  apply Array.ext'
  simp
theorem build_rel (TT : TabOk P C) {t : Nat} {ps : List (Nat × AV)} {qs : Array (Nat × Value)} {v : AV} (hl : ps.length = qs.size)
    (hpq : ∀ (i : Nat) p q, ps[i]? = some p → qs.toList[i]? = some q → p.1 = q.1 ∧ VR s h w p.2 q.2 ∧ p.2 ≠ .junk) (hv : buildA C t ps = some v) : PRun P s h w (Instr.build t qs) v := by
  unfold buildA at hv
  simp only [Option.bind_eq_bind] at hv
  replace hv := Option.bind_eq_some_iff.1 hv
  obtain ⟨ti, hti, hv⟩ := hv
  obtain ⟨d, hd, hok⟩ := (TT t ti hti).und
  obtain ⟨z, hz1, hz2⟩ := zero_rel (s := s) (h := h) (w := w) (TT t ti hti)
  generalize ti.td = td at hok hv
  cases td <;> simp only [reduceCtorEq] at hv
  case struct fs =>
    replace hv := Option.bind_eq_some_iff.1 hv
    obtain ⟨cs, hf, hv⟩ := hv
    injection hv with hv; subst hv
    cases d <;> simp only [TD.ok] at hok
    rename_i l
    have hrun := mapM_arr (P := P) (w := w) (fun f : Field => do pure (f.offset, ← sizeOf f.type)) (fun f : Field => (f.offset, ((P.info? f.type).map (·.size)).getD 0)) l
    · have hall := (TT t ti hti).fields l hd
      have hrun := hrun (fun f hf w => by
        obtain ⟨i, hi⟩ := hall f hf
        simp [sizeOf, typeInfo, hi])
      obtain ⟨us, hus, hr⟩ := fill_rel (place' := ((l.map fun f : Field => (f.offset, ((P.info? f.type).map (·.size)).getD 0))[·]?)) (fun i x hx => by
        obtain ⟨⟨ft, off⟩, h1, h2⟩ := Option.bind_eq_some_iff.1 hx
        obtain ⟨tf, h3, h4⟩ := Option.map_eq_some_iff.1 h2
        obtain ⟨info, z, h5, h6, _⟩ := (TT ft tf h3).info
        rw [← hok] at h1
        simp only [List.getElem?_map, Option.map_eq_some_iff, Prod.mk.injEq] at h1
        obtain ⟨fld, h7, h8, h9⟩ := h1
        rw [← h4]
        have : l[i]? = some fld := by simpa using h7
        simp [this, h8, h9, h5, h6]) ps qs.toList ti.zero cs z.cells (by simpa using hl) hpq hz2 hf
      refine ⟨.agg us, ?_, .agg _ _ (by have := hr.1; simpa using this) (fun i c hi => ?_)⟩
      · simp only [Instr.build, Sem.run_bind, hz1, Result.andThen_ok, run_und hd, hrun, hus, Sem.run_pure]
      · obtain ⟨u, hu, hur⟩ := hr.2 i c hi
        have hlt : i < us.size := by have := (List.getElem?_eq_some_iff.1 hu).1; simpa using this
        have : us[i] = u := by simpa [hlt] using hu
        simp [hlt, this, hur]
  case array n e =>
    replace hv := Option.bind_eq_some_iff.1 hv
    obtain ⟨te, hte, hv⟩ := hv
    replace hv := Option.bind_eq_some_iff.1 hv
    obtain ⟨cs, hf, hv⟩ := hv
    injection hv with hv; subst hv
    cases d <;> simp only [TD.ok] at hok
    obtain ⟨ea, eb⟩ := hok
    rw [ea, eb] at hd
    obtain ⟨us, hus, hr⟩ := fill_rel (place' := fun i => some (i * te.size, te.size)) (fun i x hx => hx) ps qs.toList ti.zero cs z.cells (by simpa using hl) hpq hz2 hf
    refine ⟨.agg us, ?_, .agg _ _ (by have := hr.1; simpa using this) (fun i c hi => ?_)⟩
    · simp only [Instr.build, Sem.run_bind, hz1, Result.andThen_ok, run_und hd, run_sizeA (TT _ _ hte), hus, Sem.run_pure]
    · obtain ⟨u, hu, hur⟩ := hr.2 i c hi
      have hlt : i < us.size := by have := (List.getElem?_eq_some_iff.1 hu).1; simpa using this
      have : us[i] = u := by simpa [hlt] using hu
      simp [hlt, this, hur]
theorem copies_length (n : Nat) (z : List AV) : (copies n z).length = n * z.length := by
  induction n with
  | zero => simp [copies]
  | succ n ih => simp [copies, ih]; rw [Nat.succ_mul]; omega
theorem copies_get (n : Nat) (z : List AV) (i : Nat) (hi : i < n * z.length) : (copies n z)[i]? = z[i % z.length]? := by
  induction n generalizing i with
  | zero => simp at hi
  | succ n ih =>
    simp only [copies]
    by_cases h1 : i < z.length
    · rw [List.getElem?_append_left h1, Nat.mod_eq_of_lt h1]
    · rw [List.getElem?_append_right (by omega), ih (i - z.length) (by rw [Nat.succ_mul] at hi; omega)]
      rw [Nat.mod_eq_sub_mod (show z.length ≤ i by omega)]
theorem zeros_rel {zero : List AV} {z : Array Value} (hz : VRs s h w zero z.toList) (n : Nat) : VRs s h w (copies n zero) ((Array.range (n * z.size)).map fun i => z[i % z.size]!).toList := by
  have hl : zero.length = z.size := by have := hz.1; simpa using this
  refine ⟨by simp [copies_length, hl], fun i c hi => ?_⟩
  have hlt : i < n * zero.length := by have := (List.getElem?_eq_some_iff.1 hi).1; rw [copies_length] at this; exact this
  rw [copies_get n zero i hlt] at hi
  obtain ⟨v, hv, hr⟩ := hz.2 _ c hi
  refine ⟨v, ?_, hr⟩
  rw [hl] at hv hlt
  have hm : i % z.size < z.size := Nat.mod_lt _ (by
    rcases Nat.eq_zero_or_pos z.size with h0 | h0
    · rw [h0] at hlt; simp at hlt
    · exact h0)
  have : z[i % z.size]! = v := by
    rw [getElem!_pos z _ hm]
    have : z[i % z.size]? = some v := by simpa using hv
    rw [Array.getElem?_eq_getElem hm] at this
    injection this
  simp [Array.toList_map, Array.toList_range, List.getElem?_map, List.getElem?_range hlt, this]
end
end Go.Rv
namespace Go.Rv
section
variable {P : Program} {C : Cfg} {s : Sim} {h : Heap} {w : World}
theorem one_cells (c : AV) : (one c).cells = [c] := by cases c <;> rfl
theorem group_length (n : Nat) (cs : List AV) (sz : Nat) : (group n cs sz).length = n := by
  induction n generalizing cs with
  | zero => rfl
  | succ n ih => simp [group, ih]
theorem group_get (n : Nat) : ∀ (cs : List AV) (sz i : Nat) (x : AV), n * sz ≤ cs.length → (group n cs sz)[i]? = some x → x.cells = (cs.drop (i * sz)).take sz := by
  induction n with
  | zero => intro cs sz i x _ hx; simp [group] at hx
  | succ n ih =>
    intro cs sz i x hl hx
    rw [Nat.succ_mul] at hl
    cases i with
    | zero =>
      simp only [group, List.getElem?_cons_zero, Option.some.injEq] at hx
      subst hx
      simp only [Nat.zero_mul, List.drop_zero]
      split
      · rename_i h1
        have h1' : sz = 1 := by simpa using h1
        subst h1'
        rw [one_cells]
        cases cs with
        | nil => simp at hl
        | cons c r => rfl
      · rfl
    | succ i =>
      simp only [group, List.getElem?_cons_succ] at hx
      rw [ih (cs.drop sz) sz i x (by simp; omega) hx, List.drop_drop]
      rw [Nat.succ_mul, Nat.add_comm]
theorem group_cells_length {n : Nat} {cs : List AV} {sz i : Nat} {x : AV} (hl : n * sz ≤ cs.length) (hx : (group n cs sz)[i]? = some x) : x.cells.length = sz := by
  rw [group_get n cs sz i x hl hx]
  have hi : i < n := by have := (List.getElem?_eq_some_iff.1 hx).1; rw [group_length] at this; exact this
  have : (i + 1) * sz ≤ n * sz := Nat.mul_le_mul_right _ hi
  rw [Nat.succ_mul] at this
  simp
  omega
theorem group_cell {n : Nat} {cs : List AV} {sz i j : Nat} {x y : AV} (hl : n * sz ≤ cs.length) (hx : (group n cs sz)[i]? = some x) (hy : x.cells[j]? = some y) : cs[i * sz + j]? = some y := by
  rw [group_get n cs sz i x hl hx, List.getElem?_take] at hy
  split at hy
  · simpa using hy
  · cases hy
theorem group_flat (n : Nat) : ∀ (cs : List AV) (sz : Nat), n * sz ≤ cs.length → ((group n cs sz).map AV.cells).flatten = cs.take (n * sz) := by
  induction n with
  | zero => intro cs sz _; simp [group]
  | succ n ih =>
    intro cs sz hl
    rw [Nat.succ_mul] at hl
    have h0 := group_get (n + 1) cs sz 0 _ (by rw [Nat.succ_mul]; exact hl) rfl
    simp only [group, List.map_cons, List.flatten_cons]
    simp only [Nat.zero_mul, List.drop_zero] at h0
    rw [h0, ih (cs.drop sz) sz (by simp; omega), Nat.succ_mul, Nat.add_comm (n * sz) sz, List.take_add]
theorem lst_of_cells {cs : List AV} {b off n sz c : Nat} {room : Room} (hI : 0 < n → s.I b) (hl : n * sz ≤ cs.length) (hr : Reads s h w b off cs) (hroom : room.ok c) (hc : n ≤ c) :
    VR s h w (.lst (group n cs sz) sz room) (.slice (some ⟨b, off, none⟩) n c) := by
  have := VR.lst (s := s) (h := h) (w := w) (group n cs sz) sz room b off c (fun i j => (w.cell? ⟨b, off + i * sz + j, none⟩).getD undef) (by rw [group_length]; exact hI) hroom (by rw [group_length]; exact hc)
    (fun i x hx => group_cells_length hl hx)
    (fun i j x y hx hy => by
      obtain ⟨v, hv, _⟩ := hr _ y (group_cell hl hx hy)
      rw [show off + i * sz + j = off + (i * sz + j) from by omega, hv]; rfl)
    (fun i j x y hx hy => by
      obtain ⟨v, hv, hvr⟩ := hr _ y (group_cell hl hx hy)
      rw [show off + i * sz + j = off + (i * sz + j) from by omega, hv]; exact hvr)
  rw [group_length] at this
  exact this
theorem buildSlice_rel (TT : TabOk P C) (R : Rel s h w) {t el len : Nat} {ti te : TI} {ps : List (Nat × AV)} {qs : Array (Nat × Value)} {cs : List AV} (hti : C.ty t = some ti) (htd : ti.td = .slice el) (hte : C.ty el = some te)
    (hz : te.zero.length = te.size) (hle : len * te.size ≤ 16777216) (hl : ps.length = qs.size)
    (hpq : ∀ (i : Nat) p q, ps[i]? = some p → qs.toList[i]? = some q → p.1 = q.1 ∧ VR s h w p.2 q.2 ∧ p.2 ≠ .junk)
    (hf : fillA (fun i => some (i * te.size, te.size)) (copies len te.zero) ps = some cs) :
    HRun P s h w (Instr.buildSlice t len qs) (.lst (group len cs te.size) te.size (.exact len)) h ∧
    HRun P s h w (Instr.buildSlice t len qs) (.msl h.length 0 len te.size 0 (some len)) (h ++ [.cells cs 0]) := by
  obtain ⟨d, hd, hok⟩ := (TT t ti hti).und
  rw [htd] at hok
  cases d <;> simp only [TD.ok] at hok
  rw [hok] at hd
  obtain ⟨z, hz1, hz2⟩ := zero_rel (s := s) (h := h) (w := w) (TT el te hte)
  have hzs : z.cells.size = te.size := by have := hz2.1; simp at this; omega
  have hzr := zeros_rel hz2 len
  obtain ⟨us, hus, hr⟩ := fill_rel (place' := fun i => some (i * te.size, te.size)) (fun i x hx => hx) ps qs.toList _ cs _ (by simpa using hl) hpq hzr hf
  have hcl : cs.length = len * te.size := by
    have h1 : ∀ (ps : List (Nat × AV)) (c c' : List AV), fillA (fun i => some (i * te.size, te.size)) c ps = some c' → c'.length = c.length := by
      intro ps
      induction ps with
      | nil => intro c c' hc; simp [fillA] at hc; rw [hc]
      | cons p ps ih =>
        intro c c' hc
        obtain ⟨i, x⟩ := p
        simp only [fillA, Option.bind_eq_bind, Option.bind_some] at hc
        split at hc
        · rw [ih _ _ hc, setCells_length]
        · cases hc
    rw [h1 ps _ cs hf, copies_length, hz]
  have hrun : (Instr.buildSlice t len qs).run P w = .ok (.slice (some ⟨w.heap.size, 0, none⟩) len len) (w.alloc (.cells us el)) := by
    have tail : (newRow el us >>= fun a => (pure (Value.slice (some a) len len) : Sem Value)).run P w = .ok (.slice (some ⟨w.heap.size, 0, none⟩) len len) (w.alloc (.cells us el)) := by
      simp only [newRow, Sem.run_bind, run_newObj, Result.andThen_ok, Sem.run_pure]
      rfl
    rw [hzs] at hus
    simp only [Instr.buildSlice, Sem.run_bind, run_und hd, Result.andThen_ok, run_sizeA (TT _ _ hte), show ¬ len * te.size > 2 ^ 24 from by omega, if_false]
    by_cases h0 : len * te.size = 0
    · have r0 : ∀ f : Nat → Value, Array.map f (Array.range 0) = #[] := fun f => by apply Array.ext'; simp
      have hus0 : Instr.fill (fun i => some (i * te.size, te.size)) #[] qs.toList = some us := by rw [h0, r0] at hus; exact hus
      simp only [h0, if_true, Sem.run_bind, Sem.run_pure, Result.andThen_ok]
      rw [r0, hus0]
      exact tail
    · simp only [h0, if_false, Sem.run_bind, hz1, Sem.run_pure, Result.andThen_ok, hzs]
      rw [hus]
      exact tail
  refine ⟨⟨_, _, _, hrun, Ext.block s h w _ true, R.block _ true, ?_⟩, ?_⟩
  · refine lst_of_cells (fun _ => .inr ⟨rfl, rfl⟩) (by omega) (fun i c hi => ?_) rfl (Nat.le_refl _)
    obtain ⟨v, hv, hvr⟩ := hr.2 i c hi
    refine ⟨v, ?_, hvr.ext R.apart (Ext.block s h w _ true)⟩
    simp only [Nat.zero_add, World.cell?, heap_alloc_at]
    simpa using hv
  · have key := new_cells R (cs := cs) (vs := us) el (by have := hr.1; simp at this; omega) (fun i c hi => by
      obtain ⟨v, h1, h2⟩ := hr.2 i c hi; exact ⟨v, by simpa using h1, h2⟩)
    refine ⟨_, _, _, hrun, key.1, key.2, .msl _ _ _ _ _ _ w.heap.size len el us.size 0 (.inl rfl) (by rw [genOf_new]) (by simp [Sim.add]) (Nat.le_refl _) (fun m hm => by injection hm) (fun hn => by cases hn) ?_ ?_⟩
    · simp only [World.shape?, heap_alloc_at]
    · have := hr.1; simp at this; omega
theorem boxImm_rel (R : Rel s h w) (t : Nat) {a : AV} {u : Value} (ha : VR s h w a u) (hj : a ≠ .junk) : HRun P s h w (Instr.box t u) (.ref a.cells) h := by
  have hv := agg_cells ha hj
  have hrun : (Instr.box t u).run P w = .ok (.pointer (some ⟨w.heap.size, 0, none⟩)) (w.alloc (.cells u.cells t)) := by
    simp only [Instr.box, newVar, newRow, Sem.run_bind, run_newObj, Result.andThen_ok, Sem.run_pure]
    rfl
  refine ⟨_, _, _, hrun, Ext.block s h w _ true, R.block _ true, .ref _ w.heap.size 0 (fun i => u.cells.getD i undef) (fun _ => .inr ⟨rfl, rfl⟩) (fun i c hi => ?_) (fun i c hi => ?_)⟩
  · obtain ⟨v, hv1, _⟩ := hv.2 i c hi
    simp only [Nat.zero_add, World.cell?, heap_alloc_at]
    have hv1' : u.cells[i]? = some v := by simpa using hv1
    rw [Array.getD_eq_getD_getElem?, hv1']
    simp []
  · obtain ⟨v, hv1, hvr⟩ := hv.2 i c hi
    have hv1' : u.cells[i]? = some v := by simpa using hv1
    rw [Array.getD_eq_getD_getElem?, hv1']
    exact hvr.ext R.apart (Ext.block s h w _ true)
theorem part_rel {t : Nat} {ti : TI} (T : TyOk P t ti) {cs : List AV} {vs : Array Value} {off : Nat} {v : AV} (hl : cs.length = vs.size) (hr : ∀ (i : Nat) c, cs[i]? = some c → VR s h w c (vs.getD i undef)) (hp : Rv.part ti (cs.drop off) = some v) :
    PRun P s h w (Go.part t vs off) v := by
  unfold Rv.part at hp
  unfold PRun
  simp only [Go.part, Sem.run_bind, run_isAggA T, Result.andThen_ok]
  split at hp
  · rename_i hagg
    split at hp
    · rename_i hle
      injection hp with hp; subst hp
      have hle' : off + ti.size ≤ vs.size ∨ ti.size = 0 := by simp at hle; omega
      simp only [hagg, if_true, Sem.run_bind, run_sizeA T, Result.andThen_ok, Sem.run_pure]
      refine ⟨_, rfl, .agg _ _ (by simp at hle ⊢; omega) fun i c hi => ?_⟩
      rw [List.getElem?_take] at hi
      split at hi
      · rename_i hlt
        rw [List.getElem?_drop] at hi
        have := hr _ c hi
        have hb : off + i < vs.size := by rw [← hl]; exact (List.getElem?_eq_some_iff.1 hi).1
        have e : (vs.extract off (off + ti.size)).getD i undef = vs.getD (off + i) undef := by
          have h1 : i < min (off + ti.size) vs.size - off := by omega
          simp [Array.getD, hb, h1]
        rw [e]; exact this
      · cases hi
    · cases hp
  · rename_i hagg
    have hagg' : ti.td.isAgg = false := by simpa using hagg
    have h0 : cs[off]? = some v := by
      have : (cs.drop off)[0]? = some v := by rw [← List.head?_eq_getElem?]; exact hp
      simpa using this
    have hb : off < vs.size := by rw [← hl]; exact (List.getElem?_eq_some_iff.1 h0).1
    have := hr off v h0
    simp only [hagg', Bool.false_eq_true, if_false]
    refine ⟨vs[off], by simp [hb], ?_⟩
    simpa [hb] using this
theorem field_rel (TT : TabOk P C) {t k : Nat} {a v : AV} {u : Value} (ha : VR s h w a u) (hv : fieldA C t a k = some v) : PRun P s h w (Instr.field t u k) v := by
  unfold fieldA at hv
  simp only [Option.bind_eq_bind] at hv
  replace hv := Option.bind_eq_some_iff.1 hv
  obtain ⟨ti, hti, hv⟩ := hv
  obtain ⟨d, hd, hok⟩ := (TT t ti hti).und
  generalize ti.td = td at hok hv
  split at hv
  · rename_i fs cs
    replace hv := Option.bind_eq_some_iff.1 hv
    obtain ⟨⟨ft, off⟩, hf, hv⟩ := hv
    replace hv := Option.bind_eq_some_iff.1 hv
    obtain ⟨tf, htf, hv⟩ := hv
    cases d <;> simp only [TD.ok] at hok
    rename_i l
    rw [← hok] at hf
    simp only [List.getElem?_map, Option.map_eq_some_iff, Prod.mk.injEq] at hf
    obtain ⟨fld, h1, rfl, rfl⟩ := hf
    have h1' : l[k]? = some fld := by simpa using h1
    cases ha with
    | agg _ vs hl hr =>
      have := part_rel (P := P) (TT _ _ htf) hl hr hv
      obtain ⟨x, hx, hxr⟩ := this
      refine ⟨x, ?_, hxr⟩
      simp only [Instr.field, Sem.run_bind, run_und hd, Result.andThen_ok, h1', asAgg, Sem.run_pure, hx]
  · cases hv
theorem index_rel (TT : TabOk P C) {t : Nat} {a i v : AV} {u ui : Value} (ha : VR s h w a u) (hi : VR s h w i ui) (hv : indexA C t a i = some v) : PRun P s h w (Instr.index t u ui) v := by
  unfold indexA at hv
  simp only [Option.bind_eq_bind] at hv
  replace hv := Option.bind_eq_some_iff.1 hv
  obtain ⟨ti, hti, hv⟩ := hv
  obtain ⟨d, hd, hok⟩ := (TT t ti hti).und
  generalize ti.td = td at hok hv
  split at hv
  · rename_i l k n
    cases ha; cases hi
    split at hv
    · cases hv
    · rename_i hn
      obtain ⟨c, hc, rfl⟩ := Option.map_eq_some_iff.1 hv
      cases d <;> simp only [TD.ok] at hok
      refine ⟨.int .u8 c.toNat, ?_, .int _ _⟩
      have hlt : n.toNat < l.length := (List.getElem?_eq_some_iff.1 hc).1
      have hb : (⟨l.toArray⟩ : ByteArray)[n.toNat]? = some c := by
        have h1 : n.toNat < (⟨l.toArray⟩ : ByteArray).size := by simpa [ByteArray.size] using hlt
        have h2 : l[n.toNat] = c := by rw [List.getElem?_eq_getElem hlt] at hc; injection hc
        rw [getElem?_pos (⟨l.toArray⟩ : ByteArray) n.toNat h1]
        rw [← h2]
        rfl
      simp only [Instr.index, asIntOf, Sem.run_bind, Sem.run_pure, Result.andThen_ok, run_und hd, show 0 ≤ n from by omega, if_true, hb]
  · rename_i len e cs k n
    split at hv
    · cases hv
    · rename_i hn
      split at hv
      · rename_i hlt
        replace hv := Option.bind_eq_some_iff.1 hv
        obtain ⟨te, hte, hv⟩ := hv
        simp only [hte, Option.bind_some] at hv
        cases d <;> simp only [TD.ok] at hok
        obtain ⟨ea, eb⟩ := hok
        rw [ea, eb] at hd
        cases hi
        cases ha with
        | agg _ vs hl hr =>
          obtain ⟨x, hx, hxr⟩ := part_rel (P := P) (TT _ _ hte) hl hr hv
          refine ⟨x, ?_, hxr⟩
          simp only [Instr.index, asIntOf, Sem.run_bind, Sem.run_pure, Result.andThen_ok, run_und hd, show 0 ≤ n ∧ n < (len : Int) from ⟨by omega, by omega⟩, and_self, if_true, run_sizeA (TT _ _ hte), hx]
      · cases hv
  · cases hv
end
end Go.Rv
namespace Go.Rv
section
variable {P : Program} {C : Cfg} {s : Sim} {h : Heap} {w : World}
def VRo (s : Sim) (h : Heap) (w : World) : Option AV → Option Value → Prop
  | none, none => True
  | some x, some v => VR s h w x v
  | _, _ => False
theorem bound_run {x : AV} {u : Value} {d most y n : Nat} (hx : VR s h w x u) (hb : boundA (some x) d most = some n) (hm : most ≤ y) : n ≤ most ∧ ∀ code, (Instr.sliceBound u y code).run P w = .ok n w := by
  unfold boundA at hb
  cases x <;> simp only [reduceCtorEq] at hb
  case int k i =>
    cases hx
    split at hb
    · rename_i hc
      simp only [Bool.and_eq_true, decide_eq_true_eq] at hc
      injection hb with hb; subst hb
      refine ⟨by omega, fun code => ?_⟩
      simp only [Instr.sliceBound, asIntOf, Sem.run_bind, Sem.run_pure, Result.andThen_ok, show 0 ≤ i ∧ i ≤ (y : Int) from ⟨by omega, by omega⟩, and_self, if_true]
    · cases hb
theorem bounds_run {isSlice : Bool} {len cap most a b : Nat} {lo hi : Option AV} {lov hiv : Option Value} (hlo : VRo s h w lo lov) (hhi : VRo s h w hi hiv) (hb : boundA hi len most = some b) (ha : boundA lo 0 b = some a) (hm : most ≤ cap) (hl : len ≤ cap) :
    a ≤ b ∧ b ≤ cap ∧ (hi = none → b = len) ∧ (hi ≠ none → b ≤ most) ∧ (Instr.sliceBounds isSlice len cap lov hiv none).run P w = .ok (a, b, cap) w := by
  have hA : ∀ {a : Nat} {lo : Option AV} {lov : Option Value}, VRo s h w lo lov → boundA lo 0 b = some a → a ≤ b ∧ ∀ x, lov = some x → (Instr.sliceBound x b .sliceB).run P w = .ok a w := by
    intro a lo lov hlo ha
    cases lo with
    | none =>
      cases lov with
      | none =>
        simp only [boundA, Option.some.injEq] at ha
        subst ha
        exact ⟨Nat.zero_le _, fun x hx => by cases hx⟩
      | some v => exact hlo.elim
    | some x =>
      cases lov with
      | none => exact hlo.elim
      | some v =>
        obtain ⟨h3, h4⟩ := bound_run (P := P) hlo ha (Nat.le_refl _)
        exact ⟨h3, fun y hy => by injection hy with hy; subst hy; exact h4 _⟩
  obtain ⟨hab, hrunA⟩ := hA hlo ha
  have hnone : lov = none → a = 0 := by
    rintro rfl
    cases lo with
    | none => simpa [boundA] using ha.symm
    | some x => exact hlo.elim
  cases hi with
  | none =>
    cases hiv with
    | some v => exact hhi.elim
    | none =>
      simp only [boundA, Option.some.injEq] at hb
      subst hb
      refine ⟨hab, hl, fun _ => rfl, fun h => absurd rfl h, ?_⟩
      cases lov with
      | none =>
        obtain rfl := hnone rfl
        simp [Instr.sliceBounds]
      | some x => simp [Instr.sliceBounds, hrunA x rfl]
  | some y =>
    cases hiv with
    | none => exact hhi.elim
    | some v =>
      obtain ⟨h2, h3⟩ := bound_run (P := P) hhi hb hm
      refine ⟨hab, (by omega), (fun h => by cases h), (fun _ => h2), ?_⟩
      cases lov with
      | none =>
        obtain rfl := hnone rfl
        simp [Instr.sliceBounds, h3]
      | some x => simp [Instr.sliceBounds, h3, hrunA x rfl]
theorem lst_empty (z : Nat) (r : Room) (b off c : Nat) (hr : r.ok c) : VR s h w (.lst [] z r) (.slice (some ⟨b, off, none⟩) 0 c) :=
  .lst [] z r b off c (fun _ _ => .nilFunc) (fun h0 => by simp at h0) hr (Nat.zero_le _) (fun i x hx => by simp at hx) (fun i j x y hx => by simp at hx) (fun i j x y hx => by simp at hx)
theorem lst_cut {xs : List AV} {z sz a b b0 off : Nat} {r' : Room} {f : Nat → Nat → Value} (hI : 0 < xs.length → s.I b0) (hz : ∀ (i : Nat) x, xs[i]? = some x → x.cells.length = z)
    (hc : ∀ (i j : Nat) x y, xs[i]? = some x → x.cells[j]? = some y → w.cell? ⟨b0, off + i * z + j, none⟩ = some (f i j)) (hr : ∀ (i j : Nat) x y, xs[i]? = some x → x.cells[j]? = some y → VR s h w y (f i j))
    (hab : a ≤ b) (hb : b ≤ xs.length) (hsz : z = sz ∨ xs = []) (m : Nat) (hm : b ≤ m) (hroom : r'.ok (m - a)) :
    VR s h w (.lst ((xs.take b).drop a) z r') (.slice (some (if m = a then ⟨b0, off, none⟩ else (⟨b0, off, none⟩ : Addr).add (a * sz))) (b - a) (m - a)) := by
  by_cases he : b = a
  · subst he
    have e : (xs.take b).drop b = [] := by apply List.drop_eq_nil_of_le; simp; omega
    rw [e, Nat.sub_self]
    split
    · exact lst_empty _ _ _ _ _ hroom
    · rw [addr_add]; exact lst_empty _ _ _ _ _ hroom
  · have hlt : a < b := by omega
    have hne : xs ≠ [] := by rintro rfl; simp at hb; omega
    obtain rfl : z = sz := hsz.resolve_right hne
    rw [if_neg (by omega), addr_add]
    have hlen : ((xs.take b).drop a).length = b - a := by simp; omega
    have get : ∀ (i : Nat) x, ((xs.take b).drop a)[i]? = some x → xs[a + i]? = some x := fun i x hx => by
      rw [List.getElem?_drop, List.getElem?_take] at hx
      split at hx
      · exact hx
      · cases hx
    have := VR.lst (s := s) (h := h) (w := w) ((xs.take b).drop a) z r' b0 (off + a * z) (m - a) (fun i j => f (a + i) j) (fun _ => hI (by omega)) hroom (by omega)
      (fun i x hx => hz _ x (get i x hx))
      (fun i j x y hx hy => by
        have := hc _ j x y (get i x hx) hy
        rw [Nat.add_mul, ← Nat.add_assoc] at this
        exact this)
      (fun i j x y hx hy => hr _ j x y (get i x hx) hy)
    rw [hlen] at this
    exact this
theorem slice_rel (TT : TabOk P C) (R : Rel s h w) {t : Nat} {a v : AV} {u : Value} {lo hi : Option AV} {lov hiv : Option Value} (ha : VR s h w a u) (hlo : VRo s h w lo lov) (hhi : VRo s h w hi hiv) (hv : sliceA C h t a lo hi none = some v) :
    PRun P s h w (Instr.sliceAt t u lov hiv none) v := by
  unfold sliceA at hv
  simp only [Option.bind_eq_bind] at hv
  replace hv := Option.bind_eq_some_iff.1 hv
  obtain ⟨ti, hti, hv⟩ := hv
  obtain ⟨d, hd, hok⟩ := (TT t ti hti).und
  generalize ti.td = td at hok hv
  split at hv
  ·
    rename_i l
    simp only [Option.isSome_none, Bool.false_eq_true, if_false] at hv
    replace hv := Option.bind_eq_some_iff.1 hv
    obtain ⟨b, hb, hv⟩ := hv
    replace hv := Option.bind_eq_some_iff.1 hv
    obtain ⟨x, hx, hv⟩ := hv
    injection hv with hv; subst hv
    cases ha
    cases d <;> simp only [TD.ok] at hok
    have hsz : (⟨l.toArray⟩ : ByteArray).size = l.length := by simp [ByteArray.size]
    obtain ⟨h1, h2, _, _, h5⟩ := bounds_run (P := P) (isSlice := false) hlo hhi hb hx (Nat.le_refl _) (Nat.le_refl _)
    refine ⟨.string ⟨((l.take b).drop x).toArray⟩, ?_, .str _⟩
    simp only [Instr.sliceAt, Sem.run_bind, run_und hd, Result.andThen_ok, Instr.slice, Option.isSome_none, Bool.false_eq_true, if_false, hsz, h5, Sem.run_pure]
    rw [Lib.extract_eq]
    simp [List.drop_take]
  ·
    rename_i e xs z r
    replace hv := Option.bind_eq_some_iff.1 hv
    obtain ⟨te, hte, hv⟩ := hv
    split at hv
    · cases hv
    · rename_i hz0
      have hz1 : z = te.size ∨ xs = [] := by
        simp only [Bool.not_eq_true', Bool.or_eq_false_iff, not_and, Bool.not_eq_false, beq_eq_false_iff_ne, ne_eq] at hz0
        by_cases e1 : z = te.size
        · exact .inl e1
        · exact .inr (by simpa using hz0 e1)
      replace hv := Option.bind_eq_some_iff.1 hv
      obtain ⟨b, hb, hv⟩ := hv
      replace hv := Option.bind_eq_some_iff.1 hv
      obtain ⟨x, hx, hv⟩ := hv
      injection hv with hv
      cases d <;> simp only [TD.ok] at hok
      rw [hok] at hd
      cases ha with
      | lstNil =>
        obtain ⟨h1, h2, _, _, h5⟩ := bounds_run (P := P) (isSlice := true) hlo hhi hb hx (Nat.le_refl _) (Nat.le_refl _)
        have : b = 0 := by simpa using h2
        subst this
        have : x = 0 := by omega
        subst this
        simp only [List.take_zero, List.drop_nil] at hv
        subst hv
        simp only [List.length_nil] at h5
        refine ⟨.slice none 0 0, ?_, .lstNil _⟩
        simp only [Instr.sliceAt, Sem.run_bind, run_und hd, Result.andThen_ok, Instr.slice, h5, run_sizeA (TT _ _ hte), Sem.run_pure]
        rfl
      | lstEmpty _ A =>
        obtain ⟨h1, h2, _, _, h5⟩ := bounds_run (P := P) (isSlice := true) hlo hhi hb hx (Nat.le_refl _) (Nat.le_refl _)
        have : b = 0 := by simpa using h2
        subst this
        have : x = 0 := by omega
        subst this
        simp only [List.take_zero, List.drop_nil] at hv
        subst hv
        simp only [List.length_nil] at h5
        refine ⟨.slice (some A) 0 0, ?_, .lstEmpty _ A⟩
        simp only [Instr.sliceAt, Sem.run_bind, run_und hd, Result.andThen_ok, Instr.slice, h5, run_sizeA (TT _ _ hte), Sem.run_pure]
        rfl
      | lst _ _ _ b0 off c f hI hr hle hz hc hrr =>
        obtain ⟨h1, h2, h3, h4, h5⟩ := bounds_run (P := P) (isSlice := true) hlo hhi hb hx (Nat.le_trans (Nat.le_refl _) hle) hle
        have hbl : b ≤ xs.length := by
          cases hi with
          | none => exact Nat.le_of_eq (h3 rfl)
          | some y => exact h4 (by simp)
        subst hv
        refine ⟨.slice (some (if c = x then ⟨b0, off, none⟩ else (⟨b0, off, none⟩ : Addr).add (x * te.size))) (b - x) (c - x), ?_, ?_⟩
        · simp only [Instr.sliceAt, Sem.run_bind, run_und hd, Result.andThen_ok, Instr.slice, h5, run_sizeA (TT _ _ hte), Sem.run_pure]
          congr 2
          split <;> rfl
        · refine lst_cut hI hz hc hrr h1 hbl hz1 c (by omega) ?_
          cases r with
          | nil => exact hr.elim
          | exact n =>
            have hr' : c = n := hr
            subst hr'
            rfl
          | «open» => trivial
  ·
    rename_i e o off len sz g cap
    replace hv := Option.bind_eq_some_iff.1 hv
    obtain ⟨cs, ho, hv⟩ := hv
    replace hv := Option.bind_eq_some_iff.1 hv
    obtain ⟨te, hte, hv⟩ := hv
    simp only [Option.isSome_none, Bool.false_or, bne_iff_ne, ne_eq, ite_not] at hv
    split at hv
    · rename_i hsz
      replace hv := Option.bind_eq_some_iff.1 hv
      obtain ⟨b, hb, hv⟩ := hv
      replace hv := Option.bind_eq_some_iff.1 hv
      obtain ⟨x, hx, hv⟩ := hv
      injection hv with hv; subst hv
      cases d <;> simp only [TD.ok] at hok
      rw [hok] at hd
      obtain ⟨hg, _, hlen⟩ := genOf_obj ho
      cases ha with
      | msl _ _ _ _ _ _ b0 c el n off' hoff h1 h2 h3 h4 h5 h6 h7 =>
        have hm : (match (generalizing := false) cap with | some c => c | none => if sz == 0 then len else (cs.length - off) / sz) ≤ c := by
          cases cap with
          | some m => exact Nat.le_of_eq (h4 m rfl).symm
          | none =>
            simp only
            split
            · exact h3
            · rename_i hs
              have hs' : 0 < sz := by have : ¬ sz = 0 := by simpa using hs
                                      omega
              have := h5 rfl
              rw [hlen] at this
              exact Nat.le_of_lt_succ ((Nat.div_lt_iff_lt_mul hs').2 (by rw [Nat.succ_mul]; omega))
        obtain ⟨e1, e2, e3, e4, e5⟩ := bounds_run (P := P) (isSlice := true) hlo hhi hb hx hm h3
        refine ⟨.slice (some (if c = x then ⟨b0, off', none⟩ else (⟨b0, off', none⟩ : Addr).add (x * te.size))) (b - x) (c - x), ?_, ?_⟩
        · simp only [Instr.sliceAt, Sem.run_bind, run_und hd, Result.andThen_ok, Instr.slice, e5, run_sizeA (TT _ _ hte), Sem.run_pure]
          congr 2
          split <;> rfl
        · have hcx : off + x * sz + (c - x) * sz = off + c * sz := by
            rw [Nat.add_assoc, ← Nat.add_mul, Nat.add_sub_cancel' (by omega : x ≤ c)]
          have mk : ∀ off'', (off'' = off + x * sz ∨ c - x = 0) → VR s h w (.msl o (off + x * sz) (b - x) sz g (cap.map (· - x))) (.slice (some ⟨b0, off'', none⟩) (b - x) (c - x)) := fun off'' ho'' =>
            .msl _ _ _ _ _ _ b0 (c - x) el n off'' ho'' h1 h2 (by omega) (fun m hm' => by
              obtain ⟨m', hm1, hm2⟩ := Option.map_eq_some_iff.1 hm'
              rw [h4 m' hm1, ← hm2]) (fun hn => by
              have : cap = none := by simpa using hn
              rw [hcx]; exact h5 this) h6 (by rw [hcx]; exact h7)
          split
          · rename_i hcc
            exact mk _ (.inr (by omega))
          · rw [addr_add]
            rcases hoff with hoff | hoff
            · exact mk _ (.inl (by rw [hoff, hsz]))
            · exact mk _ (.inr (by omega))
      | mslOld _ _ _ _ _ _ g' a n c h1 h2 => rw [hg] at h1; injection h1; omega
    · cases hv
  ·
    rename_i len e o off g
    simp only [Option.isSome_none, Bool.false_eq_true, if_false] at hv
    replace hv := Option.bind_eq_some_iff.1 hv
    obtain ⟨cs, ho, hv⟩ := hv
    replace hv := Option.bind_eq_some_iff.1 hv
    obtain ⟨te, hte, hv⟩ := hv
    split at hv
    · cases hv
    rename_i hfit
    replace hv := Option.bind_eq_some_iff.1 hv
    obtain ⟨b, hb, hv⟩ := hv
    replace hv := Option.bind_eq_some_iff.1 hv
    obtain ⟨x, hx, hv⟩ := hv
    injection hv with hv; subst hv
    cases d <;> simp only [TD.ok] at hok
    obtain ⟨ea, eb⟩ := hok
    rw [ea, eb] at hd
    obtain ⟨hg, hobj, hlen⟩ := genOf_obj ho
    obtain ⟨e1, e2, e3, e4, e5⟩ := bounds_run (P := P) (isSlice := false) hlo hhi hb hx (Nat.le_refl _) (Nat.le_refl _)
    cases ha with
    | ptr _ _ _ b0 h1 h2 =>
      obtain ⟨y, hy, hyr⟩ := R.obj o b0 h2
      rw [hobj] at hy
      injection hy with hy; subst hy
      obtain ⟨bc, el, hbc, hbl, _⟩ := hyr
      have hcx : off + x * te.size + (len - x) * te.size = off + len * te.size := by
        rw [Nat.add_assoc, ← Nat.add_mul, Nat.add_sub_cancel' (by omega : x ≤ len)]
      refine ⟨.slice (some (if len = x then ⟨b0, off, none⟩ else (⟨b0, off, none⟩ : Addr).add (x * te.size))) (b - x) (len - x), ?_, ?_⟩
      · simp only [Instr.sliceAt, Sem.run_bind, run_und hd, Result.andThen_ok, Instr.sureAddr, e5, run_sizeA (TT _ _ hte), Sem.run_pure]
      · have mk : ∀ off'', (off'' = off + x * te.size ∨ len - x = 0) → VR s h w (.msl o (off + x * te.size) (b - x) te.size g (some (len - x))) (.slice (some ⟨b0, off'', none⟩) (b - x) (len - x)) := fun off'' ho'' =>
          .msl _ _ _ _ _ _ b0 (len - x) el bc.size off'' ho'' h1 h2 (by omega) (fun m hm' => by injection hm') (fun hn => by cases hn) (by simp [World.shape?, hbc]) (by rw [hcx]; omega)
        split
        · exact mk _ (.inr (by omega))
        · rw [addr_add]; exact mk _ (.inl rfl)
    | ptrOld _ _ _ g' a h1 h2 => rw [hg] at h1; injection h1; omega
  ·
    rename_i len e cs
    simp only [Option.isSome_none, Bool.false_eq_true, if_false] at hv
    replace hv := Option.bind_eq_some_iff.1 hv
    obtain ⟨te, hte, hv⟩ := hv
    split at hv
    · cases hv
    rename_i hfit
    simp only [Bool.or_eq_true, beq_iff_eq, decide_eq_true_eq, not_or, Nat.not_lt] at hfit
    obtain ⟨hfit0, hfit⟩ := hfit
    replace hv := Option.bind_eq_some_iff.1 hv
    obtain ⟨b, hb, hv⟩ := hv
    replace hv := Option.bind_eq_some_iff.1 hv
    obtain ⟨x, hx, hv⟩ := hv
    injection hv with hv; subst hv
    cases d <;> simp only [TD.ok] at hok
    obtain ⟨ea, eb⟩ := hok
    rw [ea, eb] at hd
    obtain ⟨e1, e2, e3, e4, e5⟩ := bounds_run (P := P) (isSlice := false) hlo hhi hb hx (Nat.le_refl _) (Nat.le_refl _)
    cases ha with
    | ref _ b0 off f hI hc hr =>
      refine ⟨.slice (some (if len = x then ⟨b0, off, none⟩ else (⟨b0, off, none⟩ : Addr).add (x * te.size))) (b - x) (len - x), ?_, ?_⟩
      · simp only [Instr.sliceAt, Sem.run_bind, run_und hd, Result.andThen_ok, Instr.sureAddr, e5, run_sizeA (TT _ _ hte), Sem.run_pure]
      · by_cases he : b = x
        · subst he
          rw [Nat.sub_self]
          simp only [group]
          split
          · exact lst_empty _ _ _ _ _ rfl
          · rw [addr_add]; exact lst_empty _ _ _ _ _ rfl
        · rw [if_neg (by omega), addr_add]
          refine lst_of_cells (cs := cs.drop (x * te.size)) (fun h0 => hI ?_) ?_ (fun i c hi => ?_) rfl (by omega)
          · have : 1 * 1 ≤ len * te.size := Nat.mul_le_mul (by omega) (by omega)
            omega
          · have : (b - x) * te.size + x * te.size ≤ len * te.size := by
              rw [← Nat.add_mul]; exact Nat.mul_le_mul_right _ (by omega)
            simp; omega
          · rw [List.getElem?_drop] at hi
            exact ⟨_, by rw [Nat.add_assoc]; exact hc _ c hi, hr _ c hi⟩
  · cases hv
end
end Go.Rv
