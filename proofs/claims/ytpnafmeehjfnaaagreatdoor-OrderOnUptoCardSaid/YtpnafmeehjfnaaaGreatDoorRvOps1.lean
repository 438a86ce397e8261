/-
  Types as the interpreter has them; operands; memory read and written.
-/
import Derived.Test.YtpnafmeehjfnaaaGreatDoorRvRel
import Derived.Laws.CopyRow
import Derived.Laws.Cells
set_option linter.unusedSimpArgs false
set_option linter.unusedVariables false
namespace Go.Rv

def TD.ok : TypeDesc → TD → Prop
  | .bool, .bool => True
  | .int k, .int k' => k = k'
  | .string, .str => True
  | .pointer _, .ptr => True
  | .func .., .func => True
  | .interface _, .iface => True
  | .slice e, .slice e' => e = e'
  | .array n e, .array n' e' => n = n' ∧ e = e'
  | .map k e, .map k' e' => k = k' ∧ e = e'
  | .struct fs, .struct l => fs.toList.map (fun f => (f.type, f.offset)) = l
  | _, _ => False

def wholeB (agg : Bool) (z : Value) : Bool := match z with
  | .agg _ => agg
  | _ => !agg

structure TyOk (P : Program) (t : Nat) (ti : TI) : Prop where
  info : ∃ i z, P.info? t = some i ∧ i.size = ti.size ∧ i.bytes = ti.bytes ∧ i.zero = some z ∧ z.cells.size = ti.zero.length ∧ ∀ (j : Nat) c, ti.zero[j]? = some c → ofValue (z.cells.getD j undef) = some c
  und : ∃ d, P.underlying t = some d ∧ TD.ok d ti.td
  small : ti.bytes ≤ 4096
  zsize : ti.zero.length = ti.size
  fields : ∀ fs, P.underlying t = some (.struct fs) → ∀ f ∈ fs, ∃ i, P.info? f.type = some i
  whole : ∀ i z, P.info? t = some i → i.zero = some z → wholeB ti.td.isAgg z = true

section
variable {P : Program} {C : Cfg} {s : Sim} {h : Heap} {w : World}

theorem run_sizeA {t : Nat} {ti : TI} (T : TyOk P t ti) (w : World) : (sizeOf t).run P w = .ok ti.size w := by
  obtain ⟨i, z, h1, h2, _⟩ := T.info
  simp [sizeOf, typeInfo, h1, h2]

theorem run_und {t : Nat} {d : TypeDesc} (h : P.underlying t = some d) (w : World) : (underlying t).run P w = .ok d w := by
  simp [underlying, h]

theorem run_isAggA {t : Nat} {ti : TI} (T : TyOk P t ti) (w : World) : (isAgg t).run P w = .ok ti.td.isAgg w := by
  obtain ⟨d, h1, h2⟩ := T.und
  simp only [isAgg, Sem.run_bind, run_und h1, Result.andThen_ok]
  generalize ti.td = td at h2 ⊢
  cases d <;> cases td <;> first | rfl | exact False.elim h2

theorem run_zeroA {t : Nat} {ti : TI} (T : TyOk P t ti) : ∃ z, (∀ w, (zeroValue t).run P w = .ok z w) ∧ z.cells.size = ti.zero.length ∧ ∀ (j : Nat) c, ti.zero[j]? = some c → ofValue (z.cells.getD j undef) = some c := by
  obtain ⟨i, z, h1, _, _, h4, h5, h6⟩ := T.info
  exact ⟨z, fun w => by simp [zeroValue, typeInfo, h1, h4], h5, h6⟩

/-! ### Operands -/

theorem ofValue_rel {v : Value} {x : AV} (hv : ofValue v = some x) : VR s h w x v := by
  unfold ofValue at hv
  split at hv
  · injection hv with hv; subst hv; exact .bool _
  · injection hv with hv; subst hv; exact .int _ _
  · injection hv with hv; subst hv
    rename_i b
    have := VR.str (s := s) (h := h) (w := w) b.data.toList
    simpa using this
  · injection hv with hv; subst hv; exact .nilPtr
  · injection hv with hv; subst hv; exact .lstNil _
  · injection hv with hv; subst hv; exact .nilMap
  · injection hv with hv; subst hv; exact .nilFunc
  · injection hv with hv; subst hv; exact .nilIface
  · rename_i vs
    split at hv
    · rename_i he
      injection hv with hv; subst hv
      have : vs = #[] := by simpa using he
      subst this
      exact .tup [] #[] rfl fun i c hi => by simp at hi
    · cases hv
  · cases hv

/-- What the globals that are never written hold. -/
def Glob (C : Cfg) (s : Sim) (h : Heap) (w : World) : Prop := ∀ g v, C.glob g = some v → VR s h w v (.pointer (some ⟨g, 0, none⟩))

theorem Glob.ext {s' : Sim} {h' : Heap} {w' : World} (hd : ∀ o b, s.μ o = some b → ¬ s.I b) (E : Ext s h w s' h' w') (G : Glob C s h w) : Glob C s' h' w' := fun g v hg => (G g v hg).ext hd E

theorem evalA_rel {e : Env} {a : Act} (G : Glob C s h w) (H : EnvRel s h w e a.tmps) {x : Operand} {v : AV} (hv : evalA C e x = some v) : VR s h w v (a.eval x) := by
  cases x with
  | tmp t =>
    have := H t
    simp only [evalA] at hv
    split at hv
    · cases hv
    · injection hv with hv; subst hv; exact this
  | const c => exact ofValue_rel hv
  | global g => exact G g v hv
  | func f =>
    simp only [evalA, Option.some.injEq] at hv
    subst hv
    exact .clo f [] #[] rfl fun i c hi => by simp at hi

/-! ### Memory that is read -/

theorem addr_add (b off j : Nat) : (⟨b, off, none⟩ : Addr).add j = ⟨b, off + j, none⟩ := by
  unfold Addr.add; split <;> simp_all

theorem genOf_obj {o g : Nat} {cs : List AV} (ho : h.obj o g = some cs) : genOf h o = some g ∧ h[o]? = some (.cells cs g) ∧ lenOf h o = cs.length := by
  unfold Heap.obj at ho
  split at ho
  · rename_i cs' g' he
    split at ho
    · rename_i hg
      have : g' = g := by simpa using hg
      subst this
      injection ho with ho; subst ho
      exact ⟨by simp [genOf, he], he, by simp [lenOf, he]⟩
    · cases ho
  · cases ho

theorem genOf_live {o g : Nat} (ho : h.live o g = true) : genOf h o = some g := by
  unfold Heap.live at ho
  obtain ⟨cs, hcs⟩ := Option.isSome_iff_exists.1 ho
  exact (genOf_obj hcs).1

/-- Cells that lie from an address on. -/
def Reads (s : Sim) (h : Heap) (w : World) (b off : Nat) (cs : List AV) : Prop := ∀ (i : Nat) c, cs[i]? = some c → ∃ v, w.cell? ⟨b, off + i, none⟩ = some v ∧ VR s h w c v

theorem Reads.drop {b off : Nat} {cs : List AV} (H : Reads s h w b off cs) (n : Nat) : Reads s h w b (off + n) (cs.drop n) := fun i c hi => by
  have := H (n + i) c (by simpa using hi)
  rw [← Nat.add_assoc] at this
  exact this
theorem Reads.take {b off : Nat} {cs : List AV} (H : Reads s h w b off cs) (n : Nat) : Reads s h w b off (cs.take n) := fun i c hi => H i c (by
  rw [List.getElem?_take] at hi
  split at hi
  · exact hi
  · cases hi)

theorem obj_reads (R : Rel s h w) {o g b : Nat} {cs : List AV} (ho : h.obj o g = some cs) (hb : s.μ o = some b) : Reads s h w b 0 cs := by
  obtain ⟨x, hx, hr⟩ := R.obj o b hb
  rw [(genOf_obj ho).2.1] at hx
  injection hx with hx; subst hx
  obtain ⟨bc, el, h1, h2, h3⟩ := hr
  intro i c hi
  obtain ⟨v, hv, hvr⟩ := h3 i c hi
  exact ⟨v, by simp [World.cell?, h1, hv], hvr⟩

theorem cellsAt_reads (R : Rel s h w) {a : AV} {u : Value} {cs : List AV} (hv : VR s h w a u) (hc : cellsAt h a = some cs) : ∃ b off, u = .pointer (some ⟨b, off, none⟩) ∧ Reads s h w b off cs := by
  cases hv with
  | ref cs' b off f hI hcell hr =>
    simp only [cellsAt, Option.some.injEq] at hc
    subst hc
    exact ⟨b, off, rfl, fun i c hi => ⟨f i, hcell i c hi, hr i c hi⟩⟩
  | ptr o off g b hg hb =>
    simp only [cellsAt, Option.map_eq_some_iff] at hc
    obtain ⟨cs', ho, rfl⟩ := hc
    exact ⟨b, off, rfl, by simpa using (obj_reads R ho hb).drop off⟩
  | ptrOld o off g g' a hg hlt =>
    simp only [cellsAt, Option.map_eq_some_iff] at hc
    obtain ⟨cs', ho, _⟩ := hc
    have := (genOf_obj ho).1
    rw [hg] at this
    injection this
    omega
  | _ => simp [cellsAt] at hc

/-- The concrete cells behind abstract ones. -/
theorem reads_list {b off : Nat} {cs : List AV} (H : Reads s h w b off cs) : ∃ vs : List Value, vs.length = cs.length ∧ (∀ j v, vs[j]? = some v → w.cell? ⟨b, off + j, none⟩ = some v) ∧ ∀ (i : Nat) c, cs[i]? = some c → VR s h w c (vs.getD i undef) := by
  refine ⟨(List.range cs.length).map fun i => (w.cell? ⟨b, off + i, none⟩).getD undef, by simp, ?_, ?_⟩
  · intro j v hj
    obtain ⟨hlt, he⟩ := List.getElem?_eq_some_iff.1 hj
    have hlt' : j < cs.length := by simpa using hlt
    obtain ⟨u, hu, _⟩ := H j cs[j] (List.getElem?_eq_getElem hlt')
    simp [hu] at he
    rw [hu, he]
  · intro i c hi
    have hlt := (List.getElem?_eq_some_iff.1 hi).1
    obtain ⟨u, hu, hr⟩ := H i c hi
    simp [hlt, hu, hr]

theorem load_rel (R : Rel s h w) {t : Nat} {ti : TI} (T : TyOk P t ti) {a v : AV} {u : Value} {cs : List AV} (hv : VR s h w a u) (hc : cellsAt h a = some cs) (hp : part ti cs = some v) :
    ∃ x, (Instr.loadAt t u).run P w = .ok x w ∧ VR s h w v x := by
  obtain ⟨b, off, rfl, H⟩ := cellsAt_reads R hv hc
  unfold part at hp
  simp only [Instr.loadAt, Instr.sureAddr, Sem.run_bind, Sem.run_pure, Result.andThen_ok, loadVar, run_isAggA T]
  split at hp
  · rename_i hagg
    split at hp
    · rename_i hlen
      injection hp with hp; subst hp
      obtain ⟨vs, hl, hcell, hr⟩ := reads_list (H.take ti.size)
      have hl' : vs.length = ti.size := by rw [hl]; simp; omega
      have hrun := run_loadCells_list (P := P) (w := w) ⟨b, off, none⟩ vs (fun j v hj => by rw [addr_add]; exact hcell j v hj)
      simp only [hagg, if_true, Sem.run_bind, run_sizeA T, Result.andThen_ok]
      rw [← hl', hrun]
      refine ⟨.agg vs.toArray, rfl, ?_⟩
      rw [hl']
      refine .agg _ _ (by simp; omega) fun i c hi => ?_
      have := hr i c hi
      simpa using this
    · cases hp
  · rename_i hagg
    have hagg' : ti.td.isAgg = false := by simpa using hagg
    have h0 : cs[0]? = some v := by rw [← List.head?_eq_getElem?]; exact hp
    obtain ⟨u, hu, hr⟩ := H 0 v h0
    simp only [hagg', Bool.false_eq_true, if_false, run_load]
    rw [show (off + 0 = off) from rfl] at hu
    rw [hu]
    exact ⟨u, rfl, hr⟩

/-! ### Memory that is written -/

theorem leaf_one {x : AV} {v : Value} (hx : x.leaf = true) (hv : VR s h w x v) : v.oneCell' = true := by
  cases hv <;> first | rfl | (simp [AV.leaf] at hx)

theorem setCells_length {α : Type} (cs : List α) : ∀ (vs : List α) (off : Nat), (setCells cs off vs).length = cs.length := by
  intro vs
  induction vs generalizing cs with
  | nil => intro off; rfl
  | cons v r ih => intro off; simp [setCells, ih]

theorem setCells_get {α : Type} (vs : List α) : ∀ (cs : List α) (off i : Nat), off + vs.length ≤ cs.length →
    (setCells cs off vs)[i]? = if off ≤ i ∧ i < off + vs.length then vs[i - off]? else cs[i]? := by
  induction vs with
  | nil => intro cs off i _; simp [setCells]; intro h1 h2; omega
  | cons v r ih =>
    intro cs off i hl
    simp only [setCells]
    rw [ih (cs.set off v) (off + 1) i (by simp at hl ⊢; omega)]
    simp only [List.length_cons] at hl ⊢
    by_cases h1 : off + 1 ≤ i ∧ i < off + 1 + r.length
    · rw [if_pos h1, if_pos (by omega)]
      rw [show i - off = (i - (off + 1)) + 1 from by omega]
      simp
    · rw [if_neg h1]
      by_cases h2 : i = off
      · subst h2
        rw [if_pos (by omega)]
        simp [show i < cs.length from by omega]
      · rw [if_neg (by omega)]
        rw [List.getElem?_set_ne (Ne.symm h2)]

theorem agg_cells {x : AV} {v : Value} (hv : VR s h w x v) (hj : x ≠ .junk) : VRs s h w x.cells v.cells.toList := by
  have one : ∀ {x : AV} {v : Value}, VR s h w x v → x.cells = [x] → v.cells = #[v] → VRs s h w x.cells v.cells.toList := by
    intro x v hv h1 h2
    rw [h1, h2]
    refine ⟨rfl, fun i c hi => ?_⟩
    cases i with
    | zero => simp at hi; subst hi; exact ⟨v, rfl, hv⟩
    | succ i => simp at hi
  cases hv with
  | agg cs vs hl hr =>
    refine ⟨by simpa [AV.cells, Value.cells] using hl, fun i c hi => ?_⟩
    have hlt : i < vs.size := by rw [← hl]; exact (List.getElem?_eq_some_iff.1 hi).1
    refine ⟨vs[i], by simp [Value.cells, hlt], ?_⟩
    have := hr i c hi
    simpa [hlt] using this
  | junk => exact absurd rfl hj
  | bool b => exact one (.bool b) rfl rfl
  | int k n => exact one (.int k n) rfl rfl
  | str l => exact one (.str l) rfl rfl
  | nilPtr => exact one .nilPtr rfl rfl
  | nilMap => exact one .nilMap rfl rfl
  | nilFunc => exact one .nilFunc rfl rfl
  | nilIface => exact one .nilIface rfl rfl
  | ptr o off g b h1 h2 => exact one (.ptr o off g b h1 h2) rfl rfl
  | ptrOld o off g g' a h1 h2 => exact one (.ptrOld o off g g' a h1 h2) rfl rfl
  | ref cs b off f h1 h2 h3 => exact one (.ref cs b off f h1 h2 h3) rfl rfl
  | lstNil z => exact one (.lstNil z) rfl rfl
  | lstEmpty z A => exact one (.lstEmpty z A) rfl rfl
  | lst xs z r b off c f h1 h2 h3 h4 h5 h6 => exact one (.lst xs z r b off c f h1 h2 h3 h4 h5 h6) rfl rfl
  | msl o off len z g cap b c el n off' h0 h1 h2 h3 h4 h5 h6 h7 => exact one (.msl o off len z g cap b c el n off' h0 h1 h2 h3 h4 h5 h6 h7) rfl rfl
  | mslOld o off len z g cap g' a n c h1 h2 => exact one (.mslOld o off len z g cap g' a n c h1 h2) rfl rfl
  | clo f cs vs h1 h2 => exact one (.clo f cs vs h1 h2) rfl rfl
  | map o b h1 h2 => exact one (.map o b h1 h2) rfl rfl
  | mapOld o g b h1 h2 => exact one (.mapOld o g b h1 h2) rfl rfl
  | yld o b h1 h2 => exact one (.yld o b h1 h2) rfl rfl
  | yldOld o g b h1 h2 => exact one (.yldOld o g b h1 h2) rfl rfl
  | iface t x v h1 => exact one (.iface t x v h1) rfl rfl
  | tup cs vs h1 h2 => exact one (.tup cs vs h1 h2) rfl rfl
end
end Go.Rv
