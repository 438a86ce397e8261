/-
  Slices: literals, cuts, elements; what is appended.
-/
import Derived.Test.YtpnafmeehjfnaaaGreatDoorRvOps4
set_option linter.unusedSimpArgs false
set_option linter.unusedVariables false
namespace Go.Rv
section
variable {P : Program} {C : Cfg} {s : Sim} {h : Heap} {w : World}

theorem one_cells (c : AV) : (one c).cells = [c] := by cases c <;> rfl

theorem group_length (n : Nat) (cs : List AV) (sz : Nat) : (group n cs sz).length = n := by
  induction n generalizing cs with
  | zero => rfl
  | succ n ih => simp [group, ih]

theorem group_get (n : Nat) : ∀ (cs : List AV) (sz i : Nat) (x : AV), n * sz ≤ cs.length → (group n cs sz)[i]? = some x → x.cells = (cs.drop (i * sz)).take sz := by
  induction n with
  | zero => intro cs sz i x _ hx; simp [group] at hx
  | succ n ih =>
    intro cs sz i x hl hx
    rw [Nat.succ_mul] at hl
    cases i with
    | zero =>
      simp only [group, List.getElem?_cons_zero, Option.some.injEq] at hx
      subst hx
      simp only [Nat.zero_mul, List.drop_zero]
      split
      · rename_i h1
        have h1' : sz = 1 := by simpa using h1
        subst h1'
        rw [one_cells]
        cases cs with
        | nil => simp at hl
        | cons c r => rfl
      · rfl
    | succ i =>
      simp only [group, List.getElem?_cons_succ] at hx
      rw [ih (cs.drop sz) sz i x (by simp; omega) hx, List.drop_drop]
      rw [Nat.succ_mul, Nat.add_comm]

theorem group_cells_length {n : Nat} {cs : List AV} {sz i : Nat} {x : AV} (hl : n * sz ≤ cs.length) (hx : (group n cs sz)[i]? = some x) : x.cells.length = sz := by
  rw [group_get n cs sz i x hl hx]
  have hi : i < n := by have := (List.getElem?_eq_some_iff.1 hx).1; rw [group_length] at this; exact this
  have : (i + 1) * sz ≤ n * sz := Nat.mul_le_mul_right _ hi
  rw [Nat.succ_mul] at this
  simp
  omega

theorem group_cell {n : Nat} {cs : List AV} {sz i j : Nat} {x y : AV} (hl : n * sz ≤ cs.length) (hx : (group n cs sz)[i]? = some x) (hy : x.cells[j]? = some y) : cs[i * sz + j]? = some y := by
  rw [group_get n cs sz i x hl hx, List.getElem?_take] at hy
  split at hy
  · simpa using hy
  · cases hy

theorem group_flat (n : Nat) : ∀ (cs : List AV) (sz : Nat), n * sz ≤ cs.length → ((group n cs sz).map AV.cells).flatten = cs.take (n * sz) := by
  induction n with
  | zero => intro cs sz _; simp [group]
  | succ n ih =>
    intro cs sz hl
    rw [Nat.succ_mul] at hl
    have h0 := group_get (n + 1) cs sz 0 _ (by rw [Nat.succ_mul]; exact hl) rfl
    simp only [group, List.map_cons, List.flatten_cons]
    simp only [Nat.zero_mul, List.drop_zero] at h0
    rw [h0, ih (cs.drop sz) sz (by simp; omega), Nat.succ_mul, Nat.add_comm (n * sz) sz, List.take_add]

/-- A row of cells that is never written, read as a slice. -/
theorem lst_of_cells {cs : List AV} {b off n sz c : Nat} {room : Room} (hI : 0 < n → s.I b) (hl : n * sz ≤ cs.length) (hr : Reads s h w b off cs) (hroom : room.ok c) (hc : n ≤ c) :
    VR s h w (.lst (group n cs sz) sz room) (.slice (some ⟨b, off, none⟩) n c) := by
  have := VR.lst (s := s) (h := h) (w := w) (group n cs sz) sz room b off c (fun i j => (w.cell? ⟨b, off + i * sz + j, none⟩).getD undef) (by rw [group_length]; exact hI) hroom (by rw [group_length]; exact hc)
    (fun i x hx => group_cells_length hl hx)
    (fun i j x y hx hy => by
      obtain ⟨v, hv, _⟩ := hr _ y (group_cell hl hx hy)
      rw [show off + i * sz + j = off + (i * sz + j) from by omega, hv]; rfl)
    (fun i j x y hx hy => by
      obtain ⟨v, hv, hvr⟩ := hr _ y (group_cell hl hx hy)
      rw [show off + i * sz + j = off + (i * sz + j) from by omega, hv]; exact hvr)
  rw [group_length] at this
  exact this

theorem buildSlice_rel (TT : TabOk P C) (R : Rel s h w) {t el len : Nat} {ti te : TI} {ps : List (Nat × AV)} {qs : Array (Nat × Value)} {cs : List AV} (hti : C.ty t = some ti) (htd : ti.td = .slice el) (hte : C.ty el = some te)
    (hz : te.zero.length = te.size) (hle : len * te.size ≤ 16777216) (hl : ps.length = qs.size)
    (hpq : ∀ (i : Nat) p q, ps[i]? = some p → qs.toList[i]? = some q → p.1 = q.1 ∧ VR s h w p.2 q.2 ∧ p.2 ≠ .junk)
    (hf : fillA (fun i => some (i * te.size, te.size)) (copies len te.zero) ps = some cs) :
    HRun P s h w (Instr.buildSlice t len qs) (.lst (group len cs te.size) te.size (.exact len)) h ∧
    HRun P s h w (Instr.buildSlice t len qs) (.msl h.length 0 len te.size 0 (some len)) (h ++ [.cells cs 0]) := by
  obtain ⟨d, hd, hok⟩ := (TT t ti hti).und
  rw [htd] at hok
  cases d <;> simp only [TD.ok] at hok
  rw [hok] at hd
  obtain ⟨z, hz1, hz2⟩ := zero_rel (s := s) (h := h) (w := w) (TT el te hte)
  have hzs : z.cells.size = te.size := by have := hz2.1; simp at this; omega
  have hzr := zeros_rel hz2 len
  obtain ⟨us, hus, hr⟩ := fill_rel (place' := fun i => some (i * te.size, te.size)) (fun i x hx => hx) ps qs.toList _ cs _ (by simpa using hl) hpq hzr hf
  have hcl : cs.length = len * te.size := by
    have h1 : ∀ (ps : List (Nat × AV)) (c c' : List AV), fillA (fun i => some (i * te.size, te.size)) c ps = some c' → c'.length = c.length := by
      intro ps
      induction ps with
      | nil => intro c c' hc; simp [fillA] at hc; rw [hc]
      | cons p ps ih =>
        intro c c' hc
        obtain ⟨i, x⟩ := p
        simp only [fillA, Option.bind_eq_bind, Option.bind_some] at hc
        split at hc
        · rw [ih _ _ hc, setCells_length]
        · cases hc
    rw [h1 ps _ cs hf, copies_length, hz]
  have hrun : (Instr.buildSlice t len qs).run P w = .ok (.slice (some ⟨w.heap.size, 0, none⟩) len len) (w.alloc (.cells us el)) := by
    have tail : (newRow el us >>= fun a => (pure (Value.slice (some a) len len) : Sem Value)).run P w = .ok (.slice (some ⟨w.heap.size, 0, none⟩) len len) (w.alloc (.cells us el)) := by
      simp only [newRow, Sem.run_bind, run_newObj, Result.andThen_ok, Sem.run_pure]
      rfl
    rw [hzs] at hus
    simp only [Instr.buildSlice, Sem.run_bind, run_und hd, Result.andThen_ok, run_sizeA (TT _ _ hte), show ¬ len * te.size > 2 ^ 24 from by omega, if_false, Sem.run_pure]
    by_cases h0 : len * te.size = 0
    · have r0 : ∀ f : Nat → Value, Array.map f (Array.range 0) = #[] := fun f => by apply Array.ext'; simp
      have hus0 : Instr.fill (fun i => some (i * te.size, te.size)) #[] qs.toList = some us := by rw [h0, r0] at hus; exact hus
      simp only [h0, if_true, Sem.run_bind, Sem.run_pure, Result.andThen_ok]
      rw [r0, hus0]
      exact tail
    · simp only [h0, if_false, Sem.run_bind, hz1, Sem.run_pure, Result.andThen_ok, hzs]
      rw [hus]
      exact tail
  refine ⟨⟨_, _, _, hrun, Ext.block s h w _ true, R.block _ true, ?_⟩, ?_⟩
  · refine lst_of_cells (fun _ => .inr ⟨rfl, rfl⟩) (by omega) (fun i c hi => ?_) rfl (Nat.le_refl _)
    obtain ⟨v, hv, hvr⟩ := hr.2 i c hi
    refine ⟨v, ?_, hvr.ext R.apart (Ext.block s h w _ true)⟩
    simp only [Nat.zero_add, World.cell?, heap_alloc_at]
    simpa using hv
  · have key := new_cells R (cs := cs) (vs := us) el (by have := hr.1; simp at this; omega) (fun i c hi => by
      obtain ⟨v, h1, h2⟩ := hr.2 i c hi; exact ⟨v, by simpa using h1, h2⟩)
    refine ⟨_, _, _, hrun, key.1, key.2, .msl _ _ _ _ _ _ w.heap.size len el us.size 0 (.inl rfl) (by rw [genOf_new]) (by simp [Sim.add]) (Nat.le_refl _) (fun m hm => by injection hm) (fun hn => by cases hn) ?_ ?_⟩
    · simp only [World.shape?, heap_alloc_at]
    · have := hr.1; simp at this; omega

/-- A variable that is never written. -/
theorem boxImm_rel (R : Rel s h w) (t : Nat) {a : AV} {u : Value} (ha : VR s h w a u) (hj : a ≠ .junk) : HRun P s h w (Instr.box t u) (.ref a.cells) h := by
  have hv := agg_cells ha hj
  have hrun : (Instr.box t u).run P w = .ok (.pointer (some ⟨w.heap.size, 0, none⟩)) (w.alloc (.cells u.cells t)) := by
    simp only [Instr.box, newVar, newRow, Sem.run_bind, run_newObj, Result.andThen_ok, Sem.run_pure]
    rfl
  refine ⟨_, _, _, hrun, Ext.block s h w _ true, R.block _ true, .ref _ w.heap.size 0 (fun i => u.cells.getD i undef) (fun _ => .inr ⟨rfl, rfl⟩) (fun i c hi => ?_) (fun i c hi => ?_)⟩
  · obtain ⟨v, hv1, _⟩ := hv.2 i c hi
    simp only [Nat.zero_add, World.cell?, heap_alloc_at]
    have hv1' : u.cells[i]? = some v := by simpa using hv1
    rw [Array.getD_eq_getD_getElem?, hv1']
    simp [hv1']
  · obtain ⟨v, hv1, hvr⟩ := hv.2 i c hi
    have hv1' : u.cells[i]? = some v := by simpa using hv1
    rw [Array.getD_eq_getD_getElem?, hv1']
    exact hvr.ext R.apart (Ext.block s h w _ true)

/-! ### Parts of values -/

theorem part_rel {t : Nat} {ti : TI} (T : TyOk P t ti) {cs : List AV} {vs : Array Value} {off : Nat} {v : AV} (hl : cs.length = vs.size) (hr : ∀ (i : Nat) c, cs[i]? = some c → VR s h w c (vs.getD i undef)) (hp : Rv.part ti (cs.drop off) = some v) :
    PRun P s h w (Go.part t vs off) v := by
  unfold Rv.part at hp
  unfold PRun
  simp only [Go.part, Sem.run_bind, run_isAggA T, Result.andThen_ok]
  split at hp
  · rename_i hagg
    split at hp
    · rename_i hle
      injection hp with hp; subst hp
      have hle' : off + ti.size ≤ vs.size ∨ ti.size = 0 := by simp at hle; omega
      simp only [hagg, if_true, Sem.run_bind, run_sizeA T, Result.andThen_ok, Sem.run_pure]
      refine ⟨_, rfl, .agg _ _ (by simp at hle ⊢; omega) fun i c hi => ?_⟩
      rw [List.getElem?_take] at hi
      split at hi
      · rename_i hlt
        rw [List.getElem?_drop] at hi
        have := hr _ c hi
        have hb : off + i < vs.size := by rw [← hl]; exact (List.getElem?_eq_some_iff.1 hi).1
        have e : (vs.extract off (off + ti.size)).getD i undef = vs.getD (off + i) undef := by
          have h1 : i < min (off + ti.size) vs.size - off := by omega
          simp [Array.getD, hb, h1]
        rw [e]; exact this
      · cases hi
    · cases hp
  · rename_i hagg
    have hagg' : ti.td.isAgg = false := by simpa using hagg
    have h0 : cs[off]? = some v := by
      have : (cs.drop off)[0]? = some v := by rw [← List.head?_eq_getElem?]; exact hp
      simpa using this
    have hb : off < vs.size := by rw [← hl]; exact (List.getElem?_eq_some_iff.1 h0).1
    have := hr off v h0
    simp only [hagg', Bool.false_eq_true, if_false]
    refine ⟨vs[off], by simp [hb], ?_⟩
    simpa [hb] using this

theorem field_rel (TT : TabOk P C) {t k : Nat} {a v : AV} {u : Value} (ha : VR s h w a u) (hv : fieldA C t a k = some v) : PRun P s h w (Instr.field t u k) v := by
  unfold fieldA at hv
  simp only [Option.bind_eq_bind] at hv
  replace hv := Option.bind_eq_some_iff.1 hv
  obtain ⟨ti, hti, hv⟩ := hv
  obtain ⟨d, hd, hok⟩ := (TT t ti hti).und
  generalize ti.td = td at hok hv
  split at hv
  · rename_i fs cs
    replace hv := Option.bind_eq_some_iff.1 hv
    obtain ⟨⟨ft, off⟩, hf, hv⟩ := hv
    replace hv := Option.bind_eq_some_iff.1 hv
    obtain ⟨tf, htf, hv⟩ := hv
    cases d <;> simp only [TD.ok] at hok
    rename_i l
    rw [← hok] at hf
    simp only [List.getElem?_map, Option.map_eq_some_iff, Prod.mk.injEq] at hf
    obtain ⟨fld, h1, rfl, rfl⟩ := hf
    have h1' : l[k]? = some fld := by simpa using h1
    cases ha with
    | agg _ vs hl hr =>
      have := part_rel (P := P) (TT _ _ htf) hl hr hv
      obtain ⟨x, hx, hxr⟩ := this
      refine ⟨x, ?_, hxr⟩
      simp only [Instr.field, Sem.run_bind, run_und hd, Result.andThen_ok, h1', asAgg, Sem.run_pure, hx]
  · cases hv

theorem index_rel (TT : TabOk P C) {t : Nat} {a i v : AV} {u ui : Value} (ha : VR s h w a u) (hi : VR s h w i ui) (hv : indexA C t a i = some v) : PRun P s h w (Instr.index t u ui) v := by
  unfold indexA at hv
  simp only [Option.bind_eq_bind] at hv
  replace hv := Option.bind_eq_some_iff.1 hv
  obtain ⟨ti, hti, hv⟩ := hv
  obtain ⟨d, hd, hok⟩ := (TT t ti hti).und
  generalize ti.td = td at hok hv
  split at hv
  · rename_i l k n
    cases ha; cases hi
    split at hv
    · cases hv
    · rename_i hn
      obtain ⟨c, hc, rfl⟩ := Option.map_eq_some_iff.1 hv
      cases d <;> simp only [TD.ok] at hok
      refine ⟨.int .u8 c.toNat, ?_, .int _ _⟩
      have hlt : n.toNat < l.length := (List.getElem?_eq_some_iff.1 hc).1
      have hb : (⟨l.toArray⟩ : ByteArray)[n.toNat]? = some c := by
        have h1 : n.toNat < (⟨l.toArray⟩ : ByteArray).size := by simpa [ByteArray.size] using hlt
        have h2 : l[n.toNat] = c := by rw [List.getElem?_eq_getElem hlt] at hc; injection hc
        rw [getElem?_pos (⟨l.toArray⟩ : ByteArray) n.toNat h1]
        rw [← h2]
        rfl
      simp only [Instr.index, asIntOf, Sem.run_bind, Sem.run_pure, Result.andThen_ok, run_und hd, show 0 ≤ n from by omega, if_true, hb]
  · rename_i len e cs k n
    split at hv
    · cases hv
    · rename_i hn
      split at hv
      · rename_i hlt
        replace hv := Option.bind_eq_some_iff.1 hv
        obtain ⟨te, hte, hv⟩ := hv
        simp only [hte, Option.bind_some] at hv
        cases d <;> simp only [TD.ok] at hok
        obtain ⟨ea, eb⟩ := hok
        rw [ea, eb] at hd
        cases hi
        cases ha with
        | agg _ vs hl hr =>
          obtain ⟨x, hx, hxr⟩ := part_rel (P := P) (TT _ _ hte) hl hr hv
          refine ⟨x, ?_, hxr⟩
          simp only [Instr.index, asIntOf, Sem.run_bind, Sem.run_pure, Result.andThen_ok, run_und hd, show 0 ≤ n ∧ n < (len : Int) from ⟨by omega, by omega⟩, and_self, if_true, run_sizeA (TT _ _ hte), hx]
      · cases hv
  · cases hv
end
end Go.Rv
