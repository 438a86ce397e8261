/-
  More operations: what is stored, made, put together, cut.
-/
import Derived.Test.YtiigpcapieeljaaGreatDoorPtA
import Derived.Laws.Append
import Derived.Laws.Slices
set_option linter.unusedSectionVars false
set_option linter.unusedSimpArgs false
set_option linter.unusedVariables false
set_option linter.defProp false
set_option linter.unusedSimpArgs false
set_option linter.unusedVariables false
namespace Go.Rv
section
variable {P : Program} {C : Cfg} {s : Sim} {h : Heap} {w : World}

theorem VRs.nil : VRs s h w [] [] := ⟨rfl, fun i c hi => by simp at hi⟩
theorem VRs.cons {x : AV} {v : Value} {xs : List AV} {vs : List Value} (h1 : VR s h w x v) (h2 : VRs s h w xs vs) : VRs s h w (x :: xs) (v :: vs) :=
  ⟨by simp [h2.1], fun i c hi => by
    cases i with
    | zero => simp at hi; subst hi; exact ⟨v, rfl, h1⟩
    | succ i => exact h2.2 i c (by simpa using hi)⟩
theorem VRs.tail {x : AV} {v : Value} {xs : List AV} {vs : List Value} (H : VRs s h w (x :: xs) (v :: vs)) : VR s h w x v ∧ VRs s h w xs vs := by
  obtain ⟨u, hu, hr⟩ := H.2 0 x rfl
  simp at hu
  subst hu
  exact ⟨hr, by have := H.1; simpa using this, fun i c hi => H.2 (i + 1) c (by simpa using hi)⟩
theorem VRs.append {xs ys : List AV} {vs us : List Value} (h1 : VRs s h w xs vs) (h2 : VRs s h w ys us) : VRs s h w (xs ++ ys) (vs ++ us) :=
  ⟨by simp [h1.1, h2.1], fun i c hi => by
    rw [List.getElem?_append] at hi ⊢
    rw [← h1.1]
    split at hi
    · rename_i hl; rw [if_pos hl]; exact h1.2 i c hi
    · rename_i hl; rw [if_neg hl]; exact h2.2 _ c hi⟩
theorem VRs.set {xs ys : List AV} {vs us : List Value} (h1 : VRs s h w xs vs) (h2 : VRs s h w ys us) (off : Nat) (hl : off + ys.length ≤ xs.length) : VRs s h w (setCells xs off ys) (setCells vs off us) :=
  ⟨by simp [setCells_length, h1.1], fun i c hi => by
    rw [setCells_get ys xs off i hl] at hi
    rw [setCells_get us vs off i (by rw [← h1.1, ← h2.1]; exact hl), ← h2.1]
    split at hi
    · rename_i hc; rw [if_pos hc]; exact h2.2 _ c hi
    · rename_i hc; rw [if_neg hc]; exact h1.2 i c hi⟩

theorem all_one {xs : List AV} {vs : List Value} (H : VRs s h w xs vs) (hl : xs.all AV.leaf = true) : ∀ v ∈ vs, v.oneCell' = true := by
  intro v hv
  obtain ⟨i, hi, rfl⟩ := List.mem_iff_getElem.1 hv
  have hx : i < xs.length := by rw [H.1]; exact hi
  obtain ⟨u, hu, hr⟩ := H.2 i xs[i] (List.getElem?_eq_getElem hx)
  rw [List.getElem?_eq_getElem hi] at hu
  injection hu with hu
  rw [hu]
  exact leaf_one (List.all_eq_true.1 hl _ (List.getElem_mem hx)) hr

theorem store_rel (TT : TabOk P C) (R : Rel s h w) {t : Nat} {a x : AV} {u v : Value} {h' : Heap} (ha : VR s h w a u) (hx : VR s h w x v) (hs : storeA C h t a x = some h') :
    ∃ w', (Instr.storeAt t u v).run P w = .ok () w' ∧ Ext s h w s h' w' ∧ Rel s h' w' := by
  unfold storeA at hs
  simp only [Option.bind_eq_bind] at hs
  replace hs := Option.bind_eq_some_iff.1 hs
  obtain ⟨ti, hti, hs⟩ := hs
  cases a <;> simp only [reduceCtorEq] at hs
  case ptr o off g =>
    replace hs := Option.bind_eq_some_iff.1 hs
    obtain ⟨cs, ho, hs⟩ := hs
    split at hs
    · rename_i hc
      simp only [Bool.and_eq_true, beq_iff_eq, decide_eq_true_eq] at hc
      obtain ⟨⟨hl, hle⟩, hleaf⟩ := hc
      injection hs with hs
      subst hs
      cases ha with
      | ptr _ _ _ b h1 h2 =>
        have hj : x ≠ .junk := by rintro rfl; simp [AV.cells, AV.leaf] at hleaf
        have hv := agg_cells hx hj
        obtain ⟨w', hrun, E, R'⟩ := store_cells (P := P) R h2 ho (by rw [hl]; exact hle) hv (all_one hv hleaf) 0
        refine ⟨w', ?_, E, R'⟩
        have hsz : v.cells.size = ti.size := by rw [← hl, hv.1]; simp
        simp only [Instr.storeAt, Instr.sureAddr, Sem.run_bind, Sem.run_pure, Result.andThen_ok, storeVar, run_sizeA (TT t ti hti), hsz, ne_eq, not_true_eq_false, if_false]
        exact hrun off rfl
      | ptrOld _ _ _ g' a h1 h2 => have := (genOf_obj ho).1; rw [this] at h1; injection h1; omega
    · cases hs

theorem zero_rel {t : Nat} {ti : TI} (T : TyOk P t ti) : ∃ z, (∀ w, (zeroValue t).run P w = .ok z w) ∧ VRs s h w ti.zero z.cells.toList := by
  obtain ⟨z, h1, h2, h3⟩ := run_zeroA T
  refine ⟨z, h1, by simp [h2], fun i c hi => ?_⟩
  have hlt : i < z.cells.size := by rw [h2]; exact (List.getElem?_eq_some_iff.1 hi).1
  refine ⟨z.cells[i], by simp [hlt], ?_⟩
  have := ofValue_rel (s := s) (h := h) (w := w) (h3 i c hi)
  simpa [hlt] using this

/-- A new object that a pointer names. -/
theorem newVar_rel (R : Rel s h w) (el : TypeId) {cs : List AV} {vs : Array Value} (hv : VRs s h w cs vs.toList) :
    HRun P s h w (do pure (.pointer (some (← newRow el vs)))) (.ptr h.length 0 0) (h ++ [.cells cs 0]) := by
  have key := new_cells R (cs := cs) (vs := vs) el (by have := hv.1; simp at this; omega) (fun i c hi => by
    obtain ⟨v, h1, h2⟩ := hv.2 i c hi; exact ⟨v, by simpa using h1, h2⟩)
  refine ⟨_, _, .pointer (some ⟨w.heap.size, 0, none⟩), ?_, key.1, key.2, .ptr _ _ _ w.heap.size (by rw [genOf_new]) (by simp [Sim.add])⟩
  simp only [newRow, Sem.run_bind, run_newObj, Result.andThen_ok, Sem.run_pure]
  rfl

theorem alloc_rel (TT : TabOk P C) (R : Rel s h w) {t : Nat} {ti : TI} (hti : C.ty t = some ti) : HRun P s h w (Instr.alloc t true (.tuple #[])) (.ptr h.length 0 0) (h ++ [.cells ti.zero 0]) := by
  obtain ⟨z, h1, h2⟩ := zero_rel (s := s) (h := h) (w := w) (TT t ti hti)
  obtain ⟨s', w', x, hr, rest⟩ := newVar_rel (P := P) R t h2
  exact ⟨s', w', x, by
    simp only [Instr.alloc, Sem.run_bind, h1, Result.andThen_ok, newVar]
    simpa only [Sem.run_bind] using hr, rest⟩

theorem box_rel (R : Rel s h w) (t : Nat) {a : AV} {u : Value} (ha : VR s h w a u) (hj : a ≠ .junk) : HRun P s h w (Instr.box t u) (.ptr h.length 0 0) (h ++ [.cells a.cells 0]) := by
  obtain ⟨s', w', x, hr, rest⟩ := newVar_rel (P := P) R t (agg_cells ha hj)
  exact ⟨s', w', x, by simpa only [Instr.box, newVar, Sem.run_bind] using hr, rest⟩


theorem foldl_set (vs : List Value) (off : Nat) : ∀ (k : Nat) (cs : Array Value), ((vs.zipIdx k).foldl (fun (cs : Array Value) (p : Value × Nat) => cs.setIfInBounds (off + p.2) p.1) cs).toList = setCells cs.toList (off + k) vs := by
  induction vs with
  | nil => intro k cs; rfl
  | cons v r ih =>
    intro k cs
    simp only [List.zipIdx_cons, List.foldl_cons, setCells]
    rw [ih (k + 1)]
    simp [Nat.add_assoc]

theorem fill_rel {place place' : Nat → Option (Nat × Nat)} (hp : ∀ i x, place i = some x → place' i = some x) : ∀ (ps : List (Nat × AV)) (qs : List (Nat × Value)) (cells cells' : List AV) (vs : Array Value),
    ps.length = qs.length → (∀ (i : Nat) p q, ps[i]? = some p → qs[i]? = some q → p.1 = q.1 ∧ VR s h w p.2 q.2 ∧ p.2 ≠ .junk) → VRs s h w cells vs.toList → fillA place cells ps = some cells' →
    ∃ us, Instr.fill place' vs qs = some us ∧ VRs s h w cells' us.toList
  | [], [], cells, cells', vs, _, _, hv, hf => by
    simp only [fillA, Option.some.injEq] at hf
    subst hf
    exact ⟨vs, rfl, hv⟩
  | p :: ps, q :: qs, cells, cells', vs, hl, hpq, hv, hf => by
    obtain ⟨i, x⟩ := p
    obtain ⟨j, v⟩ := q
    obtain ⟨rfl, hx, hj⟩ := hpq 0 _ _ rfl rfl
    simp only at hx hj
    simp only [fillA, Option.bind_eq_bind] at hf
    replace hf := Option.bind_eq_some_iff.1 hf
    obtain ⟨⟨off, size⟩, hpl, hf⟩ := hf
    simp only at hf
    split at hf
    · rename_i hc
      simp only [Bool.and_eq_true, beq_iff_eq, decide_eq_true_eq] at hc
      obtain ⟨h1, h2⟩ := hc
      have hxc := agg_cells hx hj
      have hvsz : v.cells.size = size := by have := hxc.1; simp at this; omega
      have hcl : cells.length = vs.size := by have := hv.1; simpa using this
      have hset := hv.set hxc off (by rw [h1]; exact h2)
      have hfold := foldl_set v.cells.toList off 0 vs
      obtain ⟨us, hus, hr⟩ := fill_rel hp ps qs _ cells' (v.cells.zipIdx.foldl (fun (cs : Array Value) (p : Value × Nat) => cs.setIfInBounds (off + p.2) p.1) vs) (by simpa using hl) (fun k p q hk hk' => hpq (k + 1) p q (by simpa using hk) (by simpa using hk'))
        (by
          have e : (v.cells.zipIdx.foldl (fun (cs : Array Value) (p : Value × Nat) => cs.setIfInBounds (off + p.2) p.1) vs).toList = setCells vs.toList off v.cells.toList := by
            rw [← Array.foldl_toList, Array.toList_zipIdx]
            exact hfold
          rw [e]; exact hset) hf
      refine ⟨us, ?_, hr⟩
      simp only [Instr.fill, hp i _ hpl]
      rw [if_neg (by simp [hvsz]; omega)]
      exact hus
    · cases hf

theorem mapM_list {α β : Type} (f : α → Sem β) (g : α → β) : ∀ (l : List α), (∀ a ∈ l, ∀ w, (f a).run P w = .ok (g a) w) → (l.mapM f).run P w = .ok (l.map g) w
  | [], _ => by simp
  | a :: l, hf => by
    rw [List.mapM_cons]
    simp only [Sem.run_bind, hf a (by simp) w, Result.andThen_ok, mapM_list f g l (fun b hb => hf b (by simp [hb])), Sem.run_pure, List.map_cons]
theorem mapM_arr {α β : Type} (f : α → Sem β) (g : α → β) (l : Array α) (hf : ∀ a ∈ l, ∀ w, (f a).run P w = .ok (g a) w) : (l.mapM f).run P w = .ok (l.map g) w := by
  rw [Array.mapM_eq_mapM_toList, Sem.run_map, mapM_list f g l.toList (fun a ha => hf a (by simpa using ha))]
  simp only [Result.andThen_ok]
  congr 1
  apply Array.ext'
  simp

theorem build_rel (TT : TabOk P C) {t : Nat} {ps : List (Nat × AV)} {qs : Array (Nat × Value)} {v : AV} (hl : ps.length = qs.size)
    (hpq : ∀ (i : Nat) p q, ps[i]? = some p → qs.toList[i]? = some q → p.1 = q.1 ∧ VR s h w p.2 q.2 ∧ p.2 ≠ .junk) (hv : buildA C t ps = some v) : PRun P s h w (Instr.build t qs) v := by
  unfold buildA at hv
  simp only [Option.bind_eq_bind] at hv
  replace hv := Option.bind_eq_some_iff.1 hv
  obtain ⟨ti, hti, hv⟩ := hv
  obtain ⟨d, hd, hok⟩ := (TT t ti hti).und
  obtain ⟨z, hz1, hz2⟩ := zero_rel (s := s) (h := h) (w := w) (TT t ti hti)
  generalize ti.td = td at hok hv
  cases td <;> simp only [reduceCtorEq] at hv
  case struct fs =>
    replace hv := Option.bind_eq_some_iff.1 hv
    obtain ⟨cs, hf, hv⟩ := hv
    injection hv with hv; subst hv
    cases d <;> simp only [TD.ok] at hok
    rename_i l
    have hrun := mapM_arr (P := P) (w := w) (fun f : Field => do pure (f.offset, ← sizeOf f.type)) (fun f : Field => (f.offset, ((P.info? f.type).map (·.size)).getD 0)) l
    · have hall := (TT t ti hti).fields l hd
      have hrun := hrun (fun f hf w => by
        obtain ⟨i, hi⟩ := hall f hf
        simp [sizeOf, typeInfo, hi])
      obtain ⟨us, hus, hr⟩ := fill_rel (place' := ((l.map fun f : Field => (f.offset, ((P.info? f.type).map (·.size)).getD 0))[·]?)) (fun i x hx => by
        obtain ⟨⟨ft, off⟩, h1, h2⟩ := Option.bind_eq_some_iff.1 hx
        obtain ⟨tf, h3, h4⟩ := Option.map_eq_some_iff.1 h2
        obtain ⟨info, z, h5, h6, _⟩ := (TT ft tf h3).info
        rw [← hok] at h1
        simp only [List.getElem?_map, Option.map_eq_some_iff, Prod.mk.injEq] at h1
        obtain ⟨fld, h7, h8, h9⟩ := h1
        rw [← h4]
        have : l[i]? = some fld := by simpa using h7
        simp [this, h8, h9, h5, h6]) ps qs.toList ti.zero cs z.cells (by simpa using hl) hpq hz2 hf
      refine ⟨.agg us, ?_, .agg _ _ (by have := hr.1; simpa using this) (fun i c hi => ?_)⟩
      · simp only [Instr.build, Sem.run_bind, hz1, Result.andThen_ok, run_und hd, hrun, hus, Sem.run_pure]
      · obtain ⟨u, hu, hur⟩ := hr.2 i c hi
        have hlt : i < us.size := by have := (List.getElem?_eq_some_iff.1 hu).1; simpa using this
        have : us[i] = u := by simpa [hlt] using hu
        simp [hlt, this, hur]
  case array n e =>
    replace hv := Option.bind_eq_some_iff.1 hv
    obtain ⟨te, hte, hv⟩ := hv
    replace hv := Option.bind_eq_some_iff.1 hv
    obtain ⟨cs, hf, hv⟩ := hv
    injection hv with hv; subst hv
    cases d <;> simp only [TD.ok] at hok
    obtain ⟨ea, eb⟩ := hok
    rw [ea, eb] at hd
    obtain ⟨us, hus, hr⟩ := fill_rel (place' := fun i => some (i * te.size, te.size)) (fun i x hx => hx) ps qs.toList ti.zero cs z.cells (by simpa using hl) hpq hz2 hf
    refine ⟨.agg us, ?_, .agg _ _ (by have := hr.1; simpa using this) (fun i c hi => ?_)⟩
    · simp only [Instr.build, Sem.run_bind, hz1, Result.andThen_ok, run_und hd, run_sizeA (TT _ _ hte), hus, Sem.run_pure]
    · obtain ⟨u, hu, hur⟩ := hr.2 i c hi
      have hlt : i < us.size := by have := (List.getElem?_eq_some_iff.1 hu).1; simpa using this
      have : us[i] = u := by simpa [hlt] using hu
      simp [hlt, this, hur]

theorem copies_length (n : Nat) (z : List AV) : (copies n z).length = n * z.length := by
  induction n with
  | zero => simp [copies]
  | succ n ih => simp [copies, ih]; rw [Nat.succ_mul]; omega
theorem copies_get (n : Nat) (z : List AV) (i : Nat) (hi : i < n * z.length) : (copies n z)[i]? = z[i % z.length]? := by
  induction n generalizing i with
  | zero => simp at hi
  | succ n ih =>
    simp only [copies]
    by_cases h1 : i < z.length
    · rw [List.getElem?_append_left h1, Nat.mod_eq_of_lt h1]
    · rw [List.getElem?_append_right (by omega), ih (i - z.length) (by rw [Nat.succ_mul] at hi; omega)]
      rw [Nat.mod_eq_sub_mod (show z.length ≤ i by omega)]

/-- Zero cells, so many times. -/
theorem zeros_rel {zero : List AV} {z : Array Value} (hz : VRs s h w zero z.toList) (n : Nat) : VRs s h w (copies n zero) ((Array.range (n * z.size)).map fun i => z[i % z.size]!).toList := by
  have hl : zero.length = z.size := by have := hz.1; simpa using this
  refine ⟨by simp [copies_length, hl], fun i c hi => ?_⟩
  have hlt : i < n * zero.length := by have := (List.getElem?_eq_some_iff.1 hi).1; rw [copies_length] at this; exact this
  rw [copies_get n zero i hlt] at hi
  obtain ⟨v, hv, hr⟩ := hz.2 _ c hi
  refine ⟨v, ?_, hr⟩
  rw [hl] at hv hlt
  have hm : i % z.size < z.size := Nat.mod_lt _ (by
    rcases Nat.eq_zero_or_pos z.size with h0 | h0
    · rw [h0] at hlt; simp at hlt
    · exact h0)
  have : z[i % z.size]! = v := by
    rw [getElem!_pos z _ hm]
    have : z[i % z.size]? = some v := by simpa using hv
    rw [Array.getElem?_eq_getElem hm] at this
    injection this
  simp [Array.toList_map, Array.toList_range, List.getElem?_map, List.getElem?_range hlt, this]
end
end Go.Rv

/-
  Slices: literals, cuts, elements; what is appended.
-/
set_option linter.unusedSimpArgs false
set_option linter.unusedVariables false
namespace Go.Rv
section
variable {P : Program} {C : Cfg} {s : Sim} {h : Heap} {w : World}

theorem one_cells (c : AV) : (one c).cells = [c] := by cases c <;> rfl

theorem group_length (n : Nat) (cs : List AV) (sz : Nat) : (group n cs sz).length = n := by
  induction n generalizing cs with
  | zero => rfl
  | succ n ih => simp [group, ih]

theorem group_get (n : Nat) : ∀ (cs : List AV) (sz i : Nat) (x : AV), n * sz ≤ cs.length → (group n cs sz)[i]? = some x → x.cells = (cs.drop (i * sz)).take sz := by
  induction n with
  | zero => intro cs sz i x _ hx; simp [group] at hx
  | succ n ih =>
    intro cs sz i x hl hx
    rw [Nat.succ_mul] at hl
    cases i with
    | zero =>
      simp only [group, List.getElem?_cons_zero, Option.some.injEq] at hx
      subst hx
      simp only [Nat.zero_mul, List.drop_zero]
      split
      · rename_i h1
        have h1' : sz = 1 := by simpa using h1
        subst h1'
        rw [one_cells]
        cases cs with
        | nil => simp at hl
        | cons c r => rfl
      · rfl
    | succ i =>
      simp only [group, List.getElem?_cons_succ] at hx
      rw [ih (cs.drop sz) sz i x (by simp; omega) hx, List.drop_drop]
      rw [Nat.succ_mul, Nat.add_comm]

theorem group_cells_length {n : Nat} {cs : List AV} {sz i : Nat} {x : AV} (hl : n * sz ≤ cs.length) (hx : (group n cs sz)[i]? = some x) : x.cells.length = sz := by
  rw [group_get n cs sz i x hl hx]
  have hi : i < n := by have := (List.getElem?_eq_some_iff.1 hx).1; rw [group_length] at this; exact this
  have : (i + 1) * sz ≤ n * sz := Nat.mul_le_mul_right _ hi
  rw [Nat.succ_mul] at this
  simp
  omega

theorem group_cell {n : Nat} {cs : List AV} {sz i j : Nat} {x y : AV} (hl : n * sz ≤ cs.length) (hx : (group n cs sz)[i]? = some x) (hy : x.cells[j]? = some y) : cs[i * sz + j]? = some y := by
  rw [group_get n cs sz i x hl hx, List.getElem?_take] at hy
  split at hy
  · simpa using hy
  · cases hy

theorem group_flat (n : Nat) : ∀ (cs : List AV) (sz : Nat), n * sz ≤ cs.length → ((group n cs sz).map AV.cells).flatten = cs.take (n * sz) := by
  induction n with
  | zero => intro cs sz _; simp [group]
  | succ n ih =>
    intro cs sz hl
    rw [Nat.succ_mul] at hl
    have h0 := group_get (n + 1) cs sz 0 _ (by rw [Nat.succ_mul]; exact hl) rfl
    simp only [group, List.map_cons, List.flatten_cons]
    simp only [Nat.zero_mul, List.drop_zero] at h0
    rw [h0, ih (cs.drop sz) sz (by simp; omega), Nat.succ_mul, Nat.add_comm (n * sz) sz, List.take_add]

/-- A row of cells that is never written, read as a slice. -/
theorem lst_of_cells {cs : List AV} {b off n sz c : Nat} {room : Room} (hI : 0 < n → s.I b) (hl : n * sz ≤ cs.length) (hr : Reads s h w b off cs) (hroom : room.ok c) (hc : n ≤ c) :
    VR s h w (.lst (group n cs sz) sz room) (.slice (some ⟨b, off, none⟩) n c) := by
  have := VR.lst (s := s) (h := h) (w := w) (group n cs sz) sz room b off c (fun i j => (w.cell? ⟨b, off + i * sz + j, none⟩).getD undef) (by rw [group_length]; exact hI) hroom (by rw [group_length]; exact hc)
    (fun i x hx => group_cells_length hl hx)
    (fun i j x y hx hy => by
      obtain ⟨v, hv, _⟩ := hr _ y (group_cell hl hx hy)
      rw [show off + i * sz + j = off + (i * sz + j) from by omega, hv]; rfl)
    (fun i j x y hx hy => by
      obtain ⟨v, hv, hvr⟩ := hr _ y (group_cell hl hx hy)
      rw [show off + i * sz + j = off + (i * sz + j) from by omega, hv]; exact hvr)
  rw [group_length] at this
  exact this

theorem buildSlice_rel (TT : TabOk P C) (R : Rel s h w) {t el len : Nat} {ti te : TI} {ps : List (Nat × AV)} {qs : Array (Nat × Value)} {cs : List AV} (hti : C.ty t = some ti) (htd : ti.td = .slice el) (hte : C.ty el = some te)
    (hz : te.zero.length = te.size) (hle : len * te.size ≤ 16777216) (hl : ps.length = qs.size)
    (hpq : ∀ (i : Nat) p q, ps[i]? = some p → qs.toList[i]? = some q → p.1 = q.1 ∧ VR s h w p.2 q.2 ∧ p.2 ≠ .junk)
    (hf : fillA (fun i => some (i * te.size, te.size)) (copies len te.zero) ps = some cs) :
    HRun P s h w (Instr.buildSlice t len qs) (.lst (group len cs te.size) te.size (.exact len)) h ∧
    HRun P s h w (Instr.buildSlice t len qs) (.msl h.length 0 len te.size 0 (some len)) (h ++ [.cells cs 0]) := by
  obtain ⟨d, hd, hok⟩ := (TT t ti hti).und
  rw [htd] at hok
  cases d <;> simp only [TD.ok] at hok
  rw [hok] at hd
  obtain ⟨z, hz1, hz2⟩ := zero_rel (s := s) (h := h) (w := w) (TT el te hte)
  have hzs : z.cells.size = te.size := by have := hz2.1; simp at this; omega
  have hzr := zeros_rel hz2 len
  obtain ⟨us, hus, hr⟩ := fill_rel (place' := fun i => some (i * te.size, te.size)) (fun i x hx => hx) ps qs.toList _ cs _ (by simpa using hl) hpq hzr hf
  have hcl : cs.length = len * te.size := by
    have h1 : ∀ (ps : List (Nat × AV)) (c c' : List AV), fillA (fun i => some (i * te.size, te.size)) c ps = some c' → c'.length = c.length := by
      intro ps
      induction ps with
      | nil => intro c c' hc; simp [fillA] at hc; rw [hc]
      | cons p ps ih =>
        intro c c' hc
        obtain ⟨i, x⟩ := p
        simp only [fillA, Option.bind_eq_bind, Option.bind_some] at hc
        split at hc
        · rw [ih _ _ hc, setCells_length]
        · cases hc
    rw [h1 ps _ cs hf, copies_length, hz]
  have hrun : (Instr.buildSlice t len qs).run P w = .ok (.slice (some ⟨w.heap.size, 0, none⟩) len len) (w.alloc (.cells us el)) := by
    have tail : (newRow el us >>= fun a => (pure (Value.slice (some a) len len) : Sem Value)).run P w = .ok (.slice (some ⟨w.heap.size, 0, none⟩) len len) (w.alloc (.cells us el)) := by
      simp only [newRow, Sem.run_bind, run_newObj, Result.andThen_ok, Sem.run_pure]
      rfl
    rw [hzs] at hus
    simp only [Instr.buildSlice, Sem.run_bind, run_und hd, Result.andThen_ok, run_sizeA (TT _ _ hte), show ¬ len * te.size > 2 ^ 24 from by omega, if_false, Sem.run_pure]
    by_cases h0 : len * te.size = 0
    · have r0 : ∀ f : Nat → Value, Array.map f (Array.range 0) = #[] := fun f => by apply Array.ext'; simp
      have hus0 : Instr.fill (fun i => some (i * te.size, te.size)) #[] qs.toList = some us := by rw [h0, r0] at hus; exact hus
      simp only [h0, if_true, Sem.run_bind, Sem.run_pure, Result.andThen_ok]
      rw [r0, hus0]
      exact tail
    · simp only [h0, if_false, Sem.run_bind, hz1, Sem.run_pure, Result.andThen_ok, hzs]
      rw [hus]
      exact tail
  refine ⟨⟨_, _, _, hrun, Ext.block s h w _ true, R.block _ true, ?_⟩, ?_⟩
  · refine lst_of_cells (fun _ => .inr ⟨rfl, rfl⟩) (by omega) (fun i c hi => ?_) rfl (Nat.le_refl _)
    obtain ⟨v, hv, hvr⟩ := hr.2 i c hi
    refine ⟨v, ?_, hvr.ext R.apart (Ext.block s h w _ true)⟩
    simp only [Nat.zero_add, World.cell?, heap_alloc_at]
    simpa using hv
  · have key := new_cells R (cs := cs) (vs := us) el (by have := hr.1; simp at this; omega) (fun i c hi => by
      obtain ⟨v, h1, h2⟩ := hr.2 i c hi; exact ⟨v, by simpa using h1, h2⟩)
    refine ⟨_, _, _, hrun, key.1, key.2, .msl _ _ _ _ _ _ w.heap.size len el us.size 0 (.inl rfl) (by rw [genOf_new]) (by simp [Sim.add]) (Nat.le_refl _) (fun m hm => by injection hm) (fun hn => by cases hn) ?_ ?_⟩
    · simp only [World.shape?, heap_alloc_at]
    · have := hr.1; simp at this; omega

/-- A variable that is never written. -/
theorem boxImm_rel (R : Rel s h w) (t : Nat) {a : AV} {u : Value} (ha : VR s h w a u) (hj : a ≠ .junk) : HRun P s h w (Instr.box t u) (.ref a.cells) h := by
  have hv := agg_cells ha hj
  have hrun : (Instr.box t u).run P w = .ok (.pointer (some ⟨w.heap.size, 0, none⟩)) (w.alloc (.cells u.cells t)) := by
    simp only [Instr.box, newVar, newRow, Sem.run_bind, run_newObj, Result.andThen_ok, Sem.run_pure]
    rfl
  refine ⟨_, _, _, hrun, Ext.block s h w _ true, R.block _ true, .ref _ w.heap.size 0 (fun i => u.cells.getD i undef) (fun _ => .inr ⟨rfl, rfl⟩) (fun i c hi => ?_) (fun i c hi => ?_)⟩
  · obtain ⟨v, hv1, _⟩ := hv.2 i c hi
    simp only [Nat.zero_add, World.cell?, heap_alloc_at]
    have hv1' : u.cells[i]? = some v := by simpa using hv1
    rw [Array.getD_eq_getD_getElem?, hv1']
    simp [hv1']
  · obtain ⟨v, hv1, hvr⟩ := hv.2 i c hi
    have hv1' : u.cells[i]? = some v := by simpa using hv1
    rw [Array.getD_eq_getD_getElem?, hv1']
    exact hvr.ext R.apart (Ext.block s h w _ true)


theorem part_rel {t : Nat} {ti : TI} (T : TyOk P t ti) {cs : List AV} {vs : Array Value} {off : Nat} {v : AV} (hl : cs.length = vs.size) (hr : ∀ (i : Nat) c, cs[i]? = some c → VR s h w c (vs.getD i undef)) (hp : Rv.part ti (cs.drop off) = some v) :
    PRun P s h w (Go.part t vs off) v := by
  unfold Rv.part at hp
  unfold PRun
  simp only [Go.part, Sem.run_bind, run_isAggA T, Result.andThen_ok]
  split at hp
  · rename_i hagg
    split at hp
    · rename_i hle
      injection hp with hp; subst hp
      have hle' : off + ti.size ≤ vs.size ∨ ti.size = 0 := by simp at hle; omega
      simp only [hagg, if_true, Sem.run_bind, run_sizeA T, Result.andThen_ok, Sem.run_pure]
      refine ⟨_, rfl, .agg _ _ (by simp at hle ⊢; omega) fun i c hi => ?_⟩
      rw [List.getElem?_take] at hi
      split at hi
      · rename_i hlt
        rw [List.getElem?_drop] at hi
        have := hr _ c hi
        have hb : off + i < vs.size := by rw [← hl]; exact (List.getElem?_eq_some_iff.1 hi).1
        have e : (vs.extract off (off + ti.size)).getD i undef = vs.getD (off + i) undef := by
          have h1 : i < min (off + ti.size) vs.size - off := by omega
          simp [Array.getD, hb, h1]
        rw [e]; exact this
      · cases hi
    · cases hp
  · rename_i hagg
    have hagg' : ti.td.isAgg = false := by simpa using hagg
    have h0 : cs[off]? = some v := by
      have : (cs.drop off)[0]? = some v := by rw [← List.head?_eq_getElem?]; exact hp
      simpa using this
    have hb : off < vs.size := by rw [← hl]; exact (List.getElem?_eq_some_iff.1 h0).1
    have := hr off v h0
    simp only [hagg', Bool.false_eq_true, if_false]
    refine ⟨vs[off], by simp [hb], ?_⟩
    simpa [hb] using this

theorem field_rel (TT : TabOk P C) {t k : Nat} {a v : AV} {u : Value} (ha : VR s h w a u) (hv : fieldA C t a k = some v) : PRun P s h w (Instr.field t u k) v := by
  unfold fieldA at hv
  simp only [Option.bind_eq_bind] at hv
  replace hv := Option.bind_eq_some_iff.1 hv
  obtain ⟨ti, hti, hv⟩ := hv
  obtain ⟨d, hd, hok⟩ := (TT t ti hti).und
  generalize ti.td = td at hok hv
  split at hv
  · rename_i fs cs
    replace hv := Option.bind_eq_some_iff.1 hv
    obtain ⟨⟨ft, off⟩, hf, hv⟩ := hv
    replace hv := Option.bind_eq_some_iff.1 hv
    obtain ⟨tf, htf, hv⟩ := hv
    cases d <;> simp only [TD.ok] at hok
    rename_i l
    rw [← hok] at hf
    simp only [List.getElem?_map, Option.map_eq_some_iff, Prod.mk.injEq] at hf
    obtain ⟨fld, h1, rfl, rfl⟩ := hf
    have h1' : l[k]? = some fld := by simpa using h1
    cases ha with
    | agg _ vs hl hr =>
      have := part_rel (P := P) (TT _ _ htf) hl hr hv
      obtain ⟨x, hx, hxr⟩ := this
      refine ⟨x, ?_, hxr⟩
      simp only [Instr.field, Sem.run_bind, run_und hd, Result.andThen_ok, h1', asAgg, Sem.run_pure, hx]
  · cases hv

theorem index_rel (TT : TabOk P C) {t : Nat} {a i v : AV} {u ui : Value} (ha : VR s h w a u) (hi : VR s h w i ui) (hv : indexA C t a i = some v) : PRun P s h w (Instr.index t u ui) v := by
  unfold indexA at hv
  simp only [Option.bind_eq_bind] at hv
  replace hv := Option.bind_eq_some_iff.1 hv
  obtain ⟨ti, hti, hv⟩ := hv
  obtain ⟨d, hd, hok⟩ := (TT t ti hti).und
  generalize ti.td = td at hok hv
  split at hv
  · rename_i l k n
    cases ha; cases hi
    split at hv
    · cases hv
    · rename_i hn
      obtain ⟨c, hc, rfl⟩ := Option.map_eq_some_iff.1 hv
      cases d <;> simp only [TD.ok] at hok
      refine ⟨.int .u8 c.toNat, ?_, .int _ _⟩
      have hlt : n.toNat < l.length := (List.getElem?_eq_some_iff.1 hc).1
      have hb : (⟨l.toArray⟩ : ByteArray)[n.toNat]? = some c := by
        have h1 : n.toNat < (⟨l.toArray⟩ : ByteArray).size := by simpa [ByteArray.size] using hlt
        have h2 : l[n.toNat] = c := by rw [List.getElem?_eq_getElem hlt] at hc; injection hc
        rw [getElem?_pos (⟨l.toArray⟩ : ByteArray) n.toNat h1]
        rw [← h2]
        rfl
      simp only [Instr.index, asIntOf, Sem.run_bind, Sem.run_pure, Result.andThen_ok, run_und hd, show 0 ≤ n from by omega, if_true, hb]
  · rename_i len e cs k n
    split at hv
    · cases hv
    · rename_i hn
      split at hv
      · rename_i hlt
        replace hv := Option.bind_eq_some_iff.1 hv
        obtain ⟨te, hte, hv⟩ := hv
        simp only [hte, Option.bind_some] at hv
        cases d <;> simp only [TD.ok] at hok
        obtain ⟨ea, eb⟩ := hok
        rw [ea, eb] at hd
        cases hi
        cases ha with
        | agg _ vs hl hr =>
          obtain ⟨x, hx, hxr⟩ := part_rel (P := P) (TT _ _ hte) hl hr hv
          refine ⟨x, ?_, hxr⟩
          simp only [Instr.index, asIntOf, Sem.run_bind, Sem.run_pure, Result.andThen_ok, run_und hd, show 0 ≤ n ∧ n < (len : Int) from ⟨by omega, by omega⟩, and_self, if_true, run_sizeA (TT _ _ hte), hx]
      · cases hv
  · cases hv
end
end Go.Rv

/-
  Slices that are cut, appended to, made.
-/
set_option linter.unusedSimpArgs false
set_option linter.unusedVariables false
namespace Go.Rv
section
variable {P : Program} {C : Cfg} {s : Sim} {h : Heap} {w : World}

def VRo (s : Sim) (h : Heap) (w : World) : Option AV → Option Value → Prop
  | none, none => True
  | some x, some v => VR s h w x v
  | _, _ => False

theorem bound_run {x : AV} {u : Value} {d most y n : Nat} (hx : VR s h w x u) (hb : boundA (some x) d most = some n) (hm : most ≤ y) : n ≤ most ∧ ∀ code, (Instr.sliceBound u y code).run P w = .ok n w := by
  unfold boundA at hb
  cases x <;> simp only [reduceCtorEq] at hb
  case int k i =>
    cases hx
    split at hb
    · rename_i hc
      simp only [Bool.and_eq_true, decide_eq_true_eq] at hc
      injection hb with hb; subst hb
      refine ⟨by omega, fun code => ?_⟩
      simp only [Instr.sliceBound, asIntOf, Sem.run_bind, Sem.run_pure, Result.andThen_ok, show 0 ≤ i ∧ i ≤ (y : Int) from ⟨by omega, by omega⟩, and_self, if_true]
    · cases hb

theorem bounds_run {isSlice : Bool} {len cap most a b : Nat} {lo hi : Option AV} {lov hiv : Option Value} (hlo : VRo s h w lo lov) (hhi : VRo s h w hi hiv) (hb : boundA hi len most = some b) (ha : boundA lo 0 b = some a) (hm : most ≤ cap) (hl : len ≤ cap) :
    a ≤ b ∧ b ≤ cap ∧ (hi = none → b = len) ∧ (hi ≠ none → b ≤ most) ∧ (Instr.sliceBounds isSlice len cap lov hiv none).run P w = .ok (a, b, cap) w := by
  have hA : ∀ {a : Nat} {lo : Option AV} {lov : Option Value}, VRo s h w lo lov → boundA lo 0 b = some a → a ≤ b ∧ ∀ x, lov = some x → (Instr.sliceBound x b .sliceB).run P w = .ok a w := by
    intro a lo lov hlo ha
    cases lo with
    | none =>
      cases lov with
      | none =>
        simp only [boundA, Option.some.injEq] at ha
        subst ha
        exact ⟨Nat.zero_le _, fun x hx => by cases hx⟩
      | some v => exact hlo.elim
    | some x =>
      cases lov with
      | none => exact hlo.elim
      | some v =>
        obtain ⟨h3, h4⟩ := bound_run (P := P) hlo ha (Nat.le_refl _)
        exact ⟨h3, fun y hy => by injection hy with hy; subst hy; exact h4 _⟩
  obtain ⟨hab, hrunA⟩ := hA hlo ha
  have hnone : lov = none → a = 0 := by
    rintro rfl
    cases lo with
    | none => simpa [boundA] using ha.symm
    | some x => exact hlo.elim
  cases hi with
  | none =>
    cases hiv with
    | some v => exact hhi.elim
    | none =>
      simp only [boundA, Option.some.injEq] at hb
      subst hb
      refine ⟨hab, hl, fun _ => rfl, fun h => absurd rfl h, ?_⟩
      cases lov with
      | none =>
        obtain rfl := hnone rfl
        simp [Instr.sliceBounds]
      | some x => simp [Instr.sliceBounds, hrunA x rfl]
  | some y =>
    cases hiv with
    | none => exact hhi.elim
    | some v =>
      obtain ⟨h2, h3⟩ := bound_run (P := P) hhi hb hm
      refine ⟨hab, (by omega), (fun h => by cases h), (fun _ => h2), ?_⟩
      cases lov with
      | none =>
        obtain rfl := hnone rfl
        simp [Instr.sliceBounds, h3]
      | some x => simp [Instr.sliceBounds, h3, hrunA x rfl]

theorem lst_empty (z : Nat) (r : Room) (b off c : Nat) (hr : r.ok c) : VR s h w (.lst [] z r) (.slice (some ⟨b, off, none⟩) 0 c) :=
  .lst [] z r b off c (fun _ _ => .nilFunc) (fun h0 => by simp at h0) hr (Nat.zero_le _) (fun i x hx => by simp at hx) (fun i j x y hx => by simp at hx) (fun i j x y hx => by simp at hx)

theorem lst_cut {xs : List AV} {z sz a b b0 off : Nat} {r' : Room} {f : Nat → Nat → Value} (hI : 0 < xs.length → s.I b0) (hz : ∀ (i : Nat) x, xs[i]? = some x → x.cells.length = z)
    (hc : ∀ (i j : Nat) x y, xs[i]? = some x → x.cells[j]? = some y → w.cell? ⟨b0, off + i * z + j, none⟩ = some (f i j)) (hr : ∀ (i j : Nat) x y, xs[i]? = some x → x.cells[j]? = some y → VR s h w y (f i j))
    (hab : a ≤ b) (hb : b ≤ xs.length) (hsz : z = sz ∨ xs = []) (m : Nat) (hm : b ≤ m) (hroom : r'.ok (m - a)) :
    VR s h w (.lst ((xs.take b).drop a) z r') (.slice (some (if m = a then ⟨b0, off, none⟩ else (⟨b0, off, none⟩ : Addr).add (a * sz))) (b - a) (m - a)) := by
  by_cases he : b = a
  · subst he
    have e : (xs.take b).drop b = [] := by apply List.drop_eq_nil_of_le; simp; omega
    rw [e, Nat.sub_self]
    split
    · exact lst_empty _ _ _ _ _ hroom
    · rw [addr_add]; exact lst_empty _ _ _ _ _ hroom
  · have hlt : a < b := by omega
    have hne : xs ≠ [] := by rintro rfl; simp at hb; omega
    obtain rfl : z = sz := hsz.resolve_right hne
    rw [if_neg (by omega), addr_add]
    have hlen : ((xs.take b).drop a).length = b - a := by simp; omega
    have get : ∀ (i : Nat) x, ((xs.take b).drop a)[i]? = some x → xs[a + i]? = some x := fun i x hx => by
      rw [List.getElem?_drop, List.getElem?_take] at hx
      split at hx
      · exact hx
      · cases hx
    have := VR.lst (s := s) (h := h) (w := w) ((xs.take b).drop a) z r' b0 (off + a * z) (m - a) (fun i j => f (a + i) j) (fun _ => hI (by omega)) hroom (by omega)
      (fun i x hx => hz _ x (get i x hx))
      (fun i j x y hx hy => by
        have := hc _ j x y (get i x hx) hy
        rw [Nat.add_mul, ← Nat.add_assoc] at this
        exact this)
      (fun i j x y hx hy => hr _ j x y (get i x hx) hy)
    rw [hlen] at this
    exact this

theorem slice_rel (TT : TabOk P C) (R : Rel s h w) {t : Nat} {a v : AV} {u : Value} {lo hi : Option AV} {lov hiv : Option Value} (ha : VR s h w a u) (hlo : VRo s h w lo lov) (hhi : VRo s h w hi hiv) (hv : sliceA C h t a lo hi none = some v) :
    PRun P s h w (Instr.sliceAt t u lov hiv none) v := by
  unfold sliceA at hv
  simp only [Option.bind_eq_bind] at hv
  replace hv := Option.bind_eq_some_iff.1 hv
  obtain ⟨ti, hti, hv⟩ := hv
  obtain ⟨d, hd, hok⟩ := (TT t ti hti).und
  generalize ti.td = td at hok hv
  split at hv
  · -- a string
    rename_i l
    simp only [Option.isSome_none, Bool.false_eq_true, if_false] at hv
    replace hv := Option.bind_eq_some_iff.1 hv
    obtain ⟨b, hb, hv⟩ := hv
    replace hv := Option.bind_eq_some_iff.1 hv
    obtain ⟨x, hx, hv⟩ := hv
    injection hv with hv; subst hv
    cases ha
    cases d <;> simp only [TD.ok] at hok
    have hsz : (⟨l.toArray⟩ : ByteArray).size = l.length := by simp [ByteArray.size]
    obtain ⟨h1, h2, _, _, h5⟩ := bounds_run (P := P) (isSlice := false) hlo hhi hb hx (Nat.le_refl _) (Nat.le_refl _)
    refine ⟨.string ⟨((l.take b).drop x).toArray⟩, ?_, .str _⟩
    simp only [Instr.sliceAt, Sem.run_bind, run_und hd, Result.andThen_ok, Instr.slice, Option.isSome_none, Bool.false_eq_true, if_false, hsz, h5, Sem.run_pure]
    rw [Lib.extract_eq]
    simp [List.drop_take]
  · -- a slice that is never written
    rename_i e xs z r
    replace hv := Option.bind_eq_some_iff.1 hv
    obtain ⟨te, hte, hv⟩ := hv
    split at hv
    · cases hv
    · rename_i hz0
      have hz1 : z = te.size ∨ xs = [] := by
        simp only [Bool.not_eq_true', Bool.or_eq_false_iff, not_and, Bool.not_eq_false, beq_eq_false_iff_ne, ne_eq] at hz0
        by_cases e1 : z = te.size
        · exact .inl e1
        · exact .inr (by simpa using hz0 e1)
      replace hv := Option.bind_eq_some_iff.1 hv
      obtain ⟨b, hb, hv⟩ := hv
      replace hv := Option.bind_eq_some_iff.1 hv
      obtain ⟨x, hx, hv⟩ := hv
      injection hv with hv
      cases d <;> simp only [TD.ok] at hok
      rw [hok] at hd
      cases ha with
      | lstNil =>
        obtain ⟨h1, h2, _, _, h5⟩ := bounds_run (P := P) (isSlice := true) hlo hhi hb hx (Nat.le_refl _) (Nat.le_refl _)
        have : b = 0 := by simpa using h2
        subst this
        have : x = 0 := by omega
        subst this
        simp only [List.take_zero, List.drop_nil] at hv
        subst hv
        simp only [List.length_nil] at h5
        refine ⟨.slice none 0 0, ?_, .lstNil _⟩
        simp only [Instr.sliceAt, Sem.run_bind, run_und hd, Result.andThen_ok, Instr.slice, h5, run_sizeA (TT _ _ hte), Sem.run_pure]
        rfl
      | lstEmpty _ A =>
        obtain ⟨h1, h2, _, _, h5⟩ := bounds_run (P := P) (isSlice := true) hlo hhi hb hx (Nat.le_refl _) (Nat.le_refl _)
        have : b = 0 := by simpa using h2
        subst this
        have : x = 0 := by omega
        subst this
        simp only [List.take_zero, List.drop_nil] at hv
        subst hv
        simp only [List.length_nil] at h5
        refine ⟨.slice (some A) 0 0, ?_, .lstEmpty _ A⟩
        simp only [Instr.sliceAt, Sem.run_bind, run_und hd, Result.andThen_ok, Instr.slice, h5, run_sizeA (TT _ _ hte), Sem.run_pure]
        rfl
      | lst _ _ _ b0 off c f hI hr hle hz hc hrr =>
        obtain ⟨h1, h2, h3, h4, h5⟩ := bounds_run (P := P) (isSlice := true) hlo hhi hb hx (Nat.le_trans (Nat.le_refl _) hle) hle
        have hbl : b ≤ xs.length := by
          cases hi with
          | none => exact Nat.le_of_eq (h3 rfl)
          | some y => exact h4 (by simp)
        subst hv
        refine ⟨.slice (some (if c = x then ⟨b0, off, none⟩ else (⟨b0, off, none⟩ : Addr).add (x * te.size))) (b - x) (c - x), ?_, ?_⟩
        · simp only [Instr.sliceAt, Sem.run_bind, run_und hd, Result.andThen_ok, Instr.slice, h5, run_sizeA (TT _ _ hte), Sem.run_pure]
          congr 2
          split <;> rfl
        · refine lst_cut hI hz hc hrr h1 hbl hz1 c (by omega) ?_
          cases r with
          | nil => exact hr.elim
          | exact n =>
            have hr' : c = n := hr
            subst hr'
            rfl
          | «open» => trivial
  · -- an object's slice
    rename_i e o off len sz g cap
    replace hv := Option.bind_eq_some_iff.1 hv
    obtain ⟨cs, ho, hv⟩ := hv
    replace hv := Option.bind_eq_some_iff.1 hv
    obtain ⟨te, hte, hv⟩ := hv
    simp only [Option.isSome_none, Bool.false_or, bne_iff_ne, ne_eq, ite_not] at hv
    split at hv
    · rename_i hsz
      replace hv := Option.bind_eq_some_iff.1 hv
      obtain ⟨b, hb, hv⟩ := hv
      replace hv := Option.bind_eq_some_iff.1 hv
      obtain ⟨x, hx, hv⟩ := hv
      injection hv with hv; subst hv
      cases d <;> simp only [TD.ok] at hok
      rw [hok] at hd
      obtain ⟨hg, _, hlen⟩ := genOf_obj ho
      cases ha with
      | msl _ _ _ _ _ _ b0 c el n off' hoff h1 h2 h3 h4 h5 h6 h7 =>
        have hm : (match (generalizing := false) cap with | some c => c | none => if sz == 0 then len else (cs.length - off) / sz) ≤ c := by
          cases cap with
          | some m => exact Nat.le_of_eq (h4 m rfl).symm
          | none =>
            simp only
            split
            · exact h3
            · rename_i hs
              have hs' : 0 < sz := by have : ¬ sz = 0 := by simpa using hs
                                      omega
              have := h5 rfl
              rw [hlen] at this
              exact Nat.le_of_lt_succ ((Nat.div_lt_iff_lt_mul hs').2 (by rw [Nat.succ_mul]; omega))
        obtain ⟨e1, e2, e3, e4, e5⟩ := bounds_run (P := P) (isSlice := true) hlo hhi hb hx hm h3
        refine ⟨.slice (some (if c = x then ⟨b0, off', none⟩ else (⟨b0, off', none⟩ : Addr).add (x * te.size))) (b - x) (c - x), ?_, ?_⟩
        · simp only [Instr.sliceAt, Sem.run_bind, run_und hd, Result.andThen_ok, Instr.slice, e5, run_sizeA (TT _ _ hte), Sem.run_pure]
          congr 2
          split <;> rfl
        · have hcx : off + x * sz + (c - x) * sz = off + c * sz := by
            rw [Nat.add_assoc, ← Nat.add_mul, Nat.add_sub_cancel' (by omega : x ≤ c)]
          have mk : ∀ off'', (off'' = off + x * sz ∨ c - x = 0) → VR s h w (.msl o (off + x * sz) (b - x) sz g (cap.map (· - x))) (.slice (some ⟨b0, off'', none⟩) (b - x) (c - x)) := fun off'' ho'' =>
            .msl _ _ _ _ _ _ b0 (c - x) el n off'' ho'' h1 h2 (by omega) (fun m hm' => by
              obtain ⟨m', hm1, hm2⟩ := Option.map_eq_some_iff.1 hm'
              rw [h4 m' hm1, ← hm2]) (fun hn => by
              have : cap = none := by simpa using hn
              rw [hcx]; exact h5 this) h6 (by rw [hcx]; exact h7)
          split
          · rename_i hcc
            exact mk _ (.inr (by omega))
          · rw [addr_add]
            rcases hoff with hoff | hoff
            · exact mk _ (.inl (by rw [hoff, hsz]))
            · exact mk _ (.inr (by omega))
      | mslOld _ _ _ _ _ _ g' a n c h1 h2 => rw [hg] at h1; injection h1; omega
    · cases hv
  · -- an array of an object
    rename_i len e o off g
    simp only [Option.isSome_none, Bool.false_eq_true, if_false] at hv
    replace hv := Option.bind_eq_some_iff.1 hv
    obtain ⟨cs, ho, hv⟩ := hv
    replace hv := Option.bind_eq_some_iff.1 hv
    obtain ⟨te, hte, hv⟩ := hv
    split at hv
    · cases hv
    rename_i hfit
    replace hv := Option.bind_eq_some_iff.1 hv
    obtain ⟨b, hb, hv⟩ := hv
    replace hv := Option.bind_eq_some_iff.1 hv
    obtain ⟨x, hx, hv⟩ := hv
    injection hv with hv; subst hv
    cases d <;> simp only [TD.ok] at hok
    obtain ⟨ea, eb⟩ := hok
    rw [ea, eb] at hd
    obtain ⟨hg, hobj, hlen⟩ := genOf_obj ho
    obtain ⟨e1, e2, e3, e4, e5⟩ := bounds_run (P := P) (isSlice := false) hlo hhi hb hx (Nat.le_refl _) (Nat.le_refl _)
    cases ha with
    | ptr _ _ _ b0 h1 h2 =>
      obtain ⟨y, hy, hyr⟩ := R.obj o b0 h2
      rw [hobj] at hy
      injection hy with hy; subst hy
      obtain ⟨bc, el, hbc, hbl, _⟩ := hyr
      have hcx : off + x * te.size + (len - x) * te.size = off + len * te.size := by
        rw [Nat.add_assoc, ← Nat.add_mul, Nat.add_sub_cancel' (by omega : x ≤ len)]
      refine ⟨.slice (some (if len = x then ⟨b0, off, none⟩ else (⟨b0, off, none⟩ : Addr).add (x * te.size))) (b - x) (len - x), ?_, ?_⟩
      · simp only [Instr.sliceAt, Sem.run_bind, run_und hd, Result.andThen_ok, Instr.sureAddr, e5, run_sizeA (TT _ _ hte), Sem.run_pure]
      · have mk : ∀ off'', (off'' = off + x * te.size ∨ len - x = 0) → VR s h w (.msl o (off + x * te.size) (b - x) te.size g (some (len - x))) (.slice (some ⟨b0, off'', none⟩) (b - x) (len - x)) := fun off'' ho'' =>
          .msl _ _ _ _ _ _ b0 (len - x) el bc.size off'' ho'' h1 h2 (by omega) (fun m hm' => by injection hm') (fun hn => by cases hn) (by simp [World.shape?, hbc]) (by rw [hcx]; omega)
        split
        · exact mk _ (.inr (by omega))
        · rw [addr_add]; exact mk _ (.inl rfl)
    | ptrOld _ _ _ g' a h1 h2 => rw [hg] at h1; injection h1; omega
  · -- an array that is never written
    rename_i len e cs
    simp only [Option.isSome_none, Bool.false_eq_true, if_false] at hv
    replace hv := Option.bind_eq_some_iff.1 hv
    obtain ⟨te, hte, hv⟩ := hv
    split at hv
    · cases hv
    rename_i hfit
    simp only [Bool.or_eq_true, beq_iff_eq, decide_eq_true_eq, not_or, Nat.not_lt] at hfit
    obtain ⟨hfit0, hfit⟩ := hfit
    replace hv := Option.bind_eq_some_iff.1 hv
    obtain ⟨b, hb, hv⟩ := hv
    replace hv := Option.bind_eq_some_iff.1 hv
    obtain ⟨x, hx, hv⟩ := hv
    injection hv with hv; subst hv
    cases d <;> simp only [TD.ok] at hok
    obtain ⟨ea, eb⟩ := hok
    rw [ea, eb] at hd
    obtain ⟨e1, e2, e3, e4, e5⟩ := bounds_run (P := P) (isSlice := false) hlo hhi hb hx (Nat.le_refl _) (Nat.le_refl _)
    cases ha with
    | ref _ b0 off f hI hc hr =>
      refine ⟨.slice (some (if len = x then ⟨b0, off, none⟩ else (⟨b0, off, none⟩ : Addr).add (x * te.size))) (b - x) (len - x), ?_, ?_⟩
      · simp only [Instr.sliceAt, Sem.run_bind, run_und hd, Result.andThen_ok, Instr.sureAddr, e5, run_sizeA (TT _ _ hte), Sem.run_pure]
      · by_cases he : b = x
        · subst he
          rw [Nat.sub_self]
          simp only [group]
          split
          · exact lst_empty _ _ _ _ _ rfl
          · rw [addr_add]; exact lst_empty _ _ _ _ _ rfl
        · rw [if_neg (by omega), addr_add]
          refine lst_of_cells (cs := cs.drop (x * te.size)) (fun h0 => hI ?_) ?_ (fun i c hi => ?_) rfl (by omega)
          · have : 1 * 1 ≤ len * te.size := Nat.mul_le_mul (by omega) (by omega)
            omega
          · have : (b - x) * te.size + x * te.size ≤ len * te.size := by
              rw [← Nat.add_mul]; exact Nat.mul_le_mul_right _ (by omega)
            simp; omega
          · rw [List.getElem?_drop] at hi
            exact ⟨_, by rw [Nat.add_assoc]; exact hc _ c hi, hr _ c hi⟩
  · cases hv
end
end Go.Rv
