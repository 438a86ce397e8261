/-
  More operations: what is stored, made, put together, cut.
-/
import Derived.Test.YtpnafmeehjfnaaaGreatDoorRvOps3
import Derived.Laws.Append
import Derived.Laws.Slices
set_option linter.unusedSimpArgs false
set_option linter.unusedVariables false
namespace Go.Rv
section
variable {P : Program} {C : Cfg} {s : Sim} {h : Heap} {w : World}

theorem VRs.nil : VRs s h w [] [] := ⟨rfl, fun i c hi => by simp at hi⟩
theorem VRs.cons {x : AV} {v : Value} {xs : List AV} {vs : List Value} (h1 : VR s h w x v) (h2 : VRs s h w xs vs) : VRs s h w (x :: xs) (v :: vs) :=
  ⟨by simp [h2.1], fun i c hi => by
    cases i with
    | zero => simp at hi; subst hi; exact ⟨v, rfl, h1⟩
    | succ i => exact h2.2 i c (by simpa using hi)⟩
theorem VRs.tail {x : AV} {v : Value} {xs : List AV} {vs : List Value} (H : VRs s h w (x :: xs) (v :: vs)) : VR s h w x v ∧ VRs s h w xs vs := by
  obtain ⟨u, hu, hr⟩ := H.2 0 x rfl
  simp at hu
  subst hu
  exact ⟨hr, by have := H.1; simpa using this, fun i c hi => H.2 (i + 1) c (by simpa using hi)⟩
theorem VRs.append {xs ys : List AV} {vs us : List Value} (h1 : VRs s h w xs vs) (h2 : VRs s h w ys us) : VRs s h w (xs ++ ys) (vs ++ us) :=
  ⟨by simp [h1.1, h2.1], fun i c hi => by
    rw [List.getElem?_append] at hi ⊢
    rw [← h1.1]
    split at hi
    · rename_i hl; rw [if_pos hl]; exact h1.2 i c hi
    · rename_i hl; rw [if_neg hl]; exact h2.2 _ c hi⟩
theorem VRs.set {xs ys : List AV} {vs us : List Value} (h1 : VRs s h w xs vs) (h2 : VRs s h w ys us) (off : Nat) (hl : off + ys.length ≤ xs.length) : VRs s h w (setCells xs off ys) (setCells vs off us) :=
  ⟨by simp [setCells_length, h1.1], fun i c hi => by
    rw [setCells_get ys xs off i hl] at hi
    rw [setCells_get us vs off i (by rw [← h1.1, ← h2.1]; exact hl), ← h2.1]
    split at hi
    · rename_i hc; rw [if_pos hc]; exact h2.2 _ c hi
    · rename_i hc; rw [if_neg hc]; exact h1.2 i c hi⟩

theorem all_one {xs : List AV} {vs : List Value} (H : VRs s h w xs vs) (hl : xs.all AV.leaf = true) : ∀ v ∈ vs, v.oneCell' = true := by
  intro v hv
  obtain ⟨i, hi, rfl⟩ := List.mem_iff_getElem.1 hv
  have hx : i < xs.length := by rw [H.1]; exact hi
  obtain ⟨u, hu, hr⟩ := H.2 i xs[i] (List.getElem?_eq_getElem hx)
  rw [List.getElem?_eq_getElem hi] at hu
  injection hu with hu
  rw [hu]
  exact leaf_one (List.all_eq_true.1 hl _ (List.getElem_mem hx)) hr

theorem store_rel (TT : TabOk P C) (R : Rel s h w) {t : Nat} {a x : AV} {u v : Value} {h' : Heap} (ha : VR s h w a u) (hx : VR s h w x v) (hs : storeA C h t a x = some h') :
    ∃ w', (Instr.storeAt t u v).run P w = .ok () w' ∧ Ext s h w s h' w' ∧ Rel s h' w' := by
  unfold storeA at hs
  simp only [Option.bind_eq_bind] at hs
  replace hs := Option.bind_eq_some_iff.1 hs
  obtain ⟨ti, hti, hs⟩ := hs
  cases a <;> simp only [reduceCtorEq] at hs
  case ptr o off g =>
    replace hs := Option.bind_eq_some_iff.1 hs
    obtain ⟨cs, ho, hs⟩ := hs
    split at hs
    · rename_i hc
      simp only [Bool.and_eq_true, beq_iff_eq, decide_eq_true_eq] at hc
      obtain ⟨⟨hl, hle⟩, hleaf⟩ := hc
      injection hs with hs
      subst hs
      cases ha with
      | ptr _ _ _ b h1 h2 =>
        have hj : x ≠ .junk := by rintro rfl; simp [AV.cells, AV.leaf] at hleaf
        have hv := agg_cells hx hj
        obtain ⟨w', hrun, E, R'⟩ := store_cells (P := P) R h2 ho (by rw [hl]; exact hle) hv (all_one hv hleaf) 0
        refine ⟨w', ?_, E, R'⟩
        have hsz : v.cells.size = ti.size := by rw [← hl, hv.1]; simp
        simp only [Instr.storeAt, Instr.sureAddr, Sem.run_bind, Sem.run_pure, Result.andThen_ok, storeVar, run_sizeA (TT t ti hti), hsz, ne_eq, not_true_eq_false, if_false]
        exact hrun off rfl
      | ptrOld _ _ _ g' a h1 h2 => have := (genOf_obj ho).1; rw [this] at h1; injection h1; omega
    · cases hs

theorem zero_rel {t : Nat} {ti : TI} (T : TyOk P t ti) : ∃ z, (∀ w, (zeroValue t).run P w = .ok z w) ∧ VRs s h w ti.zero z.cells.toList := by
  obtain ⟨z, h1, h2, h3⟩ := run_zeroA T
  refine ⟨z, h1, by simp [h2], fun i c hi => ?_⟩
  have hlt : i < z.cells.size := by rw [h2]; exact (List.getElem?_eq_some_iff.1 hi).1
  refine ⟨z.cells[i], by simp [hlt], ?_⟩
  have := ofValue_rel (s := s) (h := h) (w := w) (h3 i c hi)
  simpa [hlt] using this

/-- A new object that a pointer names. -/
theorem newVar_rel (R : Rel s h w) (el : TypeId) {cs : List AV} {vs : Array Value} (hv : VRs s h w cs vs.toList) :
    HRun P s h w (do pure (.pointer (some (← newRow el vs)))) (.ptr h.length 0 0) (h ++ [.cells cs 0]) := by
  have key := new_cells R (cs := cs) (vs := vs) el (by have := hv.1; simp at this; omega) (fun i c hi => by
    obtain ⟨v, h1, h2⟩ := hv.2 i c hi; exact ⟨v, by simpa using h1, h2⟩)
  refine ⟨_, _, .pointer (some ⟨w.heap.size, 0, none⟩), ?_, key.1, key.2, .ptr _ _ _ w.heap.size (by rw [genOf_new]) (by simp [Sim.add])⟩
  simp only [newRow, Sem.run_bind, run_newObj, Result.andThen_ok, Sem.run_pure]
  rfl

theorem alloc_rel (TT : TabOk P C) (R : Rel s h w) {t : Nat} {ti : TI} (hti : C.ty t = some ti) : HRun P s h w (Instr.alloc t true (.tuple #[])) (.ptr h.length 0 0) (h ++ [.cells ti.zero 0]) := by
  obtain ⟨z, h1, h2⟩ := zero_rel (s := s) (h := h) (w := w) (TT t ti hti)
  obtain ⟨s', w', x, hr, rest⟩ := newVar_rel (P := P) R t h2
  exact ⟨s', w', x, by
    simp only [Instr.alloc, Sem.run_bind, h1, Result.andThen_ok, newVar]
    simpa only [Sem.run_bind] using hr, rest⟩

theorem box_rel (R : Rel s h w) (t : Nat) {a : AV} {u : Value} (ha : VR s h w a u) (hj : a ≠ .junk) : HRun P s h w (Instr.box t u) (.ptr h.length 0 0) (h ++ [.cells a.cells 0]) := by
  obtain ⟨s', w', x, hr, rest⟩ := newVar_rel (P := P) R t (agg_cells ha hj)
  exact ⟨s', w', x, by simpa only [Instr.box, newVar, Sem.run_bind] using hr, rest⟩

/-! ### Struct and slice literals -/

theorem foldl_set (vs : List Value) (off : Nat) : ∀ (k : Nat) (cs : Array Value), ((vs.zipIdx k).foldl (fun (cs : Array Value) (p : Value × Nat) => cs.setIfInBounds (off + p.2) p.1) cs).toList = setCells cs.toList (off + k) vs := by
  induction vs with
  | nil => intro k cs; rfl
  | cons v r ih =>
    intro k cs
    simp only [List.zipIdx_cons, List.foldl_cons, setCells]
    rw [ih (k + 1)]
    simp [Nat.add_assoc]

theorem fill_rel {place place' : Nat → Option (Nat × Nat)} (hp : ∀ i x, place i = some x → place' i = some x) : ∀ (ps : List (Nat × AV)) (qs : List (Nat × Value)) (cells cells' : List AV) (vs : Array Value),
    ps.length = qs.length → (∀ (i : Nat) p q, ps[i]? = some p → qs[i]? = some q → p.1 = q.1 ∧ VR s h w p.2 q.2 ∧ p.2 ≠ .junk) → VRs s h w cells vs.toList → fillA place cells ps = some cells' →
    ∃ us, Instr.fill place' vs qs = some us ∧ VRs s h w cells' us.toList
  | [], [], cells, cells', vs, _, _, hv, hf => by
    simp only [fillA, Option.some.injEq] at hf
    subst hf
    exact ⟨vs, rfl, hv⟩
  | p :: ps, q :: qs, cells, cells', vs, hl, hpq, hv, hf => by
    obtain ⟨i, x⟩ := p
    obtain ⟨j, v⟩ := q
    obtain ⟨rfl, hx, hj⟩ := hpq 0 _ _ rfl rfl
    simp only at hx hj
    simp only [fillA, Option.bind_eq_bind] at hf
    replace hf := Option.bind_eq_some_iff.1 hf
    obtain ⟨⟨off, size⟩, hpl, hf⟩ := hf
    simp only at hf
    split at hf
    · rename_i hc
      simp only [Bool.and_eq_true, beq_iff_eq, decide_eq_true_eq] at hc
      obtain ⟨h1, h2⟩ := hc
      have hxc := agg_cells hx hj
      have hvsz : v.cells.size = size := by have := hxc.1; simp at this; omega
      have hcl : cells.length = vs.size := by have := hv.1; simpa using this
      have hset := hv.set hxc off (by rw [h1]; exact h2)
      have hfold := foldl_set v.cells.toList off 0 vs
      obtain ⟨us, hus, hr⟩ := fill_rel hp ps qs _ cells' (v.cells.zipIdx.foldl (fun (cs : Array Value) (p : Value × Nat) => cs.setIfInBounds (off + p.2) p.1) vs) (by simpa using hl) (fun k p q hk hk' => hpq (k + 1) p q (by simpa using hk) (by simpa using hk'))
        (by
          have e : (v.cells.zipIdx.foldl (fun (cs : Array Value) (p : Value × Nat) => cs.setIfInBounds (off + p.2) p.1) vs).toList = setCells vs.toList off v.cells.toList := by
            rw [← Array.foldl_toList, Array.toList_zipIdx]
            exact hfold
          rw [e]; exact hset) hf
      refine ⟨us, ?_, hr⟩
      simp only [Instr.fill, hp i _ hpl]
      rw [if_neg (by simp [hvsz]; omega)]
      exact hus
    · cases hf

theorem mapM_list {α β : Type} (f : α → Sem β) (g : α → β) : ∀ (l : List α), (∀ a ∈ l, ∀ w, (f a).run P w = .ok (g a) w) → (l.mapM f).run P w = .ok (l.map g) w
  | [], _ => by simp
  | a :: l, hf => by
    rw [List.mapM_cons]
    simp only [Sem.run_bind, hf a (by simp) w, Result.andThen_ok, mapM_list f g l (fun b hb => hf b (by simp [hb])), Sem.run_pure, List.map_cons]
theorem mapM_arr {α β : Type} (f : α → Sem β) (g : α → β) (l : Array α) (hf : ∀ a ∈ l, ∀ w, (f a).run P w = .ok (g a) w) : (l.mapM f).run P w = .ok (l.map g) w := by
  rw [Array.mapM_eq_mapM_toList, Sem.run_map, mapM_list f g l.toList (fun a ha => hf a (by simpa using ha))]
  simp only [Result.andThen_ok]
  congr 1
  apply Array.ext'
  simp

theorem build_rel (TT : TabOk P C) {t : Nat} {ps : List (Nat × AV)} {qs : Array (Nat × Value)} {v : AV} (hl : ps.length = qs.size)
    (hpq : ∀ (i : Nat) p q, ps[i]? = some p → qs.toList[i]? = some q → p.1 = q.1 ∧ VR s h w p.2 q.2 ∧ p.2 ≠ .junk) (hv : buildA C t ps = some v) : PRun P s h w (Instr.build t qs) v := by
  unfold buildA at hv
  simp only [Option.bind_eq_bind] at hv
  replace hv := Option.bind_eq_some_iff.1 hv
  obtain ⟨ti, hti, hv⟩ := hv
  obtain ⟨d, hd, hok⟩ := (TT t ti hti).und
  obtain ⟨z, hz1, hz2⟩ := zero_rel (s := s) (h := h) (w := w) (TT t ti hti)
  generalize ti.td = td at hok hv
  cases td <;> simp only [reduceCtorEq] at hv
  case struct fs =>
    replace hv := Option.bind_eq_some_iff.1 hv
    obtain ⟨cs, hf, hv⟩ := hv
    injection hv with hv; subst hv
    cases d <;> simp only [TD.ok] at hok
    rename_i l
    have hrun := mapM_arr (P := P) (w := w) (fun f : Field => do pure (f.offset, ← sizeOf f.type)) (fun f : Field => (f.offset, ((P.info? f.type).map (·.size)).getD 0)) l
    · have hall := (TT t ti hti).fields l hd
      have hrun := hrun (fun f hf w => by
        obtain ⟨i, hi⟩ := hall f hf
        simp [sizeOf, typeInfo, hi])
      obtain ⟨us, hus, hr⟩ := fill_rel (place' := ((l.map fun f : Field => (f.offset, ((P.info? f.type).map (·.size)).getD 0))[·]?)) (fun i x hx => by
        obtain ⟨⟨ft, off⟩, h1, h2⟩ := Option.bind_eq_some_iff.1 hx
        obtain ⟨tf, h3, h4⟩ := Option.map_eq_some_iff.1 h2
        obtain ⟨info, z, h5, h6, _⟩ := (TT ft tf h3).info
        rw [← hok] at h1
        simp only [List.getElem?_map, Option.map_eq_some_iff, Prod.mk.injEq] at h1
        obtain ⟨fld, h7, h8, h9⟩ := h1
        rw [← h4]
        have : l[i]? = some fld := by simpa using h7
        simp [this, h8, h9, h5, h6]) ps qs.toList ti.zero cs z.cells (by simpa using hl) hpq hz2 hf
      refine ⟨.agg us, ?_, .agg _ _ (by have := hr.1; simpa using this) (fun i c hi => ?_)⟩
      · simp only [Instr.build, Sem.run_bind, hz1, Result.andThen_ok, run_und hd, hrun, hus, Sem.run_pure]
      · obtain ⟨u, hu, hur⟩ := hr.2 i c hi
        have hlt : i < us.size := by have := (List.getElem?_eq_some_iff.1 hu).1; simpa using this
        have : us[i] = u := by simpa [hlt] using hu
        simp [hlt, this, hur]
  case array n e =>
    replace hv := Option.bind_eq_some_iff.1 hv
    obtain ⟨te, hte, hv⟩ := hv
    replace hv := Option.bind_eq_some_iff.1 hv
    obtain ⟨cs, hf, hv⟩ := hv
    injection hv with hv; subst hv
    cases d <;> simp only [TD.ok] at hok
    obtain ⟨ea, eb⟩ := hok
    rw [ea, eb] at hd
    obtain ⟨us, hus, hr⟩ := fill_rel (place' := fun i => some (i * te.size, te.size)) (fun i x hx => hx) ps qs.toList ti.zero cs z.cells (by simpa using hl) hpq hz2 hf
    refine ⟨.agg us, ?_, .agg _ _ (by have := hr.1; simpa using this) (fun i c hi => ?_)⟩
    · simp only [Instr.build, Sem.run_bind, hz1, Result.andThen_ok, run_und hd, run_sizeA (TT _ _ hte), hus, Sem.run_pure]
    · obtain ⟨u, hu, hur⟩ := hr.2 i c hi
      have hlt : i < us.size := by have := (List.getElem?_eq_some_iff.1 hu).1; simpa using this
      have : us[i] = u := by simpa [hlt] using hu
      simp [hlt, this, hur]

theorem copies_length (n : Nat) (z : List AV) : (copies n z).length = n * z.length := by
  induction n with
  | zero => simp [copies]
  | succ n ih => simp [copies, ih]; rw [Nat.succ_mul]; omega
theorem copies_get (n : Nat) (z : List AV) (i : Nat) (hi : i < n * z.length) : (copies n z)[i]? = z[i % z.length]? := by
  induction n generalizing i with
  | zero => simp at hi
  | succ n ih =>
    simp only [copies]
    by_cases h1 : i < z.length
    · rw [List.getElem?_append_left h1, Nat.mod_eq_of_lt h1]
    · rw [List.getElem?_append_right (by omega), ih (i - z.length) (by rw [Nat.succ_mul] at hi; omega)]
      rw [Nat.mod_eq_sub_mod (show z.length ≤ i by omega)]

/-- Zero cells, so many times. -/
theorem zeros_rel {zero : List AV} {z : Array Value} (hz : VRs s h w zero z.toList) (n : Nat) : VRs s h w (copies n zero) ((Array.range (n * z.size)).map fun i => z[i % z.size]!).toList := by
  have hl : zero.length = z.size := by have := hz.1; simpa using this
  refine ⟨by simp [copies_length, hl], fun i c hi => ?_⟩
  have hlt : i < n * zero.length := by have := (List.getElem?_eq_some_iff.1 hi).1; rw [copies_length] at this; exact this
  rw [copies_get n zero i hlt] at hi
  obtain ⟨v, hv, hr⟩ := hz.2 _ c hi
  refine ⟨v, ?_, hr⟩
  rw [hl] at hv hlt
  have hm : i % z.size < z.size := Nat.mod_lt _ (by
    rcases Nat.eq_zero_or_pos z.size with h0 | h0
    · rw [h0] at hlt; simp at hlt
    · exact h0)
  have : z[i % z.size]! = v := by
    rw [getElem!_pos z _ hm]
    have : z[i % z.size]? = some v := by simpa using hv
    rw [Array.getElem?_eq_getElem hm] at this
    injection this
  simp [Array.toList_map, Array.toList_range, List.getElem?_map, List.getElem?_range hlt, this]
end
end Go.Rv
