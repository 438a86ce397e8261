/-
  append and make.
-/
import Derived.Laws.BitsLemmas
import Derived.Test.YtiigpcapieeljaaGreatDoorPtB
import Derived.Laws.MakeOwn
set_option linter.unusedSimpArgs false
set_option linter.unusedVariables false
namespace Go.Rv
section
variable {P : Program} {C : Cfg} {s : Sim} {h : Heap} {w : World}

theorem flat_get {z : Nat} : ∀ (xs : List AV), (∀ (i : Nat) x, xs[i]? = some x → x.cells.length = z) → ∀ (k : Nat) (y : AV), (xs.map AV.cells).flatten[k]? = some y → ∃ i j x, xs[i]? = some x ∧ x.cells[j]? = some y ∧ k = i * z + j
  | [], _, k, y, hk => by simp at hk
  | x :: xs, hz, k, y, hk => by
    simp only [List.map_cons, List.flatten_cons] at hk
    have hx := hz 0 x rfl
    rw [List.getElem?_append] at hk
    split at hk
    · exact ⟨0, k, x, rfl, hk, by omega⟩
    · rename_i hlt
      obtain ⟨i, j, x', h1, h2, h3⟩ := flat_get xs (fun i x hi => hz (i + 1) x (by simpa using hi)) _ y hk
      exact ⟨i + 1, j, x', by simpa using h1, h2, by rw [Nat.succ_mul]; omega⟩
theorem flat_length {z : Nat} : ∀ (xs : List AV), (∀ (i : Nat) x, xs[i]? = some x → x.cells.length = z) → (xs.map AV.cells).flatten.length = xs.length * z
  | [], _ => by simp
  | x :: xs, hz => by
    have hx := hz 0 x rfl
    have := flat_length xs (fun i x hi => hz (i + 1) x (by simpa using hi))
    simp only [List.map_cons, List.flatten_cons, List.length_append, List.length_cons, Nat.succ_mul]
    omega

/-- A slice whose elements are known: where its cells lie. -/
theorem elems_reads (R : Rel s h w) {y : AV} {u : Value} {ys : List AV} (hy : VR s h w y u) (he : elems h y = some ys) :
    ∃ A c, u = .slice A ys.length c ∧ (0 < ys.length → ∃ b off, A = some ⟨b, off, none⟩ ∧ Reads s h w b off (ys.map AV.cells).flatten) := by
  cases y <;> simp only [elems, reduceCtorEq, Option.some.injEq] at he
  case lst xs z r =>
    subst he
    cases hy with
    | lstNil => exact ⟨none, 0, rfl, fun h0 => by simp at h0⟩
    | lstEmpty _ A => exact ⟨some A, 0, rfl, fun h0 => by simp at h0⟩
    | lst _ _ _ b off c f hI hr hle hz hc hrr =>
      refine ⟨_, c, rfl, fun h0 => ⟨b, off, rfl, fun k x hk => ?_⟩⟩
      obtain ⟨i, j, x', h1, h2, h3⟩ := flat_get xs hz k x hk
      subst h3
      exact ⟨f i j, by rw [← Nat.add_assoc]; exact hc i j x' x h1 h2, hrr i j x' x h1 h2⟩
  case msl o off len sz g cap =>
    simp only [Option.bind_eq_bind] at he
    replace he := Option.bind_eq_some_iff.1 he
    obtain ⟨cs, ho, he⟩ := he
    split at he
    · rename_i hle
      injection he with he; subst he
      obtain ⟨hg, hobj, hlen⟩ := genOf_obj ho
      cases hy with
      | msl _ _ _ _ _ _ b c el n off' hoff h1 h2 h3 h4 h5 h6 h7 =>
        refine ⟨some ⟨b, off', none⟩, c, by rw [group_length], fun h0 => ?_⟩
        rw [group_length] at h0
        obtain rfl : off' = off := hoff.resolve_right (by omega)
        refine ⟨b, off', rfl, ?_⟩
        rw [group_flat _ _ _ (by simp; omega)]
        have := ((obj_reads R ho h2).drop off').take (len * sz)
        simpa using this
      | mslOld _ _ _ _ _ _ g' a n c h1 h2 => rw [hg] at h1; injection h1; omega
    · cases he

/-- Where nothing is appended nothing is done. -/
theorem append_none {t el : TypeId} (hd : P.underlying t = some (.slice el)) {te : TI} (T : TyOk P el te) {A A' : Option Addr} {n c c' : Nat} (hle : n ≤ c) (ty : TypeId) :
    (Builtin.append_ #[t, t] ty #[.slice A n c, .slice A' 0 c']).run P w = .ok (.slice A n c) w := by
  have hf : (Builtin.firstCells te.size 0 (.slice A' 0 c')).run P w = .ok #[] w := by
    cases A' with
    | none => simp [Builtin.firstCells]
    | some a => exact run_firstCells_some w te.size 0 a 0 c' [] (by simp) (fun j v hj => by simp at hj)
  simp only [Builtin.append_, List.getElem?_toArray, Sem.run_bind, Sem.run_pure, Result.andThen_ok]
  simp only [List.getElem?_cons_zero, List.getElem?_cons_succ, Sem.run_bind, run_und hd, Result.andThen_ok, run_sizeA T, Sem.run_pure, Bool.false_eq_true, if_false, Builtin.lenOf, Nat.add_zero, hle, if_true, Bool.not_false, hf]
  cases A with
  | none => rfl
  | some a => rfl

theorem append_fit {t el : TypeId} (hd : P.underlying t = some (.slice el)) {te : TI} (T : TyOk P el te) {a a' : Addr} {len c n c' : Nat} {news : List Value} (hl : news.length = n * te.size)
    (hn : ∀ j v, news[j]? = some v → w.cell? (a'.add j) = some v) (hle : len + n ≤ c) {w' : World} (hst : (storeCells (a.add (len * te.size)) news 0).run P w = .ok () w') (ty : TypeId) :
    (Builtin.append_ #[t, t] ty #[.slice (some a) len c, .slice (some a') n c']).run P w = .ok (.slice (some a) (len + n) c) w' := by
  have hf := run_firstCells_some (P := P) w te.size n a' n c' news hl hn
  simp only [Builtin.append_, List.getElem?_toArray, Sem.run_bind, Sem.run_pure, Result.andThen_ok]
  simp only [List.getElem?_cons_zero, List.getElem?_cons_succ, Sem.run_bind, run_und hd, Result.andThen_ok, run_sizeA T, Sem.run_pure, Bool.false_eq_true, if_false, Builtin.lenOf, hle, if_true, Bool.not_false, hf, hst]

theorem zeroCells_size (z : Array Value) (n : Nat) : (Builtin.zeroCells z n).size = n * z.size := by simp [Builtin.zeroCells]

theorem grown_le {w : World} {need old : Nat} {e : TypeId} : need ≤ grownCap w need old e := by simp [grownCap, Question.cut]

/-- What an append that grows lays: the old cells, the new ones, more. -/
theorem append_grow {t el : TypeId} (hd : P.underlying t = some (.slice el)) {te : TI} (T : TyOk P el te) {A : Option Addr} {a' : Addr} {len c n c' : Nat} {olds news : List Value}
    (hA : (A = none ∧ len = 0 ∧ c = 0 ∧ olds = []) ∨ ∃ a, A = some a ∧ olds.length = len * te.size ∧ ∀ j v, olds[j]? = some v → w.cell? (a.add j) = some v)
    (hl : news.length = n * te.size) (hn : ∀ j v, news[j]? = some v → w.cell? (a'.add j) = some v) (hg : c < len + n) (hm : len + n ≤ mostLen) (ty : TypeId) :
    ∃ cap rest, len + n ≤ cap ∧ (olds.toArray ++ news.toArray ++ rest).size = cap * te.size ∧
      (Builtin.append_ #[t, t] ty #[.slice A len c, .slice (some a') n c']).run P w = .ok (.slice (some ⟨w.heap.size, 0, none⟩) (len + n) cap) (w.drew.alloc (.cells (olds.toArray ++ news.toArray ++ rest) el)) := by
  obtain ⟨i, z, h1, h2, h3, h4, h5, _⟩ := T.info
  have hzs : z.cells.size = te.size := by rw [h5, T.zsize]
  simp only [mostLen] at hm
  have hb : Builtin.nextslicecap (len + n) c * i.bytes ≤ 281474976710656 := by
    have e1 := nextslicecap_le hg
    have e2 := T.small
    calc Builtin.nextslicecap (len + n) c * i.bytes ≤ (2 * (len + n)) * 4096 := Nat.mul_le_mul e1 (by omega)
      _ ≤ 281474976710656 := by omega
  have hsz : ∀ cap, len + n ≤ cap → olds.length + news.length + (cap - (len + n)) * te.size = cap * te.size := by
    intro cap hc
    have ho : olds.length = len * te.size := by
      rcases hA with ⟨_, rfl, _, rfl⟩ | ⟨a, _, ho, _⟩
      · simp
      · exact ho
    rw [ho, hl, ← Nat.add_mul, ← Nat.add_mul, Nat.add_sub_cancel' hc]
  rcases hA with ⟨rfl, rfl, rfl, rfl⟩ | ⟨a, rfl, ho, hor⟩
  · have hrun := run_append_nil (P := P) w t ty el i z hd h1 h4 a' n c' news (by rw [h2]; exact hl) hn (by omega) (by omega) (by
      rw [nextslicecap_zero (by omega)] at hb; simpa using hb)
    refine ⟨grownCap w n 0 el, Builtin.zeroCells z.cells (grownCap w n 0 el - n), by simpa using grown_le, ?_, ?_⟩
    · have := hsz (grownCap w n 0 el) (by simpa using grown_le)
      simp only [Array.size_append, List.size_toArray, zeroCells_size, hzs]
      simpa using this
    · simpa using hrun
  · have hrun := run_append_grow (P := P) w t ty el i z hd h1 h4 a len c olds (by rw [h2]; exact ho) hor a' n c' news (by rw [h2]; exact hl) hn hg (by omega) hb
    refine ⟨grownCap w (len + n) c el, Builtin.zeroCells z.cells (grownCap w (len + n) c el - (len + n)), grown_le, ?_, hrun⟩
    have := hsz (grownCap w (len + n) c el) grown_le
    simp only [Array.size_append, List.size_toArray, zeroCells_size, hzs]
    exact this

theorem drew_eq (w : World) : w.drew = { w with drawn := w.drawn + 1 } := rfl

/-- A new object laid by an append that grows. -/
theorem append_new (R : Rel s h w) {t el : TypeId} (hd : P.underlying t = some (.slice el)) {te : TI} (T : TyOk P el te) {A : Option Addr} {a' : Addr} {len c n c' : Nat} {olds news : List Value} {os ns : List AV}
    (hA : (A = none ∧ len = 0 ∧ c = 0 ∧ olds = []) ∨ ∃ a, A = some a ∧ olds.length = len * te.size ∧ ∀ j v, olds[j]? = some v → w.cell? (a.add j) = some v)
    (hl : news.length = n * te.size) (hn : ∀ j v, news[j]? = some v → w.cell? (a'.add j) = some v) (hg : c < len + n) (hm : len + n ≤ mostLen) (ty : TypeId)
    (ho : VRs s h w os olds) (hns : VRs s h w ns news) :
    HRun P s h w (Builtin.append_ #[t, t] ty #[.slice A len c, .slice (some a') n c']) (.msl h.length 0 (len + n) te.size 0 none) (h ++ [.cells (os ++ ns) 0]) := by
  obtain ⟨cap, rest, h1, h2, h3⟩ := append_grow (P := P) hd T hA hl hn hg hm ty
  have R1 : Rel s h w.drew := R.draw _
  have E1 : Ext s h w s h w.drew := Ext.draw s h w _
  have hall := (ho.append hns).ext R.apart E1
  have key := new_cells R1 (cs := os ++ ns) (vs := olds.toArray ++ news.toArray ++ rest) el (by have := hall.1; simp at this ⊢; omega) (fun i x hi => by
    obtain ⟨v, hv, hr⟩ := hall.2 i x hi
    refine ⟨v, ?_, hr⟩
    have hlt := (List.getElem?_eq_some_iff.1 hv).1
    rw [Array.getElem?_append_left (by simpa using hlt)]
    simpa using hv)
  refine ⟨_, _, _, h3, E1.trans key.1, key.2, ?_⟩
  have hlen : (os ++ ns).length = (len + n) * te.size := by
    have e1 := ho.1
    have e2 := hns.1
    have e3 : olds.length = len * te.size := by
      rcases hA with ⟨_, rfl, _, rfl⟩ | ⟨a, _, ho', _⟩
      · simp
      · exact ho'
    simp only [List.length_append]
    rw [e1, e2, e3, hl, Nat.add_mul]
  refine .msl _ _ _ _ _ _ w.drew.heap.size cap el (cap * te.size) 0 (.inl rfl) (by rw [genOf_new]) (by simp [Sim.add]) h1 (fun m hm => by cases hm) (fun _ => ?_) ?_ (by omega)
  · rw [lenOf_new, hlen]
    have := Nat.mul_le_mul_right te.size h1
    omega
  · simp only [World.shape?, heap_alloc_at, h2]

theorem append_rel (TT : TabOk P C) (R : Rel s h w) {t el : TypeId} (hd : P.underlying t = some (.slice el)) {te : TI} (hte : C.ty el = some te) {sv yv v : AV} {us uy : Value} {ys : List AV} {h' : Heap}
    (hs : VR s h w sv us) (hy : VR s h w yv uy) (he : elems h yv = some ys) (ha : appendA h te.size sv ys = some (v, h')) (ty : TypeId) :
    HRun P s h w (Builtin.append_ #[t, t] ty #[us, uy]) v h' := by
  have T := TT el te hte
  obtain ⟨A', c', rfl, hread⟩ := elems_reads R hy he
  unfold appendA at ha
  simp only at ha
  split at ha
  · cases ha
  rename_i hc0
  simp only [Bool.or_eq_true, bne_iff_ne, ne_eq, Bool.not_eq_true', beq_iff_eq, not_or, Decidable.not_not, Bool.not_eq_false] at hc0
  obtain ⟨⟨hcl, hleaf⟩, hsz0⟩ := hc0
  -- the new cells
  have hnew : ∀ (hne : 0 < ys.length), ∃ a' news, A' = some a' ∧ news.length = ys.length * te.size ∧ (∀ j v, news[j]? = some v → w.cell? (a'.add j) = some v) ∧ VRs s h w (ys.map AV.cells).flatten news := by
    intro hne
    obtain ⟨b, off, rfl, hr⟩ := hread hne
    obtain ⟨vs, h1, h2, h3⟩ := reads_list hr
    refine ⟨_, vs, rfl, by rw [h1, hcl], fun j v hj => by rw [addr_add]; exact h2 j v hj, h1.symm, fun i c hi => ?_⟩
    have hlt : i < vs.length := by rw [h1]; exact (List.getElem?_eq_some_iff.1 hi).1
    refine ⟨vs[i], List.getElem?_eq_getElem hlt, ?_⟩
    have := h3 i c hi
    simpa [hlt] using this
  cases sv <;> simp only [reduceCtorEq] at ha
  case lst xs z r =>
    by_cases hye : ys = []
    · subst hye
      simp only [List.isEmpty_nil, if_true, Option.some.injEq, Prod.mk.injEq] at ha
      obtain ⟨rfl, rfl⟩ := ha
      obtain ⟨A, n, c, rfl, hle⟩ : ∃ A n c, us = .slice A n c ∧ n ≤ c := by
        cases hs with
        | lstNil => exact ⟨_, _, _, rfl, Nat.le_refl _⟩
        | lstEmpty => exact ⟨_, _, _, rfl, Nat.le_refl _⟩
        | lst _ _ _ b off c f h1 h2 h3 => exact ⟨_, _, _, rfl, h3⟩
      exact ⟨s, w, _, append_none hd T hle ty, Ext.refl _ _ _, R, hs⟩
    · have hne : 0 < ys.length := List.length_pos_iff.2 hye
      have hie : ys.isEmpty = false := by simpa using hye
      obtain ⟨a', news, rfl, hl, hn, hns⟩ := hnew hne
      simp only [hie, Bool.false_eq_true, if_false] at ha
      split at ha
      · rename_i hc
        simp only [Bool.and_eq_true, decide_eq_true_eq, Bool.or_eq_true, beq_iff_eq] at hc
        obtain ⟨⟨hfull, hz⟩, hm⟩ := hc
        simp only [Option.some.injEq, Prod.mk.injEq] at ha
        obtain ⟨rfl, rfl⟩ := ha
        cases hs with
        | lstNil =>
          have := append_new (P := P) R hd T (A := none) (a' := a') (len := 0) (c := 0) (n := ys.length) (c' := c') (olds := []) (os := []) (.inl ⟨rfl, rfl, rfl, rfl⟩) hl hn (by omega) (by simpa using hm) ty VRs.nil hns
          simpa using this
        | lstEmpty _ A =>
          have := append_new (P := P) R hd T (A := some A) (a' := a') (len := 0) (c := 0) (n := ys.length) (c' := c') (olds := []) (os := []) (.inr ⟨_, rfl, by simp, fun j v hj => by simp at hj⟩) hl hn (by omega) (by simpa using hm) ty VRs.nil hns
          simpa using this
        | lst _ _ _ b off c f hI hr hle hzc hcell hrr =>
          have hcx : xs.length = c := by
            cases r with
            | nil => exact hr.elim
            | exact m => have hr' : c = m := hr
                         rw [hr']; simpa [Room.full] using hfull
            | «open» => simp [Room.full] at hfull
          have hread : Reads s h w b off (xs.map AV.cells).flatten := fun k x hk => by
            obtain ⟨i, j, x', e1, e2, e3⟩ := flat_get xs hzc k x hk
            subst e3
            exact ⟨f i j, by rw [← Nat.add_assoc]; exact hcell i j x' x e1 e2, hrr i j x' x e1 e2⟩
          obtain ⟨vs, g1, g2, g3⟩ := reads_list hread
          have hlen : (xs.map AV.cells).flatten.length = xs.length * te.size := by
            rcases hz with rfl | hz
            · exact flat_length xs hzc
            · have : xs = [] := by simpa using hz
              subst this; simp
          exact append_new (P := P) R hd T (a' := a') (len := xs.length) (c := c) (n := ys.length) (c' := c') (olds := vs) (.inr ⟨_, rfl, by rw [g1, hlen], fun j v hj => by rw [addr_add]; exact g2 j v hj⟩) hl hn (by omega) hm ty
            ⟨g1.symm, fun i c hi => by
              have hlt : i < vs.length := by rw [g1]; exact (List.getElem?_eq_some_iff.1 hi).1
              refine ⟨vs[i], List.getElem?_eq_getElem hlt, ?_⟩
              have := g3 i c hi
              simpa [hlt] using this⟩ hns
      · cases ha
  case msl o off len sz' g cap =>
    simp only [Option.bind_eq_bind] at ha
    replace ha := Option.bind_eq_some_iff.1 ha
    obtain ⟨cs, ho, ha⟩ := ha
    obtain ⟨hg, hobj, hlen⟩ := genOf_obj ho
    split at ha
    · cases ha
    rename_i hsz'
    obtain rfl : sz' = te.size := by simpa using hsz'
    have hsrc := hs
    cases hs with
    | mslOld _ _ _ _ _ _ g' a n c h1 h2 => rw [hg] at h1; injection h1; omega
    | msl _ _ _ _ _ _ b c el' nb off' hoff h1 h2 h3 h4 h5 h6 h7 =>
      by_cases hye : ys = []
      · subst hye
        simp only [List.isEmpty_nil, if_true, Option.some.injEq, Prod.mk.injEq] at ha
        obtain ⟨rfl, rfl⟩ := ha
        exact ⟨s, w, _, append_none hd T h3 ty, Ext.refl _ _ _, R, hsrc⟩
      · have hne : 0 < ys.length := List.length_pos_iff.2 hye
        have hie : ys.isEmpty = false := by simpa using hye
        obtain ⟨a', news, rfl, hl, hn, hns⟩ := hnew hne
        simp only [hie, Bool.false_eq_true, if_false] at ha
        have hone := all_one hns (by simpa using hleaf)
        obtain ⟨x, hx, hxr⟩ := R.obj o b h2
        rw [hobj] at hx
        injection hx with hx; subst hx
        obtain ⟨bc, el0, hheap, hbl, hbcell⟩ := hxr
        have hnb : nb = bc.size := by simp [World.shape?, hheap] at h6; omega
        split at ha
        · -- in place
          rename_i hc
          simp only [Bool.and_eq_true, decide_eq_true_eq] at hc
          obtain ⟨hfit, hcap⟩ := hc
          simp only [Option.some.injEq, Prod.mk.injEq] at ha
          obtain ⟨rfl, rfl⟩ := ha
          rw [hcl] at hfit
          have hle : len + ys.length ≤ c := by
            cases cap with
            | some m => rw [h4 m rfl]; simpa [capOk] using hcap
            | none =>
              have := h5 rfl
              rw [hlen] at this
              have : (len + ys.length) * te.size ≤ c * te.size := by rw [Nat.add_mul]; omega
              exact Nat.le_of_mul_le_mul_right this (by omega)
          obtain rfl : off' = off := hoff.resolve_right (by omega)
          obtain ⟨w', hrun, E, R'⟩ := store_cells (P := P) R h2 ho (off := off' + len * te.size) (by rw [hcl]; omega) hns hone 0
          refine ⟨s, w', _, append_fit hd T hl hn hle (by rw [addr_add]; exact hrun _ rfl) ty, E, R', ?_⟩
          have hlt : o < h.length := (List.getElem?_eq_some_iff.1 hobj).1
          refine .msl _ _ _ _ _ _ b c el' nb off' (.inl rfl) (by rw [genOf_set (g := g)]; simp [hlt]) h2 hle h4 (fun hc => ?_) (E.shape _ _ h6) h7
          have e1 := h5 hc
          rw [hlen] at e1
          unfold lenOf
          rw [List.getElem?_set_self hlt]
          simp only [setCells_length]
          exact e1
        · split at ha
          · -- it grows
            rename_i hc
            simp only [Bool.and_eq_true, decide_eq_true_eq, beq_iff_eq] at hc
            obtain ⟨⟨hat, rfl⟩, hm⟩ := hc
            have hcs : cs.length = len * te.size := by omega
            have hoff0 : off' = 0 ∨ c = 0 := hoff
            obtain ⟨olds, g1, g2, g3⟩ := reads_list (obj_reads R ho h2)
            have hVold : VRs s h w cs olds := ⟨g1.symm, fun i c hi => by
              have hlt : i < olds.length := by rw [g1]; exact (List.getElem?_eq_some_iff.1 hi).1
              refine ⟨olds[i], List.getElem?_eq_getElem hlt, ?_⟩
              have := g3 i c hi
              simpa [hlt] using this⟩
            have hAold : (some (⟨b, off', none⟩ : Addr) = none ∧ len = 0 ∧ c = 0 ∧ olds = []) ∨ ∃ a, some (⟨b, off', none⟩ : Addr) = some a ∧ olds.length = len * te.size ∧ ∀ j v, olds[j]? = some v → w.cell? (a.add j) = some v := by
              refine .inr ⟨_, rfl, by rw [g1, hcs], fun j v hj => ?_⟩
              rcases hoff0 with rfl | h0
              · rw [addr_add]; exact g2 j v hj
              · have : len = 0 := by omega
                subst this
                have : olds = [] := by rw [← List.length_eq_zero_iff, g1, hcs]; simp
                subst this
                simp at hj
            cases cap with
            | some m =>
              simp only [growA] at ha
              split at ha
              · rename_i hlm
                simp only [Option.some.injEq, Prod.mk.injEq] at ha
                obtain ⟨rfl, rfl⟩ := ha
                have hcm := h4 m rfl
                have : len = m := by simpa using hlm
                exact append_new (P := P) R hd T hAold hl hn (by omega) hm ty hVold hns
              · cases ha
            | none =>
              simp only [growA, Option.some.injEq, Prod.mk.injEq] at ha
              obtain ⟨rfl, rfl⟩ := ha
              have hlt : o < h.length := (List.getElem?_eq_some_iff.1 hobj).1
              have hnl : ((ys.map AV.cells).flatten).length = ys.length * te.size := hcl
              have hres : ∀ (w' : World) (b' cap' n' : Nat), (h.set o (.cells (cs ++ (ys.map AV.cells).flatten) (g + 1))).length = h.length → len + ys.length ≤ cap' → w'.shape? b' = some (el, n') ∨ (∃ e, w'.shape? b' = some (e, n')) → cap' * te.size ≤ n' →
                  VR (s.add o b') (h.set o (.cells (cs ++ (ys.map AV.cells).flatten) (g + 1))) w' (.msl o 0 (len + ys.length) te.size (g + 1) none) (.slice (some ⟨b', 0, none⟩) (len + ys.length) cap') := by
                intro w' b' cap' n' _ hle hsh hn'
                obtain ⟨e, hsh⟩ : ∃ e, w'.shape? b' = some (e, n') := by
                  rcases hsh with hsh | hsh
                  · exact ⟨_, hsh⟩
                  · exact hsh
                refine .msl _ _ _ _ _ _ b' cap' e n' 0 (.inl rfl) (by rw [genOf_set (g := g)]; simp [hlt]) (by simp [Sim.add]) hle (fun m hm => by cases hm) (fun _ => ?_) hsh (by omega)
                unfold lenOf
                rw [List.getElem?_set_self hlt]
                simp only [List.length_append, hnl, hcs]
                rw [← Nat.add_mul]
                have := Nat.mul_le_mul_right te.size hle
                omega
              by_cases hle : len + ys.length ≤ c
              · -- in the same block
                obtain rfl : off' = 0 := hoff0.resolve_right (by omega)
                have hroom : (len + ys.length) * te.size ≤ bc.size := by
                  have := Nat.mul_le_mul_right te.size hle
                  omega
                rw [Nat.add_mul] at hroom
                have hstore := run_storeCells_at (P := P) b (len * te.size) el0 news 0 bc w hheap (by omega) hone
                have hW := Wrote.row hheap (bc.toList.take (len * te.size + 0) ++ news ++ bc.toList.drop (len * te.size + 0 + news.length)).toArray (by simp; omega)
                have key := write_cells R (b' := b) (g' := g + 1) (cs' := cs ++ (ys.map AV.cells).flatten) (w' := w.setRow b (bc.toList.take (len * te.size + 0) ++ news ++ bc.toList.drop (len * te.size + 0 + news.length)).toArray) (bc' := (bc.toList.take (len * te.size + 0) ++ news ++ bc.toList.drop (len * te.size + 0 + news.length)).toArray) (el := el0) h2 hobj (by omega) (fun e => by omega) (.inl rfl)
                  hW (setRow_heap w b bc _ el0 (0, 0) hheap) (by simp only [List.length_append, hnl, hcs]; simp; omega) (fun i x hi => by
                    simp only [List.getElem?_toArray]
                    rw [List.getElem?_append] at hi
                    split at hi
                    · rename_i hil
                      obtain ⟨v, hv, hvr⟩ := hbcell i x hi
                      refine ⟨v, ?_, hvr⟩
                      rw [List.append_assoc, List.getElem?_append_left (by simp; omega), List.getElem?_take_of_lt (by omega)]
                      simpa using hv
                    · rename_i hil
                      obtain ⟨v, hv, hvr⟩ := hns.2 _ x hi
                      refine ⟨v, ?_, hvr⟩
                      have hvl := (List.getElem?_eq_some_iff.1 hv).1
                      rw [List.append_assoc, List.getElem?_append_right (by simp; omega), List.getElem?_append_left (by simp; omega)]
                      simp only [List.length_take, Array.length_toList, Nat.add_zero, Nat.min_eq_left (show len * te.size ≤ bc.size by omega)]
                      rw [hcs] at hv
                      exact hv)
                refine ⟨_, _, _, append_fit hd T hl hn hle (by rw [addr_add, Nat.zero_add]; exact hstore) ty, key.1, key.2, ?_⟩
                exact hres _ b c nb (by simp) hle (.inr ⟨_, hW.shape _ _ h6⟩) (by omega)
              · -- in a new block
                obtain ⟨cap', rest, k1, k2, k3⟩ := append_grow (P := P) hd T hAold hl hn (by omega) hm ty
                have hW : Wrote w (w.drew.alloc (.cells (olds.toArray ++ news.toArray ++ rest) el)) b := by
                  refine ⟨by rw [size_alloc]; show w.heap.size ≤ w.heap.size + 1; omega, fun k hk _ => heap_alloc_lt w.drew _ hk, fun k x hx => ?_, rfl, rfl, rfl⟩
                  rw [shape_of (w := w) (w' := w.drew.alloc (.cells (olds.toArray ++ news.toArray ++ rest) el)) (heap_alloc_lt w.drew _ (shape_lt hx))]
                  exact hx
                have key := write_cells R (b' := w.heap.size) (g' := g + 1) (cs' := cs ++ (ys.map AV.cells).flatten) (w' := w.drew.alloc (.cells (olds.toArray ++ news.toArray ++ rest) el)) (bc' := olds.toArray ++ news.toArray ++ rest) (el := el) h2 hobj (by omega) (fun e => by omega) (.inr ⟨by omega, Nat.le_refl _⟩)
                  hW (heap_alloc_at w.drew _) (by rw [k2]; simp only [List.length_append, hnl, hcs]; rw [← Nat.add_mul]; exact Nat.mul_le_mul_right _ k1) (fun i x hi => by
                    have hall := hVold.append hns
                    obtain ⟨v, hv, hvr⟩ := hall.2 i x hi
                    refine ⟨v, ?_, hvr⟩
                    have hlt' := (List.getElem?_eq_some_iff.1 hv).1
                    rw [Array.getElem?_append_left (by simpa using hlt')]
                    simpa using hv)
                refine ⟨_, _, _, k3, key.1, key.2, ?_⟩
                exact hres _ w.heap.size cap' (cap' * te.size) (by simp) k1 (.inl (by
                  have := heap_alloc_at w.drew (.cells (olds.toArray ++ news.toArray ++ rest) el)
                  simp only [World.shape?]
                  rw [show w.heap.size = w.drew.heap.size from rfl, this]
                  simp only [k2])) (Nat.le_refl _)
          · cases ha

theorem run_append_make {t t' ty e : TypeId} {i : TypeInfo} {z : Value} {q : IntKind} (ht : P.underlying t = some (.slice e)) (ht' : P.underlying t' = some (.int q)) (hi : P.info? e = some i) (hz : i.zero = some z) (hzs : i.size ≠ 0)
    (n : Nat) (h0 : 0 < n) (h63 : (n : Int) ≤ 9223372036854775807) (h48 : n * i.bytes ≤ 281474976710656) (w : World) :
    (Builtin.append_ #[t, t'] ty #[.slice none 0 0, .int .i64 n]).run P w =
      .ok (.slice (some ⟨w.heap.size, 0, none⟩) n (grownCap w n 0 e)) (w.drew.alloc (.cells (Builtin.zeroCells z.cells n ++ Builtin.zeroCells z.cells (grownCap w n 0 e - n)) e)) := by
  have hn : n ≠ 0 := by omega
  have h63' : ¬ (9223372036854775807 < (n : Int)) := by omega
  have h48' : ¬ (281474976710656 < Builtin.nextslicecap n 0 * i.bytes) := by rw [nextslicecap_zero h0]; omega
  have hw : IntKind.i64.wrap (n : Int) = n := by rw [IntKind.wrap_i64]; omega
  have hneg : ¬ ((n : Int) < 0) := by omega
  have h48i : ¬ (281474976710656 < (n : Int) * i.bytes) := by
    have : ((n * i.bytes : Nat) : Int) ≤ 281474976710656 := Int.ofNat_le.2 h48
    rw [Int.natCast_mul] at this
    omega
  simp [Builtin.append_, run_underlying ht, run_underlying ht', sizeOf, typeInfo, zeroValue, hi, hz, asInt, asIntOf, hw, hneg, h48i, hn, hzs, h63', h48', Question.forced, run_firstCells_none, newRow, grownCap]
  intro h
  rcases Nat.mul_eq_zero.1 h with h | h
  · omega
  · exact absurd h hzs

theorem appendZ_rel (TT : TabOk P C) (R : Rel s h w) {t t' : Nat} {sv yv v : AV} {us uy : Value} {h' : Heap} (hs : VR s h w sv us) (hy : VR s h w yv uy) (ha : appendZ C h t t' sv yv = some (v, h')) (ty : TypeId) : HRun P s h w (Builtin.append_ #[t, t'] ty #[us, uy]) v h' := by
  unfold appendZ at ha
  simp only [Option.bind_eq_bind] at ha
  replace ha := Option.bind_eq_some_iff.1 ha
  obtain ⟨ti, hti, ha⟩ := ha
  replace ha := Option.bind_eq_some_iff.1 ha
  obtain ⟨ti', hti', ha⟩ := ha
  obtain ⟨d, hd, hok⟩ := (TT t ti hti).und
  obtain ⟨d', hd', hok'⟩ := (TT t' ti' hti').und
  generalize ti.td = td at hok ha
  generalize ti'.td = td' at hok' ha
  split at ha
  · rename_i e q z0 n
    obtain rfl : us = .slice none 0 0 := by
      cases hs with
      | lstNil => rfl
      | lst _ _ _ b off c f hI hr => exact hr.elim
    cases hy
    replace ha := Option.bind_eq_some_iff.1 ha
    obtain ⟨te, hte, ha⟩ := ha
    split at ha
    · rename_i hc
      simp only [Bool.and_eq_true, decide_eq_true_eq, beq_iff_eq, bne_iff_ne, ne_eq] at hc
      obtain ⟨⟨⟨hn0, hnm⟩, hzl⟩, hsz⟩ := hc
      simp only [Option.some.injEq, Prod.mk.injEq] at ha
      obtain ⟨rfl, rfl⟩ := ha
      cases d <;> simp only [TD.ok] at hok
      cases d' <;> simp only [TD.ok] at hok'
      rw [hok] at hd
      obtain ⟨m, rfl⟩ : ∃ m : Nat, n = m := ⟨n.toNat, by omega⟩
      have T := TT e te hte
      obtain ⟨i, z, h1, h2, h3, h4, h5, h6⟩ := T.info
      obtain ⟨z', hz1, hz2⟩ := zero_rel (P := P) (s := s) (h := h) (w := w) T
      have hzz : z' = z := by
        have := hz1 w
        simp [zeroValue, typeInfo, h1, h4] at this
        exact this.symm
      subst hzz
      simp only [mostLen] at hnm
      have hzs : z'.cells.size = te.size := by rw [h5, T.zsize]
      have hrun := run_append_make (P := P) (ty := ty) hd hd' h1 h4 (by rw [h2]; exact hsz) m (by omega) (by omega) (by
        have e2 := T.small
        calc m * i.bytes ≤ 4294967296 * 4096 := Nat.mul_le_mul (by omega) (by omega)
          _ ≤ 281474976710656 := by omega) w
      have R1 : Rel s h w.drew := R.draw _
      have E1 : Ext s h w s h w.drew := Ext.draw s h w _
      have hzr := (zeros_rel hz2 m).ext R.apart E1
      rw [hzs] at hzr
      have hcs : ((Builtin.zeroCells z'.cells m ++ Builtin.zeroCells z'.cells (grownCap w m 0 e - m))).size = grownCap w m 0 e * te.size := by
        have hle : m ≤ grownCap w m 0 e := by simp [grownCap, Question.cut]
        simp only [Array.size_append, zeroCells_size, hzs]
        rw [← Nat.add_mul, Nat.add_sub_cancel' hle]
      have key := new_cells R1 (cs := copies m te.zero) (vs := Builtin.zeroCells z'.cells m ++ Builtin.zeroCells z'.cells (grownCap w m 0 e - m)) e (by
          simp only [Array.size_append, zeroCells_size, hzs, copies_length, T.zsize]; omega) (fun k x hk => by
        obtain ⟨v, hv, hr⟩ := hzr.2 k x hk
        refine ⟨v, ?_, hr⟩
        have hlt : k < m * te.size := by
          have := (List.getElem?_eq_some_iff.1 hk).1
          rw [copies_length, T.zsize] at this; exact this
        rw [Array.getElem?_append_left (by rw [zeroCells_size, hzs]; exact hlt)]
        unfold Builtin.zeroCells
        rw [← Array.getElem?_toList, hzs]
        exact hv)
      refine ⟨_, _, _, hrun, E1.trans key.1, key.2, .msl _ _ _ _ _ _ w.drew.heap.size (grownCap w m 0 e) e (grownCap w m 0 e * te.size) 0 (.inl rfl) (by rw [genOf_new]) (by simp [Sim.add]) (by simp [grownCap, Question.cut]) (fun m hm => by cases hm) (fun _ => ?_) ?_ (by omega)⟩
      · rw [lenOf_new, copies_length, T.zsize, Int.toNat_natCast]
        have hle : m ≤ grownCap w m 0 e := by simp [grownCap, Question.cut]
        have := Nat.mul_le_mul_right te.size hle
        omega
      · simp only [World.shape?, heap_alloc_at]
        rw [hcs]
    · cases ha
  · cases ha

theorem makeSlice_rel (TT : TabOk P C) (R : Rel s h w) {t : Nat} {l c v : AV} {ul uc : Value} {h' : Heap} (hl : VR s h w l ul) (hc : VR s h w c uc) (hv : makeSliceA C h t l c = some (v, h')) : HRun P s h w (Instr.makeSlice t ul uc) v h' := by
  unfold makeSliceA at hv
  simp only [Option.bind_eq_bind] at hv
  replace hv := Option.bind_eq_some_iff.1 hv
  obtain ⟨ti, hti, hv⟩ := hv
  obtain ⟨d, hd, hok⟩ := (TT t ti hti).und
  generalize ti.td = td at hok hv
  split at hv
  · rename_i e kl l kc c
    cases hl; cases hc
    replace hv := Option.bind_eq_some_iff.1 hv
    obtain ⟨te, hte, hv⟩ := hv
    split at hv
    · rename_i hcond
      simp only [Bool.and_eq_true, decide_eq_true_eq, beq_iff_eq] at hcond
      obtain ⟨⟨⟨h0, hlc⟩, hcm⟩, hz⟩ := hcond
      simp only [Option.some.injEq, Prod.mk.injEq] at hv
      obtain ⟨rfl, rfl⟩ := hv
      cases d <;> simp only [TD.ok] at hok
      rw [hok] at hd
      have T := TT e te hte
      obtain ⟨i, z, h1, h2, h3, h4, h5, h6⟩ := T.info
      obtain ⟨z', hz1, hz2⟩ := zero_rel (P := P) (s := s) (h := h) (w := w) T
      have hzz : z' = z := by
        have := hz1 w
        simp [zeroValue, typeInfo, h1, h4] at this
        exact this.symm
      subst hzz
      simp only [mostLen] at hcm
      have hrun := run_make (P := P) w t e i z' hd h1 h4 kl kc l c h0 hlc (by
        have e2 := T.small
        have : (i.bytes : Int) * c ≤ 4096 * 4294967296 := Int.mul_le_mul (by omega) (by omega) (by omega) (by omega)
        omega) (by omega)
      have hzs : z'.cells.size = te.size := by rw [h5, T.zsize]
      have hzr := zeros_rel hz2 c.toNat
      rw [hzs] at hzr
      have key := new_cells R (cs := copies c.toNat te.zero) (vs := madeCells z'.cells (c.toNat * i.size)) e (by rw [size_madeCells, copies_length, T.zsize, h2]; exact Nat.le_refl _) (fun k x hk => by
        obtain ⟨v, hv, hr⟩ := hzr.2 k x hk
        refine ⟨v, ?_, hr⟩
        unfold madeCells
        rw [h2, ← Array.getElem?_toList]
        rw [← hzs] at hv ⊢
        exact hv)
      refine ⟨_, _, _, hrun, key.1, key.2, .msl _ _ _ _ _ _ w.heap.size c.toNat e (c.toNat * te.size) 0 (.inl rfl) (by rw [genOf_new]) (by simp [Sim.add]) (by omega) (fun m hm => by injection hm) (fun hn => by cases hn) ?_ (by omega)⟩
      simp only [World.shape?, heap_alloc_at, size_madeCells, h2]
    · cases hv
  · cases hv
end
end Go.Rv
