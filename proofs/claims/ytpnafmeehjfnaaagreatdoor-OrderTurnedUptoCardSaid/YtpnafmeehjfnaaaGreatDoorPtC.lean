/-
  append and make.
-/
import Derived.Laws.BitsLemmas
import Derived.Test.YtpnafmeehjfnaaaGreatDoorPtB
import Derived.Laws.MakeOwn
import Derived.Laws.StructEq
import Derived.Laws.BytesArg
import Derived.Laws.IdiomStrings
set_option linter.unusedSectionVars false
set_option linter.unusedSimpArgs false
set_option linter.unusedVariables false
set_option linter.defProp false
namespace Go.Rv
section
variable {P : Program} {C : Cfg} {s : Sim} {h : Heap} {w : World}
theorem flat_get {z : Nat} : ∀ (xs : List AV), (∀ (i : Nat) x, xs[i]? = some x → x.cells.length = z) → ∀ (k : Nat) (y : AV), (xs.map AV.cells).flatten[k]? = some y → ∃ i j x, xs[i]? = some x ∧ x.cells[j]? = some y ∧ k = i * z + j
  | [], _, k, y, hk => by simp at hk
  | x :: xs, hz, k, y, hk => by
    simp only [List.map_cons, List.flatten_cons] at hk
    have hx := hz 0 x rfl
    rw [List.getElem?_append] at hk
    split at hk
    · exact ⟨0, k, x, rfl, hk, by omega⟩
    · rename_i hlt
      obtain ⟨i, j, x', h1, h2, h3⟩ := flat_get xs (fun i x hi => hz (i + 1) x (by simpa using hi)) _ y hk
      exact ⟨i + 1, j, x', by simpa using h1, h2, by rw [Nat.succ_mul]; omega⟩
theorem flat_length {z : Nat} : ∀ (xs : List AV), (∀ (i : Nat) x, xs[i]? = some x → x.cells.length = z) → (xs.map AV.cells).flatten.length = xs.length * z
  | [], _ => by simp
  | x :: xs, hz => by
    have hx := hz 0 x rfl
    have := flat_length xs (fun i x hi => hz (i + 1) x (by simpa using hi))
    simp only [List.map_cons, List.flatten_cons, List.length_append, List.length_cons, Nat.succ_mul]
    omega
theorem elems_reads (R : Rel s h w) {y : AV} {u : Value} {ys : List AV} (hy : VR s h w y u) (he : elems h y = some ys) :
    ∃ A c, u = .slice A ys.length c ∧ (0 < ys.length → ∃ b off, A = some ⟨b, off, none⟩ ∧ Reads s h w b off (ys.map AV.cells).flatten) := by
  cases y <;> simp only [elems, reduceCtorEq, Option.some.injEq] at he
  case lst xs z r =>
    subst he
    cases hy with
    | lstNil => exact ⟨none, 0, rfl, fun h0 => by simp at h0⟩
    | lstEmpty _ A => exact ⟨some A, 0, rfl, fun h0 => by simp at h0⟩
    | lst _ _ _ b off c f hI hr hle hz hc hrr =>
      refine ⟨_, c, rfl, fun h0 => ⟨b, off, rfl, fun k x hk => ?_⟩⟩
      obtain ⟨i, j, x', h1, h2, h3⟩ := flat_get xs hz k x hk
      subst h3
      exact ⟨f i j, by rw [← Nat.add_assoc]; exact hc i j x' x h1 h2, hrr i j x' x h1 h2⟩
  case msl o off len sz g cap =>
    simp only [Option.bind_eq_bind] at he
    replace he := Option.bind_eq_some_iff.1 he
    obtain ⟨cs, ho, he⟩ := he
    split at he
    · rename_i hle
      injection he with he; subst he
      obtain ⟨hg, hobj, hlen⟩ := genOf_obj ho
      cases hy with
      | msl _ _ _ _ _ _ b c el n off' hoff h1 h2 h3 h4 h5 h6 h7 =>
        refine ⟨some ⟨b, off', none⟩, c, by rw [group_length], fun h0 => ?_⟩
        rw [group_length] at h0
        obtain rfl : off' = off := hoff.resolve_right (by omega)
        refine ⟨b, off', rfl, ?_⟩
        rw [group_flat _ _ _ (by simp; omega)]
        have := ((obj_reads R ho h2).drop off').take (len * sz)
        simpa using this
      | mslOld _ _ _ _ _ _ g' a n c h1 h2 => rw [hg] at h1; injection h1; omega
    · cases he
theorem append_none {t el : TypeId} (hd : P.underlying t = some (.slice el)) {te : TI} (T : TyOk P el te) {A A' : Option Addr} {n c c' : Nat} (hle : n ≤ c) (ty : TypeId) :
    (Builtin.append_ #[t, t] ty #[.slice A n c, .slice A' 0 c']).run P w = .ok (.slice A n c) w := by
  have hf : (Builtin.firstCells te.size 0 (.slice A' 0 c')).run P w = .ok #[] w := by
    cases A' with
    | none => simp [Builtin.firstCells]
    | some a => exact run_firstCells_some w te.size 0 a 0 c' [] (by simp) (fun j v hj => by simp at hj)
  simp only [Builtin.append_, List.getElem?_toArray]
  simp only [List.getElem?_cons_zero, List.getElem?_cons_succ, Sem.run_bind, run_und hd, Result.andThen_ok, run_sizeA T, Sem.run_pure, Bool.false_eq_true, if_false, Builtin.lenOf, Nat.add_zero, hle, if_true, Bool.not_false, hf]
  cases A with
  | none => rfl
  | some a => rfl
theorem append_fit {t el : TypeId} (hd : P.underlying t = some (.slice el)) {te : TI} (T : TyOk P el te) {a a' : Addr} {len c n c' : Nat} {news : List Value} (hl : news.length = n * te.size)
    (hn : ∀ j v, news[j]? = some v → w.cell? (a'.add j) = some v) (hle : len + n ≤ c) {w' : World} (hst : (storeCells (a.add (len * te.size)) news 0).run P w = .ok () w') (ty : TypeId) :
    (Builtin.append_ #[t, t] ty #[.slice (some a) len c, .slice (some a') n c']).run P w = .ok (.slice (some a) (len + n) c) w' := by
  have hf := run_firstCells_some (P := P) w te.size n a' n c' news hl hn
  simp only [Builtin.append_, List.getElem?_toArray]
  simp only [List.getElem?_cons_zero, List.getElem?_cons_succ, Sem.run_bind, run_und hd, Result.andThen_ok, run_sizeA T, Sem.run_pure, Bool.false_eq_true, if_false, Builtin.lenOf, hle, if_true, Bool.not_false, hf, hst]
theorem zeroCells_size (z : Array Value) (n : Nat) : (Builtin.zeroCells z n).size = n * z.size := by simp [Builtin.zeroCells]
theorem grown_le {w : World} {need old : Nat} {e : TypeId} : need ≤ grownCap w need old e := by simp [grownCap, Question.cut]
theorem append_grow {t el : TypeId} (hd : P.underlying t = some (.slice el)) {te : TI} (T : TyOk P el te) {A : Option Addr} {a' : Addr} {len c n c' : Nat} {olds news : List Value}
    (hA : (A = none ∧ len = 0 ∧ c = 0 ∧ olds = []) ∨ ∃ a, A = some a ∧ olds.length = len * te.size ∧ ∀ j v, olds[j]? = some v → w.cell? (a.add j) = some v)
    (hl : news.length = n * te.size) (hn : ∀ j v, news[j]? = some v → w.cell? (a'.add j) = some v) (hg : c < len + n) (hm : len + n ≤ mostLen) (ty : TypeId) :
    ∃ cap rest, len + n ≤ cap ∧ (olds.toArray ++ news.toArray ++ rest).size = cap * te.size ∧
      (Builtin.append_ #[t, t] ty #[.slice A len c, .slice (some a') n c']).run P w = .ok (.slice (some ⟨w.heap.size, 0, none⟩) (len + n) cap) (w.drew.alloc (.cells (olds.toArray ++ news.toArray ++ rest) el)) := by
  obtain ⟨i, z, h1, h2, h3, h4, h5, _⟩ := T.info
  have hzs : z.cells.size = te.size := by rw [h5, T.zsize]
  simp only [mostLen] at hm
  have hb : Builtin.nextslicecap (len + n) c * i.bytes ≤ 281474976710656 := by
    have e1 := nextslicecap_le hg
    have e2 := T.small
    calc Builtin.nextslicecap (len + n) c * i.bytes ≤ (2 * (len + n)) * 4096 := Nat.mul_le_mul e1 (by omega)
      _ ≤ 281474976710656 := by omega
  have hsz : ∀ cap, len + n ≤ cap → olds.length + news.length + (cap - (len + n)) * te.size = cap * te.size := by
    intro cap hc
    have ho : olds.length = len * te.size := by
      rcases hA with ⟨_, rfl, _, rfl⟩ | ⟨a, _, ho, _⟩
      · simp
      · exact ho
    rw [ho, hl, ← Nat.add_mul, ← Nat.add_mul, Nat.add_sub_cancel' hc]
  rcases hA with ⟨rfl, rfl, rfl, rfl⟩ | ⟨a, rfl, ho, hor⟩
  · have hrun := run_append_nil (P := P) w t ty el i z hd h1 h4 a' n c' news (by rw [h2]; exact hl) hn (by omega) (by omega) (by
      rw [nextslicecap_zero (by omega)] at hb; simpa using hb)
    refine ⟨grownCap w n 0 el, Builtin.zeroCells z.cells (grownCap w n 0 el - n), by simpa using grown_le, ?_, ?_⟩
    · have := hsz (grownCap w n 0 el) (by simpa using grown_le)
      simp only [Array.size_append, List.size_toArray, zeroCells_size, hzs]
      simpa using this
    · simpa using hrun
  · have hrun := run_append_grow (P := P) w t ty el i z hd h1 h4 a len c olds (by rw [h2]; exact ho) hor a' n c' news (by rw [h2]; exact hl) hn hg (by omega) hb
    refine ⟨grownCap w (len + n) c el, Builtin.zeroCells z.cells (grownCap w (len + n) c el - (len + n)), grown_le, ?_, hrun⟩
    have := hsz (grownCap w (len + n) c el) grown_le
    simp only [Array.size_append, List.size_toArray, zeroCells_size, hzs]
    exact this
theorem append_new (R : Rel s h w) {t el : TypeId} (hd : P.underlying t = some (.slice el)) {te : TI} (T : TyOk P el te) {A : Option Addr} {a' : Addr} {len c n c' : Nat} {olds news : List Value} {os ns : List AV}
    (hA : (A = none ∧ len = 0 ∧ c = 0 ∧ olds = []) ∨ ∃ a, A = some a ∧ olds.length = len * te.size ∧ ∀ j v, olds[j]? = some v → w.cell? (a.add j) = some v)
    (hl : news.length = n * te.size) (hn : ∀ j v, news[j]? = some v → w.cell? (a'.add j) = some v) (hg : c < len + n) (hm : len + n ≤ mostLen) (ty : TypeId)
    (ho : VRs s h w os olds) (hns : VRs s h w ns news) :
    HRun P s h w (Builtin.append_ #[t, t] ty #[.slice A len c, .slice (some a') n c']) (.msl h.length 0 (len + n) te.size 0 none) (h ++ [.cells (os ++ ns) 0]) := by
  obtain ⟨cap, rest, h1, h2, h3⟩ := append_grow (P := P) hd T hA hl hn hg hm ty
  have R1 : Rel s h w.drew := R.draw _
  have E1 : Ext s h w s h w.drew := Ext.draw s h w _
  have hall := (ho.append hns).ext R.apart E1
  have key := new_cells R1 (cs := os ++ ns) (vs := olds.toArray ++ news.toArray ++ rest) el (by have := hall.1; simp at this ⊢; omega) (fun i x hi => by
    obtain ⟨v, hv, hr⟩ := hall.2 i x hi
    refine ⟨v, ?_, hr⟩
    have hlt := (List.getElem?_eq_some_iff.1 hv).1
    rw [Array.getElem?_append_left (by simpa using hlt)]
    simpa using hv)
  refine ⟨_, _, _, h3, E1.trans key.1, key.2, ?_⟩
  have hlen : (os ++ ns).length = (len + n) * te.size := by
    have e1 := ho.1
    have e2 := hns.1
    have e3 : olds.length = len * te.size := by
      rcases hA with ⟨_, rfl, _, rfl⟩ | ⟨a, _, ho', _⟩
      · simp
      · exact ho'
    simp only [List.length_append]
    rw [e1, e2, e3, hl, Nat.add_mul]
  refine .msl _ _ _ _ _ _ w.drew.heap.size cap el (cap * te.size) 0 (.inl rfl) (by rw [genOf_new]) (by simp [Sim.add]) h1 (fun m hm => by cases hm) (fun _ => ?_) ?_ (by omega)
  · rw [lenOf_new, hlen]
    have := Nat.mul_le_mul_right te.size h1
    omega
  · simp only [World.shape?, heap_alloc_at, h2]
theorem append_rel (TT : TabOk P C) (R : Rel s h w) {t el : TypeId} (hd : P.underlying t = some (.slice el)) {te : TI} (hte : C.ty el = some te) {sv yv v : AV} {us uy : Value} {ys : List AV} {h' : Heap}
    (hs : VR s h w sv us) (hy : VR s h w yv uy) (he : elems h yv = some ys) (ha : appendA h te.size sv ys = some (v, h')) (ty : TypeId) :
    HRun P s h w (Builtin.append_ #[t, t] ty #[us, uy]) v h' := by
  have T := TT el te hte
  obtain ⟨A', c', rfl, hread⟩ := elems_reads R hy he
  unfold appendA at ha
  simp only at ha
  split at ha
  · cases ha
  rename_i hc0
  simp only [Bool.or_eq_true, bne_iff_ne, ne_eq, Bool.not_eq_true', beq_iff_eq, not_or, Decidable.not_not, Bool.not_eq_false] at hc0
  obtain ⟨⟨hcl, hleaf⟩, hsz0⟩ := hc0
  have hnew : ∀ (hne : 0 < ys.length), ∃ a' news, A' = some a' ∧ news.length = ys.length * te.size ∧ (∀ j v, news[j]? = some v → w.cell? (a'.add j) = some v) ∧ VRs s h w (ys.map AV.cells).flatten news := by
    intro hne
    obtain ⟨b, off, rfl, hr⟩ := hread hne
    obtain ⟨vs, h1, h2, h3⟩ := reads_list hr
    refine ⟨_, vs, rfl, by rw [h1, hcl], fun j v hj => by rw [addr_add]; exact h2 j v hj, h1.symm, fun i c hi => ?_⟩
    have hlt : i < vs.length := by rw [h1]; exact (List.getElem?_eq_some_iff.1 hi).1
    refine ⟨vs[i], List.getElem?_eq_getElem hlt, ?_⟩
    have := h3 i c hi
    simpa [hlt] using this
  cases sv <;> simp only [reduceCtorEq] at ha
  case lst xs z r =>
    by_cases hye : ys = []
    · subst hye
      simp only [List.isEmpty_nil, if_true, Option.some.injEq, Prod.mk.injEq] at ha
      obtain ⟨rfl, rfl⟩ := ha
      obtain ⟨A, n, c, rfl, hle⟩ : ∃ A n c, us = .slice A n c ∧ n ≤ c := by
        cases hs with
        | lstNil => exact ⟨_, _, _, rfl, Nat.le_refl _⟩
        | lstEmpty => exact ⟨_, _, _, rfl, Nat.le_refl _⟩
        | lst _ _ _ b off c f h1 h2 h3 => exact ⟨_, _, _, rfl, h3⟩
      exact ⟨s, w, _, append_none hd T hle ty, Ext.refl _ _ _, R, hs⟩
    · have hne : 0 < ys.length := List.length_pos_iff.2 hye
      have hie : ys.isEmpty = false := by simpa using hye
      obtain ⟨a', news, rfl, hl, hn, hns⟩ := hnew hne
      simp only [hie, Bool.false_eq_true, if_false] at ha
      split at ha
      · rename_i hc
        simp only [Bool.and_eq_true, decide_eq_true_eq, Bool.or_eq_true, beq_iff_eq] at hc
        obtain ⟨⟨hfull, hz⟩, hm⟩ := hc
        simp only [Option.some.injEq, Prod.mk.injEq] at ha
        obtain ⟨rfl, rfl⟩ := ha
        cases hs with
        | lstNil =>
          have := append_new (P := P) R hd T (A := none) (a' := a') (len := 0) (c := 0) (n := ys.length) (c' := c') (olds := []) (os := []) (.inl ⟨rfl, rfl, rfl, rfl⟩) hl hn (by omega) (by simpa using hm) ty VRs.nil hns
          simpa using this
        | lstEmpty _ A =>
          have := append_new (P := P) R hd T (A := some A) (a' := a') (len := 0) (c := 0) (n := ys.length) (c' := c') (olds := []) (os := []) (.inr ⟨_, rfl, by simp, fun j v hj => by simp at hj⟩) hl hn (by omega) (by simpa using hm) ty VRs.nil hns
          simpa using this
        | lst _ _ _ b off c f hI hr hle hzc hcell hrr =>
          have hcx : xs.length = c := by
            cases r with
            | nil => exact hr.elim
            | exact m => have hr' : c = m := hr
                         rw [hr']; simpa [Room.full] using hfull
            | «open» => simp [Room.full] at hfull
          have hread : Reads s h w b off (xs.map AV.cells).flatten := fun k x hk => by
            obtain ⟨i, j, x', e1, e2, e3⟩ := flat_get xs hzc k x hk
            subst e3
            exact ⟨f i j, by rw [← Nat.add_assoc]; exact hcell i j x' x e1 e2, hrr i j x' x e1 e2⟩
          obtain ⟨vs, g1, g2, g3⟩ := reads_list hread
          have hlen : (xs.map AV.cells).flatten.length = xs.length * te.size := by
            rcases hz with rfl | hz
            · exact flat_length xs hzc
            · have : xs = [] := by simpa using hz
              subst this; simp
          exact append_new (P := P) R hd T (a' := a') (len := xs.length) (c := c) (n := ys.length) (c' := c') (olds := vs) (.inr ⟨_, rfl, by rw [g1, hlen], fun j v hj => by rw [addr_add]; exact g2 j v hj⟩) hl hn (by omega) hm ty
            ⟨g1.symm, fun i c hi => by
              have hlt : i < vs.length := by rw [g1]; exact (List.getElem?_eq_some_iff.1 hi).1
              refine ⟨vs[i], List.getElem?_eq_getElem hlt, ?_⟩
              have := g3 i c hi
              simpa [hlt] using this⟩ hns
      · cases ha
  case msl o off len sz' g cap =>
    simp only [Option.bind_eq_bind] at ha
    replace ha := Option.bind_eq_some_iff.1 ha
    obtain ⟨cs, ho, ha⟩ := ha
    obtain ⟨hg, hobj, hlen⟩ := genOf_obj ho
    split at ha
    · cases ha
    rename_i hsz'
    obtain rfl : sz' = te.size := by simpa using hsz'
    have hsrc := hs
    cases hs with
    | mslOld _ _ _ _ _ _ g' a n c h1 h2 => rw [hg] at h1; injection h1; omega
    | msl _ _ _ _ _ _ b c el' nb off' hoff h1 h2 h3 h4 h5 h6 h7 =>
      by_cases hye : ys = []
      · subst hye
        simp only [List.isEmpty_nil, if_true, Option.some.injEq, Prod.mk.injEq] at ha
        obtain ⟨rfl, rfl⟩ := ha
        exact ⟨s, w, _, append_none hd T h3 ty, Ext.refl _ _ _, R, hsrc⟩
      · have hne : 0 < ys.length := List.length_pos_iff.2 hye
        have hie : ys.isEmpty = false := by simpa using hye
        obtain ⟨a', news, rfl, hl, hn, hns⟩ := hnew hne
        simp only [hie, Bool.false_eq_true, if_false] at ha
        have hone := all_one hns (by simpa using hleaf)
        obtain ⟨x, hx, hxr⟩ := R.obj o b h2
        rw [hobj] at hx
        injection hx with hx; subst hx
        obtain ⟨bc, el0, hheap, hbl, hbcell⟩ := hxr
        have hnb : nb = bc.size := by simp [World.shape?, hheap] at h6; omega
        split at ha
        ·
          rename_i hc
          simp only [Bool.and_eq_true, decide_eq_true_eq] at hc
          obtain ⟨hfit, hcap⟩ := hc
          simp only [Option.some.injEq, Prod.mk.injEq] at ha
          obtain ⟨rfl, rfl⟩ := ha
          rw [hcl] at hfit
          have hle : len + ys.length ≤ c := by
            cases cap with
            | some m => rw [h4 m rfl]; simpa [capOk] using hcap
            | none =>
              have := h5 rfl
              rw [hlen] at this
              have : (len + ys.length) * te.size ≤ c * te.size := by rw [Nat.add_mul]; omega
              exact Nat.le_of_mul_le_mul_right this (by omega)
          obtain rfl : off' = off := hoff.resolve_right (by omega)
          obtain ⟨w', hrun, E, R'⟩ := store_cells (P := P) R h2 ho (off := off' + len * te.size) (by rw [hcl]; omega) hns hone 0
          refine ⟨s, w', _, append_fit hd T hl hn hle (by rw [addr_add]; exact hrun _ rfl) ty, E, R', ?_⟩
          have hlt : o < h.length := (List.getElem?_eq_some_iff.1 hobj).1
          refine .msl _ _ _ _ _ _ b c el' nb off' (.inl rfl) (by rw [genOf_set (g := g)]; simp [hlt]) h2 hle h4 (fun hc => ?_) (E.shape _ _ h6) h7
          have e1 := h5 hc
          rw [hlen] at e1
          unfold lenOf
          rw [List.getElem?_set_self hlt]
          simp only [setCells_length]
          exact e1
        · split at ha
          ·
            rename_i hc
            simp only [Bool.and_eq_true, decide_eq_true_eq, beq_iff_eq] at hc
            obtain ⟨⟨hat, rfl⟩, hm⟩ := hc
            have hcs : cs.length = len * te.size := by omega
            have hoff0 : off' = 0 ∨ c = 0 := hoff
            obtain ⟨olds, g1, g2, g3⟩ := reads_list (obj_reads R ho h2)
            have hVold : VRs s h w cs olds := ⟨g1.symm, fun i c hi => by
              have hlt : i < olds.length := by rw [g1]; exact (List.getElem?_eq_some_iff.1 hi).1
              refine ⟨olds[i], List.getElem?_eq_getElem hlt, ?_⟩
              have := g3 i c hi
              simpa [hlt] using this⟩
            have hAold : (some (⟨b, off', none⟩ : Addr) = none ∧ len = 0 ∧ c = 0 ∧ olds = []) ∨ ∃ a, some (⟨b, off', none⟩ : Addr) = some a ∧ olds.length = len * te.size ∧ ∀ j v, olds[j]? = some v → w.cell? (a.add j) = some v := by
              refine .inr ⟨_, rfl, by rw [g1, hcs], fun j v hj => ?_⟩
              rcases hoff0 with rfl | h0
              · rw [addr_add]; exact g2 j v hj
              · have : len = 0 := by omega
                subst this
                have : olds = [] := by rw [← List.length_eq_zero_iff, g1, hcs]; simp
                subst this
                simp at hj
            cases cap with
            | some m =>
              simp only [growA] at ha
              split at ha
              · rename_i hlm
                simp only [Option.some.injEq, Prod.mk.injEq] at ha
                obtain ⟨rfl, rfl⟩ := ha
                have hcm := h4 m rfl
                have : len = m := by simpa using hlm
                exact append_new (P := P) R hd T hAold hl hn (by omega) hm ty hVold hns
              · cases ha
            | none =>
              simp only [growA, Option.some.injEq, Prod.mk.injEq] at ha
              obtain ⟨rfl, rfl⟩ := ha
              have hlt : o < h.length := (List.getElem?_eq_some_iff.1 hobj).1
              have hnl : ((ys.map AV.cells).flatten).length = ys.length * te.size := hcl
              have hres : ∀ (w' : World) (b' cap' n' : Nat), (h.set o (.cells (cs ++ (ys.map AV.cells).flatten) (g + 1))).length = h.length → len + ys.length ≤ cap' → w'.shape? b' = some (el, n') ∨ (∃ e, w'.shape? b' = some (e, n')) → cap' * te.size ≤ n' →
                  VR (s.add o b') (h.set o (.cells (cs ++ (ys.map AV.cells).flatten) (g + 1))) w' (.msl o 0 (len + ys.length) te.size (g + 1) none) (.slice (some ⟨b', 0, none⟩) (len + ys.length) cap') := by
                intro w' b' cap' n' _ hle hsh hn'
                obtain ⟨e, hsh⟩ : ∃ e, w'.shape? b' = some (e, n') := by
                  rcases hsh with hsh | hsh
                  · exact ⟨_, hsh⟩
                  · exact hsh
                refine .msl _ _ _ _ _ _ b' cap' e n' 0 (.inl rfl) (by rw [genOf_set (g := g)]; simp [hlt]) (by simp [Sim.add]) hle (fun m hm => by cases hm) (fun _ => ?_) hsh (by omega)
                unfold lenOf
                rw [List.getElem?_set_self hlt]
                simp only [List.length_append, hnl, hcs]
                rw [← Nat.add_mul]
                have := Nat.mul_le_mul_right te.size hle
                omega
              by_cases hle : len + ys.length ≤ c
              ·
                obtain rfl : off' = 0 := hoff0.resolve_right (by omega)
                have hroom : (len + ys.length) * te.size ≤ bc.size := by
                  have := Nat.mul_le_mul_right te.size hle
                  omega
                rw [Nat.add_mul] at hroom
                have hstore := run_storeCells_at (P := P) b (len * te.size) el0 news 0 bc w hheap (by omega) hone
                have hW := Wrote.row hheap (bc.toList.take (len * te.size + 0) ++ news ++ bc.toList.drop (len * te.size + 0 + news.length)).toArray (by simp; omega)
                have key := write_cells R (b' := b) (g' := g + 1) (cs' := cs ++ (ys.map AV.cells).flatten) (w' := w.setRow b (bc.toList.take (len * te.size + 0) ++ news ++ bc.toList.drop (len * te.size + 0 + news.length)).toArray) (bc' := (bc.toList.take (len * te.size + 0) ++ news ++ bc.toList.drop (len * te.size + 0 + news.length)).toArray) (el := el0) h2 hobj (by omega) (fun e => by omega) (.inl rfl)
                  hW (setRow_heap w b bc _ el0 (0, 0) hheap) (by simp only [List.length_append, hnl, hcs]; simp; omega) (fun i x hi => by
                    simp only [List.getElem?_toArray]
                    rw [List.getElem?_append] at hi
                    split at hi
                    · rename_i hil
                      obtain ⟨v, hv, hvr⟩ := hbcell i x hi
                      refine ⟨v, ?_, hvr⟩
                      rw [List.append_assoc, List.getElem?_append_left (by simp; omega), List.getElem?_take_of_lt (by omega)]
                      simpa using hv
                    · rename_i hil
                      obtain ⟨v, hv, hvr⟩ := hns.2 _ x hi
                      refine ⟨v, ?_, hvr⟩
                      have hvl := (List.getElem?_eq_some_iff.1 hv).1
                      rw [List.append_assoc, List.getElem?_append_right (by simp; omega), List.getElem?_append_left (by simp; omega)]
                      simp only [List.length_take, Array.length_toList, Nat.add_zero, Nat.min_eq_left (show len * te.size ≤ bc.size by omega)]
                      rw [hcs] at hv
                      exact hv)
                refine ⟨_, _, _, append_fit hd T hl hn hle (by rw [addr_add, Nat.zero_add]; exact hstore) ty, key.1, key.2, ?_⟩
                exact hres _ b c nb (by simp) hle (.inr ⟨_, hW.shape _ _ h6⟩) (by omega)
              ·
                obtain ⟨cap', rest, k1, k2, k3⟩ := append_grow (P := P) hd T hAold hl hn (by omega) hm ty
                have hW : Wrote w (w.drew.alloc (.cells (olds.toArray ++ news.toArray ++ rest) el)) b := by
                  refine ⟨by rw [size_alloc]; show w.heap.size ≤ w.heap.size + 1; omega, fun k hk _ => heap_alloc_lt w.drew _ hk, fun k x hx => ?_, rfl, rfl, rfl⟩
                  rw [shape_of (w := w) (w' := w.drew.alloc (.cells (olds.toArray ++ news.toArray ++ rest) el)) (heap_alloc_lt w.drew _ (shape_lt hx))]
                  exact hx
                have key := write_cells R (b' := w.heap.size) (g' := g + 1) (cs' := cs ++ (ys.map AV.cells).flatten) (w' := w.drew.alloc (.cells (olds.toArray ++ news.toArray ++ rest) el)) (bc' := olds.toArray ++ news.toArray ++ rest) (el := el) h2 hobj (by omega) (fun e => by omega) (.inr ⟨by omega, Nat.le_refl _⟩)
                  hW (heap_alloc_at w.drew _) (by rw [k2]; simp only [List.length_append, hnl, hcs]; rw [← Nat.add_mul]; exact Nat.mul_le_mul_right _ k1) (fun i x hi => by
                    have hall := hVold.append hns
                    obtain ⟨v, hv, hvr⟩ := hall.2 i x hi
                    refine ⟨v, ?_, hvr⟩
                    have hlt' := (List.getElem?_eq_some_iff.1 hv).1
                    rw [Array.getElem?_append_left (by simpa using hlt')]
                    simpa using hv)
                refine ⟨_, _, _, k3, key.1, key.2, ?_⟩
                exact hres _ w.heap.size cap' (cap' * te.size) (by simp) k1 (.inl (by
                  have := heap_alloc_at w.drew (.cells (olds.toArray ++ news.toArray ++ rest) el)
                  simp only [World.shape?]
                  rw [show w.heap.size = w.drew.heap.size from rfl, this]
                  simp only [k2])) (Nat.le_refl _)
          · cases ha
theorem run_append_make {t t' ty e : TypeId} {i : TypeInfo} {z : Value} {q : IntKind} (ht : P.underlying t = some (.slice e)) (ht' : P.underlying t' = some (.int q)) (hi : P.info? e = some i) (hz : i.zero = some z) (hzs : i.size ≠ 0)
    (n : Nat) (h0 : 0 < n) (h63 : (n : Int) ≤ 9223372036854775807) (h48 : n * i.bytes ≤ 281474976710656) (w : World) :
    (Builtin.append_ #[t, t'] ty #[.slice none 0 0, .int .i64 n]).run P w =
      .ok (.slice (some ⟨w.heap.size, 0, none⟩) n (grownCap w n 0 e)) (w.drew.alloc (.cells (Builtin.zeroCells z.cells n ++ Builtin.zeroCells z.cells (grownCap w n 0 e - n)) e)) := by
  have hn : n ≠ 0 := by omega
  have h63' : ¬ (9223372036854775807 < (n : Int)) := by omega
  have h48' : ¬ (281474976710656 < Builtin.nextslicecap n 0 * i.bytes) := by rw [nextslicecap_zero h0]; omega
  have hw : IntKind.i64.wrap (n : Int) = n := by rw [IntKind.wrap_i64]; omega
  have hneg : ¬ ((n : Int) < 0) := by omega
  have h48i : ¬ (281474976710656 < (n : Int) * i.bytes) := by
    have : ((n * i.bytes : Nat) : Int) ≤ 281474976710656 := Int.ofNat_le.2 h48
    rw [Int.natCast_mul] at this
    omega
  simp [Builtin.append_, run_underlying ht, run_underlying ht', sizeOf, typeInfo, zeroValue, hi, hz, asInt, asIntOf, hw, hneg, h48i, hn, h63', h48', Question.forced, run_firstCells_none, newRow, grownCap]
  intro h
  rcases Nat.mul_eq_zero.1 h with h | h
  · omega
  · exact absurd h hzs
theorem appendZ_rel (TT : TabOk P C) (R : Rel s h w) {t t' : Nat} {sv yv v : AV} {us uy : Value} {h' : Heap} (hs : VR s h w sv us) (hy : VR s h w yv uy) (ha : appendZ C h t t' sv yv = some (v, h')) (ty : TypeId) : HRun P s h w (Builtin.append_ #[t, t'] ty #[us, uy]) v h' := by
  unfold appendZ at ha
  simp only [Option.bind_eq_bind] at ha
  replace ha := Option.bind_eq_some_iff.1 ha
  obtain ⟨ti, hti, ha⟩ := ha
  replace ha := Option.bind_eq_some_iff.1 ha
  obtain ⟨ti', hti', ha⟩ := ha
  obtain ⟨d, hd, hok⟩ := (TT t ti hti).und
  obtain ⟨d', hd', hok'⟩ := (TT t' ti' hti').und
  generalize ti.td = td at hok ha
  generalize ti'.td = td' at hok' ha
  split at ha
  · rename_i e q z0 n
    obtain rfl : us = .slice none 0 0 := by
      cases hs with
      | lstNil => rfl
      | lst _ _ _ b off c f hI hr => exact hr.elim
    cases hy
    replace ha := Option.bind_eq_some_iff.1 ha
    obtain ⟨te, hte, ha⟩ := ha
    split at ha
    · rename_i hc
      simp only [Bool.and_eq_true, decide_eq_true_eq, beq_iff_eq, bne_iff_ne, ne_eq] at hc
      obtain ⟨⟨⟨hn0, hnm⟩, hzl⟩, hsz⟩ := hc
      simp only [Option.some.injEq, Prod.mk.injEq] at ha
      obtain ⟨rfl, rfl⟩ := ha
      cases d <;> simp only [TD.ok] at hok
      cases d' <;> simp only [TD.ok] at hok'
      rw [hok] at hd
      obtain ⟨m, rfl⟩ : ∃ m : Nat, n = m := ⟨n.toNat, by omega⟩
      have T := TT e te hte
      obtain ⟨i, z, h1, h2, h3, h4, h5, h6⟩ := T.info
      obtain ⟨z', hz1, hz2⟩ := zero_rel (P := P) (s := s) (h := h) (w := w) T
      have hzz : z' = z := by
        have := hz1 w
        simp [zeroValue, typeInfo, h1, h4] at this
        exact this.symm
      subst hzz
      simp only [mostLen] at hnm
      have hzs : z'.cells.size = te.size := by rw [h5, T.zsize]
      have hrun := run_append_make (P := P) (ty := ty) hd hd' h1 h4 (by rw [h2]; exact hsz) m (by omega) (by omega) (by
        have e2 := T.small
        calc m * i.bytes ≤ 4294967296 * 4096 := Nat.mul_le_mul (by omega) (by omega)
          _ ≤ 281474976710656 := by omega) w
      have R1 : Rel s h w.drew := R.draw _
      have E1 : Ext s h w s h w.drew := Ext.draw s h w _
      have hzr := (zeros_rel hz2 m).ext R.apart E1
      rw [hzs] at hzr
      have hcs : ((Builtin.zeroCells z'.cells m ++ Builtin.zeroCells z'.cells (grownCap w m 0 e - m))).size = grownCap w m 0 e * te.size := by
        have hle : m ≤ grownCap w m 0 e := by simp [grownCap, Question.cut]
        simp only [Array.size_append, zeroCells_size, hzs]
        rw [← Nat.add_mul, Nat.add_sub_cancel' hle]
      have key := new_cells R1 (cs := copies m te.zero) (vs := Builtin.zeroCells z'.cells m ++ Builtin.zeroCells z'.cells (grownCap w m 0 e - m)) e (by
          simp only [Array.size_append, zeroCells_size, hzs, copies_length, T.zsize]; omega) (fun k x hk => by
        obtain ⟨v, hv, hr⟩ := hzr.2 k x hk
        refine ⟨v, ?_, hr⟩
        have hlt : k < m * te.size := by
          have := (List.getElem?_eq_some_iff.1 hk).1
          rw [copies_length, T.zsize] at this; exact this
        rw [Array.getElem?_append_left (by rw [zeroCells_size, hzs]; exact hlt)]
        unfold Builtin.zeroCells
        rw [← Array.getElem?_toList, hzs]
        exact hv)
      refine ⟨_, _, _, hrun, E1.trans key.1, key.2, .msl _ _ _ _ _ _ w.drew.heap.size (grownCap w m 0 e) e (grownCap w m 0 e * te.size) 0 (.inl rfl) (by rw [genOf_new]) (by simp [Sim.add]) (by simp [grownCap, Question.cut]) (fun m hm => by cases hm) (fun _ => ?_) ?_ (by omega)⟩
      · rw [lenOf_new, copies_length, T.zsize, Int.toNat_natCast]
        have hle : m ≤ grownCap w m 0 e := by simp [grownCap, Question.cut]
        have := Nat.mul_le_mul_right te.size hle
        omega
      · simp only [World.shape?, heap_alloc_at]
        rw [hcs]
    · cases ha
  · cases ha
theorem makeSlice_rel (TT : TabOk P C) (R : Rel s h w) {t : Nat} {l c v : AV} {ul uc : Value} {h' : Heap} (hl : VR s h w l ul) (hc : VR s h w c uc) (hv : makeSliceA C h t l c = some (v, h')) : HRun P s h w (Instr.makeSlice t ul uc) v h' := by
  unfold makeSliceA at hv
  simp only [Option.bind_eq_bind] at hv
  replace hv := Option.bind_eq_some_iff.1 hv
  obtain ⟨ti, hti, hv⟩ := hv
  obtain ⟨d, hd, hok⟩ := (TT t ti hti).und
  generalize ti.td = td at hok hv
  split at hv
  · rename_i e kl l kc c
    cases hl; cases hc
    replace hv := Option.bind_eq_some_iff.1 hv
    obtain ⟨te, hte, hv⟩ := hv
    split at hv
    · rename_i hcond
      simp only [Bool.and_eq_true, decide_eq_true_eq, beq_iff_eq] at hcond
      obtain ⟨⟨⟨h0, hlc⟩, hcm⟩, hz⟩ := hcond
      simp only [Option.some.injEq, Prod.mk.injEq] at hv
      obtain ⟨rfl, rfl⟩ := hv
      cases d <;> simp only [TD.ok] at hok
      rw [hok] at hd
      have T := TT e te hte
      obtain ⟨i, z, h1, h2, h3, h4, h5, h6⟩ := T.info
      obtain ⟨z', hz1, hz2⟩ := zero_rel (P := P) (s := s) (h := h) (w := w) T
      have hzz : z' = z := by
        have := hz1 w
        simp [zeroValue, typeInfo, h1, h4] at this
        exact this.symm
      subst hzz
      simp only [mostLen] at hcm
      have hrun := run_make (P := P) w t e i z' hd h1 h4 kl kc l c h0 hlc (by
        have e2 := T.small
        have : (i.bytes : Int) * c ≤ 4096 * 4294967296 := Int.mul_le_mul (by omega) (by omega) (by omega) (by omega)
        omega) (by omega)
      have hzs : z'.cells.size = te.size := by rw [h5, T.zsize]
      have hzr := zeros_rel hz2 c.toNat
      rw [hzs] at hzr
      have key := new_cells R (cs := copies c.toNat te.zero) (vs := madeCells z'.cells (c.toNat * i.size)) e (by rw [size_madeCells, copies_length, T.zsize, h2]; exact Nat.le_refl _) (fun k x hk => by
        obtain ⟨v, hv, hr⟩ := hzr.2 k x hk
        refine ⟨v, ?_, hr⟩
        unfold madeCells
        rw [h2, ← Array.getElem?_toList]
        rw [← hzs] at hv ⊢
        exact hv)
      refine ⟨_, _, _, hrun, key.1, key.2, .msl _ _ _ _ _ _ w.heap.size c.toNat e (c.toNat * te.size) 0 (.inl rfl) (by rw [genOf_new]) (by simp [Sim.add]) (by omega) (fun m hm => by injection hm) (fun hn => by cases hn) ?_ (by omega)⟩
      simp only [World.shape?, heap_alloc_at, size_madeCells, h2]
    · cases hv
  · cases hv
end
end Go.Rv
namespace Go.Rv
section
variable {P : Program} {s : Sim} {h : Heap} {w : World}
theorem run_part_scalar {t : Nat} {c : AV} (hs : scalarB (P.underlying t) c = true) {cs : Array Value} {i : Nat} {v : Value} (hv : cs[i]? = some v) (w : World) : (Go.part t cs i).run P w = .ok v w := by
  cases hd : P.underlying t with
  | none => rw [hd] at hs; cases c <;> simp [scalarB] at hs
  | some d =>
    rw [hd] at hs
    cases d <;> cases c <;> simp only [scalarB, Bool.false_eq_true] at hs <;>
      simp only [Go.part, isAgg, Sem.run_bind, run_underlying hd, Result.andThen_ok, Sem.run_pure, Bool.false_eq_true, if_false, hv]
theorem scalar_check {t : Nat} {c : AV} (hs : scalarB (P.underlying t) c = true) (b : Bool) (n : Nat) (v : Value) (w : World) : (Instr.checkKey b (n + 1) t v).run P w = .ok () w := by
  cases hd : P.underlying t with
  | none => rw [hd] at hs; cases c <;> simp [scalarB] at hs
  | some d =>
    rw [hd] at hs
    cases d <;> cases c <;> simp only [scalarB, Bool.false_eq_true] at hs <;>
      (unfold Instr.checkKey; simp only [Sem.run_bind, run_underlying hd, Result.andThen_ok]; rfl)
theorem scalar_eq {t : Nat} {c c' : AV} (hs : scalarB (P.underlying t) c = true) {v v' : Value} (hv : VR s h w c v) (hv' : VR s h w c' v') {p : Bool} (hp : sameKey c c' = some p) (n : Nat) (w1 : World) : (Op.equalIn (n + 1) t v v').run P w1 = .ok p w1 ∧ (p = true → v' = v) := by
  cases hd : P.underlying t with
  | none => rw [hd] at hs; cases c <;> simp [scalarB] at hs
  | some d =>
    rw [hd] at hs
    cases d <;> cases c <;> simp only [scalarB, Bool.false_eq_true] at hs <;> cases c' <;> simp only [sameKey, reduceCtorEq] at hp <;> cases hv <;> cases hv'
    · injection hp with hp
      subst hp
      exact ⟨run_equalIn_bool' w1 n t _ _ hd, fun h => by simp at h; rw [h]⟩
    · split at hp
      · rename_i he
        injection hp with hp
        subst hp
        simp only [beq_iff_eq] at he
        subst he
        exact ⟨run_equalIn_int w1 n t _ _ _ _ hd, fun h => by simp at h; rw [h]⟩
      · cases hp
    · injection hp with hp
      subst hp
      refine ⟨?_, fun h => by simp at h; rw [h]⟩
      simp only [Op.equalIn, Sem.run_bind, run_underlying hd, Result.andThen_ok, Sem.run_pure]
      congr 1
      rename_i a b
      change (a.toArray == b.toArray) = (a == b)
      simp
theorem flat_eq {xs ys : Array Value} : ∀ (fs : List Field) (i : Nat) (as' bs : List AV), flatFs P i fs as' = true → (∀ (j : Nat) c, as'[j]? = some c → ∃ v, xs[i + j]? = some v ∧ VR s h w c v) → (∀ (j : Nat) c, bs[j]? = some c → ∃ v, ys[i + j]? = some v ∧ VR s h w c v) →
    ∀ {p : Bool}, sameKeys as' bs = some p → ∀ (n : Nat) (w1 : World), (Op.eqFields (n + 1) xs ys fs).run P w1 = .ok p w1 ∧ (p = true → ∀ j, j < as'.length → ys[i + j]? = xs[i + j]?)
  | [], i, [], bs, _, _, _, p, hp, n, w1 => by
    cases bs with
    | nil => simp only [sameKeys, Option.some.injEq] at hp; subst hp; exact ⟨rfl, fun _ j hj => by simp at hj⟩
    | cons => simp [sameKeys] at hp
  | [], i, _ :: _, bs, hf, _, _, p, hp, n, w1 => by simp [flatFs] at hf
  | f :: r, i, [], bs, hf, _, _, p, hp, n, w1 => by simp [flatFs] at hf
  | f :: r, i, c :: cs, bs, hf, hx, hy, p, hp, n, w1 => by
    cases bs with
    | nil => simp [sameKeys] at hp
    | cons d ds =>
    simp only [flatFs, Bool.and_eq_true, bne_iff_ne, ne_eq] at hf
    obtain ⟨⟨⟨f1, f2⟩, f3⟩, f4⟩ := hf
    have f2 := Nat.eq_of_beqb f2
    simp only [sameKeys, Option.bind_eq_bind] at hp
    obtain ⟨p1, hp1, hp⟩ := Option.bind_eq_some_iff.1 hp
    obtain ⟨q1, hq1, hp⟩ := Option.bind_eq_some_iff.1 hp
    injection hp with hp
    subst hp
    obtain ⟨v, hv, hvr⟩ := hx 0 c rfl
    obtain ⟨u, hu, hur⟩ := hy 0 d rfl
    simp only [Nat.add_zero] at hv hu
    obtain ⟨e1, e2⟩ := scalar_eq f3 hvr hur hp1 n w1
    obtain ⟨g1, g2⟩ := flat_eq r (i + 1) cs ds f4 (fun j c hj => by rw [show i + 1 + j = i + (j + 1) from by omega]; exact hx (j + 1) c (by simpa using hj)) (fun j c hj => by rw [show i + 1 + j = i + (j + 1) from by omega]; exact hy (j + 1) c (by simpa using hj)) hq1 n w1
    refine ⟨?_, fun hb j hj => ?_⟩
    · simp only [Op.eqFields, f1, ne_eq, not_false_eq_true, if_true, Sem.run_bind, f2, run_part_scalar f3 hv, run_part_scalar f3 hu, Result.andThen_ok, e1]
      cases p1 with
      | false => simp
      | true => simpa using g1
    · simp only [Bool.and_eq_true] at hb
      cases j with
      | zero => simp only [Nat.add_zero]; rw [hu, hv, e2 hb.1]
      | succ j => rw [show i + (j + 1) = i + 1 + j from by omega]; exact g2 hb.2 j (by simpa using hj)
theorem flat_equal {t : Nat} {cs ds : List AV} (hf : flatKey P t cs = true) {u v : Value} (hu : VR s h w (.agg cs) u) (hv : VR s h w (.agg ds) v) {p : Bool} (hp : sameKeys cs ds = some p) (w1 : World) : (Op.equal t u v).run P w1 = .ok p w1 ∧ (p = true → v = u) := by
  unfold flatKey at hf
  split at hf <;> first | cases hf | skip
  rename_i fs hd
  simp only [Bool.and_eq_true, Bool.not_eq_true'] at hf
  have hfs : P.fieldsOf t = fs := by simp [Program.fieldsOf, hd]
  cases hu with
  | agg _ xs hl hr =>
  cases hv with
  | agg _ ys hl' hr' =>
  have at' : ∀ {cs : List AV} {xs : Array Value}, cs.length = xs.size → (∀ (i : Nat) c, cs[i]? = some c → VR s h w c (xs.getD i undef)) → ∀ (j : Nat) c, cs[j]? = some c → ∃ v, xs[0 + j]? = some v ∧ VR s h w c v := fun {cs xs} hl hr j c hj => by
    have hlt : j < xs.size := by rw [← hl]; exact (List.getElem?_eq_some_iff.1 hj).1
    refine ⟨xs[j], by simp [hlt], ?_⟩
    have := hr j c hj
    simpa [hlt] using this
  obtain ⟨g1, g2⟩ := flat_eq fs.toList 0 cs ds hf.2 (at' hl hr) (at' hl' hr') hp 9998 w1
  refine ⟨?_, fun hb => ?_⟩
  · show (Op.equalIn (9999 + 1) t (.agg xs) (.agg ys)).run P w1 = _
    rw [run_equalIn_struct w1 9999 t xs ys (by rw [hfs]; exact hd) hf.1, hfs]
    exact g1
  · have hlen : cs.length = ds.length := by
      have : ∀ (a b : List AV) q, sameKeys a b = some q → a.length = b.length := by
        intro a
        induction a with
        | nil => intro b q h; cases b <;> simp [sameKeys] at h ⊢
        | cons a x ih =>
          intro b q h
          cases b with
          | nil => simp [sameKeys] at h
          | cons b y =>
            simp only [sameKeys, Option.bind_eq_bind] at h
            obtain ⟨_, _, h⟩ := Option.bind_eq_some_iff.1 h
            obtain ⟨q', hq', _⟩ := Option.bind_eq_some_iff.1 h
            simp [ih y q' hq']
      exact this _ _ _ hp
    congr 1
    apply Array.ext (by omega)
    intro j h1 h2
    have := g2 hb j (by omega)
    simpa [h1, h2] using this
theorem flat_scalar : ∀ {fs : List Field} {i : Nat} {cs : List AV}, flatFs P i fs cs = true → ∀ c ∈ cs, ∃ d, scalarB d c = true
  | [], _, [], _, c, hc => by simp at hc
  | [], _, _ :: _, h, _, _ => by simp [flatFs] at h
  | _ :: _, _, [], h, _, _ => by simp [flatFs] at h
  | f :: r, i, c :: cs, h, x, hx => by
    simp only [flatFs, Bool.and_eq_true] at h
    rcases List.mem_cons.1 hx with rfl | hx
    · exact ⟨_, h.1.2⟩
    · exact flat_scalar h.2 x hx
theorem flat_bits {fs : List Field} {i : Nat} {cs : List AV} (hf : flatFs P i fs cs = true) {u : Value} (hu : VR s h w (.agg cs) u) : Instr.sameBits 10000 u u = true := by
  cases hu with
  | agg _ vs hl hr =>
  have hall : ∀ v ∈ vs.toList, Instr.sameBits 9999 v v = true := fun v hv => by
    obtain ⟨j, hj⟩ := List.getElem?_of_mem hv
    have hlt : j < vs.size := by simpa using (List.getElem?_eq_some_iff.1 hj).1
    have hc : cs[j]? = some cs[j] := List.getElem?_eq_getElem (by omega)
    have hvr := hr j _ hc
    have hjv : vs.getD j undef = v := by rw [Array.getElem?_toList] at hj; simp [Array.getD_eq_getD_getElem?, hj]
    rw [hjv] at hvr
    obtain ⟨d, hd⟩ := flat_scalar hf cs[j] (List.getElem_mem (by omega))
    generalize cs[j] = c at hvr hd
    cases d with
    | none => cases c <;> simp [scalarB] at hd
    | some d => cases d <;> cases c <;> simp only [scalarB, Bool.false_eq_true] at hd <;> cases hvr <;> first | (simp [Instr.sameBits]; done) | (rename_i a; show ((⟨a.toArray⟩ : ByteArray) == ⟨a.toArray⟩) = true; change (a.toArray == a.toArray) = true; simp)
  show (vs.size == vs.size && (vs.toList.zip vs.toList).all fun (x, y) => Instr.sameBits 9999 x y) = true
  simp only [beq_self_eq_true, Bool.true_and, List.all_eq_true]
  rintro ⟨x, y⟩ hxy
  have : ∀ (l : List Value) (x y : Value), (x, y) ∈ l.zip l → x = y ∧ x ∈ l := by
    intro l
    induction l with
    | nil => intro x y h; simp at h
    | cons a l ih =>
      intro x y h
      simp only [List.zip_cons_cons, List.mem_cons, Prod.mk.injEq] at h
      rcases h with ⟨rfl, rfl⟩ | h
      · exact ⟨rfl, by simp⟩
      · exact ⟨(ih x y h).1, by simp [(ih x y h).2]⟩
  obtain ⟨rfl, hx⟩ := this _ _ _ hxy
  exact hall x hx
theorem flat_check {t : Nat} {cs : List AV} (hf : flatKey P t cs = true) {u : Value} (hu : VR s h w (.agg cs) u) (b : Bool) (n : Nat) (w1 : World) : (Instr.checkKey b (n + 2) t u).run P w1 = .ok () w1 := by
  unfold flatKey at hf
  split at hf <;> first | cases hf | skip
  rename_i fs hd
  simp only [Bool.and_eq_true, Bool.not_eq_true'] at hf
  cases hu with
  | agg _ xs hl hr =>
  rw [Instr.checkKey]
  simp only [Sem.run_bind, run_underlying hd, Result.andThen_ok]
  rw [← Array.forIn_toList]
  have key : ∀ (L : List Field) (i : Nat) (c : List AV), flatFs P i L c = true → (∀ (j : Nat) y, c[j]? = some y → ∃ v, xs[i + j]? = some v) → (forIn L PUnit.unit (fun f (_ : PUnit) => (if f.name ≠ "_" then do Instr.checkKey b (n + 1) f.type (← Go.part f.type xs f.offset); pure (ForInStep.yield PUnit.unit) else pure (ForInStep.yield PUnit.unit) : Sem (ForInStep PUnit)))).run P w1 = .ok PUnit.unit w1 := by
    intro L
    induction L with
    | nil => intro i c _ _; simp
    | cons f L ih =>
      intro i c hc hx
      cases c with
      | nil => simp [flatFs] at hc
      | cons c cs =>
        simp only [flatFs, Bool.and_eq_true, bne_iff_ne, ne_eq] at hc
        obtain ⟨⟨⟨f1, f2⟩, f3⟩, f4⟩ := hc
        have f2 := Nat.eq_of_beqb f2
        obtain ⟨v, hv⟩ := hx 0 c rfl
        simp only [Nat.add_zero] at hv
        simp only [List.forIn_cons, Sem.run_bind, f1, ne_eq, not_false_eq_true, if_true, f2, run_part_scalar f3 hv, Result.andThen_ok, scalar_check f3, Sem.run_pure]
        exact ih (i + 1) cs f4 (fun j y hj => by rw [show i + 1 + j = i + (j + 1) from by omega]; exact hx (j + 1) y (by simpa using hj))
  have := key fs.toList 0 cs hf.2 (fun j y hj => ⟨xs[j]'(by rw [← hl]; exact (List.getElem?_eq_some_iff.1 hj).1), by simp [← hl, (List.getElem?_eq_some_iff.1 hj).1]⟩)
  rw [this]
  rfl
end
end Go.Rv
namespace Go.Rv
section
variable {P : Program} {C : Cfg} {s : Sim} {h : Heap} {w : World}
def Ents (s : Sim) (h : Heap) (w : World) (es : List (AV × AV)) (en : List MapEntry) : Prop :=
  es.length = en.length ∧ ∀ (i : Nat) e, es[i]? = some e → ∃ m, en[i]? = some m ∧ VR s h w e.1 m.key ∧ VR s h w e.2 m.val
theorem Ents.tail {e : AV × AV} {es : List (AV × AV)} {m : MapEntry} {en : List MapEntry} (H : Ents s h w (e :: es) (m :: en)) : (VR s h w e.1 m.key ∧ VR s h w e.2 m.val) ∧ Ents s h w es en := by
  obtain ⟨h1, h2⟩ := H
  refine ⟨?_, by simpa using h1, fun i x hi => h2 (i + 1) x (by simpa using hi)⟩
  obtain ⟨m', hm, hr⟩ := h2 0 e rfl
  simp only [List.getElem?_cons_zero, Option.some.injEq] at hm
  subst hm
  exact hr
theorem mapAt_some {o : Nat} {es : List (AV × AV)} (ho : h.mapAt o = some es) : h[o]? = some (.map es) := by
  unfold Heap.mapAt at ho
  split at ho
  · rename_i es' hx
    injection ho with ho; subst ho
    exact hx
  · cases ho
theorem map_obj (R : Rel s h w) {o : Nat} {es : List (AV × AV)} (ho : h.mapAt o = some es) {u : Value} (hv : VR s h w (.map o) u) : ∃ b en clock es0, u = .map (some b) ∧ s.μ o = some b ∧ w.heap[b]? = some (.map en clock) ∧ (es0.Perm es ∧ KeysOk es) ∧ Ents s h w es0 en.toList ∧ MapKept.Stamped en clock := by
  cases hv with
  | map _ b hm hb =>
    obtain ⟨x, hx, hr⟩ := R.obj o b hb
    rw [mapAt_some ho] at hx
    injection hx with hx; subst hx
    obtain ⟨es0, hp0, en, cl, h1, h2, hst, h3⟩ := hr
    refine ⟨b, en, cl, es0, rfl, hb, h1, hp0, ⟨by simpa using h2, fun i e hi => ?_⟩, hst⟩
    obtain ⟨m, hm, hr⟩ := h3 i e hi
    exact ⟨m, by simpa using hm, hr⟩
  | mapOld _ g b hg hlt => simp [genOf, mapAt_some ho] at hg; omega
theorem bytes_eq (a b : List UInt8) : ((⟨a.toArray⟩ : ByteArray) == ⟨b.toArray⟩) = (a == b) := by
  change (a.toArray == b.toArray) = (a == b)
  simp
def scal : TD → AV → Bool
  | .bool, .bool _ | .int _, .int .. | .str, .str _ => true
  | _, _ => false
theorem sameKey_rel {td : TD} {d : TypeDesc} (hd : TD.ok d td) {k k' : AV} (hk : scal td k = true) {u u' : Value} (hu : VR s h w k u) (hu' : VR s h w k' u') {p : Bool} (hp : sameKey k k' = some p) : Instr.sameNow d u u' = some p := by
  cases td <;> cases k <;> simp only [scal, Bool.false_eq_true] at hk <;> cases k' <;> simp only [sameKey, reduceCtorEq] at hp <;> cases d <;> simp only [TD.ok] at hd <;> cases hu <;> cases hu' <;> simp only [Instr.sameNow]
  · exact hp
  · split at hp
    · rename_i he
      simp only [beq_iff_eq] at he
      rw [if_pos he]; exact hp
    · cases hp
  · rename_i a b
    rw [← hp, bytes_eq]
def findBy (f : Value → Option Bool) : List MapEntry → Nat → Option (Option (Nat × Value))
  | [], _ => some none
  | e :: es, i =>
    match f e.key with
    | some true => some (some (i, e.val))
    | some false => findBy f es (i + 1)
    | none => none
theorem findBy_now (d : TypeDesc) (u : Value) : ∀ (es : List MapEntry) (i : Nat), findBy (Instr.sameNow d u) es i = Instr.findNow d u es i
  | [], _ => rfl
  | e :: es, i => by
    simp only [findBy, Instr.findNow]
    cases Instr.sameNow d u e.key with
    | none => rfl
    | some b => cases b <;> first | rfl | exact findBy_now d u es (i + 1)
def Cmp (s : Sim) (h : Heap) (w : World) (k : AV) (f : Value → Option Bool) : Prop := ∀ k' u' p, VR s h w k' u' → sameK k k' = some p → f u' = some p
theorem find_rel {k : AV} {f : Value → Option Bool} (hF : Cmp s h w k f) : ∀ {es : List (AV × AV)} {en : List MapEntry} (i : Nat) {r : Option AV}, Ents s h w es en → findA k es = some r →
    ∃ r', findBy f en i = some r' ∧ match r, r' with
      | none, none => True
      | some v, some (j, x) => VR s h w v x
      | _, _ => False
  | [], [], i, r, _, hf => by
    simp only [findA, Option.some.injEq] at hf
    subst hf
    exact ⟨none, rfl, trivial⟩
  | [], _ :: _, _, _, H, _ => by have := H.1; simp at this
  | _ :: _, [], _, _, H, _ => by have := H.1; simp at this
  | (k', v) :: es, m :: en, i, r, H, hf => by
    obtain ⟨⟨hk', hv⟩, ht⟩ := H.tail
    simp only [findA, Option.bind_eq_bind] at hf
    obtain ⟨p, hp, hf⟩ := Option.bind_eq_some_iff.1 hf
    have := hF k' m.key p hk' hp
    simp only [findBy, this]
    cases p with
    | true =>
      simp only [if_true, Option.some.injEq] at hf
      subst hf
      exact ⟨_, rfl, hv⟩
    | false => exact find_rel hF (i + 1) ht (by simpa using hf)
theorem keyDesc {td : TD} {d : TypeDesc} (hd : TD.ok d td) {k : AV} (hk : scal td k = true) : d = .bool ∨ (∃ n, d = .int n) ∨ d = .string := by
  cases td <;> simp only [scal, Bool.false_eq_true] at hk <;> cases d <;> simp only [TD.ok] at hd
  · exact .inl rfl
  · exact .inr (.inl ⟨_, rfl⟩)
  · exact .inr (.inr rfl)
theorem run_checkKey {t : Nat} {d : TypeDesc} (hu : P.underlying t = some d) (hd : d = .bool ∨ (∃ n, d = .int n) ∨ d = .string) (b : Bool) (n : Nat) (u : Value) (w : World) : (Instr.checkKey b (n + 1) t u).run P w = .ok () w := by
  unfold Instr.checkKey
  simp only [Sem.run_bind, run_und hu, Result.andThen_ok]
  rcases hd with rfl | ⟨k, rfl⟩ | rfl <;> rfl
theorem run_findKey {t : Nat} {d : TypeDesc} (hu : P.underlying t = some d) {u : Value} {en : List MapEntry} {r : Option (Nat × Value)} (hr : Instr.findNow d u en 0 = some r) (w : World) : (Instr.findKey t u en).run P w = .ok r w := by
  unfold Instr.findKey
  simp only [Sem.run_bind, run_und hu, Result.andThen_ok, hr, Sem.run_pure]
theorem run_getMap {b : Nat} {en : Array MapEntry} {cl : Nat} (hb : w.heap[b]? = some (.map en cl)) : (getObj b).run P w = .ok (.map en cl) w := by
  simp [getObj, Sem.run, hb]
theorem zero_whole {t : Nat} {ti : TI} (T : TyOk P t ti) {v : AV} (hp : Rv.part ti ti.zero = some v) : ∃ z, (∀ w, (zeroValue t).run P w = .ok z w) ∧ VR s h w v z := by
  obtain ⟨i, z, h1, h2, h3, h4, h5, h6⟩ := T.info
  have hw := T.whole i z h1 h4
  refine ⟨z, fun w => by simp [zeroValue, typeInfo, h1, h4], ?_⟩
  unfold Rv.part at hp
  split at hp
  · rename_i ha
    rw [ha] at hw
    split at hp
    · injection hp with hp; subst hp
      cases z <;> simp only [wholeB, Bool.not_true, Bool.false_eq_true] at hw
      rename_i cs
      rw [List.take_of_length_le (by rw [T.zsize]; omega)]
      refine .agg _ _ (by simpa [Value.cells] using h5.symm) fun j c hj => ?_
      exact ofValue_rel (by simpa [Value.cells] using h6 j c hj)
    · cases hp
  · rename_i ha
    have ha' : ti.td.isAgg = false := by simpa using ha
    rw [ha'] at hw
    have hc : z.cells = #[z] := by cases z <;> first | rfl | (simp [wholeB] at hw)
    have h0 : ti.zero[0]? = some v := by rw [← List.head?_eq_getElem?]; exact hp
    have := h6 0 v h0
    rw [hc] at this
    exact ofValue_rel (by simpa using this)
theorem makeMap_rel (R : Rel s h w) (t : Nat) : HRun P s h w (Instr.makeMap t none) (.map h.length) (h ++ [.map []]) := by
  refine ⟨_, _, _, rfl, Ext.new R (.map #[] 0) (.map []), Rel.new R (.map #[] 0) (.map []) ⟨[], ⟨List.Perm.refl _, List.Pairwise.nil⟩, #[], 0, heap_alloc_at w _, rfl, MapKept.stamped_empty 0, fun i e hi => by simp at hi⟩, ?_⟩
  refine .map _ w.heap.size ?_ (by simp [Sim.add])
  unfold isMap
  rw [List.getElem?_append_right (Nat.le_refl _)]
  simp
theorem map_write (R : Rel s h w) {o b : Nat} {es es' es0' : List (AV × AV)} {en en' : Array MapEntry} {cl cl' : Nat} (hb : s.μ o = some b) (ho : h[o]? = some (.map es)) (hheap : w.heap[b]? = some (.map en cl)) (hP : es0'.Perm es' ∧ KeysOk es') (hE : Ents s h w es0' en'.toList) (hS : MapKept.Stamped en' cl') :
    Ext s h w s (h.set o (.map es')) { w with heap := w.heap.setIfInBounds b (.map en' cl') } ∧ Rel s (h.set o (.map es')) { w with heap := w.heap.setIfInBounds b (.map en' cl') } := by
  have hlt := (List.getElem?_eq_some_iff.1 ho).1
  have hbl := (Array.getElem?_eq_some_iff.1 hheap).1
  have hfar : ∀ k, k ≠ b → (w.heap.setIfInBounds b (.map en' cl'))[k]? = w.heap[k]? := fun k hk => by
    rw [Array.getElem?_setIfInBounds_ne (Ne.symm hk)]
  have hat : (w.heap.setIfInBounds b (.map en' cl'))[b]? = some (.map en' cl') := by
    rw [Array.getElem?_setIfInBounds_self_of_lt hbl]
  have E : Ext s h w s (h.set o (.map es')) { w with heap := w.heap.setIfInBounds b (.map en' cl') } := by
    refine ⟨⟨by simp, fun k _ hn => hfar k (fun e => hn o (e ▸ hb)), fun k x hx => ?_, fun _ h => h, fun k g0 hg0 => ?_, fun k g0 _ _ => ⟨fun _ h => h, ?_⟩, fun k hk _ => ?_, fun k c hc => .inl ⟨k, hc⟩, rfl, rfl, rfl, fun k hk => ?_, rfl⟩, fun k c _ hc => ⟨c, hc⟩, fun k _ hn => ?_, fun _ _ h => .inl h⟩
    · by_cases e : k = b
      · subst e
        simp [World.shape?, hheap] at hx
      · rw [shape_of (hfar k e)]; exact hx
    · rw [genOf_set (g := g0)]
      by_cases e : o = k
      · subst e
        have : g0 = 0 := by simp [genOf, ho] at hg0; omega
        exact ⟨0, by simp [hlt], by omega⟩
      · exact ⟨g0, by simp [e, hg0], Nat.le_refl _⟩
    · by_cases e : o = k
      · subst e
        unfold lenOf
        rw [ho, List.getElem?_set_self hlt]
      · exact lenOf_set e
    · by_cases e : o = k
      · subst e
        unfold isMap
        rw [List.getElem?_set_self hlt]
      · rw [isMap_set e]; exact hk
    · by_cases e : o = k
      · subst e; simp [isLoop, ho] at hk
      · rw [isLoop_set e]; exact hk
    · have : o ≠ k := by rintro rfl; rw [hb] at hn; cases hn
      exact List.getElem?_set_ne this
  refine ⟨E, R.inj, fun k c hk => ?_, R.apart, fun c hI => by have := R.imm c hI; simpa using this⟩
  by_cases e : k = o
  · subst e
    rw [hb] at hk; injection hk with hk; subst hk
    refine ⟨.map es', by rw [List.getElem?_set_self hlt], es0', hP, en', cl', hat, by simpa using hE.1, hS, fun i x hi => ?_⟩
    obtain ⟨m, hm, h1, h2⟩ := hE.2 i x hi
    exact ⟨m, by simpa using hm, h1.ext R.apart E, h2.ext R.apart E⟩
  · obtain ⟨x, hx, hr⟩ := R.obj k c hk
    have hne : c ≠ b := fun e' => e (R.inj k o c hk (e' ▸ hb))
    exact ⟨x, by rw [List.getElem?_set_ne (Ne.symm e)]; exact hx, hr.ext R.apart E (hfar c hne)⟩
theorem run_setMap {b : Nat} {en : Array MapEntry} {cl : Nat} (hb : w.heap[b]? = some (.map en cl)) (o : Obj) : (setObj b o).run P w = .ok () { w with heap := w.heap.setIfInBounds b o } := by
  simp [setObj, Sem.run, hb]
theorem sameKey_eq {td : TD} {k k' : AV} (hk : scal td k = true) {u u' : Value} (hu : VR s h w k u) (hu' : VR s h w k' u') (hp : sameKey k k' = some true) : u' = u ∧ Instr.sameBits 10000 u u = true := by
  cases td <;> cases k <;> simp only [scal, Bool.false_eq_true] at hk <;> cases k' <;> simp only [sameKey, reduceCtorEq] at hp <;> cases hu <;> cases hu'
  · simp at hp; subst hp; exact ⟨rfl, by simp [Instr.sameBits]⟩
  · split at hp
    · rename_i he
      simp at he hp
      subst he hp
      exact ⟨rfl, by simp [Instr.sameBits]⟩
    · cases hp
  · simp at hp; subst hp
    refine ⟨rfl, ?_⟩
    simp only [Instr.sameBits, bytes_eq, beq_self_eq_true]
theorem Ents.cons {e : AV × AV} {es : List (AV × AV)} {m : MapEntry} {en : List MapEntry} (h1 : VR s h w e.1 m.key ∧ VR s h w e.2 m.val) (H : Ents s h w es en) : Ents s h w (e :: es) (m :: en) := by
  refine ⟨by simp [H.1], fun i x hi => ?_⟩
  cases i with
  | zero => simp at hi; subst hi; exact ⟨m, rfl, h1⟩
  | succ i => exact H.2 i x (by simpa using hi)
theorem put_rel {k v : AV} {f : Value → Option Bool} (hF : Cmp s h w k f) {u x : Value} (hQ : ∀ k' u', VR s h w k' u' → sameK k k' = some true → u' = u) (hu : VR s h w k u) (hx : VR s h w v x) (born : Nat) : ∀ {es es' : List (AV × AV)} {en : List MapEntry} (j : Nat), Ents s h w es en → putA k v es = some es' →
    (∃ i y, findBy f en j = some (some (j + i, y)) ∧ (en[i]?).map (·.key) = some u ∧ Ents s h w es' (en.modify i fun e => { e with key := u, val := x })) ∨
    (findBy f en j = some none ∧ Ents s h w es' (en ++ [{ key := u, val := x, born := born }]))
  | [], _, [], j, _, hp => by
    simp only [putA, Option.some.injEq] at hp
    subst hp
    exact .inr ⟨rfl, Ents.cons ⟨hu, hx⟩ ⟨rfl, fun i e hi => by simp at hi⟩⟩
  | [], _, _ :: _, _, H, _ => by have := H.1; simp at this
  | _ :: _, _, [], _, H, _ => by have := H.1; simp at this
  | (k', v') :: es, es', m :: en, j, H, hp => by
    obtain ⟨⟨hk', hv'⟩, ht⟩ := H.tail
    simp only [putA, Option.bind_eq_bind] at hp
    obtain ⟨p, hp1, hp⟩ := Option.bind_eq_some_iff.1 hp
    have hs := hF k' m.key p hk' hp1
    simp only [findBy, hs]
    cases p with
    | true =>
      simp only [if_true, Option.some.injEq] at hp
      subst hp
      have he := hQ k' m.key hk' hp1
      refine .inl ⟨0, m.val, rfl, by simp [he], ?_⟩
      simp only [List.modify_zero_cons]
      exact Ents.cons ⟨by rw [he] at hk'; exact hk', hx⟩ ht
    | false =>
      simp only [Bool.false_eq_true, if_false] at hp
      obtain ⟨es2, hp2, rfl⟩ := Option.map_eq_some_iff.1 hp
      rcases put_rel hF hQ hu hx born (j + 1) ht hp2 with ⟨i, y, h1, h2, h3⟩ | ⟨h1, h2⟩
      · refine .inl ⟨i + 1, y, by rw [h1, show j + 1 + i = j + (i + 1) from by omega], by simpa using h2, ?_⟩
        simp only [List.modify_succ_cons]
        exact Ents.cons ⟨hk', hv'⟩ h3
      · exact .inr ⟨h1, Ents.cons ⟨hk', hv'⟩ h2⟩
theorem sameNow_self {td : TD} {d : TypeDesc} (hd : TD.ok d td) {k : AV} (hk : scal td k = true) {u : Value} (hu : VR s h w k u) : Instr.sameNow d u u = some true := by
  cases td <;> cases k <;> simp only [scal, Bool.false_eq_true] at hk <;> cases d <;> simp only [TD.ok] at hd <;> cases hu <;> simp only [Instr.sameNow, bytes_eq, beq_self_eq_true, if_true]
theorem findNow_ne {f : Value → Option Bool} {u : Value} (hself : f u = some true) : ∀ {en : List MapEntry} {j : Nat}, findBy f en j = some none → ∀ x ∈ en, x.key ≠ u
  | [], _, _, x, hx => by simp at hx
  | m :: en, j, hf, x, hx => by
    simp only [findBy] at hf
    rcases List.mem_cons.1 hx with rfl | hx
    · intro e
      rw [e, hself] at hf
      simp at hf
    · cases hs : f m.key with
      | none => rw [hs] at hf; simp at hf
      | some b =>
        rw [hs] at hf
        cases b with
        | true => simp at hf
        | false => exact findNow_ne hself (by simpa using hf) x hx
theorem sameK_scal {td : TD} {k : AV} (hk : scal td k = true) (k' : AV) : sameK k k' = sameKey k k' := by
  cases td <;> cases k <;> simp only [scal, Bool.false_eq_true] at hk <;> cases k' <;> rfl
theorem sameKeys_self : ∀ {fs : List Field} {i : Nat} {cs : List AV}, flatFs P i fs cs = true → sameKeys cs cs = some true
  | [], _, [], _ => rfl
  | [], _, _ :: _, h => by simp [flatFs] at h
  | _ :: _, _, [], h => by simp [flatFs] at h
  | f :: r, i, c :: cs, h => by
    simp only [flatFs, Bool.and_eq_true] at h
    have h1 : sameKey c c = some true := by
      have := h.1.2
      cases hd : P.underlying f.type with
      | none => rw [hd] at this; cases c <;> simp [scalarB] at this
      | some d => rw [hd] at this; cases d <;> cases c <;> simp only [scalarB, Bool.false_eq_true] at this <;> simp [sameKey]
    simp [sameKeys, h1, sameKeys_self h.2]
open Classical in
theorem key_run (TT : TabOk P C) {kt : Nat} {ki : TI} (hki : C.ty kt = some ki) {k : AV} (hkt : keyTd C kt ki.td k = true) {u : Value} (hu : VR s h w k u) : ∃ f : Value → Option Bool, Cmp s h w k f ∧ (∀ k' u', VR s h w k' u' → sameK k k' = some true → u' = u) ∧ f u = some true ∧ Instr.sameBits 10000 u u = true ∧
    (∀ en r w1, findBy f en 0 = some r → (Instr.findKey kt u en).run P w1 = .ok r w1) ∧ ∀ b w1, (Instr.checkKey b 10000 kt u).run P w1 = .ok () w1 := by
  obtain ⟨dk, hdk, hdok⟩ := (TT _ ki hki).und
  by_cases hs : scal ki.td k = true
  · refine ⟨Instr.sameNow dk u, fun k' u' p hv hp => sameKey_rel hdok hs hu hv (by rw [← sameK_scal hs]; exact hp), fun k' u' hv hp => (sameKey_eq hs hu hv (by rw [← sameK_scal hs]; exact hp)).1, sameNow_self hdok hs hu, ?_, fun en r w1 hr => run_findKey hdk (by rw [← findBy_now]; exact hr) w1, fun b w1 => run_checkKey hdk (keyDesc hdok hs) b 9999 u w1⟩
    generalize ki.td = td at hs
    cases td <;> cases k <;> simp only [scal, Bool.false_eq_true] at hs <;> cases hu
    · simp [Instr.sameBits]
    · simp [Instr.sameBits]
    · simp only [Instr.sameBits, bytes_eq, beq_self_eq_true]
  · generalize ki.td = td at hs hkt hdok
    cases td <;> cases k <;> simp only [keyTd, scal, Bool.false_eq_true, not_true_eq_false] at hs hkt
    rename_i fs0 cs
    have hf := TT.flat kt cs hkt
    let f : Value → Option Bool := fun u' => if hp : ∃ p : Bool, ∀ w1, (Op.equal kt u u').run P w1 = .ok p w1 then some (Classical.choose hp) else none
    have hfs : ∀ {u' p}, (∀ w1, (Op.equal kt u u').run P w1 = .ok p w1) → f u' = some p := fun {u' p} hp => by
      have hex : ∃ p : Bool, ∀ w1, (Op.equal kt u u').run P w1 = .ok p w1 := ⟨p, hp⟩
      show (if hp : ∃ p : Bool, ∀ w1, (Op.equal kt u u').run P w1 = .ok p w1 then some (Classical.choose hp) else none) = some p
      rw [dif_pos hex]
      have := (Classical.choose_spec hex w).symm.trans (hp w)
      injection this with this
      rw [this]
    have hfr : ∀ {u' p}, f u' = some p → ∀ w1, (Op.equal kt u u').run P w1 = .ok p w1 := fun {u' p} hp => by
      have hp' : (if hp : ∃ p : Bool, ∀ w1, (Op.equal kt u u').run P w1 = .ok p w1 then some (Classical.choose hp) else none) = some p := hp
      split at hp'
      · rename_i hex
        injection hp' with hp'
        rw [← hp']
        exact Classical.choose_spec hex
      · cases hp'
    have hself : sameKeys cs cs = some true := by
      unfold flatKey at hf
      split at hf
      · simp only [Bool.and_eq_true] at hf
        exact sameKeys_self hf.2
      · cases hf
    have hagg : ∀ k' p, sameK (.agg cs) k' = some p → ∃ ds, k' = .agg ds ∧ sameKeys cs ds = some p := fun k' p hp => by
      cases k' <;> simp only [sameK, sameKey, reduceCtorEq] at hp
      exact ⟨_, rfl, hp⟩
    refine ⟨f, fun k' u' p hv hp => ?_, fun k' u' hv hp => ?_, hfs (fun w1 => (flat_equal hf hu hu hself w1).1), ?_, fun en r w1 hr => ?_, fun b w1 => flat_check hf hu b 9998 w1⟩
    · obtain ⟨ds, rfl, hp⟩ := hagg k' p hp
      exact hfs fun w1 => (flat_equal hf hu hv hp w1).1
    · obtain ⟨ds, rfl, hp⟩ := hagg k' true hp
      exact (flat_equal hf hu hv hp w).2 rfl
    · unfold flatKey at hf
      split at hf
      · rename_i fs hd
        simp only [Bool.and_eq_true] at hf
        exact flat_bits hf.2 hu
      · cases hf
    · cases dk <;> simp only [TD.ok] at hdok
      rename_i fsd
      have ask : ∀ (en : List MapEntry) (i : Nat) r, findBy f en i = some r → (Instr.findAsking kt u en i).run P w1 = .ok r w1 := by
        intro en
        induction en with
        | nil => intro i r h; simp only [findBy, Option.some.injEq] at h; subst h; simp [Instr.findAsking]
        | cons e es ih =>
          intro i r h
          simp only [findBy] at h
          cases hfe : f e.key with
          | none => rw [hfe] at h; cases h
          | some p =>
            rw [hfe] at h
            have := hfr hfe w1
            cases p with
            | true => simp only [Option.some.injEq] at h; subst h; simp [Instr.findAsking, this]
            | false => simp only at h; simp [Instr.findAsking, this, ih (i + 1) r h]
      cases en with
      | nil => simp only [findBy, Option.some.injEq] at hr; subst hr; unfold Instr.findKey; simp [run_und hdk, Instr.findNow]
      | cons e es =>
        have hn : Instr.findNow (.struct fsd) u (e :: es) 0 = none := by cases hu <;> simp [Instr.findNow, Instr.sameNow]
        unfold Instr.findKey
        simp only [Sem.run_bind, run_und hdk, Result.andThen_ok, hn]
        exact ask _ _ _ hr
theorem lookup_rel (TT : TabOk P C) (R : Rel s h w) {t : Nat} {m k : AV} {um uk : Value} {ok : Bool} {v : AV} (hm : VR s h w m um) (hk : VR s h w k uk) (hv : lookupA C h t m k ok = some v) : PRun P s h w (Instr.lookup t um uk ok) v := by
  unfold lookupA at hv
  simp only [Option.bind_eq_bind] at hv
  obtain ⟨ti, hti, hv⟩ := Option.bind_eq_some_iff.1 hv
  obtain ⟨d, hd, hok⟩ := (TT t ti hti).und
  generalize htd : ti.td = td at hv hok
  cases td <;> simp only [reduceCtorEq] at hv
  case map kt e =>
  obtain ⟨ki, hki, hv⟩ := Option.bind_eq_some_iff.1 hv
  split at hv
  · cases hv
  rename_i hkt
  simp only [Bool.not_eq_true', Bool.not_eq_false] at hkt
  obtain ⟨es, hes, hv⟩ := Option.bind_eq_some_iff.1 hv
  obtain ⟨r, hr, hv⟩ := Option.bind_eq_some_iff.1 hv
  obtain ⟨te, hte, hv⟩ := Option.bind_eq_some_iff.1 hv
  obtain ⟨z, hz, hv⟩ := Option.bind_eq_some_iff.1 hv
  simp only [Option.some.injEq] at hv
  subst hv
  cases d <;> simp only [TD.ok] at hok
  obtain ⟨e1, e2⟩ := hok
  rw [e1, e2] at hd
  obtain ⟨fc, hF, hQ, hself, hbits, hfind, hcheck⟩ := key_run TT hki hkt hk
  have tail : ∀ (en : Array MapEntry) (es0 : List (AV × AV)), (es0.Perm es ∧ KeysOk es) → Ents s h w es0 en.toList → ∃ x, (do
    Instr.checkKey en.isEmpty 10000 kt uk
    let (v, ok') ← match ← Instr.findKey kt uk en.toList with
      | some (_, v) => pure (v, true)
      | none => pure (← zeroValue e, false)
    pure (if ok then .tuple #[v, .bool ok'] else v) : Sem Value).run P w = .ok x w ∧ VR s h w (if ok = true then AV.tup [r.getD z, AV.bool r.isSome] else r.getD z) x := by
    intro en es0 hp0 hents
    obtain ⟨r', hr', hrr⟩ := find_rel hF 0 hents (findA_perm hp0.2 hp0.1.symm hr)
    simp only [Sem.run_bind, hcheck, Result.andThen_ok, hfind _ _ w hr']
    have fin : ∀ (x : Value) (y : AV) (b : Bool), VR s h w y x → VR s h w (if ok = true then AV.tup [y, AV.bool b] else y) (if ok = true then .tuple #[x, .bool b] else x) := by
      intro x y b hxy
      cases ok with
      | false => exact hxy
      | true =>
        refine .tup _ _ rfl fun i c hi => ?_
        rcases i with _ | _ | i
        · simp at hi; subst hi; exact hxy
        · simp at hi; subst hi; exact .bool _
        · simp at hi
    cases r with
    | none =>
      cases r' with
      | some x => exact hrr.elim
      | none =>
        obtain ⟨zz, hz1, hz2⟩ := zero_whole (s := s) (h := h) (w := w) (TT e te hte) hz
        simp only [Sem.run_bind, hz1, Sem.run_pure, Result.andThen_ok]
        exact ⟨_, rfl, fin _ _ _ hz2⟩
    | some y =>
      cases r' with
      | none => exact hrr.elim
      | some x =>
        obtain ⟨j, x⟩ := x
        simp only [Sem.run_bind, Sem.run_pure, Result.andThen_ok]
        exact ⟨_, rfl, fin _ _ _ hrr⟩
  unfold PRun Instr.lookup
  simp only [Sem.run_bind, run_und hd, Result.andThen_ok]
  unfold Heap.ents at hes
  cases m <;> simp only [reduceCtorEq] at hes
  case nilMap =>
    simp only [Option.some.injEq] at hes
    subst hes
    cases hm
    have := tail #[] [] ⟨List.Perm.refl _, List.Pairwise.nil⟩ ⟨rfl, fun i e hi => by simp at hi⟩
    simp only [Sem.run_bind, Sem.run_pure, Result.andThen_ok] at this ⊢
    exact this
  case map o =>
    obtain ⟨b, en, cl, es0, rfl, hb, hheap, hp0, hE, hSt⟩ := map_obj R hes hm
    have := tail en es0 hp0 hE
    simp only [Sem.run_bind, run_getMap hheap, Sem.run_pure, Result.andThen_ok] at this ⊢
    exact this
theorem update_rel (TT : TabOk P C) (R : Rel s h w) {t : Nat} {m k v : AV} {um uk uv : Value} {h' : Heap} (hm : VR s h w m um) (hk : VR s h w k uk) (hv : VR s h w v uv) (hu : updateA C h t m k v = some h') :
    ∃ w', (Instr.mapUpdate t um uk uv).run P w = .ok () w' ∧ Ext s h w s h' w' ∧ Rel s h' w' := by
  unfold updateA at hu
  simp only [Option.bind_eq_bind] at hu
  obtain ⟨ti, hti, hu⟩ := Option.bind_eq_some_iff.1 hu
  obtain ⟨d, hd, hok⟩ := (TT t ti hti).und
  generalize htd : ti.td = td at hu hok
  cases td <;> cases m <;> simp only [reduceCtorEq] at hu
  rename_i kt e o
  obtain ⟨ki, hki, hu⟩ := Option.bind_eq_some_iff.1 hu
  split at hu
  · cases hu
  rename_i hkt
  simp only [Bool.not_eq_true', Bool.not_eq_false] at hkt
  obtain ⟨es, hes, hu⟩ := Option.bind_eq_some_iff.1 hu
  obtain ⟨es', hes', hu⟩ := Option.bind_eq_some_iff.1 hu
  simp only [Option.some.injEq] at hu
  subst hu
  cases d <;> simp only [TD.ok] at hok
  obtain ⟨e1, e2⟩ := hok
  rw [e1, e2] at hd
  obtain ⟨fc, hF, hQ, hself, hbits, hfind, hcheck⟩ := key_run TT hki hkt hk
  obtain ⟨b, en, cl, es0, rfl, hb, hheap, hp0, hE, hSt⟩ := map_obj R hes hm
  obtain ⟨es0', hes0', hp1, hk1⟩ := putA_perm hp0.2 hp0.1.symm hes'
  unfold Instr.mapUpdate
  simp only [Sem.run_bind, run_und hd, Result.andThen_ok, run_getMap hheap, hcheck]
  rcases put_rel hF hQ hk hv cl 0 hE hes0' with ⟨i, y, h1, h2, h3⟩ | ⟨h1, h2⟩
  · simp only [hfind _ _ w h1, Result.andThen_ok, Nat.zero_add]
    have hkey : ((en[i]?).map (·.key)).getD uk = uk := by
      have : (en[i]?).map (·.key) = some uk := by simpa using h2
      rw [this]; rfl
    simp only [Sem.run_bind, hkey, Instr.keyThatStays, hbits, if_true, Sem.run_pure, Result.andThen_ok, run_setMap hheap]
    have key := map_write R (en' := en.modify i fun e => { e with key := uk, val := uv }) (cl' := cl) hb (mapAt_some hes) hheap ⟨hp1.symm, hk1⟩ (by simpa using h3) (MapKept.stamped_modify hSt i _ (fun _ _ => rfl) (fun x hx hxi => by
      have : (en[i]?).map (·.key) = some uk := by simpa using h2
      rw [hxi] at this
      simpa using this.symm))
    exact ⟨_, rfl, key.1, key.2⟩
  · simp only [hfind _ _ w h1, Result.andThen_ok, run_setMap hheap]
    have key := map_write R (en' := en.push { key := uk, val := uv, born := cl }) (cl' := cl + 1) hb (mapAt_some hes) hheap ⟨hp1.symm, hk1⟩ (by simpa using h2) (MapKept.stamped_push hSt (fun x hx e => findNow_ne hself h1 x (by simpa using hx) e))
    exact ⟨_, rfl, key.1, key.2⟩
end
end Go.Rv
namespace Go.Rv
section
variable {P : Program} {C : Cfg} {s : Sim} {h : Heap} {w : World}
theorem bytesOf_cells : ∀ {ys : List AV} {l : List UInt8}, bytesOf ys = some l → ∃ ns : List Int, ys = ns.map (AV.int .u8) ∧ l = ns.map fun n => UInt8.ofNat n.toNat
  | [], l, hb => by
    simp only [bytesOf, Option.some.injEq] at hb
    exact ⟨[], rfl, by rw [← hb]; rfl⟩
  | y :: ys, l, hb => by
    cases y <;> simp only [bytesOf, reduceCtorEq] at hb
    rename_i k n
    split at hb
    · rename_i hk
      have hk' : k = .u8 := by simpa using hk
      subst hk'
      obtain ⟨r, hr, rfl⟩ := Option.map_eq_some_iff.1 hb
      obtain ⟨ns, rfl, rfl⟩ := bytesOf_cells hr
      exact ⟨n :: ns, rfl, rfl⟩
    · cases hb
theorem ints_flat : ∀ ns : List Int, ((ns.map (AV.int .u8)).map AV.cells).flatten = ns.map (AV.int .u8)
  | [] => rfl
  | n :: ns => by simp only [List.map_cons, List.flatten_cons, ints_flat ns]; rfl
theorem bytes_run (R : Rel s h w) {src dst e : Nat} {l : List UInt8} (hs : P.underlying src = some .string) (hd : P.underlying dst = some (.slice e)) (he : P.underlying e = some (.int .u8)) :
    HRun P s h w (convert src dst (.string ⟨l.toArray⟩)) (.lst (l.map fun b => .int .u8 b.toNat) 1 .open) h := by
  have hrun := run_bytes_of_string w src dst e ⟨l.toArray⟩ hs hd he
  have hsz : (ByteArray.mk l.toArray).size = l.length := by show l.toArray.size = _; simp
  rw [hsz] at hrun
  generalize hc : grownCap w l.length 0 e = cap at hrun
  have hle : l.length ≤ cap := by rw [← hc]; simp [grownCap, Question.cut]
  have E1 : Ext s h w s h w.drew := Ext.draw s h w _
  have R1 : Rel s h w.drew := R.draw _
  have E2 := Ext.block s h w.drew (.cells (bytesRow ⟨l.toArray⟩ cap) e ((bytesRow ⟨l.toArray⟩ cap).size, (bytesRow ⟨l.toArray⟩ cap).size + 1)) true
  have R2 := R1.block (.cells (bytesRow ⟨l.toArray⟩ cap) e ((bytesRow ⟨l.toArray⟩ cap).size, (bytesRow ⟨l.toArray⟩ cap).size + 1)) true
  refine ⟨_, _, _, hrun, E1.trans E2, R2, ?_⟩
  have hlen : (l.map fun b => AV.int .u8 (b.toNat : Int)).length = l.length := by simp
  rw [← hlen]
  refine .lst _ 1 .open w.heap.size 0 cap (fun i _ => .int .u8 ((l.getD i 0).toNat : Int)) (fun _ => .inr ⟨rfl, rfl⟩) trivial (by rw [hlen]; exact hle) (fun i x hi => ?_) (fun i j x y hi hj => ?_) (fun i j x y hi hj => ?_)
  · obtain ⟨b, _, rfl⟩ : ∃ b, l[i]? = some b ∧ AV.int .u8 (b.toNat : Int) = x := by simpa using hi
    rfl
  · obtain ⟨b, hb, rfl⟩ : ∃ b, l[i]? = some b ∧ AV.int .u8 (b.toNat : Int) = x := by simpa using hi
    have hj0 : j = 0 := by
      cases j with
      | zero => rfl
      | succ j => simp [AV.cells] at hj
    subst hj0
    have hil : i < l.length := (List.getElem?_eq_some_iff.1 hb).1
    have hat : (w.drew.alloc (.cells (bytesRow ⟨l.toArray⟩ cap) e ((bytesRow ⟨l.toArray⟩ cap).size, (bytesRow ⟨l.toArray⟩ cap).size + 1))).heap[w.heap.size]? = some (.cells (bytesRow ⟨l.toArray⟩ cap) e ((bytesRow ⟨l.toArray⟩ cap).size, (bytesRow ⟨l.toArray⟩ cap).size + 1)) := heap_alloc_at w.drew _
    unfold World.cell?
    simp only [hat, Nat.zero_add, Nat.mul_one, Nat.add_zero]
    rw [show (bytesRow ⟨l.toArray⟩ cap)[i]? = some (.int .u8 (l[i].toNat : Int)) from by
      simp [bytesRow, Array.getElem?_append, hil]]
    simp [List.getD, hil]
  · obtain ⟨b, hb, rfl⟩ : ∃ b, l[i]? = some b ∧ AV.int .u8 (b.toNat : Int) = x := by simpa using hi
    have hj0 : j = 0 := by
      cases j with
      | zero => rfl
      | succ j => simp [AV.cells] at hj
    subst hj0
    simp only [AV.cells, List.getElem?_cons_zero, Option.some.injEq] at hj
    subst hj
    simp only [List.getD, hb, Option.getD_some]
    exact .int _ _
theorem convH_rel (TT : TabOk P C) (R : Rel s h w) {src dst : Nat} {a v : AV} {u : Value} (ha : VR s h w a u) (hv : convH C h src dst a = some v) : HRun P s h w (convert src dst u) v h := by
  unfold convH at hv
  simp only [Option.bind_eq_bind] at hv
  replace hv := Option.bind_eq_some_iff.1 hv
  obtain ⟨ts, hts, hv⟩ := hv
  obtain ⟨d, hd, hok⟩ := (TT src ts hts).und
  generalize ts.td = td at hv hok
  cases td <;> simp only at hv <;> first | exact (conv_rel TT ⟨d, hd⟩ ha hv).heap R | skip
  case str =>
    obtain ⟨td, htd, hv⟩ := Option.bind_eq_some_iff.1 hv
    split at hv
    · rename_i e l hde hdl
      obtain ⟨te, hte, hv⟩ := Option.bind_eq_some_iff.1 hv
      split at hv
      · rename_i k hk
        split at hv <;> first | (cases hv; done) | skip
        rename_i hk8
        have hk8 : k = .u8 := by simpa using hk8
        subst hk8
        simp only [Option.some.injEq] at hv
        subst hv
        obtain ⟨dd, hdd, hokd⟩ := (TT dst td htd).und
        obtain ⟨de, hde', hoke⟩ := (TT e te hte).und
        rw [hde] at hokd
        rw [hk] at hoke
        cases d <;> simp only [TD.ok] at hok
        cases dd <;> simp only [TD.ok] at hokd
        subst hokd
        cases de <;> simp only [TD.ok] at hoke
        subst hoke
        cases ha
        exact bytes_run R hd hdd hde'
      · cases hv
    · exact (conv_rel TT ⟨d, hd⟩ ha hv).heap R
  rename_i e
  cases d <;> simp only [TD.ok] at hok
  rw [hok] at hd
  replace hv := Option.bind_eq_some_iff.1 hv
  obtain ⟨te, hte, hv⟩ := hv
  replace hv := Option.bind_eq_some_iff.1 hv
  obtain ⟨ti, hti, hv⟩ := hv
  obtain ⟨de, hde, hoke⟩ := (TT e te hte).und
  obtain ⟨dd, hdd, hokd⟩ := (TT dst ti hti).und
  generalize te.td = tde at hv hoke
  generalize ti.td = tdd at hv hokd
  cases tde <;> cases tdd <;> simp only [reduceCtorEq] at hv
  rename_i k
  split at hv
  · rename_i hk
    have hk' : k = .u8 := by simpa using hk
    subst hk'
    cases de <;> simp only [TD.ok] at hoke
    subst hoke
    cases dd <;> simp only [TD.ok] at hokd
    replace hv := Option.bind_eq_some_iff.1 hv
    obtain ⟨ys, hys, hv⟩ := hv
    obtain ⟨l, hl, rfl⟩ := Option.map_eq_some_iff.1 hv
    obtain ⟨ns, rfl, rfl⟩ := bytesOf_cells hl
    obtain ⟨A, c, rfl, hread⟩ := elems_reads R ha hys
    have hcells := ints_flat ns
    by_cases h0 : 0 < (ns.map (AV.int .u8)).length
    · obtain ⟨b, off, rfl, hr⟩ := hread h0
      rw [hcells] at hr
      refine PRun.heap R ⟨_, run_convert_bytes_arg w src e hd hde b off _ c ns (by simp) (fun i hi => ?_) dst hdd, ?_⟩
      · have hi' : i < ns.length := by simpa using hi
        obtain ⟨x, hx, hxr⟩ := hr i (.int .u8 ns[i]) (by simp [hi'])
        cases hxr
        rw [hx]; simp [List.getD, hi']
      · unfold strOfNums
        exact .str _
    · have hn : ns = [] := by cases ns with | nil => rfl | cons _ _ => simp at h0
      subst hn
      refine PRun.heap R ⟨.string ⟨#[]⟩, ?_, .str []⟩
      rw [run_convert_bytes_string w src dst e _ _ _ hd hde hdd]
      cases A with
      | none => simp [Conv.bytesToString]; rfl
      | some A =>
        have := run_bytesToString (P := P) w A 0 c [] (by simp [loadCells, loadCellsFrom])
        exact this
  · cases hv
theorem cap_rel (TT : TabOk P C) {t n : Nat} {ti : TI} {e : Nat} (hti : C.ty t = some ti) (htd : ti.td = .slice e) {x : AV} {u : Value} (hx : VR s h w x u) (hc : capA h x = some n) (ty : TypeId) :
    (Builtin.cap_ #[t] ty #[u]).run P w = .ok (.int .i64 n) w := by
  obtain ⟨d, hd, hok⟩ := (TT t ti hti).und
  rw [htd] at hok
  cases d <;> simp only [TD.ok] at hok
  simp only [Builtin.cap_, List.getElem?_toArray, List.getElem?_cons_zero, Sem.run_bind, Result.andThen_ok, run_und hd]
  cases x <;> simp only [capA, reduceCtorEq] at hc
  case lst xs z r =>
    cases xs with
    | nil =>
      cases r <;> simp only [Option.some.injEq, reduceCtorEq] at hc
      · subst hc
        cases hx with
        | lstNil => rfl
        | lst _ _ _ b off c f h1 h2 => exact h2.elim
      · subst hc
        cases hx with
        | lstEmpty => rfl
        | lst _ _ _ b off c f h1 h2 => have : c = _ := h2; subst this; rfl
    | cons a xs =>
      cases r <;> simp only [Option.some.injEq, reduceCtorEq] at hc
      subst hc
      cases hx with
      | lst _ _ _ b off c f h1 h2 => have : c = _ := h2; subst this; rfl
  case msl o off len sz g cap =>
    cases cap <;> simp only [reduceCtorEq] at hc
    split at hc
    · rename_i hl
      injection hc with hc; subst hc
      cases hx with
      | msl _ _ _ _ _ _ b c el n off' hoff h1 h2 h3 h4 => rw [h4 _ rfl]; rfl
      | mslOld _ _ _ _ _ _ g' a n c h1 h2 => have := genOf_live hl; rw [this] at h1; injection h1; omega
    · cases hc
theorem goInt_eq (n : Int) : goInt n = .int .i64 n := rfl
theorem clear_rel (TT : TabOk P C) (R : Rel s h w) {t : Nat} {x v : AV} {u : Value} {h' : Heap} (hx : VR s h w x u) (hm : moreA C h .clear [t] [x] = some (v, h')) (ty : TypeId) : HRun P s h w (Builtin.clear_ #[t] ty #[u]) v h' := by
  simp only [moreA, Option.bind_eq_bind] at hm
  replace hm := Option.bind_eq_some_iff.1 hm
  obtain ⟨ti, hti, hm⟩ := hm
  obtain ⟨d, hd, hok⟩ := (TT t ti hti).und
  generalize ti.td = td at hok hm
  have tup : ∀ {s' : Sim} {h' : Heap} {w' : World}, VR s' h' w' (.tup []) (.tuple #[]) := .tup [] #[] rfl fun i c hi => by simp at hi
  cases td <;> cases x <;> (try simp only [reduceCtorEq] at hm)
  case slice.lst e xs z r =>
    cases xs with
    | cons a xs => cases hm
    | nil =>
    simp only [Option.some.injEq, Prod.mk.injEq] at hm
    obtain ⟨rfl, rfl⟩ := hm
    cases d <;> simp only [TD.ok] at hok
    refine ⟨s, w, .tuple #[], ?_, Ext.refl _ _ _, R, tup⟩
    cases hx <;> simp [Builtin.clear_, run_und hd]
  case slice.msl e o off len sz g cap =>
    replace hm := Option.bind_eq_some_iff.1 hm
    obtain ⟨te, hte, hm⟩ := hm
    replace hm := Option.bind_eq_some_iff.1 hm
    obtain ⟨cs, hcs, hm⟩ := hm
    cases d <;> simp only [TD.ok] at hok
    rw [hok] at hd
    have T := TT e te hte
    cases hx with
    | mslOld _ _ _ _ _ _ g' a n c h1 h2 => have := (genOf_obj hcs).1; rw [this] at h1; injection h1; omega
    | msl _ _ _ _ _ _ b c el n off' hoff h1 h2 h3 h4 h5 h6 h7 =>
      split at hm
      · rename_i h0
        have h0' : len = 0 := by simpa using h0
        subst h0'
        simp only [Option.some.injEq, Prod.mk.injEq] at hm
        obtain ⟨rfl, rfl⟩ := hm
        exact ⟨s, w, .tuple #[], by simp [Builtin.clear_, run_und hd], Ext.refl _ _ _, R, tup⟩
      rename_i h0
      have h0' : len ≠ 0 := by simpa using h0
      split at hm
      · rename_i hc
        simp only [Bool.and_eq_true, beq_iff_eq, decide_eq_true_eq] at hc
        obtain ⟨⟨⟨c1, c2⟩, c3⟩, c4⟩ := hc
        simp only [Option.some.injEq, Prod.mk.injEq] at hm
        obtain ⟨rfl, rfl⟩ := hm
        obtain rfl : off' = off := hoff.resolve_right (by omega)
        obtain ⟨z, hz1, hz2⟩ := zero_rel (P := P) (s := s) (h := h) (w := w) T
        have hzr := zeros_rel hz2 len
        have hzl : z.cells.size = te.size := by have := hz2.1; simp at this; omega
        obtain ⟨w', k1, k2, k3⟩ := store_cells (P := P) R h2 hcs (off := off') (xs := copies len te.zero) (by rw [copies_length, c3, ← c1]; exact c2) hzr (all_one hzr (by
          rw [List.all_eq_true]
          intro y hy
          obtain ⟨i, hi⟩ := List.mem_iff_getElem?.1 hy
          have hlt := (List.getElem?_eq_some_iff.1 hi).1
          rw [copies_length] at hlt
          rw [copies_get _ _ _ hlt] at hi
          exact List.all_eq_true.1 c4 y (List.mem_of_getElem? hi))) 0
        have hrun := k1 off' (by omega)
        refine ⟨s, w', .tuple #[], ?_, k2, k3, tup⟩
        obtain ⟨m, rfl⟩ : ∃ m, len = m + 1 := ⟨len - 1, by omega⟩
        simp only [Builtin.clear_, List.getElem?_toArray, List.getElem?_cons_zero, Sem.run_bind, Sem.run_pure, Result.andThen_ok, run_und hd, hz1]
        simp only [Builtin.zeroCells] at hrun ⊢
        rw [hrun]
        rfl
      · cases hm
  case map.nilMap kt et =>
    simp only [Option.some.injEq, Prod.mk.injEq] at hm
    obtain ⟨rfl, rfl⟩ := hm
    cases hx
    exact ⟨s, w, .tuple #[], by simp [Builtin.clear_, run_und hd], Ext.refl _ _ _, R, tup⟩
  case map.map kt et o =>
    replace hm := Option.bind_eq_some_iff.1 hm
    obtain ⟨es, hes, hm⟩ := hm
    simp only [Option.some.injEq, Prod.mk.injEq] at hm
    obtain ⟨rfl, rfl⟩ := hm
    obtain ⟨b, en, cl, es0, rfl, hb, hheap, hp0, hE, hSt⟩ := map_obj R hes hx
    obtain ⟨E, R'⟩ := map_write (es' := []) (es0' := []) (en' := #[]) (cl' := cl) R hb (mapAt_some hes) hheap ⟨List.Perm.refl _, List.Pairwise.nil⟩ ⟨rfl, fun i e hi => by simp at hi⟩ (MapKept.stamped_empty _)
    refine ⟨s, _, .tuple #[], ?_, E, R', tup⟩
    simp only [Builtin.clear_, List.getElem?_toArray, List.getElem?_cons_zero, Sem.run_bind, Sem.run_pure, Result.andThen_ok, run_und hd, run_getMap hheap, run_setMap hheap]
theorem copy_rel (TT : TabOk P C) (R : Rel s h w) {t t2 : Nat} {x y v : AV} {u ux : Value} {h' : Heap} (hx : VR s h w x u) (hy : VR s h w y ux) (hm : moreA C h .copy [t, t2] [x, y] = some (v, h')) (ty : TypeId) : HRun P s h w (Builtin.copy_ #[t, t2] ty #[u, ux]) v h' := by
  simp only [moreA, Option.bind_eq_bind] at hm
  replace hm := Option.bind_eq_some_iff.1 hm
  obtain ⟨ti, hti, hm⟩ := hm
  obtain ⟨d, hd, hok⟩ := (TT t ti hti).und
  generalize ti.td = td at hok hm
  cases td <;> simp only [reduceCtorEq] at hm
  rename_i e
  cases d <;> simp only [TD.ok] at hok
  rw [hok] at hd
  replace hm := Option.bind_eq_some_iff.1 hm
  obtain ⟨te, hte, hm⟩ := hm
  have T := TT e te hte
  replace hm := Option.bind_eq_some_iff.1 hm
  obtain ⟨ys, hys, hm⟩ := hm
  obtain ⟨A, cy, rfl, hread⟩ := elems_reads R hy hys
  have load0 : ∀ (A : Option Addr) (l c : Nat), (Builtin.firstCells te.size 0 (.slice A l c)).run P w = .ok #[] w := by
    intro A l c
    cases A with
    | none => rfl
    | some A => simp [Builtin.firstCells, loadCells, loadCellsFrom]
  have zero : ∀ (B : Option Addr) (dl dc : Nat), Nat.min ys.length dl = 0 → (Builtin.copy_ #[t, t2] ty #[.slice B dl dc, .slice A ys.length cy]).run P w = .ok (.int .i64 0) w := by
    intro B dl dc hmin
    simp only [Builtin.copy_, List.getElem?_toArray, List.getElem?_cons_zero, List.getElem?_cons_succ, Sem.run_bind, Sem.run_pure, Result.andThen_ok, run_und hd, Builtin.lenOf, run_sizeA T, hmin, load0]
    cases B <;> simp [storeCells, goInt_eq]
  cases x <;> (try simp only [reduceCtorEq] at hm)
  case lst xs z r =>
    cases xs with
    | cons a xs => cases hm
    | nil =>
    simp only [Option.some.injEq, Prod.mk.injEq] at hm
    obtain ⟨rfl, rfl⟩ := hm
    cases hx with
    | lstNil => exact ⟨s, w, .int .i64 0, zero _ _ _ (by simp), Ext.refl _ _ _, R, .int _ _⟩
    | lstEmpty => exact ⟨s, w, .int .i64 0, zero _ _ _ (by simp), Ext.refl _ _ _, R, .int _ _⟩
    | lst _ _ _ b off c f => exact ⟨s, w, .int .i64 0, zero _ _ _ (by simp), Ext.refl _ _ _, R, .int _ _⟩
  case msl o off len sz g cap =>
    replace hm := Option.bind_eq_some_iff.1 hm
    obtain ⟨cs, hcs, hm⟩ := hm
    cases hx with
    | mslOld _ _ _ _ _ _ g' a n c h1 h2 => have := (genOf_obj hcs).1; rw [this] at h1; injection h1; omega
    | msl _ _ _ _ _ _ b c el n off' hoff h1 h2 h3 h4 h5 h6 h7 =>
      split at hm
      · rename_i h0
        have h0' : Nat.min ys.length len = 0 := by simpa using h0
        simp only [Option.some.injEq, Prod.mk.injEq] at hm
        obtain ⟨rfl, rfl⟩ := hm
        exact ⟨s, w, .int .i64 0, zero _ _ _ h0', Ext.refl _ _ _, R, .int _ _⟩
      rename_i h0
      have h0' : Nat.min ys.length len ≠ 0 := by simpa using h0
      split at hm
      · rename_i hc
        simp only [Bool.and_eq_true, beq_iff_eq, decide_eq_true_eq] at hc
        obtain ⟨⟨⟨c1, c2⟩, c3⟩, c4⟩ := hc
        simp only [Option.some.injEq, Prod.mk.injEq] at hm
        obtain ⟨rfl, rfl⟩ := hm
        have hl1 : Nat.min ys.length len ≤ len := Nat.min_le_right _ _
        have hl2 : Nat.min ys.length len ≤ ys.length := Nat.min_le_left _ _
        obtain rfl : off' = off := hoff.resolve_right (by omega)
        obtain ⟨by_, offy, rfl, hr⟩ := hread (by omega)
        obtain ⟨vs, v1, v2, v3⟩ := reads_list (hr.take (Nat.min ys.length len * te.size))
        have hVs : VRs s h w (((ys.map AV.cells).flatten).take (Nat.min ys.length len * te.size)) vs := ⟨v1.symm, fun i c hi => by
          have hlt : i < vs.length := by rw [v1]; exact (List.getElem?_eq_some_iff.1 hi).1
          refine ⟨vs[i], List.getElem?_eq_getElem hlt, ?_⟩
          have := v3 i c hi
          simpa [hlt] using this⟩
        have hload := run_loadCells_list (P := P) (w := w) ⟨by_, offy, none⟩ vs (fun j v hj => by rw [addr_add]; exact v2 j v hj)
        rw [v1, c3] at hload
        have hmul : Nat.min ys.length len * te.size ≤ len * sz := by rw [← c1]; exact Nat.mul_le_mul_right _ hl1
        obtain ⟨w', k1, k2, k3⟩ := store_cells (P := P) R h2 hcs (off := off') (by rw [c3]; omega) hVs (all_one hVs c4) 0
        have hrun := k1 off' (by omega)
        refine ⟨s, w', .int .i64 (Nat.min ys.length len), ?_, k2, k3, .int _ _⟩
        simp only [Builtin.copy_, List.getElem?_toArray, List.getElem?_cons_zero, List.getElem?_cons_succ, Sem.run_bind, Sem.run_pure, Result.andThen_ok, run_und hd, Builtin.lenOf, run_sizeA T, Builtin.firstCells, hload, hrun, goInt_eq]
      · cases hm
theorem erase_rel {k : AV} {f : Value → Option Bool} (hF : Cmp s h w k f) : ∀ {es es' : List (AV × AV)} {en : List MapEntry} (j : Nat), Ents s h w es en → eraseA k es = some es' →
    (∃ i y, findBy f en j = some (some (j + i, y)) ∧ i < en.length ∧ Ents s h w es' (en.eraseIdx i)) ∨ (findBy f en j = some none ∧ Ents s h w es' en)
  | [], _, [], j, _, hp => by
    simp only [eraseA, Option.some.injEq] at hp
    subst hp
    exact .inr ⟨rfl, rfl, fun i e hi => by simp at hi⟩
  | [], _, _ :: _, _, H, _ => by have := H.1; simp at this
  | _ :: _, _, [], _, H, _ => by have := H.1; simp at this
  | (k', v') :: es, es', m :: en, j, H, hp => by
    obtain ⟨⟨hk', hv'⟩, ht⟩ := H.tail
    simp only [eraseA, Option.bind_eq_bind] at hp
    obtain ⟨p, hp1, hp⟩ := Option.bind_eq_some_iff.1 hp
    have hs := hF k' m.key p hk' hp1
    simp only [findBy, hs]
    cases p with
    | true =>
      simp only [if_true, Option.some.injEq] at hp
      subst hp
      exact .inl ⟨0, m.val, rfl, by simp, by simpa using ht⟩
    | false =>
      simp only [Bool.false_eq_true, if_false] at hp
      obtain ⟨es2, hp2, rfl⟩ := Option.map_eq_some_iff.1 hp
      rcases erase_rel hF (j + 1) ht hp2 with ⟨i, y, h1, h2, h3⟩ | ⟨h1, h2⟩
      · refine .inl ⟨i + 1, y, by rw [h1, show j + 1 + i = j + (i + 1) from by omega], by simpa using h2, ?_⟩
        simp only [List.eraseIdx_cons_succ]
        exact Ents.cons ⟨hk', hv'⟩ h3
      · exact .inr ⟨h1, Ents.cons ⟨hk', hv'⟩ h2⟩
theorem delete_rel (TT : TabOk P C) (R : Rel s h w) {t t2 : Nat} {x k v : AV} {u uk : Value} {h' : Heap} (hx : VR s h w x u) (hk : VR s h w k uk) (hm : moreA C h .delete [t, t2] [x, k] = some (v, h')) (ty : TypeId) : HRun P s h w (Builtin.delete_ #[t, t2] ty #[u, uk]) v h' := by
  simp only [moreA, Option.bind_eq_bind] at hm
  replace hm := Option.bind_eq_some_iff.1 hm
  obtain ⟨ti, hti, hm⟩ := hm
  obtain ⟨d, hd, hok⟩ := (TT t ti hti).und
  generalize ti.td = td at hok hm
  cases td <;> simp only [reduceCtorEq] at hm
  rename_i kt et
  replace hm := Option.bind_eq_some_iff.1 hm
  obtain ⟨tk, htk, hm⟩ := hm
  by_cases hkey0 : keyTd C kt tk.td k = false
  · simp [hkey0] at hm
  have hkey : keyTd C kt tk.td k = true := by simpa using hkey0
  simp only [hkey, Bool.not_true, Bool.false_eq_true, if_false] at hm
  cases d <;> simp only [TD.ok] at hok
  obtain ⟨rfl, rfl⟩ := hok
  obtain ⟨fc, hF, hQ, hself, hbits, hfind, hcheck⟩ := key_run TT htk hkey hk
  have tup : ∀ {s' : Sim} {h' : Heap} {w' : World}, VR s' h' w' (.tup []) (.tuple #[]) := .tup [] #[] rfl fun i c hi => by simp at hi
  cases x <;> simp only [reduceCtorEq] at hm
  case nilMap =>
    simp only [Option.some.injEq, Prod.mk.injEq] at hm
    obtain ⟨rfl, rfl⟩ := hm
    cases hx
    refine ⟨s, w, .tuple #[], ?_, Ext.refl _ _ _, R, tup⟩
    simp only [Builtin.delete_, List.getElem?_toArray, List.getElem?_cons_zero, List.getElem?_cons_succ, Sem.run_bind, Sem.run_pure, Result.andThen_ok, run_und hd, hcheck]
  case map o =>
    replace hm := Option.bind_eq_some_iff.1 hm
    obtain ⟨es, hes, hm⟩ := hm
    replace hm := Option.bind_eq_some_iff.1 hm
    obtain ⟨es', hes', hm⟩ := hm
    simp only [Option.some.injEq, Prod.mk.injEq] at hm
    obtain ⟨rfl, rfl⟩ := hm
    obtain ⟨b, en, cl, es0, rfl, hb, hheap, hp0, hE, hSt⟩ := map_obj R hes hx
    obtain ⟨es0', hes0', hp1, hk1⟩ := eraseA_perm hp0.2 hp0.1.symm hes'
    rcases erase_rel hF 0 hE hes0' with ⟨i, y, h1, h2, h3⟩ | ⟨h1, h2⟩
    · have hE' : Ents s h w es0' (en.eraseIdxIfInBounds i).toList := by
        have : (en.eraseIdxIfInBounds i).toList = en.toList.eraseIdx i := by simp
        rw [this]; exact h3
      obtain ⟨E, R'⟩ := map_write (cl' := cl) R hb (mapAt_some hes) hheap ⟨hp1.symm, hk1⟩ hE' (MapKept.stamped_erase hSt i)
      refine ⟨s, _, .tuple #[], ?_, E, R', tup⟩
      simp only [Nat.zero_add] at h1
      simp only [Builtin.delete_, List.getElem?_toArray, List.getElem?_cons_zero, List.getElem?_cons_succ, Sem.run_bind, Sem.run_pure, Result.andThen_ok, run_und hd, run_getMap hheap, hcheck, hfind _ _ w h1, run_setMap hheap]
    · obtain ⟨E, R'⟩ := map_write (en' := en) (cl' := cl) R hb (mapAt_some hes) hheap ⟨hp1.symm, hk1⟩ h2 hSt
      refine ⟨s, _, .tuple #[], ?_, E, R', tup⟩
      simp only [Builtin.delete_, List.getElem?_toArray, List.getElem?_cons_zero, List.getElem?_cons_succ, Sem.run_bind, Sem.run_pure, Result.andThen_ok, run_und hd, run_getMap hheap, hcheck, hfind _ _ w h1, run_setMap hheap]
theorem more_rel (TT : TabOk P C) (R : Rel s h w) {b : Builtin} {ts : List Nat} {vs : List AV} {us : List Value} {v : AV} {h' : Heap} (hr : VRs s h w vs us) (hm : moreA C h b ts vs = some (v, h')) (ty : TypeId) :
    ∃ m, (∀ cs : Array Bool, builtin b ts.toArray ty cs us.toArray = (do pure (Next.value (← m)))) ∧ HRun P s h w m v h' := by
  have one : ∀ {x : AV}, VRs s h w [x] us → ∃ u, us = [u] ∧ VR s h w x u := fun {x} H => by
    obtain ⟨u, rfl⟩ := List.length_eq_one_iff.1 (show us.length = 1 by rw [← H.1]; rfl)
    obtain ⟨u', h1, h2⟩ := H.2 0 x rfl
    simp at h1; subst h1
    exact ⟨_, rfl, h2⟩
  have two : ∀ {x y : AV}, VRs s h w [x, y] us → ∃ u u2, us = [u, u2] ∧ VR s h w x u ∧ VR s h w y u2 := fun {x y} H => by
    have hl : us.length = 2 := by rw [← H.1]; rfl
    match us, hl, H with
    | [u, u2], _, H =>
      obtain ⟨u', h1, h2⟩ := H.2 0 x rfl
      obtain ⟨u2', h3, h4⟩ := H.2 1 y rfl
      simp at h1 h3; subst h1 h3
      exact ⟨_, _, rfl, h2, h4⟩
  have hm0 := hm
  unfold moreA at hm
  split at hm
  · obtain ⟨u, rfl, hx⟩ := one hr
    simp only [Option.bind_eq_bind] at hm
    replace hm := Option.bind_eq_some_iff.1 hm
    obtain ⟨ti, hti, hm⟩ := hm
    split at hm
    · rename_i e htd
      obtain ⟨n, hn, he⟩ := Option.map_eq_some_iff.1 hm
      simp only [Prod.mk.injEq] at he
      obtain ⟨rfl, rfl⟩ := he
      exact ⟨_, fun _ => rfl, s, w, _, cap_rel TT hti htd hx hn ty, Ext.refl _ _ _, R, .int _ _⟩
    · cases hm
  · obtain ⟨u, rfl, hx⟩ := one hr
    exact ⟨_, fun _ => rfl, clear_rel TT R hx hm0 ty⟩
  · obtain ⟨u, u2, rfl, hx, hy⟩ := two hr
    exact ⟨_, fun _ => rfl, copy_rel TT R hx hy hm0 ty⟩
  · obtain ⟨u, u2, rfl, hx, hy⟩ := two hr
    exact ⟨_, fun _ => rfl, delete_rel TT R hx hy hm0 ty⟩
  · obtain ⟨u, u2, rfl, hx, hy⟩ := two hr
    split at hm
    · simp only [Option.some.injEq, Prod.mk.injEq] at hm
      obtain ⟨rfl, rfl⟩ := hm
      cases hx; cases hy
      exact ⟨_, fun _ => rfl, s, w, _, rfl, Ext.refl _ _ _, R, .int _ _⟩
    · cases hm
  · obtain ⟨u, u2, rfl, hx, hy⟩ := two hr
    split at hm
    · simp only [Option.some.injEq, Prod.mk.injEq] at hm
      obtain ⟨rfl, rfl⟩ := hm
      cases hx; cases hy
      exact ⟨_, fun _ => rfl, s, w, _, rfl, Ext.refl _ _ _, R, .int _ _⟩
    · cases hm
  · cases hm
end
end Go.Rv
