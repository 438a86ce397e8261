/-
  More built-in functions: cap, clear, copy, delete, max, min; bytes to a string.
-/
import Derived.Test.YtpnafmeehjfnaaaGreatDoorRvMaps
import Derived.Laws.BytesArg
set_option linter.unusedSimpArgs false
set_option linter.unusedVariables false
namespace Go.Rv
section
variable {P : Program} {C : Cfg} {s : Sim} {h : Heap} {w : World}

theorem bytesOf_cells : ∀ {ys : List AV} {l : List UInt8}, bytesOf ys = some l → ∃ ns : List Int, ys = ns.map (AV.int .u8) ∧ l = ns.map fun n => UInt8.ofNat n.toNat
  | [], l, hb => by
    simp only [bytesOf, Option.some.injEq] at hb
    exact ⟨[], rfl, by rw [← hb]; rfl⟩
  | y :: ys, l, hb => by
    cases y <;> simp only [bytesOf, reduceCtorEq] at hb
    rename_i k n
    split at hb
    · rename_i hk
      have hk' : k = .u8 := by simpa using hk
      subst hk'
      obtain ⟨r, hr, rfl⟩ := Option.map_eq_some_iff.1 hb
      obtain ⟨ns, rfl, rfl⟩ := bytesOf_cells hr
      exact ⟨n :: ns, rfl, rfl⟩
    · cases hb

theorem ints_flat : ∀ ns : List Int, ((ns.map (AV.int .u8)).map AV.cells).flatten = ns.map (AV.int .u8)
  | [] => rfl
  | n :: ns => by simp only [List.map_cons, List.flatten_cons, ints_flat ns]; rfl

theorem convH_rel (TT : TabOk P C) (R : Rel s h w) {src dst : Nat} {a v : AV} {u : Value} (ha : VR s h w a u) (hv : convH C h src dst a = some v) : PRun P s h w (convert src dst u) v := by
  unfold convH at hv
  simp only [Option.bind_eq_bind] at hv
  replace hv := Option.bind_eq_some_iff.1 hv
  obtain ⟨ts, hts, hv⟩ := hv
  obtain ⟨d, hd, hok⟩ := (TT src ts hts).und
  generalize ts.td = td at hv hok
  cases td <;> simp only at hv <;> first | exact conv_rel TT ⟨d, hd⟩ ha hv | skip
  rename_i e
  cases d <;> simp only [TD.ok] at hok
  rw [hok] at hd
  replace hv := Option.bind_eq_some_iff.1 hv
  obtain ⟨te, hte, hv⟩ := hv
  replace hv := Option.bind_eq_some_iff.1 hv
  obtain ⟨ti, hti, hv⟩ := hv
  obtain ⟨de, hde, hoke⟩ := (TT e te hte).und
  obtain ⟨dd, hdd, hokd⟩ := (TT dst ti hti).und
  generalize te.td = tde at hv hoke
  generalize ti.td = tdd at hv hokd
  cases tde <;> cases tdd <;> simp only [reduceCtorEq] at hv
  rename_i k
  split at hv
  · rename_i hk
    have hk' : k = .u8 := by simpa using hk
    subst hk'
    cases de <;> simp only [TD.ok] at hoke
    subst hoke
    cases dd <;> simp only [TD.ok] at hokd
    replace hv := Option.bind_eq_some_iff.1 hv
    obtain ⟨ys, hys, hv⟩ := hv
    obtain ⟨l, hl, rfl⟩ := Option.map_eq_some_iff.1 hv
    obtain ⟨ns, rfl, rfl⟩ := bytesOf_cells hl
    obtain ⟨A, c, rfl, hread⟩ := elems_reads R ha hys
    have hcells := ints_flat ns
    by_cases h0 : 0 < (ns.map (AV.int .u8)).length
    · obtain ⟨b, off, rfl, hr⟩ := hread h0
      rw [hcells] at hr
      refine ⟨_, run_convert_bytes_arg w src e hd hde b off _ c ns (by simp) (fun i hi => ?_) dst hdd, ?_⟩
      · have hi' : i < ns.length := by simpa using hi
        obtain ⟨x, hx, hxr⟩ := hr i (.int .u8 ns[i]) (by simp [hi'])
        cases hxr
        rw [hx]; simp [List.getD, hi']
      · unfold strOfNums
        exact .str _
    · have hn : ns = [] := by cases ns with | nil => rfl | cons _ _ => simp at h0
      subst hn
      refine ⟨.string ⟨#[]⟩, ?_, .str []⟩
      rw [run_convert_bytes_string w src dst e _ _ _ hd hde hdd]
      cases A with
      | none => simp [Conv.bytesToString]; rfl
      | some A =>
        have := run_bytesToString (P := P) w A 0 c [] (by simp [loadCells, loadCellsFrom])
        exact this
  · cases hv

theorem cap_rel (TT : TabOk P C) {t n : Nat} {ti : TI} {e : Nat} (hti : C.ty t = some ti) (htd : ti.td = .slice e) {x : AV} {u : Value} (hx : VR s h w x u) (hc : capA h x = some n) (ty : TypeId) :
    (Builtin.cap_ #[t] ty #[u]).run P w = .ok (.int .i64 n) w := by
  obtain ⟨d, hd, hok⟩ := (TT t ti hti).und
  rw [htd] at hok
  cases d <;> simp only [TD.ok] at hok
  simp only [Builtin.cap_, List.getElem?_toArray, List.getElem?_cons_zero, Sem.run_bind, Sem.run_pure, Result.andThen_ok, run_und hd]
  cases x <;> simp only [capA, reduceCtorEq] at hc
  case lst xs z r =>
    cases xs with
    | nil =>
      cases r <;> simp only [capA, Option.some.injEq, reduceCtorEq] at hc
      · subst hc
        cases hx with
        | lstNil => rfl
        | lst _ _ _ b off c f h1 h2 => exact h2.elim
      · subst hc
        cases hx with
        | lstEmpty => rfl
        | lst _ _ _ b off c f h1 h2 => have : c = _ := h2; subst this; rfl
    | cons a xs =>
      cases r <;> simp only [capA, Option.some.injEq, reduceCtorEq] at hc
      subst hc
      cases hx with
      | lst _ _ _ b off c f h1 h2 => have : c = _ := h2; subst this; rfl
  case msl o off len sz g cap =>
    cases cap <;> simp only [capA, reduceCtorEq] at hc
    split at hc
    · rename_i hl
      injection hc with hc; subst hc
      cases hx with
      | msl _ _ _ _ _ _ b c el n off' hoff h1 h2 h3 h4 => rw [h4 _ rfl]; rfl
      | mslOld _ _ _ _ _ _ g' a n c h1 h2 => have := genOf_live hl; rw [this] at h1; injection h1; omega
    · cases hc

theorem goInt_eq (n : Int) : goInt n = .int .i64 n := rfl

theorem clear_rel (TT : TabOk P C) (R : Rel s h w) {t : Nat} {x v : AV} {u : Value} {h' : Heap} (hx : VR s h w x u) (hm : moreA C h .clear [t] [x] = some (v, h')) (ty : TypeId) : HRun P s h w (Builtin.clear_ #[t] ty #[u]) v h' := by
  simp only [moreA, Option.bind_eq_bind] at hm
  replace hm := Option.bind_eq_some_iff.1 hm
  obtain ⟨ti, hti, hm⟩ := hm
  obtain ⟨d, hd, hok⟩ := (TT t ti hti).und
  generalize ti.td = td at hok hm
  have tup : ∀ {s' : Sim} {h' : Heap} {w' : World}, VR s' h' w' (.tup []) (.tuple #[]) := .tup [] #[] rfl fun i c hi => by simp at hi
  cases td <;> cases x <;> (try simp only [reduceCtorEq] at hm)
  case slice.lst e xs z r =>
    cases xs with
    | cons a xs => cases hm
    | nil =>
    simp only [Option.some.injEq, Prod.mk.injEq] at hm
    obtain ⟨rfl, rfl⟩ := hm
    cases d <;> simp only [TD.ok] at hok
    refine ⟨s, w, .tuple #[], ?_, Ext.refl _ _ _, R, tup⟩
    cases hx <;> simp [Builtin.clear_, run_und hd, Sem.run_bind]
  case slice.msl e o off len sz g cap =>
    replace hm := Option.bind_eq_some_iff.1 hm
    obtain ⟨te, hte, hm⟩ := hm
    replace hm := Option.bind_eq_some_iff.1 hm
    obtain ⟨cs, hcs, hm⟩ := hm
    cases d <;> simp only [TD.ok] at hok
    rw [hok] at hd
    have T := TT e te hte
    cases hx with
    | mslOld _ _ _ _ _ _ g' a n c h1 h2 => have := (genOf_obj hcs).1; rw [this] at h1; injection h1; omega
    | msl _ _ _ _ _ _ b c el n off' hoff h1 h2 h3 h4 h5 h6 h7 =>
      split at hm
      · rename_i h0
        have h0' : len = 0 := by simpa using h0
        subst h0'
        simp only [Option.some.injEq, Prod.mk.injEq] at hm
        obtain ⟨rfl, rfl⟩ := hm
        exact ⟨s, w, .tuple #[], by simp [Builtin.clear_, run_und hd, Sem.run_bind], Ext.refl _ _ _, R, tup⟩
      rename_i h0
      have h0' : len ≠ 0 := by simpa using h0
      split at hm
      · rename_i hc
        simp only [Bool.and_eq_true, beq_iff_eq, decide_eq_true_eq] at hc
        obtain ⟨⟨⟨c1, c2⟩, c3⟩, c4⟩ := hc
        simp only [Option.some.injEq, Prod.mk.injEq] at hm
        obtain ⟨rfl, rfl⟩ := hm
        obtain rfl : off' = off := hoff.resolve_right (by omega)
        obtain ⟨z, hz1, hz2⟩ := zero_rel (P := P) (s := s) (h := h) (w := w) T
        have hzr := zeros_rel hz2 len
        have hzl : z.cells.size = te.size := by have := hz2.1; simp at this; omega
        obtain ⟨w', k1, k2, k3⟩ := store_cells (P := P) R h2 hcs (off := off') (xs := copies len te.zero) (by rw [copies_length, c3, ← c1]; exact c2) hzr (all_one hzr (by
          rw [List.all_eq_true]
          intro y hy
          obtain ⟨i, hi⟩ := List.mem_iff_getElem?.1 hy
          have hlt := (List.getElem?_eq_some_iff.1 hi).1
          rw [copies_length] at hlt
          rw [copies_get _ _ _ hlt] at hi
          exact List.all_eq_true.1 c4 y (List.mem_of_getElem? hi))) 0
        have hrun := k1 off' (by omega)
        refine ⟨s, w', .tuple #[], ?_, k2, k3, tup⟩
        obtain ⟨m, rfl⟩ : ∃ m, len = m + 1 := ⟨len - 1, by omega⟩
        simp only [Builtin.clear_, List.getElem?_toArray, List.getElem?_cons_zero, Sem.run_bind, Sem.run_pure, Result.andThen_ok, run_und hd, hz1]
        simp only [Builtin.zeroCells] at hrun ⊢
        rw [hrun]
        rfl
      · cases hm
  case map.nilMap kt et =>
    simp only [Option.some.injEq, Prod.mk.injEq] at hm
    obtain ⟨rfl, rfl⟩ := hm
    cases hx
    exact ⟨s, w, .tuple #[], by simp [Builtin.clear_, run_und hd, Sem.run_bind], Ext.refl _ _ _, R, tup⟩
  case map.map kt et o =>
    replace hm := Option.bind_eq_some_iff.1 hm
    obtain ⟨es, hes, hm⟩ := hm
    simp only [Option.some.injEq, Prod.mk.injEq] at hm
    obtain ⟨rfl, rfl⟩ := hm
    obtain ⟨b, en, cl, es0, rfl, hb, hheap, hp0, hE, hSt⟩ := map_obj R hes hx
    obtain ⟨E, R'⟩ := map_write (es' := []) (es0' := []) (en' := #[]) (cl' := cl) R hb (mapAt_some hes) hheap ⟨List.Perm.refl _, List.Pairwise.nil⟩ ⟨rfl, fun i e hi => by simp at hi⟩ (MapKept.stamped_empty _)
    refine ⟨s, _, .tuple #[], ?_, E, R', tup⟩
    simp only [Builtin.clear_, List.getElem?_toArray, List.getElem?_cons_zero, Sem.run_bind, Sem.run_pure, Result.andThen_ok, run_und hd, run_getMap hheap, run_setMap hheap]

theorem copy_rel (TT : TabOk P C) (R : Rel s h w) {t t2 : Nat} {x y v : AV} {u ux : Value} {h' : Heap} (hx : VR s h w x u) (hy : VR s h w y ux) (hm : moreA C h .copy [t, t2] [x, y] = some (v, h')) (ty : TypeId) : HRun P s h w (Builtin.copy_ #[t, t2] ty #[u, ux]) v h' := by
  simp only [moreA, Option.bind_eq_bind] at hm
  replace hm := Option.bind_eq_some_iff.1 hm
  obtain ⟨ti, hti, hm⟩ := hm
  obtain ⟨d, hd, hok⟩ := (TT t ti hti).und
  generalize ti.td = td at hok hm
  cases td <;> simp only [reduceCtorEq] at hm
  rename_i e
  cases d <;> simp only [TD.ok] at hok
  rw [hok] at hd
  replace hm := Option.bind_eq_some_iff.1 hm
  obtain ⟨te, hte, hm⟩ := hm
  have T := TT e te hte
  replace hm := Option.bind_eq_some_iff.1 hm
  obtain ⟨ys, hys, hm⟩ := hm
  obtain ⟨A, cy, rfl, hread⟩ := elems_reads R hy hys
  have load0 : ∀ (A : Option Addr) (l c : Nat), (Builtin.firstCells te.size 0 (.slice A l c)).run P w = .ok #[] w := by
    intro A l c
    cases A with
    | none => rfl
    | some A => simp [Builtin.firstCells, loadCells, loadCellsFrom]
  have zero : ∀ (B : Option Addr) (dl dc : Nat), Nat.min ys.length dl = 0 → (Builtin.copy_ #[t, t2] ty #[.slice B dl dc, .slice A ys.length cy]).run P w = .ok (.int .i64 0) w := by
    intro B dl dc hmin
    simp only [Builtin.copy_, List.getElem?_toArray, List.getElem?_cons_zero, List.getElem?_cons_succ, Sem.run_bind, Sem.run_pure, Result.andThen_ok, run_und hd, Builtin.lenOf, run_sizeA T, hmin, load0]
    cases B <;> simp [storeCells, goInt_eq]
  cases x <;> (try simp only [reduceCtorEq] at hm)
  case lst xs z r =>
    cases xs with
    | cons a xs => cases hm
    | nil =>
    simp only [Option.some.injEq, Prod.mk.injEq] at hm
    obtain ⟨rfl, rfl⟩ := hm
    cases hx with
    | lstNil => exact ⟨s, w, .int .i64 0, zero _ _ _ (by simp), Ext.refl _ _ _, R, .int _ _⟩
    | lstEmpty => exact ⟨s, w, .int .i64 0, zero _ _ _ (by simp), Ext.refl _ _ _, R, .int _ _⟩
    | lst _ _ _ b off c f => exact ⟨s, w, .int .i64 0, zero _ _ _ (by simp), Ext.refl _ _ _, R, .int _ _⟩
  case msl o off len sz g cap =>
    replace hm := Option.bind_eq_some_iff.1 hm
    obtain ⟨cs, hcs, hm⟩ := hm
    cases hx with
    | mslOld _ _ _ _ _ _ g' a n c h1 h2 => have := (genOf_obj hcs).1; rw [this] at h1; injection h1; omega
    | msl _ _ _ _ _ _ b c el n off' hoff h1 h2 h3 h4 h5 h6 h7 =>
      split at hm
      · rename_i h0
        have h0' : Nat.min ys.length len = 0 := by simpa using h0
        simp only [Option.some.injEq, Prod.mk.injEq] at hm
        obtain ⟨rfl, rfl⟩ := hm
        exact ⟨s, w, .int .i64 0, zero _ _ _ h0', Ext.refl _ _ _, R, .int _ _⟩
      rename_i h0
      have h0' : Nat.min ys.length len ≠ 0 := by simpa using h0
      split at hm
      · rename_i hc
        simp only [Bool.and_eq_true, beq_iff_eq, decide_eq_true_eq] at hc
        obtain ⟨⟨⟨c1, c2⟩, c3⟩, c4⟩ := hc
        simp only [Option.some.injEq, Prod.mk.injEq] at hm
        obtain ⟨rfl, rfl⟩ := hm
        have hl1 : Nat.min ys.length len ≤ len := Nat.min_le_right _ _
        have hl2 : Nat.min ys.length len ≤ ys.length := Nat.min_le_left _ _
        obtain rfl : off' = off := hoff.resolve_right (by omega)
        obtain ⟨by_, offy, rfl, hr⟩ := hread (by omega)
        obtain ⟨vs, v1, v2, v3⟩ := reads_list (hr.take (Nat.min ys.length len * te.size))
        have hVs : VRs s h w (((ys.map AV.cells).flatten).take (Nat.min ys.length len * te.size)) vs := ⟨v1.symm, fun i c hi => by
          have hlt : i < vs.length := by rw [v1]; exact (List.getElem?_eq_some_iff.1 hi).1
          refine ⟨vs[i], List.getElem?_eq_getElem hlt, ?_⟩
          have := v3 i c hi
          simpa [hlt] using this⟩
        have hload := run_loadCells_list (P := P) (w := w) ⟨by_, offy, none⟩ vs (fun j v hj => by rw [addr_add]; exact v2 j v hj)
        rw [v1, c3] at hload
        have hmul : Nat.min ys.length len * te.size ≤ len * sz := by rw [← c1]; exact Nat.mul_le_mul_right _ hl1
        obtain ⟨w', k1, k2, k3⟩ := store_cells (P := P) R h2 hcs (off := off') (by rw [c3]; omega) hVs (all_one hVs c4) 0
        have hrun := k1 off' (by omega)
        refine ⟨s, w', .int .i64 (Nat.min ys.length len), ?_, k2, k3, .int _ _⟩
        simp only [Builtin.copy_, List.getElem?_toArray, List.getElem?_cons_zero, List.getElem?_cons_succ, Sem.run_bind, Sem.run_pure, Result.andThen_ok, run_und hd, Builtin.lenOf, run_sizeA T, Builtin.firstCells, hload, hrun, goInt_eq]
      · cases hm

theorem erase_rel {k : AV} {f : Value → Option Bool} (hF : Cmp s h w k f) : ∀ {es es' : List (AV × AV)} {en : List MapEntry} (j : Nat), Ents s h w es en → eraseA k es = some es' →
    (∃ i y, findBy f en j = some (some (j + i, y)) ∧ i < en.length ∧ Ents s h w es' (en.eraseIdx i)) ∨ (findBy f en j = some none ∧ Ents s h w es' en)
  | [], _, [], j, _, hp => by
    simp only [eraseA, Option.some.injEq] at hp
    subst hp
    exact .inr ⟨rfl, rfl, fun i e hi => by simp at hi⟩
  | [], _, _ :: _, _, H, _ => by have := H.1; simp at this
  | _ :: _, _, [], _, H, _ => by have := H.1; simp at this
  | (k', v') :: es, es', m :: en, j, H, hp => by
    obtain ⟨⟨hk', hv'⟩, ht⟩ := H.tail
    simp only [eraseA, Option.bind_eq_bind] at hp
    obtain ⟨p, hp1, hp⟩ := Option.bind_eq_some_iff.1 hp
    have hs := hF k' m.key p hk' hp1
    simp only [findBy, hs]
    cases p with
    | true =>
      simp only [if_true, Option.some.injEq] at hp
      subst hp
      exact .inl ⟨0, m.val, rfl, by simp, by simpa using ht⟩
    | false =>
      simp only [Bool.false_eq_true, if_false] at hp
      obtain ⟨es2, hp2, rfl⟩ := Option.map_eq_some_iff.1 hp
      rcases erase_rel hF (j + 1) ht hp2 with ⟨i, y, h1, h2, h3⟩ | ⟨h1, h2⟩
      · refine .inl ⟨i + 1, y, by rw [h1, show j + 1 + i = j + (i + 1) from by omega], by simpa using h2, ?_⟩
        simp only [List.eraseIdx_cons_succ]
        exact Ents.cons ⟨hk', hv'⟩ h3
      · exact .inr ⟨h1, Ents.cons ⟨hk', hv'⟩ h2⟩

theorem delete_rel (TT : TabOk P C) (R : Rel s h w) {t t2 : Nat} {x k v : AV} {u uk : Value} {h' : Heap} (hx : VR s h w x u) (hk : VR s h w k uk) (hm : moreA C h .delete [t, t2] [x, k] = some (v, h')) (ty : TypeId) : HRun P s h w (Builtin.delete_ #[t, t2] ty #[u, uk]) v h' := by
  simp only [moreA, Option.bind_eq_bind] at hm
  replace hm := Option.bind_eq_some_iff.1 hm
  obtain ⟨ti, hti, hm⟩ := hm
  obtain ⟨d, hd, hok⟩ := (TT t ti hti).und
  generalize ti.td = td at hok hm
  cases td <;> simp only [reduceCtorEq] at hm
  rename_i kt et
  replace hm := Option.bind_eq_some_iff.1 hm
  obtain ⟨tk, htk, hm⟩ := hm
  by_cases hkey0 : keyTd C kt tk.td k = false
  · simp [hkey0] at hm
  have hkey : keyTd C kt tk.td k = true := by simpa using hkey0
  simp only [hkey, Bool.not_true, Bool.false_eq_true, if_false] at hm
  cases d <;> simp only [TD.ok] at hok
  obtain ⟨rfl, rfl⟩ := hok
  obtain ⟨fc, hF, hQ, hself, hbits, hfind, hcheck⟩ := key_run TT htk hkey hk
  have tup : ∀ {s' : Sim} {h' : Heap} {w' : World}, VR s' h' w' (.tup []) (.tuple #[]) := .tup [] #[] rfl fun i c hi => by simp at hi
  cases x <;> simp only [reduceCtorEq] at hm
  case nilMap =>
    simp only [Option.some.injEq, Prod.mk.injEq] at hm
    obtain ⟨rfl, rfl⟩ := hm
    cases hx
    refine ⟨s, w, .tuple #[], ?_, Ext.refl _ _ _, R, tup⟩
    simp only [Builtin.delete_, List.getElem?_toArray, List.getElem?_cons_zero, List.getElem?_cons_succ, Sem.run_bind, Sem.run_pure, Result.andThen_ok, run_und hd, hcheck]
  case map o =>
    replace hm := Option.bind_eq_some_iff.1 hm
    obtain ⟨es, hes, hm⟩ := hm
    replace hm := Option.bind_eq_some_iff.1 hm
    obtain ⟨es', hes', hm⟩ := hm
    simp only [Option.some.injEq, Prod.mk.injEq] at hm
    obtain ⟨rfl, rfl⟩ := hm
    obtain ⟨b, en, cl, es0, rfl, hb, hheap, hp0, hE, hSt⟩ := map_obj R hes hx
    obtain ⟨es0', hes0', hp1, hk1⟩ := eraseA_perm hp0.2 hp0.1.symm hes'
    rcases erase_rel hF 0 hE hes0' with ⟨i, y, h1, h2, h3⟩ | ⟨h1, h2⟩
    · have hE' : Ents s h w es0' (en.eraseIdxIfInBounds i).toList := by
        have : (en.eraseIdxIfInBounds i).toList = en.toList.eraseIdx i := by simp
        rw [this]; exact h3
      obtain ⟨E, R'⟩ := map_write (cl' := cl) R hb (mapAt_some hes) hheap ⟨hp1.symm, hk1⟩ hE' (MapKept.stamped_erase hSt i)
      refine ⟨s, _, .tuple #[], ?_, E, R', tup⟩
      simp only [Nat.zero_add] at h1
      simp only [Builtin.delete_, List.getElem?_toArray, List.getElem?_cons_zero, List.getElem?_cons_succ, Sem.run_bind, Sem.run_pure, Result.andThen_ok, run_und hd, run_getMap hheap, hcheck, hfind _ _ w h1, run_setMap hheap]
    · obtain ⟨E, R'⟩ := map_write (en' := en) (cl' := cl) R hb (mapAt_some hes) hheap ⟨hp1.symm, hk1⟩ h2 hSt
      refine ⟨s, _, .tuple #[], ?_, E, R', tup⟩
      simp only [Builtin.delete_, List.getElem?_toArray, List.getElem?_cons_zero, List.getElem?_cons_succ, Sem.run_bind, Sem.run_pure, Result.andThen_ok, run_und hd, run_getMap hheap, hcheck, hfind _ _ w h1, run_setMap hheap]

/-- All of them. -/
theorem more_rel (TT : TabOk P C) (R : Rel s h w) {b : Builtin} {ts : List Nat} {vs : List AV} {us : List Value} {v : AV} {h' : Heap} (hr : VRs s h w vs us) (hm : moreA C h b ts vs = some (v, h')) (ty : TypeId) :
    ∃ m, (∀ cs : Array Bool, builtin b ts.toArray ty cs us.toArray = (do pure (Next.value (← m)))) ∧ HRun P s h w m v h' := by
  have one : ∀ {x : AV}, VRs s h w [x] us → ∃ u, us = [u] ∧ VR s h w x u := fun {x} H => by
    obtain ⟨u, rfl⟩ := List.length_eq_one_iff.1 (show us.length = 1 by rw [← H.1]; rfl)
    obtain ⟨u', h1, h2⟩ := H.2 0 x rfl
    simp at h1; subst h1
    exact ⟨_, rfl, h2⟩
  have two : ∀ {x y : AV}, VRs s h w [x, y] us → ∃ u u2, us = [u, u2] ∧ VR s h w x u ∧ VR s h w y u2 := fun {x y} H => by
    have hl : us.length = 2 := by rw [← H.1]; rfl
    match us, hl, H with
    | [u, u2], _, H =>
      obtain ⟨u', h1, h2⟩ := H.2 0 x rfl
      obtain ⟨u2', h3, h4⟩ := H.2 1 y rfl
      simp at h1 h3; subst h1 h3
      exact ⟨_, _, rfl, h2, h4⟩
  have hm0 := hm
  unfold moreA at hm
  split at hm
  · obtain ⟨u, rfl, hx⟩ := one hr
    simp only [Option.bind_eq_bind] at hm
    replace hm := Option.bind_eq_some_iff.1 hm
    obtain ⟨ti, hti, hm⟩ := hm
    split at hm
    · rename_i e htd
      obtain ⟨n, hn, he⟩ := Option.map_eq_some_iff.1 hm
      simp only [Prod.mk.injEq] at he
      obtain ⟨rfl, rfl⟩ := he
      exact ⟨_, fun _ => rfl, s, w, _, cap_rel TT hti htd hx hn ty, Ext.refl _ _ _, R, .int _ _⟩
    · cases hm
  · obtain ⟨u, rfl, hx⟩ := one hr
    exact ⟨_, fun _ => rfl, clear_rel TT R hx hm0 ty⟩
  · obtain ⟨u, u2, rfl, hx, hy⟩ := two hr
    exact ⟨_, fun _ => rfl, copy_rel TT R hx hy hm0 ty⟩
  · obtain ⟨u, u2, rfl, hx, hy⟩ := two hr
    exact ⟨_, fun _ => rfl, delete_rel TT R hx hy hm0 ty⟩
  · obtain ⟨u, u2, rfl, hx, hy⟩ := two hr
    split at hm
    · simp only [Option.some.injEq, Prod.mk.injEq] at hm
      obtain ⟨rfl, rfl⟩ := hm
      cases hx; cases hy
      exact ⟨_, fun _ => rfl, s, w, _, rfl, Ext.refl _ _ _, R, .int _ _⟩
    · cases hm
  · obtain ⟨u, u2, rfl, hx, hy⟩ := two hr
    split at hm
    · simp only [Option.some.injEq, Prod.mk.injEq] at hm
      obtain ⟨rfl, rfl⟩ := hm
      cases hx; cases hy
      exact ⟨_, fun _ => rfl, s, w, _, rfl, Ext.refl _ _ _, R, .int _ _⟩
    · cases hm
  · cases hm
end
end Go.Rv
