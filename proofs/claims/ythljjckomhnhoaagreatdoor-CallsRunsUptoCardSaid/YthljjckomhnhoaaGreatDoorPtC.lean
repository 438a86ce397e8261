/-
  Slices: literals, cuts, elements; what is appended.
-/
import Derived.Test.YthljjckomhnhoaaGreatDoorPtB
import Derived.Laws.BitsLemmas
import Derived.Laws.MakeOwn
import Derived.Laws.StructEq
set_option linter.unusedSectionVars false
set_option linter.unusedSimpArgs false
set_option linter.unusedVariables false
set_option linter.defProp false
namespace Go.Rv
section
variable {P : Program} {C : Cfg} {s : Sim} {h : Heap} {w : World}
theorem one_cells (c : AV) : (one c).cells = [c] := by cases c <;> rfl
theorem group_length (n : Nat) (cs : List AV) (sz : Nat) : (group n cs sz).length = n := by
 induction n generalizing cs with
 | zero => rfl
 | succ n ih => simp [group, ih]
theorem group_get (n : Nat) : ∀ (cs : List AV) (sz i : Nat) (x : AV), n * sz <= cs.length -> (group n cs sz)[i]? = some x -> x.cells = (cs.drop (i * sz)).take sz := by
 induction n with
 | zero => intro cs sz i x _ hx; simp [group] at hx
 | succ n ih =>
  intro cs sz i x hl hx
  rw [Nat.succ_mul] at hl
  cases i with
  | zero =>
   simp only [group, qBe, qAf] at hx
   subst hx
   simp only [Nat.zero_mul, qBf]
   split
   ·rename_i h1
    have h1' : sz = 1 := by simpa using h1
    subst h1'
    rw [one_cells]
    cases cs with
    | nil => simp at hl
    | cons c r => rfl
   ·rfl
  | succ i =>
   simp only [group, List.getElem?_cons_succ] at hx
   rw [ih (cs.drop sz) sz i x (by simp; omega) hx, List.drop_drop]
   rw [Nat.succ_mul, Nat.add_comm]
theorem group_cells_length {n : Nat} {cs : List AV} {sz i : Nat} {x : AV} (hl : n * sz <= cs.length) (hx : (group n cs sz)[i]? = some x) : x.cells.length = sz := by
 rw [group_get n cs sz i x hl hx]
 have hi : i < n := by have := (qAu.1 hx).1; rw [group_length] at this; exact this
 have : (i + 1) * sz <= n * sz := Nat.mul_le_mul_right _ hi
 rw [Nat.succ_mul] at this
 simp
 omega
theorem group_cell {n : Nat} {cs : List AV} {sz i j : Nat} {x y : AV} (hl : n * sz <= cs.length) (hx : (group n cs sz)[i]? = some x) (hy : x.cells[j]? = some y) : cs[i * sz + j]? = some y := by
 rw [group_get n cs sz i x hl hx, List.getElem?_take] at hy
 split at hy
 ·simpa using hy
 ·cases hy
theorem group_flat (n : Nat) : ∀ (cs : List AV) (sz : Nat), n * sz <= cs.length -> ((group n cs sz).map AV.cells).flatten = cs.take (n * sz) := by
 induction n with
 | zero => intro cs sz _; simp [group]
 | succ n ih =>
  intro cs sz hl
  rw [Nat.succ_mul] at hl
  have h0 := group_get (n + 1) cs sz 0 _ (by rw [Nat.succ_mul]; exact hl) rfl
  simp only [group, qAm, List.flatten_cons]
  simp only [Nat.zero_mul, qBf] at h0
  rw [h0, ih (cs.drop sz) sz (by simp; omega), Nat.succ_mul, Nat.add_comm (n * sz) sz, List.take_add]
theorem lst_of_cells {cs : List AV} {b off n sz c : Nat} {room : Room} (hI : 0 < n -> s.I b) (hl : n * sz <= cs.length) (hr : Reads s h w b off cs) (hroom : room.ok c) (hc : n <= c) :
  VR s h w (.lst (group n cs sz) sz room) (.slice (some ⟨b, off, none⟩) n c) := by
 have := VR.lst (s := s) (h := h) (w := w) (group n cs sz) sz room b off c (fun i j => (w.cell? ⟨b, off + i * sz + j, none⟩).getD undef) (by rw [group_length]; exact hI) hroom (by rw [group_length]; exact hc)
  (fun i x hx => group_cells_length hl hx)
  (fun i j x y hx hy => by
   obtain ⟨v, hv, _⟩ := hr _ y (group_cell hl hx hy)
   rw [show off + i * sz + j = off + (i * sz + j) from by omega, hv]; rfl)
  (fun i j x y hx hy => by
   obtain ⟨v, hv, hvr⟩ := hr _ y (group_cell hl hx hy)
   rw [show off + i * sz + j = off + (i * sz + j) from by omega, hv]; exact hvr)
 rw [group_length] at this
 exact this
theorem buildSlice_rel (TT : TabOk P C) (R : Rel s h w) {t el len : Nat} {ti te : TI} {ps : List (Nat × AV)} {qs : Array (Nat × Value)} {cs : List AV} (hti : C.ty t = some ti) (htd : ti.td = .slice el) (hte : C.ty el = some te)
  (hz : te.zero.length = te.size) (hle : len * te.size <= 16777216) (hl : ps.length = qs.size)
  (hpq : ∀ (i : Nat) p q, ps[i]? = some p -> qs.toList[i]? = some q -> p.1 = q.1 /\ VR s h w p.2 q.2 /\ p.2 ≠ .junk)
  (hf : fillA (fun i => some (i * te.size, te.size)) (copies len te.zero) ps = some cs) :
  HRun P s h w (Instr.buildSlice t len qs) (.lst (group len cs te.size) te.size (.exact len)) h /\
  HRun P s h w (Instr.buildSlice t len qs) (.msl h.length 0 len te.size 0 (some len)) (h ++ [.cells cs 0]) := by
 obtain ⟨d, hd, hok⟩ := (TT t ti hti).und
 rw [htd] at hok
 cases d <;> simp only [TD.ok] at hok
 rw [hok] at hd
 obtain ⟨z, hz1, hz2⟩ := zero_rel (s := s) (h := h) (w := w) (TT el te hte)
 have hzs : z.cells.size = te.size := by have := hz2.1; simp at this; omega
 have hzr := zeros_rel hz2 len
 obtain ⟨us, hus, hr⟩ := fill_rel (place' := fun i => some (i * te.size, te.size)) (fun i x hx => hx) ps qs.toList _ cs _ (by simpa using hl) hpq hzr hf
 have hcl : cs.length = len * te.size := by
  have h1 : ∀ (ps : List (Nat × AV)) (c c' : List AV), fillA (fun i => some (i * te.size, te.size)) c ps = some c' -> c'.length = c.length := by
   intro ps
   induction ps with
   | nil => intro c c' hc; simp [fillA] at hc; rw [hc]
   | cons p ps ih =>
    intro c c' hc
    obtain ⟨i, x⟩ := p
    simp only [fillA, qAd, qAe] at hc
    split at hc
    ·rw [ih _ _ hc, setCells_length]
    ·cases hc
  rw [h1 ps _ cs hf, copies_length, hz]
 have hrun : (Instr.buildSlice t len qs).run P w = .ok (.slice (some ⟨w.heap.size, 0, none⟩) len len) (w.alloc (.cells us el)) := by
  have tail : (newRow el us >>= fun a => (pure (Value.slice (some a) len len) : Sem Value)).run P w = .ok (.slice (some ⟨w.heap.size, 0, none⟩) len len) (w.alloc (.cells us el)) := by
   simp only [newRow, Sem.run_bind, run_newObj, Result.andThen_ok, Sem.run_pure]
   rfl
  rw [hzs] at hus
  simp only [Instr.buildSlice, Sem.run_bind, run_und hd, Result.andThen_ok, run_sizeA (TT _ _ hte), show ¬ len * te.size > 2 ^ 24 from by omega, if_false]
  by_cases h0 : len * te.size = 0
  ·have r0 : ∀ f : Nat -> Value, Array.map f (Array.range 0) = #[] := fun f => by apply Array.ext'; simp
   have hus0 : Instr.fill (fun i => some (i * te.size, te.size)) #[] qs.toList = some us := by rw [h0, r0] at hus; exact hus
   simp only [h0, if_true, Sem.run_bind, Sem.run_pure, Result.andThen_ok]
   rw [r0, hus0]
   exact tail
  ·simp only [h0, if_false, Sem.run_bind, hz1, Sem.run_pure, Result.andThen_ok, hzs]
   rw [hus]
   exact tail
 refine ⟨⟨_, _, _, hrun, Ext.block s h w _ true, R.block _ true, ?_⟩, ?_⟩
 ·refine lst_of_cells (fun _ => .inr ⟨rfl, rfl⟩) (by omega) (fun i c hi => ?_) rfl (qAr _)
  obtain ⟨v, hv, hvr⟩ := hr.2 i c hi
  refine ⟨v, ?_, hvr.ext R.apart (Ext.block s h w _ true)⟩
  simp only [qBg, World.cell?, heap_alloc_at]
  simpa using hv
 ·have key := new_cells R (cs := cs) (vs := us) el (by have := hr.1; simp at this; omega) (fun i c hi => by
   obtain ⟨v, h1, h2⟩ := hr.2 i c hi; exact ⟨v, by simpa using h1, h2⟩)
  refine ⟨_, _, _, hrun, key.1, key.2, .msl _ _ _ _ _ _ w.heap.size len el us.size 0 (.inl rfl) (by rw [genOf_new]) (by simp [Sim.add]) (qAr _) (fun m hm => by injection hm) (fun hn => by cases hn) ?_ ?_⟩
  ·simp only [World.shape?, heap_alloc_at]
  ·have := hr.1; simp at this; omega
theorem boxImm_rel (R : Rel s h w) (t : Nat) {a : AV} {u : Value} (ha : VR s h w a u) (hj : a ≠ .junk) : HRun P s h w (Instr.box t u) (.ref a.cells) h := by
 have hv := agg_cells ha hj
 have hrun : (Instr.box t u).run P w = .ok (.pointer (some ⟨w.heap.size, 0, none⟩)) (w.alloc (.cells u.cells t)) := by
  simp only [Instr.box, newVar, newRow, Sem.run_bind, run_newObj, Result.andThen_ok, Sem.run_pure]
  rfl
 refine ⟨_, _, _, hrun, Ext.block s h w _ true, R.block _ true, .ref _ w.heap.size 0 (fun i => u.cells.getD i undef) (fun _ => .inr ⟨rfl, rfl⟩) (fun i c hi => ?_) (fun i c hi => ?_)⟩
 ·obtain ⟨v, hv1, _⟩ := hv.2 i c hi
  simp only [qBg, World.cell?, heap_alloc_at]
  have hv1' : u.cells[i]? = some v := by simpa using hv1
  rw [Array.getD_eq_getD_getElem?, hv1']
  simp []
 ·obtain ⟨v, hv1, hvr⟩ := hv.2 i c hi
  have hv1' : u.cells[i]? = some v := by simpa using hv1
  rw [Array.getD_eq_getD_getElem?, hv1']
  exact hvr.ext R.apart (Ext.block s h w _ true)
theorem part_rel {t : Nat} {ti : TI} (T : TyOk P t ti) {cs : List AV} {vs : Array Value} {off : Nat} {v : AV} (hl : cs.length = vs.size) (hr : ∀ (i : Nat) c, cs[i]? = some c -> VR s h w c (vs.getD i undef)) (hp : Rv.part ti (cs.drop off) = some v) :
  PRun P s h w (Go.part t vs off) v := by
 unfold Rv.part at hp
 unfold PRun
 simp only [Go.part, Sem.run_bind, run_isAggA T, Result.andThen_ok]
 split at hp
 ·rename_i hagg
  split at hp
  ·rename_i hle
   injection hp with hp; subst hp
   have hle' : off + ti.size <= vs.size ∨ ti.size = 0 := by simp at hle; omega
   simp only [hagg, if_true, Sem.run_bind, run_sizeA T, Result.andThen_ok, Sem.run_pure]
   refine ⟨_, rfl, .agg _ _ (by simp at hle ⊢; omega) fun i c hi => ?_⟩
   rw [List.getElem?_take] at hi
   split at hi
   ·rename_i hlt
    rw [List.getElem?_drop] at hi
    have := hr _ c hi
    have hb : off + i < vs.size := by rw [← hl]; exact (qAu.1 hi).1
    have e : (vs.extract off (off + ti.size)).getD i undef = vs.getD (off + i) undef := by
     have h1 : i < min (off + ti.size) vs.size - off := by omega
     simp [Array.getD, hb, h1]
    rw [e]; exact this
   ·cases hi
  ·cases hp
 ·rename_i hagg
  have hagg' : ti.td.isAgg = false := by simpa using hagg
  have h0 : cs[off]? = some v := by
   have : (cs.drop off)[0]? = some v := by rw [← List.head?_eq_getElem?]; exact hp
   simpa using this
  have hb : off < vs.size := by rw [← hl]; exact (qAu.1 h0).1
  have := hr off v h0
  simp only [hagg', qAb, if_false]
  refine ⟨vs[off], by simp [hb], ?_⟩
  simpa [hb] using this
theorem field_rel (TT : TabOk P C) {t k : Nat} {a v : AV} {u : Value} (ha : VR s h w a u) (hv : fieldA C t a k = some v) : PRun P s h w (Instr.field t u k) v := by
 unfold fieldA at hv
 simp only [qAd] at hv
 replace hv := qAc.1 hv
 obtain ⟨ti, hti, hv⟩ := hv
 obtain ⟨d, hd, hok⟩ := (TT t ti hti).und
 generalize ti.td = td at hok hv
 split at hv
 ·rename_i fs cs
  replace hv := qAc.1 hv
  obtain ⟨⟨ft, off⟩, hf, hv⟩ := hv
  replace hv := qAc.1 hv
  obtain ⟨tf, htf, hv⟩ := hv
  cases d <;> simp only [TD.ok] at hok
  rename_i l
  rw [← hok] at hf
  simp only [qBc, qAl, qAg] at hf
  obtain ⟨fld, h1, rfl, rfl⟩ := hf
  have h1' : l[k]? = some fld := by simpa using h1
  cases ha with
  | agg _ vs hl hr =>
   have := part_rel (P := P) (TT _ _ htf) hl hr hv
   obtain ⟨x, hx, hxr⟩ := this
   refine ⟨x, ?_, hxr⟩
   simp only [Instr.field, Sem.run_bind, run_und hd, Result.andThen_ok, h1', asAgg, Sem.run_pure, hx]
 ·cases hv
theorem index_rel (TT : TabOk P C) {t : Nat} {a i v : AV} {u ui : Value} (ha : VR s h w a u) (hi : VR s h w i ui) (hv : indexA C t a i = some v) : PRun P s h w (Instr.index t u ui) v := by
 unfold indexA at hv
 simp only [qAd] at hv
 replace hv := qAc.1 hv
 obtain ⟨ti, hti, hv⟩ := hv
 obtain ⟨d, hd, hok⟩ := (TT t ti hti).und
 generalize ti.td = td at hok hv
 split at hv
 ·rename_i l k n
  cases ha; cases hi
  split at hv
  ·cases hv
  ·rename_i hn
   obtain ⟨c, hc, rfl⟩ := qAl.1 hv
   cases d <;> simp only [TD.ok] at hok
   refine ⟨.int .u8 c.toNat, ?_, .int _ _⟩
   have hlt : n.toNat < l.length := (qAu.1 hc).1
   have hb : (⟨l.toArray⟩ : ByteArray)[n.toNat]? = some c := by
    have h1 : n.toNat < (⟨l.toArray⟩ : ByteArray).size := by simpa [ByteArray.size] using hlt
    have h2 : l[n.toNat] = c := by rw [qAs hlt] at hc; injection hc
    rw [getElem?_pos (⟨l.toArray⟩ : ByteArray) n.toNat h1]
    rw [← h2]
    rfl
   simp only [Instr.index, asIntOf, Sem.run_bind, Sem.run_pure, Result.andThen_ok, run_und hd, show 0 <= n from by omega, if_true, hb]
 ·rename_i len e cs k n
  split at hv
  ·cases hv
  ·rename_i hn
   split at hv
   ·rename_i hlt
    replace hv := qAc.1 hv
    obtain ⟨te, hte, hv⟩ := hv
    simp only [hte, qAe] at hv
    cases d <;> simp only [TD.ok] at hok
    obtain ⟨ea, eb⟩ := hok
    rw [ea, eb] at hd
    cases hi
    cases ha with
    | agg _ vs hl hr =>
     obtain ⟨x, hx, hxr⟩ := part_rel (P := P) (TT _ _ hte) hl hr hv
     refine ⟨x, ?_, hxr⟩
     simp only [Instr.index, asIntOf, Sem.run_bind, Sem.run_pure, Result.andThen_ok, run_und hd, show 0 <= n /\ n < (len : Int) from ⟨by omega, by omega⟩, and_self, if_true, run_sizeA (TT _ _ hte), hx]
   ·cases hv
 ·cases hv
end
end Go.Rv
namespace Go.Rv
section
variable {P : Program} {C : Cfg} {s : Sim} {h : Heap} {w : World}
def VRo (s : Sim) (h : Heap) (w : World) : Option AV -> Option Value -> Prop
 | none, none => True
 | some x, some v => VR s h w x v
 | _, _ => False
theorem bound_run {x : AV} {u : Value} {d most y n : Nat} (hx : VR s h w x u) (hb : boundA (some x) d most = some n) (hm : most <= y) : n <= most /\ ∀ code, (Instr.sliceBound u y code).run P w = .ok n w := by
 unfold boundA at hb
 cases x <;> simp only [reduceCtorEq] at hb
 case int k i =>
  cases hx
  split at hb
  ·rename_i hc
   simp only [qAa, decide_eq_true_eq] at hc
   injection hb with hb; subst hb
   refine ⟨by omega, fun code => ?_⟩
   simp only [Instr.sliceBound, asIntOf, Sem.run_bind, Sem.run_pure, Result.andThen_ok, show 0 <= i /\ i <= (y : Int) from ⟨by omega, by omega⟩, and_self, if_true]
  ·cases hb
theorem bounds_run {isSlice : Bool} {len cap most a b : Nat} {lo hi : Option AV} {lov hiv : Option Value} (hlo : VRo s h w lo lov) (hhi : VRo s h w hi hiv) (hb : boundA hi len most = some b) (ha : boundA lo 0 b = some a) (hm : most <= cap) (hl : len <= cap) :
  a <= b /\ b <= cap /\ (hi = none -> b = len) /\ (hi ≠ none -> b <= most) /\ (Instr.sliceBounds isSlice len cap lov hiv none).run P w = .ok (a, b, cap) w := by
 have hA : ∀ {a : Nat} {lo : Option AV} {lov : Option Value}, VRo s h w lo lov -> boundA lo 0 b = some a -> a <= b /\ ∀ x, lov = some x -> (Instr.sliceBound x b .sliceB).run P w = .ok a w := by
  intro a lo lov hlo ha
  cases lo with
  | none =>
   cases lov with
   | none =>
    simp only [boundA, qAf] at ha
    subst ha
    exact ⟨Nat.zero_le _, fun x hx => by cases hx⟩
   | some v => exact hlo.elim
  | some x =>
   cases lov with
   | none => exact hlo.elim
   | some v =>
    obtain ⟨h3, h4⟩ := bound_run (P := P) hlo ha (qAr _)
    exact ⟨h3, fun y hy => by injection hy with hy; subst hy; exact h4 _⟩
 obtain ⟨hab, hrunA⟩ := hA hlo ha
 have hnone : lov = none -> a = 0 := by
  rintro rfl
  cases lo with
  | none => simpa [boundA] using ha.symm
  | some x => exact hlo.elim
 cases hi with
 | none =>
  cases hiv with
  | some v => exact hhi.elim
  | none =>
   simp only [boundA, qAf] at hb
   subst hb
   refine ⟨hab, hl, fun _ => rfl, fun h => absurd rfl h, ?_⟩
   cases lov with
   | none =>
    obtain rfl := hnone rfl
    simp [Instr.sliceBounds]
   | some x => simp [Instr.sliceBounds, hrunA x rfl]
 | some y =>
  cases hiv with
  | none => exact hhi.elim
  | some v =>
   obtain ⟨h2, h3⟩ := bound_run (P := P) hhi hb hm
   refine ⟨hab, (by omega), (fun h => by cases h), (fun _ => h2), ?_⟩
   cases lov with
   | none =>
    obtain rfl := hnone rfl
    simp [Instr.sliceBounds, h3]
   | some x => simp [Instr.sliceBounds, h3, hrunA x rfl]
theorem lst_empty (z : Nat) (r : Room) (b off c : Nat) (hr : r.ok c) : VR s h w (.lst [] z r) (.slice (some ⟨b, off, none⟩) 0 c) :=
 .lst [] z r b off c (fun _ _ => .nilFunc) (fun h0 => by simp at h0) hr (Nat.zero_le _) (fun i x hx => by simp at hx) (fun i j x y hx => by simp at hx) (fun i j x y hx => by simp at hx)
theorem lst_cut {xs : List AV} {z sz a b b0 off : Nat} {r' : Room} {f : Nat -> Nat -> Value} (hI : 0 < xs.length -> s.I b0) (hz : ∀ (i : Nat) x, xs[i]? = some x -> x.cells.length = z)
  (hc : ∀ (i j : Nat) x y, xs[i]? = some x -> x.cells[j]? = some y -> w.cell? ⟨b0, off + i * z + j, none⟩ = some (f i j)) (hr : ∀ (i j : Nat) x y, xs[i]? = some x -> x.cells[j]? = some y -> VR s h w y (f i j))
  (hab : a <= b) (hb : b <= xs.length) (hsz : z = sz ∨ xs = []) (m : Nat) (hm : b <= m) (hroom : r'.ok (m - a)) :
  VR s h w (.lst ((xs.take b).drop a) z r') (.slice (some (if m = a then ⟨b0, off, none⟩ else (⟨b0, off, none⟩ : Addr).add (a * sz))) (b - a) (m - a)) := by
 by_cases he : b = a
 ·subst he
  have e : (xs.take b).drop b = [] := by apply List.drop_eq_nil_of_le; simp; omega
  rw [e, Nat.sub_self]
  split
  ·exact lst_empty _ _ _ _ _ hroom
  ·rw [addr_add]; exact lst_empty _ _ _ _ _ hroom
 ·have hlt : a < b := by omega
  have hne : xs ≠ [] := by rintro rfl; simp at hb; omega
  obtain rfl : z = sz := hsz.resolve_right hne
  rw [if_neg (by omega), addr_add]
  have hlen : ((xs.take b).drop a).length = b - a := by simp; omega
  have get : ∀ (i : Nat) x, ((xs.take b).drop a)[i]? = some x -> xs[a + i]? = some x := fun i x hx => by
   rw [List.getElem?_drop, List.getElem?_take] at hx
   split at hx
   ·exact hx
   ·cases hx
  have := VR.lst (s := s) (h := h) (w := w) ((xs.take b).drop a) z r' b0 (off + a * z) (m - a) (fun i j => f (a + i) j) (fun _ => hI (by omega)) hroom (by omega)
   (fun i x hx => hz _ x (get i x hx))
   (fun i j x y hx hy => by
    have := hc _ j x y (get i x hx) hy
    rw [Nat.add_mul, ← Nat.add_assoc] at this
    exact this)
   (fun i j x y hx hy => hr _ j x y (get i x hx) hy)
  rw [hlen] at this
  exact this
theorem slice_rel (TT : TabOk P C) (R : Rel s h w) {t : Nat} {a v : AV} {u : Value} {lo hi : Option AV} {lov hiv : Option Value} (ha : VR s h w a u) (hlo : VRo s h w lo lov) (hhi : VRo s h w hi hiv) (hv : sliceA C h t a lo hi none = some v) :
    PRun P s h w (Instr.sliceAt t u lov hiv none) v := by
  unfold sliceA at hv
  simp only [qAd] at hv
  replace hv := qAc.1 hv
  obtain ⟨ti, hti, hv⟩ := hv
  obtain ⟨d, hd, hok⟩ := (TT t ti hti).und
  generalize ti.td = td at hok hv
  split at hv
  ·
    rename_i l
    simp only [Option.isSome_none, qAb, if_false] at hv
    replace hv := qAc.1 hv
    obtain ⟨b, hb, hv⟩ := hv
    replace hv := qAc.1 hv
    obtain ⟨x, hx, hv⟩ := hv
    injection hv with hv; subst hv
    cases ha
    cases d <;> simp only [TD.ok] at hok
    have hsz : (⟨l.toArray⟩ : ByteArray).size = l.length := by simp [ByteArray.size]
    obtain ⟨h1, h2, _, _, h5⟩ := bounds_run (P := P) (isSlice := false) hlo hhi hb hx (qAr _) (qAr _)
    refine ⟨.string ⟨((l.take b).drop x).toArray⟩, ?_, .str _⟩
    simp only [Instr.sliceAt, Sem.run_bind, run_und hd, Result.andThen_ok, Instr.slice, Option.isSome_none, qAb, if_false, hsz, h5, Sem.run_pure]
    rw [Lib.extract_eq]
    simp [List.drop_take]
  ·
    rename_i e xs z r
    replace hv := qAc.1 hv
    obtain ⟨te, hte, hv⟩ := hv
    split at hv
    · cases hv
    · rename_i hz0
      have hz1 : z = te.size ∨ xs = [] := by
        simp only [qBh, Bool.or_eq_false_iff, not_and, Bool.not_eq_false, beq_eq_false_iff_ne, ne_eq] at hz0
        by_cases e1 : z = te.size
        · exact .inl e1
        · exact .inr (by simpa using hz0 e1)
      replace hv := qAc.1 hv
      obtain ⟨b, hb, hv⟩ := hv
      replace hv := qAc.1 hv
      obtain ⟨x, hx, hv⟩ := hv
      injection hv with hv
      cases d <;> simp only [TD.ok] at hok
      rw [hok] at hd
      cases ha with
      | lstNil =>
        obtain ⟨h1, h2, _, _, h5⟩ := bounds_run (P := P) (isSlice := true) hlo hhi hb hx (qAr _) (qAr _)
        have : b = 0 := by simpa using h2
        subst this
        have : x = 0 := by omega
        subst this
        simp only [List.take_zero, List.drop_nil] at hv
        subst hv
        simp only [List.length_nil] at h5
        refine ⟨.slice none 0 0, ?_, .lstNil _⟩
        simp only [Instr.sliceAt, Sem.run_bind, run_und hd, Result.andThen_ok, Instr.slice, h5, run_sizeA (TT _ _ hte), Sem.run_pure]
        rfl
      | lstEmpty _ A =>
        obtain ⟨h1, h2, _, _, h5⟩ := bounds_run (P := P) (isSlice := true) hlo hhi hb hx (qAr _) (qAr _)
        have : b = 0 := by simpa using h2
        subst this
        have : x = 0 := by omega
        subst this
        simp only [List.take_zero, List.drop_nil] at hv
        subst hv
        simp only [List.length_nil] at h5
        refine ⟨.slice (some A) 0 0, ?_, .lstEmpty _ A⟩
        simp only [Instr.sliceAt, Sem.run_bind, run_und hd, Result.andThen_ok, Instr.slice, h5, run_sizeA (TT _ _ hte), Sem.run_pure]
        rfl
      | lst _ _ _ b0 off c f hI hr hle hz hc hrr =>
        obtain ⟨h1, h2, h3, h4, h5⟩ := bounds_run (P := P) (isSlice := true) hlo hhi hb hx (Nat.le_trans (qAr _) hle) hle
        have hbl : b <= xs.length := by
          cases hi with
          | none => exact Nat.le_of_eq (h3 rfl)
          | some y => exact h4 (by simp)
        subst hv
        refine ⟨.slice (some (if c = x then ⟨b0, off, none⟩ else (⟨b0, off, none⟩ : Addr).add (x * te.size))) (b - x) (c - x), ?_, ?_⟩
        · simp only [Instr.sliceAt, Sem.run_bind, run_und hd, Result.andThen_ok, Instr.slice, h5, run_sizeA (TT _ _ hte), Sem.run_pure]
          congr 2
          split <;> rfl
        · refine lst_cut hI hz hc hrr h1 hbl hz1 c (by omega) ?_
          cases r with
          | nil => exact hr.elim
          | exact n =>
            have hr' : c = n := hr
            subst hr'
            rfl
          | «open» => trivial
  ·
    rename_i e o off len sz g cap
    replace hv := qAc.1 hv
    obtain ⟨cs, ho, hv⟩ := hv
    replace hv := qAc.1 hv
    obtain ⟨te, hte, hv⟩ := hv
    simp only [Option.isSome_none, Bool.false_or, bne_iff_ne, ne_eq, ite_not] at hv
    split at hv
    · rename_i hsz
      replace hv := qAc.1 hv
      obtain ⟨b, hb, hv⟩ := hv
      replace hv := qAc.1 hv
      obtain ⟨x, hx, hv⟩ := hv
      injection hv with hv; subst hv
      cases d <;> simp only [TD.ok] at hok
      rw [hok] at hd
      obtain ⟨hg, _, hlen⟩ := genOf_obj ho
      cases ha with
      | msl _ _ _ _ _ _ b0 c el n off' hoff h1 h2 h3 h4 h5 h6 h7 =>
        have hm : (match (generalizing := false) cap with | some c => c | none => if sz == 0 then len else (cs.length - off) / sz) <= c := by
          cases cap with
          | some m => exact Nat.le_of_eq (h4 m rfl).symm
          | none =>
            simp only
            split
            · exact h3
            · rename_i hs
              have hs' : 0 < sz := by have : ¬ sz = 0 := by simpa using hs
                                      omega
              have := h5 rfl
              rw [hlen] at this
              exact Nat.le_of_lt_succ ((Nat.div_lt_iff_lt_mul hs').2 (by rw [Nat.succ_mul]; omega))
        obtain ⟨e1, e2, e3, e4, e5⟩ := bounds_run (P := P) (isSlice := true) hlo hhi hb hx hm h3
        refine ⟨.slice (some (if c = x then ⟨b0, off', none⟩ else (⟨b0, off', none⟩ : Addr).add (x * te.size))) (b - x) (c - x), ?_, ?_⟩
        · simp only [Instr.sliceAt, Sem.run_bind, run_und hd, Result.andThen_ok, Instr.slice, e5, run_sizeA (TT _ _ hte), Sem.run_pure]
          congr 2
          split <;> rfl
        · have hcx : off + x * sz + (c - x) * sz = off + c * sz := by
            rw [Nat.add_assoc, ← Nat.add_mul, Nat.add_sub_cancel' (by omega : x <= c)]
          have mk : ∀ off'', (off'' = off + x * sz ∨ c - x = 0) -> VR s h w (.msl o (off + x * sz) (b - x) sz g (cap.map (· - x))) (.slice (some ⟨b0, off'', none⟩) (b - x) (c - x)) := fun off'' ho'' =>
            .msl _ _ _ _ _ _ b0 (c - x) el n off'' ho'' h1 h2 (by omega) (fun m hm' => by
              obtain ⟨m', hm1, hm2⟩ := qAl.1 hm'
              rw [h4 m' hm1, ← hm2]) (fun hn => by
              have : cap = none := by simpa using hn
              rw [hcx]; exact h5 this) h6 (by rw [hcx]; exact h7)
          split
          · rename_i hcc
            exact mk _ (.inr (by omega))
          · rw [addr_add]
            rcases hoff with hoff | hoff
            · exact mk _ (.inl (by rw [hoff, hsz]))
            · exact mk _ (.inr (by omega))
      | mslOld _ _ _ _ _ _ g' a n c h1 h2 => rw [hg] at h1; injection h1; omega
    · cases hv
  ·
    rename_i len e o off g
    simp only [Option.isSome_none, qAb, if_false] at hv
    replace hv := qAc.1 hv
    obtain ⟨cs, ho, hv⟩ := hv
    replace hv := qAc.1 hv
    obtain ⟨te, hte, hv⟩ := hv
    split at hv
    · cases hv
    rename_i hfit
    replace hv := qAc.1 hv
    obtain ⟨b, hb, hv⟩ := hv
    replace hv := qAc.1 hv
    obtain ⟨x, hx, hv⟩ := hv
    injection hv with hv; subst hv
    cases d <;> simp only [TD.ok] at hok
    obtain ⟨ea, eb⟩ := hok
    rw [ea, eb] at hd
    obtain ⟨hg, hobj, hlen⟩ := genOf_obj ho
    obtain ⟨e1, e2, e3, e4, e5⟩ := bounds_run (P := P) (isSlice := false) hlo hhi hb hx (qAr _) (qAr _)
    cases ha with
    | ptr _ _ _ b0 h1 h2 =>
      obtain ⟨y, hy, hyr⟩ := R.obj o b0 h2
      rw [hobj] at hy
      injection hy with hy; subst hy
      obtain ⟨bc, el, hbc, hbl, _⟩ := hyr
      have hcx : off + x * te.size + (len - x) * te.size = off + len * te.size := by
        rw [Nat.add_assoc, ← Nat.add_mul, Nat.add_sub_cancel' (by omega : x <= len)]
      refine ⟨.slice (some (if len = x then ⟨b0, off, none⟩ else (⟨b0, off, none⟩ : Addr).add (x * te.size))) (b - x) (len - x), ?_, ?_⟩
      · simp only [Instr.sliceAt, Sem.run_bind, run_und hd, Result.andThen_ok, Instr.sureAddr, e5, run_sizeA (TT _ _ hte), Sem.run_pure]
      · have mk : ∀ off'', (off'' = off + x * te.size ∨ len - x = 0) -> VR s h w (.msl o (off + x * te.size) (b - x) te.size g (some (len - x))) (.slice (some ⟨b0, off'', none⟩) (b - x) (len - x)) := fun off'' ho'' =>
          .msl _ _ _ _ _ _ b0 (len - x) el bc.size off'' ho'' h1 h2 (by omega) (fun m hm' => by injection hm') (fun hn => by cases hn) (by simp [World.shape?, hbc]) (by rw [hcx]; omega)
        split
        · exact mk _ (.inr (by omega))
        · rw [addr_add]; exact mk _ (.inl rfl)
    | ptrOld _ _ _ g' a h1 h2 => rw [hg] at h1; injection h1; omega
  ·
    rename_i len e cs
    simp only [Option.isSome_none, qAb, if_false] at hv
    replace hv := qAc.1 hv
    obtain ⟨te, hte, hv⟩ := hv
    split at hv
    · cases hv
    rename_i hfit
    simp only [Bool.or_eq_true, beq_iff_eq, decide_eq_true_eq, not_or, Nat.not_lt] at hfit
    obtain ⟨hfit0, hfit⟩ := hfit
    replace hv := qAc.1 hv
    obtain ⟨b, hb, hv⟩ := hv
    replace hv := qAc.1 hv
    obtain ⟨x, hx, hv⟩ := hv
    injection hv with hv; subst hv
    cases d <;> simp only [TD.ok] at hok
    obtain ⟨ea, eb⟩ := hok
    rw [ea, eb] at hd
    obtain ⟨e1, e2, e3, e4, e5⟩ := bounds_run (P := P) (isSlice := false) hlo hhi hb hx (qAr _) (qAr _)
    cases ha with
    | ref _ b0 off f hI hc hr =>
      refine ⟨.slice (some (if len = x then ⟨b0, off, none⟩ else (⟨b0, off, none⟩ : Addr).add (x * te.size))) (b - x) (len - x), ?_, ?_⟩
      · simp only [Instr.sliceAt, Sem.run_bind, run_und hd, Result.andThen_ok, Instr.sureAddr, e5, run_sizeA (TT _ _ hte), Sem.run_pure]
      · by_cases he : b = x
        · subst he
          rw [Nat.sub_self]
          simp only [group]
          split
          · exact lst_empty _ _ _ _ _ rfl
          · rw [addr_add]; exact lst_empty _ _ _ _ _ rfl
        · rw [if_neg (by omega), addr_add]
          refine lst_of_cells (cs := cs.drop (x * te.size)) (fun h0 => hI ?_) ?_ (fun i c hi => ?_) rfl (by omega)
          · have : 1 * 1 <= len * te.size := Nat.mul_le_mul (by omega) (by omega)
            omega
          · have : (b - x) * te.size + x * te.size <= len * te.size := by
              rw [← Nat.add_mul]; exact Nat.mul_le_mul_right _ (by omega)
            simp; omega
          · rw [List.getElem?_drop] at hi
            exact ⟨_, by rw [Nat.add_assoc]; exact hc _ c hi, hr _ c hi⟩
  · cases hv
end
end Go.Rv
namespace Go.Rv
section
variable {P : Program} {C : Cfg} {s : Sim} {h : Heap} {w : World}
theorem flat_get {z : Nat} : ∀ (xs : List AV), (∀ (i : Nat) x, xs[i]? = some x -> x.cells.length = z) -> ∀ (k : Nat) (y : AV), (xs.map AV.cells).flatten[k]? = some y -> ∃ i j x, xs[i]? = some x /\ x.cells[j]? = some y /\ k = i * z + j
 | [], _, k, y, hk => by simp at hk
 | x :: xs, hz, k, y, hk => by
  simp only [qAm, List.flatten_cons] at hk
  have hx := hz 0 x rfl
  rw [List.getElem?_append] at hk
  split at hk
  ·exact ⟨0, k, x, rfl, hk, by omega⟩
  ·rename_i hlt
   obtain ⟨i, j, x', h1, h2, h3⟩ := flat_get xs (fun i x hi => hz (i + 1) x (by simpa using hi)) _ y hk
   exact ⟨i + 1, j, x', by simpa using h1, h2, by rw [Nat.succ_mul]; omega⟩
theorem flat_length {z : Nat} : ∀ (xs : List AV), (∀ (i : Nat) x, xs[i]? = some x -> x.cells.length = z) -> (xs.map AV.cells).flatten.length = xs.length * z
 | [], _ => by simp
 | x :: xs, hz => by
  have hx := hz 0 x rfl
  have := flat_length xs (fun i x hi => hz (i + 1) x (by simpa using hi))
  simp only [qAm, List.flatten_cons, qBb, qAv, Nat.succ_mul]
  omega
theorem elems_reads (R : Rel s h w) {y : AV} {u : Value} {ys : List AV} (hy : VR s h w y u) (he : elems h y = some ys) :
  ∃ A c, u = .slice A ys.length c /\ (0 < ys.length -> ∃ b off, A = some ⟨b, off, none⟩ /\ Reads s h w b off (ys.map AV.cells).flatten) := by
 cases y <;> simp only [elems, reduceCtorEq, qAf] at he
 case lst xs z r =>
  subst he
  cases hy with
  | lstNil => exact ⟨none, 0, rfl, fun h0 => by simp at h0⟩
  | lstEmpty _ A => exact ⟨some A, 0, rfl, fun h0 => by simp at h0⟩
  | lst _ _ _ b off c f hI hr hle hz hc hrr =>
   refine ⟨_, c, rfl, fun h0 => ⟨b, off, rfl, fun k x hk => ?_⟩⟩
   obtain ⟨i, j, x', h1, h2, h3⟩ := flat_get xs hz k x hk
   subst h3
   exact ⟨f i j, by rw [← Nat.add_assoc]; exact hc i j x' x h1 h2, hrr i j x' x h1 h2⟩
 case msl o off len sz g cap =>
  simp only [qAd] at he
  replace he := qAc.1 he
  obtain ⟨cs, ho, he⟩ := he
  split at he
  ·rename_i hle
   injection he with he; subst he
   obtain ⟨hg, hobj, hlen⟩ := genOf_obj ho
   cases hy with
   | msl _ _ _ _ _ _ b c el n off' hoff h1 h2 h3 h4 h5 h6 h7 =>
    refine ⟨some ⟨b, off', none⟩, c, by rw [group_length], fun h0 => ?_⟩
    rw [group_length] at h0
    obtain rfl : off' = off := hoff.resolve_right (by omega)
    refine ⟨b, off', rfl, ?_⟩
    rw [group_flat _ _ _ (by simp; omega)]
    have := ((obj_reads R ho h2).drop off').take (len * sz)
    simpa using this
   | mslOld _ _ _ _ _ _ g' a n c h1 h2 => rw [hg] at h1; injection h1; omega
  ·cases he
theorem append_none {t el : TypeId} (hd : P.underlying t = some (.slice el)) {te : TI} (T : TyOk P el te) {A A' : Option Addr} {n c c' : Nat} (hle : n <= c) (ty : TypeId) :
  (Builtin.append_ #[t, t] ty #[.slice A n c, .slice A' 0 c']).run P w = .ok (.slice A n c) w := by
 have hf : (Builtin.firstCells te.size 0 (.slice A' 0 c')).run P w = .ok #[] w := by
  cases A' with
  | none => simp [Builtin.firstCells]
  | some a => exact run_firstCells_some w te.size 0 a 0 c' [] (by simp) (fun j v hj => by simp at hj)
 simp only [Builtin.append_, List.getElem?_toArray]
 simp only [qBe, List.getElem?_cons_succ, Sem.run_bind, run_und hd, Result.andThen_ok, run_sizeA T, Sem.run_pure, qAb, if_false, Builtin.lenOf, Nat.add_zero, hle, if_true, Bool.not_false, hf]
 cases A with
 | none => rfl
 | some a => rfl
theorem append_fit {t el : TypeId} (hd : P.underlying t = some (.slice el)) {te : TI} (T : TyOk P el te) {a a' : Addr} {len c n c' : Nat} {news : List Value} (hl : news.length = n * te.size)
  (hn : ∀ j v, news[j]? = some v -> w.cell? (a'.add j) = some v) (hle : len + n <= c) {w' : World} (hst : (storeCells (a.add (len * te.size)) news 0).run P w = .ok () w') (ty : TypeId) :
  (Builtin.append_ #[t, t] ty #[.slice (some a) len c, .slice (some a') n c']).run P w = .ok (.slice (some a) (len + n) c) w' := by
 have hf := run_firstCells_some (P := P) w te.size n a' n c' news hl hn
 simp only [Builtin.append_, List.getElem?_toArray]
 simp only [qBe, List.getElem?_cons_succ, Sem.run_bind, run_und hd, Result.andThen_ok, run_sizeA T, Sem.run_pure, qAb, if_false, Builtin.lenOf, hle, if_true, Bool.not_false, hf, hst]
theorem zeroCells_size (z : Array Value) (n : Nat) : (Builtin.zeroCells z n).size = n * z.size := by simp [Builtin.zeroCells]
theorem grown_le {w : World} {need old : Nat} {e : TypeId} : need <= grownCap w need old e := by simp [grownCap, Question.cut]
theorem append_grow {t el : TypeId} (hd : P.underlying t = some (.slice el)) {te : TI} (T : TyOk P el te) {A : Option Addr} {a' : Addr} {len c n c' : Nat} {olds news : List Value}
  (hA : (A = none /\ len = 0 /\ c = 0 /\ olds = []) ∨ ∃ a, A = some a /\ olds.length = len * te.size /\ ∀ j v, olds[j]? = some v -> w.cell? (a.add j) = some v)
  (hl : news.length = n * te.size) (hn : ∀ j v, news[j]? = some v -> w.cell? (a'.add j) = some v) (hg : c < len + n) (hm : len + n <= mostLen) (ty : TypeId) :
  ∃ cap rest, len + n <= cap /\ (olds.toArray ++ news.toArray ++ rest).size = cap * te.size /\
   (Builtin.append_ #[t, t] ty #[.slice A len c, .slice (some a') n c']).run P w = .ok (.slice (some ⟨w.heap.size, 0, none⟩) (len + n) cap) (w.drew.alloc (.cells (olds.toArray ++ news.toArray ++ rest) el)) := by
 obtain ⟨i, z, h1, h2, h3, h4, h5, _⟩ := T.info
 have hzs : z.cells.size = te.size := by rw [h5, T.zsize]
 simp only [mostLen] at hm
 have hb : Builtin.nextslicecap (len + n) c * i.bytes <= 281474976710656 := by
  have e1 := nextslicecap_le hg
  have e2 := T.small
  calc Builtin.nextslicecap (len + n) c * i.bytes <= (2 * (len + n)) * 4096 := Nat.mul_le_mul e1 (by omega)
   _ <= 281474976710656 := by omega
 have hsz : ∀ cap, len + n <= cap -> olds.length + news.length + (cap - (len + n)) * te.size = cap * te.size := by
  intro cap hc
  have ho : olds.length = len * te.size := by
   rcases hA with ⟨_, rfl, _, rfl⟩ | ⟨a, _, ho, _⟩
   ·simp
   ·exact ho
  rw [ho, hl, ← Nat.add_mul, ← Nat.add_mul, Nat.add_sub_cancel' hc]
 rcases hA with ⟨rfl, rfl, rfl, rfl⟩ | ⟨a, rfl, ho, hor⟩
 ·have hrun := run_append_nil (P := P) w t ty el i z hd h1 h4 a' n c' news (by rw [h2]; exact hl) hn (by omega) (by omega) (by
   rw [nextslicecap_zero (by omega)] at hb; simpa using hb)
  refine ⟨grownCap w n 0 el, Builtin.zeroCells z.cells (grownCap w n 0 el - n), by simpa using grown_le, ?_, ?_⟩
  ·have := hsz (grownCap w n 0 el) (by simpa using grown_le)
   simp only [Array.size_append, List.size_toArray, zeroCells_size, hzs]
   simpa using this
  ·simpa using hrun
 ·have hrun := run_append_grow (P := P) w t ty el i z hd h1 h4 a len c olds (by rw [h2]; exact ho) hor a' n c' news (by rw [h2]; exact hl) hn hg (by omega) hb
  refine ⟨grownCap w (len + n) c el, Builtin.zeroCells z.cells (grownCap w (len + n) c el - (len + n)), grown_le, ?_, hrun⟩
  have := hsz (grownCap w (len + n) c el) grown_le
  simp only [Array.size_append, List.size_toArray, zeroCells_size, hzs]
  exact this
theorem append_new (R : Rel s h w) {t el : TypeId} (hd : P.underlying t = some (.slice el)) {te : TI} (T : TyOk P el te) {A : Option Addr} {a' : Addr} {len c n c' : Nat} {olds news : List Value} {os ns : List AV}
  (hA : (A = none /\ len = 0 /\ c = 0 /\ olds = []) ∨ ∃ a, A = some a /\ olds.length = len * te.size /\ ∀ j v, olds[j]? = some v -> w.cell? (a.add j) = some v)
  (hl : news.length = n * te.size) (hn : ∀ j v, news[j]? = some v -> w.cell? (a'.add j) = some v) (hg : c < len + n) (hm : len + n <= mostLen) (ty : TypeId)
  (ho : VRs s h w os olds) (hns : VRs s h w ns news) :
  HRun P s h w (Builtin.append_ #[t, t] ty #[.slice A len c, .slice (some a') n c']) (.msl h.length 0 (len + n) te.size 0 none) (h ++ [.cells (os ++ ns) 0]) := by
 obtain ⟨cap, rest, h1, h2, h3⟩ := append_grow (P := P) hd T hA hl hn hg hm ty
 have R1 : Rel s h w.drew := R.draw _
 have E1 : Ext s h w s h w.drew := Ext.draw s h w _
 have hall := (ho.append hns).ext R.apart E1
 have key := new_cells R1 (cs := os ++ ns) (vs := olds.toArray ++ news.toArray ++ rest) el (by have := hall.1; simp at this ⊢; omega) (fun i x hi => by
  obtain ⟨v, hv, hr⟩ := hall.2 i x hi
  refine ⟨v, ?_, hr⟩
  have hlt := (qAu.1 hv).1
  rw [Array.getElem?_append_left (by simpa using hlt)]
  simpa using hv)
 refine ⟨_, _, _, h3, E1.trans key.1, key.2, ?_⟩
 have hlen : (os ++ ns).length = (len + n) * te.size := by
  have e1 := ho.1
  have e2 := hns.1
  have e3 : olds.length = len * te.size := by
   rcases hA with ⟨_, rfl, _, rfl⟩ | ⟨a, _, ho', _⟩
   ·simp
   ·exact ho'
  simp only [qBb]
  rw [e1, e2, e3, hl, Nat.add_mul]
 refine .msl _ _ _ _ _ _ w.drew.heap.size cap el (cap * te.size) 0 (.inl rfl) (by rw [genOf_new]) (by simp [Sim.add]) h1 (fun m hm => by cases hm) (fun _ => ?_) ?_ (by omega)
 ·rw [lenOf_new, hlen]
  have := Nat.mul_le_mul_right te.size h1
  omega
 ·simp only [World.shape?, heap_alloc_at, h2]
theorem append_rel (TT : TabOk P C) (R : Rel s h w) {t el : TypeId} (hd : P.underlying t = some (.slice el)) {te : TI} (hte : C.ty el = some te) {sv yv v : AV} {us uy : Value} {ys : List AV} {h' : Heap}
    (hs : VR s h w sv us) (hy : VR s h w yv uy) (he : elems h yv = some ys) (ha : appendA h te.size sv ys = some (v, h')) (ty : TypeId) :
    HRun P s h w (Builtin.append_ #[t, t] ty #[us, uy]) v h' := by
  have T := TT el te hte
  obtain ⟨A', c', rfl, hread⟩ := elems_reads R hy he
  unfold appendA at ha
  simp only at ha
  split at ha
  · cases ha
  rename_i hc0
  simp only [Bool.or_eq_true, bne_iff_ne, ne_eq, qBh, beq_iff_eq, not_or, Decidable.not_not, Bool.not_eq_false] at hc0
  obtain ⟨⟨hcl, hleaf⟩, hsz0⟩ := hc0
  have hnew : ∀ (hne : 0 < ys.length), ∃ a' news, A' = some a' /\ news.length = ys.length * te.size /\ (∀ j v, news[j]? = some v -> w.cell? (a'.add j) = some v) /\ VRs s h w (ys.map AV.cells).flatten news := by
    intro hne
    obtain ⟨b, off, rfl, hr⟩ := hread hne
    obtain ⟨vs, h1, h2, h3⟩ := reads_list hr
    refine ⟨_, vs, rfl, by rw [h1, hcl], fun j v hj => by rw [addr_add]; exact h2 j v hj, h1.symm, fun i c hi => ?_⟩
    have hlt : i < vs.length := by rw [h1]; exact (qAu.1 hi).1
    refine ⟨vs[i], qAs hlt, ?_⟩
    have := h3 i c hi
    simpa [hlt] using this
  cases sv <;> simp only [reduceCtorEq] at ha
  case lst xs z r =>
    by_cases hye : ys = []
    · subst hye
      simp only [List.isEmpty_nil, if_true, qAf, qAg] at ha
      obtain ⟨rfl, rfl⟩ := ha
      obtain ⟨A, n, c, rfl, hle⟩ : ∃ A n c, us = .slice A n c /\ n <= c := by
        cases hs with
        | lstNil => exact ⟨_, _, _, rfl, qAr _⟩
        | lstEmpty => exact ⟨_, _, _, rfl, qAr _⟩
        | lst _ _ _ b off c f h1 h2 h3 => exact ⟨_, _, _, rfl, h3⟩
      exact ⟨s, w, _, append_none hd T hle ty, Ext.refl _ _ _, R, hs⟩
    · have hne : 0 < ys.length := List.length_pos_iff.2 hye
      have hie : ys.isEmpty = false := by simpa using hye
      obtain ⟨a', news, rfl, hl, hn, hns⟩ := hnew hne
      simp only [hie, qAb, if_false] at ha
      split at ha
      · rename_i hc
        simp only [qAa, decide_eq_true_eq, Bool.or_eq_true, beq_iff_eq] at hc
        obtain ⟨⟨hfull, hz⟩, hm⟩ := hc
        simp only [qAf, qAg] at ha
        obtain ⟨rfl, rfl⟩ := ha
        cases hs with
        | lstNil =>
          have := append_new (P := P) R hd T (A := none) (a' := a') (len := 0) (c := 0) (n := ys.length) (c' := c') (olds := []) (os := []) (.inl ⟨rfl, rfl, rfl, rfl⟩) hl hn (by omega) (by simpa using hm) ty VRs.nil hns
          simpa using this
        | lstEmpty _ A =>
          have := append_new (P := P) R hd T (A := some A) (a' := a') (len := 0) (c := 0) (n := ys.length) (c' := c') (olds := []) (os := []) (.inr ⟨_, rfl, by simp, fun j v hj => by simp at hj⟩) hl hn (by omega) (by simpa using hm) ty VRs.nil hns
          simpa using this
        | lst _ _ _ b off c f hI hr hle hzc hcell hrr =>
          have hcx : xs.length = c := by
            cases r with
            | nil => exact hr.elim
            | exact m => have hr' : c = m := hr
                         rw [hr']; simpa [Room.full] using hfull
            | «open» => simp [Room.full] at hfull
          have hread : Reads s h w b off (xs.map AV.cells).flatten := fun k x hk => by
            obtain ⟨i, j, x', e1, e2, e3⟩ := flat_get xs hzc k x hk
            subst e3
            exact ⟨f i j, by rw [← Nat.add_assoc]; exact hcell i j x' x e1 e2, hrr i j x' x e1 e2⟩
          obtain ⟨vs, g1, g2, g3⟩ := reads_list hread
          have hlen : (xs.map AV.cells).flatten.length = xs.length * te.size := by
            rcases hz with rfl | hz
            · exact flat_length xs hzc
            · have : xs = [] := by simpa using hz
              subst this; simp
          exact append_new (P := P) R hd T (a' := a') (len := xs.length) (c := c) (n := ys.length) (c' := c') (olds := vs) (.inr ⟨_, rfl, by rw [g1, hlen], fun j v hj => by rw [addr_add]; exact g2 j v hj⟩) hl hn (by omega) hm ty
            ⟨g1.symm, fun i c hi => by
              have hlt : i < vs.length := by rw [g1]; exact (qAu.1 hi).1
              refine ⟨vs[i], qAs hlt, ?_⟩
              have := g3 i c hi
              simpa [hlt] using this⟩ hns
      · cases ha
  case msl o off len sz' g cap =>
    simp only [qAd] at ha
    replace ha := qAc.1 ha
    obtain ⟨cs, ho, ha⟩ := ha
    obtain ⟨hg, hobj, hlen⟩ := genOf_obj ho
    split at ha
    · cases ha
    rename_i hsz'
    obtain rfl : sz' = te.size := by simpa using hsz'
    have hsrc := hs
    cases hs with
    | mslOld _ _ _ _ _ _ g' a n c h1 h2 => rw [hg] at h1; injection h1; omega
    | msl _ _ _ _ _ _ b c el' nb off' hoff h1 h2 h3 h4 h5 h6 h7 =>
      by_cases hye : ys = []
      · subst hye
        simp only [List.isEmpty_nil, if_true, qAf, qAg] at ha
        obtain ⟨rfl, rfl⟩ := ha
        exact ⟨s, w, _, append_none hd T h3 ty, Ext.refl _ _ _, R, hsrc⟩
      · have hne : 0 < ys.length := List.length_pos_iff.2 hye
        have hie : ys.isEmpty = false := by simpa using hye
        obtain ⟨a', news, rfl, hl, hn, hns⟩ := hnew hne
        simp only [hie, qAb, if_false] at ha
        have hone := all_one hns (by simpa using hleaf)
        obtain ⟨x, hx, hxr⟩ := R.obj o b h2
        rw [hobj] at hx
        injection hx with hx; subst hx
        obtain ⟨bc, el0, hheap, hbl, hbcell⟩ := hxr
        have hnb : nb = bc.size := by simp [World.shape?, hheap] at h6; omega
        split at ha
        ·
          rename_i hc
          simp only [qAa, decide_eq_true_eq] at hc
          obtain ⟨hfit, hcap⟩ := hc
          simp only [qAf, qAg] at ha
          obtain ⟨rfl, rfl⟩ := ha
          rw [hcl] at hfit
          have hle : len + ys.length <= c := by
            cases cap with
            | some m => rw [h4 m rfl]; simpa [capOk] using hcap
            | none =>
              have := h5 rfl
              rw [hlen] at this
              have : (len + ys.length) * te.size <= c * te.size := by rw [Nat.add_mul]; omega
              exact Nat.le_of_mul_le_mul_right this (by omega)
          obtain rfl : off' = off := hoff.resolve_right (by omega)
          obtain ⟨w', hrun, E, R'⟩ := store_cells (P := P) R h2 ho (off := off' + len * te.size) (by rw [hcl]; omega) hns hone 0
          refine ⟨s, w', _, append_fit hd T hl hn hle (by rw [addr_add]; exact hrun _ rfl) ty, E, R', ?_⟩
          have hlt : o < h.length := (qAu.1 hobj).1
          refine .msl _ _ _ _ _ _ b c el' nb off' (.inl rfl) (by rw [genOf_set (g := g)]; simp [hlt]) h2 hle h4 (fun hc => ?_) (E.shape _ _ h6) h7
          have e1 := h5 hc
          rw [hlen] at e1
          unfold lenOf
          rw [qAz hlt]
          simp only [setCells_length]
          exact e1
        · split at ha
          ·
            rename_i hc
            simp only [qAa, decide_eq_true_eq, beq_iff_eq] at hc
            obtain ⟨⟨hat, rfl⟩, hm⟩ := hc
            have hcs : cs.length = len * te.size := by omega
            have hoff0 : off' = 0 ∨ c = 0 := hoff
            obtain ⟨olds, g1, g2, g3⟩ := reads_list (obj_reads R ho h2)
            have hVold : VRs s h w cs olds := ⟨g1.symm, fun i c hi => by
              have hlt : i < olds.length := by rw [g1]; exact (qAu.1 hi).1
              refine ⟨olds[i], qAs hlt, ?_⟩
              have := g3 i c hi
              simpa [hlt] using this⟩
            have hAold : (some (⟨b, off', none⟩ : Addr) = none /\ len = 0 /\ c = 0 /\ olds = []) ∨ ∃ a, some (⟨b, off', none⟩ : Addr) = some a /\ olds.length = len * te.size /\ ∀ j v, olds[j]? = some v -> w.cell? (a.add j) = some v := by
              refine .inr ⟨_, rfl, by rw [g1, hcs], fun j v hj => ?_⟩
              rcases hoff0 with rfl | h0
              · rw [addr_add]; exact g2 j v hj
              · have : len = 0 := by omega
                subst this
                have : olds = [] := by rw [← List.length_eq_zero_iff, g1, hcs]; simp
                subst this
                simp at hj
            cases cap with
            | some m =>
              simp only [growA] at ha
              split at ha
              · rename_i hlm
                simp only [qAf, qAg] at ha
                obtain ⟨rfl, rfl⟩ := ha
                have hcm := h4 m rfl
                have : len = m := by simpa using hlm
                exact append_new (P := P) R hd T hAold hl hn (by omega) hm ty hVold hns
              · cases ha
            | none =>
              simp only [growA, qAf, qAg] at ha
              obtain ⟨rfl, rfl⟩ := ha
              have hlt : o < h.length := (qAu.1 hobj).1
              have hnl : ((ys.map AV.cells).flatten).length = ys.length * te.size := hcl
              have hres : ∀ (w' : World) (b' cap' n' : Nat), (h.set o (.cells (cs ++ (ys.map AV.cells).flatten) (g + 1))).length = h.length -> len + ys.length <= cap' -> w'.shape? b' = some (el, n') ∨ (∃ e, w'.shape? b' = some (e, n')) -> cap' * te.size <= n' ->
                  VR (s.add o b') (h.set o (.cells (cs ++ (ys.map AV.cells).flatten) (g + 1))) w' (.msl o 0 (len + ys.length) te.size (g + 1) none) (.slice (some ⟨b', 0, none⟩) (len + ys.length) cap') := by
                intro w' b' cap' n' _ hle hsh hn'
                obtain ⟨e, hsh⟩ : ∃ e, w'.shape? b' = some (e, n') := by
                  rcases hsh with hsh | hsh
                  · exact ⟨_, hsh⟩
                  · exact hsh
                refine .msl _ _ _ _ _ _ b' cap' e n' 0 (.inl rfl) (by rw [genOf_set (g := g)]; simp [hlt]) (by simp [Sim.add]) hle (fun m hm => by cases hm) (fun _ => ?_) hsh (by omega)
                unfold lenOf
                rw [qAz hlt]
                simp only [qBb, hnl, hcs]
                rw [← Nat.add_mul]
                have := Nat.mul_le_mul_right te.size hle
                omega
              by_cases hle : len + ys.length <= c
              ·
                obtain rfl : off' = 0 := hoff0.resolve_right (by omega)
                have hroom : (len + ys.length) * te.size <= bc.size := by
                  have := Nat.mul_le_mul_right te.size hle
                  omega
                rw [Nat.add_mul] at hroom
                have hstore := run_storeCells_at (P := P) b (len * te.size) el0 news 0 bc w hheap (by omega) hone
                have hW := Wrote.row hheap (bc.toList.take (len * te.size + 0) ++ news ++ bc.toList.drop (len * te.size + 0 + news.length)).toArray (by simp; omega)
                have key := write_cells R (b' := b) (g' := g + 1) (cs' := cs ++ (ys.map AV.cells).flatten) (w' := w.setRow b (bc.toList.take (len * te.size + 0) ++ news ++ bc.toList.drop (len * te.size + 0 + news.length)).toArray) (bc' := (bc.toList.take (len * te.size + 0) ++ news ++ bc.toList.drop (len * te.size + 0 + news.length)).toArray) (el := el0) h2 hobj (by omega) (fun e => by omega) (.inl rfl)
                  hW (setRow_heap w b bc _ el0 (0, 0) hheap) (by simp only [qBb, hnl, hcs]; simp; omega) (fun i x hi => by
                    simp only [List.getElem?_toArray]
                    rw [List.getElem?_append] at hi
                    split at hi
                    · rename_i hil
                      obtain ⟨v, hv, hvr⟩ := hbcell i x hi
                      refine ⟨v, ?_, hvr⟩
                      rw [List.append_assoc, qAx (by simp; omega), qBa (by omega)]
                      simpa using hv
                    · rename_i hil
                      obtain ⟨v, hv, hvr⟩ := hns.2 _ x hi
                      refine ⟨v, ?_, hvr⟩
                      have hvl := (qAu.1 hv).1
                      rw [List.append_assoc, qAy (by simp; omega), qAx (by simp; omega)]
                      simp only [List.length_take, Array.length_toList, Nat.add_zero, Nat.min_eq_left (show len * te.size <= bc.size by omega)]
                      rw [hcs] at hv
                      exact hv)
                refine ⟨_, _, _, append_fit hd T hl hn hle (by rw [addr_add, qBg]; exact hstore) ty, key.1, key.2, ?_⟩
                exact hres _ b c nb (by simp) hle (.inr ⟨_, hW.shape _ _ h6⟩) (by omega)
              ·
                obtain ⟨cap', rest, k1, k2, k3⟩ := append_grow (P := P) hd T hAold hl hn (by omega) hm ty
                have hW : Wrote w (w.drew.alloc (.cells (olds.toArray ++ news.toArray ++ rest) el)) b := by
                  refine ⟨by rw [size_alloc]; show w.heap.size <= w.heap.size + 1; omega, fun k hk _ => heap_alloc_lt w.drew _ hk, fun k x hx => ?_, rfl, rfl, rfl⟩
                  rw [shape_of (w := w) (w' := w.drew.alloc (.cells (olds.toArray ++ news.toArray ++ rest) el)) (heap_alloc_lt w.drew _ (shape_lt hx))]
                  exact hx
                have key := write_cells R (b' := w.heap.size) (g' := g + 1) (cs' := cs ++ (ys.map AV.cells).flatten) (w' := w.drew.alloc (.cells (olds.toArray ++ news.toArray ++ rest) el)) (bc' := olds.toArray ++ news.toArray ++ rest) (el := el) h2 hobj (by omega) (fun e => by omega) (.inr ⟨by omega, qAr _⟩)
                  hW (heap_alloc_at w.drew _) (by rw [k2]; simp only [qBb, hnl, hcs]; rw [← Nat.add_mul]; exact Nat.mul_le_mul_right _ k1) (fun i x hi => by
                    have hall := hVold.append hns
                    obtain ⟨v, hv, hvr⟩ := hall.2 i x hi
                    refine ⟨v, ?_, hvr⟩
                    have hlt' := (qAu.1 hv).1
                    rw [Array.getElem?_append_left (by simpa using hlt')]
                    simpa using hv)
                refine ⟨_, _, _, k3, key.1, key.2, ?_⟩
                exact hres _ w.heap.size cap' (cap' * te.size) (by simp) k1 (.inl (by
                  have := heap_alloc_at w.drew (.cells (olds.toArray ++ news.toArray ++ rest) el)
                  simp only [World.shape?]
                  rw [show w.heap.size = w.drew.heap.size from rfl, this]
                  simp only [k2])) (qAr _)
          · cases ha
theorem run_append_make {t t' ty e : TypeId} {i : TypeInfo} {z : Value} {q : IntKind} (ht : P.underlying t = some (.slice e)) (ht' : P.underlying t' = some (.int q)) (hi : P.info? e = some i) (hz : i.zero = some z) (hzs : i.size ≠ 0)
  (n : Nat) (h0 : 0 < n) (h63 : (n : Int) <= 9223372036854775807) (h48 : n * i.bytes <= 281474976710656) (w : World) :
  (Builtin.append_ #[t, t'] ty #[.slice none 0 0, .int .i64 n]).run P w =
   .ok (.slice (some ⟨w.heap.size, 0, none⟩) n (grownCap w n 0 e)) (w.drew.alloc (.cells (Builtin.zeroCells z.cells n ++ Builtin.zeroCells z.cells (grownCap w n 0 e - n)) e)) := by
 have hn : n ≠ 0 := by omega
 have h63' : ¬ (9223372036854775807 < (n : Int)) := by omega
 have h48' : ¬ (281474976710656 < Builtin.nextslicecap n 0 * i.bytes) := by rw [nextslicecap_zero h0]; omega
 have hw : IntKind.i64.wrap (n : Int) = n := by rw [IntKind.wrap_i64]; omega
 have hneg : ¬ ((n : Int) < 0) := by omega
 have h48i : ¬ (281474976710656 < (n : Int) * i.bytes) := by
  have : ((n * i.bytes : Nat) : Int) <= 281474976710656 := Int.ofNat_le.2 h48
  rw [Int.natCast_mul] at this
  omega
 simp [Builtin.append_, run_underlying ht, run_underlying ht', sizeOf, typeInfo, zeroValue, hi, hz, asInt, asIntOf, hw, hneg, h48i, hn, h63', h48', Question.forced, run_firstCells_none, newRow, grownCap]
 intro h
 rcases Nat.mul_eq_zero.1 h with h | h
 ·omega
 ·exact absurd h hzs
theorem appendZ_rel (TT : TabOk P C) (R : Rel s h w) {t t' : Nat} {sv yv v : AV} {us uy : Value} {h' : Heap} (hs : VR s h w sv us) (hy : VR s h w yv uy) (ha : appendZ C h t t' sv yv = some (v, h')) (ty : TypeId) : HRun P s h w (Builtin.append_ #[t, t'] ty #[us, uy]) v h' := by
 unfold appendZ at ha
 simp only [qAd] at ha
 replace ha := qAc.1 ha
 obtain ⟨ti, hti, ha⟩ := ha
 replace ha := qAc.1 ha
 obtain ⟨ti', hti', ha⟩ := ha
 obtain ⟨d, hd, hok⟩ := (TT t ti hti).und
 obtain ⟨d', hd', hok'⟩ := (TT t' ti' hti').und
 generalize ti.td = td at hok ha
 generalize ti'.td = td' at hok' ha
 split at ha
 ·rename_i e q z0 n
  obtain rfl : us = .slice none 0 0 := by
   cases hs with
   | lstNil => rfl
   | lst _ _ _ b off c f hI hr => exact hr.elim
  cases hy
  replace ha := qAc.1 ha
  obtain ⟨te, hte, ha⟩ := ha
  split at ha
  ·rename_i hc
   simp only [qAa, decide_eq_true_eq, beq_iff_eq, bne_iff_ne, ne_eq] at hc
   obtain ⟨⟨⟨hn0, hnm⟩, hzl⟩, hsz⟩ := hc
   simp only [qAf, qAg] at ha
   obtain ⟨rfl, rfl⟩ := ha
   cases d <;> simp only [TD.ok] at hok
   cases d' <;> simp only [TD.ok] at hok'
   rw [hok] at hd
   obtain ⟨m, rfl⟩ : ∃ m : Nat, n = m := ⟨n.toNat, by omega⟩
   have T := TT e te hte
   obtain ⟨i, z, h1, h2, h3, h4, h5, h6⟩ := T.info
   obtain ⟨z', hz1, hz2⟩ := zero_rel (P := P) (s := s) (h := h) (w := w) T
   have hzz : z' = z := by
    have := hz1 w
    simp [zeroValue, typeInfo, h1, h4] at this
    exact this.symm
   subst hzz
   simp only [mostLen] at hnm
   have hzs : z'.cells.size = te.size := by rw [h5, T.zsize]
   have hrun := run_append_make (P := P) (ty := ty) hd hd' h1 h4 (by rw [h2]; exact hsz) m (by omega) (by omega) (by
    have e2 := T.small
    calc m * i.bytes <= 4294967296 * 4096 := Nat.mul_le_mul (by omega) (by omega)
     _ <= 281474976710656 := by omega) w
   have R1 : Rel s h w.drew := R.draw _
   have E1 : Ext s h w s h w.drew := Ext.draw s h w _
   have hzr := (zeros_rel hz2 m).ext R.apart E1
   rw [hzs] at hzr
   have hcs : ((Builtin.zeroCells z'.cells m ++ Builtin.zeroCells z'.cells (grownCap w m 0 e - m))).size = grownCap w m 0 e * te.size := by
    have hle : m <= grownCap w m 0 e := by simp [grownCap, Question.cut]
    simp only [Array.size_append, zeroCells_size, hzs]
    rw [← Nat.add_mul, Nat.add_sub_cancel' hle]
   have key := new_cells R1 (cs := copies m te.zero) (vs := Builtin.zeroCells z'.cells m ++ Builtin.zeroCells z'.cells (grownCap w m 0 e - m)) e (by
     simp only [Array.size_append, zeroCells_size, hzs, copies_length, T.zsize]; omega) (fun k x hk => by
    obtain ⟨v, hv, hr⟩ := hzr.2 k x hk
    refine ⟨v, ?_, hr⟩
    have hlt : k < m * te.size := by
     have := (qAu.1 hk).1
     rw [copies_length, T.zsize] at this; exact this
    rw [Array.getElem?_append_left (by rw [zeroCells_size, hzs]; exact hlt)]
    unfold Builtin.zeroCells
    rw [← Array.getElem?_toList, hzs]
    exact hv)
   refine ⟨_, _, _, hrun, E1.trans key.1, key.2, .msl _ _ _ _ _ _ w.drew.heap.size (grownCap w m 0 e) e (grownCap w m 0 e * te.size) 0 (.inl rfl) (by rw [genOf_new]) (by simp [Sim.add]) (by simp [grownCap, Question.cut]) (fun m hm => by cases hm) (fun _ => ?_) ?_ (by omega)⟩
   ·rw [lenOf_new, copies_length, T.zsize, Int.toNat_natCast]
    have hle : m <= grownCap w m 0 e := by simp [grownCap, Question.cut]
    have := Nat.mul_le_mul_right te.size hle
    omega
   ·simp only [World.shape?, heap_alloc_at]
    rw [hcs]
  ·cases ha
 ·cases ha
theorem makeSlice_rel (TT : TabOk P C) (R : Rel s h w) {t : Nat} {l c v : AV} {ul uc : Value} {h' : Heap} (hl : VR s h w l ul) (hc : VR s h w c uc) (hv : makeSliceA C h t l c = some (v, h')) : HRun P s h w (Instr.makeSlice t ul uc) v h' := by
 unfold makeSliceA at hv
 simp only [qAd] at hv
 replace hv := qAc.1 hv
 obtain ⟨ti, hti, hv⟩ := hv
 obtain ⟨d, hd, hok⟩ := (TT t ti hti).und
 generalize ti.td = td at hok hv
 split at hv
 ·rename_i e kl l kc c
  cases hl; cases hc
  replace hv := qAc.1 hv
  obtain ⟨te, hte, hv⟩ := hv
  split at hv
  ·rename_i hcond
   simp only [qAa, decide_eq_true_eq, beq_iff_eq] at hcond
   obtain ⟨⟨⟨h0, hlc⟩, hcm⟩, hz⟩ := hcond
   simp only [qAf, qAg] at hv
   obtain ⟨rfl, rfl⟩ := hv
   cases d <;> simp only [TD.ok] at hok
   rw [hok] at hd
   have T := TT e te hte
   obtain ⟨i, z, h1, h2, h3, h4, h5, h6⟩ := T.info
   obtain ⟨z', hz1, hz2⟩ := zero_rel (P := P) (s := s) (h := h) (w := w) T
   have hzz : z' = z := by
    have := hz1 w
    simp [zeroValue, typeInfo, h1, h4] at this
    exact this.symm
   subst hzz
   simp only [mostLen] at hcm
   have hrun := run_make (P := P) w t e i z' hd h1 h4 kl kc l c h0 hlc (by
    have e2 := T.small
    have : (i.bytes : Int) * c <= 4096 * 4294967296 := Int.mul_le_mul (by omega) (by omega) (by omega) (by omega)
    omega) (by omega)
   have hzs : z'.cells.size = te.size := by rw [h5, T.zsize]
   have hzr := zeros_rel hz2 c.toNat
   rw [hzs] at hzr
   have key := new_cells R (cs := copies c.toNat te.zero) (vs := madeCells z'.cells (c.toNat * i.size)) e (by rw [size_madeCells, copies_length, T.zsize, h2]; exact qAr _) (fun k x hk => by
    obtain ⟨v, hv, hr⟩ := hzr.2 k x hk
    refine ⟨v, ?_, hr⟩
    unfold madeCells
    rw [h2, ← Array.getElem?_toList]
    rw [← hzs] at hv ⊢
    exact hv)
   refine ⟨_, _, _, hrun, key.1, key.2, .msl _ _ _ _ _ _ w.heap.size c.toNat e (c.toNat * te.size) 0 (.inl rfl) (by rw [genOf_new]) (by simp [Sim.add]) (by omega) (fun m hm => by injection hm) (fun hn => by cases hn) ?_ (by omega)⟩
   simp only [World.shape?, heap_alloc_at, size_madeCells, h2]
  ·cases hv
 ·cases hv
end
end Go.Rv
namespace Go.Rv
section
variable {P : Program} {s : Sim} {h : Heap} {w : World}
theorem run_part_scalar {t : Nat} {c : AV} (hs : scalarB (P.underlying t) c = true) {cs : Array Value} {i : Nat} {v : Value} (hv : cs[i]? = some v) (w : World) : (Go.part t cs i).run P w = .ok v w := by
 cases hd : P.underlying t with
 | none => rw [hd] at hs; cases c <;> simp [scalarB] at hs
 | some d =>
  rw [hd] at hs
  cases d <;> cases c <;> simp only [scalarB, qAb] at hs <;>
   simp only [Go.part, isAgg, Sem.run_bind, run_underlying hd, Result.andThen_ok, Sem.run_pure, qAb, if_false, hv]
theorem scalar_check {t : Nat} {c : AV} (hs : scalarB (P.underlying t) c = true) (b : Bool) (n : Nat) (v : Value) (w : World) : (Instr.checkKey b (n + 1) t v).run P w = .ok () w := by
 cases hd : P.underlying t with
 | none => rw [hd] at hs; cases c <;> simp [scalarB] at hs
 | some d =>
  rw [hd] at hs
  cases d <;> cases c <;> simp only [scalarB, qAb] at hs <;>
   (unfold Instr.checkKey; simp only [Sem.run_bind, run_underlying hd, Result.andThen_ok]; rfl)
theorem scalar_eq {t : Nat} {c c' : AV} (hs : scalarB (P.underlying t) c = true) {v v' : Value} (hv : VR s h w c v) (hv' : VR s h w c' v') {p : Bool} (hp : sameKey c c' = some p) (n : Nat) (w1 : World) : (Op.equalIn (n + 1) t v v').run P w1 = .ok p w1 /\ (p = true -> v' = v) := by
 cases hd : P.underlying t with
 | none => rw [hd] at hs; cases c <;> simp [scalarB] at hs
 | some d =>
  rw [hd] at hs
  cases d <;> cases c <;> simp only [scalarB, qAb] at hs <;> cases c' <;> simp only [sameKey, reduceCtorEq] at hp <;> cases hv <;> cases hv'
  ·injection hp with hp
   subst hp
   exact ⟨run_equalIn_bool' w1 n t _ _ hd, fun h => by simp at h; rw [h]⟩
  ·split at hp
   ·rename_i he
    injection hp with hp
    subst hp
    simp only [beq_iff_eq] at he
    subst he
    exact ⟨run_equalIn_int w1 n t _ _ _ _ hd, fun h => by simp at h; rw [h]⟩
   ·cases hp
  ·injection hp with hp
   subst hp
   refine ⟨?_, fun h => by simp at h; rw [h]⟩
   simp only [Op.equalIn, Sem.run_bind, run_underlying hd, Result.andThen_ok, Sem.run_pure]
   congr 1
   rename_i a b
   change (a.toArray == b.toArray) = (a == b)
   simp
theorem flat_eq {xs ys : Array Value} : ∀ (fs : List Field) (i : Nat) (as' bs : List AV), flatFs P i fs as' = true -> (∀ (j : Nat) c, as'[j]? = some c -> ∃ v, xs[i + j]? = some v /\ VR s h w c v) -> (∀ (j : Nat) c, bs[j]? = some c -> ∃ v, ys[i + j]? = some v /\ VR s h w c v) ->
  ∀ {p : Bool}, sameKeys as' bs = some p -> ∀ (n : Nat) (w1 : World), (Op.eqFields (n + 1) xs ys fs).run P w1 = .ok p w1 /\ (p = true -> ∀ j, j < as'.length -> ys[i + j]? = xs[i + j]?)
 | [], i, [], bs, _, _, _, p, hp, n, w1 => by
  cases bs with
  | nil => simp only [sameKeys, qAf] at hp; subst hp; exact ⟨rfl, fun _ j hj => by simp at hj⟩
  | cons => simp [sameKeys] at hp
 | [], i, _ :: _, bs, hf, _, _, p, hp, n, w1 => by simp [flatFs] at hf
 | f :: r, i, [], bs, hf, _, _, p, hp, n, w1 => by simp [flatFs] at hf
 | f :: r, i, c :: cs, bs, hf, hx, hy, p, hp, n, w1 => by
  cases bs with
  | nil => simp [sameKeys] at hp
  | cons d ds =>
  simp only [flatFs, qAa, bne_iff_ne, ne_eq] at hf
  obtain ⟨⟨⟨f1, f2⟩, f3⟩, f4⟩ := hf
  have f2 := Nat.eq_of_beqb f2
  simp only [sameKeys, qAd] at hp
  obtain ⟨p1, hp1, hp⟩ := qAc.1 hp
  obtain ⟨q1, hq1, hp⟩ := qAc.1 hp
  injection hp with hp
  subst hp
  obtain ⟨v, hv, hvr⟩ := hx 0 c rfl
  obtain ⟨u, hu, hur⟩ := hy 0 d rfl
  simp only [Nat.add_zero] at hv hu
  obtain ⟨e1, e2⟩ := scalar_eq f3 hvr hur hp1 n w1
  obtain ⟨g1, g2⟩ := flat_eq r (i + 1) cs ds f4 (fun j c hj => by rw [show i + 1 + j = i + (j + 1) from by omega]; exact hx (j + 1) c (by simpa using hj)) (fun j c hj => by rw [show i + 1 + j = i + (j + 1) from by omega]; exact hy (j + 1) c (by simpa using hj)) hq1 n w1
  refine ⟨?_, fun hb j hj => ?_⟩
  ·simp only [Op.eqFields, f1, ne_eq, not_false_eq_true, if_true, Sem.run_bind, f2, run_part_scalar f3 hv, run_part_scalar f3 hu, Result.andThen_ok, e1]
   cases p1 with
   | false => simp
   | true => simpa using g1
  ·simp only [qAa] at hb
   cases j with
   | zero => simp only [Nat.add_zero]; rw [hu, hv, e2 hb.1]
   | succ j => rw [show i + (j + 1) = i + 1 + j from by omega]; exact g2 hb.2 j (by simpa using hj)
theorem flat_equal {t : Nat} {cs ds : List AV} (hf : flatKey P t cs = true) {u v : Value} (hu : VR s h w (.agg cs) u) (hv : VR s h w (.agg ds) v) {p : Bool} (hp : sameKeys cs ds = some p) (w1 : World) : (Op.equal t u v).run P w1 = .ok p w1 /\ (p = true -> v = u) := by
 unfold flatKey at hf
 split at hf <;> first | cases hf | skip
 rename_i fs hd
 simp only [qAa, qBh] at hf
 have hfs : P.fieldsOf t = fs := by simp [Program.fieldsOf, hd]
 cases hu with
 | agg _ xs hl hr =>
 cases hv with
 | agg _ ys hl' hr' =>
 have at' : ∀ {cs : List AV} {xs : Array Value}, cs.length = xs.size -> (∀ (i : Nat) c, cs[i]? = some c -> VR s h w c (xs.getD i undef)) -> ∀ (j : Nat) c, cs[j]? = some c -> ∃ v, xs[0 + j]? = some v /\ VR s h w c v := fun {cs xs} hl hr j c hj => by
  have hlt : j < xs.size := by rw [← hl]; exact (qAu.1 hj).1
  refine ⟨xs[j], by simp [hlt], ?_⟩
  have := hr j c hj
  simpa [hlt] using this
 obtain ⟨g1, g2⟩ := flat_eq fs.toList 0 cs ds hf.2 (at' hl hr) (at' hl' hr') hp 9998 w1
 refine ⟨?_, fun hb => ?_⟩
 ·show (Op.equalIn (9999 + 1) t (.agg xs) (.agg ys)).run P w1 = _
  rw [run_equalIn_struct w1 9999 t xs ys (by rw [hfs]; exact hd) hf.1, hfs]
  exact g1
 ·have hlen : cs.length = ds.length := by
   have : ∀ (a b : List AV) q, sameKeys a b = some q -> a.length = b.length := by
    intro a
    induction a with
    | nil => intro b q h; cases b <;> simp [sameKeys] at h ⊢
    | cons a x ih =>
     intro b q h
     cases b with
     | nil => simp [sameKeys] at h
     | cons b y =>
      simp only [sameKeys, qAd] at h
      obtain ⟨_, _, h⟩ := qAc.1 h
      obtain ⟨q', hq', _⟩ := qAc.1 h
      simp [ih y q' hq']
   exact this _ _ _ hp
  congr 1
  apply Array.ext (by omega)
  intro j h1 h2
  have := g2 hb j (by omega)
  simpa [h1, h2] using this
theorem flat_scalar : ∀ {fs : List Field} {i : Nat} {cs : List AV}, flatFs P i fs cs = true -> ∀ c ∈ cs, ∃ d, scalarB d c = true
 | [], _, [], _, c, hc => by simp at hc
 | [], _, _ :: _, h, _, _ => by simp [flatFs] at h
 | _ :: _, _, [], h, _, _ => by simp [flatFs] at h
 | f :: r, i, c :: cs, h, x, hx => by
  simp only [flatFs, qAa] at h
  rcases qAj.1 hx with rfl | hx
  ·exact ⟨_, h.1.2⟩
  ·exact flat_scalar h.2 x hx
theorem flat_bits {fs : List Field} {i : Nat} {cs : List AV} (hf : flatFs P i fs cs = true) {u : Value} (hu : VR s h w (.agg cs) u) : Instr.sameBits 10000 u u = true := by
 cases hu with
 | agg _ vs hl hr =>
 have hall : ∀ v ∈ vs.toList, Instr.sameBits 9999 v v = true := fun v hv => by
  obtain ⟨j, hj⟩ := List.getElem?_of_mem hv
  have hlt : j < vs.size := by simpa using (qAu.1 hj).1
  have hc : cs[j]? = some cs[j] := qAs (by omega)
  have hvr := hr j _ hc
  have hjv : vs.getD j undef = v := by rw [Array.getElem?_toList] at hj; simp [Array.getD_eq_getD_getElem?, hj]
  rw [hjv] at hvr
  obtain ⟨d, hd⟩ := flat_scalar hf cs[j] (List.getElem_mem (by omega))
  generalize cs[j] = c at hvr hd
  cases d with
  | none => cases c <;> simp [scalarB] at hd
  | some d => cases d <;> cases c <;> simp only [scalarB, qAb] at hd <;> cases hvr <;> first | (simp [Instr.sameBits]; done) | (rename_i a; show ((⟨a.toArray⟩ : ByteArray) == ⟨a.toArray⟩) = true; change (a.toArray == a.toArray) = true; simp)
 show (vs.size == vs.size && (vs.toList.zip vs.toList).all fun (x, y) => Instr.sameBits 9999 x y) = true
 simp only [beq_self_eq_true, Bool.true_and, qBd]
 rintro ⟨x, y⟩ hxy
 have : ∀ (l : List Value) (x y : Value), (x, y) ∈ l.zip l -> x = y /\ x ∈ l := by
  intro l
  induction l with
  | nil => intro x y h; simp at h
  | cons a l ih =>
   intro x y h
   simp only [List.zip_cons_cons, qAj, qAg] at h
   rcases h with ⟨rfl, rfl⟩ | h
   ·exact ⟨rfl, by simp⟩
   ·exact ⟨(ih x y h).1, by simp [(ih x y h).2]⟩
 obtain ⟨rfl, hx⟩ := this _ _ _ hxy
 exact hall x hx
theorem flat_check {t : Nat} {cs : List AV} (hf : flatKey P t cs = true) {u : Value} (hu : VR s h w (.agg cs) u) (b : Bool) (n : Nat) (w1 : World) : (Instr.checkKey b (n + 2) t u).run P w1 = .ok () w1 := by
 unfold flatKey at hf
 split at hf <;> first | cases hf | skip
 rename_i fs hd
 simp only [qAa, qBh] at hf
 cases hu with
 | agg _ xs hl hr =>
 rw [Instr.checkKey]
 simp only [Sem.run_bind, run_underlying hd, Result.andThen_ok]
 rw [← Array.forIn_toList]
 have key : ∀ (L : List Field) (i : Nat) (c : List AV), flatFs P i L c = true -> (∀ (j : Nat) y, c[j]? = some y -> ∃ v, xs[i + j]? = some v) -> (forIn L PUnit.unit (fun f (_ : PUnit) => (if f.name ≠ "_" then do Instr.checkKey b (n + 1) f.type (← Go.part f.type xs f.offset); pure (ForInStep.yield PUnit.unit) else pure (ForInStep.yield PUnit.unit) : Sem (ForInStep PUnit)))).run P w1 = .ok PUnit.unit w1 := by
  intro L
  induction L with
  | nil => intro i c _ _; simp
  | cons f L ih =>
   intro i c hc hx
   cases c with
   | nil => simp [flatFs] at hc
   | cons c cs =>
    simp only [flatFs, qAa, bne_iff_ne, ne_eq] at hc
    obtain ⟨⟨⟨f1, f2⟩, f3⟩, f4⟩ := hc
    have f2 := Nat.eq_of_beqb f2
    obtain ⟨v, hv⟩ := hx 0 c rfl
    simp only [Nat.add_zero] at hv
    simp only [List.forIn_cons, Sem.run_bind, f1, ne_eq, not_false_eq_true, if_true, f2, run_part_scalar f3 hv, Result.andThen_ok, scalar_check f3, Sem.run_pure]
    exact ih (i + 1) cs f4 (fun j y hj => by rw [show i + 1 + j = i + (j + 1) from by omega]; exact hx (j + 1) y (by simpa using hj))
 have := key fs.toList 0 cs hf.2 (fun j y hj => ⟨xs[j]'(by rw [← hl]; exact (qAu.1 hj).1), by simp [← hl, (qAu.1 hj).1]⟩)
 rw [this]
 rfl
end
end Go.Rv
