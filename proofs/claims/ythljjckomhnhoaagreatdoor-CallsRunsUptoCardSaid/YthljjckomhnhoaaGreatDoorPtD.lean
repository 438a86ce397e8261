/-
  Maps: made, asked, written.
-/
import Derived.Test.YthljjckomhnhoaaGreatDoorPtC
import Derived.Laws.BytesArg
import Derived.Laws.IdiomStrings
import Derived.Maps.RangeRun
set_option linter.unusedSectionVars false
set_option linter.unusedSimpArgs false
set_option linter.unusedVariables false
set_option linter.defProp false
namespace Go.Rv
section
variable {P : Program} {C : Cfg} {s : Sim} {h : Heap} {w : World}
def Ents (s : Sim) (h : Heap) (w : World) (es : List (AV × AV)) (en : List MapEntry) : Prop :=
 es.length = en.length /\ ∀ (i : Nat) e, es[i]? = some e -> ∃ m, en[i]? = some m /\ VR s h w e.1 m.key /\ VR s h w e.2 m.val
theorem Ents.tail {e : AV × AV} {es : List (AV × AV)} {m : MapEntry} {en : List MapEntry} (H : Ents s h w (e :: es) (m :: en)) : (VR s h w e.1 m.key /\ VR s h w e.2 m.val) /\ Ents s h w es en := by
 obtain ⟨h1, h2⟩ := H
 refine ⟨?_, by simpa using h1, fun i x hi => h2 (i + 1) x (by simpa using hi)⟩
 obtain ⟨m', hm, hr⟩ := h2 0 e rfl
 simp only [qBe, qAf] at hm
 subst hm
 exact hr
theorem mapAt_some {o : Nat} {es : List (AV × AV)} (ho : h.mapAt o = some es) : h[o]? = some (.map es) := by
 unfold Heap.mapAt at ho
 split at ho
 ·rename_i es' hx
  injection ho with ho; subst ho
  exact hx
 ·cases ho
theorem map_obj (R : Rel s h w) {o : Nat} {es : List (AV × AV)} (ho : h.mapAt o = some es) {u : Value} (hv : VR s h w (.map o) u) : ∃ b en clock es0, u = .map (some b) /\ s.μ o = some b /\ w.heap[b]? = some (.map en clock) /\ (es0.Perm es /\ KeysOk es) /\ Ents s h w es0 en.toList /\ MapKept.Stamped en clock := by
 cases hv with
 | map _ b hm hb =>
  obtain ⟨x, hx, hr⟩ := R.obj o b hb
  rw [mapAt_some ho] at hx
  injection hx with hx; subst hx
  obtain ⟨es0, hp0, en, cl, h1, h2, hst, h3⟩ := hr
  refine ⟨b, en, cl, es0, rfl, hb, h1, hp0, ⟨by simpa using h2, fun i e hi => ?_⟩, hst⟩
  obtain ⟨m, hm, hr⟩ := h3 i e hi
  exact ⟨m, by simpa using hm, hr⟩
 | mapOld _ g b hg hlt => simp [genOf, mapAt_some ho] at hg; omega
theorem bytes_eq (a b : List UInt8) : ((⟨a.toArray⟩ : ByteArray) == ⟨b.toArray⟩) = (a == b) := by
 change (a.toArray == b.toArray) = (a == b)
 simp
def scal : TD -> AV -> Bool
 | .bool, .bool _ | .int _, .int .. | .str, .str _ => true
 | _, _ => false
theorem sameKey_rel {td : TD} {d : TypeDesc} (hd : TD.ok d td) {k k' : AV} (hk : scal td k = true) {u u' : Value} (hu : VR s h w k u) (hu' : VR s h w k' u') {p : Bool} (hp : sameKey k k' = some p) : Instr.sameNow d u u' = some p := by
 cases td <;> cases k <;> simp only [scal, qAb] at hk <;> cases k' <;> simp only [sameKey, reduceCtorEq] at hp <;> cases d <;> simp only [TD.ok] at hd <;> cases hu <;> cases hu' <;> simp only [Instr.sameNow]
 ·exact hp
 ·split at hp
  ·rename_i he
   simp only [beq_iff_eq] at he
   rw [if_pos he]; exact hp
  ·cases hp
 ·rename_i a b
  rw [← hp, bytes_eq]
def findBy (f : Value -> Option Bool) : List MapEntry -> Nat -> Option (Option (Nat × Value))
 | [], _ => some none
 | e :: es, i =>
  match f e.key with
  | some true => some (some (i, e.val))
  | some false => findBy f es (i + 1)
  | none => none
theorem findBy_now (d : TypeDesc) (u : Value) : ∀ (es : List MapEntry) (i : Nat), findBy (Instr.sameNow d u) es i = Instr.findNow d u es i
 | [], _ => rfl
 | e :: es, i => by
  simp only [findBy, Instr.findNow]
  cases Instr.sameNow d u e.key with
  | none => rfl
  | some b => cases b <;> first | rfl | exact findBy_now d u es (i + 1)
def Cmp (s : Sim) (h : Heap) (w : World) (k : AV) (f : Value -> Option Bool) : Prop := ∀ k' u' p, VR s h w k' u' -> sameK k k' = some p -> f u' = some p
theorem find_rel {k : AV} {f : Value -> Option Bool} (hF : Cmp s h w k f) : ∀ {es : List (AV × AV)} {en : List MapEntry} (i : Nat) {r : Option AV}, Ents s h w es en -> findA k es = some r ->
  ∃ r', findBy f en i = some r' /\ match r, r' with
   | none, none => True
   | some v, some (j, x) => VR s h w v x
   | _, _ => False
 | [], [], i, r, _, hf => by
  simp only [findA, qAf] at hf
  subst hf
  exact ⟨none, rfl, trivial⟩
 | [], _ :: _, _, _, H, _ => by have := H.1; simp at this
 | _ :: _, [], _, _, H, _ => by have := H.1; simp at this
 | (k', v) :: es, m :: en, i, r, H, hf => by
  obtain ⟨⟨hk', hv⟩, ht⟩ := H.tail
  simp only [findA, qAd] at hf
  obtain ⟨p, hp, hf⟩ := qAc.1 hf
  have := hF k' m.key p hk' hp
  simp only [findBy, this]
  cases p with
  | true =>
   simp only [if_true, qAf] at hf
   subst hf
   exact ⟨_, rfl, hv⟩
  | false => exact find_rel hF (i + 1) ht (by simpa using hf)
theorem keyDesc {td : TD} {d : TypeDesc} (hd : TD.ok d td) {k : AV} (hk : scal td k = true) : d = .bool ∨ (∃ n, d = .int n) ∨ d = .string := by
 cases td <;> simp only [scal, qAb] at hk <;> cases d <;> simp only [TD.ok] at hd
 ·exact .inl rfl
 ·exact .inr (.inl ⟨_, rfl⟩)
 ·exact .inr (.inr rfl)
theorem run_checkKey {t : Nat} {d : TypeDesc} (hu : P.underlying t = some d) (hd : d = .bool ∨ (∃ n, d = .int n) ∨ d = .string) (b : Bool) (n : Nat) (u : Value) (w : World) : (Instr.checkKey b (n + 1) t u).run P w = .ok () w := by
 unfold Instr.checkKey
 simp only [Sem.run_bind, run_und hu, Result.andThen_ok]
 rcases hd with rfl | ⟨k, rfl⟩ | rfl <;> rfl
theorem run_findKey {t : Nat} {d : TypeDesc} (hu : P.underlying t = some d) {u : Value} {en : List MapEntry} {r : Option (Nat × Value)} (hr : Instr.findNow d u en 0 = some r) (w : World) : (Instr.findKey t u en).run P w = .ok r w := by
 unfold Instr.findKey
 simp only [Sem.run_bind, run_und hu, Result.andThen_ok, hr, Sem.run_pure]
theorem run_getMap {b : Nat} {en : Array MapEntry} {cl : Nat} (hb : w.heap[b]? = some (.map en cl)) : (getObj b).run P w = .ok (.map en cl) w := by
 simp [getObj, Sem.run, hb]
theorem zero_whole {t : Nat} {ti : TI} (T : TyOk P t ti) {v : AV} (hp : Rv.part ti ti.zero = some v) : ∃ z, (∀ w, (zeroValue t).run P w = .ok z w) /\ VR s h w v z := by
 obtain ⟨i, z, h1, h2, h3, h4, h5, h6⟩ := T.info
 have hw := T.whole i z h1 h4
 refine ⟨z, fun w => by simp [zeroValue, typeInfo, h1, h4], ?_⟩
 unfold Rv.part at hp
 split at hp
 ·rename_i ha
  rw [ha] at hw
  split at hp
  ·injection hp with hp; subst hp
   cases z <;> simp only [wholeB, Bool.not_true, qAb] at hw
   rename_i cs
   rw [qBi (by rw [T.zsize]; omega)]
   refine .agg _ _ (by simpa [Value.cells] using h5.symm) fun j c hj => ?_
   exact ofValue_rel (by simpa [Value.cells] using h6 j c hj)
  ·cases hp
 ·rename_i ha
  have ha' : ti.td.isAgg = false := by simpa using ha
  rw [ha'] at hw
  have hc : z.cells = #[z] := by cases z <;> first | rfl | (simp [wholeB] at hw)
  have h0 : ti.zero[0]? = some v := by rw [← List.head?_eq_getElem?]; exact hp
  have := h6 0 v h0
  rw [hc] at this
  exact ofValue_rel (by simpa using this)
theorem makeMap_rel (R : Rel s h w) (t : Nat) : HRun P s h w (Instr.makeMap t none) (.map h.length) (h ++ [.map []]) := by
 refine ⟨_, _, _, rfl, Ext.new R (.map #[] 0) (.map []), Rel.new R (.map #[] 0) (.map []) ⟨[], ⟨List.Perm.refl _, List.Pairwise.nil⟩, #[], 0, heap_alloc_at w _, rfl, MapKept.stamped_empty 0, fun i e hi => by simp at hi⟩, ?_⟩
 refine .map _ w.heap.size ?_ (by simp [Sim.add])
 unfold isMap
 rw [qAy (qAr _)]
 simp
theorem map_write (R : Rel s h w) {o b : Nat} {es es' es0' : List (AV × AV)} {en en' : Array MapEntry} {cl cl' : Nat} (hb : s.μ o = some b) (ho : h[o]? = some (.map es)) (hheap : w.heap[b]? = some (.map en cl)) (hP : es0'.Perm es' /\ KeysOk es') (hE : Ents s h w es0' en'.toList) (hS : MapKept.Stamped en' cl') :
  Ext s h w s (h.set o (.map es')) { w with heap := w.heap.setIfInBounds b (.map en' cl') } /\ Rel s (h.set o (.map es')) { w with heap := w.heap.setIfInBounds b (.map en' cl') } := by
 have hlt := (qAu.1 ho).1
 have hbl := (qAq.1 hheap).1
 have hfar : ∀ k, k ≠ b -> (w.heap.setIfInBounds b (.map en' cl'))[k]? = w.heap[k]? := fun k hk => by
  rw [Array.getElem?_setIfInBounds_ne (Ne.symm hk)]
 have hat : (w.heap.setIfInBounds b (.map en' cl'))[b]? = some (.map en' cl') := by
  rw [Array.getElem?_setIfInBounds_self_of_lt hbl]
 have E : Ext s h w s (h.set o (.map es')) { w with heap := w.heap.setIfInBounds b (.map en' cl') } := by
  refine ⟨⟨by simp, fun k _ hn => hfar k (fun e => hn o (e ▸ hb)), fun k x hx => ?_, fun _ h => h, fun k g0 hg0 => ?_, fun k g0 _ _ => ⟨fun _ h => h, ?_⟩, fun k hk _ => ?_, fun k c hc => .inl ⟨k, hc⟩, rfl, rfl, rfl, fun k hk => ?_, rfl⟩, fun k c _ hc => ⟨c, hc⟩, fun k _ hn => ?_, fun _ _ h => .inl h⟩
  ·by_cases e : k = b
   ·subst e
    simp [World.shape?, hheap] at hx
   ·rw [shape_of (hfar k e)]; exact hx
  ·rw [genOf_set (g := g0)]
   by_cases e : o = k
   ·subst e
    have : g0 = 0 := by simp [genOf, ho] at hg0; omega
    exact ⟨0, by simp [hlt], by omega⟩
   ·exact ⟨g0, by simp [e, hg0], qAr _⟩
  ·by_cases e : o = k
   ·subst e
    unfold lenOf
    rw [ho, qAz hlt]
   ·exact lenOf_set e
  ·by_cases e : o = k
   ·subst e
    unfold isMap
    rw [qAz hlt]
   ·rw [isMap_set e]; exact hk
  ·by_cases e : o = k
   ·subst e; simp [isLoop, ho] at hk
   ·rw [isLoop_set e]; exact hk
  ·have : o ≠ k := by rintro rfl; rw [hb] at hn; cases hn
   exact qAw this
 refine ⟨E, R.inj, fun k c hk => ?_, R.apart, fun c hI => by have := R.imm c hI; simpa using this⟩
 by_cases e : k = o
 ·subst e
  rw [hb] at hk; injection hk with hk; subst hk
  refine ⟨.map es', by rw [qAz hlt], es0', hP, en', cl', hat, by simpa using hE.1, hS, fun i x hi => ?_⟩
  obtain ⟨m, hm, h1, h2⟩ := hE.2 i x hi
  exact ⟨m, by simpa using hm, h1.ext R.apart E, h2.ext R.apart E⟩
 ·obtain ⟨x, hx, hr⟩ := R.obj k c hk
  have hne : c ≠ b := fun e' => e (R.inj k o c hk (e' ▸ hb))
  exact ⟨x, by rw [qAw (Ne.symm e)]; exact hx, hr.ext R.apart E (hfar c hne)⟩
theorem run_setMap {b : Nat} {en : Array MapEntry} {cl : Nat} (hb : w.heap[b]? = some (.map en cl)) (o : Obj) : (setObj b o).run P w = .ok () { w with heap := w.heap.setIfInBounds b o } := by
 simp [setObj, Sem.run, hb]
theorem sameKey_eq {td : TD} {k k' : AV} (hk : scal td k = true) {u u' : Value} (hu : VR s h w k u) (hu' : VR s h w k' u') (hp : sameKey k k' = some true) : u' = u /\ Instr.sameBits 10000 u u = true := by
 cases td <;> cases k <;> simp only [scal, qAb] at hk <;> cases k' <;> simp only [sameKey, reduceCtorEq] at hp <;> cases hu <;> cases hu'
 ·simp at hp; subst hp; exact ⟨rfl, by simp [Instr.sameBits]⟩
 ·split at hp
  ·rename_i he
   simp at he hp
   subst he hp
   exact ⟨rfl, by simp [Instr.sameBits]⟩
  ·cases hp
 ·simp at hp; subst hp
  refine ⟨rfl, ?_⟩
  simp only [Instr.sameBits, bytes_eq, beq_self_eq_true]
theorem Ents.cons {e : AV × AV} {es : List (AV × AV)} {m : MapEntry} {en : List MapEntry} (h1 : VR s h w e.1 m.key /\ VR s h w e.2 m.val) (H : Ents s h w es en) : Ents s h w (e :: es) (m :: en) := by
 refine ⟨by simp [H.1], fun i x hi => ?_⟩
 cases i with
 | zero => simp at hi; subst hi; exact ⟨m, rfl, h1⟩
 | succ i => exact H.2 i x (by simpa using hi)
theorem put_rel {k v : AV} {f : Value -> Option Bool} (hF : Cmp s h w k f) {u x : Value} (hQ : ∀ k' u', VR s h w k' u' -> sameK k k' = some true -> u' = u) (hu : VR s h w k u) (hx : VR s h w v x) (born : Nat) : ∀ {es es' : List (AV × AV)} {en : List MapEntry} (j : Nat), Ents s h w es en -> putA k v es = some es' ->
  (∃ i y, findBy f en j = some (some (j + i, y)) /\ (en[i]?).map (·.key) = some u /\ Ents s h w es' (en.modify i fun e => { e with key := u, val := x })) ∨
  (findBy f en j = some none /\ Ents s h w es' (en ++ [{ key := u, val := x, born := born }]))
 | [], _, [], j, _, hp => by
  simp only [putA, qAf] at hp
  subst hp
  exact .inr ⟨rfl, Ents.cons ⟨hu, hx⟩ ⟨rfl, fun i e hi => by simp at hi⟩⟩
 | [], _, _ :: _, _, H, _ => by have := H.1; simp at this
 | _ :: _, _, [], _, H, _ => by have := H.1; simp at this
 | (k', v') :: es, es', m :: en, j, H, hp => by
  obtain ⟨⟨hk', hv'⟩, ht⟩ := H.tail
  simp only [putA, qAd] at hp
  obtain ⟨p, hp1, hp⟩ := qAc.1 hp
  have hs := hF k' m.key p hk' hp1
  simp only [findBy, hs]
  cases p with
  | true =>
   simp only [if_true, qAf] at hp
   subst hp
   have he := hQ k' m.key hk' hp1
   refine .inl ⟨0, m.val, rfl, by simp [he], ?_⟩
   simp only [List.modify_zero_cons]
   exact Ents.cons ⟨by rw [he] at hk'; exact hk', hx⟩ ht
  | false =>
   simp only [qAb, if_false] at hp
   obtain ⟨es2, hp2, rfl⟩ := qAl.1 hp
   rcases put_rel hF hQ hu hx born (j + 1) ht hp2 with ⟨i, y, h1, h2, h3⟩ | ⟨h1, h2⟩
   ·refine .inl ⟨i + 1, y, by rw [h1, show j + 1 + i = j + (i + 1) from by omega], by simpa using h2, ?_⟩
    simp only [List.modify_succ_cons]
    exact Ents.cons ⟨hk', hv'⟩ h3
   ·exact .inr ⟨h1, Ents.cons ⟨hk', hv'⟩ h2⟩
theorem sameNow_self {td : TD} {d : TypeDesc} (hd : TD.ok d td) {k : AV} (hk : scal td k = true) {u : Value} (hu : VR s h w k u) : Instr.sameNow d u u = some true := by
 cases td <;> cases k <;> simp only [scal, qAb] at hk <;> cases d <;> simp only [TD.ok] at hd <;> cases hu <;> simp only [Instr.sameNow, bytes_eq, beq_self_eq_true, if_true]
theorem findNow_ne {f : Value -> Option Bool} {u : Value} (hself : f u = some true) : ∀ {en : List MapEntry} {j : Nat}, findBy f en j = some none -> ∀ x ∈ en, x.key ≠ u
 | [], _, _, x, hx => by simp at hx
 | m :: en, j, hf, x, hx => by
  simp only [findBy] at hf
  rcases qAj.1 hx with rfl | hx
  ·intro e
   rw [e, hself] at hf
   simp at hf
  ·cases hs : f m.key with
   | none => rw [hs] at hf; simp at hf
   | some b =>
    rw [hs] at hf
    cases b with
    | true => simp at hf
    | false => exact findNow_ne hself (by simpa using hf) x hx
theorem sameK_scal {td : TD} {k : AV} (hk : scal td k = true) (k' : AV) : sameK k k' = sameKey k k' := by
 cases td <;> cases k <;> simp only [scal, qAb] at hk <;> cases k' <;> rfl
theorem sameKeys_self : ∀ {fs : List Field} {i : Nat} {cs : List AV}, flatFs P i fs cs = true -> sameKeys cs cs = some true
 | [], _, [], _ => rfl
 | [], _, _ :: _, h => by simp [flatFs] at h
 | _ :: _, _, [], h => by simp [flatFs] at h
 | f :: r, i, c :: cs, h => by
  simp only [flatFs, qAa] at h
  have h1 : sameKey c c = some true := by
   have := h.1.2
   cases hd : P.underlying f.type with
   | none => rw [hd] at this; cases c <;> simp [scalarB] at this
   | some d => rw [hd] at this; cases d <;> cases c <;> simp only [scalarB, qAb] at this <;> simp [sameKey]
  simp [sameKeys, h1, sameKeys_self h.2]
open Classical in
theorem key_run (TT : TabOk P C) {kt : Nat} {ki : TI} (hki : C.ty kt = some ki) {k : AV} (hkt : keyTd C kt ki.td k = true) {u : Value} (hu : VR s h w k u) : ∃ f : Value -> Option Bool, Cmp s h w k f /\ (∀ k' u', VR s h w k' u' -> sameK k k' = some true -> u' = u) /\ f u = some true /\ Instr.sameBits 10000 u u = true /\
  (∀ en r w1, findBy f en 0 = some r -> (Instr.findKey kt u en).run P w1 = .ok r w1) /\ ∀ b w1, (Instr.checkKey b 10000 kt u).run P w1 = .ok () w1 := by
 obtain ⟨dk, hdk, hdok⟩ := (TT _ ki hki).und
 by_cases hs : scal ki.td k = true
 ·refine ⟨Instr.sameNow dk u, fun k' u' p hv hp => sameKey_rel hdok hs hu hv (by rw [← sameK_scal hs]; exact hp), fun k' u' hv hp => (sameKey_eq hs hu hv (by rw [← sameK_scal hs]; exact hp)).1, sameNow_self hdok hs hu, ?_, fun en r w1 hr => run_findKey hdk (by rw [← findBy_now]; exact hr) w1, fun b w1 => run_checkKey hdk (keyDesc hdok hs) b 9999 u w1⟩
  generalize ki.td = td at hs
  cases td <;> cases k <;> simp only [scal, qAb] at hs <;> cases hu
  ·simp [Instr.sameBits]
  ·simp [Instr.sameBits]
  ·simp only [Instr.sameBits, bytes_eq, beq_self_eq_true]
 ·generalize ki.td = td at hs hkt hdok
  cases td <;> cases k <;> simp only [keyTd, scal, qAb, not_true_eq_false] at hs hkt
  rename_i fs0 cs
  have hf := TT.flat kt cs hkt
  let f : Value -> Option Bool := fun u' => if hp : ∃ p : Bool, ∀ w1, (Op.equal kt u u').run P w1 = .ok p w1 then some (Classical.choose hp) else none
  have hfs : ∀ {u' p}, (∀ w1, (Op.equal kt u u').run P w1 = .ok p w1) -> f u' = some p := fun {u' p} hp => by
   have hex : ∃ p : Bool, ∀ w1, (Op.equal kt u u').run P w1 = .ok p w1 := ⟨p, hp⟩
   show (if hp : ∃ p : Bool, ∀ w1, (Op.equal kt u u').run P w1 = .ok p w1 then some (Classical.choose hp) else none) = some p
   rw [dif_pos hex]
   have := (Classical.choose_spec hex w).symm.trans (hp w)
   injection this with this
   rw [this]
  have hfr : ∀ {u' p}, f u' = some p -> ∀ w1, (Op.equal kt u u').run P w1 = .ok p w1 := fun {u' p} hp => by
   have hp' : (if hp : ∃ p : Bool, ∀ w1, (Op.equal kt u u').run P w1 = .ok p w1 then some (Classical.choose hp) else none) = some p := hp
   split at hp'
   ·rename_i hex
    injection hp' with hp'
    rw [← hp']
    exact Classical.choose_spec hex
   ·cases hp'
  have hself : sameKeys cs cs = some true := by
   unfold flatKey at hf
   split at hf
   ·simp only [qAa] at hf
    exact sameKeys_self hf.2
   ·cases hf
  have hagg : ∀ k' p, sameK (.agg cs) k' = some p -> ∃ ds, k' = .agg ds /\ sameKeys cs ds = some p := fun k' p hp => by
   cases k' <;> simp only [sameK, sameKey, reduceCtorEq] at hp
   exact ⟨_, rfl, hp⟩
  refine ⟨f, fun k' u' p hv hp => ?_, fun k' u' hv hp => ?_, hfs (fun w1 => (flat_equal hf hu hu hself w1).1), ?_, fun en r w1 hr => ?_, fun b w1 => flat_check hf hu b 9998 w1⟩
  ·obtain ⟨ds, rfl, hp⟩ := hagg k' p hp
   exact hfs fun w1 => (flat_equal hf hu hv hp w1).1
  ·obtain ⟨ds, rfl, hp⟩ := hagg k' true hp
   exact (flat_equal hf hu hv hp w).2 rfl
  ·unfold flatKey at hf
   split at hf
   ·rename_i fs hd
    simp only [qAa] at hf
    exact flat_bits hf.2 hu
   ·cases hf
  ·cases dk <;> simp only [TD.ok] at hdok
   rename_i fsd
   have ask : ∀ (en : List MapEntry) (i : Nat) r, findBy f en i = some r -> (Instr.findAsking kt u en i).run P w1 = .ok r w1 := by
    intro en
    induction en with
    | nil => intro i r h; simp only [findBy, qAf] at h; subst h; simp [Instr.findAsking]
    | cons e es ih =>
     intro i r h
     simp only [findBy] at h
     cases hfe : f e.key with
     | none => rw [hfe] at h; cases h
     | some p =>
      rw [hfe] at h
      have := hfr hfe w1
      cases p with
      | true => simp only [qAf] at h; subst h; simp [Instr.findAsking, this]
      | false => simp only at h; simp [Instr.findAsking, this, ih (i + 1) r h]
   cases en with
   | nil => simp only [findBy, qAf] at hr; subst hr; unfold Instr.findKey; simp [run_und hdk, Instr.findNow]
   | cons e es =>
    have hn : Instr.findNow (.struct fsd) u (e :: es) 0 = none := by cases hu <;> simp [Instr.findNow, Instr.sameNow]
    unfold Instr.findKey
    simp only [Sem.run_bind, run_und hdk, Result.andThen_ok, hn]
    exact ask _ _ _ hr
theorem lookup_rel (TT : TabOk P C) (R : Rel s h w) {t : Nat} {m k : AV} {um uk : Value} {ok : Bool} {v : AV} (hm : VR s h w m um) (hk : VR s h w k uk) (hv : lookupA C h t m k ok = some v) : PRun P s h w (Instr.lookup t um uk ok) v := by
 unfold lookupA at hv
 simp only [qAd] at hv
 obtain ⟨ti, hti, hv⟩ := qAc.1 hv
 obtain ⟨d, hd, hok⟩ := (TT t ti hti).und
 generalize htd : ti.td = td at hv hok
 cases td <;> simp only [reduceCtorEq] at hv
 case map kt e =>
 obtain ⟨ki, hki, hv⟩ := qAc.1 hv
 split at hv
 ·cases hv
 rename_i hkt
 simp only [qBh, Bool.not_eq_false] at hkt
 obtain ⟨es, hes, hv⟩ := qAc.1 hv
 obtain ⟨r, hr, hv⟩ := qAc.1 hv
 obtain ⟨te, hte, hv⟩ := qAc.1 hv
 obtain ⟨z, hz, hv⟩ := qAc.1 hv
 simp only [qAf] at hv
 subst hv
 cases d <;> simp only [TD.ok] at hok
 obtain ⟨e1, e2⟩ := hok
 rw [e1, e2] at hd
 obtain ⟨fc, hF, hQ, hself, hbits, hfind, hcheck⟩ := key_run TT hki hkt hk
 have tail : ∀ (en : Array MapEntry) (es0 : List (AV × AV)), (es0.Perm es /\ KeysOk es) -> Ents s h w es0 en.toList -> ∃ x, (do
  Instr.checkKey en.isEmpty 10000 kt uk
  let (v, ok') ← match ← Instr.findKey kt uk en.toList with
   | some (_, v) => pure (v, true)
   | none => pure (← zeroValue e, false)
  pure (if ok then .tuple #[v, .bool ok'] else v) : Sem Value).run P w = .ok x w /\ VR s h w (if ok = true then AV.tup [r.getD z, AV.bool r.isSome] else r.getD z) x := by
  intro en es0 hp0 hents
  obtain ⟨r', hr', hrr⟩ := find_rel hF 0 hents (findA_perm hp0.2 hp0.1.symm hr)
  simp only [Sem.run_bind, hcheck, Result.andThen_ok, hfind _ _ w hr']
  have fin : ∀ (x : Value) (y : AV) (b : Bool), VR s h w y x -> VR s h w (if ok = true then AV.tup [y, AV.bool b] else y) (if ok = true then .tuple #[x, .bool b] else x) := by
   intro x y b hxy
   cases ok with
   | false => exact hxy
   | true =>
    refine .tup _ _ rfl fun i c hi => ?_
    rcases i with _ | _ | i
    ·simp at hi; subst hi; exact hxy
    ·simp at hi; subst hi; exact .bool _
    ·simp at hi
  cases r with
  | none =>
   cases r' with
   | some x => exact hrr.elim
   | none =>
    obtain ⟨zz, hz1, hz2⟩ := zero_whole (s := s) (h := h) (w := w) (TT e te hte) hz
    simp only [Sem.run_bind, hz1, Sem.run_pure, Result.andThen_ok]
    exact ⟨_, rfl, fin _ _ _ hz2⟩
  | some y =>
   cases r' with
   | none => exact hrr.elim
   | some x =>
    obtain ⟨j, x⟩ := x
    simp only [Sem.run_bind, Sem.run_pure, Result.andThen_ok]
    exact ⟨_, rfl, fin _ _ _ hrr⟩
 unfold PRun Instr.lookup
 simp only [Sem.run_bind, run_und hd, Result.andThen_ok]
 unfold Heap.ents at hes
 cases m <;> simp only [reduceCtorEq] at hes
 case nilMap =>
  simp only [qAf] at hes
  subst hes
  cases hm
  have := tail #[] [] ⟨List.Perm.refl _, List.Pairwise.nil⟩ ⟨rfl, fun i e hi => by simp at hi⟩
  simp only [Sem.run_bind, Sem.run_pure, Result.andThen_ok] at this ⊢
  exact this
 case map o =>
  obtain ⟨b, en, cl, es0, rfl, hb, hheap, hp0, hE, hSt⟩ := map_obj R hes hm
  have := tail en es0 hp0 hE
  simp only [Sem.run_bind, run_getMap hheap, Sem.run_pure, Result.andThen_ok] at this ⊢
  exact this
theorem update_rel (TT : TabOk P C) (R : Rel s h w) {t : Nat} {m k v : AV} {um uk uv : Value} {h' : Heap} (hm : VR s h w m um) (hk : VR s h w k uk) (hv : VR s h w v uv) (hu : updateA C h t m k v = some h') :
  ∃ w', (Instr.mapUpdate t um uk uv).run P w = .ok () w' /\ Ext s h w s h' w' /\ Rel s h' w' := by
 unfold updateA at hu
 simp only [qAd] at hu
 obtain ⟨ti, hti, hu⟩ := qAc.1 hu
 obtain ⟨d, hd, hok⟩ := (TT t ti hti).und
 generalize htd : ti.td = td at hu hok
 cases td <;> cases m <;> simp only [reduceCtorEq] at hu
 rename_i kt e o
 obtain ⟨ki, hki, hu⟩ := qAc.1 hu
 split at hu
 ·cases hu
 rename_i hkt
 simp only [qBh, Bool.not_eq_false] at hkt
 obtain ⟨es, hes, hu⟩ := qAc.1 hu
 obtain ⟨es', hes', hu⟩ := qAc.1 hu
 simp only [qAf] at hu
 subst hu
 cases d <;> simp only [TD.ok] at hok
 obtain ⟨e1, e2⟩ := hok
 rw [e1, e2] at hd
 obtain ⟨fc, hF, hQ, hself, hbits, hfind, hcheck⟩ := key_run TT hki hkt hk
 obtain ⟨b, en, cl, es0, rfl, hb, hheap, hp0, hE, hSt⟩ := map_obj R hes hm
 obtain ⟨es0', hes0', hp1, hk1⟩ := putA_perm hp0.2 hp0.1.symm hes'
 unfold Instr.mapUpdate
 simp only [Sem.run_bind, run_und hd, Result.andThen_ok, run_getMap hheap, hcheck]
 rcases put_rel hF hQ hk hv cl 0 hE hes0' with ⟨i, y, h1, h2, h3⟩ | ⟨h1, h2⟩
 ·simp only [hfind _ _ w h1, Result.andThen_ok, qBg]
  have hkey : ((en[i]?).map (·.key)).getD uk = uk := by
   have : (en[i]?).map (·.key) = some uk := by simpa using h2
   rw [this]; rfl
  simp only [Sem.run_bind, hkey, Instr.keyThatStays, hbits, if_true, Sem.run_pure, Result.andThen_ok, run_setMap hheap]
  have key := map_write R (en' := en.modify i fun e => { e with key := uk, val := uv }) (cl' := cl) hb (mapAt_some hes) hheap ⟨hp1.symm, hk1⟩ (by simpa using h3) (MapKept.stamped_modify hSt i _ (fun _ _ => rfl) (fun x hx hxi => by
   have : (en[i]?).map (·.key) = some uk := by simpa using h2
   rw [hxi] at this
   simpa using this.symm))
  exact ⟨_, rfl, key.1, key.2⟩
 ·simp only [hfind _ _ w h1, Result.andThen_ok, run_setMap hheap]
  have key := map_write R (en' := en.push { key := uk, val := uv, born := cl }) (cl' := cl + 1) hb (mapAt_some hes) hheap ⟨hp1.symm, hk1⟩ (by simpa using h2) (MapKept.stamped_push hSt (fun x hx e => findNow_ne hself h1 x (by simpa using hx) e))
  exact ⟨_, rfl, key.1, key.2⟩
end
end Go.Rv
namespace Go.Rv
section
variable {P : Program} {C : Cfg} {s : Sim} {h : Heap} {w : World}
theorem bytesOf_cells : ∀ {ys : List AV} {l : List UInt8}, bytesOf ys = some l -> ∃ ns : List Int, ys = ns.map (AV.int .u8) /\ l = ns.map fun n => UInt8.ofNat n.toNat
 | [], l, hb => by
  simp only [bytesOf, qAf] at hb
  exact ⟨[], rfl, by rw [← hb]; rfl⟩
 | y :: ys, l, hb => by
  cases y <;> simp only [bytesOf, reduceCtorEq] at hb
  rename_i k n
  split at hb
  ·rename_i hk
   have hk' : k = .u8 := by simpa using hk
   subst hk'
   obtain ⟨r, hr, rfl⟩ := qAl.1 hb
   obtain ⟨ns, rfl, rfl⟩ := bytesOf_cells hr
   exact ⟨n :: ns, rfl, rfl⟩
  ·cases hb
theorem ints_flat : ∀ ns : List Int, ((ns.map (AV.int .u8)).map AV.cells).flatten = ns.map (AV.int .u8)
 | [] => rfl
 | n :: ns => by simp only [qAm, List.flatten_cons, ints_flat ns]; rfl
theorem bytes_run (R : Rel s h w) {src dst e : Nat} {l : List UInt8} (hs : P.underlying src = some .string) (hd : P.underlying dst = some (.slice e)) (he : P.underlying e = some (.int .u8)) :
  HRun P s h w (convert src dst (.string ⟨l.toArray⟩)) (.lst (l.map fun b => .int .u8 b.toNat) 1 .open) h := by
 have hrun := run_bytes_of_string w src dst e ⟨l.toArray⟩ hs hd he
 have hsz : (ByteArray.mk l.toArray).size = l.length := by show l.toArray.size = _; simp
 rw [hsz] at hrun
 generalize hc : grownCap w l.length 0 e = cap at hrun
 have hle : l.length <= cap := by rw [← hc]; simp [grownCap, Question.cut]
 have E1 : Ext s h w s h w.drew := Ext.draw s h w _
 have R1 : Rel s h w.drew := R.draw _
 have E2 := Ext.block s h w.drew (.cells (bytesRow ⟨l.toArray⟩ cap) e ((bytesRow ⟨l.toArray⟩ cap).size, (bytesRow ⟨l.toArray⟩ cap).size + 1)) true
 have R2 := R1.block (.cells (bytesRow ⟨l.toArray⟩ cap) e ((bytesRow ⟨l.toArray⟩ cap).size, (bytesRow ⟨l.toArray⟩ cap).size + 1)) true
 refine ⟨_, _, _, hrun, E1.trans E2, R2, ?_⟩
 have hlen : (l.map fun b => AV.int .u8 (b.toNat : Int)).length = l.length := by simp
 rw [← hlen]
 refine .lst _ 1 .open w.heap.size 0 cap (fun i _ => .int .u8 ((l.getD i 0).toNat : Int)) (fun _ => .inr ⟨rfl, rfl⟩) trivial (by rw [hlen]; exact hle) (fun i x hi => ?_) (fun i j x y hi hj => ?_) (fun i j x y hi hj => ?_)
 ·obtain ⟨b, _, rfl⟩ : ∃ b, l[i]? = some b /\ AV.int .u8 (b.toNat : Int) = x := by simpa using hi
  rfl
 ·obtain ⟨b, hb, rfl⟩ : ∃ b, l[i]? = some b /\ AV.int .u8 (b.toNat : Int) = x := by simpa using hi
  have hj0 : j = 0 := by
   cases j with
   | zero => rfl
   | succ j => simp [AV.cells] at hj
  subst hj0
  have hil : i < l.length := (qAu.1 hb).1
  have hat : (w.drew.alloc (.cells (bytesRow ⟨l.toArray⟩ cap) e ((bytesRow ⟨l.toArray⟩ cap).size, (bytesRow ⟨l.toArray⟩ cap).size + 1))).heap[w.heap.size]? = some (.cells (bytesRow ⟨l.toArray⟩ cap) e ((bytesRow ⟨l.toArray⟩ cap).size, (bytesRow ⟨l.toArray⟩ cap).size + 1)) := heap_alloc_at w.drew _
  unfold World.cell?
  simp only [hat, qBg, Nat.mul_one, Nat.add_zero]
  rw [show (bytesRow ⟨l.toArray⟩ cap)[i]? = some (.int .u8 (l[i].toNat : Int)) from by
   simp [bytesRow, Array.getElem?_append, hil]]
  simp [List.getD, hil]
 ·obtain ⟨b, hb, rfl⟩ : ∃ b, l[i]? = some b /\ AV.int .u8 (b.toNat : Int) = x := by simpa using hi
  have hj0 : j = 0 := by
   cases j with
   | zero => rfl
   | succ j => simp [AV.cells] at hj
  subst hj0
  simp only [AV.cells, qBe, qAf] at hj
  subst hj
  simp only [List.getD, hb, Option.getD_some]
  exact .int _ _
theorem convH_rel (TT : TabOk P C) (R : Rel s h w) {src dst : Nat} {a v : AV} {u : Value} (ha : VR s h w a u) (hv : convH C h src dst a = some v) : HRun P s h w (convert src dst u) v h := by
 unfold convH at hv
 simp only [qAd] at hv
 replace hv := qAc.1 hv
 obtain ⟨ts, hts, hv⟩ := hv
 obtain ⟨d, hd, hok⟩ := (TT src ts hts).und
 generalize ts.td = td at hv hok
 cases td <;> simp only at hv <;> first | exact (conv_rel TT ⟨d, hd⟩ ha hv).heap R | skip
 case str =>
  obtain ⟨td, htd, hv⟩ := qAc.1 hv
  split at hv
  ·rename_i e l hde hdl
   obtain ⟨te, hte, hv⟩ := qAc.1 hv
   split at hv
   ·rename_i k hk
    split at hv <;> first | (cases hv; done) | skip
    rename_i hk8
    have hk8 : k = .u8 := by simpa using hk8
    subst hk8
    simp only [qAf] at hv
    subst hv
    obtain ⟨dd, hdd, hokd⟩ := (TT dst td htd).und
    obtain ⟨de, hde', hoke⟩ := (TT e te hte).und
    rw [hde] at hokd
    rw [hk] at hoke
    cases d <;> simp only [TD.ok] at hok
    cases dd <;> simp only [TD.ok] at hokd
    subst hokd
    cases de <;> simp only [TD.ok] at hoke
    subst hoke
    cases ha
    exact bytes_run R hd hdd hde'
   ·cases hv
  ·exact (conv_rel TT ⟨d, hd⟩ ha hv).heap R
 rename_i e
 cases d <;> simp only [TD.ok] at hok
 rw [hok] at hd
 replace hv := qAc.1 hv
 obtain ⟨te, hte, hv⟩ := hv
 replace hv := qAc.1 hv
 obtain ⟨ti, hti, hv⟩ := hv
 obtain ⟨de, hde, hoke⟩ := (TT e te hte).und
 obtain ⟨dd, hdd, hokd⟩ := (TT dst ti hti).und
 generalize te.td = tde at hv hoke
 generalize ti.td = tdd at hv hokd
 cases tde <;> cases tdd <;> simp only [reduceCtorEq] at hv
 rename_i k
 split at hv
 ·rename_i hk
  have hk' : k = .u8 := by simpa using hk
  subst hk'
  cases de <;> simp only [TD.ok] at hoke
  subst hoke
  cases dd <;> simp only [TD.ok] at hokd
  replace hv := qAc.1 hv
  obtain ⟨ys, hys, hv⟩ := hv
  obtain ⟨l, hl, rfl⟩ := qAl.1 hv
  obtain ⟨ns, rfl, rfl⟩ := bytesOf_cells hl
  obtain ⟨A, c, rfl, hread⟩ := elems_reads R ha hys
  have hcells := ints_flat ns
  by_cases h0 : 0 < (ns.map (AV.int .u8)).length
  ·obtain ⟨b, off, rfl, hr⟩ := hread h0
   rw [hcells] at hr
   refine PRun.heap R ⟨_, run_convert_bytes_arg w src e hd hde b off _ c ns (by simp) (fun i hi => ?_) dst hdd, ?_⟩
   ·have hi' : i < ns.length := by simpa using hi
    obtain ⟨x, hx, hxr⟩ := hr i (.int .u8 ns[i]) (by simp [hi'])
    cases hxr
    rw [hx]; simp [List.getD, hi']
   ·unfold strOfNums
    exact .str _
  ·have hn : ns = [] := by cases ns with | nil => rfl | cons _ _ => simp at h0
   subst hn
   refine PRun.heap R ⟨.string ⟨#[]⟩, ?_, .str []⟩
   rw [run_convert_bytes_string w src dst e _ _ _ hd hde hdd]
   cases A with
   | none => simp [Conv.bytesToString]; rfl
   | some A =>
    have := run_bytesToString (P := P) w A 0 c [] (by simp [loadCells, loadCellsFrom])
    exact this
 ·cases hv
theorem cap_rel (TT : TabOk P C) {t n : Nat} {ti : TI} {e : Nat} (hti : C.ty t = some ti) (htd : ti.td = .slice e) {x : AV} {u : Value} (hx : VR s h w x u) (hc : capA h x = some n) (ty : TypeId) :
  (Builtin.cap_ #[t] ty #[u]).run P w = .ok (.int .i64 n) w := by
 obtain ⟨d, hd, hok⟩ := (TT t ti hti).und
 rw [htd] at hok
 cases d <;> simp only [TD.ok] at hok
 simp only [Builtin.cap_, List.getElem?_toArray, qBe, Sem.run_bind, Result.andThen_ok, run_und hd]
 cases x <;> simp only [capA, reduceCtorEq] at hc
 case lst xs z r =>
  cases xs with
  | nil =>
   cases r <;> simp only [qAf, reduceCtorEq] at hc
   ·subst hc
    cases hx with
    | lstNil => rfl
    | lst _ _ _ b off c f h1 h2 => exact h2.elim
   ·subst hc
    cases hx with
    | lstEmpty => rfl
    | lst _ _ _ b off c f h1 h2 => have : c = _ := h2; subst this; rfl
  | cons a xs =>
   cases r <;> simp only [qAf, reduceCtorEq] at hc
   subst hc
   cases hx with
   | lst _ _ _ b off c f h1 h2 => have : c = _ := h2; subst this; rfl
 case msl o off len sz g cap =>
  cases cap <;> simp only [reduceCtorEq] at hc
  split at hc
  ·rename_i hl
   injection hc with hc; subst hc
   cases hx with
   | msl _ _ _ _ _ _ b c el n off' hoff h1 h2 h3 h4 => rw [h4 _ rfl]; rfl
   | mslOld _ _ _ _ _ _ g' a n c h1 h2 => have := genOf_live hl; rw [this] at h1; injection h1; omega
  ·cases hc
theorem goInt_eq (n : Int) : goInt n = .int .i64 n := rfl
theorem clear_rel (TT : TabOk P C) (R : Rel s h w) {t : Nat} {x v : AV} {u : Value} {h' : Heap} (hx : VR s h w x u) (hm : moreA C h .clear [t] [x] = some (v, h')) (ty : TypeId) : HRun P s h w (Builtin.clear_ #[t] ty #[u]) v h' := by
 simp only [moreA, qAd] at hm
 replace hm := qAc.1 hm
 obtain ⟨ti, hti, hm⟩ := hm
 obtain ⟨d, hd, hok⟩ := (TT t ti hti).und
 generalize ti.td = td at hok hm
 have tup : ∀ {s' : Sim} {h' : Heap} {w' : World}, VR s' h' w' (.tup []) (.tuple #[]) := .tup [] #[] rfl fun i c hi => by simp at hi
 cases td <;> cases x <;> (try simp only [reduceCtorEq] at hm)
 case slice.lst e xs z r =>
  cases xs with
  | cons a xs => cases hm
  | nil =>
  simp only [qAf, qAg] at hm
  obtain ⟨rfl, rfl⟩ := hm
  cases d <;> simp only [TD.ok] at hok
  refine ⟨s, w, .tuple #[], ?_, Ext.refl _ _ _, R, tup⟩
  cases hx <;> simp [Builtin.clear_, run_und hd]
 case slice.msl e o off len sz g cap =>
  replace hm := qAc.1 hm
  obtain ⟨te, hte, hm⟩ := hm
  replace hm := qAc.1 hm
  obtain ⟨cs, hcs, hm⟩ := hm
  cases d <;> simp only [TD.ok] at hok
  rw [hok] at hd
  have T := TT e te hte
  cases hx with
  | mslOld _ _ _ _ _ _ g' a n c h1 h2 => have := (genOf_obj hcs).1; rw [this] at h1; injection h1; omega
  | msl _ _ _ _ _ _ b c el n off' hoff h1 h2 h3 h4 h5 h6 h7 =>
   split at hm
   ·rename_i h0
    have h0' : len = 0 := by simpa using h0
    subst h0'
    simp only [qAf, qAg] at hm
    obtain ⟨rfl, rfl⟩ := hm
    exact ⟨s, w, .tuple #[], by simp [Builtin.clear_, run_und hd], Ext.refl _ _ _, R, tup⟩
   rename_i h0
   have h0' : len ≠ 0 := by simpa using h0
   split at hm
   ·rename_i hc
    simp only [qAa, beq_iff_eq, decide_eq_true_eq] at hc
    obtain ⟨⟨⟨c1, c2⟩, c3⟩, c4⟩ := hc
    simp only [qAf, qAg] at hm
    obtain ⟨rfl, rfl⟩ := hm
    obtain rfl : off' = off := hoff.resolve_right (by omega)
    obtain ⟨z, hz1, hz2⟩ := zero_rel (P := P) (s := s) (h := h) (w := w) T
    have hzr := zeros_rel hz2 len
    have hzl : z.cells.size = te.size := by have := hz2.1; simp at this; omega
    obtain ⟨w', k1, k2, k3⟩ := store_cells (P := P) R h2 hcs (off := off') (xs := copies len te.zero) (by rw [copies_length, c3, ← c1]; exact c2) hzr (all_one hzr (by
     rw [qBd]
     intro y hy
     obtain ⟨i, hi⟩ := List.mem_iff_getElem?.1 hy
     have hlt := (qAu.1 hi).1
     rw [copies_length] at hlt
     rw [copies_get _ _ _ hlt] at hi
     exact qBd.1 c4 y (qBj hi))) 0
    have hrun := k1 off' (by omega)
    refine ⟨s, w', .tuple #[], ?_, k2, k3, tup⟩
    obtain ⟨m, rfl⟩ : ∃ m, len = m + 1 := ⟨len - 1, by omega⟩
    simp only [Builtin.clear_, List.getElem?_toArray, qBe, Sem.run_bind, Sem.run_pure, Result.andThen_ok, run_und hd, hz1]
    simp only [Builtin.zeroCells] at hrun ⊢
    rw [hrun]
    rfl
   ·cases hm
 case map.nilMap kt et =>
  simp only [qAf, qAg] at hm
  obtain ⟨rfl, rfl⟩ := hm
  cases hx
  exact ⟨s, w, .tuple #[], by simp [Builtin.clear_, run_und hd], Ext.refl _ _ _, R, tup⟩
 case map.map kt et o =>
  replace hm := qAc.1 hm
  obtain ⟨es, hes, hm⟩ := hm
  simp only [qAf, qAg] at hm
  obtain ⟨rfl, rfl⟩ := hm
  obtain ⟨b, en, cl, es0, rfl, hb, hheap, hp0, hE, hSt⟩ := map_obj R hes hx
  obtain ⟨E, R'⟩ := map_write (es' := []) (es0' := []) (en' := #[]) (cl' := cl) R hb (mapAt_some hes) hheap ⟨List.Perm.refl _, List.Pairwise.nil⟩ ⟨rfl, fun i e hi => by simp at hi⟩ (MapKept.stamped_empty _)
  refine ⟨s, _, .tuple #[], ?_, E, R', tup⟩
  simp only [Builtin.clear_, List.getElem?_toArray, qBe, Sem.run_bind, Sem.run_pure, Result.andThen_ok, run_und hd, run_getMap hheap, run_setMap hheap]
theorem copy_rel (TT : TabOk P C) (R : Rel s h w) {t t2 : Nat} {x y v : AV} {u ux : Value} {h' : Heap} (hx : VR s h w x u) (hy : VR s h w y ux) (hm : moreA C h .copy [t, t2] [x, y] = some (v, h')) (ty : TypeId) : HRun P s h w (Builtin.copy_ #[t, t2] ty #[u, ux]) v h' := by
 simp only [moreA, qAd] at hm
 replace hm := qAc.1 hm
 obtain ⟨ti, hti, hm⟩ := hm
 obtain ⟨d, hd, hok⟩ := (TT t ti hti).und
 generalize ti.td = td at hok hm
 cases td <;> simp only [reduceCtorEq] at hm
 rename_i e
 cases d <;> simp only [TD.ok] at hok
 rw [hok] at hd
 replace hm := qAc.1 hm
 obtain ⟨te, hte, hm⟩ := hm
 have T := TT e te hte
 replace hm := qAc.1 hm
 obtain ⟨ys, hys, hm⟩ := hm
 obtain ⟨A, cy, rfl, hread⟩ := elems_reads R hy hys
 have load0 : ∀ (A : Option Addr) (l c : Nat), (Builtin.firstCells te.size 0 (.slice A l c)).run P w = .ok #[] w := by
  intro A l c
  cases A with
  | none => rfl
  | some A => simp [Builtin.firstCells, loadCells, loadCellsFrom]
 have zero : ∀ (B : Option Addr) (dl dc : Nat), Nat.min ys.length dl = 0 -> (Builtin.copy_ #[t, t2] ty #[.slice B dl dc, .slice A ys.length cy]).run P w = .ok (.int .i64 0) w := by
  intro B dl dc hmin
  simp only [Builtin.copy_, List.getElem?_toArray, qBe, List.getElem?_cons_succ, Sem.run_bind, Sem.run_pure, Result.andThen_ok, run_und hd, Builtin.lenOf, run_sizeA T, hmin, load0]
  cases B <;> simp [storeCells, goInt_eq]
 cases x <;> (try simp only [reduceCtorEq] at hm)
 case lst xs z r =>
  cases xs with
  | cons a xs => cases hm
  | nil =>
  simp only [qAf, qAg] at hm
  obtain ⟨rfl, rfl⟩ := hm
  cases hx with
  | lstNil => exact ⟨s, w, .int .i64 0, zero _ _ _ (by simp), Ext.refl _ _ _, R, .int _ _⟩
  | lstEmpty => exact ⟨s, w, .int .i64 0, zero _ _ _ (by simp), Ext.refl _ _ _, R, .int _ _⟩
  | lst _ _ _ b off c f => exact ⟨s, w, .int .i64 0, zero _ _ _ (by simp), Ext.refl _ _ _, R, .int _ _⟩
 case msl o off len sz g cap =>
  replace hm := qAc.1 hm
  obtain ⟨cs, hcs, hm⟩ := hm
  cases hx with
  | mslOld _ _ _ _ _ _ g' a n c h1 h2 => have := (genOf_obj hcs).1; rw [this] at h1; injection h1; omega
  | msl _ _ _ _ _ _ b c el n off' hoff h1 h2 h3 h4 h5 h6 h7 =>
   split at hm
   ·rename_i h0
    have h0' : Nat.min ys.length len = 0 := by simpa using h0
    simp only [qAf, qAg] at hm
    obtain ⟨rfl, rfl⟩ := hm
    exact ⟨s, w, .int .i64 0, zero _ _ _ h0', Ext.refl _ _ _, R, .int _ _⟩
   rename_i h0
   have h0' : Nat.min ys.length len ≠ 0 := by simpa using h0
   split at hm
   ·rename_i hc
    simp only [qAa, beq_iff_eq, decide_eq_true_eq] at hc
    obtain ⟨⟨⟨c1, c2⟩, c3⟩, c4⟩ := hc
    simp only [qAf, qAg] at hm
    obtain ⟨rfl, rfl⟩ := hm
    have hl1 : Nat.min ys.length len <= len := Nat.min_le_right _ _
    have hl2 : Nat.min ys.length len <= ys.length := Nat.min_le_left _ _
    obtain rfl : off' = off := hoff.resolve_right (by omega)
    obtain ⟨by_, offy, rfl, hr⟩ := hread (by omega)
    obtain ⟨vs, v1, v2, v3⟩ := reads_list (hr.take (Nat.min ys.length len * te.size))
    have hVs : VRs s h w (((ys.map AV.cells).flatten).take (Nat.min ys.length len * te.size)) vs := ⟨v1.symm, fun i c hi => by
     have hlt : i < vs.length := by rw [v1]; exact (qAu.1 hi).1
     refine ⟨vs[i], qAs hlt, ?_⟩
     have := v3 i c hi
     simpa [hlt] using this⟩
    have hload := run_loadCells_list (P := P) (w := w) ⟨by_, offy, none⟩ vs (fun j v hj => by rw [addr_add]; exact v2 j v hj)
    rw [v1, c3] at hload
    have hmul : Nat.min ys.length len * te.size <= len * sz := by rw [← c1]; exact Nat.mul_le_mul_right _ hl1
    obtain ⟨w', k1, k2, k3⟩ := store_cells (P := P) R h2 hcs (off := off') (by rw [c3]; omega) hVs (all_one hVs c4) 0
    have hrun := k1 off' (by omega)
    refine ⟨s, w', .int .i64 (Nat.min ys.length len), ?_, k2, k3, .int _ _⟩
    simp only [Builtin.copy_, List.getElem?_toArray, qBe, List.getElem?_cons_succ, Sem.run_bind, Sem.run_pure, Result.andThen_ok, run_und hd, Builtin.lenOf, run_sizeA T, Builtin.firstCells, hload, hrun, goInt_eq]
   ·cases hm
theorem erase_rel {k : AV} {f : Value -> Option Bool} (hF : Cmp s h w k f) : ∀ {es es' : List (AV × AV)} {en : List MapEntry} (j : Nat), Ents s h w es en -> eraseA k es = some es' ->
  (∃ i y, findBy f en j = some (some (j + i, y)) /\ i < en.length /\ Ents s h w es' (en.eraseIdx i)) ∨ (findBy f en j = some none /\ Ents s h w es' en)
 | [], _, [], j, _, hp => by
  simp only [eraseA, qAf] at hp
  subst hp
  exact .inr ⟨rfl, rfl, fun i e hi => by simp at hi⟩
 | [], _, _ :: _, _, H, _ => by have := H.1; simp at this
 | _ :: _, _, [], _, H, _ => by have := H.1; simp at this
 | (k', v') :: es, es', m :: en, j, H, hp => by
  obtain ⟨⟨hk', hv'⟩, ht⟩ := H.tail
  simp only [eraseA, qAd] at hp
  obtain ⟨p, hp1, hp⟩ := qAc.1 hp
  have hs := hF k' m.key p hk' hp1
  simp only [findBy, hs]
  cases p with
  | true =>
   simp only [if_true, qAf] at hp
   subst hp
   exact .inl ⟨0, m.val, rfl, by simp, by simpa using ht⟩
  | false =>
   simp only [qAb, if_false] at hp
   obtain ⟨es2, hp2, rfl⟩ := qAl.1 hp
   rcases erase_rel hF (j + 1) ht hp2 with ⟨i, y, h1, h2, h3⟩ | ⟨h1, h2⟩
   ·refine .inl ⟨i + 1, y, by rw [h1, show j + 1 + i = j + (i + 1) from by omega], by simpa using h2, ?_⟩
    simp only [List.eraseIdx_cons_succ]
    exact Ents.cons ⟨hk', hv'⟩ h3
   ·exact .inr ⟨h1, Ents.cons ⟨hk', hv'⟩ h2⟩
theorem delete_rel (TT : TabOk P C) (R : Rel s h w) {t t2 : Nat} {x k v : AV} {u uk : Value} {h' : Heap} (hx : VR s h w x u) (hk : VR s h w k uk) (hm : moreA C h .delete [t, t2] [x, k] = some (v, h')) (ty : TypeId) : HRun P s h w (Builtin.delete_ #[t, t2] ty #[u, uk]) v h' := by
 simp only [moreA, qAd] at hm
 replace hm := qAc.1 hm
 obtain ⟨ti, hti, hm⟩ := hm
 obtain ⟨d, hd, hok⟩ := (TT t ti hti).und
 generalize ti.td = td at hok hm
 cases td <;> simp only [reduceCtorEq] at hm
 rename_i kt et
 replace hm := qAc.1 hm
 obtain ⟨tk, htk, hm⟩ := hm
 by_cases hkey0 : keyTd C kt tk.td k = false
 ·simp [hkey0] at hm
 have hkey : keyTd C kt tk.td k = true := by simpa using hkey0
 simp only [hkey, Bool.not_true, qAb, if_false] at hm
 cases d <;> simp only [TD.ok] at hok
 obtain ⟨rfl, rfl⟩ := hok
 obtain ⟨fc, hF, hQ, hself, hbits, hfind, hcheck⟩ := key_run TT htk hkey hk
 have tup : ∀ {s' : Sim} {h' : Heap} {w' : World}, VR s' h' w' (.tup []) (.tuple #[]) := .tup [] #[] rfl fun i c hi => by simp at hi
 cases x <;> simp only [reduceCtorEq] at hm
 case nilMap =>
  simp only [qAf, qAg] at hm
  obtain ⟨rfl, rfl⟩ := hm
  cases hx
  refine ⟨s, w, .tuple #[], ?_, Ext.refl _ _ _, R, tup⟩
  simp only [Builtin.delete_, List.getElem?_toArray, qBe, List.getElem?_cons_succ, Sem.run_bind, Sem.run_pure, Result.andThen_ok, run_und hd, hcheck]
 case map o =>
  replace hm := qAc.1 hm
  obtain ⟨es, hes, hm⟩ := hm
  replace hm := qAc.1 hm
  obtain ⟨es', hes', hm⟩ := hm
  simp only [qAf, qAg] at hm
  obtain ⟨rfl, rfl⟩ := hm
  obtain ⟨b, en, cl, es0, rfl, hb, hheap, hp0, hE, hSt⟩ := map_obj R hes hx
  obtain ⟨es0', hes0', hp1, hk1⟩ := eraseA_perm hp0.2 hp0.1.symm hes'
  rcases erase_rel hF 0 hE hes0' with ⟨i, y, h1, h2, h3⟩ | ⟨h1, h2⟩
  ·have hE' : Ents s h w es0' (en.eraseIdxIfInBounds i).toList := by
    have : (en.eraseIdxIfInBounds i).toList = en.toList.eraseIdx i := by simp
    rw [this]; exact h3
   obtain ⟨E, R'⟩ := map_write (cl' := cl) R hb (mapAt_some hes) hheap ⟨hp1.symm, hk1⟩ hE' (MapKept.stamped_erase hSt i)
   refine ⟨s, _, .tuple #[], ?_, E, R', tup⟩
   simp only [qBg] at h1
   simp only [Builtin.delete_, List.getElem?_toArray, qBe, List.getElem?_cons_succ, Sem.run_bind, Sem.run_pure, Result.andThen_ok, run_und hd, run_getMap hheap, hcheck, hfind _ _ w h1, run_setMap hheap]
  ·obtain ⟨E, R'⟩ := map_write (en' := en) (cl' := cl) R hb (mapAt_some hes) hheap ⟨hp1.symm, hk1⟩ h2 hSt
   refine ⟨s, _, .tuple #[], ?_, E, R', tup⟩
   simp only [Builtin.delete_, List.getElem?_toArray, qBe, List.getElem?_cons_succ, Sem.run_bind, Sem.run_pure, Result.andThen_ok, run_und hd, run_getMap hheap, hcheck, hfind _ _ w h1, run_setMap hheap]
theorem more_rel (TT : TabOk P C) (R : Rel s h w) {b : Builtin} {ts : List Nat} {vs : List AV} {us : List Value} {v : AV} {h' : Heap} (hr : VRs s h w vs us) (hm : moreA C h b ts vs = some (v, h')) (ty : TypeId) :
  ∃ m, (∀ cs : Array Bool, builtin b ts.toArray ty cs us.toArray = (do pure (Next.value (← m)))) /\ HRun P s h w m v h' := by
 have one : ∀ {x : AV}, VRs s h w [x] us -> ∃ u, us = [u] /\ VR s h w x u := fun {x} H => by
  obtain ⟨u, rfl⟩ := List.length_eq_one_iff.1 (show us.length = 1 by rw [← H.1]; rfl)
  obtain ⟨u', h1, h2⟩ := H.2 0 x rfl
  simp at h1; subst h1
  exact ⟨_, rfl, h2⟩
 have two : ∀ {x y : AV}, VRs s h w [x, y] us -> ∃ u u2, us = [u, u2] /\ VR s h w x u /\ VR s h w y u2 := fun {x y} H => by
  have hl : us.length = 2 := by rw [← H.1]; rfl
  match us, hl, H with
  | [u, u2], _, H =>
   obtain ⟨u', h1, h2⟩ := H.2 0 x rfl
   obtain ⟨u2', h3, h4⟩ := H.2 1 y rfl
   simp at h1 h3; subst h1 h3
   exact ⟨_, _, rfl, h2, h4⟩
 have hm0 := hm
 unfold moreA at hm
 split at hm
 ·obtain ⟨u, rfl, hx⟩ := one hr
  simp only [qAd] at hm
  replace hm := qAc.1 hm
  obtain ⟨ti, hti, hm⟩ := hm
  split at hm
  ·rename_i e htd
   obtain ⟨n, hn, he⟩ := qAl.1 hm
   simp only [qAg] at he
   obtain ⟨rfl, rfl⟩ := he
   exact ⟨_, fun _ => rfl, s, w, _, cap_rel TT hti htd hx hn ty, Ext.refl _ _ _, R, .int _ _⟩
  ·cases hm
 ·obtain ⟨u, rfl, hx⟩ := one hr
  exact ⟨_, fun _ => rfl, clear_rel TT R hx hm0 ty⟩
 ·obtain ⟨u, u2, rfl, hx, hy⟩ := two hr
  exact ⟨_, fun _ => rfl, copy_rel TT R hx hy hm0 ty⟩
 ·obtain ⟨u, u2, rfl, hx, hy⟩ := two hr
  exact ⟨_, fun _ => rfl, delete_rel TT R hx hy hm0 ty⟩
 ·obtain ⟨u, u2, rfl, hx, hy⟩ := two hr
  split at hm
  ·simp only [qAf, qAg] at hm
   obtain ⟨rfl, rfl⟩ := hm
   cases hx; cases hy
   exact ⟨_, fun _ => rfl, s, w, _, rfl, Ext.refl _ _ _, R, .int _ _⟩
  ·cases hm
 ·obtain ⟨u, u2, rfl, hx, hy⟩ := two hr
  split at hm
  ·simp only [qAf, qAg] at hm
   obtain ⟨rfl, rfl⟩ := hm
   cases hx; cases hy
   exact ⟨_, fun _ => rfl, s, w, _, rfl, Ext.refl _ _ _, R, .int _ _⟩
  ·cases hm
 ·cases hm
end
end Go.Rv
namespace Go.Rv
section
variable {P : Program} {C : Cfg} {s : Sim} {h : Heap} {w : World}
def Sim.give (s : Sim) (o b : Nat) : Sim := { s with μ := fun k => if k = o then none else s.μ k, I := fun c => s.I c ∨ c = b }
theorem give_map (R : Rel s h w) {o b : Nat} {es : List (AV × AV)} (hb : s.μ o = some b) (ho : h[o]? = some (.map es)) : Ext s h w (s.give o b) (h.set o (.cells [] 1)) w /\ Rel (s.give o b) (h.set o (.cells [] 1)) w := by
 have hlt := (qAu.1 ho).1
 have E : Ext s h w (s.give o b) (h.set o (.cells [] 1)) w := by
  refine ⟨⟨qAr _, fun _ _ _ => rfl, fun _ _ h => h, fun _ h => .inl h, fun k g0 hg0 => ?_, fun k g0 hg0 hg1 => ?_, fun k hk hg => ?_, fun k c hc => ?_, rfl, rfl, rfl, fun k hk => ?_, rfl⟩, fun k c _ hc => ?_, fun k _ hn => ?_, fun c _ hc => hc.elim .inl fun e => .inr ⟨o, e ▸ hb⟩⟩
  ·rw [genOf_set (g := g0)]
   by_cases e : o = k
   ·subst e
    have : g0 = 0 := by simp [genOf, ho] at hg0; omega
    exact ⟨1, by simp [hlt], by omega⟩
   ·exact ⟨g0, by simp [e, hg0], qAr _⟩
  ·by_cases e : o = k
   ·subst e
    have : g0 = 0 := by simp [genOf, ho] at hg0; omega
    rw [genOf_set (g := g0)] at hg1
    simp [hlt] at hg1
    omega
   ·exact ⟨fun c hc => by simp [Sim.give, Ne.symm e, hc], lenOf_set e⟩
  ·by_cases e : o = k
   ·subst e
    rw [genOf_set (g := 0)] at hg
    simp [hlt] at hg
   ·rw [isMap_set e]; exact hk
  ·simp only [Sim.give] at hc
   split at hc
   ·cases hc
   ·exact .inl ⟨k, hc⟩
  ·by_cases e : o = k
   ·subst e; simp [isLoop, ho] at hk
   ·rw [isLoop_set e]; exact hk
  ·simp only [Sim.give] at hc
   split at hc
   ·cases hc
   ·exact ⟨c, hc⟩
  ·have : o ≠ k := by rintro rfl; rw [hb] at hn; cases hn
   exact qAw this
 refine ⟨E, fun k k' c hk hk' => ?_, fun k c hk => ?_, fun k c hk hI => ?_, fun c hI => ?_⟩
 ·simp only [Sim.give] at hk hk'
  split at hk <;> split at hk' <;> first | cases hk | cases hk' | exact R.inj k k' c hk hk'
 ·simp only [Sim.give] at hk
  split at hk
  ·cases hk
  ·rename_i e
   obtain ⟨x, hx, hr⟩ := R.obj k c hk
   exact ⟨x, by rw [qAw (Ne.symm e)]; exact hx, hr.ext R.apart E rfl⟩
 ·simp only [Sim.give] at hk hI
  split at hk
  ·cases hk
  ·rename_i e
   rcases hI with hI | hI
   ·exact R.apart k c hk hI
   ·subst hI; exact e (R.inj k o c hk hb)
 ·rcases hI with hI | hI
  ·exact R.imm c hI
  ·subst hI; exact R.lt hb
theorem range_rel (TT : TabOk P C) (R : Rel s h w) {t o : Nat} {ti : TI} {kt et : Nat} (hti : C.ty t = some ti) (htd : ti.td = .map kt et) {u : Value} (hv : VR s h w (.map o) u) {es : List (AV × AV)} (ho : h.mapAt o = some es) :
  HRun P s h w (Instr.range t u) (.ptr h.length 0 0) (h.set o (.cells [] 1) ++ [.iter 0 es]) := by
 obtain ⟨d, hd, hok⟩ := (TT t ti hti).und
 rw [htd] at hok
 cases d <;> simp only [TD.ok] at hok
 obtain ⟨b, en, cl, es0, rfl, hb, hheap, hp0, hE, hS⟩ := map_obj R ho hv
 obtain ⟨E1, R1⟩ := give_map R hb (mapAt_some ho)
 have hl : (h.set o (.cells [] 1)).length = h.length := by simp
 have E2 := Ext.new R1 (.mapIter (some b) cl #[] cl) (.iter 0 es)
 have R2 := Rel.new R1 (.mapIter (some b) cl #[] cl) (.iter 0 es) ⟨b, cl, #[], cl, en, cl, heap_alloc_at w _, .inr rfl, (heap_alloc_lt w _ (R.lt hb)).trans hheap, fun _ => ⟨rfl, rfl, rfl, by rw [← hp0.1.length_eq]; simpa using hE.1, hS, es0, hp0, fun i e hi => by
  obtain ⟨m, hm, h1, h2⟩ := hE.2 i e hi
  exact ⟨m, by simpa using hm, (h1.ext R.apart E1).ext R1.apart E2, (h2.ext R.apart E1).ext R1.apart E2⟩⟩, fun hk => by cases hk⟩
 rw [hl] at E2 R2
 refine ⟨_, _, _, run_range_map w t _ _ b en cl hd hheap, E1.trans E2, R2, .ptr h.length 0 0 w.heap.size ?_ (by simp [Sim.add])⟩
 have := genOf_new (h := h.set o (.cells [] 1)) (x := .iter 0 es)
 rw [hl] at this
 exact this
theorem iterAt_some {o k : Nat} {es : List (AV × AV)} (ho : h.iterAt o = some (k, es)) : h[o]? = some (.iter k es) := by
 unfold Heap.iterAt at ho
 split at ho
 ·rename_i k' es' hx
  simp only [qAf, qAg] at ho
  obtain ⟨rfl, rfl⟩ := ho
  exact hx
 ·cases ho
theorem iter_obj (R : Rel s h w) {o k : Nat} {es : List (AV × AV)} (ho : h.iterAt o = some (k, es)) {u : Value} (hv : VR s h w (.ptr o 0 0) u) : ∃ b, u = .pointer (some ⟨b, 0, none⟩) /\ s.μ o = some b /\ ORel s h w b (.iter k es) := by
 cases hv with
 | ptr _ _ _ b hg hb =>
  obtain ⟨x, hx, hr⟩ := R.obj o b hb
  rw [iterAt_some ho] at hx
  injection hx with hx; subst hx
  exact ⟨b, rfl, hb, hr⟩
 | ptrOld _ _ _ g' a hg hlt => simp [genOf, iterAt_some ho] at hg; omega
theorem entry_rel (R : Rel s h w) {o : Nat} {p : AV × AV} (ho : h.iterAt o = some (2, [p])) {u : Value} (hv : VR s h w (.ptr o 0 0) u) : HRun P s h w (Instr.entry u) (.tup [p.1, p.2]) h := by
 obtain ⟨b, rfl, hb, bm, since, seen, last, en, cl, h1, h2, h3, _, h5⟩ := iter_obj R ho hv
 obtain ⟨hp, hl, hS, hes⟩ := h5 rfl
 obtain ⟨m, hm, hback, hk, hx⟩ := hes p (by simp)
 refine ⟨s, w, .tuple #[m.key, m.val], ?_, Ext.refl _ _ _, R, .tup _ _ rfl fun i c hi => ?_⟩
 ·have hf : en.find? (·.born == m.born) = some m := by rw [← Array.find?_toList]; exact find_born m en.toList hS.2.1 hm
  subst hl
  simp only [Instr.entry, getObj, Sem.run_bind, Sem.run, h1, h3, Result.andThen, hback, bne_self_eq_false, qAb, if_false, hf]
  rfl
 ·match i, hi with
  | 0, hi => simp at hi; subst hi; exact hk
  | 1, hi => simp at hi; subst hi; exact hx
  | i + 2, hi => simp at hi
end
theorem VR.regood {s : Sim} {h : Heap} {w : World} (g : Fixed) {x : AV} {v : Value} (H : VR s h w x v) : VR { s with good := g } h w x v := by
 induction H with
 | bool b => exact .bool b
 | int k n => exact .int k n
 | str l => exact .str l
 | nilPtr => exact .nilPtr
 | nilMap => exact .nilMap
 | nilFunc => exact .nilFunc
 | nilIface => exact .nilIface
 | junk v => exact .junk v
 | ptr o off g b hg hb => exact .ptr o off g b hg hb
 | ptrOld o off g g1 a hg hlt => exact .ptrOld o off g g1 a hg hlt
 | ref cs b off f hI hc _ ih => exact .ref cs b off f hI hc ih
 | lstNil z => exact .lstNil z
 | lstEmpty z A => exact .lstEmpty z A
 | lst xs z r b off c f hI hr hle hz hc _ ih => exact .lst xs z r b off c f hI hr hle hz hc ih
 | msl o off len z g cap b c el n off' hoff hg hb hle hcap hnone hsh hn => exact .msl o off len z g cap b c el n off' hoff hg hb hle hcap hnone hsh hn
 | mslOld o off len z g cap g1 a n c hg hlt => exact .mslOld o off len z g cap g1 a n c hg hlt
 | clo f cs vs hl _ ih => exact .clo f cs vs hl ih
 | bnd f cs vs hl _ ih => exact .bnd f cs vs hl ih
 | map o b hg hb => exact .map o b hg hb
 | mapOld o g b hg hb => exact .mapOld o g b hg hb
 | yld o b hg hb => exact .yld o b hg hb
 | yldOld o g b hg hb => exact .yldOld o g b hg hb
 | iface t x v hx ih => exact .iface t x v ih
 | agg cs vs hl _ ih => exact .agg cs vs hl ih
 | tup cs vs hl _ ih => exact .tup cs vs hl ih
theorem VRs.regood {s : Sim} {h : Heap} {w : World} (g : Fixed) {xs : List AV} {vs : List Value} (H : VRs s h w xs vs) : VRs { s with good := g } h w xs vs :=
 ⟨H.1, fun i c hi => let ⟨v, h1, h2⟩ := H.2 i c hi; ⟨v, h1, h2.regood g⟩⟩
end Go.Rv
namespace Go.Rv
section
variable {P : Program} {C : Cfg} {s : Sim} {h : Heap} {w : World}
def GlobOk (C : Cfg) : Prop := ∀ g v, C.glob g = some v -> v ≠ .junk
theorem evalA_ne (K : GlobOk C) {e : Env} {x : Operand} {v : AV} (hv : evalA C e x = some v) : v ≠ .junk := by
 cases x with
 | tmp t =>
  simp only [evalA] at hv
  split at hv
  ·cases hv
  ·rename_i hne
   injection hv with hv
   subst hv
   exact hne
 | const c =>
  simp only [evalA] at hv
  rintro rfl
  unfold ofValue at hv
  repeat' split at hv
  all_goals cases hv
 | global g => exact K g v hv
 | func f =>
  simp only [evalA, qAf] at hv
  subst hv
  simp
def ORun (P : Program) (s : Sim) (h : Heap) (w : World) (m : Sem Next) (v : AV) (h' : Heap) : Prop :=
 ∃ s' w' n u, m.run P w = .ok n w' /\ (n = .value u ∨ (n = .skip /\ u = undef)) /\ Ext s h w s' h' w' /\ Rel s' h' w' /\ VR s' h' w' v u
theorem HRun.op {m : Sem Value} {v : AV} {h' : Heap} (H : HRun P s h w m v h') : ORun P s h w (do pure (Next.value (← m))) v h' := by
 obtain ⟨s', w', x, h1, h2, h3, h4⟩ := H
 exact ⟨s', w', .value x, x, by simp [h1], .inl rfl, h2, h3, h4⟩
theorem PRun.op (R : Rel s h w) {m : Sem Value} {v : AV} (H : PRun P s h w m v) : ORun P s h w (do pure (Next.value (← m))) v h := (H.heap R).op
theorem VR.op (R : Rel s h w) {v : AV} {u : Value} (H : VR s h w v u) : ORun P s h w (pure (Next.value u)) v h :=
 ⟨s, w, .value u, u, rfl, .inl rfl, Ext.refl _ _ _, R, H⟩
theorem mapO_get {α β : Type} {f : α -> Option β} : ∀ {l : List α} {r : List β}, mapO f l = some r -> r.length = l.length /\ ∀ (i : Nat) a, l[i]? = some a -> ∃ b, r[i]? = some b /\ f a = some b
 | [], r, hr => by
  simp only [mapO, qAf] at hr
  subst hr
  exact ⟨rfl, fun i a hi => by simp at hi⟩
 | x :: l, r, hr => by
  simp only [mapO, qAd] at hr
  replace hr := qAc.1 hr
  obtain ⟨b, hb, hr⟩ := hr
  replace hr := qAc.1 hr
  obtain ⟨bs, hbs, hr⟩ := hr
  injection hr with hr; subst hr
  obtain ⟨h1, h2⟩ := mapO_get hbs
  refine ⟨by simp [h1], fun i a hi => ?_⟩
  cases i with
  | zero =>
   simp only [qBe, qAf] at hi
   subst hi
   exact ⟨b, rfl, hb⟩
  | succ i => simpa using h2 i a (by simpa using hi)
theorem args_rel (G : Glob C s h w) {e : Env} {a : Act} (H : EnvRel s h w e a.tmps) {l : List Operand} {vs : List AV} (hv : mapO (evalA C e) l = some vs) : VRs s h w vs (l.map a.eval) := by
 obtain ⟨h1, h2⟩ := mapO_get hv
 refine ⟨by simp [h1], fun i c hi => ?_⟩
 have hlt : i < l.length := by rw [← h1]; exact (qAu.1 hi).1
 obtain ⟨b, hb, hfb⟩ := h2 i l[i] (qAs hlt)
 rw [hi] at hb
 injection hb with hb; subst hb
 exact ⟨a.eval l[i], by simp [hlt], evalA_rel G H hfb⟩
theorem parts_rel (K : GlobOk C) (G : Glob C s h w) {e : Env} {a : Act} (H : EnvRel s h w e a.tmps) {l : Array (Nat × Operand)} {ps : List (Nat × AV)}
  (hv : mapO (fun (p : Nat × Operand) => (evalA C e p.2).map (p.1, ·)) l.toList = some ps) :
  ps.length = (l.map fun (i, x) => (i, a.eval x)).size /\ ∀ (i : Nat) p q, ps[i]? = some p -> (l.map fun (i, x) => (i, a.eval x)).toList[i]? = some q -> p.1 = q.1 /\ VR s h w p.2 q.2 /\ p.2 ≠ .junk := by
 obtain ⟨h1, h2⟩ := mapO_get hv
 refine ⟨by simp [h1], fun i p q hp hq => ?_⟩
 have hlt : i < l.toList.length := by rw [← h1]; exact (qAu.1 hp).1
 obtain ⟨b, hb, hfb⟩ := h2 i l.toList[i] (qAs hlt)
 rw [hp] at hb
 injection hb with hb; subst hb
 obtain ⟨v, hv, rfl⟩ := qAl.1 hfb
 have hq' : q = (l.toList[i].1, a.eval l.toList[i].2) := by
  rw [Array.toList_map, qBc, qAs hlt] at hq
  simp at hq
  exact hq.symm
 subst hq'
 exact ⟨rfl, evalA_rel G H hv, evalA_ne K hv⟩
theorem nilIA_rel (TT : TabOk P C) {op : BinOp} {t : Nat} {x y : Operand} (hn : nilI y = true) {v z : AV} {a : Act} (hv : VR s h w v (a.eval x)) (hz : nilIA C op t v = some z) :
  PRun P s h w (do eqGuard op t x y (a.eval x) (a.eval y); binOp op t (a.eval x) (a.eval y)) z := by
 have hy : y = .const .nilIface := by
  unfold nilI at hn
  split at hn
  ·rfl
  ·cases hn
 subst hy
 simp only [nilIA, qAd] at hz
 obtain ⟨ti, hti, hz⟩ := qAc.1 hz
 obtain ⟨d, hd, hok⟩ := (TT t ti hti).und
 generalize ti.td = td at hz hok
 generalize a.eval x = u at hv
 have he : a.eval (.const .nilIface) = .nilIface := rfl
 rw [he]
 have heq : ∀ (n : Nat) (u : Value) (b : Bool), (u = .nilIface /\ b = true ∨ (∃ t v, u = .iface t v) /\ b = false) -> (∃ ms, d = .interface ms) -> (Op.equalIn (n + 1) t u .nilIface).run P w = .ok b w := by
  rintro n u b (⟨rfl, rfl⟩ | ⟨⟨t', v', rfl⟩, rfl⟩) ⟨ms, rfl⟩ <;> simp only [Op.equalIn, Sem.run_bind, run_und hd, Result.andThen_ok] <;> rfl
 have hE : ∀ (u : Value) (b : Bool), (u = .nilIface /\ b = true ∨ (∃ t v, u = .iface t v) /\ b = false) -> (∃ ms, d = .interface ms) -> (Op.equal t u .nilIface).run P w = .ok b w := fun u b h1 h2 => heq 9999 u b h1 h2
 have hG : ∀ (u : Value), (u = .nilIface ∨ ∃ t v, u = .iface t v) -> (eqGuard op t x (.const .nilIface) u .nilIface).run P w = .ok () w := by
  rintro u (rfl | ⟨t', v', rfl⟩) <;> cases op <;> first | rfl | (cases x <;> rfl)
 have hB : ∀ u : Value, (u = .nilIface ∨ ∃ t v, u = .iface t v) -> binOp .eql t u .nilIface = (do pure (.bool (← Op.equal t u .nilIface))) /\ binOp .neq t u .nilIface = (do pure (.bool (!(← Op.equal t u .nilIface)))) := by
  rintro u (rfl | ⟨t', v', rfl⟩) <;> exact ⟨rfl, rfl⟩
 have fin : ∀ (b : Bool), (u = .nilIface /\ b = true ∨ (∃ t v, u = .iface t v) /\ b = false) -> (∃ ms, d = .interface ms) ->
   (op = .eql -> PRun P s h w (do eqGuard op t x (.const .nilIface) u .nilIface; binOp op t u .nilIface) (.bool b)) /\ (op = .neq -> PRun P s h w (do eqGuard op t x (.const .nilIface) u .nilIface; binOp op t u .nilIface) (.bool !b)) := by
  intro b h1 h2
  have h3 : u = .nilIface ∨ ∃ t v, u = .iface t v := by rcases h1 with ⟨h, _⟩ | ⟨h, _⟩ <;> simp [h]
  have e := hE u b h1 h2
  refine ⟨fun ho => ⟨.bool b, ?_, .bool b⟩, fun ho => ⟨.bool !b, ?_, .bool !b⟩⟩
  ·subst ho
   simp only [Sem.run_bind, hG u h3, Result.andThen_ok, (hB u h3).1, e, Sem.run_pure]
  ·subst ho
   simp only [Sem.run_bind, hG u h3, Result.andThen_ok, (hB u h3).2, e, Sem.run_pure]
 have hif : td = .iface -> ∃ ms, d = .interface ms := by
  rintro rfl
  cases d <;> simp only [TD.ok] at hok
  exact ⟨_, rfl⟩
 split at hz <;> first | (cases hz; done) | skip
 ·simp only [qAf] at hz
  subst hz
  cases hv
  exact (fin true (.inl ⟨rfl, rfl⟩) (hif rfl)).1 rfl
 ·simp only [qAf] at hz
  subst hz
  cases hv
  exact (fin false (.inr ⟨⟨_, _, rfl⟩, rfl⟩) (hif rfl)).1 rfl
 ·simp only [qAf] at hz
  subst hz
  cases hv
  exact (fin true (.inl ⟨rfl, rfl⟩) (hif rfl)).2 rfl
 ·simp only [qAf] at hz
  subst hz
  cases hv
  exact (fin false (.inr ⟨⟨_, _, rfl⟩, rfl⟩) (hif rfl)).2 rfl
theorem op_sound (TT : TabOk P C) (K : GlobOk C) (R : Rel s h w) (G : Glob C s h w) {f : Nat} {e : Env} {a : Act} (H : EnvRel s h w e a.tmps) {o : Oper} {v : AV} {h' : Heap} (hv : opA C f e h o = some (v, h')) :
  ORun P s h w (execOp a.eval o) v h' := by
 have ev : ∀ {x : Operand} {v : AV}, evalA C e x = some v -> VR s h w v (a.eval x) := fun hx => evalA_rel G H hx
 have ob : ∀ {lo : Option Operand} {x : Option AV}, optA C e lo = some x -> VRo s h w x (lo.map a.eval) := by
  intro lo x hx
  cases lo with
  | none => simp only [optA, qAf] at hx; subst hx; trivial
  | some l =>
   obtain ⟨y, hy, rfl⟩ := qAl.1 hx
   exact ev hy
 unfold opA at hv
 simp only [qAd] at hv
 unfold execOp
 generalize ho : o.op = op at hv
 cases op <;> (try simp only [reduceCtorEq] at hv)
 case move x =>
  replace hv := qAc.1 hv
  obtain ⟨y, hy, hv⟩ := hv
  simp only [qAf, qAg] at hv
  obtain ⟨rfl, rfl⟩ := hv
  exact (ev hy).op R
 case assign x =>
  replace hv := qAc.1 hv
  obtain ⟨y, hy, hv⟩ := hv
  simp only [qAf, qAg] at hv
  obtain ⟨rfl, rfl⟩ := hv
  exact (ev hy).op R
 case pick c x y =>
  replace hv := qAc.1 hv
  obtain ⟨t, ht, hv⟩ := hv
  have hc := ev ht
  split at hv
  all_goals (try (cases hv; done))
  all_goals
   replace hv := qAc.1 hv
   obtain ⟨z, hz, hv⟩ := hv
   simp only [qAf, qAg] at hv
   obtain ⟨rfl, rfl⟩ := hv
   generalize hce : a.eval c = ce at hc
   cases hc
   have hzr := ev hz
   exact ⟨s, w, .value _, _, by simp [hce, asBool], .inl rfl, Ext.refl _ _ _, R, hzr⟩
 case alloc t =>
  replace hv := qAc.1 hv
  obtain ⟨ti, hti, hv⟩ := hv
  split at hv
  ·simp only [qAf, qAg] at hv
   obtain ⟨rfl, rfl⟩ := hv
   exact (alloc_rel TT R hti).op
  ·cases hv
 case box t x =>
  replace hv := qAc.1 hv
  obtain ⟨ti, hti, hv⟩ := hv
  replace hv := qAc.1 hv
  obtain ⟨y, hy, hv⟩ := hv
  split at hv
  ·split at hv
   ·simp only [qAf, qAg] at hv
    obtain ⟨rfl, rfl⟩ := hv
    exact (boxImm_rel R t (ev hy) (evalA_ne K hy)).op
   ·simp only [qAf, qAg] at hv
    obtain ⟨rfl, rfl⟩ := hv
    exact (box_rel R t (ev hy) (evalA_ne K hy)).op
  ·cases hv
 case build t ps =>
  replace hv := qAc.1 hv
  obtain ⟨qs, hqs, hv⟩ := hv
  replace hv := qAc.1 hv
  obtain ⟨y, hy, hv⟩ := hv
  simp only [qAf, qAg] at hv
  obtain ⟨rfl, rfl⟩ := hv
  obtain ⟨h1, h2⟩ := parts_rel K G H hqs
  exact (build_rel TT h1 h2 hy).op R
 case buildSlice t len ps =>
  replace hv := qAc.1 hv
  obtain ⟨qs, hqs, hv⟩ := hv
  replace hv := qAc.1 hv
  obtain ⟨ti, hti, hv⟩ := hv
  obtain ⟨h1, h2⟩ := parts_rel K G H hqs
  generalize htd : ti.td = td at hv
  cases td <;> simp only [reduceCtorEq] at hv
  case slice el =>
   replace hv := qAc.1 hv
   obtain ⟨te, hte, hv⟩ := hv
   split at hv
   ·cases hv
   rename_i hc
   simp only [Bool.or_eq_true, bne_iff_ne, ne_eq, decide_eq_true_eq, not_or, Decidable.not_not, Nat.not_lt] at hc
   replace hv := qAc.1 hv
   obtain ⟨cs, hcs, hv⟩ := hv
   obtain ⟨k1, k2⟩ := buildSlice_rel TT R hti htd hte hc.1 hc.2 h1 h2 hcs
   split at hv
   ·simp only [qAf, qAg] at hv
    obtain ⟨rfl, rfl⟩ := hv
    exact k1.op
   ·simp only [qAf, qAg] at hv
    obtain ⟨rfl, rfl⟩ := hv
    exact k2.op
 case load t x =>
  replace hv := qAc.1 hv
  obtain ⟨y, hy, hv⟩ := hv
  split at hv
  ·cases hv
  replace hv := qAc.1 hv
  obtain ⟨z, hz, hv⟩ := hv
  simp only [qAf, qAg] at hv
  obtain ⟨rfl, rfl⟩ := hv
  unfold loadA at hz
  simp only [qAd] at hz
  replace hz := qAc.1 hz
  obtain ⟨ti, hti, hz⟩ := hz
  replace hz := qAc.1 hz
  obtain ⟨cs, hcs, hz⟩ := hz
  exact PRun.op R (load_rel R (TT t ti hti) (ev hy) hcs hz)
 case store t x y =>
  replace hv := qAc.1 hv
  obtain ⟨x', hx, hv⟩ := hv
  replace hv := qAc.1 hv
  obtain ⟨y', hy, hv⟩ := hv
  replace hv := qAc.1 hv
  obtain ⟨z, hz, hv⟩ := hv
  simp only [qAf, qAg] at hv
  obtain ⟨rfl, rfl⟩ := hv
  obtain ⟨w', h1, h2, h3⟩ := store_rel TT R (ev hx) (ev hy) hz
  exact ⟨s, w', .skip, undef, by simp [h1], .inr ⟨rfl, rfl⟩, h2, h3, .tup [] #[] rfl fun i c hi => by simp at hi⟩
 case nilCheck x =>
  replace hv := qAc.1 hv
  obtain ⟨y, hy, hv⟩ := hv
  have hyr := ev hy
  generalize hax : a.eval x = ax at hyr
  cases y <;> simp only [reduceCtorEq] at hv
  case ptr o off g =>
   split at hv
   ·rename_i hl
    simp only [qAf, qAg] at hv
    obtain ⟨rfl, rfl⟩ := hv
    have hyr' := hyr
    cases hyr with
    | ptr _ _ _ b h1 h2 => exact ⟨s, w, .value _, _, by simp only [hax]; rfl, .inl rfl, Ext.refl _ _ _, R, hyr'⟩
    | ptrOld _ _ _ g' a h1 h2 => have := genOf_live hl; rw [this] at h1; injection h1; omega
   ·cases hv
  case ref cs =>
   simp only [qAf, qAg] at hv
   obtain ⟨rfl, rfl⟩ := hv
   have hyr' := hyr
   cases hyr
   exact ⟨s, w, .value _, _, by simp only [hax]; rfl, .inl rfl, Ext.refl _ _ _, R, hyr'⟩
  case clo g cs =>
   simp only [qAf, qAg] at hv
   obtain ⟨rfl, rfl⟩ := hv
   have hyr' := hyr
   cases hyr
   exact ⟨s, w, .value _, _, by simp only [hax]; rfl, .inl rfl, Ext.refl _ _ _, R, hyr'⟩
  case bnd g cs =>
   simp only [qAf, qAg] at hv
   obtain ⟨rfl, rfl⟩ := hv
   have hyr' := hyr
   cases hyr
   exact ⟨s, w, .value _, _, by simp only [hax]; rfl, .inl rfl, Ext.refl _ _ _, R, hyr'⟩
  case yld l =>
   simp only [qAf, qAg] at hv
   obtain ⟨rfl, rfl⟩ := hv
   have hyr' := hyr
   cases hyr <;>
   exact ⟨s, w, .value _, _, by simp only [hax]; rfl, .inl rfl, Ext.refl _ _ _, R, hyr'⟩
 case binOp bop t x y t' =>
  replace hv := qAc.1 hv
  obtain ⟨x', hx, hv⟩ := hv
  split at hv
  ·rename_i hn
   replace hv := qAc.1 hv
   obtain ⟨z, hz, hv⟩ := hv
   simp only [qAf, qAg] at hv
   obtain ⟨rfl, rfl⟩ := hv
   exact PRun.op R (nilIA_rel TT hn (ev hx) hz)
  replace hv := qAc.1 hv
  obtain ⟨y', hy, hv⟩ := hv
  replace hv := qAc.1 hv
  obtain ⟨z, hz, hv⟩ := hv
  simp only [qAf, qAg] at hv
  obtain ⟨rfl, rfl⟩ := hv
  exact PRun.op R (bin_rel TT (fun hf hu hv hp => (flat_equal (TT.flat _ _ hf) hu hv hp w).1) (ev hx) (ev hy) hz)
 case unOp uop t x =>
  replace hv := qAc.1 hv
  obtain ⟨x', hx, hv⟩ := hv
  replace hv := qAc.1 hv
  obtain ⟨z, hz, hv⟩ := hv
  simp only [qAf, qAg] at hv
  obtain ⟨rfl, rfl⟩ := hv
  exact PRun.op R (un_rel (ev hx) hz)
 case convert src dst x =>
  replace hv := qAc.1 hv
  obtain ⟨x', hx, hv⟩ := hv
  replace hv := qAc.1 hv
  obtain ⟨z, hz, hv⟩ := hv
  simp only [qAf, qAg] at hv
  obtain ⟨rfl, rfl⟩ := hv
  exact (convH_rel TT R (ev hx) hz).op
 case makeInterface t x =>
  replace hv := qAc.1 hv
  obtain ⟨ti, hti, hv⟩ := hv
  obtain ⟨d, hd, hok⟩ := (TT t ti hti).und
  generalize ti.td = td at hok hv
  have hv' : ∃ y, evalA C e x = some y /\ (AV.iface t y, h) = (v, h') := by
   cases td <;> first | (cases hv; done) | (
    replace hv := qAc.1 hv
    obtain ⟨y, hy, hv⟩ := hv
    injection hv with hv
    exact ⟨y, hy, hv⟩)
  have hni : td ≠ .iface := by rintro rfl; cases hv
  obtain ⟨y, hy, hv⟩ := hv'
  simp only [qAg] at hv
  obtain ⟨rfl, rfl⟩ := hv
  refine PRun.op R ⟨.iface t (a.eval x), ?_, .iface t y _ (ev hy)⟩
  simp only [Instr.makeInterface, Sem.run_bind, run_und hd, Result.andThen_ok]
  cases d <;> cases td <;> first | rfl | exact False.elim hok | exact absurd rfl hni
 case typeAssert x xt t ok =>
  cases ok <;> simp only [reduceCtorEq] at hv
  replace hv := qAc.1 hv
  obtain ⟨ti, hti, hv⟩ := hv
  replace hv := qAc.1 hv
  obtain ⟨y, hy, hv⟩ := hv
  replace hv := qAc.1 hv
  obtain ⟨z, hz, hv⟩ := hv
  have hyr := ev hy
  obtain ⟨zu, hzu, hzr⟩ := zero_whole (s := s) (h := h) (w := w) (TT t ti hti) hz
  obtain ⟨d, hd, hok⟩ := (TT t ti hti).und
  generalize hax : a.eval x = u at hyr
  have hni : ∀ ms, d = .interface ms -> ti.td = .iface := by
   rintro ms rfl
   generalize ti.td = td at hok
   cases td <;> first | rfl | exact hok.elim
  have two : ∀ {p q : AV} {pu qu : Value}, VR s h w p pu -> VR s h w q qu -> VR s h w (.tup [p, q]) (.tuple #[pu, qu]) := fun hp hq => .tup _ _ rfl fun i c hi => by
   match i with
   | 0 => simp at hi; subst hi; exact hp
   | 1 => simp at hi; subst hi; exact hq
   | i + 2 => simp at hi
  split at hv <;> first | (cases hv; done) | skip
  ·rename_i t' u' hnif
   simp only [qAf, qAg] at hv
   obtain ⟨rfl, rfl⟩ := hv
   cases hyr with
   | iface _ _ uu hr =>
   by_cases ht : t' = t
   ·subst ht
    refine PRun.op R ⟨.tuple #[uu, .bool true], ?_, by simpa using two hr (.bool true)⟩
    simp only [hax, Instr.typeAssert, Sem.run_bind, run_und hd, Result.andThen_ok]
    cases d <;> first | exact absurd (hni _ rfl) hnif | rfl | simp
   ·refine PRun.op R ⟨.tuple #[zu, .bool false], ?_, by simpa [ht] using two hzr (.bool false)⟩
    simp only [hax, Instr.typeAssert, Sem.run_bind, run_und hd, Result.andThen_ok]
    cases d <;> first | exact absurd (hni _ rfl) hnif | simp [ht, hzu]
  ·rename_i hnif
   simp only [qAf, qAg] at hv
   obtain ⟨rfl, rfl⟩ := hv
   cases hyr
   refine PRun.op R ⟨.tuple #[zu, .bool false], ?_, two hzr (.bool false)⟩
   simp only [hax, Instr.typeAssert, Sem.run_bind, run_und hd, Result.andThen_ok]
   cases d <;> first | exact absurd (hni _ rfl) hnif | simp [hzu]
 case makeFunc fn first caps =>
  cases fn <;> simp only [reduceCtorEq] at hv
  case func g =>
   split at hv
   ·rename_i hf
    replace hv := qAc.1 hv
    obtain ⟨cs, hcs, hv⟩ := hv
    simp only [qAf, qAg] at hv
    obtain ⟨rfl, rfl⟩ := hv
    have hfe : first = #[] := by simpa using hf
    have hr := args_rel G H hcs
    refine PRun.op R ⟨.func (.func g) #[] (caps.map a.eval), by simp [Instr.makeFunc, hfe], .clo g cs _ (by have := hr.1; simpa using this) fun i c hi => ?_⟩
    obtain ⟨u, hu, hur⟩ := hr.2 i c hi
    have : (caps.map a.eval)[i]? = some u := by rw [← Array.getElem?_toList, Array.toList_map]; exact hu
    rw [Array.getD_eq_getD_getElem?, this]
    exact hur
   ·split at hv
    ·rename_i hg
     replace hv := qAc.1 hv
     obtain ⟨cs, hcs, hv⟩ := hv
     simp only [qAf, qAg] at hv
     obtain ⟨rfl, rfl⟩ := hv
     have hce : caps = #[] := by simpa using hg
     have hr := args_rel G H hcs
     refine PRun.op R ⟨.func (.func g) (first.map a.eval) #[], by simp [Instr.makeFunc, hce], .bnd g cs _ (by have := hr.1; simpa using this) fun i c hi => ?_⟩
     obtain ⟨u, hu, hur⟩ := hr.2 i c hi
     have : (first.map a.eval)[i]? = some u := by rw [← Array.getElem?_toList, Array.toList_map]; exact hu
     rw [Array.getD_eq_getD_getElem?, this]
     exact hur
    ·cases hv
 case makeSlice t l c =>
  replace hv := qAc.1 hv
  obtain ⟨l', hl, hv⟩ := hv
  replace hv := qAc.1 hv
  obtain ⟨c', hc, hv⟩ := hv
  exact (makeSlice_rel TT R (ev hl) (ev hc) hv).op
 case makeMap t r =>
  cases r <;> simp only [reduceCtorEq] at hv
  replace hv := qAc.1 hv
  obtain ⟨ti, hti, hv⟩ := hv
  simp only [qAf, qAg] at hv
  obtain ⟨rfl, rfl⟩ := hv
  exact (makeMap_rel R t).op
 case range t x =>
  replace hv := qAc.1 hv
  obtain ⟨ti, hti, hv⟩ := hv
  replace hv := qAc.1 hv
  obtain ⟨x', hx, hv⟩ := hv
  split at hv
  all_goals first | cases hv; done | skip
  rename_i o htd
  replace hv := qAc.1 hv
  obtain ⟨es, hes, hv⟩ := hv
  simp only [qAf, qAg] at hv
  obtain ⟨rfl, rfl⟩ := hv
  exact (range_rel TT R hti htd (ev hx) hes).op
 case entry x =>
  replace hv := qAc.1 hv
  obtain ⟨x', hx, hv⟩ := hv
  split at hv
  all_goals first | cases hv; done | skip
  rename_i o
  replace hv := qAc.1 hv
  obtain ⟨⟨q1, q2⟩, hp, hv⟩ := hv
  split at hv
  all_goals first | cases hv; done | skip
  rename_i p heq
  simp only [qAg] at heq
  obtain ⟨rfl, rfl⟩ := heq
  simp only [qAf, qAg] at hv
  obtain ⟨rfl, rfl⟩ := hv
  exact (entry_rel R hp (ev hx)).op
 case lookup t x k ok =>
  replace hv := qAc.1 hv
  obtain ⟨x', hx, hv⟩ := hv
  replace hv := qAc.1 hv
  obtain ⟨k', hk, hv⟩ := hv
  replace hv := qAc.1 hv
  obtain ⟨z, hz, hv⟩ := hv
  simp only [qAf, qAg] at hv
  obtain ⟨rfl, rfl⟩ := hv
  exact PRun.op R (lookup_rel TT R (ev hx) (ev hk) hz)
 case mapUpdate t m k x =>
  replace hv := qAc.1 hv
  obtain ⟨m', hm, hv⟩ := hv
  replace hv := qAc.1 hv
  obtain ⟨k', hk, hv⟩ := hv
  replace hv := qAc.1 hv
  obtain ⟨x', hx, hv⟩ := hv
  replace hv := qAc.1 hv
  obtain ⟨z, hz, hv⟩ := hv
  simp only [qAf, qAg] at hv
  obtain ⟨rfl, rfl⟩ := hv
  obtain ⟨w', h1, h2, h3⟩ := update_rel TT R (ev hm) (ev hk) (ev hx) hz
  exact ⟨s, w', .skip, undef, by simp [h1], .inr ⟨rfl, rfl⟩, h2, h3, .tup [] #[] rfl fun i c hi => by simp at hi⟩
 case insert t m k x =>
  replace hv := qAc.1 hv
  obtain ⟨m', hm, hv⟩ := hv
  replace hv := qAc.1 hv
  obtain ⟨k', hk, hv⟩ := hv
  replace hv := qAc.1 hv
  obtain ⟨x', hx, hv⟩ := hv
  replace hv := qAc.1 hv
  obtain ⟨z, hz, hv⟩ := hv
  simp only [qAf, qAg] at hv
  obtain ⟨rfl, rfl⟩ := hv
  obtain ⟨w', h1, h2, h3⟩ := update_rel TT R (ev hm) (ev hk) (ev hx) hz
  exact ⟨s, w', .skip, undef, by simp [h1], .inr ⟨rfl, rfl⟩, h2, h3, .tup [] #[] rfl fun i c hi => by simp at hi⟩
 case slice t x lo hi mx =>
  replace hv := qAc.1 hv
  obtain ⟨lo', hlo, hv⟩ := hv
  replace hv := qAc.1 hv
  obtain ⟨hi', hhi, hv⟩ := hv
  split at hv
  ·cases hv
  rename_i hmx
  have hmx' : mx = none := by simpa using hmx
  subst hmx'
  replace hv := qAc.1 hv
  obtain ⟨x', hx, hv⟩ := hv
  replace hv := qAc.1 hv
  obtain ⟨z, hz, hv⟩ := hv
  simp only [qAf, qAg] at hv
  obtain ⟨rfl, rfl⟩ := hv
  exact PRun.op R (slice_rel TT R (ev hx) (ob hlo) (ob hhi) hz)
 case fieldAddr t x k =>
  replace hv := qAc.1 hv
  obtain ⟨x', hx, hv⟩ := hv
  replace hv := qAc.1 hv
  obtain ⟨z, hz, hv⟩ := hv
  simp only [qAf, qAg] at hv
  obtain ⟨rfl, rfl⟩ := hv
  exact PRun.op R (fieldAddr_rel TT (ev hx) hz)
 case field t x k =>
  replace hv := qAc.1 hv
  obtain ⟨x', hx, hv⟩ := hv
  replace hv := qAc.1 hv
  obtain ⟨z, hz, hv⟩ := hv
  simp only [qAf, qAg] at hv
  obtain ⟨rfl, rfl⟩ := hv
  exact PRun.op R (field_rel TT (ev hx) hz)
 case indexAddr t x i =>
  replace hv := qAc.1 hv
  obtain ⟨x', hx, hv⟩ := hv
  replace hv := qAc.1 hv
  obtain ⟨i', hi, hv⟩ := hv
  replace hv := qAc.1 hv
  obtain ⟨z, hz, hv⟩ := hv
  simp only [qAf, qAg] at hv
  obtain ⟨rfl, rfl⟩ := hv
  exact PRun.op R (indexAddr_rel TT (ev hx) (ev hi) hz)
 case index t x i =>
  replace hv := qAc.1 hv
  obtain ⟨x', hx, hv⟩ := hv
  replace hv := qAc.1 hv
  obtain ⟨i', hi, hv⟩ := hv
  replace hv := qAc.1 hv
  obtain ⟨z, hz, hv⟩ := hv
  simp only [qAf, qAg] at hv
  obtain ⟨rfl, rfl⟩ := hv
  exact PRun.op R (index_rel TT (ev hx) (ev hi) hz)
 case extract x i =>
  replace hv := qAc.1 hv
  obtain ⟨x', hx, hv⟩ := hv
  cases x' <;> simp only [reduceCtorEq] at hv
  case tup vs =>
   replace hv := qAc.1 hv
   obtain ⟨z, hz, hv⟩ := hv
   simp only [qAf, qAg] at hv
   obtain ⟨rfl, rfl⟩ := hv
   have hxr := ev hx
   generalize hax : a.eval x = ax at hxr
   cases hxr with
   | tup _ us hl hr =>
    have hlt : i < us.size := by rw [← hl]; exact (qAu.1 hz).1
    refine PRun.op R ⟨us[i], by simp [Instr.extract, hax, hlt], ?_⟩
    have := hr i z hz
    simpa [hlt] using this
 case call c =>
  obtain ⟨callee, args, argTypes⟩ := c
  cases callee <;> simp only [reduceCtorEq] at hv
  case builtin b =>
   replace hv := qAc.1 hv
   obtain ⟨vs, hvs, hv⟩ := hv
   have hr := args_rel G H hvs
   have hmap : args.map a.eval = (args.toList.map a.eval).toArray := by apply Array.ext'; simp
   split at hv
   ·
    rename_i x
    obtain ⟨y, hy⟩ : ∃ y, args.toList.map a.eval = [y] := by
     have := hr.1
     simp only [qAv, List.length_nil] at this
     exact List.length_eq_one_iff.1 this.symm
    rw [hy] at hr
    have hxy := hr.tail.1
    replace hv := qAc.1 hv
    obtain ⟨t, hat, hv⟩ := hv
    replace hv := qAc.1 hv
    obtain ⟨ti, hti, hv⟩ := hv
    replace hv := qAc.1 hv
    obtain ⟨n, hn, hv⟩ := hv
    simp only [qAf, qAg] at hv
    obtain ⟨rfl, rfl⟩ := hv
    obtain ⟨d, hd, hok⟩ := (TT t ti hti).und
    refine ⟨s, w, .value (.int .i64 n), _, ?_, .inl rfl, Ext.refl _ _ _, R, .int _ _⟩
    have hres : (Builtin.len_ argTypes o.type #[y]).run P w = .ok (.int .i64 n) w := by
     simp only [Builtin.len_, hat, List.getElem?_toArray, qBe, Sem.run_bind, Result.andThen_ok, run_und hd]
     generalize ti.td = td at hok hn
     cases td <;> cases x <;> simp only [lenA, reduceCtorEq, qAf] at hn
     case slice.lst e xs z r =>
      subst hn
      cases d <;> simp only [TD.ok] at hok
      cases hxy <;> rfl
     case slice.msl e o off len sz g cap =>
      split at hn
      ·rename_i hl
       injection hn with hn; subst hn
       cases d <;> simp only [TD.ok] at hok
       cases hxy with
       | msl => rfl
       | mslOld _ _ _ _ _ _ g' a n c h1 h2 => have := genOf_live hl; rw [this] at h1; injection h1; omega
      ·cases hn
     case str.str l =>
      subst hn
      cases d <;> simp only [TD.ok] at hok
      cases hxy
      simp [ByteArray.size, goInt]
     case map.nilMap =>
      subst hn
      cases d <;> simp only [TD.ok] at hok
      cases hxy
      rfl
     case map.map ol =>
      split at hn
      ·rename_i es hes
       injection hn with hn; subst hn
       cases d <;> simp only [TD.ok] at hok
       obtain ⟨b, en, cl, es0, rfl, hb, hh, hp0, hE, hSt⟩ := map_obj R (o := ol) (es := es) (by unfold Heap.mapAt; rw [hes]) hxy
       have := hE.1
       rw [hp0.1.length_eq] at this
       simp only [Sem.run_bind, run_getMap hh, Result.andThen_ok, goInt, Sem.run_pure]
       simp at this
       rw [this]
      ·cases hn
    simp only [resolve, hmap, hy, Sem.run_bind, Sem.run_pure, Result.andThen_ok, invoke, builtin, hres]
   ·
    rename_i sv yv
    split at hv
    ·rename_i t t' hats
     obtain ⟨us, uy, hy⟩ : ∃ us uy, args.toList.map a.eval = [us, uy] := by
      have := hr.1
      simp only [qAv, List.length_nil] at this
      generalize args.toList.map a.eval = l at this
      match l, this with
      | [us, uy], _ => exact ⟨us, uy, rfl⟩
     rw [hy] at hr
     split at hv
     ·have hat : argTypes = #[t, t'] := by apply Array.ext'; simpa using hats
      have key := appendZ_rel TT R hr.tail.1 hr.tail.2.tail.1 hv o.type
      obtain ⟨s', w', x, h1, h2, h3, h4⟩ := key
      refine ⟨s', w', .value x, x, ?_, .inl rfl, h2, h3, h4⟩
      simp only [resolve, hmap, hy, hat, Sem.run_bind, Sem.run_pure, Result.andThen_ok, invoke, builtin]
      rw [show ([us, uy] : List Value).toArray = #[us, uy] from rfl, h1]
      rfl
     rename_i htt
     have htt' : t = t' := by simpa using htt
     subst htt'
     have hat : argTypes = #[t, t] := by apply Array.ext'; simpa using hats
     replace hv := qAc.1 hv
     obtain ⟨ti, hti, hv⟩ := hv
     obtain ⟨d, hd, hok⟩ := (TT t ti hti).und
     generalize ti.td = td at hok hv
     cases td <;> simp only [reduceCtorEq] at hv
     case slice el =>
      replace hv := qAc.1 hv
      obtain ⟨te, hte, hv⟩ := hv
      replace hv := qAc.1 hv
      obtain ⟨ys, hys, hv⟩ := hv
      cases d <;> simp only [TD.ok] at hok
      rw [hok] at hd
      have key := append_rel TT R hd hte hr.tail.1 hr.tail.2.tail.1 hys hv o.type
      obtain ⟨s', w', x, h1, h2, h3, h4⟩ := key
      refine ⟨s', w', .value x, x, ?_, .inl rfl, h2, h3, h4⟩
      simp only [resolve, hmap, hy, hat, Sem.run_bind, Sem.run_pure, Result.andThen_ok, invoke, builtin]
      rw [show ([us, uy] : List Value).toArray = #[us, uy] from rfl, h1]
      rfl
    ·cases hv
   ·
    obtain ⟨m, hm, hR⟩ := more_rel TT R hr hv o.type
    obtain ⟨s', w', x, h1, h2, h3, h4⟩ := hR
    refine ⟨s', w', .value x, x, ?_, .inl rfl, h2, h3, h4⟩
    have harr : argTypes.toList.toArray = argTypes := by simp
    rw [harr] at hm
    simp only [resolve, hmap, Sem.run_bind, Sem.run_pure, Result.andThen_ok, invoke, hm, h1]
end
end Go.Rv
