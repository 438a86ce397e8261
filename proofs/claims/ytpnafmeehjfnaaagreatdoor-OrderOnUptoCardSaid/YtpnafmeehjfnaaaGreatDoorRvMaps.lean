/-
  Maps: made, asked, written.
-/
import Derived.Test.YtpnafmeehjfnaaaGreatDoorRvAgg
set_option linter.unusedSimpArgs false
set_option linter.unusedVariables false
namespace Go.Rv
section
variable {P : Program} {C : Cfg} {s : Sim} {h : Heap} {w : World}

def Ents (s : Sim) (h : Heap) (w : World) (es : List (AV × AV)) (en : List MapEntry) : Prop :=
  es.length = en.length ∧ ∀ (i : Nat) e, es[i]? = some e → ∃ m, en[i]? = some m ∧ VR s h w e.1 m.key ∧ VR s h w e.2 m.val

theorem Ents.tail {e : AV × AV} {es : List (AV × AV)} {m : MapEntry} {en : List MapEntry} (H : Ents s h w (e :: es) (m :: en)) : (VR s h w e.1 m.key ∧ VR s h w e.2 m.val) ∧ Ents s h w es en := by
  obtain ⟨h1, h2⟩ := H
  refine ⟨?_, by simpa using h1, fun i x hi => h2 (i + 1) x (by simpa using hi)⟩
  obtain ⟨m', hm, hr⟩ := h2 0 e rfl
  simp only [List.getElem?_cons_zero, Option.some.injEq] at hm
  subst hm
  exact hr

theorem mapAt_some {o : Nat} {es : List (AV × AV)} (ho : h.mapAt o = some es) : h[o]? = some (.map es) := by
  unfold Heap.mapAt at ho
  split at ho
  · rename_i es' hx
    injection ho with ho; subst ho
    exact hx
  · cases ho

/-- Of a map of the model: its entries. -/
theorem map_obj (R : Rel s h w) {o : Nat} {es : List (AV × AV)} (ho : h.mapAt o = some es) {u : Value} (hv : VR s h w (.map o) u) : ∃ b en clock es0, u = .map (some b) ∧ s.μ o = some b ∧ w.heap[b]? = some (.map en clock) ∧ (es0.Perm es ∧ KeysOk es) ∧ Ents s h w es0 en.toList ∧ MapKept.Stamped en clock := by
  cases hv with
  | map _ b hm hb =>
    obtain ⟨x, hx, hr⟩ := R.obj o b hb
    rw [mapAt_some ho] at hx
    injection hx with hx; subst hx
    obtain ⟨es0, hp0, en, cl, h1, h2, hst, h3⟩ := hr
    refine ⟨b, en, cl, es0, rfl, hb, h1, hp0, ⟨by simpa using h2, fun i e hi => ?_⟩, hst⟩
    obtain ⟨m, hm, hr⟩ := h3 i e hi
    exact ⟨m, by simpa using hm, hr⟩
  | mapOld _ g b hg hlt => simp [genOf, mapAt_some ho] at hg; omega

theorem bytes_eq (a b : List UInt8) : ((⟨a.toArray⟩ : ByteArray) == ⟨b.toArray⟩) = (a == b) := by
  change (a.toArray == b.toArray) = (a == b)
  simp

def scal : TD → AV → Bool
  | .bool, .bool _ | .int _, .int .. | .str, .str _ => true
  | _, _ => false

theorem sameKey_rel {td : TD} {d : TypeDesc} (hd : TD.ok d td) {k k' : AV} (hk : scal td k = true) {u u' : Value} (hu : VR s h w k u) (hu' : VR s h w k' u') {p : Bool} (hp : sameKey k k' = some p) : Instr.sameNow d u u' = some p := by
  cases td <;> cases k <;> simp only [scal, Bool.false_eq_true] at hk <;> cases k' <;> simp only [sameKey, reduceCtorEq] at hp <;> cases d <;> simp only [TD.ok] at hd <;> cases hu <;> cases hu' <;> simp only [Instr.sameNow]
  · exact hp
  · split at hp
    · rename_i he
      simp only [beq_iff_eq] at he
      rw [if_pos he]; exact hp
    · cases hp
  · rename_i a b
    rw [← hp, bytes_eq]

/-- The first entry whose key is that one. -/
def findBy (f : Value → Option Bool) : List MapEntry → Nat → Option (Option (Nat × Value))
  | [], _ => some none
  | e :: es, i =>
    match f e.key with
    | some true => some (some (i, e.val))
    | some false => findBy f es (i + 1)
    | none => none
theorem findBy_now (d : TypeDesc) (u : Value) : ∀ (es : List MapEntry) (i : Nat), findBy (Instr.sameNow d u) es i = Instr.findNow d u es i
  | [], _ => rfl
  | e :: es, i => by
    simp only [findBy, Instr.findNow]
    cases Instr.sameNow d u e.key with
    | none => rfl
    | some b => cases b <;> first | rfl | exact findBy_now d u es (i + 1)

/-- What is known of a comparison with a key. -/
def Cmp (s : Sim) (h : Heap) (w : World) (k : AV) (f : Value → Option Bool) : Prop := ∀ k' u' p, VR s h w k' u' → sameK k k' = some p → f u' = some p

theorem find_rel {k : AV} {f : Value → Option Bool} (hF : Cmp s h w k f) : ∀ {es : List (AV × AV)} {en : List MapEntry} (i : Nat) {r : Option AV}, Ents s h w es en → findA k es = some r →
    ∃ r', findBy f en i = some r' ∧ match r, r' with
      | none, none => True
      | some v, some (j, x) => VR s h w v x
      | _, _ => False
  | [], [], i, r, _, hf => by
    simp only [findA, Option.some.injEq] at hf
    subst hf
    exact ⟨none, rfl, trivial⟩
  | [], _ :: _, _, _, H, _ => by have := H.1; simp at this
  | _ :: _, [], _, _, H, _ => by have := H.1; simp at this
  | (k', v) :: es, m :: en, i, r, H, hf => by
    obtain ⟨⟨hk', hv⟩, ht⟩ := H.tail
    simp only [findA, Option.bind_eq_bind] at hf
    obtain ⟨p, hp, hf⟩ := Option.bind_eq_some_iff.1 hf
    have := hF k' m.key p hk' hp
    simp only [findBy, this]
    cases p with
    | true =>
      simp only [if_true, Option.some.injEq] at hf
      subst hf
      exact ⟨_, rfl, hv⟩
    | false => exact find_rel hF (i + 1) ht (by simpa using hf)

theorem keyDesc {td : TD} {d : TypeDesc} (hd : TD.ok d td) {k : AV} (hk : scal td k = true) : d = .bool ∨ (∃ n, d = .int n) ∨ d = .string := by
  cases td <;> simp only [scal, Bool.false_eq_true] at hk <;> cases d <;> simp only [TD.ok] at hd
  · exact .inl rfl
  · exact .inr (.inl ⟨_, rfl⟩)
  · exact .inr (.inr rfl)

theorem run_checkKey {t : Nat} {d : TypeDesc} (hu : P.underlying t = some d) (hd : d = .bool ∨ (∃ n, d = .int n) ∨ d = .string) (b : Bool) (n : Nat) (u : Value) (w : World) : (Instr.checkKey b (n + 1) t u).run P w = .ok () w := by
  unfold Instr.checkKey
  simp only [Sem.run_bind, run_und hu, Result.andThen_ok]
  rcases hd with rfl | ⟨k, rfl⟩ | rfl <;> rfl

theorem run_findKey {t : Nat} {d : TypeDesc} (hu : P.underlying t = some d) {u : Value} {en : List MapEntry} {r : Option (Nat × Value)} (hr : Instr.findNow d u en 0 = some r) (w : World) : (Instr.findKey t u en).run P w = .ok r w := by
  unfold Instr.findKey
  simp only [Sem.run_bind, run_und hu, Result.andThen_ok, hr, Sem.run_pure]

theorem run_getMap {b : Nat} {en : Array MapEntry} {cl : Nat} (hb : w.heap[b]? = some (.map en cl)) : (getObj b).run P w = .ok (.map en cl) w := by
  simp [getObj, Sem.run, hb]

/-- A type's zero, whole. -/
theorem zero_whole {t : Nat} {ti : TI} (T : TyOk P t ti) {v : AV} (hp : Rv.part ti ti.zero = some v) : ∃ z, (∀ w, (zeroValue t).run P w = .ok z w) ∧ VR s h w v z := by
  obtain ⟨i, z, h1, h2, h3, h4, h5, h6⟩ := T.info
  have hw := T.whole i z h1 h4
  refine ⟨z, fun w => by simp [zeroValue, typeInfo, h1, h4], ?_⟩
  unfold Rv.part at hp
  split at hp
  · rename_i ha
    rw [ha] at hw
    split at hp
    · injection hp with hp; subst hp
      cases z <;> simp only [wholeB, Bool.not_true, Bool.false_eq_true] at hw
      rename_i cs
      rw [List.take_of_length_le (by rw [T.zsize]; omega)]
      refine .agg _ _ (by simpa [Value.cells] using h5.symm) fun j c hj => ?_
      exact ofValue_rel (by simpa [Value.cells] using h6 j c hj)
    · cases hp
  · rename_i ha
    have ha' : ti.td.isAgg = false := by simpa using ha
    rw [ha'] at hw
    have hc : z.cells = #[z] := by cases z <;> first | rfl | (simp [wholeB] at hw)
    have h0 : ti.zero[0]? = some v := by rw [← List.head?_eq_getElem?]; exact hp
    have := h6 0 v h0
    rw [hc] at this
    exact ofValue_rel (by simpa using this)

theorem makeMap_rel (R : Rel s h w) (t : Nat) : HRun P s h w (Instr.makeMap t none) (.map h.length) (h ++ [.map []]) := by
  refine ⟨_, _, _, rfl, Ext.new R (.map #[] 0) (.map []), Rel.new R (.map #[] 0) (.map []) ⟨[], ⟨List.Perm.refl _, List.Pairwise.nil⟩, #[], 0, heap_alloc_at w _, rfl, MapKept.stamped_empty 0, fun i e hi => by simp at hi⟩, ?_⟩
  refine .map _ w.heap.size ?_ (by simp [Sim.add])
  unfold isMap
  rw [List.getElem?_append_right (Nat.le_refl _)]
  simp

theorem map_write (R : Rel s h w) {o b : Nat} {es es' es0' : List (AV × AV)} {en en' : Array MapEntry} {cl cl' : Nat} (hb : s.μ o = some b) (ho : h[o]? = some (.map es)) (hheap : w.heap[b]? = some (.map en cl)) (hP : es0'.Perm es' ∧ KeysOk es') (hE : Ents s h w es0' en'.toList) (hS : MapKept.Stamped en' cl') :
    Ext s h w s (h.set o (.map es')) { w with heap := w.heap.setIfInBounds b (.map en' cl') } ∧ Rel s (h.set o (.map es')) { w with heap := w.heap.setIfInBounds b (.map en' cl') } := by
  have hlt := (List.getElem?_eq_some_iff.1 ho).1
  have hbl := (Array.getElem?_eq_some_iff.1 hheap).1
  have hfar : ∀ k, k ≠ b → (w.heap.setIfInBounds b (.map en' cl'))[k]? = w.heap[k]? := fun k hk => by
    rw [Array.getElem?_setIfInBounds_ne (Ne.symm hk)]
  have hat : (w.heap.setIfInBounds b (.map en' cl'))[b]? = some (.map en' cl') := by
    rw [Array.getElem?_setIfInBounds_self_of_lt hbl]
  have E : Ext s h w s (h.set o (.map es')) { w with heap := w.heap.setIfInBounds b (.map en' cl') } := by
    refine ⟨⟨by simp, fun k _ hn => hfar k (fun e => hn o (e ▸ hb)), fun k x hx => ?_, fun _ h => h, fun k g0 hg0 => ?_, fun k g0 _ _ => ⟨fun _ h => h, ?_⟩, fun k hk _ => ?_, fun k c hc => .inl ⟨k, hc⟩, rfl, rfl, rfl, fun k hk => ?_, rfl⟩, fun k c _ hc => ⟨c, hc⟩, fun k _ hn => ?_⟩
    · by_cases e : k = b
      · subst e
        simp [World.shape?, hheap] at hx
      · rw [shape_of (hfar k e)]; exact hx
    · rw [genOf_set (g := g0)]
      by_cases e : o = k
      · subst e
        have : g0 = 0 := by simp [genOf, ho] at hg0; omega
        exact ⟨0, by simp [hlt], by omega⟩
      · exact ⟨g0, by simp [e, hg0], Nat.le_refl _⟩
    · by_cases e : o = k
      · subst e
        unfold lenOf
        rw [ho, List.getElem?_set_self hlt]
      · exact lenOf_set e
    · by_cases e : o = k
      · subst e
        unfold isMap
        rw [List.getElem?_set_self hlt]
      · rw [isMap_set e]; exact hk
    · by_cases e : o = k
      · subst e; simp [isLoop, ho] at hk
      · rw [isLoop_set e]; exact hk
    · have : o ≠ k := by rintro rfl; rw [hb] at hn; cases hn
      exact List.getElem?_set_ne this
  refine ⟨E, R.inj, fun k c hk => ?_, R.apart, fun c hI => by have := R.imm c hI; simpa using this⟩
  by_cases e : k = o
  · subst e
    rw [hb] at hk; injection hk with hk; subst hk
    refine ⟨.map es', by rw [List.getElem?_set_self hlt], es0', hP, en', cl', hat, by simpa using hE.1, hS, fun i x hi => ?_⟩
    obtain ⟨m, hm, h1, h2⟩ := hE.2 i x hi
    exact ⟨m, by simpa using hm, h1.ext R.apart E, h2.ext R.apart E⟩
  · obtain ⟨x, hx, hr⟩ := R.obj k c hk
    have hne : c ≠ b := fun e' => e (R.inj k o c hk (e' ▸ hb))
    exact ⟨x, by rw [List.getElem?_set_ne (Ne.symm e)]; exact hx, hr.ext R.apart E (hfar c hne)⟩

theorem run_setMap {b : Nat} {en : Array MapEntry} {cl : Nat} (hb : w.heap[b]? = some (.map en cl)) (o : Obj) : (setObj b o).run P w = .ok () { w with heap := w.heap.setIfInBounds b o } := by
  simp [setObj, Sem.run, hb]

theorem sameKey_eq {td : TD} {k k' : AV} (hk : scal td k = true) {u u' : Value} (hu : VR s h w k u) (hu' : VR s h w k' u') (hp : sameKey k k' = some true) : u' = u ∧ Instr.sameBits 10000 u u = true := by
  cases td <;> cases k <;> simp only [scal, Bool.false_eq_true] at hk <;> cases k' <;> simp only [sameKey, reduceCtorEq] at hp <;> cases hu <;> cases hu'
  · simp at hp; subst hp; exact ⟨rfl, by simp [Instr.sameBits]⟩
  · split at hp
    · rename_i he
      simp at he hp
      subst he hp
      exact ⟨rfl, by simp [Instr.sameBits]⟩
    · cases hp
  · simp at hp; subst hp
    refine ⟨rfl, ?_⟩
    simp only [Instr.sameBits, bytes_eq, beq_self_eq_true]

theorem Ents.cons {e : AV × AV} {es : List (AV × AV)} {m : MapEntry} {en : List MapEntry} (h1 : VR s h w e.1 m.key ∧ VR s h w e.2 m.val) (H : Ents s h w es en) : Ents s h w (e :: es) (m :: en) := by
  refine ⟨by simp [H.1], fun i x hi => ?_⟩
  cases i with
  | zero => simp at hi; subst hi; exact ⟨m, rfl, h1⟩
  | succ i => exact H.2 i x (by simpa using hi)

theorem put_rel {k v : AV} {f : Value → Option Bool} (hF : Cmp s h w k f) {u x : Value} (hQ : ∀ k' u', VR s h w k' u' → sameK k k' = some true → u' = u) (hu : VR s h w k u) (hx : VR s h w v x) (born : Nat) : ∀ {es es' : List (AV × AV)} {en : List MapEntry} (j : Nat), Ents s h w es en → putA k v es = some es' →
    (∃ i y, findBy f en j = some (some (j + i, y)) ∧ (en[i]?).map (·.key) = some u ∧ Ents s h w es' (en.modify i fun e => { e with key := u, val := x })) ∨
    (findBy f en j = some none ∧ Ents s h w es' (en ++ [{ key := u, val := x, born := born }]))
  | [], _, [], j, _, hp => by
    simp only [putA, Option.some.injEq] at hp
    subst hp
    exact .inr ⟨rfl, Ents.cons ⟨hu, hx⟩ ⟨rfl, fun i e hi => by simp at hi⟩⟩
  | [], _, _ :: _, _, H, _ => by have := H.1; simp at this
  | _ :: _, _, [], _, H, _ => by have := H.1; simp at this
  | (k', v') :: es, es', m :: en, j, H, hp => by
    obtain ⟨⟨hk', hv'⟩, ht⟩ := H.tail
    simp only [putA, Option.bind_eq_bind] at hp
    obtain ⟨p, hp1, hp⟩ := Option.bind_eq_some_iff.1 hp
    have hs := hF k' m.key p hk' hp1
    simp only [findBy, hs]
    cases p with
    | true =>
      simp only [if_true, Option.some.injEq] at hp
      subst hp
      have he := hQ k' m.key hk' hp1
      refine .inl ⟨0, m.val, rfl, by simp [he], ?_⟩
      simp only [List.modify_zero_cons]
      exact Ents.cons ⟨by rw [he] at hk'; exact hk', hx⟩ ht
    | false =>
      simp only [Bool.false_eq_true, if_false] at hp
      obtain ⟨es2, hp2, rfl⟩ := Option.map_eq_some_iff.1 hp
      rcases put_rel hF hQ hu hx born (j + 1) ht hp2 with ⟨i, y, h1, h2, h3⟩ | ⟨h1, h2⟩
      · refine .inl ⟨i + 1, y, by rw [h1, show j + 1 + i = j + (i + 1) from by omega], by simpa using h2, ?_⟩
        simp only [List.modify_succ_cons]
        exact Ents.cons ⟨hk', hv'⟩ h3
      · exact .inr ⟨h1, Ents.cons ⟨hk', hv'⟩ h2⟩

theorem sameNow_self {td : TD} {d : TypeDesc} (hd : TD.ok d td) {k : AV} (hk : scal td k = true) {u : Value} (hu : VR s h w k u) : Instr.sameNow d u u = some true := by
  cases td <;> cases k <;> simp only [scal, Bool.false_eq_true] at hk <;> cases d <;> simp only [TD.ok] at hd <;> cases hu <;> simp only [Instr.sameNow, bytes_eq, beq_self_eq_true, if_true]

theorem findNow_ne {f : Value → Option Bool} {u : Value} (hself : f u = some true) : ∀ {en : List MapEntry} {j : Nat}, findBy f en j = some none → ∀ x ∈ en, x.key ≠ u
  | [], _, _, x, hx => by simp at hx
  | m :: en, j, hf, x, hx => by
    simp only [findBy] at hf
    rcases List.mem_cons.1 hx with rfl | hx
    · intro e
      rw [e, hself] at hf
      simp at hf
    · cases hs : f m.key with
      | none => rw [hs] at hf; simp at hf
      | some b =>
        rw [hs] at hf
        cases b with
        | true => simp at hf
        | false => exact findNow_ne hself (by simpa using hf) x hx

theorem sameK_scal {td : TD} {k : AV} (hk : scal td k = true) (k' : AV) : sameK k k' = sameKey k k' := by
  cases td <;> cases k <;> simp only [scal, Bool.false_eq_true] at hk <;> cases k' <;> rfl

theorem sameKeys_self : ∀ {fs : List Field} {i : Nat} {cs : List AV}, flatFs P i fs cs = true → sameKeys cs cs = some true
  | [], _, [], _ => rfl
  | [], _, _ :: _, h => by simp [flatFs] at h
  | _ :: _, _, [], h => by simp [flatFs] at h
  | f :: r, i, c :: cs, h => by
    simp only [flatFs, Bool.and_eq_true] at h
    have h1 : sameKey c c = some true := by
      have := h.1.2
      cases hd : P.underlying f.type with
      | none => rw [hd] at this; cases c <;> simp [scalarB] at this
      | some d => rw [hd] at this; cases d <;> cases c <;> simp only [scalarB, Bool.false_eq_true] at this <;> simp [sameKey]
    simp [sameKeys, h1, sameKeys_self h.2]

open Classical in
/-- All that the operations on maps want of a key. -/
theorem key_run (TT : TabOk P C) {kt : Nat} {ki : TI} (hki : C.ty kt = some ki) {k : AV} (hkt : keyTd C kt ki.td k = true) {u : Value} (hu : VR s h w k u) : ∃ f : Value → Option Bool, Cmp s h w k f ∧ (∀ k' u', VR s h w k' u' → sameK k k' = some true → u' = u) ∧ f u = some true ∧ Instr.sameBits 10000 u u = true ∧
    (∀ en r w1, findBy f en 0 = some r → (Instr.findKey kt u en).run P w1 = .ok r w1) ∧ ∀ b w1, (Instr.checkKey b 10000 kt u).run P w1 = .ok () w1 := by
  obtain ⟨dk, hdk, hdok⟩ := (TT _ ki hki).und
  by_cases hs : scal ki.td k = true
  · refine ⟨Instr.sameNow dk u, fun k' u' p hv hp => sameKey_rel hdok hs hu hv (by rw [← sameK_scal hs]; exact hp), fun k' u' hv hp => (sameKey_eq hs hu hv (by rw [← sameK_scal hs]; exact hp)).1, sameNow_self hdok hs hu, ?_, fun en r w1 hr => run_findKey hdk (by rw [← findBy_now]; exact hr) w1, fun b w1 => run_checkKey hdk (keyDesc hdok hs) b 9999 u w1⟩
    generalize ki.td = td at hs
    cases td <;> cases k <;> simp only [scal, Bool.false_eq_true] at hs <;> cases hu
    · simp [Instr.sameBits]
    · simp [Instr.sameBits]
    · simp only [Instr.sameBits, bytes_eq, beq_self_eq_true]
  · generalize ki.td = td at hs hkt hdok
    cases td <;> cases k <;> simp only [keyTd, scal, Bool.false_eq_true, not_true_eq_false] at hs hkt
    rename_i fs0 cs
    have hf := TT.flat kt cs hkt
    let f : Value → Option Bool := fun u' => if hp : ∃ p : Bool, ∀ w1, (Op.equal kt u u').run P w1 = .ok p w1 then some (Classical.choose hp) else none
    have hfs : ∀ {u' p}, (∀ w1, (Op.equal kt u u').run P w1 = .ok p w1) → f u' = some p := fun {u' p} hp => by
      have hex : ∃ p : Bool, ∀ w1, (Op.equal kt u u').run P w1 = .ok p w1 := ⟨p, hp⟩
      show (if hp : ∃ p : Bool, ∀ w1, (Op.equal kt u u').run P w1 = .ok p w1 then some (Classical.choose hp) else none) = some p
      rw [dif_pos hex]
      have := (Classical.choose_spec hex w).symm.trans (hp w)
      injection this with this
      rw [this]
    have hfr : ∀ {u' p}, f u' = some p → ∀ w1, (Op.equal kt u u').run P w1 = .ok p w1 := fun {u' p} hp => by
      have hp' : (if hp : ∃ p : Bool, ∀ w1, (Op.equal kt u u').run P w1 = .ok p w1 then some (Classical.choose hp) else none) = some p := hp
      split at hp'
      · rename_i hex
        injection hp' with hp'
        rw [← hp']
        exact Classical.choose_spec hex
      · cases hp'
    have hself : sameKeys cs cs = some true := by
      unfold flatKey at hf
      split at hf
      · simp only [Bool.and_eq_true] at hf
        exact sameKeys_self hf.2
      · cases hf
    have hagg : ∀ k' p, sameK (.agg cs) k' = some p → ∃ ds, k' = .agg ds ∧ sameKeys cs ds = some p := fun k' p hp => by
      cases k' <;> simp only [sameK, sameKey, reduceCtorEq] at hp
      exact ⟨_, rfl, hp⟩
    refine ⟨f, fun k' u' p hv hp => ?_, fun k' u' hv hp => ?_, hfs (fun w1 => (flat_equal hf hu hu hself w1).1), ?_, fun en r w1 hr => ?_, fun b w1 => flat_check hf hu b 9998 w1⟩
    · obtain ⟨ds, rfl, hp⟩ := hagg k' p hp
      exact hfs fun w1 => (flat_equal hf hu hv hp w1).1
    · obtain ⟨ds, rfl, hp⟩ := hagg k' true hp
      exact (flat_equal hf hu hv hp w).2 rfl
    · unfold flatKey at hf
      split at hf
      · rename_i fs hd
        simp only [Bool.and_eq_true] at hf
        exact flat_bits hf.2 hu
      · cases hf
    · cases dk <;> simp only [TD.ok] at hdok
      rename_i fsd
      have ask : ∀ (en : List MapEntry) (i : Nat) r, findBy f en i = some r → (Instr.findAsking kt u en i).run P w1 = .ok r w1 := by
        intro en
        induction en with
        | nil => intro i r h; simp only [findBy, Option.some.injEq] at h; subst h; simp [Instr.findAsking]
        | cons e es ih =>
          intro i r h
          simp only [findBy] at h
          cases hfe : f e.key with
          | none => rw [hfe] at h; cases h
          | some p =>
            rw [hfe] at h
            have := hfr hfe w1
            cases p with
            | true => simp only [Option.some.injEq] at h; subst h; simp [Instr.findAsking, this]
            | false => simp only at h; simp [Instr.findAsking, this, ih (i + 1) r h]
      cases en with
      | nil => simp only [findBy, Option.some.injEq] at hr; subst hr; unfold Instr.findKey; simp [run_und hdk, Instr.findNow]
      | cons e es =>
        have hn : Instr.findNow (.struct fsd) u (e :: es) 0 = none := by cases hu <;> simp [Instr.findNow, Instr.sameNow]
        unfold Instr.findKey
        simp only [Sem.run_bind, run_und hdk, Result.andThen_ok, hn]
        exact ask _ _ _ hr

theorem lookup_rel (TT : TabOk P C) (R : Rel s h w) {t : Nat} {m k : AV} {um uk : Value} {ok : Bool} {v : AV} (hm : VR s h w m um) (hk : VR s h w k uk) (hv : lookupA C h t m k ok = some v) : PRun P s h w (Instr.lookup t um uk ok) v := by
  unfold lookupA at hv
  simp only [Option.bind_eq_bind] at hv
  obtain ⟨ti, hti, hv⟩ := Option.bind_eq_some_iff.1 hv
  obtain ⟨d, hd, hok⟩ := (TT t ti hti).und
  generalize htd : ti.td = td at hv hok
  cases td <;> simp only [reduceCtorEq] at hv
  case map kt e =>
  obtain ⟨ki, hki, hv⟩ := Option.bind_eq_some_iff.1 hv
  split at hv
  · cases hv
  rename_i hkt
  simp only [Bool.not_eq_true', Bool.not_eq_false] at hkt
  obtain ⟨es, hes, hv⟩ := Option.bind_eq_some_iff.1 hv
  obtain ⟨r, hr, hv⟩ := Option.bind_eq_some_iff.1 hv
  obtain ⟨te, hte, hv⟩ := Option.bind_eq_some_iff.1 hv
  obtain ⟨z, hz, hv⟩ := Option.bind_eq_some_iff.1 hv
  simp only [Option.some.injEq] at hv
  subst hv
  cases d <;> simp only [TD.ok] at hok
  obtain ⟨e1, e2⟩ := hok
  rw [e1, e2] at hd
  obtain ⟨fc, hF, hQ, hself, hbits, hfind, hcheck⟩ := key_run TT hki hkt hk
  have tail : ∀ (en : Array MapEntry) (es0 : List (AV × AV)), (es0.Perm es ∧ KeysOk es) → Ents s h w es0 en.toList → ∃ x, (do
    Instr.checkKey en.isEmpty 10000 kt uk
    let (v, ok') ← match ← Instr.findKey kt uk en.toList with
      | some (_, v) => pure (v, true)
      | none => pure (← zeroValue e, false)
    pure (if ok then .tuple #[v, .bool ok'] else v) : Sem Value).run P w = .ok x w ∧ VR s h w (if ok = true then AV.tup [r.getD z, AV.bool r.isSome] else r.getD z) x := by
    intro en es0 hp0 hents
    obtain ⟨r', hr', hrr⟩ := find_rel hF 0 hents (findA_perm hp0.2 hp0.1.symm hr)
    simp only [Sem.run_bind, hcheck, Result.andThen_ok, hfind _ _ w hr']
    have fin : ∀ (x : Value) (y : AV) (b : Bool), VR s h w y x → VR s h w (if ok = true then AV.tup [y, AV.bool b] else y) (if ok = true then .tuple #[x, .bool b] else x) := by
      intro x y b hxy
      cases ok with
      | false => exact hxy
      | true =>
        refine .tup _ _ rfl fun i c hi => ?_
        rcases i with _ | _ | i
        · simp at hi; subst hi; exact hxy
        · simp at hi; subst hi; exact .bool _
        · simp at hi
    cases r with
    | none =>
      cases r' with
      | some x => exact hrr.elim
      | none =>
        obtain ⟨zz, hz1, hz2⟩ := zero_whole (s := s) (h := h) (w := w) (TT e te hte) hz
        simp only [Sem.run_bind, hz1, Sem.run_pure, Result.andThen_ok]
        exact ⟨_, rfl, fin _ _ _ hz2⟩
    | some y =>
      cases r' with
      | none => exact hrr.elim
      | some x =>
        obtain ⟨j, x⟩ := x
        simp only [Sem.run_bind, Sem.run_pure, Result.andThen_ok]
        exact ⟨_, rfl, fin _ _ _ hrr⟩
  unfold PRun Instr.lookup
  simp only [Sem.run_bind, run_und hd, Result.andThen_ok]
  unfold Heap.ents at hes
  cases m <;> simp only [reduceCtorEq] at hes
  case nilMap =>
    simp only [Option.some.injEq] at hes
    subst hes
    cases hm
    have := tail #[] [] ⟨List.Perm.refl _, List.Pairwise.nil⟩ ⟨rfl, fun i e hi => by simp at hi⟩
    simp only [Sem.run_bind, Sem.run_pure, Result.andThen_ok] at this ⊢
    exact this
  case map o =>
    obtain ⟨b, en, cl, es0, rfl, hb, hheap, hp0, hE, hSt⟩ := map_obj R hes hm
    have := tail en es0 hp0 hE
    simp only [Sem.run_bind, run_getMap hheap, Sem.run_pure, Result.andThen_ok] at this ⊢
    exact this

theorem update_rel (TT : TabOk P C) (R : Rel s h w) {t : Nat} {m k v : AV} {um uk uv : Value} {h' : Heap} (hm : VR s h w m um) (hk : VR s h w k uk) (hv : VR s h w v uv) (hu : updateA C h t m k v = some h') :
    ∃ w', (Instr.mapUpdate t um uk uv).run P w = .ok () w' ∧ Ext s h w s h' w' ∧ Rel s h' w' := by
  unfold updateA at hu
  simp only [Option.bind_eq_bind] at hu
  obtain ⟨ti, hti, hu⟩ := Option.bind_eq_some_iff.1 hu
  obtain ⟨d, hd, hok⟩ := (TT t ti hti).und
  generalize htd : ti.td = td at hu hok
  cases td <;> cases m <;> simp only [reduceCtorEq] at hu
  rename_i kt e o
  obtain ⟨ki, hki, hu⟩ := Option.bind_eq_some_iff.1 hu
  split at hu
  · cases hu
  rename_i hkt
  simp only [Bool.not_eq_true', Bool.not_eq_false] at hkt
  obtain ⟨es, hes, hu⟩ := Option.bind_eq_some_iff.1 hu
  obtain ⟨es', hes', hu⟩ := Option.bind_eq_some_iff.1 hu
  simp only [Option.some.injEq] at hu
  subst hu
  cases d <;> simp only [TD.ok] at hok
  obtain ⟨e1, e2⟩ := hok
  rw [e1, e2] at hd
  obtain ⟨fc, hF, hQ, hself, hbits, hfind, hcheck⟩ := key_run TT hki hkt hk
  obtain ⟨b, en, cl, es0, rfl, hb, hheap, hp0, hE, hSt⟩ := map_obj R hes hm
  obtain ⟨es0', hes0', hp1, hk1⟩ := putA_perm hp0.2 hp0.1.symm hes'
  unfold Instr.mapUpdate
  simp only [Sem.run_bind, run_und hd, Result.andThen_ok, run_getMap hheap, hcheck]
  rcases put_rel hF hQ hk hv cl 0 hE hes0' with ⟨i, y, h1, h2, h3⟩ | ⟨h1, h2⟩
  · simp only [hfind _ _ w h1, Result.andThen_ok, Nat.zero_add]
    have hkey : ((en[i]?).map (·.key)).getD uk = uk := by
      have : (en[i]?).map (·.key) = some uk := by simpa using h2
      rw [this]; rfl
    simp only [Sem.run_bind, hkey, Instr.keyThatStays, hbits, if_true, Sem.run_pure, Result.andThen_ok, run_setMap hheap]
    have key := map_write R (en' := en.modify i fun e => { e with key := uk, val := uv }) (cl' := cl) hb (mapAt_some hes) hheap ⟨hp1.symm, hk1⟩ (by simpa using h3) (MapKept.stamped_modify hSt i _ (fun _ _ => rfl) (fun x hx hxi => by
      have : (en[i]?).map (·.key) = some uk := by simpa using h2
      rw [hxi] at this
      simpa using this.symm))
    exact ⟨_, rfl, key.1, key.2⟩
  · simp only [hfind _ _ w h1, Result.andThen_ok, run_setMap hheap]
    have key := map_write R (en' := en.push { key := uk, val := uv, born := cl }) (cl' := cl + 1) hb (mapAt_some hes) hheap ⟨hp1.symm, hk1⟩ (by simpa using h2) (MapKept.stamped_push hSt (fun x hx e => findNow_ne hself h1 x (by simpa using hx) e))
    exact ⟨_, rfl, key.1, key.2⟩
end
end Go.Rv
