/-
  'slices.Sorted(maps.Keys(m))' at int keys, as one step whose answer is new memory that may be written.
-/
import Derived.Test.YtpnafmeehjfnaaaGreatDoorPtH
import Derived.Lib.SlMapMerge
import Derived.Lib.SlMapFilter
import Derived.Maps.Own
import Derived.Shelf.SortM.Plain
import Derived.Shelf.SortM.SortNone
import Derived.WalkKit
import Derived.Maps.OwnOps
import Derived.Maps.AppendAt
import Derived.Test.YtpnafmeehjfnaaaGreatDoorPtG
set_option linter.unusedSectionVars false
set_option linter.unusedSimpArgs false
set_option linter.unusedVariables false
set_option linter.defProp false
namespace Go.Rv
open Go.Maps Go.RowKit
def intCells (l : List Int) : List AV := l.map (AV.int .i64)
def sortedKeysM (clo : Nat) (args : List AV) (h : Heap) : Option (CRes × Heap) :=
  match args with
  | [.clo g [.ptr o 0 gen]] =>
    if g = clo then
      (h.obj o gen).bind fun cs => match cs with
        | .map m :: _ => (h.mapAt m).bind fun es => (keysI es).bind fun ks => if es.length ≤ 1000000 then (match isort ks with
          | [] => some (.ret (.lst [] 1 .nil), h)
          | x :: r => some (.ret (.msl h.length 0 (x :: r).length 1 0 none), h ++ [.cells (intCells (x :: r)) 0])) else none
        | _ => none
    else none
  | _ => none
section
variable {P : Program} {C : Cfg} {s : Sim} {h : Heap} {w : World}
theorem ext_same {w' : World} (R : Rel s h w) (hsz : w.heap.size ≤ w'.heap.size) (hb : ∀ b, b < w.heap.size → w'.heap[b]? = w.heap[b]?) (h1 : w'.os = w.os) (h2 : w'.tape = w.tape) (h3 : w'.output = w.output) : Ext s h w s h w' ∧ Rel s h w' := by
  have E : Ext s h w s h w' :=
    { size := hsz, far := fun b hlt _ => hb b hlt, shape := fun b x hx => by rw [shape_of (hb b (shape_lt hx))]; exact hx, imm := fun b hb => hb, gen := fun _ g hg => ⟨g, hg, Nat.le_refl _⟩,
      same := fun _ _ _ _ => ⟨fun _ h => h, rfl⟩, kind := fun _ h _ => h, own := fun o b hb => .inl ⟨o, hb⟩, os := h1, tape := h2, output := h3, kindL := fun _ h => h, good := rfl, old := fun o b _ hb => ⟨b, hb⟩, kept := fun _ _ _ => rfl }
  refine ⟨E, R.inj, fun o b hb' => ?_, R.apart, fun b hI => Nat.lt_of_lt_of_le (R.imm b hI) hsz⟩
  obtain ⟨x, hx, hr⟩ := R.obj o b hb'
  exact ⟨x, hx, hr.ext R.apart E (hb b (R.lt hb'))⟩
theorem ext_new {w' : World} (R : Rel s h w) (B : Below w.heap.size w w') {g : Nat} (hg : w.heap.size ≤ g) (hg' : g < w'.heap.size) {cs : List AV} {bc : Array Value} {el : TypeId} (hheap : w'.heap[g]? = some (.cells bc el (0, 0))) (hl : cs.length ≤ bc.size)
    (hc : ∀ s1 h1 w1, ∀ (i : Nat) c, cs[i]? = some c → ∃ v, bc[i]? = some v ∧ VR s1 h1 w1 c v) :
    Ext s h w (s.add h.length g) (h ++ [.cells cs 0]) w' ∧ Rel (s.add h.length g) (h ++ [.cells cs 0]) w' := by
  have hμ : ∀ o, o < h.length → (s.add h.length g).μ o = s.μ o := fun o ho => by simp [Sim.add]; omega
  have hlt : ∀ {o b}, s.μ o = some b → o < h.length := fun {o b} hb => by
    obtain ⟨x, hx, _⟩ := R.obj o b hb
    exact (List.getElem?_eq_some_iff.1 hx).1
  have happ : ∀ {o}, o < h.length → (h ++ [AObj.cells cs 0])[o]? = h[o]? := fun {o} ho => List.getElem?_append_left ho
  have E : Ext s h w (s.add h.length g) (h ++ [.cells cs 0]) w' := by
    refine ⟨⟨B.size, fun b hb _ => B.block b hb, fun b x hx => by rw [shape_of (B.block b (shape_lt hx))]; exact hx, fun b hb => hb, fun o g0 hg0 => ⟨g0, ?_, Nat.le_refl _⟩, fun o g0 hg0 _ => ⟨fun b hb => ?_, ?_⟩, fun o ho _ => ?_, fun o b hb => ?_, B.os, B.tape, B.output, fun o ho => ?_, rfl⟩, fun o b ho hb => ?_, fun o ho _ => happ ho, fun _ _ h => .inl h⟩
    · have := genOf_lt' hg0
      unfold genOf
      rw [happ this]; exact hg0
    · rw [hμ o (hlt hb)]; exact hb
    · unfold lenOf
      rw [happ (genOf_lt' hg0)]
    · have hl : o < h.length := genOf_lt' (genOf_map ho)
      unfold isMap
      rw [happ hl]; exact ho
    · by_cases e : o = h.length
      · subst e
        simp only [Sim.add, if_true, Option.some.injEq] at hb
        subst hb; exact .inr hg
      · simp only [Sim.add, e, if_false] at hb
        exact .inl ⟨o, hb⟩
    · have hl : o < h.length := genOf_lt' (genOf_loop ho)
      unfold isLoop
      rw [happ hl]; exact ho
    · rw [hμ o ho] at hb; exact ⟨b, hb⟩
  refine ⟨E, fun o o' b hb hb' => ?_, fun o b hb => ?_, fun o b hb hI => ?_, fun b hI => Nat.lt_of_lt_of_le (R.imm b hI) B.size⟩
  · simp only [Sim.add] at hb hb'
    split at hb <;> split at hb'
    · rename_i e e'; rw [e, e']
    · simp only [Option.some.injEq] at hb; subst hb; have := R.lt hb'; omega
    · simp only [Option.some.injEq] at hb'; subst hb'; have := R.lt hb; omega
    · exact R.inj o o' b hb hb'
  · simp only [Sim.add] at hb
    split at hb
    · rename_i e
      simp only [Option.some.injEq] at hb
      subst hb e
      exact ⟨.cells cs 0, by rw [List.getElem?_append_right (Nat.le_refl _)]; simp, bc, el, hheap, hl, hc _ _ _⟩
    · obtain ⟨x, hx, hr⟩ := R.obj o b hb
      exact ⟨x, by rw [happ (hlt hb)]; exact hx, hr.ext R.apart E (B.block b (R.lt hb))⟩
  · simp only [Sim.add] at hb
    split at hb
    · simp only [Option.some.injEq] at hb; subst hb; have := R.imm _ hI; omega
    · exact R.apart o b hb hI
theorem sortedKeysM_ok {f clo kt : Nat} (hS : SortedSays P f clo kt) (hkt : P.underlying kt = some (.int .i64)) {args : List AV} {res : CRes} {h' : Heap} (hp : sortedKeysM clo args h = some (res, h')) {vs : List Value} (R : Rel s h w) (H : VRs s h w args vs) : CallOk P f vs s h w res h' := by
  unfold sortedKeysM at hp
  split at hp <;> first | cases hp | skip
  rename_i g o gen
  split at hp <;> first | cases hp | skip
  rename_i hg
  subst hg
  obtain ⟨cs, hcs, hp⟩ := Option.bind_eq_some_iff.1 hp
  split at hp <;> first | cases hp | skip
  rename_i m cr
  obtain ⟨es, hes, hp⟩ := Option.bind_eq_some_iff.1 hp
  obtain ⟨ks, hks, hp⟩ := Option.bind_eq_some_iff.1 hp
  by_cases hlen : es.length ≤ 1000000
  case neg => rw [if_neg hlen] at hp; cases hp
  rw [if_pos hlen] at hp
  obtain ⟨v0, hvs0⟩ := List.length_eq_one_iff.1 (show vs.length = 1 by rw [← H.1]; rfl)
  subst hvs0
  obtain ⟨v1, hv1, hvr⟩ := H.2 0 _ rfl
  have hv1 : v0 = v1 := by simpa using hv1
  subst hv1
  cases hvr with
  | clo _ _ us hl hr =>
  have hul : us.size = 1 := by simpa using hl.symm
  have h0 := hr 0 _ rfl
  have hus : us = #[us.getD 0 undef] := by
    apply Array.ext
    · simp [hul]
    · intro i h1 h2
      have : i = 0 := by omega
      subst this
      simp [h1]
  generalize us.getD 0 undef = pv at h0 hus
  subst hus
  have hgo := (genOf_obj hcs)
  cases h0 with
  | ptrOld _ _ _ g' a k1 k2 => have := hgo.1; rw [this] at k1; injection k1; omega
  | ptr _ _ _ bm k1 k2 =>
  obtain ⟨x, hx, hxr⟩ := R.obj o bm k2
  rw [hgo.2.1] at hx
  injection hx with hx; subst hx
  obtain ⟨bc, el, q1, q2, q3⟩ := hxr
  obtain ⟨mv, hmv, hmr⟩ := q3 0 _ rfl
  obtain ⟨b, en, cl, es0, rfl, hb, hheap, hp0, hE, hSt⟩ := map_obj R hes hmr
  have hcell : w.cell? ⟨bm, 0, none⟩ = some (.map (some b)) := by
    unfold World.cell?
    rw [q1]
    simpa using hmv
  obtain ⟨ks0, hks0, hpk⟩ := keysI_perm hp0.1 hks
  obtain ⟨e1, e2⟩ := keysI_rel hE hks0
  have hel : en.size = es.length := by have := hE.1; rw [← hp0.1.length_eq]; simpa using this.symm
  obtain ⟨D0, d1, d2, d3⟩ := ownsMap_rel hkt hheap hSt (by rw [hel]; simp only [maxLen]; omega) (List.Perm.of_eq e1) e2
  replace d2 := d2.trans hpk
  have hc := hS w bm b _ D0 (R.lt k2) hcell d1 (by rw [d3, hel]; simp only [maxLen]; omega) (by rw [d3, hel]; omega)
  refine Calls.mono hc fun e w' he => ?_
  obtain ⟨v, ss, rfl, p1, p2, p3, p4⟩ := he
  have hperm : ss.Perm ks := p1.trans d2
  have hsort : ss.mergeSort (fun x y => decide (x ≤ y)) = isort ks := isort_eq hperm
  obtain ⟨l1, l2⟩ := p2
  cases hk : isort ks with
  | nil =>
    rw [hk] at hp
    simp only [Option.some.injEq, Prod.mk.injEq] at hp
    obtain ⟨rfl, rfl⟩ := hp
    have hksn : ks = [] := by
      have := (isort_perm ks).length_eq
      rw [hk] at this
      exact List.length_eq_zero_iff.1 this.symm
    have hssn : ss = [] := by
      have := hperm.length_eq
      rw [hksn] at this
      exact List.length_eq_zero_iff.1 this
    have hv := p3.2 hssn
    subst hv
    obtain ⟨E, R'⟩ := ext_same R p4.size (fun b hb => p4.block b hb) p4.os p4.tape p4.output
    exact ⟨s, E, R', .lstNil 1⟩
  | cons x r =>
    rw [hk] at hp
    simp only [Option.some.injEq, Prod.mk.injEq] at hp
    obtain ⟨rfl, rfl⟩ := hp
    rw [hsort, hk] at l1 l2
    rcases l2 with ⟨rfl, hn⟩ | ⟨g', cap, cur, rfl, hge, hcur, hle, hmax, hcs2, htake⟩
    · rw [hn] at l1; simp at l1
    have hlt : g' < w'.heap.size := (Array.getElem?_eq_some_iff.1 hcur).1
    have hll : ss.length = (x :: r).length := by simp only [List.length_map] at l1; omega
    have hval : ∀ (i : Nat) (c : Int), (x :: r)[i]? = some c → cur[i]? = some (Value.int .i64 c) := by
      intro i c hi
      have h1 : (cur.toList.take (ss.length * 1))[i]? = some (encZ c) := by rw [htake, List.getElem?_map, hi]; rfl
      rw [List.getElem?_take] at h1
      split at h1
      · simpa using h1
      · cases h1
    have hcl : (x :: r).length ≤ cur.size := by
      have := congrArg List.length htake
      simp only [List.length_take, Array.length_toList, List.length_map, Nat.mul_one] at this
      have h2 : (List.length (x :: r)) ≤ cur.size := by omega
      exact h2
    obtain ⟨E, R'⟩ := ext_new (cs := intCells (x :: r)) R p4 hge hlt hcur (by unfold intCells; rw [List.length_map]; exact hcl) (fun s1 h1 w1 i c hi => by
      unfold intCells at hi
      rw [List.getElem?_map] at hi
      obtain ⟨c', hc', rfl⟩ := Option.map_eq_some_iff.1 hi
      exact ⟨_, hval i c' hc', .int _ _⟩)
    refine ⟨_, E, R', ?_⟩
    rw [hll]
    refine .msl _ _ _ _ _ _ g' cap kt cur.size 0 (.inl rfl) (by rw [genOf_new]) (by simp [Sim.add]) (by rw [← hll]; exact hle) (fun m hm => by cases hm) (fun _ => ?_) (by simp only [World.shape?, hcur]) (by omega)
    rw [lenOf_new]
    unfold intCells
    rw [List.length_map, ← hll]
    omega
end
end Go.Rv
namespace Go.Rv
open Go.Maps Go.RowKit
def intEs : List (AV × AV) → Option (List (Int × Int))
  | [] => some []
  | (.int k n, .int k' m) :: r => if k == .i64 && k' == .i64 && (Lit.int .i64 n).wf && (Lit.int .i64 m).wf then (intEs r).map ((n, m) :: ·) else none
  | _ => none
def ofInts (l : List (Int × Int)) : List (AV × AV) := l.map fun p => (.int .i64 p.1, .int .i64 p.2)
def insE (x : Int × Int) : List (Int × Int) → List (Int × Int)
  | [] => [x]
  | y :: r => match decide (x.1 ≤ y.1) with
    | true => x :: y :: r
    | false => y :: insE x r
def sortE : List (Int × Int) → List (Int × Int)
  | [] => []
  | x :: r => insE x (sortE r)
theorem insE_perm (x : Int × Int) : ∀ l, (insE x l).Perm (x :: l)
  | [] => List.Perm.refl _
  | y :: r => by
    simp only [insE]
    cases decide (x.1 ≤ y.1) with
    | true => exact List.Perm.refl _
    | false => exact ((insE_perm x r).cons y).trans (List.Perm.swap x y r)
theorem sortE_perm : ∀ l, (sortE l).Perm l
  | [] => List.Perm.refl _
  | x :: r => (insE_perm x (sortE r)).trans ((sortE_perm r).cons x)
def Wf (l : List (Int × Int)) : Prop := ∀ p ∈ l, (Lit.int .i64 p.1).wf = true ∧ (Lit.int .i64 p.2).wf = true
def Apart (l : List (Int × Int)) : Prop := l.Pairwise fun a b => a.1 ≠ b.1
theorem intEs_eq : ∀ {es : List (AV × AV)} {l : List (Int × Int)}, intEs es = some l → es = ofInts l ∧ Wf l
  | [], l, h => by
    simp only [intEs, Option.some.injEq] at h
    subst h
    exact ⟨rfl, fun p hp => by simp at hp⟩
  | (a, b) :: es, l, h => by
    cases a <;> cases b <;> simp only [intEs, reduceCtorEq] at h
    rename_i k n k' m
    split at h
    · rename_i hc
      simp only [Bool.and_eq_true, beq_iff_eq] at hc
      obtain ⟨⟨⟨rfl, rfl⟩, h1⟩, h2⟩ := hc
      obtain ⟨r, hr, rfl⟩ := Option.map_eq_some_iff.1 h
      obtain ⟨h3, h4⟩ := intEs_eq hr
      refine ⟨by rw [h3]; rfl, fun p hp => ?_⟩
      rcases List.mem_cons.1 hp with rfl | hp
      · exact ⟨h1, h2⟩
      · exact h4 p hp
    · cases h
theorem keysOk_ints {l : List (Int × Int)} : KeysOk (ofInts l) ↔ Apart l := by
  unfold KeysOk ofInts Apart
  rw [List.pairwise_map]
  constructor <;> intro h <;> refine h.imp fun {a b} h => ?_
  · simpa [sameK, sameKey] using h
  · simpa [sameK, sameKey] using h
theorem perm_ints {l : List (Int × Int)} {es0 : List (AV × AV)} (p : es0.Perm (ofInts l)) : ∃ l0, es0 = ofInts l0 ∧ l0.Perm l := by
  let g : AV × AV → Int × Int := fun e => (match e.1 with | .int _ n => n | _ => 0, match e.2 with | .int _ n => n | _ => 0)
  have hg : ∀ l, (ofInts l).map g = l := fun l => by
    unfold ofInts
    rw [List.map_map]
    exact (List.map_congr_left fun x _ => rfl).trans (List.map_id l)
  refine ⟨es0.map g, ?_, by have := p.map g; rwa [hg] at this⟩
  have hall : ∀ e ∈ es0, e = (.int .i64 (g e).1, .int .i64 (g e).2) := fun e he => by
    obtain ⟨x, _, rfl⟩ := List.mem_map.1 (p.mem_iff.1 he)
    rfl
  unfold ofInts
  rw [List.map_map]
  exact ((List.map_congr_left fun e he => (hall e he).symm).trans (List.map_id es0)).symm
def mergeE (d s : List (Int × Int)) : List (Int × Int) := (d.filter fun p => !(s.any fun q => q.1 == p.1)) ++ s
def bearsE (t : List (Int × Int)) (n : Int) : Bool := t.any fun q => q.1 == n && !(q.2 == 0)
def cloneMap (args : List AV) (h : Heap) : Option (CRes × Heap) :=
  match args with
  | [.map o] => (h.mapAt o).bind fun es => match intEs es with
    | some l => some (.ret (.map h.length), h ++ [.map (ofInts (sortE l))])
    | none => some (.ret (.map h.length), h ++ [.map es])
  | _ => none
def copyMap (args : List AV) (h : Heap) : Option (CRes × Heap) :=
  match args with
  | [.map o, .map o'] => if o = o' then none else
    (h.mapAt o).bind fun ds => (intEs ds).bind fun d => (h.mapAt o').bind fun ss => (intEs ss).bind fun s =>
      if d.length + s.length ≤ 1000000 then some (.ret (.tup []), h.set o (.map (ofInts (sortE (mergeE d s))))) else none
  | _ => none
def strikeMap (clo : Nat) (args : List AV) (h : Heap) : Option (CRes × Heap) :=
  match args with
  | [.map o, .clo g [.ptr p 0 gen]] => if g = clo then
    (h.obj p gen).bind fun cs => match cs with
      | .map t :: _ => if o = t then none else
        (h.mapAt o).bind fun ds => (intEs ds).bind fun d => (h.mapAt t).bind fun ts => (intEs ts).bind fun u =>
          if d.length + u.length ≤ 1000000 then some (.ret (.tup []), h.set o (.map (ofInts (d.filter fun q => bearsE u q.1)))) else none
      | _ => none
    else none
  | _ => none
section
variable {P : Program} {C : Cfg} {s : Sim} {h : Heap} {w : World}
abbrev intR : Value → Option (DataW Unit × List MemPlace) := fun v => match v with
  | .int .i64 n => if (Lit.int .i64 n).wf then some (.lit (.int .i64 n), []) else none
  | _ => none
def toD (p : Int × Int) : Lit × DataW Unit := (.int .i64 p.1, .lit (.int .i64 p.2))
def toV (p : Int × Int) : Value × Value := (.int .i64 p.1, .int .i64 p.2)
def kv (m : MapEntry) : Value × Value := (m.key, m.val)
def dOf (l : List (Int × Int)) : DataW Unit := .map ((l.map toD).foldr DataW.insert [])
theorem toD_perm {l l' : List (Int × Int)} (p : (l.map toD).Perm (l'.map toD)) : l.Perm l' := by
  let g : Lit × DataW Unit → Int × Int := fun e => (match e.1 with | .int _ n => n | _ => 0, match e.2 with | .lit (.int _ n) => n | _ => 0)
  have hg : ∀ l : List (Int × Int), (l.map toD).map g = l := fun l => by
    rw [List.map_map]
    exact (List.map_congr_left fun x _ => rfl).trans (List.map_id l)
  have := p.map g
  rwa [hg, hg] at this
theorem ents_kv : ∀ {l : List (Int × Int)} {en : List MapEntry}, Ents s h w (ofInts l) en ↔ en.map kv = l.map toV
  | [], [] => ⟨fun _ => rfl, fun _ => ⟨rfl, fun i e hi => by simp [ofInts] at hi⟩⟩
  | [], _ :: _ => ⟨fun H => by have := H.1; simp [ofInts] at this, fun H => by simp at H⟩
  | _ :: _, [] => ⟨fun H => by have := H.1; simp [ofInts] at this, fun H => by simp at H⟩
  | p :: l, m :: en => by
    have ih := ents_kv (l := l) (en := en)
    constructor
    · intro H
      obtain ⟨⟨h1, h2⟩, ht⟩ := Ents.tail H
      have e1 : m.key = .int .i64 p.1 := by generalize m.key = x at h1; cases h1; rfl
      have e2 : m.val = .int .i64 p.2 := by generalize m.val = x at h2; cases h2; rfl
      rw [List.map_cons, List.map_cons, ih.1 ht]
      simp [kv, toV, e1, e2]
    · intro H
      rw [List.map_cons, List.map_cons] at H
      injection H with H1 H2
      simp only [kv, toV, Prod.mk.injEq] at H1
      exact Ents.cons ⟨by rw [H1.1]; exact .int _ _, by rw [H1.2]; exact .int _ _⟩ (ih.2 H2)
theorem owns_of {kt b cl : Nat} {en : Array MapEntry} {l : List (Int × Int)} (hkt : P.underlying kt = some (.int .i64)) (hheap : w.heap[b]? = some (.map en cl)) (hS : MapKept.Stamped en cl) (hkv : en.toList.map kv = l.map toV) (hwf : Wf l) (hsz : l.length ≤ maxLen) :
    w.ownsMap P kt intR b l.length (dOf l) := by
  have hlen : en.size = l.length := by have := congrArg List.length hkv; simpa using this
  have hrd : ∀ (en : List MapEntry) (l : List (Int × Int)), Wf l → en.map kv = l.map toV → (∀ x ∈ en, ∃ y, WideElems.rd P kt intR x = some y) ∧ en.map (WideElems.rg P kt intR) = l.map toD := by
    intro en
    induction en with
    | nil =>
      intro l _ hl
      cases l with
      | nil => exact ⟨fun x hx => by simp at hx, rfl⟩
      | cons p l => simp at hl
    | cons m en ih =>
      intro l hw hl
      cases l with
      | nil => simp at hl
      | cons p l =>
        rw [List.map_cons, List.map_cons] at hl
        injection hl with h1 h2
        simp only [kv, toV, Prod.mk.injEq] at h1
        obtain ⟨i1, i2⟩ := ih l (fun p hp => hw p (List.mem_cons_of_mem _ hp)) h2
        have hp := hw p (List.mem_cons_self ..)
        have hm : WideElems.rd P kt intR m = some (toD p) := by
          obtain ⟨key, val, born⟩ := m
          obtain ⟨rfl, rfl⟩ := h1
          exact WideElems.rd_mk (R := intR) (yv := (.lit (.int .i64 p.2), [])) (keyOf_int_mk hkt hp.1) (by simp [intR, hp.2])
        refine ⟨fun x hx => ?_, ?_⟩
        · rcases List.mem_cons.1 hx with rfl | hx
          · exact ⟨_, hm⟩
          · exact i1 x hx
        · rw [List.map_cons, List.map_cons, i2, WideElems.rg_of hm]
  obtain ⟨r1, r2⟩ := hrd en.toList l hwf hkv
  exact ⟨en, cl, hheap, ⟨by rw [hlen]; exact hsz, hS, r1⟩, Nat.le_of_eq hlen, by unfold dOf; rw [r2]⟩
theorem owns_inv {kt b n : Nat} {D : DataW Unit} (hkt : P.underlying kt = some (.int .i64)) (H : w.ownsMap P kt intR b n D) :
    ∃ en cl l, w.heap[b]? = some (.map en cl) ∧ MapKept.Stamped en cl ∧ en.toList.map kv = l.map toV ∧ D = dOf l ∧ Apart l := by
  obtain ⟨en, cl, h1, F, h2, h3⟩ := H
  have hrd : ∀ (en : List MapEntry), (∀ x ∈ en, ∃ y, WideElems.rd P kt intR x = some y) → ∃ l : List (Int × Int), en.map kv = l.map toV ∧ en.map (WideElems.rg P kt intR) = l.map toD := by
    intro en
    induction en with
    | nil => intro _; exact ⟨[], rfl, rfl⟩
    | cons m en ih =>
      intro hx
      obtain ⟨l, i1, i2⟩ := ih fun x hm => hx x (List.mem_cons_of_mem _ hm)
      obtain ⟨y, hy⟩ := hx m (List.mem_cons_self ..)
      have hg := WideElems.rg_of hy
      unfold WideElems.rd at hy
      obtain ⟨key, hk, hy⟩ := Option.bind_eq_some_iff.1 hy
      obtain ⟨z, hz, rfl⟩ := Option.map_eq_some_iff.1 hy
      obtain ⟨mk, mv, born⟩ := m
      dsimp only at hk hz hg
      have e1 : ∃ a, mk = .int .i64 a ∧ key = .int .i64 a := by
        simp only [keyOf, hkt, mapKey] at hk
        cases mk <;> simp [] at hk
        obtain ⟨⟨rfl, _⟩, rfl⟩ := hk
        exact ⟨_, rfl, rfl⟩
      obtain ⟨a, rfl, rfl⟩ := e1
      have e2 : ∃ c, mv = .int .i64 c ∧ z.1 = .lit (.int .i64 c) := by
        unfold intR at hz
        split at hz
        · split at hz
          · injection hz with hz; subst hz; exact ⟨_, rfl, rfl⟩
          · cases hz
        · cases hz
      obtain ⟨c, rfl, e2⟩ := e2
      refine ⟨(a, c) :: l, ?_, ?_⟩
      · rw [List.map_cons, List.map_cons, i1]; rfl
      · rw [List.map_cons, List.map_cons, i2, hg, e2]; rfl
  obtain ⟨l, l1, l2⟩ := hrd en.toList F.reads
  refine ⟨en, cl, l, h1, F.stamped, l1, by rw [h3, l2]; rfl, ?_⟩
  have := F.stamped.2.2
  unfold List.Nodup at this
  rw [List.pairwise_map] at this
  have hk : en.toList.map (·.key) = l.map fun p => .int .i64 p.1 := by
    have := congrArg (List.map Prod.fst) l1
    simpa [List.map_map, Function.comp_def, kv, toV] using this
  have hn := F.stamped.2.2
  rw [hk] at hn
  unfold List.Nodup at hn
  rw [List.pairwise_map] at hn
  exact hn.imp fun {a b} h e => h (by rw [e])
theorem fold_put : ∀ (B : List (Lit × DataW Unit)) (A : List (Lit × DataW Unit)), B.Pairwise (fun a b => a.1 ≠ b.1) → (∀ p ∈ B, WideAt.IsKeyLit p.1) →
    ∃ E, B.foldl (fun D p => D.put p.1 p.2) (DataW.map A) = .map E ∧ E.Perm ((A.filter fun p => !(B.any fun q => p.1.sameKey q.1)) ++ B)
  | [], A, _, _ => ⟨A, rfl, by rw [List.append_nil]; exact List.Perm.of_eq (List.filter_eq_self.2 fun p _ => rfl).symm⟩
  | a :: r, A, hp, hk => by
    obtain ⟨h1, h2⟩ := List.pairwise_cons.1 hp
    obtain ⟨E, e1, e2⟩ := fold_put r (DataW.insert a (A.filter fun p => !p.1.sameKey a.1)) h2 fun p hp => hk p (List.mem_cons_of_mem _ hp)
    refine ⟨E, e1, e2.trans ?_⟩
    have ha : r.any (fun q => a.1.sameKey q.1) = false := List.any_eq_false.2 fun q hq => by rw [sameKey_ne (h1 q hq)]; simp
    have p1 := (WideShapes.insert_perm a (A.filter fun p => !p.1.sameKey a.1)).filter fun p => !(r.any fun q => p.1.sameKey q.1)
    rw [List.filter_cons, if_pos (by simp [ha]), List.filter_filter] at p1
    have e3 : (A.filter fun p => !(List.any r fun q => p.1.sameKey q.1) && !p.1.sameKey a.1) = A.filter fun p => !((a :: r).any fun q => p.1.sameKey q.1) := List.filter_congr fun p _ => by
      simp [Bool.and_comm]
    rw [e3] at p1
    refine (p1.append_right r).trans ?_
    rw [List.cons_append]
    exact List.perm_middle.symm
theorem merge_perm {d s l : List (Int × Int)} (hs : Apart s) (e : dOf l = Lib.mergeD (dOf d) (dOf s)) : l.Perm (mergeE d s) := by
  have pA := WideShapes.sorted_perm (d.map toD)
  have pB := WideShapes.sorted_perm (s.map toD)
  have hap : ((s.map toD).foldr DataW.insert []).Pairwise (fun a b => a.1 ≠ b.1) := by
    refine (pB.pairwise_iff fun h => Ne.symm h).2 ?_
    rw [List.pairwise_map]
    exact hs.imp fun {a b} h e => h (by simpa [toD] using e)
  have hk : ∀ p ∈ (s.map toD).foldr DataW.insert [], WideAt.IsKeyLit p.1 := fun p hp => by
    obtain ⟨q, _, rfl⟩ := List.mem_map.1 (pB.mem_iff.1 hp)
    trivial
  obtain ⟨E, e1, e2⟩ := fold_put _ ((d.map toD).foldr DataW.insert []) hap hk
  have e' : dOf l = .map E := e.trans e1
  unfold dOf at e'
  injection e' with e'
  refine toD_perm (((WideShapes.sorted_perm _).symm.trans ((List.Perm.of_eq e').trans e2)).trans ?_)
  have p1 := pA.filter fun p => !(((s.map toD).foldr DataW.insert []).any fun q => p.1.sameKey q.1)
  refine (p1.append pB).trans ?_
  unfold mergeE
  rw [List.map_append, List.filter_map]
  refine List.Perm.append_right _ (List.Perm.of_eq (congrArg _ (List.filter_congr fun p _ => ?_)))
  simp only [Function.comp]
  congr 1
  rw [Bool.eq_iff_iff, List.any_eq_true, List.any_eq_true]
  constructor
  · rintro ⟨q, hq, he⟩
    obtain ⟨q', hq', rfl⟩ := List.mem_map.1 (pB.mem_iff.1 hq)
    refine ⟨q', hq', ?_⟩
    have := WideAt.sameKey_eq he
    simp only [toD, Lit.int.injEq, true_and] at this
    simp [this]
  · rintro ⟨q, hq, he⟩
    refine ⟨toD q, pB.mem_iff.2 (List.mem_map.2 ⟨q, hq, rfl⟩), ?_⟩
    have : q.1 = p.1 := by simpa using he
    simp [toD, Lit.sameKey, this]
theorem strike_perm {d l : List (Int × Int)} {pd : Lit → DataW Unit → Bool} {f : Int × Int → Bool} (hf : ∀ p ∈ d, pd (.int .i64 p.1) (.lit (.int .i64 p.2)) = !f p) (e : dOf l = Lib.deleteFuncD pd (dOf d)) : l.Perm (d.filter f) := by
  have pA := WideShapes.sorted_perm (d.map toD)
  unfold dOf Lib.deleteFuncD at e
  injection e with e
  refine toD_perm (((WideShapes.sorted_perm _).symm.trans (List.Perm.of_eq e)).trans ((pA.filter _).trans (List.Perm.of_eq ?_)))
  rw [List.filter_map]
  refine congrArg _ (List.filter_congr fun p hp => ?_)
  simp [toD, hf p hp]
theorem Apart.perm {l l' : List (Int × Int)} (p : l.Perm l') (h : Apart l) : Apart l' := (p.pairwise_iff fun h => Ne.symm h).1 h
theorem map_grown (R : Rel s h w) {w' : World} {o b : Nat} {es es' es0' : List (AV × AV)} {en en' : Array MapEntry} {cl cl' : Nat} (hb : s.μ o = some b) (ho : h[o]? = some (.map es)) (hheap : w.heap[b]? = some (.map en cl)) (hg : w.grownBy w' (some b)) (hat : w'.heap[b]? = some (.map en' cl'))
    (hP : es0'.Perm es' ∧ KeysOk es') (hE : ∀ s1 h1 w1, Ents s1 h1 w1 es0' en'.toList) (hS : MapKept.Stamped en' cl') :
    Ext s h w s (h.set o (.map es')) w' ∧ Rel s (h.set o (.map es')) w' := by
  obtain ⟨g1, g2, g3, g4, g5⟩ := hg
  have hlt := (List.getElem?_eq_some_iff.1 ho).1
  have hbl := (Array.getElem?_eq_some_iff.1 hheap).1
  have hfar : ∀ k, k < w.heap.size → k ≠ b → w'.heap[k]? = w.heap[k]? := fun k hk hne => g5 k hk (fun e => hne (Option.some.inj e))
  have E : Ext s h w s (h.set o (.map es')) w' := by
    refine ⟨⟨g4, fun k hk hn => hfar k hk (fun e => hn o (e ▸ hb)), fun k x hx => ?_, fun _ h => h, fun k g0 hg0 => ?_, fun k g0 _ _ => ⟨fun _ h => h, ?_⟩, fun k hk _ => ?_, fun k c hc => .inl ⟨k, hc⟩, g1, g2, g3, fun k hk => ?_, rfl⟩, fun k c _ hc => ⟨c, hc⟩, fun k _ hn => ?_, fun _ _ h => .inl h⟩
    · by_cases e : k = b
      · subst e
        simp [World.shape?, hheap] at hx
      · rw [shape_of (hfar k (shape_lt hx) e)]; exact hx
    · rw [genOf_set (g := g0)]
      by_cases e : o = k
      · subst e
        have : g0 = 0 := by simp [genOf, ho] at hg0; omega
        exact ⟨0, by simp [hlt], by omega⟩
      · exact ⟨g0, by simp [e, hg0], Nat.le_refl _⟩
    · by_cases e : o = k
      · subst e
        unfold lenOf
        rw [ho, List.getElem?_set_self hlt]
      · exact lenOf_set e
    · by_cases e : o = k
      · subst e
        unfold isMap
        rw [List.getElem?_set_self hlt]
      · rw [isMap_set e]; exact hk
    · by_cases e : o = k
      · subst e; simp [isLoop, ho] at hk
      · rw [isLoop_set e]; exact hk
    · have : o ≠ k := by rintro rfl; rw [hb] at hn; cases hn
      exact List.getElem?_set_ne this
  refine ⟨E, R.inj, fun k c hk => ?_, R.apart, fun c hI => Nat.lt_of_lt_of_le (R.imm c hI) g4⟩
  by_cases e : k = o
  · subst e
    rw [hb] at hk; injection hk with hk; subst hk
    refine ⟨.map es', by rw [List.getElem?_set_self hlt], es0', hP, en', cl', hat, by simpa using (hE s h w').1, hS, fun i x hi => ?_⟩
    obtain ⟨m, hm, h1, h2⟩ := (hE s (h.set k (.map es')) w').2 i x hi
    exact ⟨m, by simpa using hm, h1, h2⟩
  · obtain ⟨x, hx, hr⟩ := R.obj k c hk
    have hne : c ≠ b := fun e' => e (R.inj k o c hk (e' ▸ hb))
    exact ⟨x, by rw [List.getElem?_set_ne (Ne.symm e)]; exact hx, hr.ext R.apart E (hfar c (R.lt hk) hne)⟩
def CloneSays (P : Program) (f : Nat) : Prop := ∀ (w : World) (b : Nat) (en : Array MapEntry) (cl : Nat), w.heap[b]? = some (.map en cl) → Calls P f #[.map (some b)] w fun e w' => e = .returned (.map (some w.heap.size)) ∧ w' = w.alloc (.map en cl)
theorem cloneMap_ok {f : Nat} (hS : CloneSays P f) {args : List AV} {res : CRes} {h' : Heap} (hp : cloneMap args h = some (res, h')) {vs : List Value} (R : Rel s h w) (H : VRs s h w args vs) : CallOk P f vs s h w res h' := by
  unfold cloneMap at hp
  split at hp <;> first | cases hp | skip
  rename_i o
  obtain ⟨es, hes, hp⟩ := Option.bind_eq_some_iff.1 hp
  obtain ⟨v0, hvs0⟩ := List.length_eq_one_iff.1 (show vs.length = 1 by rw [← H.1]; rfl)
  subst hvs0
  obtain ⟨v1, hv1, hvr⟩ := H.2 0 _ rfl
  have hv1 : v0 = v1 := by simpa using hv1
  subst hv1
  obtain ⟨b, en, cl, es0, rfl, hb, hheap, hp0, hE, hSt⟩ := map_obj R hes hvr
  obtain ⟨es', hes', rfl, rfl⟩ : ∃ es' : List (AV × AV), (es.Perm es') ∧ res = .ret (.map h.length) ∧ h' = h ++ [.map es'] := by
    split at hp <;> simp only [Option.some.injEq, Prod.mk.injEq] at hp <;> obtain ⟨rfl, rfl⟩ := hp
    · rename_i l hl
      obtain ⟨rfl, _⟩ := intEs_eq hl
      exact ⟨_, ((sortE_perm l).map _).symm, rfl, rfl⟩
    · exact ⟨_, List.Perm.refl _, rfl, rfl⟩
  refine Calls.mono (hS w b en cl hheap) fun e w' he => ?_
  obtain ⟨rfl, rfl⟩ := he
  have E := Ext.new R (.map en cl) (.map es')
  have R2 := Rel.new R (.map en cl) (.map es') ⟨es0, ⟨hp0.1.trans hes', hp0.2.perm hes'⟩, en, cl, heap_alloc_at w _, by simpa using hE.1, hSt, fun i e hi => by
    obtain ⟨m, hm, h1, h2⟩ := hE.2 i e hi
    exact ⟨m, by simpa using hm, h1.ext R.apart E, h2.ext R.apart E⟩⟩
  refine ⟨_, E, R2, .map _ w.heap.size ?_ (by simp [Sim.add])⟩
  unfold isMap
  rw [List.getElem?_append_right (Nat.le_refl _)]
  simp
def CopySays (P : Program) (f kt : Nat) : Prop := ∀ (w : World) (bd bs nd ns : Nat) (Dd Ds : DataW Unit), w.ownsMap P kt intR bd nd Dd → w.ownsMap P kt intR bs ns Ds → bd ≠ bs → nd + Maps.size Ds ≤ maxLen →
  Calls P f #[.map (some bd), .map (some bs)] w fun e w' => e = .returned (.tuple #[]) ∧ w'.ownsMap P kt intR bd (nd + Maps.size Ds) (Lib.mergeD Dd Ds) ∧ w.grownBy w' (some bd)
theorem two_vals {x y : AV} {vs : List Value} (H : VRs s h w [x, y] vs) : ∃ u v, vs = [u, v] ∧ VR s h w x u ∧ VR s h w y v := by
  have hl : vs.length = 2 := by rw [← H.1]; rfl
  match vs, hl, H with
  | [u, v], _, H =>
    obtain ⟨u', h1, h2⟩ := H.2 0 _ rfl
    obtain ⟨v', h3, h4⟩ := H.2 1 _ rfl
    simp at h1 h3; subst h1 h3
    exact ⟨_, _, rfl, h2, h4⟩
theorem map_ints (R : Rel s h w) {kt : Nat} (hkt : P.underlying kt = some (.int .i64)) {o : Nat} {es : List (AV × AV)} {l : List (Int × Int)} (ho : h.mapAt o = some es) (hl : intEs es = some l) (hsz : l.length ≤ maxLen) {u : Value} (hv : VR s h w (.map o) u) :
    ∃ b en cl l0, u = .map (some b) ∧ s.μ o = some b ∧ w.heap[b]? = some (.map en cl) ∧ w.ownsMap P kt intR b l0.length (dOf l0) ∧ l0.Perm l ∧ Apart l ∧ Wf l ∧ en.toList.map kv = l0.map toV ∧ MapKept.Stamped en cl := by
  obtain ⟨b, en, cl, es0, rfl, hb, hheap, hp0, hE, hSt⟩ := map_obj R ho hv
  obtain ⟨rfl, hwf⟩ := intEs_eq hl
  obtain ⟨l0, rfl, p0⟩ := perm_ints hp0.1
  have hkv := ents_kv.1 hE
  have hw0 : Wf l0 := fun p hp => hwf p (p0.mem_iff.1 hp)
  exact ⟨b, en, cl, l0, rfl, hb, hheap, owns_of hkt hheap hSt hkv hw0 (by rw [p0.length_eq]; exact hsz), p0, keysOk_ints.1 hp0.2, hwf, hkv, hSt⟩
theorem size_dOf (l : List (Int × Int)) : Maps.size (dOf l) = l.length := by
  show ((l.map toD).foldr DataW.insert []).length = l.length
  rw [(WideShapes.sorted_perm _).length_eq]
  simp
theorem mem_of_perm {l l' : List (Int × Int)} (p : l.Perm l') (f : Int × Int → Bool) : l.any f = l'.any f := by
  rw [Bool.eq_iff_iff, List.any_eq_true, List.any_eq_true]
  constructor <;> rintro ⟨x, hx, hf⟩
  · exact ⟨x, p.mem_iff.1 hx, hf⟩
  · exact ⟨x, p.mem_iff.2 hx, hf⟩
theorem merge_perms {d d' s s' : List (Int × Int)} (pd : d.Perm d') (ps : s.Perm s') : (mergeE d s).Perm (mergeE d' s') := by
  unfold mergeE
  refine List.Perm.append ((pd.filter _).trans (List.Perm.of_eq (List.filter_congr fun p _ => ?_))) ps
  rw [mem_of_perm ps]
theorem copyMap_ok {f kt : Nat} (hS : CopySays P f kt) (hkt : P.underlying kt = some (.int .i64)) {args : List AV} {res : CRes} {h' : Heap} (hp : copyMap args h = some (res, h')) {vs : List Value} (R : Rel s h w) (H : VRs s h w args vs) : CallOk P f vs s h w res h' := by
  unfold copyMap at hp
  split at hp <;> first | cases hp | skip
  rename_i o o'
  split at hp <;> first | cases hp | skip
  rename_i hne
  obtain ⟨ds, hds, hp⟩ := Option.bind_eq_some_iff.1 hp
  obtain ⟨d, hd, hp⟩ := Option.bind_eq_some_iff.1 hp
  obtain ⟨ss, hss, hp⟩ := Option.bind_eq_some_iff.1 hp
  obtain ⟨sl, hsl, hp⟩ := Option.bind_eq_some_iff.1 hp
  split at hp <;> first | cases hp | skip
  rename_i hlen
  obtain ⟨u, v, rfl, hu, hv⟩ := two_vals H
  obtain ⟨bd, en, cl, d0, rfl, hb, hheap, hown, p0, hap, hwf, hkv, hSt⟩ := map_ints R hkt hds hd (by simp only [maxLen]; omega) hu
  obtain ⟨bs, en2, cl2, s0, rfl, hb2, hheap2, hown2, p02, hap2, hwf2, hkv2, hSt2⟩ := map_ints R hkt hss hsl (by simp only [maxLen]; omega) hv
  have hbne : bd ≠ bs := fun e => hne (R.inj o o' bd hb (e ▸ hb2))
  refine Calls.mono (hS w bd bs _ _ _ _ hown hown2 hbne (by rw [size_dOf, p0.length_eq, p02.length_eq]; simp only [maxLen]; omega)) fun e w' he => ?_
  obtain ⟨rfl, k1, k2⟩ := he
  obtain ⟨en', cl', l', q1, q2, q3, q4, q5⟩ := owns_inv hkt k1
  have pl : l'.Perm (mergeE d sl) := (merge_perm (hap2.perm p02.symm) q4.symm).trans (merge_perms p0 p02)
  have pe : (ofInts l').Perm (ofInts (sortE (mergeE d sl))) := (pl.trans (sortE_perm _).symm).map _
  obtain ⟨E, R'⟩ := map_grown R hb (mapAt_some hds) hheap k2 q1 ⟨pe, (keysOk_ints.2 q5).perm pe⟩ (fun s1 h1 w1 => ents_kv.2 q3) q2
  exact ⟨s, E, R', .tup [] #[] rfl fun i c hi => by simp at hi⟩
def StrikeSays (P : Program) (f clo kt : Nat) : Prop := ∀ (w : World) (b n nt bm bt : Nat) (D Dt : DataW Unit), w.ownsMap P kt intR b n D → b ≠ bm → b ≠ bt → w.cell? ⟨bm, 0, none⟩ = some (.map (some bt)) → w.ownsMap P kt intR bt nt Dt →
  Calls P f #[.map (some b), .func (.func clo) #[] #[.pointer (some ⟨bm, 0, none⟩)]] w fun e w' => e = .returned (.tuple #[]) ∧ w'.ownsMap P kt intR b n (Lib.deleteFuncD (fun k _ => match Dt.atKey k (.lit (.int .i64 0)) with | .lit (.int _ z) => z == 0 | _ => false) D) ∧ w.grownBy w' (some b)
theorem at_dOf {t : List (Int × Int)} (ht : Apart t) (n : Int) : (match (dOf t).atKey (.int .i64 n) (.lit (.int .i64 0)) with | .lit (.int _ z) => z == 0 | _ => false) = !bearsE t n := by
  have pT := WideShapes.sorted_perm (t.map toD)
  unfold dOf DataW.atKey bearsE
  dsimp only
  cases hf : List.find? (fun p => p.1.sameKey (Lit.int .i64 n)) ((t.map toD).foldr DataW.insert []) with
  | none =>
    have hn : ∀ q ∈ t, q.1 ≠ n := fun q hq e => by
      have := List.find?_eq_none.1 hf (toD q) (pT.mem_iff.2 (List.mem_map.2 ⟨q, hq, rfl⟩))
      simp [toD, Lit.sameKey, e] at this
    have : t.any (fun q => q.1 == n && !(q.2 == 0)) = false := List.any_eq_false.2 fun q hq => by simp [hn q hq]
    simp [this]
  | some p =>
    obtain ⟨q, hq, rfl⟩ := List.mem_map.1 (pT.mem_iff.1 (List.mem_of_find?_eq_some hf))
    have hk := List.find?_some hf
    have hqn : q.1 = n := by simpa [toD, Lit.sameKey] using hk
    subst hqn
    simp only [toD]
    rw [Bool.eq_iff_iff]
    simp only [Bool.not_eq_true', beq_iff_eq, List.any_eq_false, Bool.and_eq_true, not_and]
    constructor
    · intro hz x hx hxq
      have : x = q := by
        by_cases e : x = q
        · exact e
        · exfalso
          obtain ⟨l1, l2, rfl⟩ := List.append_of_mem hq
          have H' := List.pairwise_append.1 ht
          rcases List.mem_append.1 hx with h1 | h1
          · exact H'.2.2 x h1 q (List.mem_cons_self ..) hxq
          · rcases List.mem_cons.1 h1 with h1 | h1
            · exact e h1
            · exact (List.pairwise_cons.1 H'.2.1).1 x h1 hxq.symm
      subst this
      simp [hz]
    · intro hz
      simpa using hz q hq rfl
theorem strikeMap_ok {f clo kt : Nat} (hS : StrikeSays P f clo kt) (hkt : P.underlying kt = some (.int .i64)) {args : List AV} {res : CRes} {h' : Heap} (hp : strikeMap clo args h = some (res, h')) {vs : List Value} (R : Rel s h w) (H : VRs s h w args vs) : CallOk P f vs s h w res h' := by
  unfold strikeMap at hp
  split at hp <;> first | cases hp | skip
  rename_i o g p gen
  split at hp <;> first | cases hp | skip
  rename_i hg
  subst hg
  obtain ⟨cs, hcs, hp⟩ := Option.bind_eq_some_iff.1 hp
  split at hp <;> first | cases hp | skip
  rename_i t cr
  split at hp <;> first | cases hp | skip
  rename_i hne
  obtain ⟨ds, hds, hp⟩ := Option.bind_eq_some_iff.1 hp
  obtain ⟨d, hd, hp⟩ := Option.bind_eq_some_iff.1 hp
  obtain ⟨ss, hss, hp⟩ := Option.bind_eq_some_iff.1 hp
  obtain ⟨sl, hsl, hp⟩ := Option.bind_eq_some_iff.1 hp
  split at hp <;> first | cases hp | skip
  rename_i hlen
  obtain ⟨u, v, rfl, hu, hv⟩ := two_vals H
  cases hv with
  | clo _ _ us hl hr =>
  have hul : us.size = 1 := by simpa using hl.symm
  have h0 := hr 0 _ rfl
  have hus : us = #[us.getD 0 undef] := by
    apply Array.ext
    · simp [hul]
    · intro i h1 h2
      have : i = 0 := by omega
      subst this
      simp [h1]
  generalize us.getD 0 undef = pv at h0 hus
  subst hus
  have hgo := (genOf_obj hcs)
  cases h0 with
  | ptrOld _ _ _ g' a k1 k2 => have := hgo.1; rw [this] at k1; injection k1; omega
  | ptr _ _ _ bm k1 k2 =>
  obtain ⟨x, hx, hxr⟩ := R.obj p bm k2
  rw [hgo.2.1] at hx
  injection hx with hx; subst hx
  obtain ⟨bc, el, q1, q2, q3⟩ := hxr
  obtain ⟨mv, hmv, hmr⟩ := q3 0 _ rfl
  obtain ⟨bd, en, cl, d0, rfl, hb, hheap, hown, p0, hap, hwf, hkv, hSt⟩ := map_ints R hkt hds hd (by simp only [maxLen]; omega) hu
  obtain ⟨bt, en2, cl2, s0, rfl, hb2, hheap2, hown2, p02, hap2, hwf2, hkv2, hSt2⟩ := map_ints R hkt hss hsl (by simp only [maxLen]; omega) hmr
  have hcell : w.cell? ⟨bm, 0, none⟩ = some (.map (some bt)) := by
    unfold World.cell?
    rw [q1]
    simpa using hmv
  have hbt : bd ≠ bt := fun e => hne (R.inj o t bd hb (e ▸ hb2))
  have hbm : bd ≠ bm := fun e => by rw [← e, hheap] at q1; cases q1
  refine Calls.mono (hS w bd _ _ bm bt _ _ hown hbm hbt hcell hown2) fun e w' he => ?_
  obtain ⟨rfl, j1, j2⟩ := he
  obtain ⟨en', cl', l', m1, m2, m3, m4, m5⟩ := owns_inv hkt j1
  have pl : l'.Perm (d.filter fun q => bearsE sl q.1) := by
    refine (strike_perm (f := fun q => bearsE s0 q.1) (fun q _ => at_dOf (hap2.perm p02.symm) q.1) m4.symm).trans ((p0.filter _).trans (List.Perm.of_eq (List.filter_congr fun q _ => ?_)))
    unfold bearsE
    exact mem_of_perm p02 _
  have pe : (ofInts l').Perm (ofInts (d.filter fun q => bearsE sl q.1)) := pl.map _
  obtain ⟨E, R'⟩ := map_grown R hb (mapAt_some hds) hheap j2 m1 ⟨pe, (keysOk_ints.2 m5).perm pe⟩ (fun s1 h1 w1 => ents_kv.2 m3) m2
  exact ⟨s, E, R', .tup [] #[] rfl fun i c hi => by simp at hi⟩
end
end Go.Rv
namespace Go.Rv
def strsOf : List AV → Option (List (List UInt8))
  | [] => some []
  | .str s :: r => (strsOf r).map (s :: ·)
  | _ => none
theorem strsOf_eq : ∀ {cs : List AV} {l : List (List UInt8)}, strsOf cs = some l → cs = l.map AV.str
  | [], l, h => by simp only [strsOf, Option.some.injEq] at h; subst h; rfl
  | c :: r, l, h => by
    cases c <;> simp only [strsOf, reduceCtorEq] at h
    obtain ⟨l', hl, rfl⟩ := Option.map_eq_some_iff.1 h
    rw [strsOf_eq hl]; rfl
def insS (x : List UInt8) : List (List UInt8) → List (List UInt8)
  | [] => [x]
  | y :: r => match decide (x ≤ y) with
    | true => x :: y :: r
    | false => y :: insS x r
def sortedS : List (List UInt8) → List (List UInt8)
  | [] => []
  | x :: r => insS x (sortedS r)
theorem insS_perm (x : List UInt8) : ∀ l, (insS x l).Perm (x :: l)
  | [] => List.Perm.refl _
  | y :: r => by
    simp only [insS]
    cases decide (x ≤ y) with
    | true => exact List.Perm.refl _
    | false => exact ((insS_perm x r).cons y).trans (List.Perm.swap x y r)
theorem sortedS_perm : ∀ l, (sortedS l).Perm l
  | [] => List.Perm.refl _
  | x :: r => (insS_perm x (sortedS r)).trans ((sortedS_perm r).cons x)
theorem insS_sorted (x : List UInt8) : ∀ l, l.Pairwise (fun a b : List UInt8 => a ≤ b) → (insS x l).Pairwise (fun a b : List UInt8 => a ≤ b)
  | [], _ => by simp [insS]
  | y :: r, h => by
    have h1 := List.pairwise_cons.1 h
    simp only [insS]
    cases hd : decide (x ≤ y) with
    | true =>
      have hxy : x ≤ y := by simpa using hd
      refine List.pairwise_cons.2 ⟨fun a ha => ?_, h⟩
      rcases List.mem_cons.1 ha with rfl | ha
      · exact hxy
      · exact List.le_trans hxy (h1.1 a ha)
    | false =>
      have hxy : ¬ x ≤ y := by simpa using hd
      have hyx : y ≤ x := (List.le_total x y).resolve_left hxy
      refine List.pairwise_cons.2 ⟨fun a ha => ?_, insS_sorted x r h1.2⟩
      rcases List.mem_cons.1 ((insS_perm x r).mem_iff.1 ha) with rfl | ha
      · exact hyx
      · exact h1.1 a ha
theorem sortedS_sorted : ∀ l, (sortedS l).Pairwise (fun a b : List UInt8 => a ≤ b)
  | [] => by simp [sortedS]
  | x :: r => insS_sorted x _ (sortedS_sorted r)
theorem sortedS_eq (l : List (List UInt8)) : l.mergeSort (fun x y => decide (x ≤ y)) = sortedS l := by
  have h1 : (l.mergeSort (fun x y => decide (x ≤ y))).Pairwise (fun a b : List UInt8 => a ≤ b) := by
    refine (List.pairwise_mergeSort (le := fun x y : List UInt8 => decide (x ≤ y)) (fun a b c h1 h2 => ?_) (fun a b => ?_) l).imp fun h => by simpa using h
    · simp only [decide_eq_true_eq] at *; exact List.le_trans h1 h2
    · have := List.le_total a b
      simpa [Bool.or_eq_true] using this
  exact List.Perm.eq_of_pairwise (le := fun a b : List UInt8 => a ≤ b) (fun a b _ _ x y => List.le_antisymm x y) h1 (sortedS_sorted l) ((List.mergeSort_perm l _).trans (sortedS_perm l).symm)
def sortStr (args : List AV) (h : Heap) : Option (CRes × Heap) :=
  match args with
  | [.lst [] _ _] => some (.ret (.tup []), h)
  | [.msl o 0 len 1 g _] => (h.obj o g).bind fun cs => if cs.length = len ∧ len ≤ 1000000000 then (strsOf cs).map fun ss => (.ret (.tup []), h.set o (.cells ((sortedS ss).map AV.str) g)) else none
  | _ => none
end Go.Rv
namespace Go.Rv
open Go.Sort Go.RowKit Go.Proofs
def StrSortSays (P : Program) (f : Nat) : Prop :=
  (∀ (blk off cap : Nat) (ss : List (List UInt8)) (w : World), Holds encStr w blk off ss.toArray → blk < w.heap.size → ss.length < 4611686018427387904 →
    Calls P f #[.slice (some ⟨blk, off, none⟩) ss.length cap] w fun e w' => e = .returned (.tuple #[]) ∧ ∃ n os, w' = grow (putRow encStr (Sort.ahead w n) blk off (ss.mergeSort fun x y => decide (x ≤ y)).toArray) os) ∧
  ∀ (p : Option Addr) (cap : Nat) (w : World), Calls P f #[.slice p 0 cap] w fun e w' => e = .returned (.tuple #[]) ∧ w' = w
section
variable {P : Program} {s : Sim} {h : Heap} {w : World}
theorem sortStr_ok {f : Nat} (hS : StrSortSays P f) {args : List AV} {res : CRes} {h' : Heap} (hp : sortStr args h = some (res, h')) {vs : List Value} (R : Rel s h w) (H : VRs s h w args vs) : CallOk P f vs s h w res h' := by
  unfold sortStr at hp
  split at hp <;> first | cases hp | skip
  · rename_i z r
    obtain ⟨v0, hvs0⟩ := List.length_eq_one_iff.1 (show vs.length = 1 by rw [← H.1]; rfl)
    subst hvs0
    obtain ⟨v1, hv1, hvr⟩ := H.2 0 _ rfl
    have hv1 : v0 = v1 := by simpa using hv1
    subst hv1
    have key : ∀ p cap, v0 = .slice p 0 cap → CallOk P f [v0] s h w (.ret (.tup [])) h := by
      rintro p cap rfl
      refine Calls.mono (hS.2 p cap w) fun e w' he => ?_
      obtain ⟨rfl, rfl⟩ := he
      exact ⟨s, Ext.refl _ _ _, R, .tup [] #[] rfl fun i c hi => by simp at hi⟩
    cases hvr with
    | lstNil => exact key _ _ rfl
    | lstEmpty => exact key _ _ rfl
    | lst => exact key _ _ rfl
  · rename_i o len g cap
    obtain ⟨cs, hcs, hp⟩ := Option.bind_eq_some_iff.1 hp
    split at hp <;> first | cases hp | skip
    rename_i hlen
    obtain ⟨hlen, hmax⟩ := hlen
    obtain ⟨ss, hss, hp⟩ := Option.map_eq_some_iff.1 hp
    simp only [Prod.mk.injEq] at hp
    obtain ⟨rfl, rfl⟩ := hp
    have hcsm := strsOf_eq hss
    subst hcsm
    simp only [List.length_map] at hlen
    have hsl : (sortedS ss).length = ss.length := (sortedS_perm ss).length_eq
    obtain ⟨v0, hvs0⟩ := List.length_eq_one_iff.1 (show vs.length = 1 by rw [← H.1]; rfl)
    subst hvs0
    obtain ⟨v1, hv1, hvr⟩ := H.2 0 _ rfl
    have hv1 : v0 = v1 := by simpa using hv1
    subst hv1
    have hgo := genOf_obj hcs
    cases hvr with
    | mslOld _ _ _ _ _ _ g' a n c k1 k2 => have := hgo.1; rw [this] at k1; injection k1; omega
    | msl _ _ _ _ _ _ b c el n off' hoff hg hb hle hcap hnone hsh hn =>
      by_cases h0 : ss.length = 0
      · have hs0 : ss = [] := List.length_eq_zero_iff.1 h0
        subst hs0
        simp only [List.length_nil] at hlen
        subst hlen
        have hset : h.set o (.cells ((sortedS []).map AV.str) g) = h := by
          have hx := hgo.2.1
          simp only [List.map_nil] at hx
          apply List.ext_getElem?
          intro i
          by_cases hi : o = i
          · subst hi
            rw [List.getElem?_set_self (List.getElem?_eq_some_iff.1 hx).1, hx]
            simp [sortedS]
          · rw [List.getElem?_set_ne hi]
        rw [hset]
        refine Calls.mono (hS.2 _ _ w) fun e w' he => ?_
        obtain ⟨rfl, rfl⟩ := he
        exact ⟨s, Ext.refl _ _ _, R, .tup [] #[] rfl fun i c hi => by simp at hi⟩
      · have hoff0 : off' = 0 := by rcases hoff with h1 | h1 <;> omega
        subst hoff0
        obtain ⟨x, hx, hr⟩ := R.obj o b hb
        have hobj := hgo.2.1
        rw [hobj] at hx
        injection hx with hx; subst hx
        obtain ⟨bc, el', hheap, hsz, hcell⟩ := hr
        simp only [List.length_map] at hsz
        have hbl : b < w.heap.size := R.lt hb
        have hcs' : ∀ j, j < ss.length → bc[j]? = some (encStr ss[j]!) := by
          intro j hj
          obtain ⟨v, hv, hvr⟩ := hcell j (.str ss[j]) (by simp [hj])
          cases hvr
          rw [hv, getElem!_pos ss j hj]
        have hH : Holds encStr w b 0 ss.toArray := by
          intro j hj
          simp only [List.size_toArray] at hj
          constructor
          · unfold World.cell?
            simp only [hheap, Option.isSome_none, Bool.false_eq_true, if_false, Nat.zero_add]
            rw [hcs' j hj]; simp
          · unfold World.frozen?
            simp only [hheap]
            simp
        have hlt62 : ss.length < 4611686018427387904 := by omega
        have hcall := hS.1 b 0 c ss w hH hbl hlt62
        rw [hlen] at hcall
        refine Calls.mono hcall fun e w' he => ?_
        obtain ⟨rfl, nn, os, rfl⟩ := he
        have hput : (grow (putRow encStr (Sort.ahead w nn) b 0 (ss.mergeSort fun x y => decide (x ≤ y)).toArray) os).heap[b]? = some (.cells (putCells encStr 0 (sortedS ss).toArray bc) el' (0, 0)) := by
          rw [heap_grow_old _ _ (by simpa [putRow, mapBlock, Sort.ahead] using hbl)]
          simp only [putRow, mapBlock, Sort.ahead, ← sortedS_eq, Array.getElem?_modify, if_true, hheap, Option.map_some, onCells]
        have hfar : ∀ k, k < w.heap.size → k ≠ b → (grow (putRow encStr (Sort.ahead w nn) b 0 (ss.mergeSort fun x y => decide (x ≤ y)).toArray) os).heap[k]? = w.heap[k]? := by
          intro k hk hne
          rw [heap_grow_old _ _ (by simpa [putRow, mapBlock, Sort.ahead] using hk)]
          simp only [putRow, mapBlock, Sort.ahead, Array.getElem?_modify, if_neg (Ne.symm hne)]
        have W : Wrote w (grow (putRow encStr (Sort.ahead w nn) b 0 (ss.mergeSort fun x y => decide (x ≤ y)).toArray) os) b :=
          { size := by simp [putRow, mapBlock, Sort.ahead]
            far := hfar
            shape := fun k x hx => by
              by_cases e : k = b
              · subst e
                unfold World.shape? at *
                rw [hput]
                rw [hheap] at hx
                simpa [putCells] using hx
              · rw [shape_of (hfar k (shape_lt hx) e)]; exact hx
            os := rfl
            tape := rfl
            output := rfl }
        have hs : s.add o b = s := by
          unfold Sim.add
          cases s with
          | mk μ I G =>
            congr 1
            funext k
            by_cases e : k = o
            · subst e; simp [show μ k = some b from hb]
            · simp [e]
        have key := write_cells R (b' := b) (g' := g) (cs' := (sortedS ss).map AV.str) hb hobj (Nat.le_refl _) (fun _ => by simp [hsl]) (.inl rfl) W hput (by simp [putCells, hsl]; omega) (fun i x hi => by
          rw [List.getElem?_map] at hi
          obtain ⟨t, ht, rfl⟩ := Option.map_eq_some_iff.1 hi
          have hil : i < (sortedS ss).length := (List.getElem?_eq_some_iff.1 ht).1
          have hib : i < bc.size := by omega
          refine ⟨encStr t, ?_, .str t⟩
          simp only [putCells, Array.getElem?_mapIdx]
          rw [Array.getElem?_eq_getElem hib]
          have hg : (sortedS ss)[i] = t := by
            have := (List.getElem?_eq_some_iff.1 ht).2; exact this
          simp [hil, hg])
        rw [hs] at key
        exact ⟨s, key.1, key.2, .tup [] #[] rfl fun i c hi => by simp at hi⟩
end
end Go.Rv
namespace Go.Proofs
open Go.RowKit Go.Maps Go.Sort Go.Shelf
theorem Tryz.sortsA (m : Nat) : AnyZI.SortsIn Tryz.prog Tryz.sortedA_ren Fence.wide m :=
  ⟨fun blk off cap ss W hH hblk hsz => callsIn_wide.2 (AnyM.slices_Sort_int Tryz.sortA blk off cap ss W hH hblk hsz),
   fun p cap W => callsIn_wide.2 (AnyM.slices_Sort_int_none Tryz.sortA p cap W)⟩
theorem Tryz.sortedSays : Go.Rv.SortedSays Tryz.prog 56 81 3 := fun w Bm b nn D0 hBm hm hown hmax hbytes => by
  have hseq : SeqGives Fence.wide 2 Tryz.prog 81 #[.pointer (some ⟨Bm, 0, none⟩)] encZ (fun ss => ss.Perm (intKeys D0)) (Maps.size D0) w :=
    AnyZI.keys_gives (ρ := Tryz.keysA_ren) { Tryz.keysA with } Fence.wide _ trivial rfl (by omega) Bm b nn D0 w hBm hm hown
  have cS := AnyZI.sorted_in Tryz.sortedA Fence.wide 5 trivial trivial trivial trivial rfl (by omega) (Tryz.sortsA _) (enters_of Tryz.func37 (by kernel_rfl) rfl) 81 #[.pointer (some ⟨Bm, 0, none⟩)] trivial (enters_of Tryz.func81 (by kernel_rfl) rfl) (fun ss => ss.Perm (intKeys D0)) (Maps.size D0) hmax hbytes w hseq
  exact (callsIn_wide (n := 5)).1 cS
theorem Tryz.strSays : Go.Rv.StrSortSays Tryz.prog 63 :=
  ⟨fun blk off cap ss w hH hb hs => AnyM.slices_Sort_string Tryz.sortT blk off cap ss w hH hb hs, fun p cap w => AnyM.slices_Sort_string_none Tryz.sortT p cap w⟩
theorem Tryz.cloneSays : Go.Rv.CloneSays Tryz.prog 52 := fun w b en cl hb => AnyW.maps_Clone Tryz.cloneA b en cl w hb
theorem Tryz.law3 : Keyed Tryz.prog 3 := int_keyed Tryz.underlying3
theorem Tryz.copySays : Go.Rv.CopySays Tryz.prog 75 3 := fun w bd bs nd ns Dd Ds hd hs hne hroom =>
  (AnyX.maps_Copy Tryz.copyA Tryz.law3 _ bd bs nd ns Dd Ds w hd hs hne hroom).mono fun e w' ⟨he, h1, _, h3⟩ => ⟨he, h1, h3⟩
theorem Tryz.intPlain : (Go.Rv.intR : Value → Option (DataW Unit × List MemPlace)) = plainElem Tryz.prog 3 := by
  funext v
  unfold plainElem
  rw [Tryz.underlying3]
  cases v <;> first | rfl | skip
  rename_i k n
  cases k <;> simp [Go.Rv.intR]
set_option maxHeartbeats 1000000 in
set_option maxRecDepth 100000 in
theorem Tryz.cut_any (W : World) (key val : Value) (kl : Lit) (bm bt nt : Nat) (Dt : DataW Unit) (hcell : W.cell? ⟨bm, 0, none⟩ = some (.map (some bt))) (hown : W.ownsMap Tryz.prog 3 (plainElem Tryz.prog 3) bt nt Dt) (hkey : keyOf Tryz.prog 3 key = some kl) :
    Calls Tryz.prog 78 (#[key, val] ++ #[.pointer (some ⟨bm, 0, none⟩)]) W fun e w' => e = .returned (.bool (match Dt.atKey kl (.lit (.int .i64 0)) with | .lit (.int _ z) => z == 0 | _ => false)) ∧ w' = W := by
  go_enter Tryz.func78, Tryz.ntmps78
  go_wp2_with (first
    | (at_lookup; refine wpList_lookup_own_int _ rfl _ _ 71 rfl 3 3 .i64 Tryz.law3 Tryz.underlying71 Tryz.underlying3 (Tryz.zeroValue3 _) bt nt Dt rfl hown _ _ rfl hkey ?_; intro c hat hwc)
    | go_in)
  go_ret
  · rename_i q z hq
    refine ⟨(?_ : Ending.returned (.bool (c == 0)) = _), rfl⟩
    rw [hat] at hq
    injection hq with hq
    injection hq with _ hq
    rw [hq]
  · rename_i hno
    exact absurd hat (hno _ _)
theorem Tryz.strikeSays : Go.Rv.StrikeSays Tryz.prog 77 78 3 := fun w b n nt bm bt D Dt hown hbm hbt hcell hownt => by
  have eg : ∀ args w, (callFunc 78 args).run Tryz.prog w = .ok (.enter 78 args) w := enters_of Tryz.func78 (by kernel_rfl) rfl
  refine AnyDf.maps_DeleteFunc Tryz.delA Tryz.law3 _ _ 78 _ b n D w eg hown fun W key val kl yd yp hg hkey hv => ?_
  have h1 : W.cell? ⟨bm, 0, none⟩ = some (.map (some bt)) := hg.cell hcell (fun e => hbm (Option.some.inj e).symm)
  have h2 := hownt.kept hg (fun e => hbt (Option.some.inj e).symm)
  rw [Tryz.intPlain] at h2
  exact (Tryz.cut_any W key val kl bm bt nt Dt h1 h2 hkey).mono fun e w' ⟨he, hw⟩ => ⟨he, hw ▸ World.grownBy.refl _ _⟩
end Go.Proofs
namespace Go.Rv
noncomputable section
structure Rdr where
  obj : Nat → Nat → Option (List AV)
  map : Nat → Option (List (AV × AV))
  iter : Nat → Option (Nat × List (AV × AV))
def Rdr.of (h : Heap) : Rdr := ⟨h.obj, h.mapAt, h.iterAt⟩
inductive Eff where
  | keep
  | set (o : Nat) (x : AObj)
  | push (x : AObj)
  | both (o : Nat) (x y : AObj)
def Eff.app : Eff → Heap → Heap
  | .keep, h => h
  | .set o x, h => h.set o x
  | .push x, h => h ++ [x]
  | .both o x y, h => h.set o x ++ [y]
def splice {α : Type} (cs : List α) : Nat → List α → List α :=
  List.rec (motive := fun _ => Nat → List α → List α) (fun _ _ => []) (fun x r ih off vs =>
    Bool.rec (motive := fun _ => List α) (x :: ih (Nat.pred off) vs) (List.casesOn (motive := fun _ => List α) vs (x :: r) (fun v vs => v :: ih (nat_lit 0) vs)) (Nat.beq off (nat_lit 0))) cs
theorem set_tail {α : Type} (x : α) (r : List α) : ∀ (vs : List α) (off : Nat), setCells (x :: r) (off + 1) vs = x :: setCells r off vs
  | [], _ => rfl
  | v :: vs, off => by
    simp only [setCells, List.set_cons_succ]
    generalize r.set off v = r'
    exact set_tail x r' vs (off + 1)
theorem splice_eq {α : Type} : ∀ (cs : List α) (off : Nat) (vs : List α), splice cs off vs = setCells cs off vs
  | [], off, vs => by
    have : ∀ (vs : List α) (off : Nat), setCells ([] : List α) off vs = [] := by
      intro vs
      induction vs with
      | nil => intro _; rfl
      | cons v vs ih => intro off; simp only [setCells, List.set_nil]; exact ih _
    rw [this]; rfl
  | x :: r, 0, [] => rfl
  | x :: r, 0, v :: vs => by
    show v :: splice r 0 vs = setCells (v :: r) (0 + 1) vs
    rw [set_tail, splice_eq r 0 vs]
  | x :: r, off + 1, vs => by
    show x :: splice r off vs = _
    rw [set_tail, splice_eq r off vs]
variable (C : Cfg)
def Rdr.live (R : Rdr) (o g : Nat) : Bool := match R.obj o g with | some _ => true | none => false
def cellsF (R : Rdr) : AV → Option (List AV)
  | .ref cs => some cs
  | .ptr o off g => (R.obj o g).map (·.drop off)
  | _ => none
def loadF (R : Rdr) (t : Nat) (a : AV) : Option AV := (C.ty t).bind fun ti => (cellsF R a).bind fun cs => part ti cs
def storeF (R : Rdr) (t : Nat) (a v : AV) : Option Eff := (C.ty t).bind fun ti =>
  match a with
  | .ptr o off g => (R.obj o g).bind fun cs =>
    if v.cells.length == ti.size && off + ti.size ≤ cs.length && v.cells.all AV.leaf then some (.set o (.cells (splice cs off v.cells) g)) else none
  | _ => none
def elemsF (R : Rdr) : AV → Option (List AV)
  | .lst xs _ _ => some xs
  | .msl o off len sz g _ => (R.obj o g).bind fun cs => if off + len * sz ≤ cs.length then some (group len (cs.drop off) sz) else none
  | _ => none
def lenF (R : Rdr) (td : TD) (x : AV) : Option Nat :=
  match td, x with
  | .slice _, .lst xs _ _ => some xs.length
  | .slice _, .msl o _ n _ g _ => if R.live o g then some n else none
  | .str, .str s => some s.length
  | .map _ _, .nilMap => some 0
  | .map _ _, .map o => (R.map o).map (·.length)
  | _, _ => none
def indexAddrF (R : Rdr) (t : Nat) (x i : AV) : Option AV := (C.ty t).bind fun ti =>
  match i with
  | .int _ n =>
    if n < 0 then none else
    match ti.td, x with
    | .slice e, .lst xs _ _ => (xs[n.toNat]?).bind fun v => (C.ty e).bind fun te => if v.cells.length == te.size then some (.ref v.cells) else none
    | .slice e, .msl o off len sz g _ => (C.ty e).bind fun te => if n.toNat < len && sz == te.size && R.live o g then some (.ptr o (off + n.toNat * sz) g) else none
    | .array len e, .ref cs => if n.toNat < len then (C.ty e).bind fun te => some (.ref (cs.drop (n.toNat * te.size))) else none
    | .array len e, .ptr o off g => if n.toNat < len && R.live o g then (C.ty e).bind fun te => some (.ptr o (off + n.toNat * te.size) g) else none
    | _, _ => none
  | _ => none
def fieldAddrF (R : Rdr) (t : Nat) (x : AV) (f : Nat) : Option AV := (C.ty t).bind fun ti =>
  match ti.td with
  | .struct fs => (fs[f]?).bind fun p => (C.ty p.1).bind fun tf =>
    if tf.size == 0 then none else
    match x with
    | .ref cs => some (.ref (cs.drop p.2))
    | .ptr o off' g => if R.live o g then some (.ptr o (off' + p.2) g) else none
    | _ => none
  | _ => none
def eqF (R : Rdr) (td : TD) (x y : AV) : Option Bool :=
  match td, x, y with
  | .bool, .bool a, .bool b => some (a == b)
  | .ptr, .nilPtr, .nilPtr => some true
  | .ptr, .nilPtr, .ref _ | .ptr, .ref _, .nilPtr => some false
  | .ptr, .nilPtr, .ptr o _ g | .ptr, .ptr o _ g, .nilPtr => if R.live o g then some false else none
  | .slice _, .lst _ _ r, .lst _ _ .nil => some (r == .nil)
  | .slice _, .lst _ _ .nil, .lst _ _ r => some (r == .nil)
  | .slice _, .msl o _ _ _ g _, .lst _ _ .nil | .slice _, .lst _ _ .nil, .msl o _ _ _ g _ => if R.live o g then some false else none
  | .map _ _, .nilMap, .nilMap => some true
  | .map _ _, .nilMap, .map _ | .map _ _, .map _, .nilMap => some false
  | .func, .nilFunc, .nilFunc => some true
  | .func, .nilFunc, .clo .. | .func, .clo .., .nilFunc => some false
  | _, _, _ => none
def eqCF (R : Rdr) (t : Nat) (td : TD) (x y : AV) : Option Bool :=
  match x, y with
  | .agg a, .agg b => if C.flat t a then sameKeys a b else none
  | x, y => eqF R td x y
def binF (R : Rdr) (op : BinOp) (t : Nat) (x y : AV) : Option AV :=
  match x, y with
  | .int k a, .int k' b => if k == k' then arithA op k a b else none
  | .str a, .str b =>
    match op with
    | .add => if a.length + b.length ≤ mostLen then some (.str (a ++ b)) else none
    | .eql => some (.bool (a == b))
    | .neq => some (.bool (!(a == b)))
    | .lss => some (.bool (Op.bytesLess a b))
    | .leq => some (.bool (Op.bytesLess a b || a == b))
    | .gtr => some (.bool (!(Op.bytesLess a b || a == b)))
    | .geq => some (.bool (!Op.bytesLess a b))
    | _ => none
  | x, y => (C.ty t).bind fun ti =>
    match op with
    | .eql => (eqCF C R t ti.td x y).map .bool
    | .neq => (eqCF C R t ti.td x y).map fun b => .bool (!b)
    | _ => none
def sliceF (R : Rdr) (t : Nat) (x : AV) (lo hi : Option AV) : Option AV := (C.ty t).bind fun ti =>
  match ti.td, x with
  | .str, .str s => (boundA hi s.length s.length).bind fun b => (boundA lo 0 b).bind fun a => some (.str ((s.take b).drop a))
  | .slice e, .lst xs z r => (C.ty e).bind fun te =>
    if !(z == te.size || xs.isEmpty) then none else
      (boundA hi xs.length xs.length).bind fun b => (boundA lo 0 b).bind fun a =>
      some (.lst ((xs.take b).drop a) z (match r with | .nil => .nil | .exact c => .exact (c - a) | .open => .open))
  | .slice e, .msl o off len sz g cap => (R.obj o g).bind fun cs => (C.ty e).bind fun te =>
    if sz != te.size then none else
      (boundA hi len (match cap with | some c => c | none => if sz == 0 then len else (cs.length - off) / sz)).bind fun b => (boundA lo 0 b).bind fun a =>
      some (.msl o (off + a * sz) (b - a) sz g (cap.map (· - a)))
  | .array n e, .ptr o off g => (R.obj o g).bind fun cs => (C.ty e).bind fun te =>
    if off + n * te.size > cs.length then none else
      (boundA hi n n).bind fun b => (boundA lo 0 b).bind fun a => some (.msl o (off + a * te.size) (b - a) te.size g (some (n - a)))
  | .array n e, .ref cs => (C.ty e).bind fun te =>
    if te.size == 0 || decide (n * te.size > cs.length) then none else
      (boundA hi n n).bind fun b => (boundA lo 0 b).bind fun a => some (.lst (group (b - a) (cs.drop (a * te.size)) te.size) te.size (.exact (n - a)))
  | _, _ => none
def growF (n0 o len n sz g : Nat) (cs : List AV) : Option Nat → Option (AV × Eff)
  | none => some (.msl o 0 (len + n) sz (g + 1) none, .set o (.cells cs (g + 1)))
  | some c => if len == c then some (.msl n0 0 (len + n) sz 0 none, .push (.cells cs 0)) else none
def appendF (R : Rdr) (n0 sz : Nat) (s : AV) (ys : List AV) : Option (AV × Eff) :=
  let cells := (ys.map AV.cells).flatten
  if cells.length != ys.length * sz || !cells.all AV.leaf || sz == 0 then none else
  match s with
  | .lst xs z r =>
    if ys.isEmpty then some (s, .keep) else
    if r.full xs.length && (z == sz || xs.isEmpty) && xs.length + ys.length ≤ mostLen then
      some (.msl n0 0 (xs.length + ys.length) sz 0 none, .push (.cells ((xs.map AV.cells).flatten ++ cells) 0))
    else none
  | .msl o off len sz' g cap => (R.obj o g).bind fun cs =>
    if sz' != sz then none else
    if ys.isEmpty then some (s, .keep) else
    let at_ := off + len * sz
    if at_ + cells.length ≤ cs.length && capOk cap (len + ys.length) then
      some (.msl o off (len + ys.length) sz g cap, .set o (.cells (splice cs at_ cells) g))
    else if at_ == cs.length && off == 0 && len + ys.length ≤ mostLen then growF n0 o len ys.length sz g (cs ++ cells) cap
    else none
  | _ => none
def appendZF (n0 t t' : Nat) (s y : AV) : Option (AV × Eff) := (C.ty t).bind fun ti => (C.ty t').bind fun ti' =>
  match ti.td, ti'.td, s, y with
  | .slice e, .int _, .lst [] _ .nil, .int .i64 n => (C.ty e).bind fun te =>
    if 0 < n && n ≤ mostLen && te.zero.length == te.size && te.size != 0 then
      some (.msl n0 0 n.toNat te.size 0 none, .push (.cells (copies n.toNat te.zero) 0))
    else none
  | _, _, _, _ => none
def makeSliceF (n0 t : Nat) (l c : AV) : Option (AV × Eff) := (C.ty t).bind fun ti =>
  match ti.td, l, c with
  | .slice e, .int _ l, .int _ c => (C.ty e).bind fun te =>
    if 0 ≤ l && l ≤ c && c ≤ mostLen && te.zero.length == te.size then
      some (.msl n0 0 l.toNat te.size 0 (some c.toNat), .push (.cells (copies c.toNat te.zero) 0))
    else none
  | _, _, _ => none
def entsF (R : Rdr) : AV → Option (List (AV × AV))
  | .nilMap => some []
  | .map o => R.map o
  | _ => none
def lookupF (R : Rdr) (t : Nat) (m k : AV) (ok : Bool) : Option AV := (C.ty t).bind fun ti =>
  match ti.td with
  | .map kt e => (C.ty kt).bind fun tk =>
    if !keyTd C kt tk.td k then none else
    (entsF R m).bind fun es => (findA k es).bind fun r => (C.ty e).bind fun te => (part te te.zero).bind fun z =>
    some (if ok then .tup [r.getD z, .bool r.isSome] else r.getD z)
  | _ => none
def updateF (R : Rdr) (t : Nat) (m k v : AV) : Option Eff := (C.ty t).bind fun ti =>
  match ti.td, m with
  | .map kt _, .map o => (C.ty kt).bind fun tk =>
    if !keyTd C kt tk.td k then none else (R.map o).bind fun es => (putA k v es).bind fun es => some (.set o (.map es))
  | _, _ => none
def capF (R : Rdr) : AV → Option Nat
  | .lst [] _ .nil => some 0
  | .lst _ _ (.exact c) => some c
  | .msl o _ _ _ g (some c) => if R.live o g then some c else none
  | _ => none
def convF (R : Rdr) (src dst : Nat) (x : AV) : Option AV := (C.ty src).bind fun ts =>
  match ts.td with
  | .slice e => (C.ty e).bind fun te => (C.ty dst).bind fun td =>
    match te.td, td.td with
    | .int k, .str => if k == .u8 then (elemsF R x).bind fun ys => (bytesOf ys).map .str else none
    | _, _ => none
  | .str => (C.ty dst).bind fun td =>
    match td.td, x with
    | .slice e, .str l => (C.ty e).bind fun te =>
      match te.td with
      | .int k => if k == .u8 then some (.lst (l.map fun b => .int .u8 b.toNat) 1 .open) else none
      | _ => none
    | _, _ => convA C dst x
  | _ => convA C dst x
def moreF (R : Rdr) (b : Builtin) (ts : List Nat) (vs : List AV) : Option (AV × Eff) :=
  match b, ts, vs with
  | .cap, [t], [x] => (C.ty t).bind fun ti =>
    match ti.td with
    | .slice _ => (capF R x).map fun (n : Nat) => (AV.int .i64 (n : Int), .keep)
    | _ => none
  | .clear, [t], [x] => (C.ty t).bind fun ti =>
    match ti.td, x with
    | .slice _, .lst [] _ _ => some (.tup [], .keep)
    | .slice e, .msl o off len sz g _ => (C.ty e).bind fun te => (R.obj o g).bind fun cs =>
      if len == 0 then some (.tup [], .keep) else
      if sz == te.size && off + len * sz ≤ cs.length && te.zero.length == te.size && te.zero.all AV.leaf then
        some (.tup [], .set o (.cells (splice cs off (copies len te.zero)) g))
      else none
    | .map _ _, .nilMap => some (.tup [], .keep)
    | .map _ _, .map o => (R.map o).bind fun _ => some (.tup [], .set o (.map []))
    | _, _ => none
  | .copy, [t, _], [d, x] => (C.ty t).bind fun ti =>
    match ti.td with
    | .slice e => (C.ty e).bind fun te => (elemsF R x).bind fun ys =>
      match d with
      | .lst [] _ _ => some (.int .i64 0, .keep)
      | .msl o off len sz g _ => (R.obj o g).bind fun cs =>
        let n := Nat.min ys.length len
        let cells := ((ys.map AV.cells).flatten).take (n * te.size)
        if n == 0 then some (.int .i64 0, .keep) else
        if sz == te.size && off + len * sz ≤ cs.length && cells.length == n * te.size && cells.all AV.leaf then
          some (.int .i64 n, .set o (.cells (splice cs off cells) g))
        else none
      | _ => none
    | _ => none
  | .delete, [t, _], [m, k] => (C.ty t).bind fun ti =>
    match ti.td with
    | .map kt _ => (C.ty kt).bind fun tk =>
      if !keyTd C kt tk.td k then none else
      match m with
      | .nilMap => some (.tup [], .keep)
      | .map o => (R.map o).bind fun es => (eraseA k es).bind fun es => some (.tup [], .set o (.map es))
      | _ => none
    | _ => none
  | .max, _, [.int k a, .int k' b] => if k == k' then some (.int k (if b > a then b else a), .keep) else none
  | .min, _, [.int k a, .int k' b] => if k == k' then some (.int k (if b < a then b else a), .keep) else none
  | _, _, _ => none
def opF (f : Nat) (d : Option Nat) : Op → (Operand → Option AV) → Rdr → Nat → Option (AV × Eff)
  | .move x => fun ev _ _ => (ev x).bind fun v => some (v, .keep)
  | .assign x => fun ev _ _ => (ev x).bind fun v => some (v, .keep)
  | .pick c a b => fun ev _ _ => (ev c).bind fun c => match c with
    | .bool true => (ev a).bind fun v => some (v, .keep)
    | .bool false => (ev b).bind fun v => some (v, .keep)
    | _ => none
  | .alloc t => fun _ _ n => (C.ty t).bind fun ti => if ti.zero.length == ti.size then some (.ptr n 0 0, .push (.cells ti.zero 0)) else none
  | .box t x => fun ev _ n => (C.ty t).bind fun ti => (ev x).bind fun v => if v.cells.length == ti.size then
      if (d.map (C.imm f)).getD false then some (.ref v.cells, .keep) else some (.ptr n 0 0, .push (.cells v.cells 0))
    else none
  | .build t parts => fun ev _ _ => (mapO (fun (p : Nat × Operand) => (ev p.2).map (p.1, ·)) parts.toList).bind fun ps => (buildA C t ps).bind fun v => some (v, .keep)
  | .buildSlice t len parts => fun ev _ n => (mapO (fun (p : Nat × Operand) => (ev p.2).map (p.1, ·)) parts.toList).bind fun ps => (C.ty t).bind fun ti => match ti.td with
    | .slice el => (C.ty el).bind fun ti =>
      if ti.zero.length != ti.size || decide (len * ti.size > 16777216) then none else
      (fillA (fun i => some (i * ti.size, ti.size)) (copies len ti.zero) ps).bind fun cs =>
      if (d.map (C.imm f)).getD false then some (.lst (group len cs ti.size) ti.size (.exact len), .keep)
      else some (.msl n 0 len ti.size 0 (some len), .push (.cells cs 0))
    | _ => none
  | .load t a => fun ev R _ => (ev a).bind fun x => if (d.map (C.quiet f)).getD false && !x.isRef then none else (loadF C R t x).bind fun v => some (v, .keep)
  | .store t a x => fun ev R _ => (ev a).bind fun a => (ev x).bind fun x => (storeF C R t a x).bind fun y => some (.tup [], y)
  | .nilCheck x => fun ev R _ => (ev x).bind fun v => match v with
    | .ptr o off g => if R.live o g then some (.ptr o off g, .keep) else none
    | .ref cs => some (.ref cs, .keep)
    | .clo f cs => some (.clo f cs, .keep)
    | .bnd f cs => some (.bnd f cs, .keep)
    | .yld l => some (.yld l, .keep)
    | _ => none
  | .binOp op t x y _ => fun ev R _ => (ev x).bind fun u => if nilI y then (nilIA C op t u).bind fun v => some (v, .keep) else (ev y).bind fun y => (binF C R op t u y).bind fun v => some (v, .keep)
  | .unOp op _ x => fun ev _ _ => (ev x).bind fun x => (unA op x).bind fun v => some (v, .keep)
  | .convert src dst x => fun ev R _ => (ev x).bind fun x => (convF C R src dst x).bind fun v => some (v, .keep)
  | .makeInterface t x => fun ev _ _ => (C.ty t).bind fun ti => match ti.td with
    | .iface => none
    | _ => (ev x).bind fun v => some (.iface t v, .keep)
  | .makeFunc (.func g) first caps => fun ev _ _ => if first.isEmpty then (mapO ev caps.toList).bind fun cs => some (.clo g cs, .keep) else if caps.isEmpty then (mapO ev first.toList).bind fun cs => some (.bnd g cs, .keep) else none
  | .makeSlice t l c => fun ev _ n => (ev l).bind fun l => (ev c).bind fun c => makeSliceF C n t l c
  | .makeMap t none => fun _ _ n => (C.ty t).bind fun _ => some (.map n, .push (.map []))
  | .lookup t x k ok => fun ev R _ => (ev x).bind fun x => (ev k).bind fun k => (lookupF C R t x k ok).bind fun v => some (v, .keep)
  | .mapUpdate t m k x => fun ev R _ => (ev m).bind fun m => (ev k).bind fun k => (ev x).bind fun x => (updateF C R t m k x).bind fun y => some (.tup [], y)
  | .insert t m k x => fun ev R _ => (ev m).bind fun m => (ev k).bind fun k => (ev x).bind fun x => (updateF C R t m k x).bind fun y => some (.tup [], y)
  | .slice t x lo hi mx => fun ev R _ => (match lo with | none => some none | some y => (ev y).map some).bind fun lo => (match hi with | none => some none | some y => (ev y).map some).bind fun hi =>
    if mx.isSome then none else (ev x).bind fun x => (sliceF C R t x lo hi).bind fun v => some (v, .keep)
  | .fieldAddr t x k => fun ev R _ => (ev x).bind fun x => (fieldAddrF C R t x k).bind fun v => some (v, .keep)
  | .field t x k => fun ev _ _ => (ev x).bind fun x => (fieldA C t x k).bind fun v => some (v, .keep)
  | .indexAddr t x i => fun ev R _ => (ev x).bind fun x => (ev i).bind fun i => (indexAddrF C R t x i).bind fun v => some (v, .keep)
  | .index t x i => fun ev _ _ => (ev x).bind fun x => (ev i).bind fun i => (indexA C t x i).bind fun v => some (v, .keep)
  | .range t x => fun ev R n => (C.ty t).bind fun ti => (ev x).bind fun x => match ti.td, x with
    | .map _ _, .map o => (R.map o).bind fun es => some (.ptr n 0 0, .both o (.cells [] 1) (.iter 0 es))
    | _, _ => none
  | .entry x => fun ev R _ => (ev x).bind fun x => match x with
    | .ptr o 0 0 => (R.iter o).bind fun q => match q with
      | (2, [p]) => some (.tup [p.1, p.2], .keep)
      | _ => none
    | _ => none
  | .extract t i => fun ev _ _ => (ev t).bind fun t => match t with
    | .tup vs => (vs[i]?).bind fun v => some (v, .keep)
    | _ => none
  | .typeAssert x _ t true => fun ev _ _ => (C.ty t).bind fun ti => (ev x).bind fun v => (part ti ti.zero).bind fun z => match ti.td, v with
    | .iface, _ => none
    | _, .iface t' u => some (.tup (if t' == t then [u, .bool true] else [z, .bool false]), .keep)
    | _, .nilIface => some (.tup [z, .bool false], .keep)
    | _, _ => none
  | .call { callee := .builtin b, args, argTypes } => fun ev R n => (mapO ev args.toList).bind fun vs => match b, vs with
    | .len, [x] => (argTypes[0]?).bind fun t => (C.ty t).bind fun ti => (lenF R ti.td x).bind fun n => some (.int .i64 n, .keep)
    | .append, [s, y] => match argTypes.toList with
      | [t, t'] => if t != t' then appendZF C n t t' s y else (C.ty t).bind fun ti => match ti.td with
        | .slice el => (C.ty el).bind fun te => (elemsF R y).bind fun ys => appendF R n te.size s ys
        | _ => none
      | _ => none
    | b, vs => moreF C R b argTypes.toList vs
  | _ => fun _ _ _ => none
theorem rdLive_of (h : Heap) (o g : Nat) : (Rdr.of h).live o g = h.live o g := by
  unfold Rdr.live Heap.live
  show (match h.obj o g with | some _ => true | none => false) = (h.obj o g).isSome
  cases h.obj o g <;> rfl
theorem cells_of (h : Heap) (a : AV) : cellsF (Rdr.of h) a = cellsAt h a := by cases a <;> rfl
theorem load_of (h : Heap) (t : Nat) (a : AV) : loadF C (Rdr.of h) t a = loadA C h t a := by
  simp only [loadF, loadA, cells_of]; rfl
theorem elems_of (h : Heap) (a : AV) : elemsF (Rdr.of h) a = elems h a := by cases a <;> rfl
theorem len_of (h : Heap) (td : TD) (x : AV) : lenF (Rdr.of h) td x = lenA h td x := by
  cases td <;> cases x <;> first | rfl | skip
  · simp only [lenF, lenA, rdLive_of]
  · rename_i o
    show (h.mapAt o).map (·.length) = (match h[o]? with | some (.map es) => some es.length | _ => none)
    unfold Heap.mapAt
    cases h[o]? with
    | none => rfl
    | some y => cases y <;> rfl
theorem indexAddr_of (h : Heap) (t : Nat) (x i : AV) : indexAddrF C (Rdr.of h) t x i = indexAddrA C h t x i := by
  simp only [indexAddrF, indexAddrA, rdLive_of]; rfl
theorem fieldAddr_of (h : Heap) (t : Nat) (x : AV) (k : Nat) : fieldAddrF C (Rdr.of h) t x k = fieldAddrA C h t x k := by
  simp only [fieldAddrF, fieldAddrA, rdLive_of]; rfl
theorem eq_of (h : Heap) (td : TD) (x y : AV) : eqF (Rdr.of h) td x y = eqA h td x y := by
  simp only [eqF, eqA, rdLive_of]; rfl
theorem eqC_of (h : Heap) (t : Nat) (td : TD) (x y : AV) : eqCF C (Rdr.of h) t td x y = eqC C h t td x y := by
  simp only [eqCF, eqC, eq_of]; rfl
theorem bin_of (h : Heap) (op : BinOp) (t : Nat) (x y : AV) : binF C (Rdr.of h) op t x y = binA C h op t x y := by
  unfold binF binA
  cases x <;> cases y <;> first | rfl | (simp only [eqC_of]; done) | (simp only [eqC_of]; rfl)
theorem slice_of (h : Heap) (t : Nat) (x : AV) (lo hi : Option AV) : sliceF C (Rdr.of h) t x lo hi = sliceA C h t x lo hi none := by
  unfold sliceF sliceA
  show _ = (C.ty t).bind _
  congr 1
theorem ents_of (h : Heap) (m : AV) : entsF (Rdr.of h) m = h.ents m := by cases m <;> rfl
theorem lookup_of (h : Heap) (t : Nat) (m k : AV) (ok : Bool) : lookupF C (Rdr.of h) t m k ok = lookupA C h t m k ok := by
  simp only [lookupF, lookupA, ents_of]; rfl
theorem cap_of (h : Heap) (x : AV) : capF (Rdr.of h) x = capA h x := by
  simp only [capF, capA, rdLive_of]; rfl
theorem conv_of (h : Heap) (a b : Nat) (x : AV) : convF C (Rdr.of h) a b x = convH C h a b x := by
  simp only [convF, convH, elems_of]; rfl
def fin (h : Heap) (x : Option (AV × Eff)) : Option (AV × Heap) := x.map fun y => (y.1, y.2.app h)
def finE (h : Heap) (x : Option Eff) : Option Heap := x.map (·.app h)
theorem fin_bind {α : Type} (h : Heap) (x : Option α) (g : α → Option (AV × Eff)) : fin h (x.bind g) = x.bind fun a => fin h (g a) := by cases x <;> rfl
theorem finE_bind {α : Type} (h : Heap) (x : Option α) (g : α → Option Eff) : finE h (x.bind g) = x.bind fun a => finE h (g a) := by cases x <;> rfl
theorem fin_none (h : Heap) : fin h none = none := rfl
theorem fin_ite (h : Heap) (c : Prop) [Decidable c] (x y : Option (AV × Eff)) : fin h (if c then x else y) = if c then fin h x else fin h y := by split <;> rfl
theorem fin_eff (h : Heap) (v : AV) (x : Option Eff) : fin h (x.bind fun y => some (v, y)) = (finE h x).bind fun h' => some (v, h') := by cases x <;> rfl
theorem store_of (h : Heap) (t : Nat) (a v : AV) : finE h (storeF C (Rdr.of h) t a v) = storeA C h t a v := by
  unfold storeF storeA
  simp only [splice_eq]
  rw [finE_bind]
  show _ = (C.ty t).bind _
  congr 1
  funext ti
  cases a <;> first | rfl | skip
  rename_i o off g
  show finE h ((h.obj o g).bind _) = (h.obj o g).bind _
  rw [finE_bind]
  congr 1
  funext cs
  simp only [finE]
  split <;> rfl
theorem update_of (h : Heap) (t : Nat) (m k v : AV) : finE h (updateF C (Rdr.of h) t m k v) = updateA C h t m k v := by
  unfold updateF updateA
  rw [finE_bind]
  show _ = (C.ty t).bind _
  congr 1
  funext ti
  generalize ti.td = td
  cases td <;> first | rfl | skip
  cases m <;> first | rfl | skip
  rename_i kt e o
  show finE h ((C.ty kt).bind _) = (C.ty kt).bind _
  rw [finE_bind]
  congr 1
  funext tk
  by_cases hk : (!keyTd C kt tk.td k) = true
  · rw [if_pos hk, if_pos hk]; rfl
  · rw [if_neg hk, if_neg hk]
    show finE h ((h.mapAt o).bind _) = (h.mapAt o).bind _
    rw [finE_bind]
    congr 1
    funext es
    rw [finE_bind]
    rfl
theorem grow_of (h : Heap) (o len n sz g : Nat) (cs : List AV) (c : Option Nat) : fin h (growF h.length o len n sz g cs c) = growA h o len n sz g cs c := by
  cases c with
  | none => rfl
  | some c => simp only [growF, growA, fin_ite]; rfl
theorem append_of (h : Heap) (sz : Nat) (s : AV) (ys : List AV) : fin h (appendF (Rdr.of h) h.length sz s ys) = appendA h sz s ys := by
  unfold appendF appendA
  simp only [splice_eq, fin_ite, fin_none]
  split
  · rfl
  · cases s <;> first | rfl | skip
    · simp only [fin_ite, fin_none]; rfl
    · rename_i o off len sz' g cap
      show fin h ((h.obj o g).bind _) = (h.obj o g).bind _
      rw [fin_bind]
      congr 1
      funext cs
      simp only [fin_ite, fin_none, grow_of]; rfl
theorem appendZ_of (h : Heap) (t t' : Nat) (s y : AV) : fin h (appendZF C h.length t t' s y) = appendZ C h t t' s y := by
  unfold appendZF appendZ
  rw [fin_bind]
  show _ = (C.ty t).bind _
  congr 1
  funext ti
  rw [fin_bind]
  show _ = (C.ty t').bind _
  congr 1
  funext ti'
  generalize ti.td = td
  generalize ti'.td = td'
  cases td <;> first | rfl | skip
  cases td' <;> first | rfl | skip
  cases s <;> first | rfl | skip
  rename_i xs z r
  cases xs <;> first | rfl | skip
  cases r <;> first | rfl | skip
  cases y <;> first | rfl | skip
  rename_i k n
  cases k <;> first | rfl | skip
  show fin h ((C.ty _).bind _) = (C.ty _).bind _
  rw [fin_bind]
  congr 1
  funext te
  simp only [fin_ite, fin_none]; rfl
theorem makeSlice_of (h : Heap) (t : Nat) (l c : AV) : fin h (makeSliceF C h.length t l c) = makeSliceA C h t l c := by
  unfold makeSliceF makeSliceA
  rw [fin_bind]
  show _ = (C.ty t).bind _
  congr 1
  funext ti
  generalize ti.td = td
  cases td <;> cases l <;> cases c <;> first | rfl | skip
  show fin h ((C.ty _).bind _) = (C.ty _).bind _
  rw [fin_bind]
  congr 1
  funext te
  simp only [fin_ite, fin_none]; rfl
theorem key_of {α : Type} {h : Heap} (x : Option α) (g : α → Option (AV × Eff)) (g' : α → Option (AV × Heap)) (hg : ∀ a, fin h (g a) = g' a) : fin h (x.bind g) = x >>= g' := by
  rw [fin_bind]
  cases x with
  | none => rfl
  | some a => exact hg a
theorem more_of (h : Heap) (b : Builtin) (ts : List Nat) (vs : List AV) : fin h (moreF C (Rdr.of h) b ts vs) = moreA C h b ts vs := by
  have hc : ∀ (t : Nat) (x : AV), fin h (moreF C (Rdr.of h) .cap [t] [x]) = moreA C h .cap [t] [x] := fun t x => by
    refine key_of _ _ _ fun ti => ?_
    generalize ti.td = td
    cases td <;> first | rfl | skip
    show fin h ((capF (Rdr.of h) x).map _) = _
    rw [cap_of]
    cases capA h x <;> rfl
  have hcl : ∀ (t : Nat) (x : AV), fin h (moreF C (Rdr.of h) .clear [t] [x]) = moreA C h .clear [t] [x] := fun t x => by
    refine key_of _ _ _ fun ti => ?_
    generalize ti.td = td
    cases td <;> cases x <;> first | rfl | skip
    · rename_i e xs z r
      cases xs <;> rfl
    · refine key_of _ _ _ fun te => ?_
      refine key_of _ _ _ fun cs => ?_
      simp only [splice_eq, fin_ite, fin_none]; rfl
    · exact key_of _ _ _ fun _ => rfl
  have hcp : ∀ (t t' : Nat) (d x : AV), fin h (moreF C (Rdr.of h) .copy [t, t'] [d, x]) = moreA C h .copy [t, t'] [d, x] := fun t t' d x => by
    refine key_of _ _ _ fun ti => ?_
    generalize ti.td = td
    cases td <;> first | rfl | skip
    refine key_of _ _ _ fun te => ?_
    show fin h ((elemsF (Rdr.of h) x).bind _) = _
    rw [elems_of]
    refine key_of _ _ _ fun ys => ?_
    cases d <;> first | rfl | skip
    · rename_i xs z r
      cases xs <;> rfl
    · refine key_of _ _ _ fun cs => ?_
      simp only [splice_eq, fin_ite, fin_none]; rfl
  have hd : ∀ (t t' : Nat) (m k : AV), fin h (moreF C (Rdr.of h) .delete [t, t'] [m, k]) = moreA C h .delete [t, t'] [m, k] := fun t t' m k => by
    refine key_of _ _ _ fun ti => ?_
    generalize ti.td = td
    cases td <;> first | rfl | skip
    refine key_of _ _ _ fun tk => ?_
    show fin h (if _ then _ else _) = if _ then _ else _
    rw [fin_ite]
    split
    · rfl
    · cases m <;> first | rfl | skip
      exact key_of _ _ _ fun es => key_of _ _ _ fun es' => rfl
  cases b <;> first | rfl | skip
  case cap =>
    match ts, vs with
    | [t], [x] => exact hc t x
    | [], _ => rfl
    | _ :: _ :: _, _ => rfl
    | [_], [] => rfl
    | [_], _ :: _ :: _ => rfl
  case clear =>
    match ts, vs with
    | [t], [x] => exact hcl t x
    | [], _ => rfl
    | _ :: _ :: _, _ => rfl
    | [_], [] => rfl
    | [_], _ :: _ :: _ => rfl
  case copy =>
    match ts, vs with
    | [t, t'], [d, x] => exact hcp t t' d x
    | [], _ => rfl
    | [_], _ => rfl
    | _ :: _ :: _ :: _, _ => rfl
    | [_, _], [] => rfl
    | [_, _], [_] => rfl
    | [_, _], _ :: _ :: _ :: _ => rfl
  case delete =>
    match ts, vs with
    | [t, t'], [d, x] => exact hd t t' d x
    | [], _ => rfl
    | [_], _ => rfl
    | _ :: _ :: _ :: _, _ => rfl
    | [_, _], [] => rfl
    | [_, _], [_] => rfl
    | [_, _], _ :: _ :: _ :: _ => rfl
  case max =>
    match vs with
    | [] => rfl
    | [x] => cases x <;> rfl
    | x :: y :: _ :: _ => cases x <;> cases y <;> rfl
    | [x, y] => cases x <;> cases y <;> first | rfl | (simp only [moreF, moreA, fin_ite, fin_none]; rfl)
  case min =>
    match vs with
    | [] => rfl
    | [x] => cases x <;> rfl
    | x :: y :: _ :: _ => cases x <;> cases y <;> rfl
    | [x, y] => cases x <;> cases y <;> first | rfl | (simp only [moreF, moreA, fin_ite, fin_none]; rfl)
theorem opF_eq (f : Nat) (e : Env) (h : Heap) (o : Oper) : fin h (opF C f o.dst o.op (evalA C e) (Rdr.of h) h.length) = opA C f e h o := by
  unfold opA
  simp only
  generalize o.op = op
  cases op
  case pick c a b =>
    refine key_of _ _ _ fun v => ?_
    cases v <;> first | rfl | skip
    rename_i b
    cases b <;> exact key_of _ _ _ fun _ => rfl
  case alloc t => exact key_of _ _ _ fun ti => by simp only [fin_ite, fin_none]; rfl
  case box t x => exact key_of _ _ _ fun ti => key_of _ _ _ fun v => by simp only [fin_ite, fin_none]; rfl
  case build t ps => exact key_of _ _ _ fun ps => key_of _ _ _ fun v => rfl
  case buildSlice t len ps =>
    refine key_of _ _ _ fun ps => key_of _ _ _ fun ti => ?_
    generalize ti.td = td
    cases td <;> first | rfl | skip
    refine key_of _ _ _ fun ti => ?_
    show fin h (if _ then _ else _) = if _ then _ else _
    rw [fin_ite]
    split
    · rfl
    · refine key_of _ _ _ fun cs => ?_
      simp only [fin_ite]; rfl
  case load t a =>
    refine key_of _ _ _ fun x => ?_
    show fin h (if _ then _ else _) = if _ then _ else _
    rw [fin_ite]
    split
    · rfl
    · rw [load_of]; exact key_of _ _ _ fun v => rfl
  case store t a x => refine key_of _ _ _ fun a => key_of _ _ _ fun x => ?_; rw [fin_eff, store_of]; rfl
  case nilCheck x =>
    refine key_of _ _ _ fun v => ?_
    cases v <;> first | rfl | skip
    simp only [fin_ite, rdLive_of]; rfl
  case binOp b t x y t' =>
    refine key_of _ _ _ fun u => ?_
    rw [fin_ite]
    split
    · exact key_of _ _ _ fun v => rfl
    · refine key_of _ _ _ fun y => ?_
      rw [bin_of]; exact key_of _ _ _ fun v => rfl
  case unOp u t x => exact key_of _ _ _ fun x => key_of _ _ _ fun v => rfl
  case convert a b x => refine key_of _ _ _ fun x => ?_; rw [conv_of]; exact key_of _ _ _ fun v => rfl
  case makeInterface t x =>
    refine key_of _ _ _ fun ti => ?_
    generalize ti.td = td
    cases td <;> first | rfl | exact key_of _ _ _ fun v => rfl
  case makeFunc fn first caps =>
    cases fn <;> first | rfl | skip
    show fin h (if _ then _ else _) = if _ then _ else _
    rw [fin_ite]
    split
    · exact key_of _ _ _ fun cs => rfl
    · rw [fin_ite]
      split
      · exact key_of _ _ _ fun cs => rfl
      · rfl
  case makeSlice t x y => exact key_of _ _ _ fun x => key_of _ _ _ fun y => makeSlice_of C h t x y
  case makeMap t r =>
    cases r
    · exact key_of _ _ _ fun ti => rfl
    · rfl
  case lookup t x k ok => refine key_of _ _ _ fun x => key_of _ _ _ fun k => ?_; rw [lookup_of]; exact key_of _ _ _ fun v => rfl
  case mapUpdate t m k x => refine key_of _ _ _ fun m => key_of _ _ _ fun k => key_of _ _ _ fun x => ?_; rw [fin_eff, update_of]; rfl
  case insert t m k x => refine key_of _ _ _ fun m => key_of _ _ _ fun k => key_of _ _ _ fun x => ?_; rw [fin_eff, update_of]; rfl
  case slice t x lo hi mx =>
    have ho : ∀ z : Option Operand, (match z with | none => some none | some y => (evalA C e y).map some) = optA C e z := fun z => by cases z <;> rfl
    simp only [opF, ho]
    refine key_of _ _ _ fun lo => key_of _ _ _ fun hi => ?_
    rw [fin_ite]
    split
    · rfl
    · refine key_of _ _ _ fun x => ?_
      rw [slice_of]
      exact key_of _ _ _ fun v => rfl
  case fieldAddr t x k => refine key_of _ _ _ fun x => ?_; rw [fieldAddr_of]; exact key_of _ _ _ fun v => rfl
  case field t x k => exact key_of _ _ _ fun x => key_of _ _ _ fun v => rfl
  case indexAddr t x i => refine key_of _ _ _ fun x => key_of _ _ _ fun i => ?_; rw [indexAddr_of]; exact key_of _ _ _ fun v => rfl
  case index t x i => exact key_of _ _ _ fun x => key_of _ _ _ fun i => key_of _ _ _ fun v => rfl
  case move x => exact key_of _ _ _ fun v => rfl
  case assign x => exact key_of _ _ _ fun v => rfl
  case range t x =>
    refine key_of _ _ _ fun ti => key_of _ _ _ fun x => ?_
    generalize ti.td = td
    cases td <;> cases x <;> first | rfl | skip
    exact key_of _ _ _ fun es => rfl
  case entry x =>
    refine key_of _ _ _ fun x => ?_
    cases x <;> first | rfl | skip
    rename_i o off g
    match off, g with
    | 0, 0 =>
      refine key_of _ _ _ fun q => ?_
      obtain ⟨k, es⟩ := q
      match k, es with
      | 0, _ => rfl
      | 1, _ => rfl
      | 2, [] => rfl
      | 2, [p] => rfl
      | 2, _ :: _ :: _ => rfl
      | _ + 3, _ => rfl
    | 0, _ + 1 => rfl
    | _ + 1, _ => rfl
  case extract x i =>
    refine key_of _ _ _ fun x => ?_
    cases x <;> first | rfl | skip
    exact key_of _ _ _ fun v => rfl
  case typeAssert x t t' ok =>
    cases ok <;> first | rfl | skip
    refine key_of _ _ _ fun ti => key_of _ _ _ fun v => key_of _ _ _ fun z => ?_
    generalize ti.td = td
    cases td <;> cases v <;> rfl
  case call c =>
    obtain ⟨cal, args, ats⟩ := c
    cases cal <;> first | rfl | skip
    rename_i b
    refine key_of _ _ _ fun vs => ?_
    cases b <;> first | exact more_of C h _ _ _ | skip
    case len =>
      match vs with
      | [] => exact more_of C h _ _ _
      | _ :: _ :: _ => exact more_of C h _ _ _
      | [x] =>
        refine key_of _ _ _ fun t => key_of _ _ _ fun ti => ?_
        rw [len_of]
        exact key_of _ _ _ fun n => rfl
    case append =>
      match vs with
      | [] => exact more_of C h _ _ _
      | [_] => exact more_of C h _ _ _
      | _ :: _ :: _ :: _ => exact more_of C h _ _ _
      | [x, y] =>
        show fin h (match ats.toList with | [t, t'] => _ | _ => _) = (match ats.toList with | [t, t'] => _ | _ => _)
        generalize ats.toList = l
        match l with
        | [] => rfl
        | [_] => rfl
        | _ :: _ :: _ :: _ => rfl
        | [t, t'] =>
          show fin h (if _ then _ else _) = if _ then _ else _
          rw [fin_ite]
          split
          · exact appendZ_of C h t t' x y
          · refine key_of _ _ _ fun ti => ?_
            generalize ti.td = td
            cases td <;> first | rfl | skip
            refine key_of _ _ _ fun te => ?_
            rw [elems_of]
            exact key_of _ _ _ fun ys => append_of h _ _ _
  all_goals rfl
end
end Go.Rv
