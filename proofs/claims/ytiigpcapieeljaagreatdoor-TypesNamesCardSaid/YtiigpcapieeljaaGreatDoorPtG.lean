/-
  'slices.Sorted(maps.Keys(m))' at int keys, as one step whose answer is new memory that may be written.
-/
import Derived.Test.YtiigpcapieeljaaGreatDoorPtF
import Derived.Test.YtiigpcapieeljaaGreatDoorRvFast
set_option linter.unusedSectionVars false
set_option linter.unusedSimpArgs false
set_option linter.unusedVariables false
set_option linter.defProp false
set_option linter.unusedSimpArgs false
set_option linter.unusedVariables false
namespace Go.Rv
open Go.Maps Go.RowKit

def intCells (l : List Int) : List AV := l.map (AV.int .i64)
def sortedKeysM (clo : Nat) (args : List AV) (h : Heap) : Option (CRes × Heap) :=
  match args with
  | [.clo g [.ptr o 0 gen]] =>
    if g = clo then
      (h.obj o gen).bind fun cs => match cs with
        | .map m :: _ => (h.mapAt m).bind fun es => (keysI es).bind fun ks => if es.length ≤ 1000000 then (match isort ks with
          | [] => some (.ret (.lst [] 1 .nil), h)
          | x :: r => some (.ret (.msl h.length 0 (x :: r).length 1 0 none), h ++ [.cells (intCells (x :: r)) 0])) else none
        | _ => none
    else none
  | _ => none

section
variable {P : Program} {C : Cfg} {s : Sim} {h : Heap} {w : World}

theorem ext_same {w' : World} (R : Rel s h w) (hsz : w.heap.size ≤ w'.heap.size) (hb : ∀ b, b < w.heap.size → w'.heap[b]? = w.heap[b]?) (h1 : w'.os = w.os) (h2 : w'.tape = w.tape) (h3 : w'.output = w.output) : Ext s h w s h w' ∧ Rel s h w' := by
  have E : Ext s h w s h w' :=
    { size := hsz, far := fun b hlt _ => hb b hlt, shape := fun b x hx => by rw [shape_of (hb b (shape_lt hx))]; exact hx, imm := fun b hb => hb, gen := fun _ g hg => ⟨g, hg, Nat.le_refl _⟩,
      same := fun _ _ _ _ => ⟨fun _ h => h, rfl⟩, kind := fun _ h _ => h, own := fun o b hb => .inl ⟨o, hb⟩, os := h1, tape := h2, output := h3, kindL := fun _ h => h, good := rfl, old := fun o b _ hb => ⟨b, hb⟩, kept := fun _ _ _ => rfl }
  refine ⟨E, R.inj, fun o b hb' => ?_, R.apart, fun b hI => Nat.lt_of_lt_of_le (R.imm b hI) hsz⟩
  obtain ⟨x, hx, hr⟩ := R.obj o b hb'
  exact ⟨x, hx, hr.ext R.apart E (hb b (R.lt hb'))⟩

/-- A new object, whose block came into being in a call. -/
theorem ext_new {w' : World} (R : Rel s h w) (B : Below w.heap.size w w') {g : Nat} (hg : w.heap.size ≤ g) (hg' : g < w'.heap.size) {cs : List AV} {bc : Array Value} {el : TypeId} (hheap : w'.heap[g]? = some (.cells bc el (0, 0))) (hl : cs.length ≤ bc.size)
    (hc : ∀ s1 h1 w1, ∀ (i : Nat) c, cs[i]? = some c → ∃ v, bc[i]? = some v ∧ VR s1 h1 w1 c v) :
    Ext s h w (s.add h.length g) (h ++ [.cells cs 0]) w' ∧ Rel (s.add h.length g) (h ++ [.cells cs 0]) w' := by
  have hμ : ∀ o, o < h.length → (s.add h.length g).μ o = s.μ o := fun o ho => by simp [Sim.add]; omega
  have hlt : ∀ {o b}, s.μ o = some b → o < h.length := fun {o b} hb => by
    obtain ⟨x, hx, _⟩ := R.obj o b hb
    exact (List.getElem?_eq_some_iff.1 hx).1
  have happ : ∀ {o}, o < h.length → (h ++ [AObj.cells cs 0])[o]? = h[o]? := fun {o} ho => List.getElem?_append_left ho
  have E : Ext s h w (s.add h.length g) (h ++ [.cells cs 0]) w' := by
    refine ⟨⟨B.size, fun b hb _ => B.block b hb, fun b x hx => by rw [shape_of (B.block b (shape_lt hx))]; exact hx, fun b hb => hb, fun o g0 hg0 => ⟨g0, ?_, Nat.le_refl _⟩, fun o g0 hg0 _ => ⟨fun b hb => ?_, ?_⟩, fun o ho _ => ?_, fun o b hb => ?_, B.os, B.tape, B.output, fun o ho => ?_, rfl⟩, fun o b ho hb => ?_, fun o ho _ => happ ho, fun _ _ h => .inl h⟩
    · have := genOf_lt' hg0
      unfold genOf
      rw [happ this]; exact hg0
    · rw [hμ o (hlt hb)]; exact hb
    · unfold lenOf
      rw [happ (genOf_lt' hg0)]
    · have hl : o < h.length := genOf_lt' (genOf_map ho)
      unfold isMap
      rw [happ hl]; exact ho
    · by_cases e : o = h.length
      · subst e
        simp only [Sim.add, if_true, Option.some.injEq] at hb
        subst hb; exact .inr hg
      · simp only [Sim.add, e, if_false] at hb
        exact .inl ⟨o, hb⟩
    · have hl : o < h.length := genOf_lt' (genOf_loop ho)
      unfold isLoop
      rw [happ hl]; exact ho
    · rw [hμ o ho] at hb; exact ⟨b, hb⟩
  refine ⟨E, fun o o' b hb hb' => ?_, fun o b hb => ?_, fun o b hb hI => ?_, fun b hI => Nat.lt_of_lt_of_le (R.imm b hI) B.size⟩
  · simp only [Sim.add] at hb hb'
    split at hb <;> split at hb'
    · rename_i e e'; rw [e, e']
    · simp only [Option.some.injEq] at hb; subst hb; have := R.lt hb'; omega
    · simp only [Option.some.injEq] at hb'; subst hb'; have := R.lt hb; omega
    · exact R.inj o o' b hb hb'
  · simp only [Sim.add] at hb
    split at hb
    · rename_i e
      simp only [Option.some.injEq] at hb
      subst hb e
      exact ⟨.cells cs 0, by rw [List.getElem?_append_right (Nat.le_refl _)]; simp, bc, el, hheap, hl, hc _ _ _⟩
    · obtain ⟨x, hx, hr⟩ := R.obj o b hb
      exact ⟨x, by rw [happ (hlt hb)]; exact hx, hr.ext R.apart E (B.block b (R.lt hb))⟩
  · simp only [Sim.add] at hb
    split at hb
    · simp only [Option.some.injEq] at hb; subst hb; have := R.imm _ hI; omega
    · exact R.apart o b hb hI

theorem sortedKeysM_ok {f clo kt : Nat} (hS : SortedSays P f clo kt) (hkt : P.underlying kt = some (.int .i64)) {args : List AV} {res : CRes} {h' : Heap} (hp : sortedKeysM clo args h = some (res, h')) {vs : List Value} (R : Rel s h w) (H : VRs s h w args vs) : CallOk P f vs s h w res h' := by
  unfold sortedKeysM at hp
  split at hp <;> first | cases hp | skip
  rename_i g o gen
  split at hp <;> first | cases hp | skip
  rename_i hg
  subst hg
  obtain ⟨cs, hcs, hp⟩ := Option.bind_eq_some_iff.1 hp
  split at hp <;> first | cases hp | skip
  rename_i m cr
  obtain ⟨es, hes, hp⟩ := Option.bind_eq_some_iff.1 hp
  obtain ⟨ks, hks, hp⟩ := Option.bind_eq_some_iff.1 hp
  by_cases hlen : es.length ≤ 1000000
  case neg => rw [if_neg hlen] at hp; cases hp
  rw [if_pos hlen] at hp
  obtain ⟨v0, hvs0⟩ := List.length_eq_one_iff.1 (show vs.length = 1 by rw [← H.1]; rfl)
  subst hvs0
  obtain ⟨v1, hv1, hvr⟩ := H.2 0 _ rfl
  have hv1 : v0 = v1 := by simpa using hv1
  subst hv1
  cases hvr with
  | clo _ _ us hl hr =>
  have hul : us.size = 1 := by simpa using hl.symm
  have h0 := hr 0 _ rfl
  have hus : us = #[us.getD 0 undef] := by
    apply Array.ext
    · simp [hul]
    · intro i h1 h2
      have : i = 0 := by omega
      subst this
      simp [h1]
  generalize us.getD 0 undef = pv at h0 hus
  subst hus
  have hgo := (genOf_obj hcs)
  cases h0 with
  | ptrOld _ _ _ g' a k1 k2 => have := hgo.1; rw [this] at k1; injection k1; omega
  | ptr _ _ _ bm k1 k2 =>
  obtain ⟨x, hx, hxr⟩ := R.obj o bm k2
  rw [hgo.2.1] at hx
  injection hx with hx; subst hx
  obtain ⟨bc, el, q1, q2, q3⟩ := hxr
  obtain ⟨mv, hmv, hmr⟩ := q3 0 _ rfl
  obtain ⟨b, en, cl, es0, rfl, hb, hheap, hp0, hE, hSt⟩ := map_obj R hes hmr
  have hcell : w.cell? ⟨bm, 0, none⟩ = some (.map (some b)) := by
    unfold World.cell?
    rw [q1]
    simpa using hmv
  obtain ⟨ks0, hks0, hpk⟩ := keysI_perm hp0.1 hks
  obtain ⟨e1, e2⟩ := keysI_rel hE hks0
  have hel : en.size = es.length := by have := hE.1; rw [← hp0.1.length_eq]; simpa using this.symm
  obtain ⟨D0, d1, d2, d3⟩ := ownsMap_rel hkt hheap hSt (by rw [hel]; simp only [maxLen]; omega) (List.Perm.of_eq e1) e2
  replace d2 := d2.trans hpk
  have hc := hS w bm b _ D0 (R.lt k2) hcell d1 (by rw [d3, hel]; simp only [maxLen]; omega) (by rw [d3, hel]; omega)
  refine Calls.mono hc fun e w' he => ?_
  obtain ⟨v, ss, rfl, p1, p2, p3, p4⟩ := he
  have hperm : ss.Perm ks := p1.trans d2
  have hsort : ss.mergeSort (fun x y => decide (x ≤ y)) = isort ks := isort_eq hperm
  obtain ⟨l1, l2⟩ := p2
  cases hk : isort ks with
  | nil =>
    rw [hk] at hp
    simp only [Option.some.injEq, Prod.mk.injEq] at hp
    obtain ⟨rfl, rfl⟩ := hp
    have hksn : ks = [] := by
      have := (isort_perm ks).length_eq
      rw [hk] at this
      exact List.length_eq_zero_iff.1 this.symm
    have hssn : ss = [] := by
      have := hperm.length_eq
      rw [hksn] at this
      exact List.length_eq_zero_iff.1 this
    have hv := p3.2 hssn
    subst hv
    obtain ⟨E, R'⟩ := ext_same R p4.size (fun b hb => p4.block b hb) p4.os p4.tape p4.output
    exact ⟨s, E, R', .lstNil 1⟩
  | cons x r =>
    rw [hk] at hp
    simp only [Option.some.injEq, Prod.mk.injEq] at hp
    obtain ⟨rfl, rfl⟩ := hp
    rw [hsort, hk] at l1 l2
    rcases l2 with ⟨rfl, hn⟩ | ⟨g', cap, cur, rfl, hge, hcur, hle, hmax, hcs2, htake⟩
    · rw [hn] at l1; simp at l1
    have hlt : g' < w'.heap.size := (Array.getElem?_eq_some_iff.1 hcur).1
    have hll : ss.length = (x :: r).length := by simp only [List.length_map] at l1; omega
    have hval : ∀ (i : Nat) (c : Int), (x :: r)[i]? = some c → cur[i]? = some (Value.int .i64 c) := by
      intro i c hi
      have h1 : (cur.toList.take (ss.length * 1))[i]? = some (encZ c) := by rw [htake, List.getElem?_map, hi]; rfl
      rw [List.getElem?_take] at h1
      split at h1
      · simpa using h1
      · cases h1
    have hcl : (x :: r).length ≤ cur.size := by
      have := congrArg List.length htake
      simp only [List.length_take, Array.length_toList, List.length_map, Nat.mul_one] at this
      have h2 : (List.length (x :: r)) ≤ cur.size := by omega
      exact h2
    obtain ⟨E, R'⟩ := ext_new (cs := intCells (x :: r)) R p4 hge hlt hcur (by unfold intCells; rw [List.length_map]; exact hcl) (fun s1 h1 w1 i c hi => by
      unfold intCells at hi
      rw [List.getElem?_map] at hi
      obtain ⟨c', hc', rfl⟩ := Option.map_eq_some_iff.1 hi
      exact ⟨_, hval i c' hc', .int _ _⟩)
    refine ⟨_, E, R', ?_⟩
    rw [hll]
    refine .msl _ _ _ _ _ _ g' cap kt cur.size 0 (.inl rfl) (by rw [genOf_new]) (by simp [Sim.add]) (by rw [← hll]; exact hle) (fun m hm => by cases hm) (fun _ => ?_) (by simp only [World.shape?, hcur]) (by omega)
    rw [lenOf_new]
    unfold intCells
    rw [List.length_map, ← hll]
    omega
end
end Go.Rv

/-
  The steps taken at once, as the quick twin takes them.
-/
set_option linter.unusedSimpArgs false
set_option linter.unusedVariables false
namespace Go.Rv
noncomputable section

/-- A function's code, without a look at its orders. -/
def fnsB (P : Program) (f : Nat) : Option FI :=
  match P.funcs[f]? with
  | some fn => match fn.body with
    | some b => some ⟨fn.params.size + fn.nfree, fn.results.toList, b⟩
    | none => none
  | none => none
def fnOk (P : Program) (C : Cfg) (f : Nat) : Bool :=
  match P.funcs[f]? with
  | some fn => match fn.body with
    | some b => okB C f fn b
    | none => true
  | none => true
theorem fnsB_eq {P : Program} {C : Cfg} {f : Nat} (h : fnOk P C f = true) : fnsOf P C f = fnsB P f := by
  unfold fnOk at h
  unfold fnsOf fnsB
  revert h
  generalize P.funcs[f]? = x
  intro h
  cases x with
  | none => rfl
  | some fn =>
    revert h
    show (match fn.body with | some b => okB C f fn b | none => true) = true → (match fn.body with | some b => if okB C f fn b then some (FI.mk (fn.params.size + fn.nfree) fn.results.toList b) else none | none => none) = (match fn.body with | some b => some (FI.mk (fn.params.size + fn.nfree) fn.results.toList b) | none => none)
    cases fn.body with
    | none => intro _; rfl
    | some b => intro h; exact if_pos h

def cloneF (args : List AV) (R : Rdr) (n : Nat) : Option (CRes × Eff) :=
  match args with
  | [.map o] => (R.map o).bind fun es => match intEs es with
    | some l => some (.ret (.map n), .push (.map (ofInts (sortE l))))
    | none => some (.ret (.map n), .push (.map es))
  | _ => none
def copyF (args : List AV) (R : Rdr) (n : Nat) : Option (CRes × Eff) :=
  match args with
  | [.map o, .map o'] => match Nat.beq o o' with
    | true => none
    | false => (R.map o).bind fun ds => (intEs ds).bind fun d => (R.map o').bind fun ss => (intEs ss).bind fun s =>
      if d.length + s.length ≤ 1000000 then some (.ret (.tup []), .set o (.map (ofInts (sortE (mergeE d s))))) else none
  | _ => none
def strikeF (clo : Nat) (args : List AV) (R : Rdr) (n : Nat) : Option (CRes × Eff) :=
  match args with
  | [.map o, .clo g [.ptr p 0 gen]] => match Nat.beq g clo with
    | false => none
    | true => (R.obj p gen).bind fun cs => match cs with
      | .map t :: _ => (match Nat.beq o t with
        | true => none
        | false =>
        (R.map o).bind fun ds => (intEs ds).bind fun d => (R.map t).bind fun ts => (intEs ts).bind fun u =>
          if d.length + u.length ≤ 1000000 then some (.ret (.tup []), .set o (.map (ofInts (d.filter fun q => bearsE u q.1)))) else none)
      | _ => none
  | _ => none
def sortedF (clo : Nat) (args : List AV) (R : Rdr) (n : Nat) : Option (CRes × Eff) :=
  match args with
  | [.clo g [.ptr o 0 gen]] => match Nat.beq g clo with
    | false => none
    | true => (R.obj o gen).bind fun cs => match cs with
      | .map m :: _ => (R.map m).bind fun es => (keysI es).bind fun ks => if es.length ≤ 1000000 then some (.ret (keysOut (isort ks)), .keep) else none
      | _ => none
  | _ => none
def sortStrF (args : List AV) (R : Rdr) (n : Nat) : Option (CRes × Eff) :=
  match args with
  | [.lst [] _ _] => some (.ret (.tup []), .keep)
  | [.msl o 0 len 1 g _] => (R.obj o g).bind fun cs => if cs.length = len ∧ len ≤ 1000000000 then (strsOf cs).map fun ss => (.ret (.tup []), .set o (.cells ((sortedS ss).map AV.str) g)) else none
  | _ => none
def sortedMF (clo : Nat) (args : List AV) (R : Rdr) (n : Nat) : Option (CRes × Eff) :=
  match args with
  | [.clo g [.ptr o 0 gen]] => match Nat.beq g clo with
    | false => none
    | true => (R.obj o gen).bind fun cs => match cs with
      | .map m :: _ => (R.map m).bind fun es => (keysI es).bind fun ks => if es.length ≤ 1000000 then (match isort ks with
        | [] => some (.ret (.lst [] 1 .nil), .keep)
        | x :: r => some (.ret (.msl n 0 (x :: r).length 1 0 none), .push (.cells (intCells (x :: r)) 0))) else none
      | _ => none
  | _ => none
/-- A function without arguments whose answer is known. -/
def constP (v : AV) (args : List AV) (h : Heap) : Option (CRes × Heap) := match args with
  | [] => some (.ret v, h)
  | _ => none
def constF (v : AV) (args : List AV) (R : Rdr) (n : Nat) : Option (CRes × Eff) := match args with
  | [] => some (.ret v, .keep)
  | _ => none

def TwinP (q : List AV → Rdr → Nat → Option (CRes × Eff)) (p : List AV → Heap → Option (CRes × Heap)) : Prop :=
  ∀ args h res y, q args (Rdr.of h) h.length = some (res, y) → p args h = some (res, y.app h)

theorem const_twin (v : AV) : TwinP (constF v) (constP v) := fun args h res y hq => by
  cases args with
  | nil =>
    simp only [constF, Option.some.injEq, Prod.mk.injEq] at hq
    obtain ⟨rfl, rfl⟩ := hq
    rfl
  | cons a r => cases hq

theorem clone_twin : TwinP cloneF cloneMap := fun args h res y hq => by
  unfold cloneF at hq
  split at hq <;> first | (cases hq; done) | skip
  rename_i o
  obtain ⟨es, hes, hq⟩ := Option.bind_eq_some_iff.1 hq
  have hes : h.mapAt o = some es := hes
  simp only [cloneMap, hes, Option.bind_some]
  cases hi : intEs es with
  | some l =>
    rw [hi] at hq
    simp only [Option.some.injEq, Prod.mk.injEq] at hq
    obtain ⟨rfl, rfl⟩ := hq
    rfl
  | none =>
    rw [hi] at hq
    simp only [Option.some.injEq, Prod.mk.injEq] at hq
    obtain ⟨rfl, rfl⟩ := hq
    rfl

theorem copy_twin : TwinP copyF copyMap := fun args h res y hq => by
  unfold copyF at hq
  split at hq <;> first | (cases hq; done) | skip
  rename_i o o'
  cases hb : Nat.beq o o' with
  | true => rw [hb] at hq; cases hq
  | false =>
    rw [hb] at hq
    have hne := Nat.ne_of_beq_eq_false hb
    obtain ⟨ds, hds, hq⟩ := Option.bind_eq_some_iff.1 hq
    obtain ⟨d, hd, hq⟩ := Option.bind_eq_some_iff.1 hq
    obtain ⟨ss, hss, hq⟩ := Option.bind_eq_some_iff.1 hq
    obtain ⟨s, hs, hq⟩ := Option.bind_eq_some_iff.1 hq
    have hds : h.mapAt o = some ds := hds
    have hss : h.mapAt o' = some ss := hss
    simp only [copyMap, hne, if_false, hds, hd, hss, hs, Option.bind_some]
    split at hq
    · rename_i hl
      rw [if_pos hl]
      simp only [Option.some.injEq, Prod.mk.injEq] at hq
      obtain ⟨rfl, rfl⟩ := hq
      rfl
    · cases hq

theorem strike_twin (clo : Nat) : TwinP (strikeF clo) (strikeMap clo) := fun args h res y hq => by
  unfold strikeF at hq
  split at hq <;> first | (cases hq; done) | skip
  rename_i o g p gen
  cases hb : Nat.beq g clo with
  | false => rw [hb] at hq; cases hq
  | true =>
    rw [hb] at hq
    have hg := Nat.eq_of_beq_eq_true hb
    obtain ⟨cs, hcs, hq⟩ := Option.bind_eq_some_iff.1 hq
    have hcs : h.obj p gen = some cs := hcs
    simp only [strikeMap, hg, if_true, hcs, Option.bind_some]
    split at hq <;> first | (cases hq; done) | skip
    rename_i t cr _
    cases hb2 : Nat.beq o t with
    | true => rw [hb2] at hq; cases hq
    | false =>
      rw [hb2] at hq
      have hne := Nat.ne_of_beq_eq_false hb2
      obtain ⟨ds, hds, hq⟩ := Option.bind_eq_some_iff.1 hq
      obtain ⟨d, hd, hq⟩ := Option.bind_eq_some_iff.1 hq
      obtain ⟨ss, hss, hq⟩ := Option.bind_eq_some_iff.1 hq
      obtain ⟨s, hs, hq⟩ := Option.bind_eq_some_iff.1 hq
      have hds : h.mapAt o = some ds := hds
      have hss : h.mapAt t = some ss := hss
      simp only [hne, if_false, hds, hd, hss, hs, Option.bind_some]
      split at hq
      · rename_i hl
        rw [if_pos hl]
        simp only [Option.some.injEq, Prod.mk.injEq] at hq
        obtain ⟨rfl, rfl⟩ := hq
        rfl
      · cases hq

theorem sortedM_twin (clo : Nat) : TwinP (sortedMF clo) (sortedKeysM clo) := fun args h res y hq => by
  unfold sortedMF at hq
  split at hq <;> first | (cases hq; done) | skip
  rename_i g o gen
  cases hb : Nat.beq g clo with
  | false => rw [hb] at hq; cases hq
  | true =>
    rw [hb] at hq
    have hg := Nat.eq_of_beq_eq_true hb
    obtain ⟨cs, hcs, hq⟩ := Option.bind_eq_some_iff.1 hq
    have hcs : h.obj o gen = some cs := hcs
    simp only [sortedKeysM, hg, if_true, hcs, Option.bind_some]
    split at hq <;> first | (cases hq; done) | skip
    rename_i m cr _
    obtain ⟨es, hes, hq⟩ := Option.bind_eq_some_iff.1 hq
    obtain ⟨ks, hks, hq⟩ := Option.bind_eq_some_iff.1 hq
    have hes : h.mapAt m = some es := hes
    simp only [hes, hks, Option.bind_some]
    split at hq
    · rename_i hl
      rw [if_pos hl]
      cases hi : isort ks with
      | nil =>
        rw [hi] at hq
        simp only [Option.some.injEq, Prod.mk.injEq] at hq
        obtain ⟨rfl, rfl⟩ := hq
        rfl
      | cons x r =>
        rw [hi] at hq
        simp only [Option.some.injEq, Prod.mk.injEq] at hq
        obtain ⟨rfl, rfl⟩ := hq
        rfl
    · cases hq

theorem sortStr_twin : TwinP sortStrF sortStr := fun args h res y hq => by
  unfold sortStrF at hq
  split at hq
  · simp only [Option.some.injEq, Prod.mk.injEq] at hq
    obtain ⟨rfl, rfl⟩ := hq
    rfl
  · rename_i o len g cap
    obtain ⟨cs, hcs, hq⟩ := Option.bind_eq_some_iff.1 hq
    have hcs : h.obj o g = some cs := hcs
    simp only [sortStr, hcs, Option.bind_some]
    split at hq
    · rename_i hl
      rw [if_pos hl]
      obtain ⟨ss, hss, hq⟩ := Option.map_eq_some_iff.1 hq
      simp only [Prod.mk.injEq] at hq
      obtain ⟨rfl, rfl⟩ := hq
      simp only [hss, Option.map_some]
      rfl
    · cases hq
  · cases hq
end
end Go.Rv
