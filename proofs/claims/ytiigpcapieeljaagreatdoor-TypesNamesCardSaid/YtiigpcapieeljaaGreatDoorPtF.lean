/-
  'slices.Sorted(maps.Keys(m))' at int keys, as one step of the interpreter: the keys, sorted.
-/
import Derived.Test.YtiigpcapieeljaaGreatDoorPtE
import Derived.Maps.OwnSet
import Derived.Lib.SlKeysI
import Derived.Lib.SlMapMerge
import Derived.Lib.SlMapFilter
import Derived.Maps.Own
import Derived.Shelf.SortM.Plain
import Derived.Shelf.SortM.SortNone
set_option linter.unusedSectionVars false
set_option linter.unusedSimpArgs false
set_option linter.unusedVariables false
set_option linter.defProp false
set_option linter.unusedSimpArgs false
set_option linter.unusedVariables false
namespace Go.Rv
open Go.Maps Go.RowKit

def keysI : List (AV × AV) → Option (List Int)
  | [] => some []
  | (.int k n, _) :: r => if k == .i64 && (Lit.int .i64 n).wf then (keysI r).map (n :: ·) else none
  | _ => none

theorem keysI_perm {es es0 : List (AV × AV)} {ks : List Int} (p : es0.Perm es) (h : keysI es = some ks) : ∃ ks0, keysI es0 = some ks0 ∧ ks0.Perm ks := by
  let g : AV × AV → Int := fun e => match e.1 with | .int _ n => n | _ => 0
  have fw : ∀ {es : List (AV × AV)} {ks : List Int}, keysI es = some ks → ks = es.map g ∧ ∀ e ∈ es, ∃ n, e.1 = .int .i64 n ∧ (Lit.int .i64 n).wf = true := by
    intro es
    induction es with
    | nil => intro ks h; simp only [keysI, Option.some.injEq] at h; subst h; exact ⟨rfl, fun e he => by simp at he⟩
    | cons e es ih =>
      intro ks h
      obtain ⟨k, v⟩ := e
      cases k <;> simp only [keysI, reduceCtorEq] at h
      rename_i kk n
      split at h
      · rename_i hc
        simp only [Bool.and_eq_true, beq_iff_eq] at hc
        obtain ⟨rfl, hwf⟩ := hc
        obtain ⟨r, hr, rfl⟩ := Option.map_eq_some_iff.1 h
        obtain ⟨h1, h2⟩ := ih hr
        refine ⟨by rw [h1]; rfl, fun e he => ?_⟩
        rcases List.mem_cons.1 he with rfl | he
        · exact ⟨n, rfl, hwf⟩
        · exact h2 e he
      · cases h
  have bw : ∀ {es : List (AV × AV)}, (∀ e ∈ es, ∃ n, e.1 = .int .i64 n ∧ (Lit.int .i64 n).wf = true) → keysI es = some (es.map g) := by
    intro es
    induction es with
    | nil => intro _; rfl
    | cons e es ih =>
      intro h
      obtain ⟨n, hn, hw⟩ := h e (List.mem_cons_self ..)
      obtain ⟨k, v⟩ := e
      dsimp only at hn
      subst hn
      simp only [keysI, hw, beq_self_eq_true, Bool.and_self, if_true, ih fun e he => h e (List.mem_cons_of_mem _ he), Option.map_some]
      rfl
  obtain ⟨h1, h2⟩ := fw h
  refine ⟨es0.map g, bw fun e he => h2 e (p.mem_iff.1 he), ?_⟩
  rw [h1]
  exact p.map _

def insI (x : Int) : List Int → List Int
  | [] => [x]
  | y :: r => match decide (x ≤ y) with
    | true => x :: y :: r
    | false => y :: insI x r
def isort : List Int → List Int
  | [] => []
  | x :: r => insI x (isort r)

theorem insI_perm (x : Int) : ∀ l, (insI x l).Perm (x :: l)
  | [] => List.Perm.refl _
  | y :: r => by
    simp only [insI]
    cases decide (x ≤ y) with
    | true => exact List.Perm.refl _
    | false => exact ((insI_perm x r).cons y).trans (List.Perm.swap x y r)
theorem isort_perm : ∀ l, (isort l).Perm l
  | [] => List.Perm.refl _
  | x :: r => (insI_perm x (isort r)).trans ((isort_perm r).cons x)
theorem insI_sorted (x : Int) : ∀ l, l.Pairwise (fun a b => leI a b = true) → (insI x l).Pairwise (fun a b => leI a b = true)
  | [], _ => by simp [insI]
  | y :: r, h => by
    have h1 := List.pairwise_cons.1 h
    simp only [insI]
    cases hd : decide (x ≤ y) with
    | true =>
      have hxy : x ≤ y := by simpa using hd
      refine List.pairwise_cons.2 ⟨fun a ha => ?_, h⟩
      rcases List.mem_cons.1 ha with rfl | ha
      · simpa [leI] using hxy
      · have := h1.1 a ha
        simp only [leI, decide_eq_true_eq] at this ⊢
        omega
    | false =>
      have hxy : ¬ x ≤ y := by simpa using hd
      refine List.pairwise_cons.2 ⟨fun a ha => ?_, insI_sorted x r h1.2⟩
      rcases List.mem_cons.1 ((insI_perm x r).mem_iff.1 ha) with rfl | ha
      · simp only [leI, decide_eq_true_eq]; omega
      · exact h1.1 a ha
theorem isort_sorted : ∀ l, (isort l).Pairwise (fun a b => leI a b = true)
  | [] => by simp [isort]
  | x :: r => insI_sorted x _ (isort_sorted r)
theorem isort_eq {l l' : List Int} (h : l.Perm l') : l.mergeSort leI = isort l' := by
  have tr : ∀ a b c : Int, leI a b = true → leI b c = true → leI a c = true := fun a b c h1 h2 => by simp only [leI, decide_eq_true_eq] at *; exact Int.le_trans h1 h2
  have to : ∀ a b : Int, (leI a b || leI b a) = true := fun a b => by simp only [leI, Bool.or_eq_true, decide_eq_true_eq]; exact Int.le_total a b
  refine List.Perm.eq_of_pairwise (le := fun a b => leI a b = true) (fun a b _ _ h1 h2 => ?_) (List.pairwise_mergeSort tr to l) (isort_sorted l') (((List.mergeSort_perm l leI).trans h).trans (isort_perm l').symm)
  simp only [leI, decide_eq_true_eq] at h1 h2
  exact Int.le_antisymm h1 h2

def keysOut (l : List Int) : AV := match l with
  | [] => .lst [] 1 .nil
  | x :: r => .lst ((x :: r).map (AV.int .i64)) 1 .open

/-- slices.Sorted at what maps.Keys hands back (its function's number: clo). -/
def sortedKeys (clo : Nat) (args : List AV) (h : Heap) : Option (CRes × Heap) :=
  match args with
  | [.clo g [.ptr o 0 gen]] =>
    if g = clo then
      (h.obj o gen).bind fun cs => match cs with
        | .map m :: _ => (h.mapAt m).bind fun es => (keysI es).bind fun ks => if es.length ≤ 1000000 then some (.ret (keysOut (isort ks)), h) else none
        | _ => none
    else none
  | _ => none

section
variable {P : Program} {C : Cfg} {s : Sim} {h : Heap} {w : World}

abbrev anyR : Value → Option (DataW Unit × List MemPlace) := fun _ => some (.lit (.bool true), [])

theorem keysI_rel : ∀ {es : List (AV × AV)} {en : List MapEntry} {ks : List Int}, Ents s h w es en → keysI es = some ks → en.map (·.key) = ks.map encZ ∧ ∀ n ∈ ks, (Lit.int .i64 n).wf = true
  | [], [], ks, _, hk => by
    simp only [keysI, Option.some.injEq] at hk
    subst hk
    exact ⟨rfl, fun n hn => by simp at hn⟩
  | [], _ :: _, _, H, _ => by have := H.1; simp at this
  | _ :: _, [], _, H, _ => by have := H.1; simp at this
  | (k, v) :: es, m :: en, ks, H, hk => by
    obtain ⟨⟨h1, _⟩, ht⟩ := H.tail
    cases k <;> simp only [keysI, reduceCtorEq] at hk
    rename_i kk n
    split at hk
    · rename_i hc
      simp only [Bool.and_eq_true, beq_iff_eq] at hc
      obtain ⟨rfl, hwf⟩ := hc
      obtain ⟨r, hr, rfl⟩ := Option.map_eq_some_iff.1 hk
      obtain ⟨h2, h3⟩ := keysI_rel ht hr
      generalize hmk : m.key = mk at h1
      cases h1
      refine ⟨?_, fun a ha => ?_⟩
      · simp only [List.map_cons, h2, hmk]
      · rcases List.mem_cons.1 ha with rfl | ha
        · exact hwf
        · exact h3 a ha
    · cases hk

theorem ownsMap_rel {kt b cl : Nat} {en : Array MapEntry} {ks : List Int} (hkt : P.underlying kt = some (.int .i64)) (hheap : w.heap[b]? = some (.map en cl)) (hS : MapKept.Stamped en cl) (hsz : en.size ≤ maxLen)
    (hkeys : (en.toList.map (·.key)).Perm (ks.map encZ)) (hwf : ∀ n ∈ ks, (Lit.int .i64 n).wf = true) :
    ∃ D0 : DataW Unit, w.ownsMap P kt anyR b en.size D0 ∧ (intKeys D0).Perm ks ∧ Maps.size D0 = en.size := by
  have hrd : ∀ x ∈ en.toList, ∃ n, n ∈ ks ∧ x.key = encZ n ∧ WideElems.rd P kt anyR x = some (.int .i64 n, .lit (.bool true)) := by
    intro x hx
    have : x.key ∈ en.toList.map (·.key) := List.mem_map.2 ⟨x, hx, rfl⟩
    obtain ⟨n, hn, he⟩ := List.mem_map.1 (hkeys.mem_iff.1 this)
    refine ⟨n, hn, he.symm, ?_⟩
    obtain ⟨key, val, born⟩ := x
    simp only at he
    subst he
    exact WideElems.rd_mk (R := anyR) (yv := (.lit (.bool true), [])) (keyOf_int_mk hkt (hwf n hn)) rfl
  refine ⟨.map ((en.toList.map (WideElems.rg P kt anyR)).foldr DataW.insert []), ⟨en, cl, hheap, ⟨hsz, hS, fun x hx => let ⟨n, _, _, h⟩ := hrd x hx; ⟨_, h⟩⟩, Nat.le_refl _, rfl⟩, ?_, ?_⟩
  · show (((en.toList.map (WideElems.rg P kt anyR)).foldr DataW.insert []).map fun p => intOf p.1).Perm ks
    refine ((WideShapes.sorted_perm _).map _).trans ?_
    rw [List.map_map]
    have : (en.toList.map ((fun p => intOf p.1) ∘ WideElems.rg P kt anyR)).Perm ks := by
      have h1 : en.toList.map ((fun p => intOf p.1) ∘ WideElems.rg P kt anyR) = (en.toList.map (·.key)).map (fun v => match v with | .int _ n => n | _ => 0) := by
        rw [List.map_map]
        refine List.map_congr_left fun x hx => ?_
        obtain ⟨n, _, hk, hr⟩ := hrd x hx
        simp only [Function.comp, WideElems.rg_of hr, hk, intOf]
      rw [h1]
      refine (hkeys.map _).trans ?_
      rw [List.map_map]
      simp [Function.comp_def, encZ]
    exact this
  · show ((en.toList.map (WideElems.rg P kt anyR)).foldr DataW.insert []).length = en.size
    rw [(WideShapes.sorted_perm _).length_eq]
    simp

theorem ext_below {s : Sim} {h : Heap} {w w' : World} (R : Rel s h w) (B : Below w.heap.size w w') (g : Nat) (hg : w.heap.size ≤ g) (hg' : g < w'.heap.size) :
    Ext s h w { s with I := fun b => s.I b ∨ b = g } h w' ∧ Rel { s with I := fun b => s.I b ∨ b = g } h w' := by
  have E : Ext s h w { s with I := fun b => s.I b ∨ b = g } h w' :=
    { size := B.size, far := fun b hb _ => B.block b hb, shape := fun b x hx => by rw [shape_of (B.block b (shape_lt hx))]; exact hx, imm := fun b hb => .inl hb, gen := fun _ g hg => ⟨g, hg, Nat.le_refl _⟩,
      same := fun _ _ _ _ => ⟨fun _ h => h, rfl⟩, kind := fun _ h _ => h, own := fun o b hb => .inl ⟨o, hb⟩, os := B.os, tape := B.tape, output := B.output, kindL := fun _ h => h, good := rfl, old := fun o b _ hb => ⟨b, hb⟩, kept := fun _ _ _ => rfl, immOld := fun b hb hI => hI.elim .inl fun e => absurd hg (by omega) }
  refine ⟨E, R.inj, fun o b hb => ?_, fun o b hb hI => ?_, fun b hI => ?_⟩
  · obtain ⟨x, hx, hr⟩ := R.obj o b hb
    exact ⟨x, hx, hr.ext R.apart E (B.block b (R.lt hb))⟩
  · rcases hI with hI | rfl
    · exact R.apart o b hb hI
    · have := R.lt hb; omega
  · rcases hI with hI | rfl
    · exact Nat.lt_of_lt_of_le (R.imm b hI) B.size
    · exact hg'

/-- What the kit's contract says of slices.Sorted at what maps.Keys hands back. -/
def SortedSays (P : Program) (f clo kt : Nat) : Prop := ∀ (w : World) (Bm b nn : Nat) (D0 : DataW Unit), Bm < w.heap.size → w.cell? ⟨Bm, 0, none⟩ = some (.map (some b)) → w.ownsMap P kt anyR b nn D0 → Maps.size D0 ≤ maxLen → Maps.size D0 * 8 ≤ 140737488355328 →
  Calls P f #[.func (.func clo) #[] #[.pointer (some ⟨Bm, 0, none⟩)]] w fun e w' => ∃ (v : Value) (ss : List Int), e = .returned v ∧ ss.Perm (intKeys D0) ∧
    w'.ownsRow w.heap.size kt 1 v ss.length ((ss.mergeSort (fun x y => decide (x ≤ y))).map encZ) ∧ (v = .slice none 0 0 ↔ ss = []) ∧ Below w.heap.size w w'

theorem sortedKeys_ok {f clo kt : Nat} (hS : SortedSays P f clo kt) (hkt : P.underlying kt = some (.int .i64)) {args : List AV} {res : CRes} {h' : Heap} (hp : sortedKeys clo args h = some (res, h')) {vs : List Value} (R : Rel s h w) (H : VRs s h w args vs) : h' = h ∧ CallOk P f vs s h w res h' := by
  unfold sortedKeys at hp
  split at hp <;> first | cases hp | skip
  rename_i g o gen
  split at hp <;> first | cases hp | skip
  rename_i hg
  subst hg
  obtain ⟨cs, hcs, hp⟩ := Option.bind_eq_some_iff.1 hp
  split at hp <;> first | cases hp | skip
  rename_i m cr
  obtain ⟨es, hes, hp⟩ := Option.bind_eq_some_iff.1 hp
  obtain ⟨ks, hks, hp⟩ := Option.bind_eq_some_iff.1 hp
  by_cases hlen : es.length ≤ 1000000
  case neg => rw [if_neg hlen] at hp; cases hp
  rw [if_pos hlen] at hp
  simp only [Option.some.injEq, Prod.mk.injEq] at hp
  obtain ⟨rfl, rfl⟩ := hp
  refine ⟨rfl, ?_⟩
  obtain ⟨v0, hvs0⟩ := List.length_eq_one_iff.1 (show vs.length = 1 by rw [← H.1]; rfl)
  subst hvs0
  obtain ⟨v1, hv1, hvr⟩ := H.2 0 _ rfl
  have hv1 : v0 = v1 := by simpa using hv1
  subst hv1
  cases hvr with
  | clo _ _ us hl hr =>
  have hul : us.size = 1 := by simpa using hl.symm
  have h0 := hr 0 _ rfl
  have hus : us = #[us.getD 0 undef] := by
    apply Array.ext
    · simp [hul]
    · intro i h1 h2
      have : i = 0 := by omega
      subst this
      simp [h1]
  generalize us.getD 0 undef = pv at h0 hus
  subst hus
  have hgo := (genOf_obj hcs)
  cases h0 with
  | ptrOld _ _ _ g' a k1 k2 => have := hgo.1; rw [this] at k1; injection k1; omega
  | ptr _ _ _ bm k1 k2 =>
  obtain ⟨x, hx, hxr⟩ := R.obj o bm k2
  rw [hgo.2.1] at hx
  injection hx with hx; subst hx
  obtain ⟨bc, el, q1, q2, q3⟩ := hxr
  obtain ⟨mv, hmv, hmr⟩ := q3 0 _ rfl
  obtain ⟨b, en, cl, es0, rfl, hb, hheap, hp0, hE, hSt⟩ := map_obj R hes hmr
  have hcell : w.cell? ⟨bm, 0, none⟩ = some (.map (some b)) := by
    unfold World.cell?
    rw [q1]
    simpa using hmv
  obtain ⟨ks0, hks0, hpk⟩ := keysI_perm hp0.1 hks
  obtain ⟨e1, e2⟩ := keysI_rel hE hks0
  have hel : en.size = es.length := by have := hE.1; rw [← hp0.1.length_eq]; simpa using this.symm
  obtain ⟨D0, d1, d2, d3⟩ := ownsMap_rel hkt hheap hSt (by rw [hel]; simp only [maxLen]; omega) (List.Perm.of_eq e1) e2
  replace d2 := d2.trans hpk
  have hc := hS w bm b _ D0 (R.lt k2) hcell d1 (by rw [d3, hel]; simp only [maxLen]; omega) (by rw [d3, hel]; omega)
  refine Calls.mono hc fun e w' he => ?_
  obtain ⟨v, ss, rfl, p1, p2, p3, p4⟩ := he
  have hperm : ss.Perm ks := p1.trans d2
  have hsort : ss.mergeSort (fun x y => decide (x ≤ y)) = isort ks := isort_eq hperm
  obtain ⟨l1, l2⟩ := p2
  cases hk : isort ks with
  | nil =>
    have hksn : ks = [] := by
      have := (isort_perm ks).length_eq
      rw [hk] at this
      exact List.length_eq_zero_iff.1 this.symm
    have hssn : ss = [] := by
      have := hperm.length_eq
      rw [hksn] at this
      exact List.length_eq_zero_iff.1 this
    have hv := p3.2 hssn
    subst hv
    have E : Ext s h w s h w' :=
      { size := p4.size, far := fun b hb _ => p4.block b hb, shape := fun b x hx => by rw [shape_of (p4.block b (shape_lt hx))]; exact hx, imm := fun b hb => hb, gen := fun _ g hg => ⟨g, hg, Nat.le_refl _⟩,
        same := fun _ _ _ _ => ⟨fun _ h => h, rfl⟩, kind := fun _ h _ => h, own := fun o b hb => .inl ⟨o, hb⟩, os := p4.os, tape := p4.tape, output := p4.output, kindL := fun _ h => h, good := rfl, old := fun o b _ hb => ⟨b, hb⟩, kept := fun _ _ _ => rfl }
    refine ⟨s, E, ⟨R.inj, fun o b hb => ?_, R.apart, fun b hI => Nat.lt_of_lt_of_le (R.imm b hI) p4.size⟩, .lstNil 1⟩
    obtain ⟨x, hx, hr⟩ := R.obj o b hb
    exact ⟨x, hx, hr.ext R.apart E (p4.block b (R.lt hb))⟩
  | cons x r =>
    rw [hsort, hk] at l1 l2
    rcases l2 with ⟨rfl, hn⟩ | ⟨g', cap, cur, rfl, hge, hcur, hle, hmax, hcs2, htake⟩
    · rw [hn] at l1; simp at l1
    have hlt : g' < w'.heap.size := (Array.getElem?_eq_some_iff.1 hcur).1
    obtain ⟨E, R'⟩ := ext_below R p4 g' hge hlt
    refine ⟨_, E, R', ?_⟩
    have hll : ss.length = (x :: r).length := by simp only [List.length_map] at l1; omega
    have hval : ∀ i (c : Int), (x :: r)[i]? = some c → w'.cell? ⟨g', 0 + i * 1 + 0, none⟩ = some (.int .i64 c) := by
      intro i c hi
      have h1 : (cur.toList.take (ss.length * 1))[i]? = some (encZ c) := by rw [htake, List.getElem?_map, hi]; rfl
      have h2 : cur.toList[i]? = some (encZ c) := by
        rw [List.getElem?_take] at h1
        split at h1
        · exact h1
        · cases h1
      unfold World.cell?
      simp only [Nat.zero_add, Nat.mul_one, Nat.add_zero]
      rw [hcur]
      simpa using h2
    have key := VR.lst (s := { s with I := fun b => s.I b ∨ b = g' }) (h := h) (w := w') ((x :: r).map (AV.int .i64)) 1 .open g' 0 cap (fun i _ => .int .i64 ((x :: r).getD i 0)) (fun _ => .inr rfl) trivial (by simp only [List.length_map]; omega)
      (fun i y hi => by
        rw [List.getElem?_map] at hi
        obtain ⟨c, _, rfl⟩ := Option.map_eq_some_iff.1 hi
        rfl)
      (fun i j y z hi hj => by
        rw [List.getElem?_map] at hi
        obtain ⟨c, hc, rfl⟩ := Option.map_eq_some_iff.1 hi
        have hj0 : j = 0 := by
          have := (List.getElem?_eq_some_iff.1 hj).1
          simp [AV.cells] at this; exact this
        subst hj0
        rw [hval i c hc]
        simp [List.getD, hc])
      (fun i j y z hi hj => by
        rw [List.getElem?_map] at hi
        obtain ⟨c, hc, rfl⟩ := Option.map_eq_some_iff.1 hi
        have hj0 : j = 0 := by
          have := (List.getElem?_eq_some_iff.1 hj).1
          simp [AV.cells] at this; exact this
        subst hj0
        simp only [AV.cells, List.getElem?_cons_zero, Option.some.injEq] at hj
        subst hj
        simp only [List.getD, hc, Option.getD_some]
        exact .int _ _)
    simp only [List.length_map] at key
    rw [hll]
    exact key
end
end Go.Rv

/-
  maps.Clone, maps.Copy and maps.DeleteFunc at maps from int to int, each as one step of the interpreter: what they leave is sorted by key.
-/
set_option linter.unusedSimpArgs false
set_option linter.unusedVariables false
namespace Go.Rv
open Go.Maps Go.RowKit

def intEs : List (AV × AV) → Option (List (Int × Int))
  | [] => some []
  | (.int k n, .int k' m) :: r => if k == .i64 && k' == .i64 && (Lit.int .i64 n).wf && (Lit.int .i64 m).wf then (intEs r).map ((n, m) :: ·) else none
  | _ => none
def ofInts (l : List (Int × Int)) : List (AV × AV) := l.map fun p => (.int .i64 p.1, .int .i64 p.2)

def insE (x : Int × Int) : List (Int × Int) → List (Int × Int)
  | [] => [x]
  | y :: r => match decide (x.1 ≤ y.1) with
    | true => x :: y :: r
    | false => y :: insE x r
def sortE : List (Int × Int) → List (Int × Int)
  | [] => []
  | x :: r => insE x (sortE r)
theorem insE_perm (x : Int × Int) : ∀ l, (insE x l).Perm (x :: l)
  | [] => List.Perm.refl _
  | y :: r => by
    simp only [insE]
    cases decide (x.1 ≤ y.1) with
    | true => exact List.Perm.refl _
    | false => exact ((insE_perm x r).cons y).trans (List.Perm.swap x y r)
theorem sortE_perm : ∀ l, (sortE l).Perm l
  | [] => List.Perm.refl _
  | x :: r => (insE_perm x (sortE r)).trans ((sortE_perm r).cons x)

def Wf (l : List (Int × Int)) : Prop := ∀ p ∈ l, (Lit.int .i64 p.1).wf = true ∧ (Lit.int .i64 p.2).wf = true
def Apart (l : List (Int × Int)) : Prop := l.Pairwise fun a b => a.1 ≠ b.1

theorem intEs_eq : ∀ {es : List (AV × AV)} {l : List (Int × Int)}, intEs es = some l → es = ofInts l ∧ Wf l
  | [], l, h => by
    simp only [intEs, Option.some.injEq] at h
    subst h
    exact ⟨rfl, fun p hp => by simp at hp⟩
  | (a, b) :: es, l, h => by
    cases a <;> cases b <;> simp only [intEs, reduceCtorEq] at h
    rename_i k n k' m
    split at h
    · rename_i hc
      simp only [Bool.and_eq_true, beq_iff_eq] at hc
      obtain ⟨⟨⟨rfl, rfl⟩, h1⟩, h2⟩ := hc
      obtain ⟨r, hr, rfl⟩ := Option.map_eq_some_iff.1 h
      obtain ⟨h3, h4⟩ := intEs_eq hr
      refine ⟨by rw [h3]; rfl, fun p hp => ?_⟩
      rcases List.mem_cons.1 hp with rfl | hp
      · exact ⟨h1, h2⟩
      · exact h4 p hp
    · cases h

theorem keysOk_ints {l : List (Int × Int)} : KeysOk (ofInts l) ↔ Apart l := by
  unfold KeysOk ofInts Apart
  rw [List.pairwise_map]
  constructor <;> intro h <;> refine h.imp fun {a b} h => ?_
  · simpa [sameK, sameKey] using h
  · simpa [sameK, sameKey] using h

theorem perm_ints {l : List (Int × Int)} {es0 : List (AV × AV)} (p : es0.Perm (ofInts l)) : ∃ l0, es0 = ofInts l0 ∧ l0.Perm l := by
  let g : AV × AV → Int × Int := fun e => (match e.1 with | .int _ n => n | _ => 0, match e.2 with | .int _ n => n | _ => 0)
  have hg : ∀ l, (ofInts l).map g = l := fun l => by
    unfold ofInts
    rw [List.map_map]
    exact (List.map_congr_left fun x _ => rfl).trans (List.map_id l)
  refine ⟨es0.map g, ?_, by have := p.map g; rwa [hg] at this⟩
  have hall : ∀ e ∈ es0, e = (.int .i64 (g e).1, .int .i64 (g e).2) := fun e he => by
    obtain ⟨x, _, rfl⟩ := List.mem_map.1 (p.mem_iff.1 he)
    rfl
  unfold ofInts
  rw [List.map_map]
  exact ((List.map_congr_left fun e he => (hall e he).symm).trans (List.map_id es0)).symm

/-- Of what is in another map nothing stays; then that one. -/
def mergeE (d s : List (Int × Int)) : List (Int × Int) := (d.filter fun p => !(s.any fun q => q.1 == p.1)) ++ s
/-- Is a key's value not zero? -/
def bearsE (t : List (Int × Int)) (n : Int) : Bool := t.any fun q => q.1 == n && !(q.2 == 0)


def cloneMap (args : List AV) (h : Heap) : Option (CRes × Heap) :=
  match args with
  | [.map o] => (h.mapAt o).bind fun es => match intEs es with
    | some l => some (.ret (.map h.length), h ++ [.map (ofInts (sortE l))])
    | none => some (.ret (.map h.length), h ++ [.map es])
  | _ => none

def copyMap (args : List AV) (h : Heap) : Option (CRes × Heap) :=
  match args with
  | [.map o, .map o'] => if o = o' then none else
    (h.mapAt o).bind fun ds => (intEs ds).bind fun d => (h.mapAt o').bind fun ss => (intEs ss).bind fun s =>
      if d.length + s.length ≤ 1000000 then some (.ret (.tup []), h.set o (.map (ofInts (sortE (mergeE d s))))) else none
  | _ => none

def strikeMap (clo : Nat) (args : List AV) (h : Heap) : Option (CRes × Heap) :=
  match args with
  | [.map o, .clo g [.ptr p 0 gen]] => if g = clo then
    (h.obj p gen).bind fun cs => match cs with
      | .map t :: _ => if o = t then none else
        (h.mapAt o).bind fun ds => (intEs ds).bind fun d => (h.mapAt t).bind fun ts => (intEs ts).bind fun u =>
          if d.length + u.length ≤ 1000000 then some (.ret (.tup []), h.set o (.map (ofInts (d.filter fun q => bearsE u q.1)))) else none
      | _ => none
    else none
  | _ => none

section
variable {P : Program} {C : Cfg} {s : Sim} {h : Heap} {w : World}

/-- How an int reads. -/
abbrev intR : Value → Option (DataW Unit × List MemPlace) := fun v => match v with
  | .int .i64 n => if (Lit.int .i64 n).wf then some (.lit (.int .i64 n), []) else none
  | _ => none
def toD (p : Int × Int) : Lit × DataW Unit := (.int .i64 p.1, .lit (.int .i64 p.2))
def toV (p : Int × Int) : Value × Value := (.int .i64 p.1, .int .i64 p.2)
def kv (m : MapEntry) : Value × Value := (m.key, m.val)
def dOf (l : List (Int × Int)) : DataW Unit := .map ((l.map toD).foldr DataW.insert [])

theorem toD_perm {l l' : List (Int × Int)} (p : (l.map toD).Perm (l'.map toD)) : l.Perm l' := by
  let g : Lit × DataW Unit → Int × Int := fun e => (match e.1 with | .int _ n => n | _ => 0, match e.2 with | .lit (.int _ n) => n | _ => 0)
  have hg : ∀ l : List (Int × Int), (l.map toD).map g = l := fun l => by
    rw [List.map_map]
    exact (List.map_congr_left fun x _ => rfl).trans (List.map_id l)
  have := p.map g
  rwa [hg, hg] at this

theorem ents_kv : ∀ {l : List (Int × Int)} {en : List MapEntry}, Ents s h w (ofInts l) en ↔ en.map kv = l.map toV
  | [], [] => ⟨fun _ => rfl, fun _ => ⟨rfl, fun i e hi => by simp [ofInts] at hi⟩⟩
  | [], _ :: _ => ⟨fun H => by have := H.1; simp [ofInts] at this, fun H => by simp at H⟩
  | _ :: _, [] => ⟨fun H => by have := H.1; simp [ofInts] at this, fun H => by simp at H⟩
  | p :: l, m :: en => by
    have ih := ents_kv (l := l) (en := en)
    constructor
    · intro H
      obtain ⟨⟨h1, h2⟩, ht⟩ := Ents.tail H
      have e1 : m.key = .int .i64 p.1 := by generalize m.key = x at h1; cases h1; rfl
      have e2 : m.val = .int .i64 p.2 := by generalize m.val = x at h2; cases h2; rfl
      rw [List.map_cons, List.map_cons, ih.1 ht]
      simp [kv, toV, e1, e2]
    · intro H
      rw [List.map_cons, List.map_cons] at H
      injection H with H1 H2
      simp only [kv, toV, Prod.mk.injEq] at H1
      exact Ents.cons ⟨by rw [H1.1]; exact .int _ _, by rw [H1.2]; exact .int _ _⟩ (ih.2 H2)

theorem owns_of {kt b cl : Nat} {en : Array MapEntry} {l : List (Int × Int)} (hkt : P.underlying kt = some (.int .i64)) (hheap : w.heap[b]? = some (.map en cl)) (hS : MapKept.Stamped en cl) (hkv : en.toList.map kv = l.map toV) (hwf : Wf l) (hsz : l.length ≤ maxLen) :
    w.ownsMap P kt intR b l.length (dOf l) := by
  have hlen : en.size = l.length := by have := congrArg List.length hkv; simpa using this
  have hrd : ∀ (en : List MapEntry) (l : List (Int × Int)), Wf l → en.map kv = l.map toV → (∀ x ∈ en, ∃ y, WideElems.rd P kt intR x = some y) ∧ en.map (WideElems.rg P kt intR) = l.map toD := by
    intro en
    induction en with
    | nil =>
      intro l _ hl
      cases l with
      | nil => exact ⟨fun x hx => by simp at hx, rfl⟩
      | cons p l => simp at hl
    | cons m en ih =>
      intro l hw hl
      cases l with
      | nil => simp at hl
      | cons p l =>
        rw [List.map_cons, List.map_cons] at hl
        injection hl with h1 h2
        simp only [kv, toV, Prod.mk.injEq] at h1
        obtain ⟨i1, i2⟩ := ih l (fun p hp => hw p (List.mem_cons_of_mem _ hp)) h2
        have hp := hw p (List.mem_cons_self ..)
        have hm : WideElems.rd P kt intR m = some (toD p) := by
          obtain ⟨key, val, born⟩ := m
          obtain ⟨rfl, rfl⟩ := h1
          exact WideElems.rd_mk (R := intR) (yv := (.lit (.int .i64 p.2), [])) (keyOf_int_mk hkt hp.1) (by simp [intR, hp.2])
        refine ⟨fun x hx => ?_, ?_⟩
        · rcases List.mem_cons.1 hx with rfl | hx
          · exact ⟨_, hm⟩
          · exact i1 x hx
        · rw [List.map_cons, List.map_cons, i2, WideElems.rg_of hm]
  obtain ⟨r1, r2⟩ := hrd en.toList l hwf hkv
  exact ⟨en, cl, hheap, ⟨by rw [hlen]; exact hsz, hS, r1⟩, Nat.le_of_eq hlen, by unfold dOf; rw [r2]⟩

theorem owns_inv {kt b n : Nat} {D : DataW Unit} (hkt : P.underlying kt = some (.int .i64)) (H : w.ownsMap P kt intR b n D) :
    ∃ en cl l, w.heap[b]? = some (.map en cl) ∧ MapKept.Stamped en cl ∧ en.toList.map kv = l.map toV ∧ D = dOf l ∧ Apart l := by
  obtain ⟨en, cl, h1, F, h2, h3⟩ := H
  have hrd : ∀ (en : List MapEntry), (∀ x ∈ en, ∃ y, WideElems.rd P kt intR x = some y) → ∃ l : List (Int × Int), en.map kv = l.map toV ∧ en.map (WideElems.rg P kt intR) = l.map toD := by
    intro en
    induction en with
    | nil => intro _; exact ⟨[], rfl, rfl⟩
    | cons m en ih =>
      intro hx
      obtain ⟨l, i1, i2⟩ := ih fun x hm => hx x (List.mem_cons_of_mem _ hm)
      obtain ⟨y, hy⟩ := hx m (List.mem_cons_self ..)
      have hg := WideElems.rg_of hy
      unfold WideElems.rd at hy
      obtain ⟨key, hk, hy⟩ := Option.bind_eq_some_iff.1 hy
      obtain ⟨z, hz, rfl⟩ := Option.map_eq_some_iff.1 hy
      obtain ⟨mk, mv, born⟩ := m
      dsimp only at hk hz hg
      have e1 : ∃ a, mk = .int .i64 a ∧ key = .int .i64 a := by
        simp only [keyOf, hkt, mapKey] at hk
        cases mk <;> simp [mapKey, hkt] at hk
        obtain ⟨⟨rfl, _⟩, rfl⟩ := hk
        exact ⟨_, rfl, rfl⟩
      obtain ⟨a, rfl, rfl⟩ := e1
      have e2 : ∃ c, mv = .int .i64 c ∧ z.1 = .lit (.int .i64 c) := by
        unfold intR at hz
        split at hz
        · split at hz
          · injection hz with hz; subst hz; exact ⟨_, rfl, rfl⟩
          · cases hz
        · cases hz
      obtain ⟨c, rfl, e2⟩ := e2
      refine ⟨(a, c) :: l, ?_, ?_⟩
      · rw [List.map_cons, List.map_cons, i1]; rfl
      · rw [List.map_cons, List.map_cons, i2, hg, e2]; rfl
  obtain ⟨l, l1, l2⟩ := hrd en.toList F.reads
  refine ⟨en, cl, l, h1, F.stamped, l1, by rw [h3, l2]; rfl, ?_⟩
  have := F.stamped.2.2
  unfold List.Nodup at this
  rw [List.pairwise_map] at this
  have hk : en.toList.map (·.key) = l.map fun p => .int .i64 p.1 := by
    have := congrArg (List.map Prod.fst) l1
    simpa [List.map_map, Function.comp_def, kv, toV] using this
  have hn := F.stamped.2.2
  rw [hk] at hn
  unfold List.Nodup at hn
  rw [List.pairwise_map] at hn
  exact hn.imp fun {a b} h e => h (by rw [e])

theorem dOf_perm {l l' : List (Int × Int)} (e : dOf l = dOf l') : l.Perm l' := by
  unfold dOf at e
  injection e with e
  exact toD_perm (((WideShapes.sorted_perm _).symm.trans (List.Perm.of_eq e)).trans (WideShapes.sorted_perm _))

theorem fold_put : ∀ (B : List (Lit × DataW Unit)) (A : List (Lit × DataW Unit)), B.Pairwise (fun a b => a.1 ≠ b.1) → (∀ p ∈ B, WideAt.IsKeyLit p.1) →
    ∃ E, B.foldl (fun D p => D.put p.1 p.2) (DataW.map A) = .map E ∧ E.Perm ((A.filter fun p => !(B.any fun q => p.1.sameKey q.1)) ++ B)
  | [], A, _, _ => ⟨A, rfl, by rw [List.append_nil]; exact List.Perm.of_eq (List.filter_eq_self.2 fun p _ => rfl).symm⟩
  | a :: r, A, hp, hk => by
    obtain ⟨h1, h2⟩ := List.pairwise_cons.1 hp
    obtain ⟨E, e1, e2⟩ := fold_put r (DataW.insert a (A.filter fun p => !p.1.sameKey a.1)) h2 fun p hp => hk p (List.mem_cons_of_mem _ hp)
    refine ⟨E, e1, e2.trans ?_⟩
    have ha : r.any (fun q => a.1.sameKey q.1) = false := List.any_eq_false.2 fun q hq => by rw [sameKey_ne (h1 q hq)]; simp
    have p1 := (WideShapes.insert_perm a (A.filter fun p => !p.1.sameKey a.1)).filter fun p => !(r.any fun q => p.1.sameKey q.1)
    rw [List.filter_cons, if_pos (by simp [ha]), List.filter_filter] at p1
    have e3 : (A.filter fun p => !(List.any r fun q => p.1.sameKey q.1) && !p.1.sameKey a.1) = A.filter fun p => !((a :: r).any fun q => p.1.sameKey q.1) := List.filter_congr fun p _ => by
      simp [Bool.and_comm]
    rw [e3] at p1
    refine (p1.append_right r).trans ?_
    rw [List.cons_append]
    exact List.perm_middle.symm

theorem merge_perm {d s l : List (Int × Int)} (hs : Apart s) (e : dOf l = Lib.mergeD (dOf d) (dOf s)) : l.Perm (mergeE d s) := by
  have pA := WideShapes.sorted_perm (d.map toD)
  have pB := WideShapes.sorted_perm (s.map toD)
  have hap : ((s.map toD).foldr DataW.insert []).Pairwise (fun a b => a.1 ≠ b.1) := by
    refine (pB.pairwise_iff fun h => Ne.symm h).2 ?_
    rw [List.pairwise_map]
    exact hs.imp fun {a b} h e => h (by simpa [toD] using e)
  have hk : ∀ p ∈ (s.map toD).foldr DataW.insert [], WideAt.IsKeyLit p.1 := fun p hp => by
    obtain ⟨q, _, rfl⟩ := List.mem_map.1 (pB.mem_iff.1 hp)
    trivial
  obtain ⟨E, e1, e2⟩ := fold_put _ ((d.map toD).foldr DataW.insert []) hap hk
  have e' : dOf l = .map E := e.trans e1
  unfold dOf at e'
  injection e' with e'
  refine toD_perm (((WideShapes.sorted_perm _).symm.trans ((List.Perm.of_eq e').trans e2)).trans ?_)
  have p1 := pA.filter fun p => !(((s.map toD).foldr DataW.insert []).any fun q => p.1.sameKey q.1)
  refine (p1.append pB).trans ?_
  unfold mergeE
  rw [List.map_append, List.filter_map]
  refine List.Perm.append_right _ (List.Perm.of_eq (congrArg _ (List.filter_congr fun p _ => ?_)))
  simp only [Function.comp]
  congr 1
  rw [Bool.eq_iff_iff, List.any_eq_true, List.any_eq_true]
  constructor
  · rintro ⟨q, hq, he⟩
    obtain ⟨q', hq', rfl⟩ := List.mem_map.1 (pB.mem_iff.1 hq)
    refine ⟨q', hq', ?_⟩
    have := WideAt.sameKey_eq he
    simp only [toD, Lit.int.injEq, true_and] at this
    simp [this]
  · rintro ⟨q, hq, he⟩
    refine ⟨toD q, pB.mem_iff.2 (List.mem_map.2 ⟨q, hq, rfl⟩), ?_⟩
    have : q.1 = p.1 := by simpa using he
    simp [toD, Lit.sameKey, this]

theorem strike_perm {d l : List (Int × Int)} {pd : Lit → DataW Unit → Bool} {f : Int × Int → Bool} (hf : ∀ p ∈ d, pd (.int .i64 p.1) (.lit (.int .i64 p.2)) = !f p) (e : dOf l = Lib.deleteFuncD pd (dOf d)) : l.Perm (d.filter f) := by
  have pA := WideShapes.sorted_perm (d.map toD)
  unfold dOf Lib.deleteFuncD at e
  injection e with e
  refine toD_perm (((WideShapes.sorted_perm _).symm.trans (List.Perm.of_eq e)).trans ((pA.filter _).trans (List.Perm.of_eq ?_)))
  rw [List.filter_map]
  refine congrArg _ (List.filter_congr fun p hp => ?_)
  simp [toD, hf p hp]

theorem merge_apart {d s : List (Int × Int)} (hd : Apart d) (hs : Apart s) : Apart (mergeE d s) := by
  refine List.pairwise_append.2 ⟨hd.sublist List.filter_sublist, hs, fun a ha b hb e => ?_⟩
  have := (List.mem_filter.1 ha).2
  simp only [Bool.not_eq_true', List.any_eq_false, beq_iff_eq] at this
  exact this b hb e.symm

theorem Apart.perm {l l' : List (Int × Int)} (p : l.Perm l') (h : Apart l) : Apart l' := (p.pairwise_iff fun h => Ne.symm h).1 h

/-- A map is another one, in a world that has grown. -/
theorem map_grown (R : Rel s h w) {w' : World} {o b : Nat} {es es' es0' : List (AV × AV)} {en en' : Array MapEntry} {cl cl' : Nat} (hb : s.μ o = some b) (ho : h[o]? = some (.map es)) (hheap : w.heap[b]? = some (.map en cl)) (hg : w.grownBy w' (some b)) (hat : w'.heap[b]? = some (.map en' cl'))
    (hP : es0'.Perm es' ∧ KeysOk es') (hE : ∀ s1 h1 w1, Ents s1 h1 w1 es0' en'.toList) (hS : MapKept.Stamped en' cl') :
    Ext s h w s (h.set o (.map es')) w' ∧ Rel s (h.set o (.map es')) w' := by
  obtain ⟨g1, g2, g3, g4, g5⟩ := hg
  have hlt := (List.getElem?_eq_some_iff.1 ho).1
  have hbl := (Array.getElem?_eq_some_iff.1 hheap).1
  have hfar : ∀ k, k < w.heap.size → k ≠ b → w'.heap[k]? = w.heap[k]? := fun k hk hne => g5 k hk (fun e => hne (Option.some.inj e))
  have E : Ext s h w s (h.set o (.map es')) w' := by
    refine ⟨⟨g4, fun k hk hn => hfar k hk (fun e => hn o (e ▸ hb)), fun k x hx => ?_, fun _ h => h, fun k g0 hg0 => ?_, fun k g0 _ _ => ⟨fun _ h => h, ?_⟩, fun k hk _ => ?_, fun k c hc => .inl ⟨k, hc⟩, g1, g2, g3, fun k hk => ?_, rfl⟩, fun k c _ hc => ⟨c, hc⟩, fun k _ hn => ?_, fun _ _ h => .inl h⟩
    · by_cases e : k = b
      · subst e
        simp [World.shape?, hheap] at hx
      · rw [shape_of (hfar k (shape_lt hx) e)]; exact hx
    · rw [genOf_set (g := g0)]
      by_cases e : o = k
      · subst e
        have : g0 = 0 := by simp [genOf, ho] at hg0; omega
        exact ⟨0, by simp [hlt], by omega⟩
      · exact ⟨g0, by simp [e, hg0], Nat.le_refl _⟩
    · by_cases e : o = k
      · subst e
        unfold lenOf
        rw [ho, List.getElem?_set_self hlt]
      · exact lenOf_set e
    · by_cases e : o = k
      · subst e
        unfold isMap
        rw [List.getElem?_set_self hlt]
      · rw [isMap_set e]; exact hk
    · by_cases e : o = k
      · subst e; simp [isLoop, ho] at hk
      · rw [isLoop_set e]; exact hk
    · have : o ≠ k := by rintro rfl; rw [hb] at hn; cases hn
      exact List.getElem?_set_ne this
  refine ⟨E, R.inj, fun k c hk => ?_, R.apart, fun c hI => Nat.lt_of_lt_of_le (R.imm c hI) g4⟩
  by_cases e : k = o
  · subst e
    rw [hb] at hk; injection hk with hk; subst hk
    refine ⟨.map es', by rw [List.getElem?_set_self hlt], es0', hP, en', cl', hat, by simpa using (hE s h w').1, hS, fun i x hi => ?_⟩
    obtain ⟨m, hm, h1, h2⟩ := (hE s (h.set k (.map es')) w').2 i x hi
    exact ⟨m, by simpa using hm, h1, h2⟩
  · obtain ⟨x, hx, hr⟩ := R.obj k c hk
    have hne : c ≠ b := fun e' => e (R.inj k o c hk (e' ▸ hb))
    exact ⟨x, by rw [List.getElem?_set_ne (Ne.symm e)]; exact hx, hr.ext R.apart E (hfar c (R.lt hk) hne)⟩


def CloneSays (P : Program) (f : Nat) : Prop := ∀ (w : World) (b : Nat) (en : Array MapEntry) (cl : Nat), w.heap[b]? = some (.map en cl) → Calls P f #[.map (some b)] w fun e w' => e = .returned (.map (some w.heap.size)) ∧ w' = w.alloc (.map en cl)

theorem cloneMap_ok {f : Nat} (hS : CloneSays P f) {args : List AV} {res : CRes} {h' : Heap} (hp : cloneMap args h = some (res, h')) {vs : List Value} (R : Rel s h w) (H : VRs s h w args vs) : CallOk P f vs s h w res h' := by
  unfold cloneMap at hp
  split at hp <;> first | cases hp | skip
  rename_i o
  obtain ⟨es, hes, hp⟩ := Option.bind_eq_some_iff.1 hp
  obtain ⟨v0, hvs0⟩ := List.length_eq_one_iff.1 (show vs.length = 1 by rw [← H.1]; rfl)
  subst hvs0
  obtain ⟨v1, hv1, hvr⟩ := H.2 0 _ rfl
  have hv1 : v0 = v1 := by simpa using hv1
  subst hv1
  obtain ⟨b, en, cl, es0, rfl, hb, hheap, hp0, hE, hSt⟩ := map_obj R hes hvr
  obtain ⟨es', hes', rfl, rfl⟩ : ∃ es' : List (AV × AV), (es.Perm es') ∧ res = .ret (.map h.length) ∧ h' = h ++ [.map es'] := by
    split at hp <;> simp only [Option.some.injEq, Prod.mk.injEq] at hp <;> obtain ⟨rfl, rfl⟩ := hp
    · rename_i l hl
      obtain ⟨rfl, _⟩ := intEs_eq hl
      exact ⟨_, ((sortE_perm l).map _).symm, rfl, rfl⟩
    · exact ⟨_, List.Perm.refl _, rfl, rfl⟩
  refine Calls.mono (hS w b en cl hheap) fun e w' he => ?_
  obtain ⟨rfl, rfl⟩ := he
  have E := Ext.new R (.map en cl) (.map es')
  have R2 := Rel.new R (.map en cl) (.map es') ⟨es0, ⟨hp0.1.trans hes', hp0.2.perm hes'⟩, en, cl, heap_alloc_at w _, by simpa using hE.1, hSt, fun i e hi => by
    obtain ⟨m, hm, h1, h2⟩ := hE.2 i e hi
    exact ⟨m, by simpa using hm, h1.ext R.apart E, h2.ext R.apart E⟩⟩
  refine ⟨_, E, R2, .map _ w.heap.size ?_ (by simp [Sim.add])⟩
  unfold isMap
  rw [List.getElem?_append_right (Nat.le_refl _)]
  simp

def CopySays (P : Program) (f kt : Nat) : Prop := ∀ (w : World) (bd bs nd ns : Nat) (Dd Ds : DataW Unit), w.ownsMap P kt intR bd nd Dd → w.ownsMap P kt intR bs ns Ds → bd ≠ bs → nd + Maps.size Ds ≤ maxLen →
  Calls P f #[.map (some bd), .map (some bs)] w fun e w' => e = .returned (.tuple #[]) ∧ w'.ownsMap P kt intR bd (nd + Maps.size Ds) (Lib.mergeD Dd Ds) ∧ w.grownBy w' (some bd)

theorem two_vals {x y : AV} {vs : List Value} (H : VRs s h w [x, y] vs) : ∃ u v, vs = [u, v] ∧ VR s h w x u ∧ VR s h w y v := by
  have hl : vs.length = 2 := by rw [← H.1]; rfl
  match vs, hl, H with
  | [u, v], _, H =>
    obtain ⟨u', h1, h2⟩ := H.2 0 _ rfl
    obtain ⟨v', h3, h4⟩ := H.2 1 _ rfl
    simp at h1 h3; subst h1 h3
    exact ⟨_, _, rfl, h2, h4⟩

/-- A map of ints: how it reads. -/
theorem map_ints (R : Rel s h w) {kt : Nat} (hkt : P.underlying kt = some (.int .i64)) {o : Nat} {es : List (AV × AV)} {l : List (Int × Int)} (ho : h.mapAt o = some es) (hl : intEs es = some l) (hsz : l.length ≤ maxLen) {u : Value} (hv : VR s h w (.map o) u) :
    ∃ b en cl l0, u = .map (some b) ∧ s.μ o = some b ∧ w.heap[b]? = some (.map en cl) ∧ w.ownsMap P kt intR b l0.length (dOf l0) ∧ l0.Perm l ∧ Apart l ∧ Wf l ∧ en.toList.map kv = l0.map toV ∧ MapKept.Stamped en cl := by
  obtain ⟨b, en, cl, es0, rfl, hb, hheap, hp0, hE, hSt⟩ := map_obj R ho hv
  obtain ⟨rfl, hwf⟩ := intEs_eq hl
  obtain ⟨l0, rfl, p0⟩ := perm_ints hp0.1
  have hkv := ents_kv.1 hE
  have hw0 : Wf l0 := fun p hp => hwf p (p0.mem_iff.1 hp)
  exact ⟨b, en, cl, l0, rfl, hb, hheap, owns_of hkt hheap hSt hkv hw0 (by rw [p0.length_eq]; exact hsz), p0, keysOk_ints.1 hp0.2, hwf, hkv, hSt⟩

theorem size_dOf (l : List (Int × Int)) : Maps.size (dOf l) = l.length := by
  show ((l.map toD).foldr DataW.insert []).length = l.length
  rw [(WideShapes.sorted_perm _).length_eq]
  simp

theorem mem_of_perm {l l' : List (Int × Int)} (p : l.Perm l') (f : Int × Int → Bool) : l.any f = l'.any f := by
  rw [Bool.eq_iff_iff, List.any_eq_true, List.any_eq_true]
  constructor <;> rintro ⟨x, hx, hf⟩
  · exact ⟨x, p.mem_iff.1 hx, hf⟩
  · exact ⟨x, p.mem_iff.2 hx, hf⟩

theorem merge_perms {d d' s s' : List (Int × Int)} (pd : d.Perm d') (ps : s.Perm s') : (mergeE d s).Perm (mergeE d' s') := by
  unfold mergeE
  refine List.Perm.append ((pd.filter _).trans (List.Perm.of_eq (List.filter_congr fun p _ => ?_))) ps
  rw [mem_of_perm ps]

theorem copyMap_ok {f kt : Nat} (hS : CopySays P f kt) (hkt : P.underlying kt = some (.int .i64)) {args : List AV} {res : CRes} {h' : Heap} (hp : copyMap args h = some (res, h')) {vs : List Value} (R : Rel s h w) (H : VRs s h w args vs) : CallOk P f vs s h w res h' := by
  unfold copyMap at hp
  split at hp <;> first | cases hp | skip
  rename_i o o'
  split at hp <;> first | cases hp | skip
  rename_i hne
  obtain ⟨ds, hds, hp⟩ := Option.bind_eq_some_iff.1 hp
  obtain ⟨d, hd, hp⟩ := Option.bind_eq_some_iff.1 hp
  obtain ⟨ss, hss, hp⟩ := Option.bind_eq_some_iff.1 hp
  obtain ⟨sl, hsl, hp⟩ := Option.bind_eq_some_iff.1 hp
  split at hp <;> first | cases hp | skip
  rename_i hlen
  obtain ⟨u, v, rfl, hu, hv⟩ := two_vals H
  obtain ⟨bd, en, cl, d0, rfl, hb, hheap, hown, p0, hap, hwf, hkv, hSt⟩ := map_ints R hkt hds hd (by simp only [maxLen]; omega) hu
  obtain ⟨bs, en2, cl2, s0, rfl, hb2, hheap2, hown2, p02, hap2, hwf2, hkv2, hSt2⟩ := map_ints R hkt hss hsl (by simp only [maxLen]; omega) hv
  have hbne : bd ≠ bs := fun e => hne (R.inj o o' bd hb (e ▸ hb2))
  refine Calls.mono (hS w bd bs _ _ _ _ hown hown2 hbne (by rw [size_dOf, p0.length_eq, p02.length_eq]; simp only [maxLen]; omega)) fun e w' he => ?_
  obtain ⟨rfl, k1, k2⟩ := he
  obtain ⟨en', cl', l', q1, q2, q3, q4, q5⟩ := owns_inv hkt k1
  have pl : l'.Perm (mergeE d sl) := (merge_perm (hap2.perm p02.symm) q4.symm).trans (merge_perms p0 p02)
  have pe : (ofInts l').Perm (ofInts (sortE (mergeE d sl))) := (pl.trans (sortE_perm _).symm).map _
  obtain ⟨E, R'⟩ := map_grown R hb (mapAt_some hds) hheap k2 q1 ⟨pe, (keysOk_ints.2 q5).perm pe⟩ (fun s1 h1 w1 => ents_kv.2 q3) q2
  exact ⟨s, E, R', .tup [] #[] rfl fun i c hi => by simp at hi⟩

/-- What a range over such a map asks of each key: is another map's value zero? -/
def StrikeSays (P : Program) (f clo kt : Nat) : Prop := ∀ (w : World) (b n nt bm bt : Nat) (D Dt : DataW Unit), w.ownsMap P kt intR b n D → b ≠ bm → b ≠ bt → w.cell? ⟨bm, 0, none⟩ = some (.map (some bt)) → w.ownsMap P kt intR bt nt Dt →
  Calls P f #[.map (some b), .func (.func clo) #[] #[.pointer (some ⟨bm, 0, none⟩)]] w fun e w' => e = .returned (.tuple #[]) ∧ w'.ownsMap P kt intR b n (Lib.deleteFuncD (fun k _ => match Dt.atKey k (.lit (.int .i64 0)) with | .lit (.int _ z) => z == 0 | _ => false) D) ∧ w.grownBy w' (some b)

theorem at_dOf {t : List (Int × Int)} (ht : Apart t) (n : Int) : (match (dOf t).atKey (.int .i64 n) (.lit (.int .i64 0)) with | .lit (.int _ z) => z == 0 | _ => false) = !bearsE t n := by
  have pT := WideShapes.sorted_perm (t.map toD)
  unfold dOf DataW.atKey bearsE
  dsimp only
  cases hf : List.find? (fun p => p.1.sameKey (Lit.int .i64 n)) ((t.map toD).foldr DataW.insert []) with
  | none =>
    have hn : ∀ q ∈ t, q.1 ≠ n := fun q hq e => by
      have := List.find?_eq_none.1 hf (toD q) (pT.mem_iff.2 (List.mem_map.2 ⟨q, hq, rfl⟩))
      simp [toD, Lit.sameKey, e] at this
    have : t.any (fun q => q.1 == n && !(q.2 == 0)) = false := List.any_eq_false.2 fun q hq => by simp [hn q hq]
    simp [this]
  | some p =>
    obtain ⟨q, hq, rfl⟩ := List.mem_map.1 (pT.mem_iff.1 (List.mem_of_find?_eq_some hf))
    have hk := List.find?_some hf
    have hqn : q.1 = n := by simpa [toD, Lit.sameKey] using hk
    subst hqn
    simp only [toD]
    rw [Bool.eq_iff_iff]
    simp only [Bool.not_eq_true', beq_iff_eq, List.any_eq_false, Bool.and_eq_true, bne_iff_ne, ne_eq, not_and, Bool.not_eq_true, Bool.not_eq_false']
    constructor
    · intro hz x hx hxq
      have : x = q := by
        by_cases e : x = q
        · exact e
        · exfalso
          obtain ⟨l1, l2, rfl⟩ := List.append_of_mem hq
          have H' := List.pairwise_append.1 ht
          rcases List.mem_append.1 hx with h1 | h1
          · exact H'.2.2 x h1 q (List.mem_cons_self ..) hxq
          · rcases List.mem_cons.1 h1 with h1 | h1
            · exact e h1
            · exact (List.pairwise_cons.1 H'.2.1).1 x h1 hxq.symm
      subst this
      simp [hz]
    · intro hz
      simpa using hz q hq rfl

theorem strikeMap_ok {f clo kt : Nat} (hS : StrikeSays P f clo kt) (hkt : P.underlying kt = some (.int .i64)) {args : List AV} {res : CRes} {h' : Heap} (hp : strikeMap clo args h = some (res, h')) {vs : List Value} (R : Rel s h w) (H : VRs s h w args vs) : CallOk P f vs s h w res h' := by
  unfold strikeMap at hp
  split at hp <;> first | cases hp | skip
  rename_i o g p gen
  split at hp <;> first | cases hp | skip
  rename_i hg
  subst hg
  obtain ⟨cs, hcs, hp⟩ := Option.bind_eq_some_iff.1 hp
  split at hp <;> first | cases hp | skip
  rename_i t cr
  split at hp <;> first | cases hp | skip
  rename_i hne
  obtain ⟨ds, hds, hp⟩ := Option.bind_eq_some_iff.1 hp
  obtain ⟨d, hd, hp⟩ := Option.bind_eq_some_iff.1 hp
  obtain ⟨ss, hss, hp⟩ := Option.bind_eq_some_iff.1 hp
  obtain ⟨sl, hsl, hp⟩ := Option.bind_eq_some_iff.1 hp
  split at hp <;> first | cases hp | skip
  rename_i hlen
  obtain ⟨u, v, rfl, hu, hv⟩ := two_vals H
  cases hv with
  | clo _ _ us hl hr =>
  have hul : us.size = 1 := by simpa using hl.symm
  have h0 := hr 0 _ rfl
  have hus : us = #[us.getD 0 undef] := by
    apply Array.ext
    · simp [hul]
    · intro i h1 h2
      have : i = 0 := by omega
      subst this
      simp [h1]
  generalize us.getD 0 undef = pv at h0 hus
  subst hus
  have hgo := (genOf_obj hcs)
  cases h0 with
  | ptrOld _ _ _ g' a k1 k2 => have := hgo.1; rw [this] at k1; injection k1; omega
  | ptr _ _ _ bm k1 k2 =>
  obtain ⟨x, hx, hxr⟩ := R.obj p bm k2
  rw [hgo.2.1] at hx
  injection hx with hx; subst hx
  obtain ⟨bc, el, q1, q2, q3⟩ := hxr
  obtain ⟨mv, hmv, hmr⟩ := q3 0 _ rfl
  obtain ⟨bd, en, cl, d0, rfl, hb, hheap, hown, p0, hap, hwf, hkv, hSt⟩ := map_ints R hkt hds hd (by simp only [maxLen]; omega) hu
  obtain ⟨bt, en2, cl2, s0, rfl, hb2, hheap2, hown2, p02, hap2, hwf2, hkv2, hSt2⟩ := map_ints R hkt hss hsl (by simp only [maxLen]; omega) hmr
  have hcell : w.cell? ⟨bm, 0, none⟩ = some (.map (some bt)) := by
    unfold World.cell?
    rw [q1]
    simpa using hmv
  have hbt : bd ≠ bt := fun e => hne (R.inj o t bd hb (e ▸ hb2))
  have hbm : bd ≠ bm := fun e => by rw [← e, hheap] at q1; cases q1
  refine Calls.mono (hS w bd _ _ bm bt _ _ hown hbm hbt hcell hown2) fun e w' he => ?_
  obtain ⟨rfl, j1, j2⟩ := he
  obtain ⟨en', cl', l', m1, m2, m3, m4, m5⟩ := owns_inv hkt j1
  have pl : l'.Perm (d.filter fun q => bearsE sl q.1) := by
    refine (strike_perm (f := fun q => bearsE s0 q.1) (fun q _ => at_dOf (hap2.perm p02.symm) q.1) m4.symm).trans ((p0.filter _).trans (List.Perm.of_eq (List.filter_congr fun q _ => ?_)))
    unfold bearsE
    exact mem_of_perm p02 _
  have pe : (ofInts l').Perm (ofInts (d.filter fun q => bearsE sl q.1)) := pl.map _
  obtain ⟨E, R'⟩ := map_grown R hb (mapAt_some hds) hheap j2 m1 ⟨pe, (keysOk_ints.2 m5).perm pe⟩ (fun s1 h1 w1 => ents_kv.2 m3) m2
  exact ⟨s, E, R', .tup [] #[] rfl fun i c hi => by simp at hi⟩
end
end Go.Rv

/-
  'slices.Sort' at []string, as one step of the interpreter: the slice's object holds the texts, sorted.
-/
set_option linter.unusedSimpArgs false
set_option linter.unusedVariables false
namespace Go.Rv

def strsOf : List AV → Option (List (List UInt8))
  | [] => some []
  | .str s :: r => (strsOf r).map (s :: ·)
  | _ => none
theorem strsOf_map : ∀ l : List (List UInt8), strsOf (l.map AV.str) = some l
  | [] => rfl
  | a :: r => by simp [strsOf, strsOf_map r]
theorem strsOf_eq : ∀ {cs : List AV} {l : List (List UInt8)}, strsOf cs = some l → cs = l.map AV.str
  | [], l, h => by simp only [strsOf, Option.some.injEq] at h; subst h; rfl
  | c :: r, l, h => by
    cases c <;> simp only [strsOf, reduceCtorEq] at h
    obtain ⟨l', hl, rfl⟩ := Option.map_eq_some_iff.1 h
    rw [strsOf_eq hl]; rfl

def insS (x : List UInt8) : List (List UInt8) → List (List UInt8)
  | [] => [x]
  | y :: r => match decide (x ≤ y) with
    | true => x :: y :: r
    | false => y :: insS x r
def sortedS : List (List UInt8) → List (List UInt8)
  | [] => []
  | x :: r => insS x (sortedS r)
theorem insS_perm (x : List UInt8) : ∀ l, (insS x l).Perm (x :: l)
  | [] => List.Perm.refl _
  | y :: r => by
    simp only [insS]
    cases decide (x ≤ y) with
    | true => exact List.Perm.refl _
    | false => exact ((insS_perm x r).cons y).trans (List.Perm.swap x y r)
theorem sortedS_perm : ∀ l, (sortedS l).Perm l
  | [] => List.Perm.refl _
  | x :: r => (insS_perm x (sortedS r)).trans ((sortedS_perm r).cons x)
theorem insS_sorted (x : List UInt8) : ∀ l, l.Pairwise (fun a b : List UInt8 => a ≤ b) → (insS x l).Pairwise (fun a b : List UInt8 => a ≤ b)
  | [], _ => by simp [insS]
  | y :: r, h => by
    have h1 := List.pairwise_cons.1 h
    simp only [insS]
    cases hd : decide (x ≤ y) with
    | true =>
      have hxy : x ≤ y := by simpa using hd
      refine List.pairwise_cons.2 ⟨fun a ha => ?_, h⟩
      rcases List.mem_cons.1 ha with rfl | ha
      · exact hxy
      · exact List.le_trans hxy (h1.1 a ha)
    | false =>
      have hxy : ¬ x ≤ y := by simpa using hd
      have hyx : y ≤ x := (List.le_total x y).resolve_left hxy
      refine List.pairwise_cons.2 ⟨fun a ha => ?_, insS_sorted x r h1.2⟩
      rcases List.mem_cons.1 ((insS_perm x r).mem_iff.1 ha) with rfl | ha
      · exact hyx
      · exact h1.1 a ha
theorem sortedS_sorted : ∀ l, (sortedS l).Pairwise (fun a b : List UInt8 => a ≤ b)
  | [] => by simp [sortedS]
  | x :: r => insS_sorted x _ (sortedS_sorted r)
theorem sortedS_eq (l : List (List UInt8)) : l.mergeSort (fun x y => decide (x ≤ y)) = sortedS l := by
  have h1 : (l.mergeSort (fun x y => decide (x ≤ y))).Pairwise (fun a b : List UInt8 => a ≤ b) := by
    refine (List.pairwise_mergeSort (le := fun x y : List UInt8 => decide (x ≤ y)) (fun a b c h1 h2 => ?_) (fun a b => ?_) l).imp fun h => by simpa using h
    · simp only [decide_eq_true_eq] at *; exact List.le_trans h1 h2
    · have := List.le_total a b
      simpa [Bool.or_eq_true] using this
  exact List.Perm.eq_of_pairwise (le := fun a b : List UInt8 => a ≤ b) (fun a b _ _ x y => List.le_antisymm x y) h1 (sortedS_sorted l) ((List.mergeSort_perm l _).trans (sortedS_perm l).symm)

/-- slices.Sort of a slice of texts that fills its object, or of none. -/
def sortStr (args : List AV) (h : Heap) : Option (CRes × Heap) :=
  match args with
  | [.lst [] _ _] => some (.ret (.tup []), h)
  | [.msl o 0 len 1 g _] => (h.obj o g).bind fun cs => if cs.length = len ∧ len ≤ 1000000000 then (strsOf cs).map fun ss => (.ret (.tup []), h.set o (.cells ((sortedS ss).map AV.str) g)) else none
  | _ => none
end Go.Rv

/-
  'slices.Sort' at []string, as one step of the interpreter: what its model's calls come to.
-/
set_option linter.unusedSimpArgs false
set_option linter.unusedVariables false
namespace Go.Rv
open Go.Sort Go.RowKit Go.Proofs

/-- What the kit's contract says of slices.Sort at []string. -/
def StrSortSays (P : Program) (f : Nat) : Prop :=
  (∀ (blk off cap : Nat) (ss : List (List UInt8)) (w : World), Holds encStr w blk off ss.toArray → blk < w.heap.size → ss.length < 4611686018427387904 →
    Calls P f #[.slice (some ⟨blk, off, none⟩) ss.length cap] w fun e w' => e = .returned (.tuple #[]) ∧ ∃ n os, w' = grow (putRow encStr (Sort.ahead w n) blk off (ss.mergeSort fun x y => decide (x ≤ y)).toArray) os) ∧
  ∀ (p : Option Addr) (cap : Nat) (w : World), Calls P f #[.slice p 0 cap] w fun e w' => e = .returned (.tuple #[]) ∧ w' = w

section
variable {P : Program} {s : Sim} {h : Heap} {w : World}
theorem sortStr_ok {f : Nat} (hS : StrSortSays P f) {args : List AV} {res : CRes} {h' : Heap} (hp : sortStr args h = some (res, h')) {vs : List Value} (R : Rel s h w) (H : VRs s h w args vs) : CallOk P f vs s h w res h' := by
  unfold sortStr at hp
  split at hp <;> first | cases hp | skip
  · rename_i z r
    obtain ⟨v0, hvs0⟩ := List.length_eq_one_iff.1 (show vs.length = 1 by rw [← H.1]; rfl)
    subst hvs0
    obtain ⟨v1, hv1, hvr⟩ := H.2 0 _ rfl
    have hv1 : v0 = v1 := by simpa using hv1
    subst hv1
    have key : ∀ p cap, v0 = .slice p 0 cap → CallOk P f [v0] s h w (.ret (.tup [])) h := by
      rintro p cap rfl
      refine Calls.mono (hS.2 p cap w) fun e w' he => ?_
      obtain ⟨rfl, rfl⟩ := he
      exact ⟨s, Ext.refl _ _ _, R, .tup [] #[] rfl fun i c hi => by simp at hi⟩
    cases hvr with
    | lstNil => exact key _ _ rfl
    | lstEmpty => exact key _ _ rfl
    | lst => exact key _ _ rfl
  · rename_i o len g cap
    obtain ⟨cs, hcs, hp⟩ := Option.bind_eq_some_iff.1 hp
    split at hp <;> first | cases hp | skip
    rename_i hlen
    obtain ⟨hlen, hmax⟩ := hlen
    obtain ⟨ss, hss, hp⟩ := Option.map_eq_some_iff.1 hp
    simp only [Prod.mk.injEq] at hp
    obtain ⟨rfl, rfl⟩ := hp
    have hcsm := strsOf_eq hss
    subst hcsm
    simp only [List.length_map] at hlen
    have hsl : (sortedS ss).length = ss.length := (sortedS_perm ss).length_eq
    obtain ⟨v0, hvs0⟩ := List.length_eq_one_iff.1 (show vs.length = 1 by rw [← H.1]; rfl)
    subst hvs0
    obtain ⟨v1, hv1, hvr⟩ := H.2 0 _ rfl
    have hv1 : v0 = v1 := by simpa using hv1
    subst hv1
    have hgo := genOf_obj hcs
    cases hvr with
    | mslOld _ _ _ _ _ _ g' a n c k1 k2 => have := hgo.1; rw [this] at k1; injection k1; omega
    | msl _ _ _ _ _ _ b c el n off' hoff hg hb hle hcap hnone hsh hn =>
      by_cases h0 : ss.length = 0
      · have hs0 : ss = [] := List.length_eq_zero_iff.1 h0
        subst hs0
        simp only [List.length_nil] at hlen
        subst hlen
        have hset : h.set o (.cells ((sortedS []).map AV.str) g) = h := by
          have hx := hgo.2.1
          simp only [List.map_nil] at hx
          apply List.ext_getElem?
          intro i
          by_cases hi : o = i
          · subst hi
            rw [List.getElem?_set_self (List.getElem?_eq_some_iff.1 hx).1, hx]
            simp [sortedS]
          · rw [List.getElem?_set_ne hi]
        rw [hset]
        refine Calls.mono (hS.2 _ _ w) fun e w' he => ?_
        obtain ⟨rfl, rfl⟩ := he
        exact ⟨s, Ext.refl _ _ _, R, .tup [] #[] rfl fun i c hi => by simp at hi⟩
      · have hoff0 : off' = 0 := by rcases hoff with h1 | h1 <;> omega
        subst hoff0
        obtain ⟨x, hx, hr⟩ := R.obj o b hb
        have hobj := hgo.2.1
        rw [hobj] at hx
        injection hx with hx; subst hx
        obtain ⟨bc, el', hheap, hsz, hcell⟩ := hr
        simp only [List.length_map] at hsz
        have hbl : b < w.heap.size := R.lt hb
        have hcs' : ∀ j, j < ss.length → bc[j]? = some (encStr ss[j]!) := by
          intro j hj
          obtain ⟨v, hv, hvr⟩ := hcell j (.str ss[j]) (by simp [hj])
          cases hvr
          rw [hv, getElem!_pos ss j hj]
        have hH : Holds encStr w b 0 ss.toArray := by
          intro j hj
          simp only [List.size_toArray] at hj
          constructor
          · unfold World.cell?
            simp only [hheap, Option.isSome_none, Bool.false_eq_true, if_false, Nat.zero_add]
            rw [hcs' j hj]; simp
          · unfold World.frozen?
            simp only [hheap]
            simp
        have hlt62 : ss.length < 4611686018427387904 := by omega
        have hcall := hS.1 b 0 c ss w hH hbl hlt62
        rw [hlen] at hcall
        refine Calls.mono hcall fun e w' he => ?_
        obtain ⟨rfl, nn, os, rfl⟩ := he
        have hput : (grow (putRow encStr (Sort.ahead w nn) b 0 (ss.mergeSort fun x y => decide (x ≤ y)).toArray) os).heap[b]? = some (.cells (putCells encStr 0 (sortedS ss).toArray bc) el' (0, 0)) := by
          rw [heap_grow_old _ _ (by simpa [putRow, mapBlock, Sort.ahead] using hbl)]
          simp only [putRow, mapBlock, Sort.ahead, ← sortedS_eq, Array.getElem?_modify, if_true, hheap, Option.map_some, onCells]
        have hfar : ∀ k, k < w.heap.size → k ≠ b → (grow (putRow encStr (Sort.ahead w nn) b 0 (ss.mergeSort fun x y => decide (x ≤ y)).toArray) os).heap[k]? = w.heap[k]? := by
          intro k hk hne
          rw [heap_grow_old _ _ (by simpa [putRow, mapBlock, Sort.ahead] using hk)]
          simp only [putRow, mapBlock, Sort.ahead, Array.getElem?_modify, if_neg (Ne.symm hne)]
        have W : Wrote w (grow (putRow encStr (Sort.ahead w nn) b 0 (ss.mergeSort fun x y => decide (x ≤ y)).toArray) os) b :=
          { size := by simp [putRow, mapBlock, Sort.ahead]
            far := hfar
            shape := fun k x hx => by
              by_cases e : k = b
              · subst e
                unfold World.shape? at *
                rw [hput]
                rw [hheap] at hx
                simpa [putCells] using hx
              · rw [shape_of (hfar k (shape_lt hx) e)]; exact hx
            os := rfl
            tape := rfl
            output := rfl }
        have hs : s.add o b = s := by
          unfold Sim.add
          cases s with
          | mk μ I G =>
            congr 1
            funext k
            by_cases e : k = o
            · subst e; simp [show μ k = some b from hb]
            · simp [e]
        have key := write_cells R (b' := b) (g' := g) (cs' := (sortedS ss).map AV.str) hb hobj (Nat.le_refl _) (fun _ => by simp [hsl]) (.inl rfl) W hput (by simp [putCells, hsl]; omega) (fun i x hi => by
          rw [List.getElem?_map] at hi
          obtain ⟨t, ht, rfl⟩ := Option.map_eq_some_iff.1 hi
          have hil : i < (sortedS ss).length := (List.getElem?_eq_some_iff.1 ht).1
          have hib : i < bc.size := by omega
          refine ⟨encStr t, ?_, .str t⟩
          simp only [putCells, Array.getElem?_mapIdx]
          rw [Array.getElem?_eq_getElem hib]
          have hg : (sortedS ss)[i] = t := by
            have := (List.getElem?_eq_some_iff.1 ht).2; exact this
          simp [hil, hg])
        rw [hs] at key
        exact ⟨s, key.1, key.2, .tup [] #[] rfl fun i c hi => by simp at hi⟩
end
end Go.Rv
