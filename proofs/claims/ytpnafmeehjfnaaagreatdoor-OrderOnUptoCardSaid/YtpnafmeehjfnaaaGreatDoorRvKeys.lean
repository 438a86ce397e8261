/-
  'slices.Sorted(maps.Keys(m))' at int keys, as one step of the interpreter: the keys, sorted.
-/
import Derived.Test.YtpnafmeehjfnaaaGreatDoorRvGlob
import Derived.Maps.OwnSet
import Derived.Lib.SlKeysI
set_option linter.unusedSimpArgs false
set_option linter.unusedVariables false
namespace Go.Rv
open Go.Maps Go.RowKit

def keysI : List (AV × AV) → Option (List Int)
  | [] => some []
  | (.int k n, _) :: r => if k == .i64 && (Lit.int .i64 n).wf then (keysI r).map (n :: ·) else none
  | _ => none

theorem keysI_perm {es es0 : List (AV × AV)} {ks : List Int} (p : es0.Perm es) (h : keysI es = some ks) : ∃ ks0, keysI es0 = some ks0 ∧ ks0.Perm ks := by
  let g : AV × AV → Int := fun e => match e.1 with | .int _ n => n | _ => 0
  have fw : ∀ {es : List (AV × AV)} {ks : List Int}, keysI es = some ks → ks = es.map g ∧ ∀ e ∈ es, ∃ n, e.1 = .int .i64 n ∧ (Lit.int .i64 n).wf = true := by
    intro es
    induction es with
    | nil => intro ks h; simp only [keysI, Option.some.injEq] at h; subst h; exact ⟨rfl, fun e he => by simp at he⟩
    | cons e es ih =>
      intro ks h
      obtain ⟨k, v⟩ := e
      cases k <;> simp only [keysI, reduceCtorEq] at h
      rename_i kk n
      split at h
      · rename_i hc
        simp only [Bool.and_eq_true, beq_iff_eq] at hc
        obtain ⟨rfl, hwf⟩ := hc
        obtain ⟨r, hr, rfl⟩ := Option.map_eq_some_iff.1 h
        obtain ⟨h1, h2⟩ := ih hr
        refine ⟨by rw [h1]; rfl, fun e he => ?_⟩
        rcases List.mem_cons.1 he with rfl | he
        · exact ⟨n, rfl, hwf⟩
        · exact h2 e he
      · cases h
  have bw : ∀ {es : List (AV × AV)}, (∀ e ∈ es, ∃ n, e.1 = .int .i64 n ∧ (Lit.int .i64 n).wf = true) → keysI es = some (es.map g) := by
    intro es
    induction es with
    | nil => intro _; rfl
    | cons e es ih =>
      intro h
      obtain ⟨n, hn, hw⟩ := h e (List.mem_cons_self ..)
      obtain ⟨k, v⟩ := e
      dsimp only at hn
      subst hn
      simp only [keysI, hw, beq_self_eq_true, Bool.and_self, if_true, ih fun e he => h e (List.mem_cons_of_mem _ he), Option.map_some]
      rfl
  obtain ⟨h1, h2⟩ := fw h
  refine ⟨es0.map g, bw fun e he => h2 e (p.mem_iff.1 he), ?_⟩
  rw [h1]
  exact p.map _

def insI (x : Int) : List Int → List Int
  | [] => [x]
  | y :: r => match decide (x ≤ y) with
    | true => x :: y :: r
    | false => y :: insI x r
def isort : List Int → List Int
  | [] => []
  | x :: r => insI x (isort r)

theorem insI_perm (x : Int) : ∀ l, (insI x l).Perm (x :: l)
  | [] => List.Perm.refl _
  | y :: r => by
    simp only [insI]
    cases decide (x ≤ y) with
    | true => exact List.Perm.refl _
    | false => exact ((insI_perm x r).cons y).trans (List.Perm.swap x y r)
theorem isort_perm : ∀ l, (isort l).Perm l
  | [] => List.Perm.refl _
  | x :: r => (insI_perm x (isort r)).trans ((isort_perm r).cons x)
theorem insI_sorted (x : Int) : ∀ l, l.Pairwise (fun a b => leI a b = true) → (insI x l).Pairwise (fun a b => leI a b = true)
  | [], _ => by simp [insI]
  | y :: r, h => by
    have h1 := List.pairwise_cons.1 h
    simp only [insI]
    cases hd : decide (x ≤ y) with
    | true =>
      have hxy : x ≤ y := by simpa using hd
      refine List.pairwise_cons.2 ⟨fun a ha => ?_, h⟩
      rcases List.mem_cons.1 ha with rfl | ha
      · simpa [leI] using hxy
      · have := h1.1 a ha
        simp only [leI, decide_eq_true_eq] at this ⊢
        omega
    | false =>
      have hxy : ¬ x ≤ y := by simpa using hd
      refine List.pairwise_cons.2 ⟨fun a ha => ?_, insI_sorted x r h1.2⟩
      rcases List.mem_cons.1 ((insI_perm x r).mem_iff.1 ha) with rfl | ha
      · simp only [leI, decide_eq_true_eq]; omega
      · exact h1.1 a ha
theorem isort_sorted : ∀ l, (isort l).Pairwise (fun a b => leI a b = true)
  | [] => by simp [isort]
  | x :: r => insI_sorted x _ (isort_sorted r)
theorem isort_eq {l l' : List Int} (h : l.Perm l') : l.mergeSort leI = isort l' := by
  have tr : ∀ a b c : Int, leI a b = true → leI b c = true → leI a c = true := fun a b c h1 h2 => by simp only [leI, decide_eq_true_eq] at *; exact Int.le_trans h1 h2
  have to : ∀ a b : Int, (leI a b || leI b a) = true := fun a b => by simp only [leI, Bool.or_eq_true, decide_eq_true_eq]; exact Int.le_total a b
  refine List.Perm.eq_of_pairwise (le := fun a b => leI a b = true) (fun a b _ _ h1 h2 => ?_) (List.pairwise_mergeSort tr to l) (isort_sorted l') (((List.mergeSort_perm l leI).trans h).trans (isort_perm l').symm)
  simp only [leI, decide_eq_true_eq] at h1 h2
  exact Int.le_antisymm h1 h2

def keysOut (l : List Int) : AV := match l with
  | [] => .lst [] 1 .nil
  | x :: r => .lst ((x :: r).map (AV.int .i64)) 1 .open

/-- slices.Sorted at what maps.Keys hands back (its function's number: clo). -/
def sortedKeys (clo : Nat) (args : List AV) (h : Heap) : Option (CRes × Heap) :=
  match args with
  | [.clo g [.ptr o 0 gen]] =>
    if g = clo then
      (h.obj o gen).bind fun cs => match cs with
        | .map m :: _ => (h.mapAt m).bind fun es => (keysI es).bind fun ks => if es.length ≤ 1000000 then some (.ret (keysOut (isort ks)), h) else none
        | _ => none
    else none
  | _ => none

section
variable {P : Program} {C : Cfg} {s : Sim} {h : Heap} {w : World}

abbrev anyR : Value → Option (DataW Unit × List MemPlace) := fun _ => some (.lit (.bool true), [])

theorem keysI_rel : ∀ {es : List (AV × AV)} {en : List MapEntry} {ks : List Int}, Ents s h w es en → keysI es = some ks → en.map (·.key) = ks.map encZ ∧ ∀ n ∈ ks, (Lit.int .i64 n).wf = true
  | [], [], ks, _, hk => by
    simp only [keysI, Option.some.injEq] at hk
    subst hk
    exact ⟨rfl, fun n hn => by simp at hn⟩
  | [], _ :: _, _, H, _ => by have := H.1; simp at this
  | _ :: _, [], _, H, _ => by have := H.1; simp at this
  | (k, v) :: es, m :: en, ks, H, hk => by
    obtain ⟨⟨h1, _⟩, ht⟩ := H.tail
    cases k <;> simp only [keysI, reduceCtorEq] at hk
    rename_i kk n
    split at hk
    · rename_i hc
      simp only [Bool.and_eq_true, beq_iff_eq] at hc
      obtain ⟨rfl, hwf⟩ := hc
      obtain ⟨r, hr, rfl⟩ := Option.map_eq_some_iff.1 hk
      obtain ⟨h2, h3⟩ := keysI_rel ht hr
      generalize hmk : m.key = mk at h1
      cases h1
      refine ⟨?_, fun a ha => ?_⟩
      · simp only [List.map_cons, h2, hmk]
      · rcases List.mem_cons.1 ha with rfl | ha
        · exact hwf
        · exact h3 a ha
    · cases hk

theorem ownsMap_rel {kt b cl : Nat} {en : Array MapEntry} {ks : List Int} (hkt : P.underlying kt = some (.int .i64)) (hheap : w.heap[b]? = some (.map en cl)) (hS : MapKept.Stamped en cl) (hsz : en.size ≤ maxLen)
    (hkeys : (en.toList.map (·.key)).Perm (ks.map encZ)) (hwf : ∀ n ∈ ks, (Lit.int .i64 n).wf = true) :
    ∃ D0 : DataW Unit, w.ownsMap P kt anyR b en.size D0 ∧ (intKeys D0).Perm ks ∧ Maps.size D0 = en.size := by
  have hrd : ∀ x ∈ en.toList, ∃ n, n ∈ ks ∧ x.key = encZ n ∧ WideElems.rd P kt anyR x = some (.int .i64 n, .lit (.bool true)) := by
    intro x hx
    have : x.key ∈ en.toList.map (·.key) := List.mem_map.2 ⟨x, hx, rfl⟩
    obtain ⟨n, hn, he⟩ := List.mem_map.1 (hkeys.mem_iff.1 this)
    refine ⟨n, hn, he.symm, ?_⟩
    obtain ⟨key, val, born⟩ := x
    simp only at he
    subst he
    exact WideElems.rd_mk (R := anyR) (yv := (.lit (.bool true), [])) (keyOf_int_mk hkt (hwf n hn)) rfl
  refine ⟨.map ((en.toList.map (WideElems.rg P kt anyR)).foldr DataW.insert []), ⟨en, cl, hheap, ⟨hsz, hS, fun x hx => let ⟨n, _, _, h⟩ := hrd x hx; ⟨_, h⟩⟩, Nat.le_refl _, rfl⟩, ?_, ?_⟩
  · show (((en.toList.map (WideElems.rg P kt anyR)).foldr DataW.insert []).map fun p => intOf p.1).Perm ks
    refine ((WideShapes.sorted_perm _).map _).trans ?_
    rw [List.map_map]
    have : (en.toList.map ((fun p => intOf p.1) ∘ WideElems.rg P kt anyR)).Perm ks := by
      have h1 : en.toList.map ((fun p => intOf p.1) ∘ WideElems.rg P kt anyR) = (en.toList.map (·.key)).map (fun v => match v with | .int _ n => n | _ => 0) := by
        rw [List.map_map]
        refine List.map_congr_left fun x hx => ?_
        obtain ⟨n, _, hk, hr⟩ := hrd x hx
        simp only [Function.comp, WideElems.rg_of hr, hk, intOf]
      rw [h1]
      refine (hkeys.map _).trans ?_
      rw [List.map_map]
      simp [Function.comp_def, encZ]
    exact this
  · show ((en.toList.map (WideElems.rg P kt anyR)).foldr DataW.insert []).length = en.size
    rw [(WideShapes.sorted_perm _).length_eq]
    simp

theorem ext_below {s : Sim} {h : Heap} {w w' : World} (R : Rel s h w) (B : Below w.heap.size w w') (g : Nat) (hg : w.heap.size ≤ g) (hg' : g < w'.heap.size) :
    Ext s h w { s with I := fun b => s.I b ∨ b = g } h w' ∧ Rel { s with I := fun b => s.I b ∨ b = g } h w' := by
  have E : Ext s h w { s with I := fun b => s.I b ∨ b = g } h w' :=
    { size := B.size, far := fun b hb _ => B.block b hb, shape := fun b x hx => by rw [shape_of (B.block b (shape_lt hx))]; exact hx, imm := fun b hb => .inl hb, gen := fun _ g hg => ⟨g, hg, Nat.le_refl _⟩,
      same := fun _ _ _ _ => ⟨fun _ h => h, rfl⟩, kind := fun _ h _ => h, own := fun o b hb => .inl ⟨o, hb⟩, os := B.os, tape := B.tape, output := B.output, kindL := fun _ h => h, good := rfl, old := fun o b _ hb => ⟨b, hb⟩, kept := fun _ _ _ => rfl }
  refine ⟨E, R.inj, fun o b hb => ?_, fun o b hb hI => ?_, fun b hI => ?_⟩
  · obtain ⟨x, hx, hr⟩ := R.obj o b hb
    exact ⟨x, hx, hr.ext R.apart E (B.block b (R.lt hb))⟩
  · rcases hI with hI | rfl
    · exact R.apart o b hb hI
    · have := R.lt hb; omega
  · rcases hI with hI | rfl
    · exact Nat.lt_of_lt_of_le (R.imm b hI) B.size
    · exact hg'

/-- What the kit's contract says of slices.Sorted at what maps.Keys hands back. -/
def SortedSays (P : Program) (f clo kt : Nat) : Prop := ∀ (w : World) (Bm b nn : Nat) (D0 : DataW Unit), Bm < w.heap.size → w.cell? ⟨Bm, 0, none⟩ = some (.map (some b)) → w.ownsMap P kt anyR b nn D0 → Maps.size D0 ≤ maxLen → Maps.size D0 * 8 ≤ 140737488355328 →
  Calls P f #[.func (.func clo) #[] #[.pointer (some ⟨Bm, 0, none⟩)]] w fun e w' => ∃ (v : Value) (ss : List Int), e = .returned v ∧ ss.Perm (intKeys D0) ∧
    w'.ownsRow w.heap.size kt 1 v ss.length ((ss.mergeSort (fun x y => decide (x ≤ y))).map encZ) ∧ (v = .slice none 0 0 ↔ ss = []) ∧ Below w.heap.size w w'

theorem sortedKeys_ok {f clo kt : Nat} (hS : SortedSays P f clo kt) (hkt : P.underlying kt = some (.int .i64)) {args : List AV} {res : CRes} {h' : Heap} (hp : sortedKeys clo args h = some (res, h')) {vs : List Value} (R : Rel s h w) (H : VRs s h w args vs) : h' = h ∧ CallOk P f vs s h w res h' := by
  unfold sortedKeys at hp
  split at hp <;> first | cases hp | skip
  rename_i g o gen
  split at hp <;> first | cases hp | skip
  rename_i hg
  subst hg
  obtain ⟨cs, hcs, hp⟩ := Option.bind_eq_some_iff.1 hp
  split at hp <;> first | cases hp | skip
  rename_i m cr
  obtain ⟨es, hes, hp⟩ := Option.bind_eq_some_iff.1 hp
  obtain ⟨ks, hks, hp⟩ := Option.bind_eq_some_iff.1 hp
  by_cases hlen : es.length ≤ 1000000
  case neg => rw [if_neg hlen] at hp; cases hp
  rw [if_pos hlen] at hp
  simp only [Option.some.injEq, Prod.mk.injEq] at hp
  obtain ⟨rfl, rfl⟩ := hp
  refine ⟨rfl, ?_⟩
  obtain ⟨v0, hvs0⟩ := List.length_eq_one_iff.1 (show vs.length = 1 by rw [← H.1]; rfl)
  subst hvs0
  obtain ⟨v1, hv1, hvr⟩ := H.2 0 _ rfl
  have hv1 : v0 = v1 := by simpa using hv1
  subst hv1
  cases hvr with
  | clo _ _ us hl hr =>
  have hul : us.size = 1 := by simpa using hl.symm
  have h0 := hr 0 _ rfl
  have hus : us = #[us.getD 0 undef] := by
    apply Array.ext
    · simp [hul]
    · intro i h1 h2
      have : i = 0 := by omega
      subst this
      simp [h1]
  generalize us.getD 0 undef = pv at h0 hus
  subst hus
  have hgo := (genOf_obj hcs)
  cases h0 with
  | ptrOld _ _ _ g' a k1 k2 => have := hgo.1; rw [this] at k1; injection k1; omega
  | ptr _ _ _ bm k1 k2 =>
  obtain ⟨x, hx, hxr⟩ := R.obj o bm k2
  rw [hgo.2.1] at hx
  injection hx with hx; subst hx
  obtain ⟨bc, el, q1, q2, q3⟩ := hxr
  obtain ⟨mv, hmv, hmr⟩ := q3 0 _ rfl
  obtain ⟨b, en, cl, es0, rfl, hb, hheap, hp0, hE, hSt⟩ := map_obj R hes hmr
  have hcell : w.cell? ⟨bm, 0, none⟩ = some (.map (some b)) := by
    unfold World.cell?
    rw [q1]
    simpa using hmv
  obtain ⟨ks0, hks0, hpk⟩ := keysI_perm hp0.1 hks
  obtain ⟨e1, e2⟩ := keysI_rel hE hks0
  have hel : en.size = es.length := by have := hE.1; rw [← hp0.1.length_eq]; simpa using this.symm
  obtain ⟨D0, d1, d2, d3⟩ := ownsMap_rel hkt hheap hSt (by rw [hel]; simp only [maxLen]; omega) (List.Perm.of_eq e1) e2
  replace d2 := d2.trans hpk
  have hc := hS w bm b _ D0 (R.lt k2) hcell d1 (by rw [d3, hel]; simp only [maxLen]; omega) (by rw [d3, hel]; omega)
  refine Calls.mono hc fun e w' he => ?_
  obtain ⟨v, ss, rfl, p1, p2, p3, p4⟩ := he
  have hperm : ss.Perm ks := p1.trans d2
  have hsort : ss.mergeSort (fun x y => decide (x ≤ y)) = isort ks := isort_eq hperm
  obtain ⟨l1, l2⟩ := p2
  cases hk : isort ks with
  | nil =>
    have hksn : ks = [] := by
      have := (isort_perm ks).length_eq
      rw [hk] at this
      exact List.length_eq_zero_iff.1 this.symm
    have hssn : ss = [] := by
      have := hperm.length_eq
      rw [hksn] at this
      exact List.length_eq_zero_iff.1 this
    have hv := p3.2 hssn
    subst hv
    have E : Ext s h w s h w' :=
      { size := p4.size, far := fun b hb _ => p4.block b hb, shape := fun b x hx => by rw [shape_of (p4.block b (shape_lt hx))]; exact hx, imm := fun b hb => hb, gen := fun _ g hg => ⟨g, hg, Nat.le_refl _⟩,
        same := fun _ _ _ _ => ⟨fun _ h => h, rfl⟩, kind := fun _ h _ => h, own := fun o b hb => .inl ⟨o, hb⟩, os := p4.os, tape := p4.tape, output := p4.output, kindL := fun _ h => h, good := rfl, old := fun o b _ hb => ⟨b, hb⟩, kept := fun _ _ _ => rfl }
    refine ⟨s, E, ⟨R.inj, fun o b hb => ?_, R.apart, fun b hI => Nat.lt_of_lt_of_le (R.imm b hI) p4.size⟩, .lstNil 1⟩
    obtain ⟨x, hx, hr⟩ := R.obj o b hb
    exact ⟨x, hx, hr.ext R.apart E (p4.block b (R.lt hb))⟩
  | cons x r =>
    rw [hsort, hk] at l1 l2
    rcases l2 with ⟨rfl, hn⟩ | ⟨g', cap, cur, rfl, hge, hcur, hle, hmax, hcs2, htake⟩
    · rw [hn] at l1; simp at l1
    have hlt : g' < w'.heap.size := (Array.getElem?_eq_some_iff.1 hcur).1
    obtain ⟨E, R'⟩ := ext_below R p4 g' hge hlt
    refine ⟨_, E, R', ?_⟩
    have hll : ss.length = (x :: r).length := by simp only [List.length_map] at l1; omega
    have hval : ∀ i (c : Int), (x :: r)[i]? = some c → w'.cell? ⟨g', 0 + i * 1 + 0, none⟩ = some (.int .i64 c) := by
      intro i c hi
      have h1 : (cur.toList.take (ss.length * 1))[i]? = some (encZ c) := by rw [htake, List.getElem?_map, hi]; rfl
      have h2 : cur.toList[i]? = some (encZ c) := by
        rw [List.getElem?_take] at h1
        split at h1
        · exact h1
        · cases h1
      unfold World.cell?
      simp only [Nat.zero_add, Nat.mul_one, Nat.add_zero]
      rw [hcur]
      simpa using h2
    have key := VR.lst (s := { s with I := fun b => s.I b ∨ b = g' }) (h := h) (w := w') ((x :: r).map (AV.int .i64)) 1 .open g' 0 cap (fun i _ => .int .i64 ((x :: r).getD i 0)) (fun _ => .inr rfl) trivial (by simp only [List.length_map]; omega)
      (fun i y hi => by
        rw [List.getElem?_map] at hi
        obtain ⟨c, _, rfl⟩ := Option.map_eq_some_iff.1 hi
        rfl)
      (fun i j y z hi hj => by
        rw [List.getElem?_map] at hi
        obtain ⟨c, hc, rfl⟩ := Option.map_eq_some_iff.1 hi
        have hj0 : j = 0 := by
          have := (List.getElem?_eq_some_iff.1 hj).1
          simp [AV.cells] at this; exact this
        subst hj0
        rw [hval i c hc]
        simp [List.getD, hc])
      (fun i j y z hi hj => by
        rw [List.getElem?_map] at hi
        obtain ⟨c, hc, rfl⟩ := Option.map_eq_some_iff.1 hi
        have hj0 : j = 0 := by
          have := (List.getElem?_eq_some_iff.1 hj).1
          simp [AV.cells] at this; exact this
        subst hj0
        simp only [AV.cells, List.getElem?_cons_zero, Option.some.injEq] at hj
        subst hj
        simp only [List.getD, hc, Option.getD_some]
        exact .int _ _)
    simp only [List.length_map] at key
    rw [hll]
    exact key
end
end Go.Rv
