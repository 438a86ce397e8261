/-
  Arguments read: from a row's reading to the interpreter's values. What lies in old blocks is never written.
-/
import Derived.Test.YtegcmgjdaoiaoaaGreatDoorPtB
import Derived.Carry
import Derived.OpenShut
import Derived.ChangeArms
import Derived.Maps.OwnSet
import Derived.Lib.SlKeysI
import Derived.Shelf.SortM.Plain
import Derived.Shelf.SortM.SortNone
import Derived.Laws.BitsLemmas
import Derived.KernelRfl
import Derived.Shelf.SlIterI.Nil
import Derived.Ground.GgzProg
import Derived.Ground.SlgmProg
import Derived.Test.YtegcmgjdaoiaoaaGreatDoorChecked
import Derived.Test.YtegcmgjdaoiaoaaGreatDoorProg
set_option linter.unusedSectionVars false
set_option linter.unusedSimpArgs false
set_option linter.unusedVariables false
set_option linter.defProp false
set_option linter.unusedSimpArgs false
set_option linter.unusedVariables false
namespace Go.Rv
open Go.ChangeShapes Go.WideShapes Go.Deep Go.RowKit

/-- All that was there at the start is never written. -/
def old (w : World) : Sim := { μ := fun _ => none, I := fun b => b < w.heap.size, good := fun _ _ _ _ _ => False }

theorem old_rel (g : Nat → Nat → List Nat → Code → Code → Prop) (w : World) : Rel { old w with good := g } [] w where
  inj _ _ _ h := by cases h
  obj _ _ h := by cases h
  apart _ _ h := by cases h
  imm _ h := h

theorem below_of_ext {s' : Sim} {h' : Heap} {w w' : World} {g : Nat → Nat → List Nat → Code → Code → Prop} (E : Ext { old w with good := g } [] w s' h' w') : Below w.heap.size w w' where
  os := E.os
  tape := E.tape
  output := E.output
  size := E.size
  block k hk := E.far k hk (fun o hx => by cases hx)

theorem same_of_below {w w' : World} (B : Below w.heap.size w w') : Same w w' where
  kept := by
    refine ⟨B.os, B.output, fun i hi => ?_⟩
    rw [B.block i hi]
    cases w.heap[i]? with
    | none => rfl
    | some o =>
      cases o <;> first | rfl | exact ⟨rfl, rfl, rfl, fun _ _ => rfl⟩ | exact .inr ⟨rfl, rfl⟩
  frozen a ha := by
    unfold World.frozen?
    rw [B.block a.block ha]
  size := B.size

/-- A function whose arguments are read, of a program without state. -/
theorem entry_old {T : RvTold} {P : Program} (hg : ∀ g, T.glob g = none) (hp : PrimOk P (T.cfg P)) (hm : P.follows .mixedOrders = true) {f : Nat} {args : List AV} {v : AV} {h' : Heap} (hc : call (T.cfg P) f args [] = some (.ret v, h'))
    {w : World} {vs : List Value} (H : VRs (old w) [] w args vs) : Calls P f vs.toArray w (fun e w' => Below w.heap.size w w' ∧ ∃ u s', e = .returned u ∧ VR s' h' w' v u) := by
  have G : GG (T.cfg P) (ordOk (T.cfg P)) { old w with good := goodOf (ordOk (T.cfg P)) } [] w := ⟨fun g x hx => absurd hx (by change T.glob g ≠ some x; rw [hg]; simp), rfl⟩
  have := RvTold.sound (T := T) (P := P) (fun g x hx => by change T.glob g = some x at hx; rw [hg] at hx; cases hx) (fun g x hx => by rw [hg] at hx; cases hx) hp hm hc (old_rel _ w) G (H.regood _)
  refine Calls.mono this fun e w' he => ?_
  obtain ⟨s', E, R, hv⟩ := he
  refine ⟨below_of_ext E, ?_⟩
  cases e with
  | returned u => exact ⟨u, s', rfl, hv⟩
  | panicked _ => exact hv.elim
  | outgrown => exact hv.elim

/-- How much a reading holds: what is asked of such a measure. -/
structure Bulk {H : Type} (μ : DataW H → Nat) (μs : List (DataW H) → Nat) : Prop where
  str (l : List UInt8) : l.length ≤ μ (.lit (.string l))
  slice (e s : List (DataW H)) : μs e ≤ μ (.slice e s)
  agg (e : List (DataW H)) : μs e ≤ μ (.agg e)
  cons (d : DataW H) (r : List (DataW H)) : μs (d :: r) = μ d + μs r
  pos (d : DataW H) : 1 ≤ μ d
theorem Bulk.mem {H : Type} {μ : DataW H → Nat} {μs : List (DataW H) → Nat} (U : Bulk μ μs) {d : DataW H} : ∀ {l : List (DataW H)}, d ∈ l → μ d ≤ μs l
  | x :: r, h => by
    rw [U.cons]
    rcases List.mem_cons.1 h with h | h
    · subst h; omega
    · have := U.mem h; omega
theorem Bulk.len {H : Type} {μ : DataW H → Nat} {μs : List (DataW H) → Nat} (U : Bulk μ μs) : ∀ (l : List (DataW H)), l.length ≤ μs l
  | [] => by simp
  | x :: r => by rw [U.cons]; have := U.pos x; have := U.len r; simp; omega

section
variable {H : Type} {enc : TypeId × Value → H} {P : Program} {μ : DataW H → Nat} {μs : List (DataW H) → Nat} {B : Nat}

/-- Whatever is read at this type, of no more than so much, is the picture of some a. -/
def Opens (enc : TypeId × Value → H) (P : Program) (μ : DataW H → Nat) (B : Nat) (t : TypeId) {α : Type} (pic : α → List AV) (ok : α → Prop) : Prop :=
  ∀ (w : World) (n : Nat) (cs : List Value) (x : DataW H × List MemPlace), DataW.trod enc P w 0 (fun _ => true) true n t cs = some x → (∀ p ∈ x.2, p.block < w.heap.size) → μ x.1 ≤ B → ∃ a, ok a ∧ VRs (old w) [] w (pic a) cs

theorem opens_int {t : TypeId} {k : IntKind} (ht : P.underlying t = some (.int k)) : Opens enc P μ B t (fun n : Int => [.int k n]) (fun n => (Lit.int k n).wf = true) := by
  intro w n cs x h _ _
  obtain ⟨a, rfl, hc, hw⟩ : ∃ a, cs = [.int k a] ∧ True ∧ (Lit.int k a).wf = true := by
    cases n with
    | zero => simp [DataW.trod] at h
    | succ n =>
      unfold DataW.trod at h
      rw [ht] at h
      split at h <;> simp_all
  exact ⟨a, hw, rfl, fun i c hi => by
    cases i with
    | zero => simp at hi; subst hi; exact ⟨_, rfl, .int _ _⟩
    | succ i => simp at hi⟩

theorem opens_bool {t : TypeId} (ht : P.underlying t = some .bool) : Opens enc P μ B t (fun b : Bool => [.bool b]) (fun _ => True) := by
  intro w n cs x h _ _
  obtain ⟨a, rfl⟩ : ∃ a, cs = [.bool a] := by
    cases n with
    | zero => simp [DataW.trod] at h
    | succ n =>
      unfold DataW.trod at h
      rw [ht] at h
      split at h <;> simp_all
  exact ⟨a, trivial, rfl, fun i c hi => by
    cases i with
    | zero => simp at hi; subst hi; exact ⟨_, rfl, .bool _⟩
    | succ i => simp at hi⟩

theorem opens_string (U : Bulk μ μs) {t : TypeId} (ht : P.underlying t = some .string) : Opens enc P μ B t (fun l : List UInt8 => [.str l]) (fun l => l.length ≤ B) := by
  intro w n cs x h _ hb
  obtain ⟨a, rfl, ha⟩ : ∃ a : ByteArray, cs = [.string a] ∧ x.1 = .lit (.string a.data.toList) := by
    cases n with
    | zero => simp [DataW.trod] at h
    | succ n =>
      unfold DataW.trod at h
      rw [ht] at h
      split at h <;> simp_all
      rw [← h.2]
  refine ⟨a.data.toList, by rw [ha] at hb; exact Nat.le_trans (U.str _) hb, rfl, fun i c hi => ?_⟩
  cases i with
  | zero =>
    simp at hi; subst hi
    refine ⟨_, rfl, ?_⟩
    have := VR.str (s := old w) (h := []) (w := w) a.data.toList
    simpa using this
  | succ i => simp at hi

/-- A slice of the input: nil, or so many elements and so much room. -/
inductive GS (α : Type) where
  | nil
  | mk (l : List α) (cap : Nat)

def GS.pic {α : Type} (el : α → AV) (z : Nat) : GS α → List AV
  | .nil => [.lst [] z .nil]
  | .mk l cap => [.lst (l.map el) z (.exact cap)]
def GS.ok {α : Type} (B : Nat) (ok : α → Prop) : GS α → Prop
  | .nil => True
  | .mk l _ => l.length ≤ B ∧ ∀ a ∈ l, ok a

theorem choose_list {α : Type} {Q : Nat → α → Prop} : ∀ n : Nat, (∀ i, i < n → ∃ a, Q i a) → ∃ l : List α, l.length = n ∧ ∀ (i : Nat) a, l[i]? = some a → Q i a
  | 0, _ => ⟨[], rfl, fun i a h => by simp at h⟩
  | n + 1, H => by
    obtain ⟨l, h1, h2⟩ := choose_list n (fun i hi => H i (by omega))
    obtain ⟨a, ha⟩ := H n (by omega)
    refine ⟨l ++ [a], by simp [h1], fun i b hb => ?_⟩
    by_cases hi : i < n
    · rw [List.getElem?_append_left (by omega)] at hb
      exact h2 i b hb
    · rw [List.getElem?_append_right (by omega)] at hb
      have : i - l.length = 0 := by
        have := (List.getElem?_eq_some_iff.1 hb).1
        simp at this; omega
      rw [this] at hb
      simp at hb
      subst hb
      have : i = n := by omega
      rw [this]; exact ha

theorem opens_slice (U : Bulk μ μs) {t e : TypeId} (ht : P.underlying t = some (.slice e)) {α : Type} {pic : α → List AV} {ok : α → Prop} (O : Opens enc P μ B e pic ok) {z : Nat} (hz : P.cellsOf e = z) (hpos : 0 < z) (el : α → AV) (hel : ∀ a, (el a).cells = pic a) (hpl : ∀ a, (pic a).length = z) :
    Opens enc P μ B t (GS.pic el z) (GS.ok B ok) := by
  intro w n cs x h hpl2 hb
  rcases open_slice ht h with ⟨rfl, _⟩ | ⟨A, len, cap, m, n', D, Pl, rfl, _, hle, hcap, hm, hx, hi⟩
  · exact ⟨.nil, trivial, rfl, fun i c hi => by
      cases i with
      | zero => simp [GS.pic] at hi; subst hi; exact ⟨_, rfl, .lstNil _⟩
      | succ i => simp [GS.pic] at hi⟩
  · simp only [if_true] at hm
    subst hm
    have hfit : ∀ i, i < m → ∀ p ∈ Pl i, p.block < w.heap.size := fun i him p hp => hpl2 p (by
      rw [hx]
      simp only [List.mem_append, List.mem_flatMap, List.mem_range]
      exact .inr ⟨i, him, hp⟩)
    have hb1 : μs ((List.range len).map D) ≤ B := by rw [hx] at hb; exact Nat.le_trans (U.slice _ _) hb
    have hbD : ∀ i, i < len → μ (D i) ≤ B := fun i hi => Nat.le_trans (U.mem (List.mem_map.2 ⟨i, List.mem_range.2 hi, rfl⟩)) hb1
    have hbl : len ≤ B := by have := U.len ((List.range len).map D); simp at this; omega
    obtain ⟨l, hl, hl2⟩ := choose_list (Q := fun i a => ok a ∧ ∃ cs', w.cells? 0 (A.add (i * z)) z = some cs' ∧ VRs (old w) [] w (pic a) cs') len (fun i hil => by
      obtain ⟨cs', h1, h2⟩ := hi i (by omega)
      obtain ⟨a, h3, h4⟩ := O w n' cs' _ h2 (hfit i (by omega)) (hbD i hil)
      rw [hz] at h1
      exact ⟨a, h3, cs', h1, h4⟩)
    have hok : ∀ a ∈ l, ok a := fun a ha => by
      obtain ⟨i, hia⟩ := List.mem_iff_getElem?.1 ha
      exact (hl2 i a hia).1
    refine ⟨.mk l m, ⟨by omega, hok⟩, rfl, fun i c hic => ?_⟩
    cases i with
    | succ i => simp [GS.pic] at hic
    | zero =>
      simp only [GS.pic, List.getElem?_cons_zero, Option.some.injEq] at hic
      subst hic
      refine ⟨_, rfl, ?_⟩
      by_cases h0 : m = 0
      · subst h0
        have : len = 0 := by omega
        subst this
        have : l = [] := by simpa using hl
        subst this
        exact .lstEmpty _ _
      · obtain ⟨cs', h1, _⟩ := hi 0 (by omega)
        rw [hz] at h1
        obtain ⟨_, hcl, hat⟩ := World.cells?_some h1
        have hc0 := hat 0 hpos
        have hA : (A.add (0 * z)).add 0 = A := by simp [Addr.add]
        rw [hA, List.getElem?_eq_getElem (by omega)] at hc0
        have hspot : A.spot = none := by
          unfold World.cell? at hc0
          split at hc0
          · split at hc0
            · cases hc0
            · rename_i hs; simpa using hs
          all_goals cases hc0
        obtain ⟨b, off, sp⟩ := A
        simp only at hspot
        subst hspot
        have hb : b < w.heap.size := cell_block hc0
        have hlen : (l.map el).length = len := by simp [hl]
        have get : ∀ (i : Nat) x, (l.map el)[i]? = some x → ∃ a, x = el a ∧ ∃ cs', w.cells? 0 ((⟨b, off, none⟩ : Addr).add (i * z)) z = some cs' ∧ VRs (old w) [] w (pic a) cs' := fun i x hx => by
          rw [List.getElem?_map] at hx
          obtain ⟨a, ha, rfl⟩ := Option.map_eq_some_iff.1 hx
          exact ⟨a, rfl, (hl2 i a ha).2⟩
        have cell : ∀ (i j : Nat) x y, (l.map el)[i]? = some x → x.cells[j]? = some y → ∃ v, w.cell? ⟨b, off + i * z + j, none⟩ = some v ∧ VR (old w) [] w y v := by
          intro i j x y hx hy
          obtain ⟨a, rfl, cs', h1, h2⟩ := get i x hx
          rw [hel] at hy
          obtain ⟨v, hv, hr⟩ := h2.2 j y hy
          obtain ⟨_, hcl, hat⟩ := World.cells?_some h1
          have hj : j < z := by rw [← hcl]; exact (List.getElem?_eq_some_iff.1 hv).1
          have := hat j hj
          rw [addr_add, addr_add, hv] at this
          exact ⟨v, this, hr⟩
        have := VR.lst (s := old w) (h := []) (w := w) (l.map el) z (.exact m) b off m (fun i j => (w.cell? ⟨b, off + i * z + j, none⟩).getD undef) (fun _ => hb) rfl (by omega)
          (fun i x hx => by
            obtain ⟨a, rfl, _⟩ := get i x hx
            rw [hel, hpl])
          (fun i j x y hx hy => by
            obtain ⟨v, hv, _⟩ := cell i j x y hx hy
            rw [hv]; rfl)
          (fun i j x y hx hy => by
            obtain ⟨v, hv, hr⟩ := cell i j x y hx hy
            rw [hv]; exact hr)
        rw [hlen] at this
        exact this

/-- Fields, one behind the other. -/
def OpensF (enc : TypeId × Value → H) (P : Program) (μ : DataW H → Nat) (B : Nat) (fs : List Field) {α : Type} (pic : α → List AV) (ok : α → Prop) : Prop :=
  ∀ (w : World) (n : Nat) (cs : List Value) (xs : List (DataW H × List MemPlace)), fs.mapM (fun f => DataW.trod enc P w 0 (fun _ => true) true n f.type ((cs.drop f.offset).take (P.cellsOf f.type))) = some xs →
    (∀ p ∈ xs.flatMap (·.2), p.block < w.heap.size) → (∀ y ∈ xs, μ y.1 ≤ B) → ∃ a, ok a ∧ VRs (old w) [] w (pic a) (fs.flatMap fun f => (cs.drop f.offset).take (P.cellsOf f.type))

theorem opensF_nil : OpensF enc P μ B [] (fun _ : Unit => []) (fun _ => True) := fun w n cs xs _ _ _ => ⟨(), trivial, rfl, fun i c hi => by simp at hi⟩

theorem opensF_cons {f : Field} {fs : List Field} {α β : Type} {pic : α → List AV} {ok : α → Prop} {pic' : β → List AV} {ok' : β → Prop} (O : Opens enc P μ B f.type pic ok) (F : OpensF enc P μ B fs pic' ok') :
    OpensF enc P μ B (f :: fs) (fun p : α × β => pic p.1 ++ pic' p.2) (fun p => ok p.1 ∧ ok' p.2) := by
  intro w n cs xs h hp hb
  rw [List.mapM_cons] at h
  simp only [Option.bind_eq_bind, Option.pure_def] at h
  obtain ⟨x, hx, h⟩ := Option.bind_eq_some_iff.1 h
  obtain ⟨ys, hys, h⟩ := Option.bind_eq_some_iff.1 h
  simp only [Option.some.injEq] at h
  subst h
  obtain ⟨a, h1, h2⟩ := O w n _ x hx (fun p h => hp p (by simp [h])) (hb x (by simp))
  obtain ⟨b, h3, h4⟩ := F w n cs ys hys (fun p h => hp p (by
    rw [List.flatMap_cons]
    exact List.mem_append_right _ h)) (fun y hy => hb y (List.mem_cons_of_mem _ hy))
  exact ⟨(a, b), ⟨h1, h3⟩, by
    rw [List.flatMap_cons]
    exact h2.append h4⟩

/-- Do the fields lie one behind the other? Behind them all. -/
def lay (P : Program) : List Field → Nat → Option Nat
  | [], o => some o
  | f :: r, o => if f.offset = o then lay P r (o + P.cellsOf f.type) else none

theorem lay_le : ∀ {fs : List Field} {o T : Nat}, lay P fs o = some T → o ≤ T
  | [], o, T, h => by simp [lay] at h; omega
  | f :: r, o, T, h => by
    simp only [lay] at h
    split at h
    · have := lay_le h; omega
    · cases h

theorem lay_flat (cs : List Value) : ∀ {fs : List Field} {o T : Nat}, lay P fs o = some T → T ≤ cs.length → (fs.flatMap fun f => (cs.drop f.offset).take (P.cellsOf f.type)) = (cs.drop o).take (T - o)
  | [], o, T, h, _ => by
    simp only [lay, Option.some.injEq] at h
    subst h
    simp
  | f :: r, o, T, h, hT => by
    simp only [lay] at h
    split at h
    · rename_i he
      have hle := lay_le h
      rw [List.flatMap_cons, lay_flat cs h hT, he]
      rw [show T - o = P.cellsOf f.type + (T - (o + P.cellsOf f.type)) from by omega, List.take_add, List.drop_drop]
    · cases h

theorem mapM_get {β γ : Type} {f : β → Option γ} : ∀ {l : List β} {xs : List γ}, xs.length = l.length → (∀ (i : Nat) b, l[i]? = some b → f b = xs[i]?) → l.mapM f = some xs
  | [], [], _, _ => rfl
  | [], _ :: _, h, _ => by simp at h
  | _ :: _, [], h, _ => by simp at h
  | b :: l, x :: xs, h, H => by
    have h0 := H 0 b rfl
    simp only [List.getElem?_cons_zero] at h0
    rw [List.mapM_cons, h0, mapM_get (l := l) (xs := xs) (by simpa using h) (fun i b hb => by simpa using H (i + 1) b (by simpa using hb))]
    rfl

theorem opens_struct (U : Bulk μ μs) {t : TypeId} {fs : Array Field} (ht : P.underlying t = some (.struct fs)) {α : Type} {pic : α → List AV} {ok : α → Prop} (F : OpensF enc P μ B fs.toList pic ok) (hl : lay P fs.toList 0 = some (P.cellsOf t)) : Opens enc P μ B t pic ok := by
  intro w n cs x h hp hb
  obtain ⟨xs, n', hxs, hx, hlen⟩ : ∃ xs n', fs.toList.mapM (fun f => DataW.trod enc P w 0 (fun _ => true) true n' f.type ((cs.drop f.offset).take (P.cellsOf f.type))) = some xs ∧ x = (.agg (xs.map (·.1)), xs.flatMap (·.2)) ∧ cs.length = P.cellsOf t := by
    obtain ⟨xs, n', _, hx, hl', hlen, hf⟩ := DataW.trod_struct ht h
    exact ⟨xs, n', mapM_get (by simpa using hlen) (fun i f hif => hf i f (by simpa using hif)), hx, hl'⟩
  obtain ⟨a, h1, h2⟩ := F w n' cs xs hxs (by rw [hx] at hp; exact hp) (fun y hy => by
    rw [hx] at hb
    exact Nat.le_trans (U.mem (List.mem_map.2 ⟨y, hy, rfl⟩)) (Nat.le_trans (U.agg _) hb))
  refine ⟨a, h1, ?_⟩
  rw [lay_flat cs hl (by omega)] at h2
  simpa [← hlen] using h2

/-- A struct that is an argument. -/
theorem open_arg {t : TypeId} {fs : Array Field} (ht : P.underlying t = some (.struct fs)) {α : Type} {pic : α → List AV} {ok : α → Prop} (O : Opens enc P μ B t pic ok) {w : World} {r : Reach} {b0 : Nat} {v : Value} {d : DataW H} {ps : List MemPlace}
    (hv : Value.okWide P w r b0 t v) (h : DataW.Trod enc P w 0 (fun _ => true) true t v d ps) (hp : ∀ p ∈ ps, p.block < w.heap.size) (hb : μ d ≤ B) : ∃ a, ok a ∧ VR (old w) [] w (.agg (pic a)) v := by
  obtain ⟨cs, rfl, _⟩ := okWide_struct ht hv
  obtain ⟨n, hn⟩ := h
  obtain ⟨a, h1, h2⟩ := O w n _ _ hn hp hb
  refine ⟨a, h1, .agg _ _ (by simpa [Value.cells] using h2.1) fun i c hi => ?_⟩
  obtain ⟨u, hu, hr⟩ := h2.2 i c hi
  have hu' : cs[i]? = some u := by simpa [Value.cells] using hu
  rw [Array.getD_eq_getD_getElem?, hu']
  exact hr
end
end Go.Rv

/-
  Package-level variables that a row lists: what lies in them when the call begins.
-/
set_option linter.unusedSimpArgs false
set_option linter.unusedVariables false
namespace Go.Rv
open Go.ChangeShapes Go.WideShapes Go.Deep Go.RowKit

/-- The cells of plain parts. -/
def litParts (P : Program) (rec : TypeId → DataW Unit → Option (List Value)) : List (TypeId × Nat) → List (DataW Unit) → Nat → Option (List Value)
  | [], [], _ => some []
  | (t, off) :: fs, d :: ds, o =>
    if off = o then (rec t d).bind fun v => if v.length = P.cellsOf t then (litParts P rec fs ds (o + v.length)).map (v ++ ·) else none else none
  | _, _, _ => none

/-- The cells of a plain datum at a type. -/
def litC (P : Program) : Nat → TypeId → DataW Unit → Option (List Value)
  | 0, _, _ => none
  | n + 1, t, d => match P.underlying t, d with
    | some .bool, .lit (.bool b) => some [.bool b]
    | some (.int k), .lit (.int _ z) => some [.int k z]
    | some .string, .lit (.string l) => some [.string ⟨l.toArray⟩]
    | some (.struct fs), .agg ds => (litParts P (litC P n) (fs.toList.map fun f => (f.type, f.offset)) ds 0).bind fun vs => if vs.length = P.cellsOf t then some vs else none
    | some (.array m e), .agg ds => (litParts P (litC P n) ((List.range m).map fun i => (e, i * P.cellsOf e)) ds 0).bind fun vs => if vs.length = P.cellsOf t then some vs else none
    | _, _ => none

section
variable {P : Program} {w : World}
abbrev tr (P : Program) (w : World) (b : Nat) (sp : Nat → Bool) (hd : Bool) := DataW.trod (fun _ => ()) P w b sp hd

theorem litParts_eq {b : Nat} {sp : Nat → Bool} {hd : Bool} {m : Nat} {rec : TypeId → DataW Unit → Option (List Value)} (hrec : ∀ t cs d ps v, tr P w b sp hd m t cs = some (d, ps) → rec t d = some v → cs = v) {cs : List Value} :
    ∀ (fs : List (TypeId × Nat)) (ds : List (DataW Unit)) (o : Nat) (vs : List Value), litParts P rec fs ds o = some vs →
    (∀ (i : Nat) t off, fs[i]? = some (t, off) → ∃ d ps, ds[i]? = some d ∧ tr P w b sp hd m t ((cs.drop off).take (P.cellsOf t)) = some (d, ps)) → o + vs.length = cs.length → cs.drop o = vs
  | [], [], o, vs, h, _, hl => by
    simp only [litParts, Option.some.injEq] at h
    subst h
    simp at hl
    simp [List.drop_eq_nil_iff, hl]
  | [], _ :: _, o, vs, h, _, _ => by simp [litParts] at h
  | _ :: _, [], o, vs, h, _, _ => by simp [litParts] at h
  | (t, off) :: fs, d :: ds, o, vs, h, H, hl => by
    simp only [litParts] at h
    split at h
    · rename_i ho
      subst ho
      obtain ⟨v, hv, h⟩ := Option.bind_eq_some_iff.1 h
      split at h
      · rename_i hvl
        obtain ⟨r, hr, rfl⟩ := Option.map_eq_some_iff.1 h
        obtain ⟨d', ps, hd', ht⟩ := H 0 t off rfl
        simp at hd'
        subst hd'
        have h1 := hrec _ _ _ _ _ ht hv
        have h2 := litParts_eq hrec fs ds (off + v.length) r hr (fun i t' off' hi => by
          obtain ⟨d', ps, k1, k2⟩ := H (i + 1) t' off' (by simpa using hi)
          exact ⟨d', ps, by simpa using k1, k2⟩) (by simp at hl; omega)
        rw [← h2]
        have h3 : cs.drop off = (cs.drop off).take v.length ++ (cs.drop off).drop v.length := (List.take_append_drop _ _).symm
        rw [h3, List.drop_drop]
        rw [hvl] at *
        rw [h1]
      · cases h
    · cases h

theorem litC_eq {b : Nat} {sp : Nat → Bool} {hd : Bool} : ∀ (n m : Nat) (t : TypeId) (cs : List Value) (d : DataW Unit) (ps : List MemPlace) (vs : List Value), tr P w b sp hd m t cs = some (d, ps) → litC P n t d = some vs → cs = vs
  | 0, _, _, _, _, _, _, _, h => by simp [litC] at h
  | n + 1, m, t, cs, d, ps, vs, ht, h => by
    simp only [litC] at h
    split at h
    · rename_i hu
      obtain ⟨b', rfl, hx⟩ := DataW.trod_bool hu ht
      simp only [Prod.mk.injEq, DataW.lit.injEq, Lit.bool.injEq] at hx
      simp only [Option.some.injEq] at h
      rw [← h, ← hx.1]
    · rename_i hu
      obtain ⟨b', rfl, hx, _⟩ := DataW.trod_int hu ht
      simp only [Prod.mk.injEq, DataW.lit.injEq, Lit.int.injEq] at hx
      simp only [Option.some.injEq] at h
      rw [← h, ← hx.1.2]
    · rename_i hu
      obtain ⟨b', rfl, hx, _⟩ := DataW.trod_string hu ht
      simp only [Prod.mk.injEq, DataW.lit.injEq, Lit.string.injEq] at hx
      simp only [Option.some.injEq] at h
      rw [← h, hx.1]
    · rename_i fs ds hu
      obtain ⟨xs, m', rfl, hx, hcl, hxl, hel⟩ := DataW.trod_struct hu ht
      simp only [Prod.mk.injEq, DataW.agg.injEq] at hx
      obtain ⟨vs', h1, h⟩ := Option.bind_eq_some_iff.1 h
      split at h <;> first | cases h | skip
      rename_i hlen
      have := litParts_eq (w := w) (b := b) (sp := sp) (hd := hd) (m := m') (cs := cs) (fun t cs d ps v k1 k2 => litC_eq n m' t cs d ps v k1 k2) _ _ 0 vs h1 (fun i t' off hi => ?_) (by omega)
      · simpa using this
      · rw [List.getElem?_map] at hi
        obtain ⟨f, hf, hfe⟩ := Option.map_eq_some_iff.1 hi
        simp only [Prod.mk.injEq] at hfe
        obtain ⟨rfl, rfl⟩ := hfe
        have hlt : i < fs.size := by have := (List.getElem?_eq_some_iff.1 hf).1; simpa using this
        have he := hel i f (by rw [← Array.getElem?_toList]; exact hf)
        rw [List.getElem?_eq_getElem (by omega)] at he
        refine ⟨(xs[i]).1, (xs[i]).2, ?_, he⟩
        rw [hx.1, List.getElem?_map, List.getElem?_eq_getElem (by omega)]
        rfl
    · rename_i k e ds hu
      obtain ⟨xs, m', rfl, hx, hcl, hxl, hel⟩ := DataW.trod_array hu ht
      simp only [Prod.mk.injEq, DataW.agg.injEq] at hx
      obtain ⟨vs', h1, h⟩ := Option.bind_eq_some_iff.1 h
      split at h <;> first | cases h | skip
      rename_i hlen
      have := litParts_eq (w := w) (b := b) (sp := sp) (hd := hd) (m := m') (cs := cs) (fun t cs d ps v k1 k2 => litC_eq n m' t cs d ps v k1 k2) _ _ 0 vs h1 (fun i t' off hi => ?_) (by omega)
      · simpa using this
      · rw [List.getElem?_map] at hi
        obtain ⟨i', hi', hfe⟩ := Option.map_eq_some_iff.1 hi
        have hlt : i < k := by have := (List.getElem?_eq_some_iff.1 hi').1; simpa using this
        rw [List.getElem?_range hlt] at hi'
        injection hi' with hi'; subst hi'
        simp only [Prod.mk.injEq] at hfe
        obtain ⟨rfl, rfl⟩ := hfe
        have he := hel i hlt
        rw [List.getElem?_eq_getElem (by omega)] at he
        refine ⟨(xs[i]).1, (xs[i]).2, ?_, he⟩
        rw [hx.1, List.getElem?_map, List.getElem?_eq_getElem (by omega)]
        rfl
    · cases h

/-- The cells that the interpreter is told of a variable. -/
def globA (P : Program) (t : TypeId) (d : DataW Unit) : Option AV := ((litC P 8 t d).bind fun vs => mapO ofValue vs).map .ref

/-- A listed variable: what the interpreter is told of it. -/
theorem glob_rel {n : String} {g : Nat} {t : TypeId} {d : DataW Unit} {cs : Array Value} {b fuel : Nat} {sp : Nat → Bool} {hd : Bool} {ps : List MemPlace} {v : AV} (hg : P.globalNamed n = some g) (hv : w.var? P n = some cs)
    (ht : tr P w b sp hd fuel t cs.toList = some (d, ps)) (ha : globA P t d = some v) : v ≠ .junk ∧ VR (old w) [] w v (.pointer (some ⟨g, 0, none⟩)) := by
  unfold globA at ha
  obtain ⟨avs, h1, rfl⟩ := Option.map_eq_some_iff.1 ha
  obtain ⟨vs, h2, h3⟩ := Option.bind_eq_some_iff.1 h1
  have hcs := litC_eq 8 fuel t cs.toList d ps vs ht h2
  obtain ⟨m1, m2⟩ := mapO_get h3
  have hcell : ∀ (i : Nat) c, avs[i]? = some c → w.cell? ⟨g, 0 + i, none⟩ = some (vs.getD i undef) ∧ VR (old w) [] w c (vs.getD i undef) := fun i c hi => by
    have hlt : i < vs.length := by rw [← m1]; exact (List.getElem?_eq_some_iff.1 hi).1
    obtain ⟨a, k1, k2⟩ := m2 i vs[i] (List.getElem?_eq_getElem hlt)
    rw [hi] at k1
    injection k1 with k1; subst k1
    have hget : vs.getD i undef = vs[i] := by simp [List.getD, hlt]
    rw [hget]
    refine ⟨?_, ofValue_rel k2⟩
    rw [Nat.zero_add, World.var?_cell hg hv i]
    rw [← Array.getElem?_toList, hcs, List.getElem?_eq_getElem hlt]
  refine ⟨by simp, .ref avs g 0 (fun i => vs.getD i undef) (fun h0 => ?_) (fun i c hi => (hcell i c hi).1) (fun i c hi => (hcell i c hi).2)⟩
  exact cell_block (hcell 0 _ (List.getElem?_eq_getElem h0)).1

/-- A function of a program some of whose variables are known. -/
theorem entry_glob {T : RvTold} {P : Program} (hp : PrimOk P (T.cfg P)) (hm : P.follows .mixedOrders = true) {f : Nat} {args : List AV} {v : AV} {h' : Heap} (hc : call (T.cfg P) f args [] = some (.ret v, h'))
    {w : World} (hcl : ∀ g v, T.glob g = some v → ∀ h, freezeV h 0 40 v = some v) (hg : ∀ g v, T.glob g = some v → v ≠ .junk ∧ VR (old w) [] w v (.pointer (some ⟨g, 0, none⟩))) {vs : List Value} (H : VRs (old w) [] w args vs) : Calls P f vs.toArray w (fun e w' => Below w.heap.size w w' ∧ ∃ u s', e = .returned u ∧ VR s' h' w' v u) := by
  have G : GG (T.cfg P) (ordOk (T.cfg P)) { old w with good := goodOf (ordOk (T.cfg P)) } [] w := ⟨fun g x hx => (hg g x hx).2.regood _, rfl⟩
  have := RvTold.sound (T := T) (P := P) (fun g x hx => (hg g x hx).1) hcl hp hm hc (old_rel _ w) G (H.regood _)
  refine Calls.mono this fun e w' he => ?_
  obtain ⟨s', E, R, hv⟩ := he
  refine ⟨below_of_ext E, ?_⟩
  cases e with
  | returned u => exact ⟨u, s', rfl, hv⟩
  | panicked _ => exact hv.elim
  | outgrown => exact hv.elim
end
end Go.Rv

/-
  A twin of the interpreter that the kernel can run: what it answers, the interpreter answers.
-/
set_option linter.unusedSimpArgs false
set_option linter.unusedVariables false
namespace Go.Rv
noncomputable section

def entsEq : List (AV × AV) → List (AV × AV) → Bool
  | [], [] => true
  | (a, b) :: x, (c, d) :: y => AV.eqb a c && AV.eqb b d && entsEq x y
  | _, _ => false
theorem entsEq_eq : ∀ (x y : List (AV × AV)), entsEq x y = true → x = y
  | [], [], _ => rfl
  | [], _ :: _, h => by simp [entsEq] at h
  | _ :: _, [], h => by simp [entsEq] at h
  | (a, b) :: x, (c, d) :: y, h => by
    simp only [entsEq, Bool.and_eq_true] at h
    rw [AV.eqb_eq _ _ h.1.1, AV.eqb_eq _ _ h.1.2, entsEq_eq _ _ h.2]

/-- Does a heap begin with another one? -/
def heapPre : Heap → Heap → Bool
  | [], _ => true
  | .cells cs g :: x, .cells cs' g' :: y => Nat.beq g g' && AV.eqbs cs cs' && heapPre x y
  | .map es :: x, .map es' :: y => entsEq es es' && heapPre x y
  | _, _ => false
theorem heapPre_take : ∀ (x y : Heap), heapPre x y = true → y.take x.length = x
  | [], y, _ => by simp
  | a :: x, [], h => by cases a <;> simp [heapPre] at h
  | a :: x, b :: y, h => by
    cases a <;> cases b <;> simp only [heapPre, Bool.and_eq_true, Bool.false_eq_true] at h
    · rw [Nat.eq_of_beqb h.1.1, AV.eqbs_eq _ _ h.1.2]
      simp [heapPre_take x y h.2]
    · rw [entsEq_eq _ _ h.1]
      simp [heapPre_take x y h.2]

variable (C : Cfg)

def leaveK (f : Nat) (h : Heap) (v : AV) (h' : Heap) : Option (CRes × Heap) :=
  match C.pure f with
  | true => match heapPre h h' with
    | true => (freezeV h' h.length 40 v).map fun v => (.ret v, h)
    | false => none
  | false => some (.ret v, h')

theorem leaveK_le (f : Nat) (h : Heap) (v : AV) (h' : Heap) : LeO (leaveK C f h v h') (leaveA C f h v h') := by
  intro r hr
  unfold leaveK at hr
  unfold leaveA
  cases hp : C.pure f with
  | false =>
    rw [hp] at hr
    simpa using hr
  | true =>
    rw [hp] at hr
    simp only at hr
    cases hq : heapPre h h' with
    | false => rw [hq] at hr; cases hr
    | true =>
      rw [hq] at hr
      rw [if_pos rfl, if_pos (heapPre_take h h' hq)]
      exact hr


inductive KR (α : Type) where
  | ok (a : α)
  | bad (f t : Nat)

def KR.bind {α β : Type} (x : KR α) (g : α → KR β) : KR β :=
  match x with
  | .ok a => g a
  | .bad f t => .bad f t

def KR.opt {α : Type} : KR α → Option α
  | .ok a => some a
  | .bad _ _ => none

def lift {α : Type} (f t : Nat) : Option α → KR α
  | some a => .ok a
  | none => .bad f t

theorem opt_lift {α : Type} (f t : Nat) (x : Option α) : (lift f t x).opt = x := by cases x <;> rfl
theorem opt_bind {α β : Type} (x : KR α) (g : α → KR β) : (x.bind g).opt = x.opt.bind fun a => (g a).opt := by cases x <;> rfl

def argsE : Nat → List AV → Env
  | _, [] => []
  | i, v :: r => (i, v) :: argsE (i + 1) r
theorem argsE_eq : ∀ (l : List AV) (i : Nat), argsE i l = (l.zipIdx i).map fun (v, i) => (i, v)
  | [], _ => rfl
  | v :: r, i => by simp [argsE, argsE_eq r (i + 1)]

/-- A value, gone into: what is done with it sees its form. -/
def AV.force {β : Type} (v : AV) (k : AV → β) : β :=
  match v with
  | .bool b => k (.bool b)
  | .int i n => k (.int i n)
  | .str s => k (.str s)
  | .nilPtr => k .nilPtr
  | .nilMap => k .nilMap
  | .nilFunc => k .nilFunc
  | .nilIface => k .nilIface
  | .ptr o a g => k (.ptr o a g)
  | .ref cs => k (.ref cs)
  | .lst xs z r => k (.lst xs z r)
  | .msl o a l z g c => k (.msl o a l z g c)
  | .clo f cs => k (.clo f cs)
  | .yld l => k (.yld l)
  | .map o => k (.map o)
  | .iface t x => k (.iface t x)
  | .agg cs => k (.agg cs)
  | .tup cs => k (.tup cs)
  | .junk => k .junk
theorem AV.force_eq {β : Type} (v : AV) (k : AV → β) : AV.force v k = k v := by cases v <;> rfl

def keepK (e : Env) : List Nat → Env
  | [] => []
  | t :: r => (e.get t).force fun v => (t, v) :: keepK e r
theorem keepK_eq (e : Env) : ∀ l, keepK e l = e.keep l
  | [] => rfl
  | t :: r => by simp only [keepK, AV.force_eq, keepK_eq e r, Env.keep]

/-- An operation, its own parts first: what is known of it is gone through once. -/
def opK : Op → Option Nat → Nat → Env → Heap → Option (AV × Heap)
  | .move x => fun _ _ e h => (evalA C e x).bind fun v => some (v, h)
  | .assign x => fun _ _ e h => (evalA C e x).bind fun v => some (v, h)
  | .load t a => fun d f e h => (evalA C e a).bind fun x => match (d.map (C.quiet f)).getD false && !x.isRef with
    | true => none
    | false => (loadA C h t x).bind fun v => some (v, h)
  | .store t a x => fun _ _ e h => (evalA C e a).bind fun u => (evalA C e x).bind fun v => (storeA C h t u v).bind fun h' => some (.tup [], h')
  | .binOp op t x y _ => fun _ _ e h => (evalA C e x).bind fun u => (evalA C e y).bind fun v => (binA C h op t u v).bind fun z => some (z, h)
  | .fieldAddr t x k => fun _ _ e h => (evalA C e x).bind fun u => (fieldAddrA C h t u k).bind fun z => some (z, h)
  | .field t x k => fun _ _ e h => (evalA C e x).bind fun u => (fieldA C t u k).bind fun z => some (z, h)
  | .indexAddr t x y => fun _ _ e h => (evalA C e x).bind fun u => (evalA C e y).bind fun v => (indexAddrA C h t u v).bind fun z => some (z, h)
  | .index t x y => fun _ _ e h => (evalA C e x).bind fun u => (evalA C e y).bind fun v => (indexA C t u v).bind fun z => some (z, h)
  | .unOp op _ x => fun _ _ e h => (evalA C e x).bind fun u => (unA op u).bind fun z => some (z, h)
  | .lookup t x k ok => fun _ _ e h => (evalA C e x).bind fun u => (evalA C e k).bind fun v => (lookupA C h t u v ok).bind fun z => some (z, h)
  | op => fun d f e h => opA C f e h { dst := d, op := op, type := 0, pos := "", after := #[], guard := none }

theorem opA_op (f : Nat) (e : Env) (h : Heap) (o : Oper) : opA C f e h { dst := o.dst, op := o.op, type := 0, pos := "", after := #[], guard := none } = opA C f e h o := rfl

theorem opK_eq (f : Nat) (e : Env) (h : Heap) (o : Oper) : opK C o.op o.dst f e h = opA C f e h o := by
  rw [← opA_op]
  cases ho : o.op <;> first | rfl | skip
  simp only [opK, opA, Option.bind_eq_bind]
  congr 1
  funext x
  cases (o.dst.map (C.quiet f)).getD false && !x.isRef <;> rfl

def goOn (f : Nat) (ops : Array Oper) (d : Option Nat) (cont : Env → Heap → KR (Out × Env × Heap)) (e : Env) (v : AV) (h : Heap) : KR (Out × Env × Heap) :=
  match looseAll C f ops d e h with
  | true => v.force fun v => cont (e.putAt d v) h
  | false => .bad f (7000000 + d.getD 99999)

def stepC (f : Nat) (ops : Array Oper) (d : Option Nat) (ga : Operand × Array Operand) (cv : AV → List AV → Heap → KR (CRes × Heap)) (cont : Env → Heap → KR (Out × Env × Heap)) (e : Env) (h : Heap) : KR (Out × Env × Heap) :=
  match mapO (evalA C e) ga.2.toList with
  | none => .bad f (4000000 + d.getD 99999)
  | some vs => match evalA C e ga.1 with
    | none => .bad f (5000000 + d.getD 99999)
    | some gv => match (d.map (C.quiet f)).getD false && !pureV C gv with
      | true => .bad f (6000000 + d.getD 99999)
      | false => (cv gv vs h).bind fun x => match x.1 with
        | .ret v => goOn C f ops d cont e v x.2
        | .pan v => .ok (.pan v, e, x.2)

def stepO (f : Nat) (ops : Array Oper) (o : Oper) (cv : AV → List AV → Heap → KR (CRes × Heap)) (cont : Env → Heap → KR (Out × Env × Heap)) (e : Env) (h : Heap) : KR (Out × Env × Heap) :=
  match callee o with
  | none => (lift f (3000000 + o.dst.getD 99999) (opK C o.op o.dst f e h)).bind fun x => goOn C f ops o.dst cont e x.1 x.2
  | some ga => stepC C f ops o.dst ga cv cont e h

def stepK (f : Nat) (ops : Array Oper) (o : Oper) (cv : AV → List AV → Heap → KR (CRes × Heap)) (cont : Env → Heap → KR (Out × Env × Heap)) (e : Env) (h : Heap) : KR (Out × Env × Heap) :=
  match wantA ops e o with
  | none => .bad f (2000000 + o.dst.getD 99999)
  | some false => cont (e.putAt o.dst (.tup [])) h
  | some true => stepO C f ops o cv cont e h

def seqK (a b : Env → Heap → KR (Out × Env × Heap)) (e : Env) (h : Heap) : KR (Out × Env × Heap) := (a e h).bind fun x => match x.1 with
  | .nrm => b x.2.1 x.2.2
  | _ => .ok x

def condK (f : Nat) (c : Operand) (a b : Env → Heap → KR (Out × Env × Heap)) (e : Env) (h : Heap) : KR (Out × Env × Heap) := match evalA C e c with
  | some (.bool true) => a e h
  | some (.bool false) => b e h
  | _ => .bad f 999986

def blockK (id : Nat) (b : Env → Heap → KR (Out × Env × Heap)) (e : Env) (h : Heap) : KR (Out × Env × Heap) := (b e h).bind fun x => match x.1 with
  | .exit id' => match Nat.beq id' id with
    | true => .ok (.nrm, x.2.1, x.2.2)
    | false => .ok x
  | _ => .ok x

def regionK (f id : Nat) (draw : Bool) (y : KR (Out × Env × Heap)) : KR (Out × Env × Heap) := y.bind fun x => match x.1 with
  | .nrm => (match C.live f id with | some l => .ok (.nrm, keepK x.2.1 l, x.2.2) | none => .ok (.nrm, x.2.1, x.2.2))
  | _ => match draw with
    | true => .bad f (1000000 + id)
    | false => .ok x

def rangeK (f : Nat) (g : Operand) (ps : Array Nat) (assign body : Code) (cl : Nat → List AV → Heap → KR (CRes × Heap)) (e : Env) (h : Heap) : KR (Out × Env × Heap) := match evalA C e g with
  | some (.clo g caps) => (cl g (.yld h.length :: caps) (h ++ [.loop { st := .ready, pend := none, f, env := e, ps := ps.toList, assign, body }])).bind fun x =>
    (lift f 999985 (x.2.loopAt h.length)).bind fun r => match x.1 with
    | .ret _ => match r.st == .busy with
      | true => .bad f 999984
      | false => match r.pend with
        | none => .ok (.nrm, e, x.2.set h.length (.loop { r with st := .exhausted }))
        | some .ret => .ok (.ret, e, x.2.set h.length (.loop { r with st := .exhausted }))
        | some (.exit id) => .ok (.exit id, e, x.2.set h.length (.loop { r with st := .exhausted }))
        | _ => .bad f 999983
    | .pan _ => .bad f 999982
  | _ => .bad f 999981

def roundK (o : Nat) (vs : List AV) (ex : Nat → Code → Env → Heap → KR (Out × Env × Heap)) (h : Heap) : KR (CRes × Heap) := (lift 0 999993 (h.loopAt o)).bind fun r =>
  match r.st != .ready || r.ps.length != vs.length with
  | true => .bad r.f 999992
  | false => (ex r.f r.assign (r.env.puts r.ps vs) h).bind fun x => match x.1 with
    | .nrm => (lift r.f 999991 (x.2.2.loopAt o)).bind fun r1 =>
      match r1.st != .ready with
      | true => .bad r.f 999990
      | false => (ex r.f r.body x.2.1 (x.2.2.set o (.loop { r1 with st := .busy }))).bind fun y =>
        lift r.f 999989 ((y.2.2.loopAt o).bind fun r2 => (jumpOf y.1).bind fun j =>
          some (.ret (.bool j.isNone), y.2.2.set o (.loop { r2 with st := if j.isNone then .ready else .done, pend := j })))
    | _ => .bad r.f 999988

def endK (f : Nat) (fi : FI) (h : Heap) (y : KR (Out × Env × Heap)) : KR (CRes × Heap) := y.bind fun x => match x.1 with
  | .nrm | .ret => lift f 999995 ((resultsA C x.2.2 x.2.1 fi.results).bind fun vs => leaveK C f h (packA vs) x.2.2)
  | .pan v => .ok (.pan v, x.2.2)
  | .exit _ => .bad f 999994

def aloneK (f : Nat) (fi : FI) (h : Heap) (y : KR (Out × Env × Heap)) : KR (CRes × Heap) := y.bind fun x => match x.1 with
  | .nrm | .ret => lift f 999978 ((resultsA C x.2.2 x.2.1 fi.results).bind fun rs => match (packA rs).plain with
    | true => some (.ret (packA rs), h)
    | false => none)
  | _ => .bad f 999977

mutual
def callK : Nat → Nat → List AV → Heap → KR (CRes × Heap)
  | 0, f, _, _ => .bad f 999999
  | k + 1, f, args, h =>
    match C.prim f with
    | some p => lift f 999998 (p args h)
    | none =>
      match C.fn f with
      | none => .bad f 999997
      | some fi =>
        match args.length != fi.params with
        | true => .bad f 999996
        | false => match C.alone f with
          | true => match mapO (freezeV h 0 40) args with
            | none => .bad f 999979
            | some avs => aloneK C f fi h (execK k f fi.body (argsE 0 avs) [])
          | false => endK C f fi h (execK k f fi.body (argsE 0 args) h)
def callVK : Nat → AV → List AV → Heap → KR (CRes × Heap)
  | 0, _, _, _ => .bad 0 999999
  | k + 1, g, vs, h =>
    match g with
    | .clo g caps => callK k g (vs ++ caps) h
    | .yld o => roundK o vs (execK k) h
    | _ => .bad 0 999987
def execK : Nat → Nat → Code → Env → Heap → KR (Out × Env × Heap)
  | 0, f, _, _, _ => .bad f 999999
  | k + 1, f, c, e, h =>
    match c with
    | .skip | .label _ => .ok (.nrm, e, h)
    | .seq a b => seqK (execK k f a) (execK k f b) e h
    | .cond c a b => condK C f c (execK k f a) (execK k f b) e h
    | .block id b => blockK id (execK k f b) e h
    | .loop b => seqK (execK k f b) (execK k f (.loop b)) e h
    | .exit id => .ok (.exit id, e, h)
    | .scope b => execK k f b e h
    | .ret => .ok (.ret, e, h)
    | .region id ops draw => regionK C f id draw (opsK k f ops (sched ops draw) e h)
    | .rangeFunc g ps assign body => rangeK C f g ps assign body (callK k) e h
    | _ => .bad f 999980
def opsK : Nat → Nat → Array Oper → List Oper → Env → Heap → KR (Out × Env × Heap)
  | 0, f, _, l, _, _ => .bad f (9000000 + match l with | o :: _ => o.dst.getD 9999 | [] => 99999)
  | _ + 1, _, _, [], e, h => .ok (.nrm, e, h)
  | k + 1, f, ops, o :: r, e, h => stepK C f ops o (callVK k) (opsK k f ops r) e h
end

structure TwinAt (k : Nat) : Prop where
  val : ∀ g vs h, LeO (callVK C k g vs h).opt (callV C k g vs h)
  call : ∀ f args h, LeO (callK C k f args h).opt (callF C k f args h)
  exec : ∀ f c e h, LeO (execK C k f c e h).opt (execF C k f c e h)
  ops : ∀ f ops l e h, LeO (opsK C k f ops l e h).opt (opsF C k f ops l e h)

theorem LeO.bind' {α β : Type} {a : KR α} {b : Option α} {f : α → KR β} {g : α → Option β} (h : LeO a.opt b) (h' : ∀ x, LeO (f x).opt (g x)) : LeO (a.bind f).opt (b.bind g) := by
  rw [opt_bind]; exact LeO.bind h h'
theorem LeO.lift {α : Type} {f t : Nat} (a : Option α) : LeO (Go.Rv.lift f t a).opt a := by rw [opt_lift]; exact LeO.refl _
theorem LeO.bad {α : Type} {f t : Nat} (a : Option α) : LeO (KR.bad f t : KR α).opt a := fun _ h => by cases h
theorem LeO.of_eq {α : Type} {a b : Option α} (h : a = b) : LeO a b := h ▸ LeO.refl a

theorem twin_at : ∀ k, TwinAt C k
  | 0 => ⟨fun _ _ _ r h => by simp [callVK, KR.opt] at h, fun _ _ _ r h => by simp [callK, KR.opt] at h, fun _ _ _ _ r h => by simp [execK, KR.opt] at h, fun _ _ _ _ _ r h => by simp [opsK, KR.opt] at h⟩
  | k + 1 => by
    have ih := twin_at k
    refine ⟨?_, ?_, ?_, ?_⟩
    · intro g vs h
      cases g <;> simp only [callVK, roundK, callV, Option.bind_eq_bind] <;> first | exact LeO.bad _ | exact ih.call _ _ _ | skip
      refine LeO.bind' (LeO.lift _) fun r => ?_
      cases hc : (r.st != .ready || r.ps.length != vs.length) with
      | true => exact LeO.bad _
      | false =>
        simp only [Bool.false_eq_true, if_false]
        refine LeO.bind' (ih.exec _ _ _ _) fun x => ?_
        obtain ⟨out, e1, h1⟩ := x
        cases out <;> first | exact LeO.bad _ | skip
        refine LeO.bind' (LeO.lift _) fun r1 => ?_
        dsimp only
        cases hc1 : (r1.st != .ready) with
        | true => exact LeO.bad _
        | false =>
          simp only [Bool.false_eq_true, if_false]
          refine LeO.bind' (ih.exec _ _ _ _) fun y => ?_
          exact LeO.lift _
    · intro f args h
      rw [callK, callF]
      cases hp : C.prim f with
      | some p => exact LeO.lift _
      | none =>
        simp only [Option.bind_eq_bind]
        cases hf : C.fn f with
        | none => exact LeO.bad _
        | some fi =>
          simp only [Option.bind_some]
          cases hl : args.length != fi.params with
          | true => exact LeO.bad _
          | false =>
            simp only [Bool.false_eq_true, if_false]
            cases hal : C.alone f with
            | true =>
              simp only [if_true]
              cases has : mapO (freezeV h 0 40) args with
              | none => exact LeO.bad _
              | some avs =>
                simp only [Option.bind_some]
                rw [argsE_eq]
                unfold aloneK
                refine LeO.bind' (ih.exec _ _ _ _) fun x => ?_
                obtain ⟨out, e1, h1⟩ := x
                have key : LeO (lift f 999978 ((resultsA C h1 e1 fi.results).bind fun rs => match (packA rs).plain with
                    | true => some (CRes.ret (packA rs), h)
                    | false => none)).opt ((resultsA C h1 e1 fi.results).bind fun rs => if (packA rs).plain then some (CRes.ret (packA rs), h) else none) := by
                  rw [opt_lift]
                  refine LeO.bind (LeO.refl _) fun rs => ?_
                  cases (packA rs).plain <;> exact LeO.refl _
                cases out <;> first | exact key | exact LeO.bad _
            | false =>
            simp only [Bool.false_eq_true, if_false]
            rw [argsE_eq]
            unfold endK
            refine LeO.bind' (ih.exec _ _ _ _) fun x => ?_
            obtain ⟨out, e1, h1⟩ := x
            cases out <;> simp only
            · rw [opt_lift]
              exact LeO.bind (LeO.refl _) fun vs => leaveK_le C _ _ _ _
            · exact LeO.bad _
            · rw [opt_lift]
              exact LeO.bind (LeO.refl _) fun vs => leaveK_le C _ _ _ _
            · exact LeO.refl _
    · intro f c e h
      cases c <;> simp only [execK, seqK, condK, blockK, regionK, rangeK, execF, Option.bind_eq_bind] <;> first | exact LeO.bad _ | exact LeO.refl _ | exact ih.exec _ _ _ _ | skip
      · refine LeO.bind' (ih.ops _ _ _ _ _) fun x => ?_
        obtain ⟨out, e1, h1⟩ := x
        rename_i d
        cases out with
        | nrm =>
          dsimp only
          cases C.live f _ with
          | none => exact LeO.refl _
          | some l => dsimp only; rw [keepK_eq]; exact LeO.refl _
        | _ => cases d <;> first | exact LeO.refl _ | exact LeO.bad _
      · refine LeO.bind' (ih.exec _ _ _ _) fun x => ?_
        obtain ⟨out, e1, h1⟩ := x
        cases out <;> first | exact ih.exec _ _ _ _ | exact LeO.refl _
      · cases hv : evalA C e _ with
        | none => exact LeO.bad _
        | some v =>
          simp only [Option.bind_some]
          cases v <;> first | exact LeO.bad _ | skip
          rename_i b
          cases b <;> exact ih.exec _ _ _ _
      · refine LeO.bind' (ih.exec _ _ _ _) fun x => ?_
        obtain ⟨out, e1, h1⟩ := x
        cases out <;> first | exact LeO.refl _ | skip
        dsimp only
        split <;> rename_i hb
        · have he := Nat.eq_of_beqb hb
          subst he
          intro r hr
          simpa [KR.opt] using hr
        · have he := Nat.ne_of_beq_eq_false hb
          intro r hr
          simp only [beq_iff_eq, he, if_false]
          exact hr
      · refine LeO.bind' (ih.exec _ _ _ _) fun x => ?_
        obtain ⟨out, e1, h1⟩ := x
        cases out <;> first | exact ih.exec _ _ _ _ | exact LeO.refl _
      · cases hv : evalA C e _ with
        | none => exact LeO.bad _
        | some v =>
          simp only [Option.bind_some]
          cases v <;> first | exact LeO.bad _ | skip
          refine LeO.bind' (ih.call _ _ _) fun x => ?_
          refine LeO.bind' (LeO.lift _) fun r => ?_
          obtain ⟨res, h1⟩ := x
          cases res with
          | pan v => exact LeO.bad _
          | ret v =>
            simp only
            cases hb : (r.st == LoopState.busy) with
            | true => exact LeO.bad _
            | false =>
              simp only [Bool.false_eq_true, if_false]
              cases hpd : r.pend with
              | none => simp only [hpd]; exact LeO.refl _
              | some c => cases c <;> first | exact LeO.bad _ | exact LeO.refl _
    · intro f ops l e h
      cases l with
      | nil => simp only [opsK, opsF]; exact LeO.refl _
      | cons o r =>
        rw [opsF_cons]
        simp only [opsK, stepK, stepO, stepC, goOn, opK_eq, AV.force_eq]
        cases hw : wantA ops e o with
        | none => exact LeO.bad _
        | some b =>
          simp only [Option.bind_some]
          cases b with
          | false => exact ih.ops _ _ _ _ _
          | true =>
            simp only
            cases hc : callee o with
            | none =>
              refine LeO.bind' (LeO.lift _) fun x => ?_
              cases hl : looseAll C f ops o.dst e x.2 with
              | true => simp only [if_true]; exact ih.ops _ _ _ _ _
              | false => exact LeO.bad _
            | some ga =>
              simp only
              cases hvs : mapO (evalA C e) ga.2.toList with
              | none => exact LeO.bad _
              | some vs =>
                simp only [Option.bind_some]
                cases hg : evalA C e ga.1 with
                | none => exact LeO.bad _
                | some gv =>
                  simp only [Option.bind_some]
                  cases hq : ((o.dst.map (C.quiet f)).getD false && !pureV C gv) with
                  | true => exact LeO.bad _
                  | false =>
                    simp only [Bool.false_eq_true, if_false]
                    refine LeO.bind' (ih.val _ _ _) fun x => ?_
                    obtain ⟨res, h1⟩ := x
                    cases res with
                    | pan v => exact LeO.refl _
                    | ret v =>
                      dsimp only
                      cases hl : looseAll C f ops o.dst e h1 with
                      | true => simp only [if_true]; exact ih.ops _ _ _ _ _
                      | false => exact LeO.bad _

/-- What the twin answers. -/
theorem call_of_run {k f : Nat} {args : List AV} {h : Heap} {r : CRes × Heap} (hr : (callK C k f args h).opt = some r) : call C f args h = some r :=
  (call_iff C).2 ⟨k, (twin_at C k).call f args h r hr⟩

/-- Is the answer true? -/
def isTrueK : KR (CRes × Heap) → Bool
  | .ok (.ret (.bool b), _) => b
  | _ => false

theorem runs_true {k f : Nat} {args : List AV} {h : Heap} (hr : isTrueK (callK C k f args h) = true) : ∃ h', call C f args h = some (.ret (.bool true), h') := by
  have h2 : ∀ x : KR (CRes × Heap), isTrueK x = true → ∃ h', x.opt = some (.ret (.bool true), h') := by
    intro x hx
    unfold isTrueK at hx
    split at hx
    · rename_i b h'
      subst hx
      exact ⟨h', rfl⟩
    · cases hx
  obtain ⟨h', hh⟩ := h2 _ hr
  exact ⟨h', call_of_run C hh⟩
end
end Go.Rv

/-
  Runs cut in pieces: statement after statement, between explicit environments and heaps.
-/
set_option linter.unusedSimpArgs false
set_option linter.unusedVariables false
namespace Go.Rv
noncomputable section
variable (C : Cfg)

def takeC : Nat → Code → Code
  | 0, _ => .skip
  | n + 1, .seq a b => .seq a (takeC n b)
  | _ + 1, c => c
def dropC : Nat → Code → Code
  | 0, c => c
  | n + 1, .seq _ b => dropC n b
  | _ + 1, _ => .skip

theorem exec_of_run {k f : Nat} {c : Code} {e : Env} {h : Heap} {r : Out × Env × Heap} (hr : execK C k f c e h = .ok r) : exec C f c e h = some r :=
  (exec_iff C).2 ⟨k, (twin_at C k).exec f c e h r (by rw [hr]; rfl)⟩

theorem exec_skip_eq {f : Nat} {e : Env} {h : Heap} {r : Out × Env × Heap} (H : exec C f .skip e h = some r) : r = (.nrm, e, h) := by
  obtain ⟨k, H⟩ := (exec_iff C).1 H
  cases k with
  | zero => simp [execF] at H
  | succ k =>
    simp only [execF, Option.some.injEq] at H
    exact H.symm

theorem exec_cut {f : Nat} : ∀ (n : Nat) {c : Code} {e e1 : Env} {h h1 : Heap} {r : Out × Env × Heap}, exec C f (takeC n c) e h = some (.nrm, e1, h1) → exec C f (dropC n c) e1 h1 = some r → exec C f c e h = some r := by
  intro n
  induction n with
  | zero =>
    intro c e e1 h h1 r H1 H2
    have H := exec_skip_eq C H1
    simp only [Prod.mk.injEq, true_and] at H
    obtain ⟨rfl, rfl⟩ := H
    exact H2
  | succ n ih =>
    intro c e e1 h h1 r H1 H2
    cases c with
    | seq a b =>
      simp only [takeC] at H1
      simp only [dropC] at H2
      rw [exec_seq] at H1 ⊢
      obtain ⟨⟨o, e2, h2⟩, ha, hb⟩ := Option.bind_eq_some_iff.1 H1
      rw [ha]
      cases o with
      | nrm => exact ih hb H2
      | _ => simp at hb
    | _ =>
      simp only [dropC] at H2
      have H := exec_skip_eq C H2
      subst H
      exact H1

/-- The call, by its body. -/
theorem call_of_comes {f : Nat} {args : List AV} {h : Heap} {fi : FI} {x : Out × Env × Heap} {r : CRes × Heap} (hp : C.prim f = none) (hf : C.fn f = some fi) (hl : (args.length != fi.params) = false) (hal : C.alone f = false)
    (hx : exec C f fi.body (argsE 0 args) h = some x) (hr : endK C f fi h (.ok x) = .ok r) : call C f args h = some r := by
  obtain ⟨k, hx⟩ := (exec_iff C).1 hx
  refine (call_iff C).2 ⟨k + 1, ?_⟩
  rw [argsE_eq] at hx
  simp only [callF, hp, hf, hl, hal, Option.bind_eq_bind, Option.bind_some, Bool.false_eq_true, if_false, hx]
  obtain ⟨out, e1, h1⟩ := x
  simp only [endK, KR.bind] at hr
  have key : ∀ {y : Option (CRes × Heap)} {n m : Nat}, lift n m y = .ok r → y = some r := by
    intro y n m hy
    cases y with
    | none => simp [lift] at hy
    | some z => simp only [lift, KR.ok.injEq] at hy; rw [hy]
  have key2 : lift f 999995 ((resultsA C h1 e1 fi.results).bind fun vs => leaveK C f h (packA vs) h1) = .ok r → ((resultsA C h1 e1 fi.results).bind fun vs => leaveA C f h (packA vs) h1) = some r := by
    intro hy
    have hy := key hy
    exact LeO.bind (LeO.refl _) (fun vs => leaveK_le C _ _ _ _) _ hy
  cases out with
  | nrm => exact key2 hr
  | ret => exact key2 hr
  | pan v => simp only [KR.ok.injEq] at hr; simp only [hr]
  | exit id => simp at hr
end
end Go.Rv

/-
  'slices.Sorted(maps.Keys(m))' at int keys, as one step of the interpreter: the keys, sorted.
-/
set_option linter.unusedSimpArgs false
set_option linter.unusedVariables false
namespace Go.Rv
open Go.Maps Go.RowKit

def keysI : List (AV × AV) → Option (List Int)
  | [] => some []
  | (.int k n, _) :: r => if k == .i64 && (Lit.int .i64 n).wf then (keysI r).map (n :: ·) else none
  | _ => none

def insI (x : Int) : List Int → List Int
  | [] => [x]
  | y :: r => match decide (x ≤ y) with
    | true => x :: y :: r
    | false => y :: insI x r
def isort : List Int → List Int
  | [] => []
  | x :: r => insI x (isort r)

theorem insI_perm (x : Int) : ∀ l, (insI x l).Perm (x :: l)
  | [] => List.Perm.refl _
  | y :: r => by
    simp only [insI]
    cases decide (x ≤ y) with
    | true => exact List.Perm.refl _
    | false => exact ((insI_perm x r).cons y).trans (List.Perm.swap x y r)
theorem isort_perm : ∀ l, (isort l).Perm l
  | [] => List.Perm.refl _
  | x :: r => (insI_perm x (isort r)).trans ((isort_perm r).cons x)
theorem insI_sorted (x : Int) : ∀ l, l.Pairwise (fun a b => leI a b = true) → (insI x l).Pairwise (fun a b => leI a b = true)
  | [], _ => by simp [insI]
  | y :: r, h => by
    have h1 := List.pairwise_cons.1 h
    simp only [insI]
    cases hd : decide (x ≤ y) with
    | true =>
      have hxy : x ≤ y := by simpa using hd
      refine List.pairwise_cons.2 ⟨fun a ha => ?_, h⟩
      rcases List.mem_cons.1 ha with rfl | ha
      · simpa [leI] using hxy
      · have := h1.1 a ha
        simp only [leI, decide_eq_true_eq] at this ⊢
        omega
    | false =>
      have hxy : ¬ x ≤ y := by simpa using hd
      refine List.pairwise_cons.2 ⟨fun a ha => ?_, insI_sorted x r h1.2⟩
      rcases List.mem_cons.1 ((insI_perm x r).mem_iff.1 ha) with rfl | ha
      · simp only [leI, decide_eq_true_eq]; omega
      · exact h1.1 a ha
theorem isort_sorted : ∀ l, (isort l).Pairwise (fun a b => leI a b = true)
  | [] => by simp [isort]
  | x :: r => insI_sorted x _ (isort_sorted r)
theorem isort_eq {l l' : List Int} (h : l.Perm l') : l.mergeSort leI = isort l' := by
  have tr : ∀ a b c : Int, leI a b = true → leI b c = true → leI a c = true := fun a b c h1 h2 => by simp only [leI, decide_eq_true_eq] at *; exact Int.le_trans h1 h2
  have to : ∀ a b : Int, (leI a b || leI b a) = true := fun a b => by simp only [leI, Bool.or_eq_true, decide_eq_true_eq]; exact Int.le_total a b
  refine List.Perm.eq_of_pairwise (le := fun a b => leI a b = true) (fun a b _ _ h1 h2 => ?_) (List.pairwise_mergeSort tr to l) (isort_sorted l') (((List.mergeSort_perm l leI).trans h).trans (isort_perm l').symm)
  simp only [leI, decide_eq_true_eq] at h1 h2
  exact Int.le_antisymm h1 h2

def keysOut (l : List Int) : AV := match l with
  | [] => .lst [] 1 .nil
  | x :: r => .lst ((x :: r).map (AV.int .i64)) 1 .open

/-- slices.Sorted at what maps.Keys hands back (its function's number: clo). -/
def sortedKeys (clo : Nat) (args : List AV) (h : Heap) : Option (CRes × Heap) :=
  match args with
  | [.clo g [.ptr o 0 gen]] =>
    if g = clo then
      (h.obj o gen).bind fun cs => match cs with
        | .map m :: _ => (h.mapAt m).bind fun es => (keysI es).bind fun ks => if es.length ≤ 1000000 then some (.ret (keysOut (isort ks)), h) else none
        | _ => none
    else none
  | _ => none

section
variable {P : Program} {C : Cfg} {s : Sim} {h : Heap} {w : World}

abbrev anyR : Value → Option (DataW Unit × List MemPlace) := fun _ => some (.lit (.bool true), [])

theorem keysI_rel : ∀ {es : List (AV × AV)} {en : List MapEntry} {ks : List Int}, Ents s h w es en → keysI es = some ks → en.map (·.key) = ks.map encZ ∧ ∀ n ∈ ks, (Lit.int .i64 n).wf = true
  | [], [], ks, _, hk => by
    simp only [keysI, Option.some.injEq] at hk
    subst hk
    exact ⟨rfl, fun n hn => by simp at hn⟩
  | [], _ :: _, _, H, _ => by have := H.1; simp at this
  | _ :: _, [], _, H, _ => by have := H.1; simp at this
  | (k, v) :: es, m :: en, ks, H, hk => by
    obtain ⟨⟨h1, _⟩, ht⟩ := H.tail
    cases k <;> simp only [keysI, reduceCtorEq] at hk
    rename_i kk n
    split at hk
    · rename_i hc
      simp only [Bool.and_eq_true, beq_iff_eq] at hc
      obtain ⟨rfl, hwf⟩ := hc
      obtain ⟨r, hr, rfl⟩ := Option.map_eq_some_iff.1 hk
      obtain ⟨h2, h3⟩ := keysI_rel ht hr
      generalize hmk : m.key = mk at h1
      cases h1
      refine ⟨?_, fun a ha => ?_⟩
      · simp only [List.map_cons, h2, hmk]
      · rcases List.mem_cons.1 ha with rfl | ha
        · exact hwf
        · exact h3 a ha
    · cases hk

theorem ownsMap_rel {kt b cl : Nat} {en : Array MapEntry} {ks : List Int} (hkt : P.underlying kt = some (.int .i64)) (hheap : w.heap[b]? = some (.map en cl)) (hS : MapKept.Stamped en cl) (hsz : en.size ≤ maxLen)
    (hkeys : en.toList.map (·.key) = ks.map encZ) (hwf : ∀ n ∈ ks, (Lit.int .i64 n).wf = true) :
    ∃ D0 : DataW Unit, w.ownsMap P kt anyR b en.size D0 ∧ (intKeys D0).Perm ks ∧ Maps.size D0 = en.size := by
  have hrd : ∀ x ∈ en.toList, ∃ n, n ∈ ks ∧ x.key = encZ n ∧ WideElems.rd P kt anyR x = some (.int .i64 n, .lit (.bool true)) := by
    intro x hx
    have : x.key ∈ en.toList.map (·.key) := List.mem_map.2 ⟨x, hx, rfl⟩
    rw [hkeys] at this
    obtain ⟨n, hn, he⟩ := List.mem_map.1 this
    refine ⟨n, hn, he.symm, ?_⟩
    obtain ⟨key, val, born⟩ := x
    simp only at he
    subst he
    exact WideElems.rd_mk (R := anyR) (yv := (.lit (.bool true), [])) (keyOf_int_mk hkt (hwf n hn)) rfl
  refine ⟨.map ((en.toList.map (WideElems.rg P kt anyR)).foldr DataW.insert []), ⟨en, cl, hheap, ⟨hsz, hS, fun x hx => let ⟨n, _, _, h⟩ := hrd x hx; ⟨_, h⟩⟩, Nat.le_refl _, rfl⟩, ?_, ?_⟩
  · show (((en.toList.map (WideElems.rg P kt anyR)).foldr DataW.insert []).map fun p => intOf p.1).Perm ks
    refine ((WideShapes.sorted_perm _).map _).trans ?_
    rw [List.map_map]
    have : (en.toList.map ((fun p => intOf p.1) ∘ WideElems.rg P kt anyR)) = ks := by
      have h1 : en.toList.map ((fun p => intOf p.1) ∘ WideElems.rg P kt anyR) = (en.toList.map (·.key)).map (fun v => match v with | .int _ n => n | _ => 0) := by
        rw [List.map_map]
        refine List.map_congr_left fun x hx => ?_
        obtain ⟨n, _, hk, hr⟩ := hrd x hx
        simp only [Function.comp, WideElems.rg_of hr, hk, intOf]
      rw [h1, hkeys, List.map_map]
      simp [Function.comp_def, encZ]
    rw [this]
  · show ((en.toList.map (WideElems.rg P kt anyR)).foldr DataW.insert []).length = en.size
    rw [(WideShapes.sorted_perm _).length_eq]
    simp

theorem ext_below {s : Sim} {h : Heap} {w w' : World} (R : Rel s h w) (B : Below w.heap.size w w') (g : Nat) (hg : w.heap.size ≤ g) (hg' : g < w'.heap.size) :
    Ext s h w { s with I := fun b => s.I b ∨ b = g } h w' ∧ Rel { s with I := fun b => s.I b ∨ b = g } h w' := by
  have E : Ext s h w { s with I := fun b => s.I b ∨ b = g } h w' :=
    { size := B.size, far := fun b hb _ => B.block b hb, shape := fun b x hx => by rw [shape_of (B.block b (shape_lt hx))]; exact hx, imm := fun b hb => .inl hb, gen := fun _ g hg => ⟨g, hg, Nat.le_refl _⟩,
      same := fun _ _ _ _ => ⟨fun _ h => h, rfl⟩, kind := fun _ h => h, own := fun o b hb => .inl ⟨o, hb⟩, os := B.os, tape := B.tape, output := B.output, kindL := fun _ h => h, good := rfl, old := fun o b _ hb => ⟨b, hb⟩, kept := fun _ _ _ => rfl }
  refine ⟨E, R.inj, fun o b hb => ?_, fun o b hb hI => ?_, fun b hI => ?_⟩
  · obtain ⟨x, hx, hr⟩ := R.obj o b hb
    exact ⟨x, hx, hr.ext R.apart E (B.block b (R.lt hb))⟩
  · rcases hI with hI | rfl
    · exact R.apart o b hb hI
    · have := R.lt hb; omega
  · rcases hI with hI | rfl
    · exact Nat.lt_of_lt_of_le (R.imm b hI) B.size
    · exact hg'

/-- What the kit's contract says of slices.Sorted at what maps.Keys hands back. -/
def SortedSays (P : Program) (f clo kt : Nat) : Prop := ∀ (w : World) (Bm b nn : Nat) (D0 : DataW Unit), Bm < w.heap.size → w.cell? ⟨Bm, 0, none⟩ = some (.map (some b)) → w.ownsMap P kt anyR b nn D0 → Maps.size D0 ≤ maxLen → Maps.size D0 * 8 ≤ 140737488355328 →
  Calls P f #[.func (.func clo) #[] #[.pointer (some ⟨Bm, 0, none⟩)]] w fun e w' => ∃ (v : Value) (ss : List Int), e = .returned v ∧ ss.Perm (intKeys D0) ∧
    w'.ownsRow w.heap.size kt 1 v ss.length ((ss.mergeSort (fun x y => decide (x ≤ y))).map encZ) ∧ (v = .slice none 0 0 ↔ ss = []) ∧ Below w.heap.size w w'

theorem sortedKeys_ok {f clo kt : Nat} (hS : SortedSays P f clo kt) (hkt : P.underlying kt = some (.int .i64)) {args : List AV} {res : CRes} {h' : Heap} (hp : sortedKeys clo args h = some (res, h')) {vs : List Value} (R : Rel s h w) (H : VRs s h w args vs) : h' = h ∧ CallOk P f vs s h w res h' := by
  unfold sortedKeys at hp
  split at hp <;> first | cases hp | skip
  rename_i g o gen
  split at hp <;> first | cases hp | skip
  rename_i hg
  subst hg
  obtain ⟨cs, hcs, hp⟩ := Option.bind_eq_some_iff.1 hp
  split at hp <;> first | cases hp | skip
  rename_i m cr
  obtain ⟨es, hes, hp⟩ := Option.bind_eq_some_iff.1 hp
  obtain ⟨ks, hks, hp⟩ := Option.bind_eq_some_iff.1 hp
  by_cases hlen : es.length ≤ 1000000
  case neg => rw [if_neg hlen] at hp; cases hp
  rw [if_pos hlen] at hp
  simp only [Option.some.injEq, Prod.mk.injEq] at hp
  obtain ⟨rfl, rfl⟩ := hp
  refine ⟨rfl, ?_⟩
  obtain ⟨v0, hvs0⟩ := List.length_eq_one_iff.1 (show vs.length = 1 by rw [← H.1]; rfl)
  subst hvs0
  obtain ⟨v1, hv1, hvr⟩ := H.2 0 _ rfl
  have hv1 : v0 = v1 := by simpa using hv1
  subst hv1
  cases hvr with
  | clo _ _ us hl hr =>
  have hul : us.size = 1 := by simpa using hl.symm
  have h0 := hr 0 _ rfl
  have hus : us = #[us.getD 0 undef] := by
    apply Array.ext
    · simp [hul]
    · intro i h1 h2
      have : i = 0 := by omega
      subst this
      simp [h1]
  generalize us.getD 0 undef = pv at h0 hus
  subst hus
  have hgo := (genOf_obj hcs)
  cases h0 with
  | ptrOld _ _ _ g' a k1 k2 => have := hgo.1; rw [this] at k1; injection k1; omega
  | ptr _ _ _ bm k1 k2 =>
  obtain ⟨x, hx, hxr⟩ := R.obj o bm k2
  rw [hgo.2.1] at hx
  injection hx with hx; subst hx
  obtain ⟨bc, el, q1, q2, q3⟩ := hxr
  obtain ⟨mv, hmv, hmr⟩ := q3 0 _ rfl
  obtain ⟨b, en, cl, rfl, hb, hheap, hE, hSt⟩ := map_obj R hes hmr
  have hcell : w.cell? ⟨bm, 0, none⟩ = some (.map (some b)) := by
    unfold World.cell?
    rw [q1]
    simpa using hmv
  obtain ⟨e1, e2⟩ := keysI_rel hE hks
  have hel : en.size = es.length := by have := hE.1; simpa using this.symm
  obtain ⟨D0, d1, d2, d3⟩ := ownsMap_rel hkt hheap hSt (by rw [hel]; simp only [maxLen]; omega) e1 e2
  have hc := hS w bm b _ D0 (R.lt k2) hcell d1 (by rw [d3, hel]; simp only [maxLen]; omega) (by rw [d3, hel]; omega)
  refine Calls.mono hc fun e w' he => ?_
  obtain ⟨v, ss, rfl, p1, p2, p3, p4⟩ := he
  have hperm : ss.Perm ks := p1.trans d2
  have hsort : ss.mergeSort (fun x y => decide (x ≤ y)) = isort ks := isort_eq hperm
  obtain ⟨l1, l2⟩ := p2
  cases hk : isort ks with
  | nil =>
    have hksn : ks = [] := by
      have := (isort_perm ks).length_eq
      rw [hk] at this
      exact List.length_eq_zero_iff.1 this.symm
    have hssn : ss = [] := by
      have := hperm.length_eq
      rw [hksn] at this
      exact List.length_eq_zero_iff.1 this
    have hv := p3.2 hssn
    subst hv
    have E : Ext s h w s h w' :=
      { size := p4.size, far := fun b hb _ => p4.block b hb, shape := fun b x hx => by rw [shape_of (p4.block b (shape_lt hx))]; exact hx, imm := fun b hb => hb, gen := fun _ g hg => ⟨g, hg, Nat.le_refl _⟩,
        same := fun _ _ _ _ => ⟨fun _ h => h, rfl⟩, kind := fun _ h => h, own := fun o b hb => .inl ⟨o, hb⟩, os := p4.os, tape := p4.tape, output := p4.output, kindL := fun _ h => h, good := rfl, old := fun o b _ hb => ⟨b, hb⟩, kept := fun _ _ _ => rfl }
    refine ⟨s, E, ⟨R.inj, fun o b hb => ?_, R.apart, fun b hI => Nat.lt_of_lt_of_le (R.imm b hI) p4.size⟩, .lstNil 1⟩
    obtain ⟨x, hx, hr⟩ := R.obj o b hb
    exact ⟨x, hx, hr.ext R.apart E (p4.block b (R.lt hb))⟩
  | cons x r =>
    rw [hsort, hk] at l1 l2
    rcases l2 with ⟨rfl, hn⟩ | ⟨g', cap, cur, rfl, hge, hcur, hle, hmax, hcs2, htake⟩
    · rw [hn] at l1; simp at l1
    have hlt : g' < w'.heap.size := (Array.getElem?_eq_some_iff.1 hcur).1
    obtain ⟨E, R'⟩ := ext_below R p4 g' hge hlt
    refine ⟨_, E, R', ?_⟩
    have hll : ss.length = (x :: r).length := by simp only [List.length_map] at l1; omega
    have hval : ∀ i (c : Int), (x :: r)[i]? = some c → w'.cell? ⟨g', 0 + i * 1 + 0, none⟩ = some (.int .i64 c) := by
      intro i c hi
      have h1 : (cur.toList.take (ss.length * 1))[i]? = some (encZ c) := by rw [htake, List.getElem?_map, hi]; rfl
      have h2 : cur.toList[i]? = some (encZ c) := by
        rw [List.getElem?_take] at h1
        split at h1
        · exact h1
        · cases h1
      unfold World.cell?
      simp only [Nat.zero_add, Nat.mul_one, Nat.add_zero]
      rw [hcur]
      simpa using h2
    have key := VR.lst (s := { s with I := fun b => s.I b ∨ b = g' }) (h := h) (w := w') ((x :: r).map (AV.int .i64)) 1 .open g' 0 cap (fun i _ => .int .i64 ((x :: r).getD i 0)) (fun _ => .inr rfl) trivial (by simp only [List.length_map]; omega)
      (fun i y hi => by
        rw [List.getElem?_map] at hi
        obtain ⟨c, _, rfl⟩ := Option.map_eq_some_iff.1 hi
        rfl)
      (fun i j y z hi hj => by
        rw [List.getElem?_map] at hi
        obtain ⟨c, hc, rfl⟩ := Option.map_eq_some_iff.1 hi
        have hj0 : j = 0 := by
          have := (List.getElem?_eq_some_iff.1 hj).1
          simp [AV.cells] at this; exact this
        subst hj0
        rw [hval i c hc]
        simp [List.getD, hc])
      (fun i j y z hi hj => by
        rw [List.getElem?_map] at hi
        obtain ⟨c, hc, rfl⟩ := Option.map_eq_some_iff.1 hi
        have hj0 : j = 0 := by
          have := (List.getElem?_eq_some_iff.1 hj).1
          simp [AV.cells] at this; exact this
        subst hj0
        simp only [AV.cells, List.getElem?_cons_zero, Option.some.injEq] at hj
        subst hj
        simp only [List.getD, hc, Option.getD_some]
        exact .int _ _)
    simp only [List.length_map] at key
    rw [hll]
    exact key
end
end Go.Rv

/-
  'slices.Sort' at []string, as one step of the interpreter: the slice's object holds the texts, sorted.
-/
set_option linter.unusedSimpArgs false
set_option linter.unusedVariables false
namespace Go.Rv

def strsOf : List AV → Option (List (List UInt8))
  | [] => some []
  | .str s :: r => (strsOf r).map (s :: ·)
  | _ => none
theorem strsOf_map : ∀ l : List (List UInt8), strsOf (l.map AV.str) = some l
  | [] => rfl
  | a :: r => by simp [strsOf, strsOf_map r]
theorem strsOf_eq : ∀ {cs : List AV} {l : List (List UInt8)}, strsOf cs = some l → cs = l.map AV.str
  | [], l, h => by simp only [strsOf, Option.some.injEq] at h; subst h; rfl
  | c :: r, l, h => by
    cases c <;> simp only [strsOf, reduceCtorEq] at h
    obtain ⟨l', hl, rfl⟩ := Option.map_eq_some_iff.1 h
    rw [strsOf_eq hl]; rfl

def insS (x : List UInt8) : List (List UInt8) → List (List UInt8)
  | [] => [x]
  | y :: r => match decide (x ≤ y) with
    | true => x :: y :: r
    | false => y :: insS x r
def sortedS : List (List UInt8) → List (List UInt8)
  | [] => []
  | x :: r => insS x (sortedS r)
theorem insS_perm (x : List UInt8) : ∀ l, (insS x l).Perm (x :: l)
  | [] => List.Perm.refl _
  | y :: r => by
    simp only [insS]
    cases decide (x ≤ y) with
    | true => exact List.Perm.refl _
    | false => exact ((insS_perm x r).cons y).trans (List.Perm.swap x y r)
theorem sortedS_perm : ∀ l, (sortedS l).Perm l
  | [] => List.Perm.refl _
  | x :: r => (insS_perm x (sortedS r)).trans ((sortedS_perm r).cons x)
theorem insS_sorted (x : List UInt8) : ∀ l, l.Pairwise (fun a b : List UInt8 => a ≤ b) → (insS x l).Pairwise (fun a b : List UInt8 => a ≤ b)
  | [], _ => by simp [insS]
  | y :: r, h => by
    have h1 := List.pairwise_cons.1 h
    simp only [insS]
    cases hd : decide (x ≤ y) with
    | true =>
      have hxy : x ≤ y := by simpa using hd
      refine List.pairwise_cons.2 ⟨fun a ha => ?_, h⟩
      rcases List.mem_cons.1 ha with rfl | ha
      · exact hxy
      · exact List.le_trans hxy (h1.1 a ha)
    | false =>
      have hxy : ¬ x ≤ y := by simpa using hd
      have hyx : y ≤ x := (List.le_total x y).resolve_left hxy
      refine List.pairwise_cons.2 ⟨fun a ha => ?_, insS_sorted x r h1.2⟩
      rcases List.mem_cons.1 ((insS_perm x r).mem_iff.1 ha) with rfl | ha
      · exact hyx
      · exact h1.1 a ha
theorem sortedS_sorted : ∀ l, (sortedS l).Pairwise (fun a b : List UInt8 => a ≤ b)
  | [] => by simp [sortedS]
  | x :: r => insS_sorted x _ (sortedS_sorted r)
theorem sortedS_eq (l : List (List UInt8)) : l.mergeSort (fun x y => decide (x ≤ y)) = sortedS l := by
  have h1 : (l.mergeSort (fun x y => decide (x ≤ y))).Pairwise (fun a b : List UInt8 => a ≤ b) := by
    refine (List.pairwise_mergeSort (le := fun x y : List UInt8 => decide (x ≤ y)) (fun a b c h1 h2 => ?_) (fun a b => ?_) l).imp fun h => by simpa using h
    · simp only [decide_eq_true_eq] at *; exact List.le_trans h1 h2
    · have := List.le_total a b
      simpa [Bool.or_eq_true] using this
  exact List.Perm.eq_of_pairwise (le := fun a b : List UInt8 => a ≤ b) (fun a b _ _ x y => List.le_antisymm x y) h1 (sortedS_sorted l) ((List.mergeSort_perm l _).trans (sortedS_perm l).symm)

/-- slices.Sort of a slice of texts that fills its object, or of none. -/
def sortStr (args : List AV) (h : Heap) : Option (CRes × Heap) :=
  match args with
  | [.lst [] _ _] => some (.ret (.tup []), h)
  | [.msl o 0 len 1 g _] => (h.obj o g).bind fun cs => if cs.length = len ∧ len ≤ 1000000000 then (strsOf cs).map fun ss => (.ret (.tup []), h.set o (.cells ((sortedS ss).map AV.str) g)) else none
  | _ => none
end Go.Rv

/-
  'slices.Sort' at []string, as one step of the interpreter: what its model's calls come to.
-/
set_option linter.unusedSimpArgs false
set_option linter.unusedVariables false
namespace Go.Rv
open Go.Sort Go.RowKit Go.Proofs

/-- What the kit's contract says of slices.Sort at []string. -/
def StrSortSays (P : Program) (f : Nat) : Prop :=
  (∀ (blk off cap : Nat) (ss : List (List UInt8)) (w : World), Holds encStr w blk off ss.toArray → blk < w.heap.size → ss.length < 4611686018427387904 →
    Calls P f #[.slice (some ⟨blk, off, none⟩) ss.length cap] w fun e w' => e = .returned (.tuple #[]) ∧ ∃ n os, w' = grow (putRow encStr (Sort.ahead w n) blk off (ss.mergeSort fun x y => decide (x ≤ y)).toArray) os) ∧
  ∀ (p : Option Addr) (cap : Nat) (w : World), Calls P f #[.slice p 0 cap] w fun e w' => e = .returned (.tuple #[]) ∧ w' = w

section
variable {P : Program} {s : Sim} {h : Heap} {w : World}
theorem sortStr_ok {f : Nat} (hS : StrSortSays P f) {args : List AV} {res : CRes} {h' : Heap} (hp : sortStr args h = some (res, h')) {vs : List Value} (R : Rel s h w) (H : VRs s h w args vs) : CallOk P f vs s h w res h' := by
  unfold sortStr at hp
  split at hp <;> first | cases hp | skip
  · rename_i z r
    obtain ⟨v0, hvs0⟩ := List.length_eq_one_iff.1 (show vs.length = 1 by rw [← H.1]; rfl)
    subst hvs0
    obtain ⟨v1, hv1, hvr⟩ := H.2 0 _ rfl
    have hv1 : v0 = v1 := by simpa using hv1
    subst hv1
    have key : ∀ p cap, v0 = .slice p 0 cap → CallOk P f [v0] s h w (.ret (.tup [])) h := by
      rintro p cap rfl
      refine Calls.mono (hS.2 p cap w) fun e w' he => ?_
      obtain ⟨rfl, rfl⟩ := he
      exact ⟨s, Ext.refl _ _ _, R, .tup [] #[] rfl fun i c hi => by simp at hi⟩
    cases hvr with
    | lstNil => exact key _ _ rfl
    | lstEmpty => exact key _ _ rfl
    | lst => exact key _ _ rfl
  · rename_i o len g cap
    obtain ⟨cs, hcs, hp⟩ := Option.bind_eq_some_iff.1 hp
    split at hp <;> first | cases hp | skip
    rename_i hlen
    obtain ⟨hlen, hmax⟩ := hlen
    obtain ⟨ss, hss, hp⟩ := Option.map_eq_some_iff.1 hp
    simp only [Prod.mk.injEq] at hp
    obtain ⟨rfl, rfl⟩ := hp
    have hcsm := strsOf_eq hss
    subst hcsm
    simp only [List.length_map] at hlen
    have hsl : (sortedS ss).length = ss.length := (sortedS_perm ss).length_eq
    obtain ⟨v0, hvs0⟩ := List.length_eq_one_iff.1 (show vs.length = 1 by rw [← H.1]; rfl)
    subst hvs0
    obtain ⟨v1, hv1, hvr⟩ := H.2 0 _ rfl
    have hv1 : v0 = v1 := by simpa using hv1
    subst hv1
    have hgo := genOf_obj hcs
    cases hvr with
    | mslOld _ _ _ _ _ _ g' a n c k1 k2 => have := hgo.1; rw [this] at k1; injection k1; omega
    | msl _ _ _ _ _ _ b c el n off' hoff hg hb hle hcap hnone hsh hn =>
      by_cases h0 : ss.length = 0
      · have hs0 : ss = [] := List.length_eq_zero_iff.1 h0
        subst hs0
        simp only [List.length_nil] at hlen
        subst hlen
        have hset : h.set o (.cells ((sortedS []).map AV.str) g) = h := by
          have hx := hgo.2.1
          simp only [List.map_nil] at hx
          apply List.ext_getElem?
          intro i
          by_cases hi : o = i
          · subst hi
            rw [List.getElem?_set_self (List.getElem?_eq_some_iff.1 hx).1, hx]
            simp [sortedS]
          · rw [List.getElem?_set_ne hi]
        rw [hset]
        refine Calls.mono (hS.2 _ _ w) fun e w' he => ?_
        obtain ⟨rfl, rfl⟩ := he
        exact ⟨s, Ext.refl _ _ _, R, .tup [] #[] rfl fun i c hi => by simp at hi⟩
      · have hoff0 : off' = 0 := by rcases hoff with h1 | h1 <;> omega
        subst hoff0
        obtain ⟨x, hx, hr⟩ := R.obj o b hb
        have hobj := hgo.2.1
        rw [hobj] at hx
        injection hx with hx; subst hx
        obtain ⟨bc, el', hheap, hsz, hcell⟩ := hr
        simp only [List.length_map] at hsz
        have hbl : b < w.heap.size := R.lt hb
        have hcs' : ∀ j, j < ss.length → bc[j]? = some (encStr ss[j]!) := by
          intro j hj
          obtain ⟨v, hv, hvr⟩ := hcell j (.str ss[j]) (by simp [hj])
          cases hvr
          rw [hv, getElem!_pos ss j hj]
        have hH : Holds encStr w b 0 ss.toArray := by
          intro j hj
          simp only [List.size_toArray] at hj
          constructor
          · unfold World.cell?
            simp only [hheap, Option.isSome_none, Bool.false_eq_true, if_false, Nat.zero_add]
            rw [hcs' j hj]; simp
          · unfold World.frozen?
            simp only [hheap]
            simp
        have hlt62 : ss.length < 4611686018427387904 := by omega
        have hcall := hS.1 b 0 c ss w hH hbl hlt62
        rw [hlen] at hcall
        refine Calls.mono hcall fun e w' he => ?_
        obtain ⟨rfl, nn, os, rfl⟩ := he
        have hput : (grow (putRow encStr (Sort.ahead w nn) b 0 (ss.mergeSort fun x y => decide (x ≤ y)).toArray) os).heap[b]? = some (.cells (putCells encStr 0 (sortedS ss).toArray bc) el' (0, 0)) := by
          rw [heap_grow_old _ _ (by simpa [putRow, mapBlock, Sort.ahead] using hbl)]
          simp only [putRow, mapBlock, Sort.ahead, ← sortedS_eq, Array.getElem?_modify, if_true, hheap, Option.map_some, onCells]
        have hfar : ∀ k, k < w.heap.size → k ≠ b → (grow (putRow encStr (Sort.ahead w nn) b 0 (ss.mergeSort fun x y => decide (x ≤ y)).toArray) os).heap[k]? = w.heap[k]? := by
          intro k hk hne
          rw [heap_grow_old _ _ (by simpa [putRow, mapBlock, Sort.ahead] using hk)]
          simp only [putRow, mapBlock, Sort.ahead, Array.getElem?_modify, if_neg (Ne.symm hne)]
        have W : Wrote w (grow (putRow encStr (Sort.ahead w nn) b 0 (ss.mergeSort fun x y => decide (x ≤ y)).toArray) os) b :=
          { size := by simp [putRow, mapBlock, Sort.ahead]
            far := hfar
            shape := fun k x hx => by
              by_cases e : k = b
              · subst e
                unfold World.shape? at *
                rw [hput]
                rw [hheap] at hx
                simpa [putCells] using hx
              · rw [shape_of (hfar k (shape_lt hx) e)]; exact hx
            os := rfl
            tape := rfl
            output := rfl }
        have hs : s.add o b = s := by
          unfold Sim.add
          cases s with
          | mk μ I G =>
            congr 1
            funext k
            by_cases e : k = o
            · subst e; simp [show μ k = some b from hb]
            · simp [e]
        have key := write_cells R (b' := b) (g' := g) (cs' := (sortedS ss).map AV.str) hb hobj (Nat.le_refl _) (fun _ => by simp [hsl]) (.inl rfl) W hput (by simp [putCells, hsl]; omega) (fun i x hi => by
          rw [List.getElem?_map] at hi
          obtain ⟨t, ht, rfl⟩ := Option.map_eq_some_iff.1 hi
          have hil : i < (sortedS ss).length := (List.getElem?_eq_some_iff.1 ht).1
          have hib : i < bc.size := by omega
          refine ⟨encStr t, ?_, .str t⟩
          simp only [putCells, Array.getElem?_mapIdx]
          rw [Array.getElem?_eq_getElem hib]
          have hg : (sortedS ss)[i] = t := by
            have := (List.getElem?_eq_some_iff.1 ht).2; exact this
          simp [hil, hg])
        rw [hs] at key
        exact ⟨s, key.1, key.2, .tup [] #[] rfl fun i c hi => by simp at hi⟩
end
end Go.Rv

/-
  The operations' rules, each where nothing is loose.
-/
set_option linter.unusedSimpArgs false
set_option linter.unusedVariables false
namespace Go.Rv

/-- Nothing is loose here. -/
class TightD (C : Cfg) (f : Nat) (d : Option Nat) : Prop where
  none : ∀ t, d = some t → C.loose f t = []
class NoAlone (C : Cfg) : Prop where
  alone : ∀ f, C.alone f = false

theorem looseAll_tightD {C : Cfg} {f : Nat} {d : Option Nat} [T : TightD C f d] (os : Array Oper) (e : Env) (h : Heap) : looseAll C f os d e h = true := by
  cases hd : d with
  | none => rfl
  | some t => simp only [looseAll, T.none t hd, List.all_nil]

theorem sx_cons {C : Cfg} {f : Nat} {e : Env} {h : Heap} (os : Array Oper) (o : Oper) [TightD C f o.dst] (r : List Oper) : ops C f os (o :: r) e h = (wantA os e o).bind fun w => match w with
    | false => ops C f os r (e.putAt o.dst (.tup [])) h
    | true => match callee o with
      | none => (opA C f e h o).bind fun x => ops C f os r (e.putAt o.dst x.1) x.2
      | some ga => (mapO (evalA C e) ga.2.toList).bind fun vs => (evalA C e ga.1).bind fun gv =>
        if (o.dst.map (C.quiet f)).getD false && !pureV C gv then none else (callv C gv vs h).bind fun x => match x.1 with
          | .ret v => ops C f os r (e.putAt o.dst v) x.2
          | .pan v => some (.pan v, e, x.2) := by
  rw [ops_cons]
  simp only [looseAll_tightD, if_true]
  rfl

theorem call_at {C : Cfg} {f : Nat} {h : Heap} (args : List AV) (fi : FI) (hp : C.prim f = none) (hf : C.fn f = some fi) (hl : (args.length != fi.params) = false) [T : NoAlone C] :
    call C f args h = (exec C f fi.body (args.zipIdx.map fun (v, i) => (i, v)) h).bind fun x => match x.1 with
      | .nrm | .ret => (resultsA C x.2.2 x.2.1 fi.results).bind fun vs => leaveA C f h (packA vs) x.2.2
      | .pan v => some (.pan v, x.2.2)
      | .exit _ => none := by
  apply ext_some
  intro r
  rw [call_succ]
  simp only [callF, hp, hf, Option.bind_eq_bind, Option.bind_some, hl, Bool.false_eq_true, if_false, T.alone]
  constructor
  · rintro ⟨k, hk⟩
    obtain ⟨⟨out, e1, h1⟩, hx, hr⟩ := Option.bind_eq_some_iff.1 hk
    exact Option.bind_eq_some_iff.2 ⟨_, (exec_iff C).2 ⟨k, hx⟩, by cases out <;> exact hr⟩
  · intro hk
    obtain ⟨⟨out, e1, h1⟩, hx, hr⟩ := Option.bind_eq_some_iff.1 hk
    obtain ⟨k, hk⟩ := (exec_iff C).1 hx
    exact ⟨k, Option.bind_eq_some_iff.2 ⟨_, hk, by cases out <;> exact hr⟩⟩

section
variable {C : Cfg} {f : Nat} {os : Array Oper} {d : Option Nat} [TightD C f d] {ty : TypeId} {ps : String} {af : Array Edge} {r : List Oper} {e : Env} {h : Heap}
theorem sx_plain {o : Oper} [TightD C f o.dst] (hw : o.guard = none) (hc : callee o = none) : ops C f os (o :: r) e h = (opA C f e h o).bind fun x => ops C f os r (e.putAt o.dst x.1) x.2 := by
  rw [sx_cons]
  have : wantA os e o = some true := by unfold wantA; rw [hw]
  rw [this, hc]
  rfl
theorem sx_move (x : Operand) : ops C f os (⟨d, .move x, ty, ps, af, none⟩ :: r) e h = (evalA C e x).bind fun v => ops C f os r (e.putAt d v) h := by
  rw [sx_plain rfl rfl]
  simp only [opA, Option.bind_eq_bind, Option.bind_assoc, Option.bind_some]
theorem sx_assign (x : Operand) : ops C f os (⟨d, .assign x, ty, ps, af, none⟩ :: r) e h = (evalA C e x).bind fun v => ops C f os r (e.putAt d v) h := by
  rw [sx_plain rfl rfl]
  simp only [opA, Option.bind_eq_bind, Option.bind_assoc, Option.bind_some]
theorem sx_load (t : TypeId) (x : Operand) : ops C f os (⟨d, .load t x, ty, ps, af, none⟩ :: r) e h = (evalA C e x).bind fun x => if (d.map (C.quiet f)).getD false && !x.isRef then none else (loadA C h t x).bind fun v => ops C f os r (e.putAt d v) h := by
  rw [sx_plain rfl rfl]
  simp only [opA, Option.bind_eq_bind, Option.bind_assoc, Option.bind_some]
  cases evalA C e x <;> simp only [Option.bind_none, Option.bind_some]
  split
  · rfl
  · simp only [Option.bind_assoc, Option.bind_some]
theorem sx_store (t : TypeId) (x y : Operand) : ops C f os (⟨d, .store t x y, ty, ps, af, none⟩ :: r) e h = (evalA C e x).bind fun x => (evalA C e y).bind fun y => (storeA C h t x y).bind fun h => ops C f os r (e.putAt d (.tup [])) h := by
  rw [sx_plain rfl rfl]
  simp only [opA, Option.bind_eq_bind, Option.bind_assoc, Option.bind_some]
theorem sx_bin (b : BinOp) (t t' : TypeId) (x y : Operand) : ops C f os (⟨d, .binOp b t x y t', ty, ps, af, none⟩ :: r) e h = (evalA C e x).bind fun x => (evalA C e y).bind fun y => (binA C h b t x y).bind fun v => ops C f os r (e.putAt d v) h := by
  rw [sx_plain rfl rfl]
  simp only [opA, Option.bind_eq_bind, Option.bind_assoc, Option.bind_some]
theorem sx_un (b : UnOp) (t : TypeId) (x : Operand) : ops C f os (⟨d, .unOp b t x, ty, ps, af, none⟩ :: r) e h = (evalA C e x).bind fun x => (unA b x).bind fun v => ops C f os r (e.putAt d v) h := by
  rw [sx_plain rfl rfl]
  simp only [opA, Option.bind_eq_bind, Option.bind_assoc, Option.bind_some]
theorem sx_conv (a b : Nat) (x : Operand) : ops C f os (⟨d, .convert a b x, ty, ps, af, none⟩ :: r) e h = (evalA C e x).bind fun v => (convH C h a b v).bind fun z => ops C f os r (e.putAt d z) h := by
  rw [sx_plain rfl rfl]
  simp only [opA, Option.bind_eq_bind, Option.bind_assoc, Option.bind_some]
theorem sx_fieldAddr (t : TypeId) (x : Operand) (k : Nat) : ops C f os (⟨d, .fieldAddr t x k, ty, ps, af, none⟩ :: r) e h = (evalA C e x).bind fun x => (fieldAddrA C h t x k).bind fun v => ops C f os r (e.putAt d v) h := by
  rw [sx_plain rfl rfl]
  simp only [opA, Option.bind_eq_bind, Option.bind_assoc, Option.bind_some]
theorem sx_field (t : TypeId) (x : Operand) (k : Nat) : ops C f os (⟨d, .field t x k, ty, ps, af, none⟩ :: r) e h = (evalA C e x).bind fun x => (fieldA C t x k).bind fun v => ops C f os r (e.putAt d v) h := by
  rw [sx_plain rfl rfl]
  simp only [opA, Option.bind_eq_bind, Option.bind_assoc, Option.bind_some]
theorem sx_indexAddr (t : TypeId) (x y : Operand) : ops C f os (⟨d, .indexAddr t x y, ty, ps, af, none⟩ :: r) e h = (evalA C e x).bind fun x => (evalA C e y).bind fun y => (indexAddrA C h t x y).bind fun v => ops C f os r (e.putAt d v) h := by
  rw [sx_plain rfl rfl]
  simp only [opA, Option.bind_eq_bind, Option.bind_assoc, Option.bind_some]
theorem sx_index (t : TypeId) (x y : Operand) : ops C f os (⟨d, .index t x y, ty, ps, af, none⟩ :: r) e h = (evalA C e x).bind fun x => (evalA C e y).bind fun y => (indexA C t x y).bind fun v => ops C f os r (e.putAt d v) h := by
  rw [sx_plain rfl rfl]
  simp only [opA, Option.bind_eq_bind, Option.bind_assoc, Option.bind_some]
theorem sx_alloc (t : TypeId) : ops C f os (⟨d, .alloc t, ty, ps, af, none⟩ :: r) e h = (C.ty t).bind fun ti => if ti.zero.length == ti.size then ops C f os r (e.putAt d (.ptr h.length 0 0)) (h ++ [.cells ti.zero 0]) else none := by
  rw [sx_plain rfl rfl]
  simp only [opA, Option.bind_eq_bind, Option.bind_assoc, Option.bind_some]
  cases C.ty t <;> simp only [Option.bind_none, Option.bind_some]
  split <;> rfl
theorem sx_box (t : TypeId) (x : Operand) : ops C f os (⟨d, .box t x, ty, ps, af, none⟩ :: r) e h = (C.ty t).bind fun ti => (evalA C e x).bind fun v => if v.cells.length == ti.size then (if (d.map (C.imm f)).getD false then ops C f os r (e.putAt d (.ref v.cells)) h else ops C f os r (e.putAt d (.ptr h.length 0 0)) (h ++ [.cells v.cells 0])) else none := by
  rw [sx_plain rfl rfl]
  simp only [opA, Option.bind_eq_bind, Option.bind_assoc, Option.bind_some]
  cases C.ty t <;> simp only [Option.bind_none, Option.bind_some]
  cases evalA C e x <;> simp only [Option.bind_none, Option.bind_some]
  split
  · split <;> rfl
  · rfl
theorem sx_pick (c x y : Operand) : ops C f os (⟨d, .pick c x y, ty, ps, af, none⟩ :: r) e h = (evalA C e c).bind fun c => (pickA c (evalA C e x) (evalA C e y)).bind fun v => ops C f os r (e.putAt d v) h := by
  rw [sx_plain rfl rfl]
  simp only [opA, Option.bind_eq_bind, Option.bind_assoc, Option.bind_some]
  cases evalA C e c <;> simp only [Option.bind_none, Option.bind_some]
  rename_i v
  unfold pickA
  split <;> simp only [Option.bind_none, Option.bind_some, Option.bind_assoc]
theorem sx_build (t : TypeId) (qs : Array (Nat × Operand)) : ops C f os (⟨d, .build t qs, ty, ps, af, none⟩ :: r) e h = (partsA C e qs.toList).bind fun ps => (buildA C t ps).bind fun v => ops C f os r (e.putAt d v) h := by
  rw [sx_plain rfl rfl]
  simp only [opA, parts_eq, Option.bind_eq_bind, Option.bind_assoc, Option.bind_some]
theorem sx_buildSlice (t n : TypeId) (qs : Array (Nat × Operand)) : ops C f os (⟨d, .buildSlice t n qs, ty, ps, af, none⟩ :: r) e h = (partsA C e qs.toList).bind fun ps => (C.ty t).bind fun ti => match ti.td with
    | .slice el => (C.ty el).bind fun ti => if ti.zero.length != ti.size || decide (n * ti.size > 16777216) then none else
      (fillA (fun i => some (i * ti.size, ti.size)) (copies n ti.zero) ps).bind fun cs => if (d.map (C.imm f)).getD false then ops C f os r (e.putAt d (.lst (group n cs ti.size) ti.size (.exact n))) h else ops C f os r (e.putAt d (.msl h.length 0 n ti.size 0 (some n))) (h ++ [.cells cs 0])
    | _ => none := by
  rw [sx_plain rfl rfl]
  simp only [opA, parts_eq, Option.bind_eq_bind, Option.bind_assoc, Option.bind_some]
  cases partsA C e qs.toList <;> simp only [Option.bind_none, Option.bind_some]
  cases C.ty t <;> simp only [Option.bind_none, Option.bind_some]
  rename_i ti
  cases ti.td <;> simp only [Option.bind_none, Option.bind_some]
  rename_i el
  cases C.ty el <;> simp only [Option.bind_none, Option.bind_some]
  split
  · rfl
  · simp only [Option.bind_assoc]
    congr 1
    funext cs
    split <;> rfl
theorem sx_len (x : Operand) (t : TypeId) : ops C f os (⟨d, .call { callee := .builtin .len, args := #[x], argTypes := #[t] }, ty, ps, af, none⟩ :: r) e h = (evalA C e x).bind fun x => (C.ty t).bind fun ti => (lenA h ti.td x).bind fun n => ops C f os r (e.putAt d (.int .i64 n)) h := by
  rw [sx_plain rfl rfl]
  simp [opA, mapO, Option.bind_eq_bind, Option.bind_assoc, Option.bind_some]
theorem sx_slice (t : TypeId) (x : Operand) (lo hi : Option Operand) : ops C f os (⟨d, .slice t x lo hi none, ty, ps, af, none⟩ :: r) e h = (optA C e lo).bind fun lo => (optA C e hi).bind fun hi => (evalA C e x).bind fun x => (sliceA C h t x lo hi none).bind fun v => ops C f os r (e.putAt d v) h := by
  rw [sx_plain rfl rfl]
  simp [opA, Option.bind_eq_bind, Option.bind_assoc, Option.bind_some]
theorem sx_callf (g : Nat) (args : Array Operand) (ct : Array TypeId) : ops C f os (⟨d, .call { callee := .value (.func g), args := args, argTypes := ct }, ty, ps, af, none⟩ :: r) e h = (mapO (evalA C e) args.toList).bind fun vs => if (d.map (C.quiet f)).getD false && !C.pure g then none else (call C g vs h).bind fun x => match x.1 with
    | .ret v => ops C f os r (e.putAt d v) x.2
    | .pan v => some (.pan v, e, x.2) := by
  rw [sx_cons]
  simp only [wantA, callee, Option.bind_some, evalA, callv_clo, pureV, List.append_nil]
theorem sx_guard (o : Op) (g : Nat × Bool) : ops C f os (⟨d, o, ty, ps, af, some g⟩ :: r) e h = (wantA os e ⟨d, o, ty, ps, af, some g⟩).bind fun w => match w with
    | false => ops C f os r (e.putAt d (.tup [])) h
    | true => ops C f os (⟨d, o, ty, ps, af, none⟩ :: r) e h := by
  rw [sx_cons]
  cases wantA os e ⟨d, o, ty, ps, af, some g⟩ with
  | none => rfl
  | some w =>
    cases w
    · rfl
    · simp only [Option.bind_some]
      rw [sx_cons]
      rfl
/-- A guarded operation, where it is known which slot its guard is in. -/
theorem sx_guardT {j t : Nat} (g : (os[j]?).bind (·.dst) = some t) (o : Op) (w : Bool) : ops C f os (⟨d, o, ty, ps, af, some (j, w)⟩ :: r) e h = guardK (e.get t) w (ops C f os (⟨d, o, ty, ps, af, none⟩ :: r) e h) (ops C f os r (e.putAt d (.tup [])) h) := by
  rw [sx_guard]
  simp only [wantA, g, Option.map_some]
  generalize e.get t = v
  unfold guardK
  cases v <;> try rfl
  · rename_i b
    simp only [Option.bind_some]
    cases b <;> cases w <;> rfl
  · rename_i vs
    cases vs <;> rfl
theorem sx_guardTT {j t : Nat} (g : (os[j]?).bind (·.dst) = some t) (hv : e.get t = .bool true) (o : Op) : ops C f os (⟨d, o, ty, ps, af, some (j, true)⟩ :: r) e h = ops C f os (⟨d, o, ty, ps, af, none⟩ :: r) e h := by
  rw [sx_guardT g, hv]; rfl
theorem sx_guardFF {j t : Nat} (g : (os[j]?).bind (·.dst) = some t) (hv : e.get t = .bool false) (o : Op) : ops C f os (⟨d, o, ty, ps, af, some (j, false)⟩ :: r) e h = ops C f os (⟨d, o, ty, ps, af, none⟩ :: r) e h := by
  rw [sx_guardT g, hv]; rfl
theorem sx_guardTF {j t : Nat} (g : (os[j]?).bind (·.dst) = some t) (hv : e.get t = .bool false) (o : Op) : ops C f os (⟨d, o, ty, ps, af, some (j, true)⟩ :: r) e h = ops C f os r (e.putAt d (.tup [])) h := by
  rw [sx_guardT g, hv]; rfl
theorem sx_guardFT {j t : Nat} (g : (os[j]?).bind (·.dst) = some t) (hv : e.get t = .bool true) (o : Op) : ops C f os (⟨d, o, ty, ps, af, some (j, false)⟩ :: r) e h = ops C f os r (e.putAt d (.tup [])) h := by
  rw [sx_guardT g, hv]; rfl

noncomputable def guardO (C : Cfg) (f : Nat) (os : Array Oper) (o : Oper) (r : List Oper) (v : AV) (w : Bool) (e : Env) (h : Heap) : Option (Out × Env × Heap) := guardK v w (ops C f os (o :: r) e h) (ops C f os r (e.putAt o.dst (.tup [])) h)
theorem sx_guardO {j t : Nat} (g : (os[j]?).bind (·.dst) = some t) (o : Op) (w : Bool) : ops C f os (⟨d, o, ty, ps, af, some (j, w)⟩ :: r) e h = guardO C f os ⟨d, o, ty, ps, af, none⟩ r (e.get t) w e h := sx_guardT g o w
omit [TightD C f d] in
theorem go_tt (o : Op) : guardO C f os ⟨d, o, ty, ps, af, none⟩ r (.bool true) true e h = ops C f os (⟨d, o, ty, ps, af, none⟩ :: r) e h := rfl
omit [TightD C f d] in
theorem go_ff (o : Op) : guardO C f os ⟨d, o, ty, ps, af, none⟩ r (.bool false) false e h = ops C f os (⟨d, o, ty, ps, af, none⟩ :: r) e h := rfl
omit [TightD C f d] in
theorem go_tf (o : Op) : guardO C f os ⟨d, o, ty, ps, af, none⟩ r (.bool true) false e h = ops C f os r (e.putAt d (.tup [])) h := rfl
omit [TightD C f d] in
theorem go_ft (o : Op) : guardO C f os ⟨d, o, ty, ps, af, none⟩ r (.bool false) true e h = ops C f os r (e.putAt d (.tup [])) h := rfl
omit [TightD C f d] in
theorem go_tup (o : Op) (w : Bool) : guardO C f os ⟨d, o, ty, ps, af, none⟩ r (.tup []) w e h = ops C f os r (e.putAt d (.tup [])) h := rfl
omit [TightD C f d] in
theorem go_dt (o : Op) (P : Prop) [Decidable P] : guardO C f os ⟨d, o, ty, ps, af, none⟩ r (.bool (decide P)) true e h = if P then ops C f os (⟨d, o, ty, ps, af, none⟩ :: r) e h else ops C f os r (e.putAt d (.tup [])) h := by
  by_cases hp : P <;> simp [hp, guardO, guardK]
omit [TightD C f d] in
theorem go_df (o : Op) (P : Prop) [Decidable P] : guardO C f os ⟨d, o, ty, ps, af, none⟩ r (.bool (decide P)) false e h = if P then ops C f os r (e.putAt d (.tup [])) h else ops C f os (⟨d, o, ty, ps, af, none⟩ :: r) e h := by
  by_cases hp : P <;> simp [hp, guardO, guardK]
theorem sx_makeFunc (g : Nat) (caps : Array Operand) : ops C f os (⟨d, .makeFunc (.func g) #[] caps, ty, ps, af, none⟩ :: r) e h = (mapO (evalA C e) caps.toList).bind fun cs => ops C f os r (e.putAt d (.clo g cs)) h := by
  rw [sx_plain rfl rfl]
  simp [opA, Option.bind_eq_bind, Option.bind_assoc, Option.bind_some]
theorem sx_makeSlice (t : TypeId) (x y : Operand) : ops C f os (⟨d, .makeSlice t x y, ty, ps, af, none⟩ :: r) e h = (evalA C e x).bind fun x => (evalA C e y).bind fun y => (makeSliceA C h t x y).bind fun v => ops C f os r (e.putAt d v.1) v.2 := by
  rw [sx_plain rfl rfl]
  simp only [opA, Option.bind_eq_bind, Option.bind_assoc, Option.bind_some]
theorem sx_makeMap (t : TypeId) : ops C f os (⟨d, .makeMap t none, ty, ps, af, none⟩ :: r) e h = (C.ty t).bind fun _ => ops C f os r (e.putAt d (.map h.length)) (h ++ [.map []]) := by
  rw [sx_plain rfl rfl]
  simp only [opA, Option.bind_eq_bind, Option.bind_assoc, Option.bind_some]
theorem sx_lookup (t : TypeId) (x y : Operand) (ok : Bool) : ops C f os (⟨d, .lookup t x y ok, ty, ps, af, none⟩ :: r) e h = (evalA C e x).bind fun x => (evalA C e y).bind fun y => (lookupA C h t x y ok).bind fun v => ops C f os r (e.putAt d v) h := by
  rw [sx_plain rfl rfl]
  simp only [opA, Option.bind_eq_bind, Option.bind_assoc, Option.bind_some]
theorem sx_mapUpdate (t : TypeId) (x y z : Operand) : ops C f os (⟨d, .mapUpdate t x y z, ty, ps, af, none⟩ :: r) e h = (evalA C e x).bind fun x => (evalA C e y).bind fun y => (evalA C e z).bind fun z => (updateA C h t x y z).bind fun h => ops C f os r (e.putAt d (.tup [])) h := by
  rw [sx_plain rfl rfl]
  simp only [opA, Option.bind_eq_bind, Option.bind_assoc, Option.bind_some]
theorem sx_insert (t : TypeId) (x y z : Operand) : ops C f os (⟨d, .insert t x y z, ty, ps, af, none⟩ :: r) e h = (evalA C e x).bind fun x => (evalA C e y).bind fun y => (evalA C e z).bind fun z => (updateA C h t x y z).bind fun h => ops C f os r (e.putAt d (.tup [])) h := by
  rw [sx_plain rfl rfl]
  simp only [opA, Option.bind_eq_bind, Option.bind_assoc, Option.bind_some]
theorem sx_nilCheck (x : Operand) : ops C f os (⟨d, .nilCheck x, ty, ps, af, none⟩ :: r) e h = (evalA C e x).bind fun x => match x with
    | .ptr o off g => if h.live o g then ops C f os r (e.putAt d (.ptr o off g)) h else none
    | .ref cs => ops C f os r (e.putAt d (.ref cs)) h
    | .clo g cs => ops C f os r (e.putAt d (.clo g cs)) h
    | .yld l => ops C f os r (e.putAt d (.yld l)) h
    | _ => none := by
  rw [sx_plain rfl rfl]
  simp only [opA, Option.bind_eq_bind, Option.bind_assoc, Option.bind_some]
  congr 1
  funext v
  cases v <;> simp only [Option.bind_some, Option.bind_none]
  split <;> rfl
theorem sx_iface (t : TypeId) (x : Operand) : ops C f os (⟨d, .makeInterface t x, ty, ps, af, none⟩ :: r) e h = (C.ty t).bind fun ti => match ti.td with
    | .iface => none
    | _ => (evalA C e x).bind fun v => ops C f os r (e.putAt d (.iface t v)) h := by
  rw [sx_plain rfl rfl]
  simp only [opA, Option.bind_eq_bind, Option.bind_assoc, Option.bind_some]
  congr 1
  funext v
  cases v.td <;> simp only [Option.bind_some, Option.bind_none, Option.bind_assoc]
theorem sx_extract (x : Operand) (i : Nat) : ops C f os (⟨d, .extract x i, ty, ps, af, none⟩ :: r) e h = (evalA C e x).bind fun v => match v with
    | .tup vs => (vs[i]?).bind fun v => ops C f os r (e.putAt d v) h
    | _ => none := by
  rw [sx_plain rfl rfl]
  simp only [opA, Option.bind_eq_bind, Option.bind_assoc, Option.bind_some]
  congr 1
  funext v
  cases v <;> simp only [Option.bind_some, Option.bind_none, Option.bind_assoc]
theorem sx_append (x y : Operand) (t : TypeId) : ops C f os (⟨d, .call { callee := .builtin .append, args := #[x, y], argTypes := #[t, t] }, ty, ps, af, none⟩ :: r) e h = (evalA C e x).bind fun x => (evalA C e y).bind fun y => (C.ty t).bind fun ti => match ti.td with
    | .slice el => (C.ty el).bind fun te => (elems h y).bind fun ys => (appendA h te.size x ys).bind fun v => ops C f os r (e.putAt d v.1) v.2
    | _ => none := by
  rw [sx_plain rfl rfl]
  simp only [opA, mapO, Option.bind_eq_bind, Option.bind_assoc, Option.bind_some, bne_self_eq_false, Bool.false_eq_true, if_false]
  congr 1
  funext x
  congr 1
  funext y
  congr 1
  funext ti
  cases ti.td <;> simp only [Option.bind_some, Option.bind_none, Option.bind_assoc]
theorem sx_cap (x : Operand) (t : TypeId) : ops C f os (⟨d, .call { callee := .builtin .cap, args := #[x], argTypes := #[t] }, ty, ps, af, none⟩ :: r) e h = (evalA C e x).bind fun x => (moreA C h .cap [t] [x]).bind fun v => ops C f os r (e.putAt d v.1) v.2 := by
  rw [sx_plain rfl rfl]
  simp [opA, mapO, Option.bind_eq_bind, Option.bind_assoc, Option.bind_some]
theorem sx_clear (x : Operand) (t : TypeId) : ops C f os (⟨d, .call { callee := .builtin .clear, args := #[x], argTypes := #[t] }, ty, ps, af, none⟩ :: r) e h = (evalA C e x).bind fun x => (moreA C h .clear [t] [x]).bind fun v => ops C f os r (e.putAt d v.1) v.2 := by
  rw [sx_plain rfl rfl]
  simp [opA, mapO, Option.bind_eq_bind, Option.bind_assoc, Option.bind_some]
theorem sx_copy (x y : Operand) (t u : TypeId) : ops C f os (⟨d, .call { callee := .builtin .copy, args := #[x, y], argTypes := #[t, u] }, ty, ps, af, none⟩ :: r) e h = (evalA C e x).bind fun x => (evalA C e y).bind fun y => (moreA C h .copy [t, u] [x, y]).bind fun v => ops C f os r (e.putAt d v.1) v.2 := by
  rw [sx_plain rfl rfl]
  simp [opA, mapO, Option.bind_eq_bind, Option.bind_assoc, Option.bind_some]
theorem sx_delete (x y : Operand) (t u : TypeId) : ops C f os (⟨d, .call { callee := .builtin .delete, args := #[x, y], argTypes := #[t, u] }, ty, ps, af, none⟩ :: r) e h = (evalA C e x).bind fun x => (evalA C e y).bind fun y => (moreA C h .delete [t, u] [x, y]).bind fun v => ops C f os r (e.putAt d v.1) v.2 := by
  rw [sx_plain rfl rfl]
  simp [opA, mapO, Option.bind_eq_bind, Option.bind_assoc, Option.bind_some]
theorem sx_max (x y : Operand) (t u : TypeId) : ops C f os (⟨d, .call { callee := .builtin .max, args := #[x, y], argTypes := #[t, u] }, ty, ps, af, none⟩ :: r) e h = (evalA C e x).bind fun x => (evalA C e y).bind fun y => (moreA C h .max [t, u] [x, y]).bind fun v => ops C f os r (e.putAt d v.1) v.2 := by
  rw [sx_plain rfl rfl]
  simp [opA, mapO, Option.bind_eq_bind, Option.bind_assoc, Option.bind_some]
theorem sx_min (x y : Operand) (t u : TypeId) : ops C f os (⟨d, .call { callee := .builtin .min, args := #[x, y], argTypes := #[t, u] }, ty, ps, af, none⟩ :: r) e h = (evalA C e x).bind fun x => (evalA C e y).bind fun y => (moreA C h .min [t, u] [x, y]).bind fun v => ops C f os r (e.putAt d v.1) v.2 := by
  rw [sx_plain rfl rfl]
  simp [opA, mapO, Option.bind_eq_bind, Option.bind_assoc, Option.bind_some]
/-- A call of a value. -/
theorem sx_callt (g : Nat) (args : Array Operand) (ct : Array TypeId) : ops C f os (⟨d, .call { callee := .value (.tmp g), args := args, argTypes := ct }, ty, ps, af, none⟩ :: r) e h = (mapO (evalA C e) args.toList).bind fun vs => (known (e.get g)).bind fun gv => if (d.map (C.quiet f)).getD false && !pureV C gv then none else (callv C gv vs h).bind fun x => match x.1 with
    | .ret v => ops C f os r (e.putAt d v) x.2
    | .pan v => some (.pan v, e, x.2) := by
  rw [sx_cons]
  simp only [wantA, callee, Option.bind_some, evalA_tmp]
end
end Go.Rv

/-
  Going through code with open values: the rewrite rules in one bundle; loops.
-/
set_option linter.unusedSimpArgs false
set_option linter.unusedVariables false
namespace Go.Rv

theorem get_hit (k : Nat) (v : AV) (r : Env) : Env.get ((k, v) :: r) k = v := by rw [Env.get_cons]; simp
theorem get_miss {k t : Nat} (v : AV) (r : Env) (h : (k == t) = false) : Env.get ((k, v) :: r) t = Env.get r t := by rw [Env.get_cons, h]; rfl


/-- The part of a piece of code at a place. -/
noncomputable def codeAt : List Bool → Code → Code
  | [], c => c
  | false :: p, .seq a _ => codeAt p a
  | true :: p, .seq _ b => codeAt p b
  | false :: p, .cond _ a _ => codeAt p a
  | true :: p, .cond _ _ b => codeAt p b
  | _ :: p, .block _ a => codeAt p a
  | _ :: p, .loop a => codeAt p a
  | _ :: p, .scope a => codeAt p a
  | false :: p, .rangeFunc _ _ a _ => codeAt p a
  | true :: p, .rangeFunc _ _ _ b => codeAt p b
  | _, c => c
noncomputable def codeOps : Code → Array Oper
  | .region _ os _ => os
  | _ => #[]
theorem codeAt_nil (c : Code) : codeAt [] c = c := by simp [codeAt]
theorem codeAt_seq0 (p : List Bool) (a b : Code) : codeAt (false :: p) (.seq a b) = codeAt p a := rfl
theorem codeAt_seq1 (p : List Bool) (a b : Code) : codeAt (true :: p) (.seq a b) = codeAt p b := rfl
theorem codeAt_cond0 (p : List Bool) (x : Operand) (a b : Code) : codeAt (false :: p) (.cond x a b) = codeAt p a := rfl
theorem codeAt_cond1 (p : List Bool) (x : Operand) (a b : Code) : codeAt (true :: p) (.cond x a b) = codeAt p b := rfl
theorem codeAt_block (p : List Bool) (i : Nat) (a : Code) : codeAt (false :: p) (.block i a) = codeAt p a := rfl
theorem codeAt_loop (p : List Bool) (a : Code) : codeAt (false :: p) (.loop a) = codeAt p a := rfl
theorem codeAt_scope (p : List Bool) (a : Code) : codeAt (false :: p) (.scope a) = codeAt p a := rfl
theorem codeAt_range0 (p : List Bool) (x : Operand) (q : Array Tmp) (a b : Code) : codeAt (false :: p) (.rangeFunc x q a b) = codeAt p a := rfl
theorem codeAt_range1 (p : List Bool) (x : Operand) (q : Array Tmp) (a b : Code) : codeAt (true :: p) (.rangeFunc x q a b) = codeAt p b := rfl
theorem codeOps_region (i : Nat) (os : Array Oper) (d : Bool) : codeOps (.region i os d) = os := rfl

noncomputable def regEnd (C : Cfg) (f id : Nat) (draw : Bool) (x : Out × Env × Heap) : Option (Out × Env × Heap) := match x.1 with
  | .nrm => some (.nrm, (match C.live f id with | some l => x.2.1.keep l | none => x.2.1), x.2.2)
  | _ => if draw then none else some x
theorem regEnd_nrm {C : Cfg} {f id : Nat} {d : Bool} {e : Env} {h : Heap} {l : List Nat} (hl : C.live f id = some l) : regEnd C f id d (.nrm, e, h) = some (.nrm, e.keep l, h) := by simp only [regEnd, hl]
theorem region_at (C : Cfg) (f id : Nat) (os : Array Oper) (d : Bool) (e : Env) (h : Heap) : exec C f (.region id os d) e h = (ops C f os (sched os d) e h).bind (regEnd C f id d) := by
  rw [exec_region]
  cases ops C f os (sched os d) e h with
  | none => rfl
  | some x =>
    obtain ⟨o, e, h⟩ := x
    cases o <;> rfl

noncomputable def callEnd (C : Cfg) (f : Nat) (h : Heap) (rs : List ResultVar) (x : Out × Env × Heap) : Option (CRes × Heap) := match x.1 with
  | .nrm | .ret => (resultsA C x.2.2 x.2.1 rs).bind fun vs => leaveA C f h (packA vs) x.2.2
  | .pan v => some (.pan v, x.2.2)
  | .exit _ => none
theorem callEnd_ret {C : Cfg} {f : Nat} {h h' : Heap} {rs : List ResultVar} {e : Env} : callEnd C f h rs (.ret, e, h') = (resultsA C h' e rs).bind fun vs => leaveA C f h (packA vs) h' := rfl
theorem callEnd_nrm {C : Cfg} {f : Nat} {h h' : Heap} {rs : List ResultVar} {e : Env} : callEnd C f h rs (.nrm, e, h') = (resultsA C h' e rs).bind fun vs => leaveA C f h (packA vs) h' := rfl
theorem call_at2 {C : Cfg} [NoAlone C] {f : Nat} {h : Heap} {args : List AV} {n : Nat} {rs : List ResultVar} {b : Code} (hf : C.fn f = some ⟨n, rs, b⟩) (hp : C.prim f = none) (hl : (args.length != n) = false) :
    call C f args h = (exec C f b (args.zipIdx.map fun (v, i) => (i, v)) h).bind (callEnd C f h rs) := by
  rw [call_at args _ hp hf hl]
  cases exec C f b (args.zipIdx.map fun (v, i) => (i, v)) h with
  | none => rfl
  | some x =>
    obtain ⟨o, e, h⟩ := x
    cases o <;> rfl

theorem leave_pure {C : Cfg} {f : Nat} {h h' : Heap} {v v' : AV} (hp : C.pure f = true) (hh : h'.take h.length = h) (hv : freezeV h' h.length 40 v = some v') : leaveA C f h v h' = some (.ret v', h) := by
  unfold leaveA
  rw [if_pos hp, if_pos hh, hv]
  rfl
theorem leave_kept {C : Cfg} {f : Nat} {h : Heap} {v v' : AV} (hp : C.pure f = true) (hv : freezeV h h.length 40 v = some v') : leaveA C f h v h = some (.ret v', h) := leave_pure hp (by simp) hv
theorem leave_impure {C : Cfg} {f : Nat} {h h' : Heap} {v : AV} (hp : C.pure f = false) : leaveA C f h v h' = some (.ret v, h') := by
  unfold leaveA
  rw [if_neg (by simp [hp])]

theorem natlt (a b : Nat) : ((a : Int) < (b : Int)) = (a < b) := by simp
theorem natneg (a : Nat) : ((a : Int) < 0) = False := by simp
theorem guardK_dt {α : Type} (P : Prop) [Decidable P] (x y : Option α) : guardK (.bool (decide P)) true x y = if P then x else y := by
  by_cases h : P <;> simp [h, guardK]
theorem guardK_df {α : Type} (P : Prop) [Decidable P] (x y : Option α) : guardK (.bool (decide P)) false x y = if P then y else x := by
  by_cases h : P <;> simp [h, guardK]
theorem guardK_vt {α : Type} (b : Bool) (x y : Option α) : guardK (.bool b) true x y = if b = true then x else y := by cases b <;> rfl
theorem guardK_vf {α : Type} (b : Bool) (x y : Option α) : guardK (.bool b) false x y = if b = true then y else x := by cases b <;> rfl

theorem sched_draw (os : Array Oper) : sched os true = os.toList.filter isAlloc ++ os.toList.filter (fun o => !isAlloc o) := rfl

section
variable {C : Cfg} (e : Env)
theorem evalA_lst : evalA C e (.const (.slice none 0 0)) = some (.lst [] 0 .nil) := rfl
theorem evalA_nilFunc : evalA C e (.const .nilFunc) = some .nilFunc := rfl
theorem evalA_nilMap : evalA C e (.const (.map none)) = some .nilMap := rfl
theorem evalA_nilPtr : evalA C e (.const (.pointer none)) = some .nilPtr := rfl
theorem evalA_str (l : List UInt8) : evalA C e (.const (.string ⟨l.toArray⟩)) = some (.str l) := rfl
end

theorem exec_seq_nrm {C : Cfg} {f : Nat} {a b : Code} {e e1 : Env} {h h1 : Heap} (H : exec C f a e h = some (.nrm, e1, h1)) : exec C f (.seq a b) e h = exec C f b e1 h1 := by
  rw [exec_seq, H]; rfl
theorem freeze_clo (h : Heap) (n d f : Nat) (cs : List AV) : freezeV h n (d + 1) (.clo f cs) = (mapO (freezeV h n d) cs).map (.clo f) := rfl
theorem freeze_ref (h : Heap) (n d : Nat) (cs : List AV) : freezeV h n (d + 1) (.ref cs) = (mapO (freezeV h n d) cs).map .ref := rfl
theorem freeze_aggv (h : Heap) (n d : Nat) (cs : List AV) : freezeV h n (d + 1) (.agg cs) = (mapO (freezeV h n d) cs).map .agg := rfl
theorem freeze_tup (h : Heap) (n d : Nat) (cs : List AV) : freezeV h n (d + 1) (.tup cs) = (mapO (freezeV h n d) cs).map .tup := rfl
theorem freeze_lstv (h : Heap) (n d : Nat) (cs : List AV) (z : Nat) (r : Room) : freezeV h n (d + 1) (.lst cs z r) = (mapO (freezeV h n d) cs).map (.lst · z r) := rfl
theorem mapO_nil {α β : Type} (f : α → Option β) : mapO f [] = some [] := rfl
theorem mapO_cons {α β : Type} (f : α → Option β) (a : α) (r : List α) : mapO f (a :: r) = (f a).bind fun b => (mapO f r).bind fun bs => some (b :: bs) := rfl

theorem wrap_id {a : Int} (h1 : -9223372036854775808 ≤ a) (h2 : a < 9223372036854775808) : IntKind.i64.wrap a = a := by rw [IntKind.wrap_i64]; omega
theorem wrap_succ {i : Nat} (h : i < 1000000000000) : IntKind.i64.wrap ((i : Int) + 1) = ((i + 1 : Nat) : Int) := by rw [wrap_id (by omega) (by omega)]; rfl
/-- At a place of a list of which it is known how it goes on. -/
theorem at_drop {α : Type} {xs r : List α} {y : α} {i : Nat} (hd : xs.drop i = y :: r) : (i < xs.length) = True ∧ xs[i]? = some y ∧ xs.drop (i + 1) = r := by
  have hl := congrArg List.length hd
  have h0 := congrArg (·[0]?) hd
  simp only [List.length_drop, List.length_cons] at hl
  refine ⟨by simp; omega, by simpa using h0, by rw [← List.drop_drop, hd]; rfl⟩
theorem at_end {α : Type} {xs : List α} {i : Nat} (hd : xs.drop i = []) : (i < xs.length) = False := by
  have := List.drop_eq_nil_iff.1 hd
  simp; omega

def objOf : AV → Option Nat
  | .msl o _ _ _ _ _ => some o
  | _ => none
noncomputable def flatC (xs : List AV) : List AV := (xs.map AV.cells).flatten
/-- A slice of the call's own: its elements. -/
def Built (h : Heap) (v : AV) (xs : List AV) (sz : Nat) : Prop :=
  (v = .lst [] 0 .nil ∧ xs = []) ∨ ∃ o g cap, v = .msl o 0 xs.length sz g cap ∧ h.obj o g = some (flatC xs) ∧ (cap = none ∨ cap = some xs.length)
theorem flatC_len {xs : List AV} {sz : Nat} (H : ∀ x ∈ xs, x.cells.length = sz) : (flatC xs).length = xs.length * sz := by
  induction xs with
  | nil => simp [flatC]
  | cons x r ih =>
    have := ih (fun y hy => H y (List.mem_cons_of_mem _ hy))
    simp only [flatC, List.map_cons, List.flatten_cons, List.length_append, List.length_cons] at this ⊢
    rw [this, H x (List.mem_cons_self ..), Nat.add_mul]; omega
theorem flatC_append (xs ys : List AV) : flatC (xs ++ ys) = flatC xs ++ flatC ys := by simp [flatC]
theorem obj_some {h : Heap} {o g : Nat} {cs : List AV} (H : h.obj o g = some cs) : o < h.length := by
  unfold Heap.obj at H
  split at H
  · rename_i hx
    exact (List.getElem?_eq_some_iff.1 hx).1
  · cases H
theorem append_built {h : Heap} {v : AV} {xs ys : List AV} {sz : Nat} (B : Built h v xs sz) (hx : ∀ x ∈ xs, x.cells.length = sz) (hy : ∀ y ∈ ys, y.cells.length = sz ∧ y.cells.all AV.leaf = true) (hsz : 0 < sz) (hlen : xs.length + ys.length ≤ mostLen) :
    ∃ v' h', appendA h sz v ys = some (v', h') ∧ Built h' v' (xs ++ ys) sz ∧ h.length ≤ h'.length ∧ (∀ o, o < h.length → objOf v ≠ some o → h'[o]? = h[o]?) ∧ (objOf v' = objOf v ∨ objOf v' = some h.length) := by
  have hfl := flatC_len (fun y hm => (hy y hm).1)
  have hall : (flatC ys).all AV.leaf = true := by
    rw [List.all_eq_true]
    intro c hc
    simp only [flatC, List.mem_flatten, List.mem_map] at hc
    obtain ⟨l, ⟨y, hm, rfl⟩, hc⟩ := hc
    exact List.all_eq_true.1 (hy y hm).2 c hc
  have h0 : (sz == 0) = false := by simp; omega
  have hfl' : ((flatC ys).length != ys.length * sz) = false := by simp [hfl]
  cases ys with
  | nil =>
    refine ⟨v, h, ?_, by simpa using B, Nat.le_refl _, fun _ _ _ => rfl, .inl rfl⟩
    rcases B with ⟨rfl, rfl⟩ | ⟨o, g, cap, rfl, hob, _⟩
    · simp [appendA, h0]
    · simp [appendA, h0, hob]
  | cons y r =>
    have hne : (y :: r).isEmpty = false := rfl
    rcases B with ⟨rfl, rfl⟩ | ⟨o, g, cap, rfl, hob, hcap⟩
    · refine ⟨.msl h.length 0 (y :: r).length sz 0 none, h ++ [.cells (flatC (y :: r)) 0], ?_, .inr ⟨h.length, 0, none, by simp, by rw [obj_app0, obj_zero]; rfl, .inl rfl⟩, by simp, fun o ho _ => List.getElem?_append_left ho, .inr rfl⟩
      unfold appendA
      simp only
      rw [show ((y :: r).map AV.cells).flatten = flatC (y :: r) from rfl, hfl', hall, h0, hne]
      have : (Room.nil.full ([] : List AV).length && ((0 : Nat) == sz || ([] : List AV).isEmpty) && decide (([] : List AV).length + (y :: r).length ≤ mostLen)) = true := by
        simp only [Room.full, List.isEmpty_nil, Bool.or_true, Bool.true_and, decide_eq_true_eq]; exact hlen
      rw [this]
      simp [flatC]
    · have hxl := flatC_len hx
      unfold appendA
      simp only
      rw [show ((y :: r).map AV.cells).flatten = flatC (y :: r) from rfl, hfl', hall, h0, hne]
      have e1 : (decide (0 + xs.length * sz + (flatC (y :: r)).length ≤ (flatC xs).length) && capOk cap (xs.length + (y :: r).length)) = false := by
        have : 0 < (flatC (y :: r)).length := by rw [hfl]; exact Nat.mul_pos (by simp) hsz
        rw [Bool.and_eq_false_iff]; left
        simp only [decide_eq_false_iff_not]
        rw [hxl]; omega
      have e2 : (0 + xs.length * sz == (flatC xs).length && (0 : Nat) == 0 && decide (xs.length + (y :: r).length ≤ mostLen)) = true := by
        simp only [Nat.zero_add, hxl, beq_self_eq_true, Bool.true_and, decide_eq_true_eq]
        exact hlen
      simp only [hob, Option.bind_eq_bind, Option.bind_some, bne_self_eq_false, Bool.false_eq_true, if_false, Bool.or_false, Bool.not_true, e1, e2, if_true]
      have ho := obj_some hob
      rcases hcap with rfl | rfl
      · refine ⟨_, _, rfl, .inr ⟨o, g + 1, none, by simp, ?_, .inl rfl⟩, by simp, fun o' _ hn => ?_, .inl rfl⟩
        · rw [flatC_append]
          simp [Heap.obj, List.getElem?_set_self ho]
        · rw [List.getElem?_set_ne (by intro hc; exact hn (by simp [objOf, hc]))]
      · refine ⟨.msl h.length 0 (xs.length + (y :: r).length) sz 0 none, h ++ [.cells (flatC xs ++ flatC (y :: r)) 0], by simp [growA], .inr ⟨h.length, 0, none, by simp, by rw [obj_app0, obj_zero, flatC_append], .inl rfl⟩, by simp, fun o' ho' _ => List.getElem?_append_left ho', .inr rfl⟩

theorem known_built {h : Heap} {v : AV} {xs : List AV} {sz : Nat} (B : Built h v xs sz) : known v = some v := by
  rcases B with ⟨rfl, _⟩ | ⟨o, g, cap, rfl, _⟩ <;> rfl
/-- Elements of one cell each. -/
def Plain1 (xs : List AV) : Prop := ∀ x ∈ xs, x.cells = [x] ∧ one x = x ∧ x.leaf = true ∧ x.dead = true
theorem flatC_plain {xs : List AV} (H : Plain1 xs) : flatC xs = xs := by
  induction xs with
  | nil => rfl
  | cons x r ih =>
    have := ih (fun y hy => H y (List.mem_cons_of_mem _ hy))
    simp only [flatC, List.map_cons, List.flatten_cons] at this ⊢
    rw [this, (H x (List.mem_cons_self ..)).1]; rfl
theorem group_plain {xs : List AV} (H : Plain1 xs) : group xs.length xs 1 = xs := by
  induction xs with
  | nil => rfl
  | cons x r ih =>
    have := ih (fun y hy => H y (List.mem_cons_of_mem _ hy))
    simp only [List.length_cons, group, beq_self_eq_true, if_true, List.headD_cons, List.drop_succ_cons, List.drop_zero, this, (H x (List.mem_cons_self ..)).2.1]
theorem plain_dead {xs : List AV} (H : Plain1 xs) : xs.all AV.dead = true := List.all_eq_true.2 fun x hx => (H x hx).2.2.2
theorem plain_ints (xs : List Int) : Plain1 (xs.map (AV.int .i64)) := fun x hx => by
  obtain ⟨n, _, rfl⟩ := List.mem_map.1 hx
  exact ⟨rfl, rfl, rfl, rfl⟩
theorem plain_strs (xs : List (List UInt8)) : Plain1 (xs.map AV.str) := fun x hx => by
  obtain ⟨n, _, rfl⟩ := List.mem_map.1 hx
  exact ⟨rfl, rfl, rfl, rfl⟩
theorem plain_bools (xs : List Bool) : Plain1 (xs.map AV.bool) := fun x hx => by
  obtain ⟨n, _, rfl⟩ := List.mem_map.1 hx
  exact ⟨rfl, rfl, rfl, rfl⟩
theorem Plain1.append {xs ys : List AV} (H : Plain1 xs) (K : Plain1 ys) : Plain1 (xs ++ ys) := fun x hx => (List.mem_append.1 hx).elim (H x) (K x)
theorem Plain1.size {xs : List AV} (H : Plain1 xs) : ∀ x ∈ xs, x.cells.length = 1 := fun x hx => by rw [(H x hx).1]; rfl
theorem Plain1.leafs {xs : List AV} (H : Plain1 xs) : ∀ x ∈ xs, x.cells.length = 1 ∧ x.cells.all AV.leaf = true := fun x hx => by rw [(H x hx).1]; simp [(H x hx).2.2.1]
theorem freeze_built {h : Heap} {v : AV} {xs : List AV} {n d : Nat} (B : Built h v xs 1) (H : Plain1 xs) (ho : ∀ o, objOf v = some o → n ≤ o) :
    (v = .lst [] 0 .nil ∧ xs = [] ∧ freezeV h n (d + 2) v = some (.lst [] 0 .nil)) ∨ freezeV h n (d + 2) v = some (.lst xs 1 .open) := by
  rcases B with ⟨rfl, rfl⟩ | ⟨o, g, cap, rfl, hob, _⟩
  · exact .inl ⟨rfl, rfl, rfl⟩
  · right
    have hn := ho o rfl
    unfold freezeV
    simp only
    rw [if_neg (by omega), hob]
    simp only [Option.bind_eq_bind, Option.bind_some, Nat.zero_add, Nat.mul_one, flatC_plain H, List.drop_zero, Nat.le_refl, if_true, List.take_length, freeze_deads h n d (plain_dead H), group_plain H]
theorem elems_built {h : Heap} {v : AV} {xs : List AV} (B : Built h v xs 1) (H : Plain1 xs) : elems h v = some xs := by
  rcases B with ⟨rfl, rfl⟩ | ⟨o, g, cap, rfl, hob, _⟩
  · rfl
  · simp only [elems, hob, Option.bind_eq_bind, Option.bind_some, Nat.zero_add, Nat.mul_one, flatC_plain H, Nat.le_refl, if_true, List.drop_zero, group_plain H]

theorem callv_yld_of {C : Cfg} {o : Nat} {vs : List AV} {h h1 h2 : Heap} {r r1 r2 : ALoop} {e1 e2 : Env} {out : Out} {j : Option Code} (hr : h.loopAt o = some r) (hs : r.st = .ready) (hp : r.ps.length = vs.length)
    (ha : exec C r.f r.assign (r.env.puts r.ps vs) h = some (.nrm, e1, h1)) (hr1 : h1.loopAt o = some r1) (hs1 : r1.st = .ready) (hb : exec C r.f r.body e1 (h1.set o (.loop { r1 with st := .busy })) = some (out, e2, h2)) (hr2 : h2.loopAt o = some r2) (hj : jumpOf out = some j) :
    callv C (.yld o) vs h = some (.ret (.bool j.isNone), h2.set o (.loop { r2 with st := if j.isNone then .ready else .done, pend := j })) := by
  obtain ⟨k1, ha⟩ := (exec_iff C).1 ha
  obtain ⟨k2, hb⟩ := (exec_iff C).1 hb
  refine (callv_succ C).2 ⟨max k1 k2, ?_⟩
  have ha' := execF_le C (Nat.le_max_left k1 k2) _ _ _ _ _ ha
  have hb' := execF_le C (Nat.le_max_right k1 k2) _ _ _ _ _ hb
  simp only [callV, hr, Option.bind_eq_bind, Option.bind_some, hs, hp, ha', hr1, hs1, hb', hr2, hj]
  simp
theorem exec_range_of {C : Cfg} {f : Nat} {g : Operand} {ps : Array Tmp} {assign body : Code} {e : Env} {h h1 : Heap} {gn : Nat} {caps : List AV} {v : AV} {r : ALoop} (hg : evalA C e g = some (.clo gn caps))
    (hc : call C gn (.yld h.length :: caps) (h ++ [.loop { st := .ready, pend := none, f, env := e, ps := ps.toList, assign, body }]) = some (.ret v, h1)) (hr : h1.loopAt h.length = some r) (hb : (r.st == .busy) = false) {out : Out}
    (ho : out = .nrm ∧ r.pend = none ∨ out = .ret ∧ r.pend = some .ret) :
    exec C f (.rangeFunc g ps assign body) e h = some (out, e, h1.set h.length (.loop { r with st := .exhausted })) := by
  obtain ⟨k, hc⟩ := (call_iff C).1 hc
  refine (exec_succ C).2 ⟨k, ?_⟩
  simp only [execF, hg, Option.bind_eq_bind, Option.bind_some, hc, hr, hb, Bool.false_eq_true, if_false]
  rcases ho with ⟨rfl, hp⟩ | ⟨rfl, hp⟩ <;> rw [hp]

/-- What ends: the run, how it stands behind it. -/
def Ends (C : Cfg) (f : Nat) (c : Code) (e : Env) (h : Heap) (Q : Out → Env → Heap → Prop) : Prop := ∃ o e' h', exec C f c e h = some (o, e', h') ∧ Q o e' h'

theorem Ends.mono {C : Cfg} {f : Nat} {c : Code} {e : Env} {h : Heap} {Q R : Out → Env → Heap → Prop} (H : Ends C f c e h Q) (k : ∀ o e' h', Q o e' h' → R o e' h') : Ends C f c e h R :=
  let ⟨o, e', h', a, b⟩ := H; ⟨o, e', h', a, k _ _ _ b⟩

/-- It comes to something of which that holds. -/
def Got {α : Type} (x : Option α) (Q : α → Prop) : Prop := ∃ a, x = some a ∧ Q a
theorem got_some {α : Type} (a : α) (Q : α → Prop) : Got (some a) Q = Q a := by
  simp [Got]
theorem got_none {α : Type} (Q : α → Prop) : Got none Q = False := by
  simp [Got]
theorem got_bind {α β : Type} (x : Option α) (f : α → Option β) (Q : β → Prop) : Got (x.bind f) Q = Got x (fun a => Got (f a) Q) := by
  cases x <;> simp [Got]
theorem Got.mono {α : Type} {x : Option α} {Q R : α → Prop} (H : Got x Q) (k : ∀ a, Q a → R a) : Got x R := let ⟨a, b, c⟩ := H; ⟨a, b, k a c⟩
theorem got_left {α : Type} {x y : Option α} (h : x = y) (Q : α → Prop) : Got x Q = Got y Q := by rw [h]
theorem got_loop {C : Cfg} {f : Nat} {b : Code} {e : Env} {h : Heap} {Q : Out × Env × Heap → Prop} : Got (exec C f (.loop b) e h) Q = Got (exec C f b e h) (fun x => match x.1 with | .nrm => Got (exec C f (.loop b) x.2.1 x.2.2) Q | _ => Q x) := by
  rw [exec_loop, got_bind]
  congr 1
  funext x
  obtain ⟨o, e, h⟩ := x
  cases o <;> simp [got_some]

/-- A loop: as long as rounds go on normally, the measure goes down. -/
theorem loop_ends {C : Cfg} {f : Nat} {b : Code} {Q : Out → Env → Heap → Prop} (I : Nat → Env → Heap → Prop)
    (H : ∀ n e h, I n e h → Ends C f b e h fun o e' h' => match o with
      | .nrm => ∃ m, m < n ∧ I m e' h'
      | o => Q o e' h') : ∀ n e h, I n e h → Ends C f (.loop b) e h Q := by
  intro n
  induction n using Nat.strongRecOn with
  | ind n ih =>
    intro e h hI
    obtain ⟨o, e', h', hx, hq⟩ := H n e h hI
    have hl := exec_loop (C := C) (f := f) (e := e) (h := h) b
    rw [hx] at hl
    simp only [Option.bind_some] at hl
    cases o with
    | nrm =>
      obtain ⟨m, hm, hI'⟩ := hq
      obtain ⟨o2, e2, h2, hx2, hq2⟩ := ih m hm e' h' hI'
      exact ⟨o2, e2, h2, hl.trans hx2, hq2⟩
    | exit id => exact ⟨_, _, _, hl, hq⟩
    | ret => exact ⟨_, _, _, hl, hq⟩
    | pan v => exact ⟨_, _, _, hl, hq⟩
end Go.Rv

/-
  More rules for going through code with open values.
-/
set_option linter.unusedSimpArgs false
set_option linter.unusedVariables false
namespace Go.Rv
theorem built_cells {h : Heap} {v : AV} {xs : List AV} {sz : Nat} (B : Built h v xs sz) : v.cells = [v] := by
  rcases B with ⟨rfl, _⟩ | ⟨o, g, cap, rfl, _⟩ <;> rfl
theorem built_leaf {h : Heap} {v : AV} {xs : List AV} {sz : Nat} (B : Built h v xs sz) : v.leaf = true := by
  rcases B with ⟨rfl, _⟩ | ⟨o, g, cap, rfl, _⟩ <;> rfl
theorem built_lt {h : Heap} {v : AV} {xs : List AV} {sz o : Nat} (B : Built h v xs sz) (ho : objOf v = some o) : o < h.length := by
  rcases B with ⟨rfl, _⟩ | ⟨o', g, cap, rfl, hob, _⟩
  · cases ho
  · simp only [objOf, Option.some.injEq] at ho; subst ho; exact obj_some hob
/-- What is older than that stays as it is. -/
theorem freeze_stay {h : Heap} {v : AV} {xs : List AV} {sz n d : Nat} (B : Built h v xs sz) (hn : h.length ≤ n) : freezeV h n (d + 2) v = some v := by
  rcases B with ⟨rfl, rfl⟩ | ⟨o, g, cap, rfl, hob, _⟩
  · rfl
  · have := obj_some hob
    unfold freezeV
    simp only
    rw [if_pos (by omega)]
theorem loopAt_app0 (h : Heap) (r : ALoop) (X : Heap) : Heap.loopAt (h ++ .loop r :: X) h.length = some r := by simp [Heap.loopAt]
theorem obj_left {h : Heap} (X : Heap) {o : Nat} (g : Nat) (ho : o < h.length) : Heap.obj (h ++ X) o g = Heap.obj h o g := by
  unfold Heap.obj; rw [List.getElem?_append_left ho]
theorem live_left {h : Heap} (X : Heap) {o : Nat} (g : Nat) (ho : o < h.length) : Heap.live (h ++ X) o g = Heap.live h o g := by
  unfold Heap.live; rw [obj_left X g ho]
theorem set_left {h : Heap} (X : Heap) {o : Nat} (x : AObj) (ho : o < h.length) : (h ++ X).set o x = h.set o x ++ X := List.set_append_left _ _ ho
theorem live_of {h : Heap} {o g : Nat} {cs : List AV} (H : h.obj o g = some cs) : h.live o g = true := by simp [Heap.live, H]
theorem known_yld (o : Nat) : known (.yld o) = some (.yld o) := rfl
theorem known_map (o : Nat) : known (.map o) = some (.map o) := rfl
theorem known_nilFunc : known .nilFunc = some .nilFunc := rfl
theorem known_nilPtr : known .nilPtr = some .nilPtr := rfl
theorem cells_clo (g : Nat) (cs : List AV) : AV.cells (.clo g cs) = [.clo g cs] := rfl
theorem cells_map (o : Nat) : AV.cells (.map o) = [.map o] := rfl
theorem cells_msl (o off len z g : Nat) (c : Option Nat) : AV.cells (.msl o off len z g c) = [.msl o off len z g c] := rfl
theorem leaf_clo (g : Nat) (cs : List AV) : AV.leaf (.clo g cs) = true := rfl
theorem leaf_map (o : Nat) : AV.leaf (.map o) = true := rfl
theorem leaf_msl (o off len z g : Nat) (c : Option Nat) : AV.leaf (.msl o off len z g c) = true := rfl
theorem leaf_ptr (o off g : Nat) : AV.leaf (.ptr o off g) = true := rfl
theorem leaf_ref (cs : List AV) : AV.leaf (.ref cs) = true := rfl
theorem cells_nilFunc : AV.cells .nilFunc = [.nilFunc] := rfl
theorem leaf_nilFunc : AV.leaf .nilFunc = true := rfl
theorem obj_leftS {h : Heap} {o g : Nat} {cs : List AV} (X : Heap) (H : h.obj o g = some cs) : Heap.obj (h ++ X) o g = some cs := by rw [obj_left X g (obj_some H), H]
theorem Built.app {h : Heap} {v : AV} {xs : List AV} {sz : Nat} (B : Built h v xs sz) (X : Heap) : Built (h ++ X) v xs sz := by
  rcases B with h1 | ⟨o, g, cap, rfl, hob, hc⟩
  · exact .inl h1
  · exact .inr ⟨o, g, cap, rfl, obj_leftS X hob, hc⟩
/-- Another object is written. -/
theorem Built.other {h h' : Heap} {v : AV} {xs : List AV} {sz : Nat} (B : Built h v xs sz) (K : ∀ o, objOf v = some o → h'[o]? = h[o]?) : Built h' v xs sz := by
  rcases B with h1 | ⟨o, g, cap, rfl, hob, hc⟩
  · exact .inl h1
  · refine .inr ⟨o, g, cap, rfl, ?_, hc⟩
    unfold Heap.obj at *
    rw [K o rfl]; exact hob

/-- A slice of the call's own, behind so many old objects that stay as they are. -/
structure Own (n : Nat) (h0 h : Heap) (v : AV) (xs : List AV) : Prop where
  b : Built h v xs 1
  own : ∀ o, objOf v = some o → n ≤ o
  le : n ≤ h.length
  old : h.take n = h0.take n

theorem take_app {h : Heap} (X : Heap) {n : Nat} (hn : n ≤ h.length) : (h ++ X).take n = h.take n := List.take_append_of_le_length hn
theorem Own.app {n : Nat} {h0 h : Heap} {v : AV} {xs : List AV} (O : Own n h0 h v xs) (X : Heap) : Own n h0 (h ++ X) v xs where
  b := O.b.app X
  own := O.own
  le := by have := O.le; simp; omega
  old := by rw [take_app X O.le, O.old]
theorem Own.kn {n : Nat} {h0 h : Heap} {v : AV} {xs : List AV} (O : Own n h0 h v xs) : known v = some v := known_built O.b
theorem Own.push {n : Nat} {h0 h : Heap} {v : AV} {xs ys : List AV} (O : Own n h0 h v xs) (hx : Plain1 xs) (hy : Plain1 ys) (hl : xs.length + ys.length ≤ mostLen) :
    ∃ v' h', appendA h 1 v ys = some (v', h') ∧ Own n h0 h' v' (xs ++ ys) := by
  obtain ⟨v', h', h1, h2, h4, h5, h6⟩ := append_built O.b hx.size (fun y hm => hy.leafs y hm) (by omega) hl
  refine ⟨v', h', h1, h2, fun o ho => ?_, Nat.le_trans O.le h4, ?_⟩
  · rcases h6 with h6 | h6
    · exact O.own o (h6 ▸ ho)
    · rw [h6] at ho; simp only [Option.some.injEq] at ho; subst ho; exact O.le
  · rw [← O.old]
    apply List.ext_getElem?
    intro i
    by_cases hi : i < n
    · rw [List.getElem?_take_of_lt hi, List.getElem?_take_of_lt hi]
      exact h5 i (Nat.lt_of_lt_of_le hi O.le) fun hc => by have := O.own i hc; omega
    · rw [List.getElem?_eq_none (by simp; omega), List.getElem?_eq_none (by simp; omega)]
theorem Own.nil (h : Heap) : Own h.length h h (.lst [] 0 .nil) [] := ⟨.inl ⟨rfl, rfl⟩, fun _ h => (by cases h), Nat.le_refl _, rfl⟩
theorem Own.leave {h h' : Heap} {v : AV} {xs : List AV} (O : Own h.length h h' v xs) (hx : Plain1 xs) {C : Cfg} {f : Nat} (hp : C.pure f = true) :
    (xs = [] ∧ leaveA C f h v h' = some (.ret (.lst [] 0 .nil), h)) ∨ leaveA C f h v h' = some (.ret (.lst xs 1 .open), h) := by
  have ht : h'.take h.length = h := by rw [O.old]; simp
  rcases freeze_built (n := h.length) (d := 38) O.b hx O.own with ⟨_, rfl, hf⟩ | hf
  · exact .inl ⟨rfl, leave_pure hp ht hf⟩
  · exact .inr (leave_pure hp ht hf)
theorem len_built {h : Heap} {v : AV} {xs : List AV} {sz e : Nat} (B : Built h v xs sz) : lenA h (.slice e) v = some xs.length := by
  rcases B with ⟨rfl, rfl⟩ | ⟨o, g, cap, rfl, hob, _⟩
  · rfl
  · simp [lenA, live_of hob]

/-- What can be read: how long, each element. -/
structure Rd (C : Cfg) (h : Heap) (ts te : Nat) (v : AV) (xs : List AV) : Prop where
  kn : known v = some v
  len : lenA h (.slice te) v = some xs.length
  get : ∀ (i : Nat) x, xs[i]? = some x → ∃ a, indexAddrA C h ts v (.int .i64 i) = some a ∧ known a = some a ∧ loadA C h te a = some x
theorem rd_built {C : Cfg} {h : Heap} {ts te : Nat} {v : AV} {xs : List AV} {ti tei : TI} (hts : C.ty ts = some ti) (hti : ti.td = .slice te) (hte : C.ty te = some tei) (h1 : tei.size = 1) (ha : tei.td.isAgg = false) (B : Built h v xs 1) (H : Plain1 xs) : Rd C h ts te v xs where
  kn := known_built B
  len := len_built B
  get i x hx := by
    have hi : i < xs.length := (List.getElem?_eq_some_iff.1 hx).1
    rcases B with ⟨rfl, rfl⟩ | ⟨o, g, cap, rfl, hob, _⟩
    · simp at hx
    · refine ⟨.ptr o i g, ?_, rfl, ?_⟩
      · simp only [indexAddrA, hts, hti, hte, Option.bind_eq_bind, Option.bind_some, natneg, if_false, Int.toNat_natCast, h1, live_of hob]
        simp [hi]
      · rw [flatC_plain H] at hob
        simp only [loadA, hte, cellsAt, hob, Option.bind_eq_bind, Option.bind_some, Option.map_some, Rv.part, ha]
        simp [List.head?_drop, hx]
theorem rd_lst {C : Cfg} {h : Heap} {ts te : Nat} {xs : List AV} {z : Nat} {r : Room} {ti tei : TI} (hts : C.ty ts = some ti) (hti : ti.td = .slice te) (hte : C.ty te = some tei) (h1 : tei.size = 1) (ha : tei.td.isAgg = false) (H : Plain1 xs) : Rd C h ts te (.lst xs z r) xs where
  kn := rfl
  len := rfl
  get i x hx := by
    have hc := (H x (List.mem_of_getElem? hx)).1
    refine ⟨.ref [x], ?_, rfl, ?_⟩
    · simp only [indexAddrA, hts, hti, hte, Option.bind_eq_bind, Option.bind_some, natneg, if_false, Int.toNat_natCast, h1, hx, hc]
      simp
    · simp [loadA, hte, cellsAt, Rv.part, ha]
theorem binA_str_eql {C : Cfg} (h : Heap) (t : Nat) (a b : List UInt8) : binA C h .eql t (.str a) (.str b) = some (.bool (a == b)) := rfl
theorem binA_str_neq {C : Cfg} (h : Heap) (t : Nat) (a b : List UInt8) : binA C h .neq t (.str a) (.str b) = some (.bool (!(a == b))) := rfl

theorem setCells_at {α : Type} : ∀ (ds cs : List α) (off : Nat), off + ds.length ≤ cs.length → ∀ i, (setCells cs off ds)[i]? = if off ≤ i ∧ i < off + ds.length then ds[i - off]? else cs[i]?
  | [], cs, off, _, i => by
    simp only [setCells, List.length_nil, Nat.add_zero]
    rw [if_neg (by omega)]
  | d :: r, cs, off, h, i => by
    simp only [setCells, List.length_cons] at h ⊢
    rw [setCells_at r (cs.set off d) (off + 1) (by simp; omega) i]
    by_cases h1 : i = off
    · subst h1
      rw [if_neg (by omega), if_pos (by omega), List.getElem?_set_self (by omega)]
      simp
    · by_cases h2 : off + 1 ≤ i ∧ i < off + 1 + r.length
      · rw [if_pos h2, if_pos (by omega), show i - off = (i - (off + 1)) + 1 from by omega, List.getElem?_cons_succ]
      · rw [if_neg h2, if_neg (by omega), List.getElem?_set_ne (by omega)]
theorem setCells_full {α : Type} {cs ds : List α} (h : ds.length = cs.length) : setCells cs 0 ds = ds := by
  apply List.ext_getElem?
  intro i
  rw [setCells_at ds cs 0 (by omega) i]
  by_cases hi : i < ds.length
  · rw [if_pos (by omega)]; rfl
  · rw [if_neg (by omega), List.getElem?_eq_none (by omega), List.getElem?_eq_none (by omega)]


noncomputable def tabC (T : Nat → Bool) : List AV := (List.range 256).map fun k => AV.bool (T k)
theorem tabC_len (T : Nat → Bool) : (tabC T).length = 256 := by simp [tabC]
theorem tabC_get (T : Nat → Bool) {k : Nat} (hk : k < 256) : (tabC T)[k]? = some (.bool (T k)) := by simp [tabC, hk]
theorem tabC_head (T : Nat → Bool) {k : Nat} (hk : k < 256) : ((tabC T).drop k).head? = some (.bool (T k)) := by rw [List.head?_drop, tabC_get T hk]
theorem tabC_set (T : Nat → Bool) {c : Nat} (hc : c < 256) : (tabC T).set c (.bool true) = tabC (fun k => T k || k == c) := by
  apply List.ext_getElem?
  intro i
  by_cases hi : i < 256
  · rw [List.getElem?_set, tabC_get (fun k => T k || k == c) hi]
    by_cases he : c = i
    · subst he; simp [tabC_len, hi]
    · have : (i == c) = false := by simp; omega
      simp [he, tabC_get T hi, this]
  · rw [List.getElem?_eq_none (by simp [tabC_len]; omega), List.getElem?_eq_none (by simp [tabC_len]; omega)]
theorem tabC_leaf (T : Nat → Bool) : (tabC T).all AV.leaf = true := by simp [tabC, AV.leaf]
theorem tabC_dead (T : Nat → Bool) : (tabC T).all AV.dead = true := by simp [tabC, AV.dead]
theorem tabC_zero : copies 256 [AV.bool false] = tabC (fun _ => false) := by kernel_rfl
theorem tabC_take (T : Nat → Bool) : (tabC T).take 256 = tabC T := List.take_of_length_le (by rw [tabC_len]; omega)
theorem tabC_over (T U : Nat → Bool) : setCells (tabC T) 0 (tabC U) = tabC U := setCells_full (by rw [tabC_len, tabC_len])
end Go.Rv

/-
  Maps of numbers to numbers, with open values.
-/
set_option linter.unusedSimpArgs false
set_option linter.unusedVariables false
namespace Go.Rv

def mapE (l : List (Int × Int)) : List (AV × AV) := l.map fun p => (.int .i64 p.1, .int .i64 p.2)
def pget (k : Int) : List (Int × Int) → Option Int
  | [] => none
  | (a, c) :: r => if k = a then some c else pget k r
def pput (k c : Int) : List (Int × Int) → List (Int × Int)
  | [] => [(k, c)]
  | (a, d) :: r => if k = a then (a, c) :: r else (a, d) :: pput k c r
theorem findA_mapE (k : Int) : ∀ l, findA (.int .i64 k) (mapE l) = some ((pget k l).map (AV.int .i64))
  | [] => rfl
  | (a, c) :: r => by
    have ih := findA_mapE k r
    simp only [mapE] at ih
    simp only [mapE, List.map_cons, findA, sameKey, beq_self_eq_true, if_true, Option.bind_eq_bind, Option.bind_some, ih, pget]
    by_cases h : k = a
    · subst h; simp
    · simp [h]
theorem putA_mapE (k c : Int) : ∀ l, putA (.int .i64 k) (.int .i64 c) (mapE l) = some (mapE (pput k c l))
  | [] => rfl
  | (a, d) :: r => by
    have ih := putA_mapE k c r
    simp only [mapE] at ih
    simp only [mapE, List.map_cons, putA, sameKey, beq_self_eq_true, if_true, Option.bind_eq_bind, Option.bind_some, ih, pput]
    by_cases h : k = a
    · subst h; simp
    · simp [h]
theorem pput_keys (k c : Int) : ∀ l, (pput k c l).map (·.1) = if k ∈ l.map (·.1) then l.map (·.1) else l.map (·.1) ++ [k]
  | [] => by simp [pput]
  | (a, d) :: r => by
    have ih := pput_keys k c r
    simp only [pput]
    by_cases h : k = a
    · subst h; simp
    · simp only [h, if_false, List.map_cons, ih, List.mem_cons, false_or]
      split <;> simp
theorem pget_none {k : Int} : ∀ {l}, pget k l = none ↔ k ∉ l.map (·.1)
  | [] => by simp [pget]
  | (a, d) :: r => by
    have ih := pget_none (k := k) (l := r)
    simp only [pget]
    by_cases h : k = a
    · subst h; simp
    · simp only [h, if_false, ih, List.map_cons, List.mem_cons, false_or]
theorem pget_mem {k c : Int} : ∀ {l}, pget k l = some c → (k, c) ∈ l
  | [], h => by simp [pget] at h
  | (a, d) :: r, h => by
    simp only [pget] at h
    split at h
    · rename_i he
      simp only [Option.some.injEq] at h
      subst he h; simp
    · exact List.mem_cons_of_mem _ (pget_mem h)
theorem pput_mem {k c : Int} : ∀ {l} {p : Int × Int}, p ∈ pput k c l → p = (k, c) ∨ p ∈ l
  | [], p, h => by simpa [pput] using h
  | (a, d) :: r, p, h => by
    simp only [pput] at h
    split at h
    · rename_i he
      subst he
      rcases List.mem_cons.1 h with rfl | h
      · exact .inl rfl
      · exact .inr (List.mem_cons_of_mem _ h)
    · rcases List.mem_cons.1 h with rfl | h
      · exact .inr (List.mem_cons_self ..)
      · rcases pput_mem h with h | h
        · exact .inl h
        · exact .inr (List.mem_cons_of_mem _ h)
theorem keysI_mapE : ∀ {l : List (Int × Int)}, (∀ k ∈ l.map (·.1), (Lit.int .i64 k).wf = true) → keysI (mapE l) = some (l.map (·.1))
  | [], _ => rfl
  | (a, d) :: r, h => by
    have ih := keysI_mapE (l := r) (fun k hk => h k (by simp at hk ⊢; exact .inr hk))
    have ha := h a (by simp)
    simp only [mapE] at ih
    simp only [mapE, List.map_cons, keysI, beq_self_eq_true, Bool.true_and, ha, if_true, ih, Option.map_some]

theorem mapAt_left {h : Heap} (X : Heap) {o : Nat} (ho : o < h.length) : Heap.mapAt (h ++ X) o = Heap.mapAt h o := by
  unfold Heap.mapAt; rw [List.getElem?_append_left ho]
theorem mapAt_set {h : Heap} {o : Nat} (es : List (AV × AV)) (ho : o < h.length) : Heap.mapAt (h.set o (.map es)) o = some es := by
  simp [Heap.mapAt, List.getElem?_set_self ho]
theorem mapAt_lt {h : Heap} {o : Nat} {es : List (AV × AV)} (H : h.mapAt o = some es) : o < h.length := by
  unfold Heap.mapAt at H
  split at H
  · rename_i hx
    exact (List.getElem?_eq_some_iff.1 hx).1
  · cases H
theorem keysOut_eq (l : List Int) : keysOut l = .lst (l.map (AV.int .i64)) 1 (if l = [] then .nil else .open) := by
  cases l <;> rfl
theorem ents_map (h : Heap) (o : Nat) : Heap.ents h (.map o) = h.mapAt o := rfl
theorem pget_pput (k c : Int) : ∀ l, pget k (pput k c l) = some c
  | [] => by simp [pput, pget]
  | (a, d) :: r => by
    simp only [pput]
    split
    · rename_i h; subst h; simp [pget]
    · rename_i h; simp [pget, h, pget_pput k c r]
theorem pget_some {k : Int} {l : List (Int × Int)} (h : k ∈ l.map (·.1)) : ∃ c, pget k l = some c ∧ (k, c) ∈ l := by
  cases hg : pget k l with
  | none => exact absurd h (pget_none.1 hg)
  | some c => exact ⟨c, rfl, pget_mem hg⟩
end Go.Rv

/-
  The rules for going through code, put together as one fact.
-/
namespace Go.Rv
set_option linter.defProp false in
def sxAll := (And.intro (And.intro (And.intro (And.intro (And.intro (And.intro (And.intro @codeAt_nil @codeAt_seq0) (And.intro @codeAt_seq1 (And.intro @codeAt_cond0 @codeAt_cond1))) (And.intro (And.intro @codeAt_block (And.intro @codeAt_loop @codeAt_scope)) (And.intro @codeAt_range0 (And.intro @codeAt_range1 @codeOps_region)))) (And.intro (And.intro (And.intro @exec_seq @exec_cond) (And.intro @exec_block (And.intro @exec_exit @exec_skip))) (And.intro (And.intro @exec_label (And.intro @exec_scope @exec_ret)) (And.intro @ops_nil (And.intro @sx_move @sx_assign))))) (And.intro (And.intro (And.intro (And.intro @sx_load @sx_store) (And.intro @sx_bin (And.intro @sx_un @sx_conv))) (And.intro (And.intro @sx_fieldAddr (And.intro @sx_field @sx_indexAddr)) (And.intro @sx_index (And.intro @sx_alloc @sx_box)))) (And.intro (And.intro (And.intro @sx_pick @sx_build) (And.intro @sx_buildSlice (And.intro @sx_len @sx_slice))) (And.intro (And.intro @sx_callf (And.intro @sx_callt @sx_makeFunc)) (And.intro @sx_makeSlice (And.intro @sx_makeMap @sx_lookup)))))) (And.intro (And.intro (And.intro (And.intro (And.intro @sx_mapUpdate @sx_insert) (And.intro @sx_nilCheck (And.intro @sx_iface @sx_extract))) (And.intro (And.intro @sx_append (And.intro @sx_cap @sx_clear)) (And.intro @sx_copy (And.intro @sx_delete @sx_max)))) (And.intro (And.intro (And.intro @sx_min @evalA_tmp) (And.intro @evalA_int (And.intro @evalA_bool @evalA_func))) (And.intro (And.intro @evalA_lst (And.intro @evalA_nilFunc @evalA_nilMap)) (And.intro @evalA_nilPtr (And.intro @evalA_str @known_int))))) (And.intro (And.intro (And.intro (And.intro @known_bool @known_str) (And.intro @known_ptr (And.intro @known_ref @known_agg))) (And.intro (And.intro @known_tup (And.intro @known_lst @known_msl)) (And.intro @known_clo (And.intro @cells_int @cells_bool)))) (And.intro (And.intro (And.intro @cells_str @cells_ptr) (And.intro @cells_ref (And.intro @cells_agg @cells_lst))) (And.intro (And.intro @leaf_int (And.intro @leaf_bool @leaf_str)) (And.intro @leaf_lst (And.intro @one_int @one_bool))))))) (And.intro (And.intro (And.intro (And.intro (And.intro (And.intro @one_str @isRef_ref) (And.intro @putAt_some (And.intro @putAt_none @binA_int))) (And.intro (And.intro @pick_true (And.intro @pick_false @parts_nil)) (And.intro @parts_cons (And.intro @get_hit @Env.get_cons)))) (And.intro (And.intro (And.intro @Env.get_nil @Env.put_eq) (And.intro @eq_self.{1} (And.intro @sched_draw @obj_app))) (And.intro (And.intro @obj_app0 (And.intro @live_app @live_app0)) (And.intro @set_app (And.intro @set_app0 @obj_zero))))) (And.intro (And.intro (And.intro (And.intro @obj_succ @live_zero) (And.intro @live_succ (And.intro @List.length_append.{0} @List.append_assoc.{0}))) (And.intro (And.intro @callEnd_ret (And.intro @callEnd_nrm @callv_clo)) (And.intro @natlt (And.intro @natneg @Int.toNat_natCast)))) (And.intro (And.intro (And.intro @got_some @go_tt) (And.intro @go_tf (And.intro @go_ft @go_ff))) (And.intro (And.intro @go_tup (And.intro @List.cons_append.{0} @List.nil_append.{0})) (And.intro @List.append_nil.{0} (And.intro @Option.bind_eq_bind.{0} @Option.map_some.{0, 0})))))) (And.intro (And.intro (And.intro (And.intro (And.intro @Option.map_none.{0, 0} @Option.getD_some.{0}) (And.intro @Option.getD_none.{0} (And.intro @Bool.false_eq_true @if_true.{1}))) (And.intro (And.intro @if_false.{1} (And.intro @ite_true.{1} @List.zipIdx_cons.{0})) (And.intro @List.zipIdx_nil.{0} (And.intro @List.map_cons.{0, 0} @List.map_nil.{0, 0})))) (And.intro (And.intro (And.intro @List.length_cons.{0} @List.length_nil.{0}) (And.intro @List.getElem?_cons_zero.{0} (And.intro @List.getElem?_cons_succ.{0} @List.drop_succ_cons.{0}))) (And.intro (And.intro @List.drop_zero.{0} (And.intro @List.head?_cons.{0} @List.set_cons_zero.{0})) (And.intro @List.set_cons_succ.{0} (And.intro @List.headD_cons.{0} @List.contains_cons.{0}))))) (And.intro (And.intro (And.intro (And.intro @List.contains_nil.{0} @Bool.or_false) (And.intro @Bool.false_or (And.intro @Bool.and_true @Bool.true_and))) (And.intro (And.intro @Bool.false_and (And.intro @Bool.and_false @Bool.not_true)) (And.intro @Bool.not_false (And.intro @Bool.true_or @Bool.or_true)))) (And.intro (And.intro (And.intro @decide_true (And.intro @decide_false @decide_eq_true_eq)) (And.intro @List.all_cons.{0} (And.intro @List.all_nil.{0} @List.take_succ_cons.{0}))) (And.intro (And.intro @List.take_zero.{0} (And.intro @beq_self_eq_true.{0} @Option.isSome_none.{0})) (And.intro @Option.isSome_some.{0} (And.intro @List.filter_cons.{0} @List.filter_nil.{0}))))))))
end Go.Rv

/-
  Layers: a call under another told as one step (callP); arguments made immutable for good ahead of it (iceA).
-/
set_option linter.unusedSimpArgs false
set_option linter.unusedVariables false
namespace Go.Rv
noncomputable section

def noLoop (h : Heap) : Bool := h.all fun x => match x with | .loop _ => false | _ => true
def Sim.re (s : Sim) (g : Nat → Nat → List Nat → Code → Code → Prop) : Sim := { s with good := g }
section
variable {s : Sim} {h : Heap} {w : World}
theorem noLoop_at (hn : noLoop h = true) {o : Nat} {r : ALoop} (hx : h[o]? = some (.loop r)) : False := by
  have := List.all_eq_true.1 hn _ (List.mem_of_getElem? hx)
  cases this
theorem Rel.re (g : Nat → Nat → List Nat → Code → Code → Prop) (hn : noLoop h = true) (R : Rel s h w) : Rel (s.re g) h w where
  inj := R.inj
  obj o b hb := by
    obtain ⟨x, hx, hr⟩ := R.obj o b hb
    refine ⟨x, hx, ?_⟩
    cases x with
    | cells cs gn =>
      obtain ⟨bc, el, k1, k2, k3⟩ := hr
      exact ⟨bc, el, k1, k2, fun i c hi => let ⟨v, h1, h2⟩ := k3 i c hi; ⟨v, h1, h2.regood g⟩⟩
    | map es =>
      obtain ⟨en, cl, k1, k2, k3, k4⟩ := hr
      exact ⟨en, cl, k1, k2, k3, fun i e hi => let ⟨m, h1, h2, h3⟩ := k4 i e hi; ⟨m, h1, h2.regood g, h3.regood g⟩⟩
    | loop r => exact (noLoop_at hn hx).elim
  apart := R.apart
  imm := R.imm
theorem Ext.re {s' : Sim} {h' : Heap} {w' : World} (g : Nat → Nat → List Nat → Code → Code → Prop) (E : Ext (s.re g) h w s' h' w') : Ext s h w (s'.re s.good) h' w' where
  size := E.size
  far := E.far
  shape := E.shape
  imm := E.imm
  gen := E.gen
  same := E.same
  kind := E.kind
  own := E.own
  os := E.os
  tape := E.tape
  output := E.output
  kindL := E.kindL
  good := rfl
  old := E.old
  kept := E.kept
end

/-- A call under that told, as one step. -/
def callP (C : Cfg) (f : Nat) (args : List AV) (h : Heap) : Option (CRes × Heap) :=
  if noLoop h then (call C f args h).bind fun x => if noLoop x.2 then some x else none else none

theorem known_of {P : Program} {f : Nat} {fn : Func} {b : Code} (h1 : P.funcs[f]? = some fn) (h2 : fn.body = some b) (h3 : (fn.name == "runtime.NumGoroutine") = false) : Known P f := ⟨fn, b, h1, h2, h3⟩

theorem callP_ok {T : RvTold} {P : Program} (hg : GlobOk (T.cfg P)) (hcl : ∀ g v, T.glob g = some v → ∀ h, freezeV h 0 40 v = some v) (hp : PrimOk P (T.cfg P)) (hm : P.follows .mixedOrders = true) {C : Cfg} (hC : ∀ g v, T.glob g = some v → C.glob g = some v)
    {f : Nat} {args : List AV} {h : Heap} {res : CRes} {h' : Heap} (hc : callP (T.cfg P) f args h = some (res, h')) {s : Sim} {w : World} {vs : List Value} (R : Rel s h w) (G : Glob C s h w) (H : VRs s h w args vs) : CallOk P f vs s h w res h' := by
  unfold callP at hc
  split at hc <;> first | cases hc | skip
  rename_i hn
  obtain ⟨x, hx, hc⟩ := Option.bind_eq_some_iff.1 hc
  split at hc <;> first | cases hc | skip
  rename_i hn'
  have G1 : GG (T.cfg P) (ordOk (T.cfg P)) (s.re (goodOf (ordOk (T.cfg P)))) h w := ⟨fun g v hv => (G g v (hC g v hv)).regood _, rfl⟩
  have := RvTold.sound hg hcl hp hm hx (R.re _ hn) G1 (H.regood _)
  refine Calls.mono this fun e w' he => ?_
  obtain ⟨s', E, R', hv⟩ := he
  refine ⟨s'.re s.good, E.re _, R'.re _ hn', ?_⟩
  cases res with
  | ret v =>
    cases e with
    | returned u => exact hv.regood _
    | panicked _ => exact hv.elim
    | outgrown => exact hv.elim
  | pan v =>
    cases e with
    | returned u => exact hv.elim
    | panicked c =>
      obtain ⟨u, h1, h2⟩ := hv
      exact ⟨u, h1, h2.regood _⟩
    | outgrown => exact hv.elim

theorem callP_pure {T : RvTold} {P : Program} (hg : GlobOk (T.cfg P)) (hcl : ∀ g v, T.glob g = some v → ∀ h, freezeV h 0 40 v = some v) (hp : PrimOk P (T.cfg P)) (hm : P.follows .mixedOrders = true)
    {f : Nat} (hpu : T.pure f = true) {args : List AV} {h : Heap} {v : AV} {h' : Heap} (hc : callP (T.cfg P) f args h = some (.ret v, h')) : h' = h := by
  unfold callP at hc
  split at hc <;> first | cases hc | skip
  obtain ⟨x, hx, hc⟩ := Option.bind_eq_some_iff.1 hc
  split at hc <;> first | cases hc | skip
  obtain ⟨k, hk⟩ := (call_iff (T.cfg P)).1 hx
  exact callF_pure (RvTold.ok hg hcl hp hm) hpu hk

/-- The objects that a value comes to. -/
def visV (h : Heap) : Nat → AV → List Nat
  | 0, _ => []
  | d + 1, v =>
    match v with
    | .ptr o off g => o :: (((h.obj o g).getD []).drop off).flatMap (visV h d)
    | .msl o off len sz g _ => o :: ((((h.obj o g).getD []).drop off).take (len * sz)).flatMap (visV h d)
    | .ref cs => cs.flatMap (visV h d)
    | .agg cs => cs.flatMap (visV h d)
    | .tup cs => cs.flatMap (visV h d)
    | .clo _ cs => cs.flatMap (visV h d)
    | .lst xs _ _ => xs.flatMap (visV h d)
    | .iface _ v => visV h d v
    | _ => []
def killX (S : List Nat) (o : Nat) (x : AObj) : AObj :=
  match x with
  | .cells cs g => if S.contains o then .cells cs (g + 1) else .cells cs g
  | x => x
/-- These objects are forgotten: what points to them is old. -/
def killO (S : List Nat) (h : Heap) : Heap := h.mapIdx (killX S)
def iceA (h : Heap) (vs : List AV) : Option (List AV × Heap) := (mapO (freezeV h 0 40) vs).map fun avs => (avs, killO (vs.flatMap (visV h 40)) h)
def Sim.ice (s : Sim) (S : List Nat) : Sim := { μ := fun o => if o ∈ S then none else s.μ o, I := fun b => s.I b ∨ ∃ o ∈ S, s.μ o = some b, good := s.good }

section
variable {s : Sim} {h : Heap} {w : World} {S : List Nat}
theorem killO_get (o : Nat) : (killO S h)[o]? = (h[o]?).map (killX S o) := by
  unfold killO
  rw [List.getElem?_mapIdx]
theorem killX_out {o : Nat} (ho : o ∉ S) (x : AObj) : killX S o x = x := by
  cases x <;> simp [killX, ho]
theorem killO_out {o : Nat} (ho : o ∉ S) : (killO S h)[o]? = h[o]? := by
  rw [killO_get]
  cases h[o]? with
  | none => rfl
  | some x => simp [killX_out ho]
theorem genOf_kill (o g : Nat) (hg : genOf h o = some g) : ∃ g', genOf (killO S h) o = some g' ∧ g ≤ g' ∧ (o ∈ S → isMap h o = false → isLoop h o = false → g < g') := by
  unfold genOf isMap isLoop at *
  rw [killO_get]
  cases hx : h[o]? with
  | none => rw [hx] at hg; cases hg
  | some x =>
    rw [hx] at hg
    cases x with
    | cells cs gn =>
      simp only [Option.some.injEq] at hg
      subst hg
      by_cases ho : o ∈ S
      · exact ⟨gn + 1, by simp [killX, ho], by omega, fun _ _ _ => by omega⟩
      · exact ⟨gn, by simp [killX, ho], by omega, fun h => absurd h ho⟩
    | map es =>
      simp only [Option.some.injEq] at hg
      subst hg
      exact ⟨0, by simp [killX], by omega, fun _ h => by simp at h⟩
    | loop r =>
      simp only [Option.some.injEq] at hg
      subst hg
      exact ⟨0, by simp [killX], by omega, fun _ _ h => by simp at h⟩

/-- All of them have blocks, and are objects of cells. -/
def Has (s : Sim) (h : Heap) (S : List Nat) : Prop := ∀ o ∈ S, (∃ b, s.μ o = some b) ∧ isMap h o = false ∧ isLoop h o = false

theorem ext_ice (hS : Has s h S) : Ext s h w (s.ice S) (killO S h) w where
  size := Nat.le_refl _
  far := fun _ _ _ => rfl
  shape := fun _ _ h => h
  imm := fun b hb => .inl hb
  gen := fun o g hg => let ⟨g', h1, h2, _⟩ := genOf_kill (S := S) o g hg; ⟨g', h1, h2⟩
  same := fun o g hg hg' => by
    obtain ⟨g', h1, h2, h3⟩ := genOf_kill (S := S) o g hg
    rw [hg'] at h1
    injection h1 with h1
    by_cases ho : o ∈ S
    · obtain ⟨_, m1, m2⟩ := hS o ho
      have := h3 ho m1 m2
      omega
    · refine ⟨fun b hb => by simp [Sim.ice, ho, hb], ?_⟩
      unfold lenOf; rw [killO_out ho]
  kind := fun o hm => by
    have ho : o ∉ S := fun ho => by rw [(hS o ho).2.1] at hm; cases hm
    unfold isMap at *; rw [killO_out ho]; exact hm
  own := fun o b hb => by
    simp only [Sim.ice] at hb
    split at hb
    · cases hb
    · exact .inl ⟨o, hb⟩
  os := rfl
  tape := rfl
  output := rfl
  kindL := fun o hm => by
    have ho : o ∉ S := fun ho => by rw [(hS o ho).2.2] at hm; cases hm
    unfold isLoop at *; rw [killO_out ho]; exact hm
  good := rfl
  old := fun o b _ hb => by
    simp only [Sim.ice] at hb
    split at hb
    · cases hb
    · exact ⟨b, hb⟩
  kept := fun o _ hn => by
    have ho : o ∉ S := fun ho => by
      obtain ⟨⟨b, hb⟩, _⟩ := hS o ho
      rw [hn] at hb; cases hb
    exact killO_out ho

theorem rel_ice (R : Rel s h w) (hS : Has s h S) : Rel (s.ice S) (killO S h) w where
  inj := fun o o' b h1 h2 => by
    simp only [Sim.ice] at h1 h2
    split at h1 <;> split at h2 <;> first | cases h1 | cases h2 | exact R.inj _ _ _ h1 h2
  obj := fun o b hb => by
    simp only [Sim.ice] at hb
    split at hb
    · cases hb
    · rename_i ho
      obtain ⟨x, hx, hr⟩ := R.obj o b hb
      exact ⟨x, by rw [killO_out ho]; exact hx, hr.ext R.apart (ext_ice hS) rfl⟩
  apart := fun o b hb hI => by
    simp only [Sim.ice] at hb hI
    split at hb
    · cases hb
    · rename_i ho
      rcases hI with hI | ⟨o', ho', hb'⟩
      · exact R.apart o b hb hI
      · have := R.inj o o' b hb hb'
        subst this
        exact ho ho'
  imm := fun b hI => by
    rcases hI with hI | ⟨o', _, hb'⟩
    · exact R.imm b hI
    · exact R.lt hb'

theorem obj_kind {o g : Nat} {cs : List AV} (ho : h.obj o g = some cs) : isMap h o = false ∧ isLoop h o = false := by
  have := (genOf_obj ho).2.1
  unfold isMap isLoop
  rw [this]
  exact ⟨rfl, rfl⟩

/-- What is made immutable has blocks. -/
theorem vis_has (R : Rel s h w) : ∀ (D : Nat) {d : Nat}, d ≤ D → ∀ {v v' : AV} {u : Value}, freezeV h 0 d v = some v' → VR s h w v u → Has s h (visV h d v) := by
  intro D
  induction D with
  | zero =>
    intro d hd v v' u hf _
    obtain rfl : d = 0 := by omega
    simp [freezeV] at hf
  | succ D ih =>
    intro d hd v v' u hf hv
    cases d with
    | zero => simp [freezeV] at hf
    | succ d =>
      have ih' : ∀ {v v' : AV} {u : Value}, freezeV h 0 d v = some v' → VR s h w v u → Has s h (visV h d v) := fun hf hv => ih (d := d) (by omega) hf hv
      have many : ∀ {cs cs' : List AV}, mapO (freezeV h 0 d) cs = some cs' → (∀ (i : Nat) c, cs[i]? = some c → ∃ u, VR s h w c u) → Has s h (cs.flatMap (visV h d)) := by
        intro cs cs' hm hr o ho
        obtain ⟨c, hc, ho⟩ := List.mem_flatMap.1 ho
        obtain ⟨i, hi⟩ := List.mem_iff_getElem?.1 hc
        obtain ⟨b, _, hb⟩ := (mapO_get hm).2 i c hi
        obtain ⟨u, hu⟩ := hr i c hi
        exact ih' hb hu o ho
      have nope : Has s h [] := fun o ho => by simp at ho
      cases v <;> simp only [freezeV, Nat.not_lt_zero, if_false] at hf <;> simp only [visV] <;> try exact nope
      case ptr o off g =>
        simp only [Option.bind_eq_bind] at hf
        obtain ⟨cs, hcs, hf⟩ := Option.bind_eq_some_iff.1 hf
        obtain ⟨cs', hcs', hf⟩ := Option.bind_eq_some_iff.1 hf
        rw [hcs]
        cases hv with
        | ptrOld _ _ _ g' a e1 e2 => have := (genOf_obj hcs).1; rw [this] at e1; injection e1; omega
        | ptr _ _ _ b e1 e2 =>
          have hread := (obj_reads R hcs e2).drop off
          intro o' ho'
          rcases List.mem_cons.1 ho' with ho' | ho'
          · subst ho'; exact ⟨⟨b, e2⟩, obj_kind hcs⟩
          · exact many hcs' (fun i c hi => let ⟨v, _, hvr⟩ := hread i c hi; ⟨v, hvr⟩) o' ho'
      case msl o off len sz g cap =>
        simp only [Option.bind_eq_bind] at hf
        obtain ⟨cs, hcs, hf⟩ := Option.bind_eq_some_iff.1 hf
        split at hf <;> first | cases hf | skip
        obtain ⟨cs', hcs', hf⟩ := Option.bind_eq_some_iff.1 hf
        rw [hcs]
        cases hv with
        | mslOld _ _ _ _ _ _ g' a m c e1 e2 => have := (genOf_obj hcs).1; rw [this] at e1; injection e1; omega
        | msl _ _ _ _ _ _ b c el m off' e0 e1 e2 e3 e4 e5 e6 e7 =>
          have hread := ((obj_reads R hcs e2).drop off).take (len * sz)
          intro o' ho'
          rcases List.mem_cons.1 ho' with ho' | ho'
          · subst ho'; exact ⟨⟨b, e2⟩, obj_kind hcs⟩
          · exact many hcs' (fun i c hi => let ⟨v, _, hvr⟩ := hread i c hi; ⟨v, hvr⟩) o' ho'
      case ref cs =>
        obtain ⟨cs', hcs, rfl⟩ := Option.map_eq_some_iff.1 hf
        cases hv with
        | ref _ b off f e1 e2 e3 => exact many hcs fun i c hi => ⟨_, e3 i c hi⟩
      case lst xs z r =>
        obtain ⟨xs', hxs, rfl⟩ := Option.map_eq_some_iff.1 hf
        cases hv with
        | lstNil => exact nope
        | lstEmpty _ A => exact nope
        | lst _ _ _ b off c f e1 e2 e3 e4 e5 e6 =>
          intro o ho
          obtain ⟨x, hx, ho⟩ := List.mem_flatMap.1 ho
          obtain ⟨i, hi⟩ := List.mem_iff_getElem?.1 hx
          obtain ⟨x', _, hfx⟩ := (mapO_get hxs).2 i x hi
          -- an element is one cell, or cells put together
          cases d with
          | zero => simp [freezeV] at hfx
          | succ d =>
            have hone : x.cells = [x] → Has s h (visV h (d + 1) x) := fun hc => ih' hfx (e6 i 0 x x hi (by rw [hc]; rfl))
            cases x with
            | agg cs =>
              simp only [freezeV] at hfx
              obtain ⟨cs', hcs, _⟩ := Option.map_eq_some_iff.1 hfx
              simp only [visV] at ho
              obtain ⟨c, hc, ho⟩ := List.mem_flatMap.1 ho
              obtain ⟨j, hj⟩ := List.mem_iff_getElem?.1 hc
              obtain ⟨c', _, hfc⟩ := (mapO_get hcs).2 j c hj
              exact ih (d := d) (by omega) hfc (e6 i j _ c hi hj) o ho
            | _ => exact hone rfl o ho
      case clo f cs =>
        obtain ⟨cs', hcs, rfl⟩ := Option.map_eq_some_iff.1 hf
        cases hv with
        | clo _ _ vs hl hr => exact many hcs fun i c hi => ⟨_, hr i c hi⟩
      case agg cs =>
        obtain ⟨cs', hcs, rfl⟩ := Option.map_eq_some_iff.1 hf
        cases hv with
        | agg _ vs hl hr => exact many hcs fun i c hi => ⟨_, hr i c hi⟩
      case tup cs =>
        obtain ⟨cs', hcs, rfl⟩ := Option.map_eq_some_iff.1 hf
        cases hv with
        | tup _ vs hl hr => exact many hcs fun i c hi => ⟨_, hr i c hi⟩
      case iface t x =>
        obtain ⟨x', hx, rfl⟩ := Option.map_eq_some_iff.1 hf
        cases hv with
        | iface _ _ v hv => exact ih' hx hv

theorem ice_rel (R : Rel s h w) : ∀ (D : Nat) {d : Nat}, d ≤ D → ∀ {v v' : AV} {u : Value}, freezeV h 0 d v = some v' → (∀ o ∈ visV h d v, o ∈ S) → VR s h w v u → VR (s.ice S) (killO S h) w v' u := by
  intro D
  induction D with
  | zero =>
    intro d hd v v' u hf _ _
    obtain rfl : d = 0 := by omega
    simp [freezeV] at hf
  | succ D ih =>
    intro d hd v v' u hf hs hv
    cases d with
    | zero => simp [freezeV] at hf
    | succ d =>
      have ih' : ∀ {v v' : AV} {u : Value}, freezeV h 0 d v = some v' → (∀ o ∈ visV h d v, o ∈ S) → VR s h w v u → VR (s.ice S) (killO S h) w v' u := fun hf hs hv => ih (d := d) (by omega) hf hs hv
      have sub : ∀ {cs : List AV}, (∀ o ∈ cs.flatMap (visV h d), o ∈ S) → ∀ {i : Nat} {c : AV}, cs[i]? = some c → ∀ o ∈ visV h d c, o ∈ S := fun hs i c hi o ho => hs o (List.mem_flatMap.2 ⟨c, List.mem_of_getElem? hi, ho⟩)
      cases v <;> simp only [freezeV, Nat.not_lt_zero, if_false] at hf <;> simp only [visV] at hs
      case bool b => injection hf with hf; subst hf; cases hv; exact .bool _
      case int k i => injection hf with hf; subst hf; cases hv; exact .int _ _
      case str l => injection hf with hf; subst hf; cases hv; exact .str _
      case nilPtr => injection hf with hf; subst hf; cases hv; exact .nilPtr
      case nilMap => injection hf with hf; subst hf; cases hv; exact .nilMap
      case nilFunc => injection hf with hf; subst hf; cases hv; exact .nilFunc
      case nilIface => injection hf with hf; subst hf; cases hv; exact .nilIface
      case junk => injection hf with hf; subst hf; exact .junk _
      case yld l => cases hf
      case map o => cases hf
      case ptr o off g =>
        simp only [Option.bind_eq_bind] at hf
        replace hf := Option.bind_eq_some_iff.1 hf
        obtain ⟨cs, hcs, hf⟩ := hf
        replace hf := Option.bind_eq_some_iff.1 hf
        obtain ⟨cs', hcs', hf⟩ := hf
        injection hf with hf; subst hf
        rw [hcs] at hs
        obtain ⟨k1, k2⟩ := mapO_get hcs'
        cases hv with
        | ptrOld _ _ _ g' a e1 e2 => have := (genOf_obj hcs).1; rw [this] at e1; injection e1; omega
        | ptr _ _ _ b e1 e2 =>
          have hread := (obj_reads R hcs e2).drop off
          have key : ∀ (i : Nat) c', cs'[i]? = some c' → ∃ v, w.cell? ⟨b, off + i, none⟩ = some v ∧ VR (s.ice S) (killO S h) w c' v := by
            intro i c' hi
            have hlt : i < (cs.drop off).length := by rw [← k1]; exact (List.getElem?_eq_some_iff.1 hi).1
            obtain ⟨b', hb', hfb⟩ := k2 i _ (List.getElem?_eq_getElem hlt)
            rw [hi] at hb'
            injection hb' with hb'; subst hb'
            obtain ⟨v, hv, hvr⟩ := hread i _ (List.getElem?_eq_getElem hlt)
            exact ⟨v, by simpa using hv, ih' hfb (sub (fun o' ho' => hs o' (List.mem_cons_of_mem _ ho')) (List.getElem?_eq_getElem hlt)) hvr⟩
          refine .ref cs' b off (fun i => (w.cell? ⟨b, off + i, none⟩).getD undef) (fun _ => .inr ⟨o, hs o (List.mem_cons_self ..), e2⟩) (fun i c hi => ?_) (fun i c hi => ?_)
          · obtain ⟨v, hv, _⟩ := key i c hi
            rw [hv]; rfl
          · obtain ⟨v, hv, hvr⟩ := key i c hi
            rw [hv]; exact hvr
      case msl o off len sz g cap =>
        simp only [Option.bind_eq_bind] at hf
        replace hf := Option.bind_eq_some_iff.1 hf
        obtain ⟨cs, hcs, hf⟩ := hf
        split at hf
        · rename_i hle
          replace hf := Option.bind_eq_some_iff.1 hf
          obtain ⟨cs', hcs', hf⟩ := hf
          injection hf with hf; subst hf
          rw [hcs] at hs
          obtain ⟨k1, k2⟩ := mapO_get hcs'
          cases hv with
          | mslOld _ _ _ _ _ _ g' a m c e1 e2 => have := (genOf_obj hcs).1; rw [this] at e1; injection e1; omega
          | msl _ _ _ _ _ _ b c el m off' e0 e1 e2 e3 e4 e5 e6 e7 =>
            by_cases hl0 : len = 0
            · subst hl0
              exact lst_empty _ _ _ _ _ trivial
            · obtain rfl : off' = off := e0.resolve_right (by omega)
              have hread := ((obj_reads R hcs e2).drop off').take (len * sz)
              refine lst_of_cells (fun _ => .inr ⟨o, hs o (List.mem_cons_self ..), e2⟩) (by rw [k1]; simp; omega) (fun i c' hi => ?_) trivial e3
              have hlt : i < ((cs.drop off').take (len * sz)).length := by rw [← k1]; exact (List.getElem?_eq_some_iff.1 hi).1
              obtain ⟨b', hb', hfb⟩ := k2 i _ (List.getElem?_eq_getElem hlt)
              rw [hi] at hb'
              injection hb' with hb'; subst hb'
              obtain ⟨v, hv, hvr⟩ := hread i _ (List.getElem?_eq_getElem hlt)
              exact ⟨v, by simpa using hv, ih' hfb (sub (fun o' ho' => hs o' (List.mem_cons_of_mem _ ho')) (List.getElem?_eq_getElem hlt)) hvr⟩
        · cases hf
      case ref cs =>
        obtain ⟨cs', hcs, rfl⟩ := Option.map_eq_some_iff.1 hf
        obtain ⟨k1, k2⟩ := mapO_get hcs
        cases hv with
        | ref _ b off f e1 e2 e3 =>
          have key : ∀ (i : Nat) c', cs'[i]? = some c' → ∃ c, cs[i]? = some c ∧ freezeV h 0 d c = some c' := by
            intro i c' hi
            have hlt : i < cs.length := by rw [← k1]; exact (List.getElem?_eq_some_iff.1 hi).1
            obtain ⟨b', hb', hfb⟩ := k2 i _ (List.getElem?_eq_getElem hlt)
            rw [hi] at hb'
            injection hb' with hb'; subst hb'
            exact ⟨_, List.getElem?_eq_getElem hlt, hfb⟩
          refine .ref _ b off f (fun h0 => .inl (e1 (by omega))) (fun i c' hi => ?_) (fun i c' hi => ?_)
          · obtain ⟨c, hc, _⟩ := key i c' hi
            exact e2 i c hc
          · obtain ⟨c, hc, hfc⟩ := key i c' hi
            exact ih' hfc (sub hs hc) (e3 i c hc)
      case lst xs z r =>
        obtain ⟨xs', hxs, rfl⟩ := Option.map_eq_some_iff.1 hf
        obtain ⟨k1, k2⟩ := mapO_get hxs
        cases hv with
        | lstNil =>
          simp only [mapO, Option.some.injEq] at hxs
          subst hxs
          exact .lstNil _
        | lstEmpty _ A =>
          simp only [mapO, Option.some.injEq] at hxs
          subst hxs
          exact .lstEmpty _ A
        | lst _ _ _ b off c f e1 e2 e3 e4 e5 e6 =>
          have key : ∀ (i : Nat) x', xs'[i]? = some x' → ∃ x, xs[i]? = some x ∧ freezeV h 0 d x = some x' := by
            intro i x' hi
            have hlt : i < xs.length := by rw [← k1]; exact (List.getElem?_eq_some_iff.1 hi).1
            obtain ⟨b', hb', hfb⟩ := k2 i _ (List.getElem?_eq_getElem hlt)
            rw [hi] at hb'
            injection hb' with hb'; subst hb'
            exact ⟨_, List.getElem?_eq_getElem hlt, hfb⟩
          have cell : ∀ (i j : Nat) x' y', xs'[i]? = some x' → x'.cells[j]? = some y' → ∃ x y d', d' ≤ d ∧ xs[i]? = some x ∧ x.cells[j]? = some y ∧ freezeV h 0 d' y = some y' ∧ ∀ o ∈ visV h d' y, o ∈ S := by
            intro i j x' y' hi hj
            obtain ⟨x, hx, hfx⟩ := key i x' hi
            have hsx := sub hs hx
            cases d with
            | zero => simp [freezeV] at hfx
            | succ d =>
              by_cases hagg : ∃ cs, x = .agg cs
              · obtain ⟨cs, rfl⟩ := hagg
                simp only [freezeV] at hfx
                obtain ⟨cs', hcs, rfl⟩ := Option.map_eq_some_iff.1 hfx
                have hj' : cs'[j]? = some y' := hj
                have hlt : j < cs.length := by rw [← (mapO_get hcs).1]; exact (List.getElem?_eq_some_iff.1 hj').1
                obtain ⟨b', hb', hfb⟩ := (mapO_get hcs).2 j _ (List.getElem?_eq_getElem hlt)
                rw [hj'] at hb'
                injection hb' with hb'; subst hb'
                simp only [visV] at hsx
                exact ⟨_, _, d, by omega, hx, List.getElem?_eq_getElem hlt, hfb, fun o ho => hsx o (List.mem_flatMap.2 ⟨_, List.getElem_mem hlt, ho⟩)⟩
              · obtain ⟨m1, m2⟩ := freeze_cells hfx
                have hxc : x.cells = [x] := by
                  cases x <;> first | rfl | exact (hagg ⟨_, rfl⟩).elim
                have hlt : j < x.cells.length := by rw [← m1]; exact (List.getElem?_eq_some_iff.1 hj).1
                rw [hxc] at hlt
                obtain rfl : j = 0 := by simpa using hlt
                have hxc' : x'.cells = [x'] := by
                  cases x <;> simp only [freezeV, Nat.not_lt_zero, if_false] at hfx <;> first
                    | (injection hfx with hfx; subst hfx; rfl)
                    | (obtain ⟨_, _, rfl⟩ := Option.map_eq_some_iff.1 hfx; first | rfl | exact (hagg ⟨_, rfl⟩).elim)
                    | (simp only [Option.bind_eq_bind] at hfx
                       obtain ⟨_, _, hfx⟩ := Option.bind_eq_some_iff.1 hfx
                       obtain ⟨_, _, hfx⟩ := Option.bind_eq_some_iff.1 hfx
                       injection hfx with hfx; subst hfx; rfl)
                    | (simp only [Option.bind_eq_bind] at hfx
                       obtain ⟨_, _, hfx⟩ := Option.bind_eq_some_iff.1 hfx
                       split at hfx
                       · obtain ⟨_, _, hfx⟩ := Option.bind_eq_some_iff.1 hfx
                         injection hfx with hfx; subst hfx; rfl
                       · cases hfx)
                    | cases hfx
                rw [hxc'] at hj
                simp at hj; subst hj
                exact ⟨x, x, d + 1, Nat.le_refl _, hx, by rw [hxc]; rfl, hfx, hsx⟩
          have := VR.lst (s := s.ice S) (h := killO S h) (w := w) xs' z r b off c f (fun h0 => .inl (e1 (by omega))) e2 (by omega)
            (fun i x' hi => by
              obtain ⟨x, hx, hfx⟩ := key i x' hi
              rw [(freeze_cells hfx).1]; exact e4 i x hx)
            (fun i j x' y' hi hj => by
              obtain ⟨x, y, d', _, hx, hy, _⟩ := cell i j x' y' hi hj
              exact e5 i j x y hx hy)
            (fun i j x' y' hi hj => by
              obtain ⟨x, y, d', hd', hx, hy, hfy, hsy⟩ := cell i j x' y' hi hj
              exact ih (d := d') (by omega) hfy hsy (e6 i j x y hx hy))
          rw [k1] at this
          exact this
      case clo f cs =>
        obtain ⟨cs', hcs, rfl⟩ := Option.map_eq_some_iff.1 hf
        obtain ⟨k1, k2⟩ := mapO_get hcs
        cases hv with
        | clo _ _ vs hl hr =>
          refine .clo _ _ vs (by omega) fun i c' hi => ?_
          have hlt : i < cs.length := by rw [← k1]; exact (List.getElem?_eq_some_iff.1 hi).1
          obtain ⟨b', hb', hfb⟩ := k2 i _ (List.getElem?_eq_getElem hlt)
          rw [hi] at hb'
          injection hb' with hb'; subst hb'
          exact ih' hfb (sub hs (List.getElem?_eq_getElem hlt)) (hr i _ (List.getElem?_eq_getElem hlt))
      case agg cs =>
        obtain ⟨cs', hcs, rfl⟩ := Option.map_eq_some_iff.1 hf
        obtain ⟨k1, k2⟩ := mapO_get hcs
        cases hv with
        | agg _ vs hl hr =>
          refine .agg _ vs (by omega) fun i c' hi => ?_
          have hlt : i < cs.length := by rw [← k1]; exact (List.getElem?_eq_some_iff.1 hi).1
          obtain ⟨b', hb', hfb⟩ := k2 i _ (List.getElem?_eq_getElem hlt)
          rw [hi] at hb'
          injection hb' with hb'; subst hb'
          exact ih' hfb (sub hs (List.getElem?_eq_getElem hlt)) (hr i _ (List.getElem?_eq_getElem hlt))
      case tup cs =>
        obtain ⟨cs', hcs, rfl⟩ := Option.map_eq_some_iff.1 hf
        obtain ⟨k1, k2⟩ := mapO_get hcs
        cases hv with
        | tup _ vs hl hr =>
          refine .tup _ vs (by omega) fun i c' hi => ?_
          have hlt : i < cs.length := by rw [← k1]; exact (List.getElem?_eq_some_iff.1 hi).1
          obtain ⟨b', hb', hfb⟩ := k2 i _ (List.getElem?_eq_getElem hlt)
          rw [hi] at hb'
          injection hb' with hb'; subst hb'
          exact ih' hfb (sub hs (List.getElem?_eq_getElem hlt)) (hr i _ (List.getElem?_eq_getElem hlt))
      case iface t x =>
        obtain ⟨x', hx, rfl⟩ := Option.map_eq_some_iff.1 hf
        cases hv with
        | iface _ _ v hv => exact .iface _ _ _ (ih' hx hs hv)

/-- Arguments made immutable. -/
theorem ice_ok (R : Rel s h w) {args avs : List AV} {h1 : Heap} (hi : iceA h args = some (avs, h1)) {vs : List Value} (H : VRs s h w args vs) : ∃ s1, Ext s h w s1 h1 w ∧ Rel s1 h1 w ∧ VRs s1 h1 w avs vs := by
  unfold iceA at hi
  obtain ⟨as', hm, hx⟩ := Option.map_eq_some_iff.1 hi
  simp only [Prod.mk.injEq] at hx
  obtain ⟨rfl, rfl⟩ := hx
  obtain ⟨k1, k2⟩ := mapO_get hm
  have hS : Has s h (args.flatMap (visV h 40)) := fun o ho => by
    obtain ⟨c, hc, ho⟩ := List.mem_flatMap.1 ho
    obtain ⟨i, hi⟩ := List.mem_iff_getElem?.1 hc
    obtain ⟨b, _, hb⟩ := k2 i c hi
    obtain ⟨v, _, hv⟩ := H.2 i c hi
    exact vis_has R 40 (Nat.le_refl _) hb hv o ho
  refine ⟨_, ext_ice hS, rel_ice R hS, by rw [k1]; exact H.1, fun i c hi => ?_⟩
  have hlt : i < args.length := by rw [← k1]; exact (List.getElem?_eq_some_iff.1 hi).1
  obtain ⟨b, hb, hfb⟩ := k2 i _ (List.getElem?_eq_getElem hlt)
  rw [hi] at hb
  injection hb with hb; subst hb
  obtain ⟨v, hv, hvr⟩ := H.2 i _ (List.getElem?_eq_getElem hlt)
  exact ⟨v, hv, ice_rel R 40 (Nat.le_refl _) hfb (fun o ho => List.mem_flatMap.2 ⟨_, List.getElem_mem hlt, ho⟩) hvr⟩
end

/-- A call under that told, its arguments made immutable for good. -/
def callIce (C : Cfg) (f : Nat) (args : List AV) (h : Heap) : Option (CRes × Heap) := (iceA h args).bind fun x => callP C f x.1 x.2

theorem callIce_ok {T : RvTold} {P : Program} (hg : GlobOk (T.cfg P)) (hcl : ∀ g v, T.glob g = some v → ∀ h, freezeV h 0 40 v = some v) (hp : PrimOk P (T.cfg P)) (hm : P.follows .mixedOrders = true) {C : Cfg} (hC : ∀ g v, T.glob g = some v → C.glob g = some v)
    {f : Nat} {args : List AV} {h : Heap} {res : CRes} {h' : Heap} (hc : callIce (T.cfg P) f args h = some (res, h')) {s : Sim} {w : World} {vs : List Value} (R : Rel s h w) (G : Glob C s h w) (H : VRs s h w args vs) : CallOk P f vs s h w res h' := by
  unfold callIce at hc
  obtain ⟨⟨avs, h1⟩, hi, hc⟩ := Option.bind_eq_some_iff.1 hc
  obtain ⟨s1, E, R1, H1⟩ := ice_ok R hi H
  refine Calls.mono (callP_ok hg hcl hp hm hC hc R1 (G.ext R.apart E) H1) fun e w' he => ?_
  obtain ⟨s', E', R', hv⟩ := he
  exact ⟨s', E.trans E', R', hv⟩
end
end Go.Rv

/-
  Cells put one behind the other, one element changed; what is immutable already; arguments made immutable.
-/
set_option linter.unusedSimpArgs false
set_option linter.unusedVariables false
namespace Go.Rv
noncomputable section

def immB : Nat → AV → Bool
  | 0, _ => false
  | d + 1, v =>
    match v with
    | .ptr _ _ _ => false
    | .msl _ _ _ _ _ _ => false
    | .map _ => false
    | .yld _ => false
    | .ref cs => cs.all (immB d)
    | .agg cs => cs.all (immB d)
    | .tup cs => cs.all (immB d)
    | .clo _ cs => cs.all (immB d)
    | .lst xs _ _ => xs.all (immB d)
    | .iface _ v => immB d v
    | _ => true
theorem mapO_id {α : Type} {f : α → Option α} : ∀ {l : List α}, (∀ x ∈ l, f x = some x) → mapO f l = some l
  | [], _ => rfl
  | x :: r, H => by
    rw [mapO_cons, H x (List.mem_cons_self ..), mapO_id fun y hy => H y (List.mem_cons_of_mem _ hy)]
    rfl
theorem imm_freeze (h : Heap) (n : Nat) : ∀ (d : Nat) (v : AV), immB d v = true → ∀ d', d ≤ d' → freezeV h n d' v = some v
  | 0, v, hv, _, _ => by simp [immB] at hv
  | d + 1, v, hv, d', hd => by
    obtain ⟨e, rfl⟩ : ∃ e, d' = e + 1 := ⟨d' - 1, by omega⟩
    have many : ∀ {cs : List AV}, cs.all (immB d) = true → mapO (freezeV h n e) cs = some cs := fun hc => mapO_id fun x hx => imm_freeze h n d x (List.all_eq_true.1 hc x hx) e (by omega)
    cases v <;> simp only [immB, Bool.false_eq_true] at hv <;> simp only [freezeV] <;> first | (rw [many hv]; rfl) | (rw [imm_freeze h n d _ hv e (by omega)]; rfl) | rfl
theorem imm_vis (h : Heap) : ∀ (d : Nat) (v : AV), immB d v = true → ∀ d', visV h d' v = []
  | 0, v, hv, _ => by simp [immB] at hv
  | d + 1, v, hv, d' => by
    cases d' with
    | zero => rfl
    | succ e =>
      have many : ∀ {cs : List AV}, cs.all (immB d) = true → cs.flatMap (visV h e) = [] := fun hc => List.flatMap_eq_nil_iff.2 fun x hx => imm_vis h d x (List.all_eq_true.1 hc x hx) e
      cases v <;> simp only [immB, Bool.false_eq_true] at hv <;> simp only [visV] <;> first | exact many hv | exact imm_vis h d _ hv e

theorem mapO_app {α β : Type} {f : α → Option β} : ∀ {a b : List α} {a' b' : List β}, mapO f a = some a' → mapO f b = some b' → mapO f (a ++ b) = some (a' ++ b')
  | [], b, a', b', h1, h2 => by
    simp only [mapO, Option.some.injEq] at h1
    subst h1
    exact h2
  | x :: r, b, a', b', h1, h2 => by
    rw [mapO_cons] at h1
    obtain ⟨y, hy, h1⟩ := Option.bind_eq_some_iff.1 h1
    obtain ⟨ys, hys, h1⟩ := Option.bind_eq_some_iff.1 h1
    simp only [Option.some.injEq] at h1
    subst h1
    rw [List.cons_append, mapO_cons, hy, Option.bind_some, mapO_app hys h2]
    rfl
theorem setCells_mid {α : Type} : ∀ (C' C A D : List α), C.length = C'.length → setCells (A ++ (C ++ D)) A.length C' = A ++ (C' ++ D)
  | [], C, A, D, hl => by
    have : C = [] := List.length_eq_zero_iff.1 hl
    subst this; rfl
  | v :: r, [], A, D, hl => by simp at hl
  | v :: r, c :: C, A, D, hl => by
    rw [setCells]
    have e1 : (A ++ (c :: C ++ D)).set A.length v = (A ++ [v]) ++ (C ++ D) := by simp
    rw [e1, show A.length + 1 = (A ++ [v]).length from by simp, setCells_mid r C (A ++ [v]) D (by simpa using hl)]
    simp
theorem flatC_cons (x : AV) (r : List AV) : flatC (x :: r) = x.cells ++ flatC r := by simp [flatC]
theorem flatC_at {xs : List AV} {k : Nat} {x : AV} (hk : xs[k]? = some x) : flatC xs = flatC (xs.take k) ++ (x.cells ++ flatC (xs.drop (k + 1))) := by
  have hlt := (List.getElem?_eq_some_iff.1 hk).1
  have hx : xs[k] = x := (List.getElem?_eq_some_iff.1 hk).2
  conv => lhs; rw [← List.take_append_drop k xs]
  rw [flatC_append, List.drop_eq_getElem_cons hlt, flatC_cons, hx]
theorem flatC_put {xs : List AV} {k : Nat} {x : AV} (hk : xs[k]? = some x) (y : AV) : flatC (xs.set k y) = flatC (xs.take k) ++ (y.cells ++ flatC (xs.drop (k + 1))) := by
  have hlt := (List.getElem?_eq_some_iff.1 hk).1
  have h1 : (xs.set k y)[k]? = some y := List.getElem?_set_self hlt
  rw [flatC_at h1, List.take_set_of_le (Nat.le_refl _), List.drop_set_of_lt (by omega)]
theorem flatC_take {xs : List AV} {k z : Nat} {x : AV} (hk : xs[k]? = some x) (H : ∀ x ∈ xs, x.cells.length = z) : (flatC (xs.take k)).length = k * z := by
  have hlt := (List.getElem?_eq_some_iff.1 hk).1
  rw [flatC_len (sz := z) (fun x hx => H x (List.mem_of_mem_take hx)), List.length_take, Nat.min_eq_left (by omega)]
/-- One cell of one element is set. -/
theorem flat_set {xs : List AV} {k z j : Nat} {cs : List AV} (hk : xs[k]? = some (.agg cs)) (H : ∀ x ∈ xs, x.cells.length = z) (hj : j < cs.length) (v : AV) : (flatC xs).set (k * z + j) v = flatC (xs.set k (.agg (cs.set j v))) := by
  rw [flatC_at hk, flatC_put hk, ← flatC_take hk H, List.set_append, if_neg (by omega), Nat.add_sub_cancel_left]
  congr 1
  show (cs ++ _).set j v = cs.set j v ++ _
  rw [List.set_append, if_pos hj]
/-- One element is set. -/
theorem flat_put {xs : List AV} {k z : Nat} {cs cs' : List AV} (hk : xs[k]? = some (.agg cs)) (H : ∀ x ∈ xs, x.cells.length = z) (hl : cs.length = cs'.length) : setCells (flatC xs) (k * z) cs' = flatC (xs.set k (.agg cs')) := by
  rw [flatC_at hk, flatC_put hk, ← flatC_take hk H]
  exact setCells_mid cs' cs _ _ hl
theorem flat_drop {xs : List AV} {k z j : Nat} {cs : List AV} (hk : xs[k]? = some (.agg cs)) (H : ∀ x ∈ xs, x.cells.length = z) (hj : j < cs.length) : ((flatC xs).drop (k * z + j)).head? = cs[j]? := by
  rw [flatC_at hk, ← flatC_take hk H, List.head?_drop, List.getElem?_append_right (by omega), Nat.add_sub_cancel_left]
  show (cs ++ _)[j]? = _
  rw [List.getElem?_append_left hj]
theorem flat_freeze {h : Heap} {n d : Nat} {xs : List AV} {k : Nat} {cs cs' : List AV} (hk : xs[k]? = some (.agg cs)) (H : ∀ x ∈ xs, x ≠ .agg cs → ∀ c ∈ x.cells, freezeV h n d c = some c)
    (ho : ∀ (i : Nat) x, xs[i]? = some x → i ≠ k → ∀ c ∈ x.cells, freezeV h n d c = some c) (hf : mapO (freezeV h n d) cs = some cs') : mapO (freezeV h n d) (flatC xs) = some (flatC (xs.set k (.agg cs'))) := by
  rw [flatC_at hk, flatC_put hk]
  have hlt := (List.getElem?_eq_some_iff.1 hk).1
  have part : ∀ {ys : List AV}, (∀ y ∈ ys, ∀ c ∈ y.cells, freezeV h n d c = some c) → mapO (freezeV h n d) (flatC ys) = some (flatC ys) := fun hy => mapO_id fun c hc => by
    simp only [flatC, List.mem_flatten, List.mem_map] at hc
    obtain ⟨l, ⟨y, hm, rfl⟩, hc⟩ := hc
    exact hy y hm c hc
  refine mapO_app (part fun y hy => ?_) (mapO_app hf (part fun y hy => ?_))
  · obtain ⟨i, hi⟩ := List.mem_iff_getElem?.1 hy
    rw [List.getElem?_take] at hi
    split at hi
    · exact ho i y hi (by omega)
    · cases hi
  · obtain ⟨i, hi⟩ := List.mem_iff_getElem?.1 hy
    rw [List.getElem?_drop] at hi
    exact ho _ y hi (by omega)
theorem flat_vis {h : Heap} {d : Nat} {xs : List AV} {k : Nat} {cs : List AV} (hk : xs[k]? = some (.agg cs)) (ho : ∀ (i : Nat) x, xs[i]? = some x → i ≠ k → ∀ c ∈ x.cells, visV h d c = []) : (flatC xs).flatMap (visV h d) = cs.flatMap (visV h d) := by
  have part : ∀ {ys : List AV}, (∀ y ∈ ys, ∀ c ∈ y.cells, visV h d c = []) → (flatC ys).flatMap (visV h d) = [] := fun hy => List.flatMap_eq_nil_iff.2 fun c hc => by
    simp only [flatC, List.mem_flatten, List.mem_map] at hc
    obtain ⟨l, ⟨y, hm, rfl⟩, hc⟩ := hc
    exact hy y hm c hc
  rw [flatC_at hk, List.flatMap_append, List.flatMap_append, part, part]
  · simp [AV.cells]
  · intro y hy
    obtain ⟨i, hi⟩ := List.mem_iff_getElem?.1 hy
    rw [List.getElem?_drop] at hi
    exact ho _ y hi (by omega)
  · intro y hy
    obtain ⟨i, hi⟩ := List.mem_iff_getElem?.1 hy
    rw [List.getElem?_take] at hi
    split at hi
    · exact ho i y hi (by omega)
    · cases hi
theorem group_flatC {z : Nat} (hz : z ≠ 1) : ∀ {xs : List AV}, (∀ x ∈ xs, ∃ cs, x = .agg cs ∧ cs.length = z) → group xs.length (flatC xs) z = xs
  | [], _ => rfl
  | x :: r, H => by
    obtain ⟨cs, rfl, hl⟩ := H x (List.mem_cons_self ..)
    have hz' : (z == 1) = false := by simp [hz]
    rw [List.length_cons, group, flatC_cons, hz']
    simp only [AV.cells, Bool.false_eq_true, if_false]
    rw [← hl, List.take_left, List.drop_left, hl, group_flatC hz fun y hy => H y (List.mem_cons_of_mem _ hy)]
/-- append to an empty slice without room. -/
theorem append_lst0 (h : Heap) {sz z : Nat} (hz : 0 < sz) {ys : List AV} (hn : ys ≠ []) (hy : ∀ y ∈ ys, y.cells.length = sz ∧ y.cells.all AV.leaf = true) (hlen : ys.length ≤ mostLen) :
    appendA h sz (.lst [] z (.exact 0)) ys = some (.msl h.length 0 ys.length sz 0 none, h ++ [.cells (flatC ys) 0]) := by
  have hfl := flatC_len (fun y hm => (hy y hm).1)
  have hall : (flatC ys).all AV.leaf = true := by
    rw [List.all_eq_true]
    intro c hc
    simp only [flatC, List.mem_flatten, List.mem_map] at hc
    obtain ⟨l, ⟨y, hm, rfl⟩, hc⟩ := hc
    exact List.all_eq_true.1 (hy y hm).2 c hc
  have h0 : (sz == 0) = false := by simp; omega
  have hfl' : ((flatC ys).length != ys.length * sz) = false := by simp [hfl]
  have hne : ys.isEmpty = false := by cases ys with | nil => exact absurd rfl hn | cons => rfl
  unfold appendA
  simp only
  rw [show (ys.map AV.cells).flatten = flatC ys from rfl, hfl', hall, h0, hne]
  simp [Room.full, hlen]
end
end Go.Rv

/-
  DERIVED: THE SHELF's CONTRACTS AT THIS DUMP, IN PLAIN WORDS (tools/lay-plain.mjs out of 'NamesPlain.lean', which tools/lay-shelf.mjs wrote): THE SAME DECLARATIONS UNDER THE SAME NAMES: 'import', 'namespace', 'open', 'def', 'theorem' AND NOTHING ELSE: no command of the shelf's: FOR A HAND-IN. Each laying: the table of numbers ('.._ren') and one theorem, a field a fact of the dump's own or the kernel's comparison; each contract: ONE APPLICATION.
-/
namespace Go.Proofs
open Go.Shelf
def Tryz.keysA_ren : Go.Shelf.Ren := ⟨fun | 7 => 52 | 10 => 73 | n => n, fun | 23 => 69 | 26 => 3 | 3 => 3 | 28 => 85 | 0 => 0 | 27 => 84 | 33 => 54 | 4 => 4 | n => n, fun | n => n⟩
theorem Tryz.keysA : Go.Proofs.SlLaysZI.n7 Tryz.prog Tryz.keysA_ren := {
  mixed := by kernel_rfl
  f7 := ⟨Tryz.f52.name, by decide, Tryz.func52.trans (congrArg some (by kernel_rfl))⟩
  f10 := ⟨Tryz.f73.name, by decide, Tryz.func73.trans (congrArg some (by kernel_rfl))⟩
  t0 := Tryz.underlying0
  a0 := Tryz.isAgg0
  z0 := Tryz.sizeOf0
  v0 := Tryz.zeroValue0
  t4 := Tryz.underlying4
  a4 := Tryz.isAgg4
  z4 := Tryz.sizeOf4
  v4 := Tryz.zeroValue4
  t23 := Tryz.underlying69
  a23 := Tryz.isAgg69
  z23 := Tryz.sizeOf69
  v23 := Tryz.zeroValue69
  t26 := Tryz.underlying3
  a26 := Tryz.isAgg3
  z26 := Tryz.sizeOf3
  v26 := Tryz.zeroValue3
  t27 := Tryz.underlying84
  a27 := Tryz.isAgg84
  z27 := Tryz.sizeOf84
  v27 := Tryz.zeroValue84
  t28 := Tryz.underlying85
  a28 := Tryz.isAgg85
  z28 := Tryz.sizeOf85
  v28 := Tryz.zeroValue85
  t33 := Tryz.underlying54
  a33 := Tryz.isAgg54
  z33 := Tryz.sizeOf54
  v33 := Tryz.zeroValue54 }
def Tryz.sortedA_ren : Go.Shelf.Ren := ⟨fun | 6 => 51 | 8 => 71 | 9 => 72 | 11 => 95 | 13 => 60 | 12 => 96 | 23 => 83 | 24 => 84 | 14 => 108 | 15 => 109 | 16 => 110 | 17 => 111 | 18 => 112 | 19 => 113 | 20 => 114 | 21 => 115 | 22 => 116 | 25 => 121 | 26 => 98 | 27 => 99 | 28 => 122 | 29 => 123 | 30 => 124 | 31 => 129 | n => n, fun | 26 => 3 | 28 => 85 | 24 => 29 | 0 => 0 | 3 => 3 | 37 => 40 | 48 => 117 | 50 => 119 | 4 => 4 | 40 => 110 | 39 => 109 | 45 => 90 | 5 => 5 | 9 => 9 | 51 => 132 | 55 => 136 | 57 => 148 | 58 => 149 | 33 => 54 | n => n, fun | n => n⟩
theorem Tryz.sortedA : Go.Proofs.SlLaysZI.n6 Tryz.prog Tryz.sortedA_ren := {
  mixed := by kernel_rfl
  f6 := ⟨Tryz.f51.name, by decide, Tryz.func51.trans (congrArg some (by kernel_rfl))⟩
  f8 := ⟨Tryz.f71.name, by decide, Tryz.func71.trans (congrArg some (by kernel_rfl))⟩
  f11 := ⟨Tryz.f95.name, by decide, Tryz.func95.trans (congrArg some (by kernel_rfl))⟩
  t0 := Tryz.underlying0
  a0 := Tryz.isAgg0
  z0 := Tryz.sizeOf0
  v0 := Tryz.zeroValue0
  t24 := Tryz.underlying29
  a24 := Tryz.isAgg29
  z24 := Tryz.sizeOf29
  v24 := Tryz.zeroValue29
  t26 := Tryz.underlying3
  a26 := Tryz.isAgg3
  z26 := Tryz.sizeOf3
  v26 := Tryz.zeroValue3
  t28 := Tryz.underlying85
  a28 := Tryz.isAgg85
  z28 := Tryz.sizeOf85
  v28 := Tryz.zeroValue85
  i26 := by kernel_rfl }
def Tryz.sortA_ren : Go.Shelf.Ren := ⟨fun | 5 => 72 | 8 => 60 | 7 => 96 | 19 => 83 | 20 => 84 | 10 => 108 | 11 => 109 | 12 => 110 | 13 => 111 | 14 => 112 | 15 => 113 | 16 => 114 | 17 => 115 | 18 => 116 | 30 => 121 | 31 => 98 | 32 => 99 | 33 => 122 | 34 => 123 | 35 => 124 | 40 => 129 | n => n, fun | 23 => 29 | 25 => 3 | 3 => 3 | 32 => 40 | 22 => 29 | 0 => 0 | 44 => 117 | 46 => 119 | 4 => 4 | 36 => 110 | 35 => 109 | 41 => 90 | 5 => 5 | 9 => 9 | 53 => 132 | 57 => 136 | 63 => 148 | 64 => 149 | n => n, fun | n => n⟩
theorem Tryz.sortA : Go.Proofs.SlLaysM.n5 Tryz.prog Tryz.sortA_ren := {
  mixed := by kernel_rfl
  f5 := ⟨Tryz.f72.name, by decide, Tryz.func72.trans (congrArg some (by kernel_rfl))⟩
  f7 := ⟨Tryz.f96.name, by decide, Tryz.func96.trans (congrArg some (by kernel_rfl))⟩
  f8 := Tryz.func60.trans (congrArg some (by kernel_rfl))
  f10 := ⟨Tryz.f108.name, by decide, Tryz.func108.trans (congrArg some (by kernel_rfl))⟩
  f11 := ⟨Tryz.f109.name, by decide, Tryz.func109.trans (congrArg some (by kernel_rfl))⟩
  f12 := ⟨Tryz.f110.name, by decide, Tryz.func110.trans (congrArg some (by kernel_rfl))⟩
  f13 := ⟨Tryz.f111.name, by decide, Tryz.func111.trans (congrArg some (by kernel_rfl))⟩
  f14 := ⟨Tryz.f112.name, by decide, Tryz.func112.trans (congrArg some (by kernel_rfl))⟩
  f15 := ⟨Tryz.f113.name, by decide, Tryz.func113.trans (congrArg some (by kernel_rfl))⟩
  f16 := ⟨Tryz.f114.name, by decide, Tryz.func114.trans (congrArg some (by kernel_rfl))⟩
  f17 := ⟨Tryz.f115.name, by decide, Tryz.func115.trans (congrArg some (by kernel_rfl))⟩
  f18 := ⟨Tryz.f116.name, by decide, Tryz.func116.trans (congrArg some (by kernel_rfl))⟩
  f19 := Tryz.func83.trans (congrArg some (by kernel_rfl))
  f20 := Tryz.func84.trans (congrArg some (by kernel_rfl))
  f30 := ⟨Tryz.f121.name, by decide, Tryz.func121.trans (congrArg some (by kernel_rfl))⟩
  f31 := Tryz.func98.trans (congrArg some (by kernel_rfl))
  f32 := Tryz.func99.trans (congrArg some (by kernel_rfl))
  f33 := ⟨Tryz.f122.name, by decide, Tryz.func122.trans (congrArg some (by kernel_rfl))⟩
  f34 := ⟨Tryz.f123.name, by decide, Tryz.func123.trans (congrArg some (by kernel_rfl))⟩
  f35 := ⟨Tryz.f124.name, by decide, Tryz.func124.trans (congrArg some (by kernel_rfl))⟩
  f40 := ⟨Tryz.f129.name, by decide, Tryz.func129.trans (congrArg some (by kernel_rfl))⟩
  t0 := Tryz.underlying0
  a0 := Tryz.isAgg0
  z0 := Tryz.sizeOf0
  v0 := Tryz.zeroValue0
  t3 := Tryz.underlying3
  a3 := Tryz.isAgg3
  z3 := Tryz.sizeOf3
  v3 := Tryz.zeroValue3
  t4 := Tryz.underlying4
  a4 := Tryz.isAgg4
  z4 := Tryz.sizeOf4
  v4 := Tryz.zeroValue4
  t5 := Tryz.underlying5
  a5 := Tryz.isAgg5
  z5 := Tryz.sizeOf5
  v5 := Tryz.zeroValue5
  t9 := Tryz.underlying9
  a9 := Tryz.isAgg9
  z9 := Tryz.sizeOf9
  v9 := Tryz.zeroValue9
  t22 := Tryz.underlying29
  a22 := Tryz.isAgg29
  z22 := Tryz.sizeOf29
  v22 := Tryz.zeroValue29
  t23 := Tryz.underlying29
  a23 := Tryz.isAgg29
  z23 := Tryz.sizeOf29
  v23 := Tryz.zeroValue29
  t25 := Tryz.underlying3
  a25 := Tryz.isAgg3
  z25 := Tryz.sizeOf3
  v25 := Tryz.zeroValue3
  t32 := Tryz.underlying40
  a32 := Tryz.isAgg40
  z32 := Tryz.sizeOf40
  v32 := Tryz.zeroValue40
  t35 := Tryz.underlying109
  a35 := Tryz.isAgg109
  z35 := Tryz.sizeOf109
  v35 := Tryz.zeroValue109
  t36 := Tryz.underlying110
  a36 := Tryz.isAgg110
  z36 := Tryz.sizeOf110
  v36 := Tryz.zeroValue110
  t41 := Tryz.underlying90
  a41 := Tryz.isAgg90
  z41 := Tryz.sizeOf90
  v41 := Tryz.zeroValue90
  t44 := Tryz.underlying117
  a44 := Tryz.isAgg117
  z44 := Tryz.sizeOf117
  v44 := Tryz.zeroValue117
  t46 := Tryz.underlying119
  a46 := Tryz.isAgg119
  z46 := Tryz.sizeOf119
  v46 := Tryz.zeroValue119
  t53 := Tryz.underlying132
  a53 := Tryz.isAgg132
  z53 := Tryz.sizeOf132
  v53 := Tryz.zeroValue132
  t57 := Tryz.underlying136
  a57 := Tryz.isAgg136
  z57 := Tryz.sizeOf136
  v57 := Tryz.zeroValue136
  t63 := Tryz.underlying148
  a63 := Tryz.isAgg148
  z63 := Tryz.sizeOf148
  v63 := Tryz.zeroValue148
  t64 := Tryz.underlying149
  a64 := Tryz.isAgg149
  z64 := Tryz.sizeOf149
  v64 := Tryz.zeroValue149 }
end Go.Proofs

/-
  DERIVED: THE SHELF's CONTRACTS AT THIS DUMP, IN PLAIN WORDS (tools/lay-plain.mjs out of 'SxShelf.lean', which tools/lay-shelf.mjs wrote): THE SAME DECLARATIONS UNDER THE SAME NAMES: 'import', 'namespace', 'open', 'def', 'theorem' AND NOTHING ELSE: no command of the shelf's: FOR A HAND-IN. Each laying: the table of numbers ('.._ren') and one theorem, a field a fact of the dump's own or the kernel's comparison; each contract: ONE APPLICATION.
-/
namespace Go.Proofs
open Go.Shelf
def Tryz.sortT_ren : Go.Shelf.Ren := ⟨fun | 6 => 40 | 8 => 60 | 9 => 59 | 19 => 83 | 20 => 84 | 21 => 74 | 22 => 75 | 23 => 76 | 24 => 77 | 25 => 78 | 26 => 79 | 27 => 80 | 28 => 81 | 29 => 82 | 36 => 97 | 31 => 98 | 32 => 99 | 37 => 100 | 38 => 101 | 39 => 102 | 41 => 117 | n => n, fun | 27 => 23 | 29 => 9 | 3 => 3 | 32 => 40 | 26 => 23 | 0 => 0 | 44 => 117 | 46 => 119 | 4 => 4 | 36 => 110 | 35 => 109 | 41 => 90 | 5 => 5 | 9 => 9 | 53 => 132 | 57 => 136 | 63 => 148 | 64 => 149 | n => n, fun | n => n⟩
theorem Tryz.sortT : Go.Proofs.SlLaysM.n6 Tryz.prog Tryz.sortT_ren := {
  mixed := by kernel_rfl
  f6 := ⟨Tryz.f40.name, by decide, Tryz.func40.trans (congrArg some (by kernel_rfl))⟩
  f8 := Tryz.func60.trans (congrArg some (by kernel_rfl))
  f9 := ⟨Tryz.f59.name, by decide, Tryz.func59.trans (congrArg some (by kernel_rfl))⟩
  f19 := Tryz.func83.trans (congrArg some (by kernel_rfl))
  f20 := Tryz.func84.trans (congrArg some (by kernel_rfl))
  f21 := ⟨Tryz.f74.name, by decide, Tryz.func74.trans (congrArg some (by kernel_rfl))⟩
  f22 := ⟨Tryz.f75.name, by decide, Tryz.func75.trans (congrArg some (by kernel_rfl))⟩
  f23 := ⟨Tryz.f76.name, by decide, Tryz.func76.trans (congrArg some (by kernel_rfl))⟩
  f24 := ⟨Tryz.f77.name, by decide, Tryz.func77.trans (congrArg some (by kernel_rfl))⟩
  f25 := ⟨Tryz.f78.name, by decide, Tryz.func78.trans (congrArg some (by kernel_rfl))⟩
  f26 := ⟨Tryz.f79.name, by decide, Tryz.func79.trans (congrArg some (by kernel_rfl))⟩
  f27 := ⟨Tryz.f80.name, by decide, Tryz.func80.trans (congrArg some (by kernel_rfl))⟩
  f28 := ⟨Tryz.f81.name, by decide, Tryz.func81.trans (congrArg some (by kernel_rfl))⟩
  f29 := ⟨Tryz.f82.name, by decide, Tryz.func82.trans (congrArg some (by kernel_rfl))⟩
  f31 := Tryz.func98.trans (congrArg some (by kernel_rfl))
  f32 := Tryz.func99.trans (congrArg some (by kernel_rfl))
  f36 := ⟨Tryz.f97.name, by decide, Tryz.func97.trans (congrArg some (by kernel_rfl))⟩
  f37 := ⟨Tryz.f100.name, by decide, Tryz.func100.trans (congrArg some (by kernel_rfl))⟩
  f38 := ⟨Tryz.f101.name, by decide, Tryz.func101.trans (congrArg some (by kernel_rfl))⟩
  f39 := ⟨Tryz.f102.name, by decide, Tryz.func102.trans (congrArg some (by kernel_rfl))⟩
  f41 := ⟨Tryz.f117.name, by decide, Tryz.func117.trans (congrArg some (by kernel_rfl))⟩
  t0 := Tryz.underlying0
  a0 := Tryz.isAgg0
  z0 := Tryz.sizeOf0
  v0 := Tryz.zeroValue0
  t3 := Tryz.underlying3
  a3 := Tryz.isAgg3
  z3 := Tryz.sizeOf3
  v3 := Tryz.zeroValue3
  t4 := Tryz.underlying4
  a4 := Tryz.isAgg4
  z4 := Tryz.sizeOf4
  v4 := Tryz.zeroValue4
  t5 := Tryz.underlying5
  a5 := Tryz.isAgg5
  z5 := Tryz.sizeOf5
  v5 := Tryz.zeroValue5
  t9 := Tryz.underlying9
  a9 := Tryz.isAgg9
  z9 := Tryz.sizeOf9
  v9 := Tryz.zeroValue9
  t26 := Tryz.underlying23
  a26 := Tryz.isAgg23
  z26 := Tryz.sizeOf23
  v26 := Tryz.zeroValue23
  t27 := Tryz.underlying23
  a27 := Tryz.isAgg23
  z27 := Tryz.sizeOf23
  v27 := Tryz.zeroValue23
  t29 := Tryz.underlying9
  a29 := Tryz.isAgg9
  z29 := Tryz.sizeOf9
  v29 := Tryz.zeroValue9
  t32 := Tryz.underlying40
  a32 := Tryz.isAgg40
  z32 := Tryz.sizeOf40
  v32 := Tryz.zeroValue40
  t35 := Tryz.underlying109
  a35 := Tryz.isAgg109
  z35 := Tryz.sizeOf109
  v35 := Tryz.zeroValue109
  t36 := Tryz.underlying110
  a36 := Tryz.isAgg110
  z36 := Tryz.sizeOf110
  v36 := Tryz.zeroValue110
  t41 := Tryz.underlying90
  a41 := Tryz.isAgg90
  z41 := Tryz.sizeOf90
  v41 := Tryz.zeroValue90
  t44 := Tryz.underlying117
  a44 := Tryz.isAgg117
  z44 := Tryz.sizeOf117
  v44 := Tryz.zeroValue117
  t46 := Tryz.underlying119
  a46 := Tryz.isAgg119
  z46 := Tryz.sizeOf119
  v46 := Tryz.zeroValue119
  t53 := Tryz.underlying132
  a53 := Tryz.isAgg132
  z53 := Tryz.sizeOf132
  v53 := Tryz.zeroValue132
  t57 := Tryz.underlying136
  a57 := Tryz.isAgg136
  z57 := Tryz.sizeOf136
  v57 := Tryz.zeroValue136
  t63 := Tryz.underlying148
  a63 := Tryz.isAgg148
  z63 := Tryz.sizeOf148
  v63 := Tryz.zeroValue148
  t64 := Tryz.underlying149
  a64 := Tryz.isAgg149
  z64 := Tryz.sizeOf149
  v64 := Tryz.zeroValue149 }
end Go.Proofs

/-
  slices.Sorted at what maps.Keys hands back, at this program: the kit's contracts laid.
-/
set_option linter.unusedSimpArgs false
set_option linter.unusedVariables false
namespace Go.Proofs
open Go.RowKit Go.Maps Go.Sort Go.Shelf


theorem Tryz.sortsA (m : Nat) : AnyZI.SortsIn Tryz.prog Tryz.sortedA_ren Fence.wide m :=
  ⟨fun blk off cap ss W hH hblk hsz => callsIn_wide.2 (AnyM.slices_Sort_int Tryz.sortA blk off cap ss W hH hblk hsz),
   fun p cap W => callsIn_wide.2 (AnyM.slices_Sort_int_none Tryz.sortA p cap W)⟩

theorem Tryz.sortedSays : Go.Rv.SortedSays Tryz.prog 51 73 3 := fun w Bm b nn D0 hBm hm hown hmax hbytes => by
  have hseq : SeqGives Fence.wide 2 Tryz.prog 73 #[.pointer (some ⟨Bm, 0, none⟩)] encZ (fun ss => ss.Perm (intKeys D0)) (Maps.size D0) w :=
    AnyZI.keys_gives (ρ := Tryz.keysA_ren) { Tryz.keysA with } Fence.wide _ trivial rfl (by omega) Bm b nn D0 w hBm hm hown
  have cS := AnyZI.sorted_in Tryz.sortedA Fence.wide 5 trivial trivial trivial trivial rfl (by omega) (Tryz.sortsA _) (enters_of Tryz.func72 (by kernel_rfl) rfl) 73 #[.pointer (some ⟨Bm, 0, none⟩)] trivial (enters_of Tryz.func73 (by kernel_rfl) rfl) _ _ hmax hbytes _ hseq
  exact (callsIn_wide (n := 5)).1 cS
end Go.Proofs

/-
  What the interpreter is told at this program, for going through its code with open values: types, functions.
-/
set_option linter.unusedSimpArgs false
set_option linter.unusedVariables false
set_option maxRecDepth 100000
namespace Go.Proofs.Sx
open Go.Rv Go.Proofs
noncomputable section
def im (f t : Nat) : Bool := match f with
  | 3 => match t with | 1 => true | _ => false
  | 4 => match t with | 3 => true | _ => false
  | 5 => match t with | 1 => true | _ => false
  | 6 => match t with | 6 => true | 7 => true | 8 => true | 14 => true | 15 => true | 25 => true | 26 => true | 27 => true | 33 => true | 34 => true | 35 => true | 41 => true | 42 => true | 43 => true | 49 => true | 50 => true | 51 => true | 52 => true | 58 => true | _ => false
  | 7 => match t with | 1 => true | 24 => true | 43 => true | _ => false
  | 9 => match t with | 1 => true | _ => false
  | 10 => match t with | 1 => true | 153 => true | 164 => true | 175 => true | 199 => true | 204 => true | 210 => true | 216 => true | 222 => true | 271 => true | _ => false
  | 13 => match t with | 43 => true | 49 => true | 55 => true | _ => false
  | 14 => match t with | 1 => true | _ => false
  | 15 => match t with | 1 => true | _ => false
  | 16 => match t with | 31 => true | _ => false
  | 17 => match t with | 2 => true | _ => false
  | 21 => match t with | 1 => true | 32 => true | _ => false
  | 22 => match t with | 1 => true | 41 => true | 62 => true | _ => false
  | 23 => match t with | 2 => true | _ => false
  | 24 => match t with | 1 => true | 18 => true | 35 => true | _ => false
  | 25 => match t with | 1 => true | 18 => true | _ => false
  | 27 => match t with | 1 => true | _ => false
  | 29 => match t with | 2 => true | _ => false
  | 30 => match t with | 2 => true | 3 => true | _ => false
  | 37 => match t with | 3 => true | 4 => true | 5 => true | 38 => true | _ => false
  | 38 => match t with | 1 => true | 20 => true | _ => false
  | 49 => match t with | 3 => true | _ => false
  | 50 => match t with | 3 => true | 4 => true | 5 => true | _ => false
  | 53 => match t with | 2 => true | 3 => true | _ => false
  | 54 => match t with | 1 => true | _ => false
  | 55 => match t with | 1 => true | 15 => true | 24 => true | 34 => true | 44 => true | 49 => true | _ => false
  | 56 => match t with | 1 => true | _ => false
  | 65 => match t with | 1 => true | _ => false
  | 66 => match t with | 2 => true | 3 => true | _ => false
  | 67 => match t with | 2 => true | _ => false
  | 68 => match t with | 4 => true | 5 => true | 6 => true | 7 => true | _ => false
  | 69 => match t with | 1 => true | 27 => true | 34 => true | _ => false
  | 70 => match t with | 1 => true | _ => false
  | 94 => match t with | 1 => true | _ => false
  | 95 => match t with | 10 => true | _ => false
  | _ => false
def pu (f : Nat) : Bool := match f with
  | 16 => false
  | 19 => false
  | 32 => false
  | 40 => false
  | 41 => false
  | 42 => false
  | 52 => false
  | 72 => false
  | 73 => false
  | 88 => false
  | 95 => false
  | 107 => false
  | _ => true
def lv (f r : Nat) : Option (List Nat) := match f with
  | 2 => some []
  | 3 => some [0, 1, 2, 3, 4, 5, 6, 7, 15, 23, 63, 66, 84, 87, 153]
  | 4 => some [0, 1, 2, 3, 6, 7, 8, 9, 10, 11, 12, 13, 14, 15, 16, 17, 18, 32, 64, 91, 112, 117, 127, 144, 152, 169, 177, 194]
  | 5 => some [0, 1, 2, 3, 4, 5, 6, 7, 8, 9, 11, 18, 68, 73, 83]
  | 6 => some [0, 1, 2, 4]
  | 7 => some [0, 1, 2, 3, 4, 6, 7, 8, 11, 14, 15, 16, 17, 34, 35, 36, 52, 61, 62, 63, 81]
  | 8 => some [0, 1, 4, 5, 9, 17]
  | 9 => some [0, 1, 2, 3, 4, 5, 21, 46]
  | 10 => some [0, 1, 2, 3, 4, 5, 6, 7, 8, 9, 10, 11, 12, 13, 14, 15, 16, 17, 18, 19, 20, 21, 22, 25, 36, 51, 82, 87, 92, 128, 137, 141, 150, 161, 172, 196, 231, 234, 244, 264]
  | 11 => some [0, 1, 4, 5, 10, 14, 26]
  | 12 => some [0, 1, 4, 5, 10, 14, 25]
  | 13 => some [0, 2, 3, 4, 5, 6, 10, 30]
  | 14 => some [0, 1, 2, 16]
  | 15 => some [0, 1, 2, 3, 5, 8, 9, 10, 11, 16]
  | 16 => some [0, 2, 3, 4, 5, 7, 11, 12, 13, 14, 18, 19, 20, 21]
  | 17 => some [0, 1, 2, 4, 5, 6]
  | 18 => some [0, 1, 4]
  | 19 => some [0, 1, 4, 5, 6, 7, 12, 19, 29]
  | 20 => some [0, 1, 3]
  | 21 => some [0, 1, 2, 3, 4, 5, 11, 13, 14, 15, 16, 29]
  | 22 => some [0, 1, 2, 3, 4, 5, 6, 7, 8, 9, 10, 15, 33, 51, 104, 119, 124, 135, 144, 148, 156, 159, 170]
  | 23 => some [0, 1, 2, 4, 5, 10, 29]
  | 24 => some [0, 1, 2, 3, 5, 7, 9, 10, 11, 12, 26, 27, 28, 29]
  | 25 => some [0, 1, 2, 3, 4, 5, 7, 8, 9, 10, 15]
  | 26 => some [0, 1, 4]
  | 27 => some [0, 1, 2]
  | 28 => some [0, 1, 4]
  | 29 => some [0, 1, 2, 3]
  | 30 => some [0, 1, 2, 3, 4, 5, 6, 46, 59]
  | 31 => some [0, 2]
  | 32 => some [0, 1, 2, 3, 6, 11, 12, 13, 14, 24]
  | 33 => some [0, 1, 4, 5, 7, 8, 9, 16]
  | 34 => some [0, 1, 4, 5, 7, 8, 9, 16]
  | 35 => some [0, 1, 4]
  | 36 => some [0, 1, 3]
  | 37 => some [0, 1, 2, 3, 4, 5, 6, 7, 8, 9, 10, 25, 33, 43, 53, 55, 56, 66, 76, 85, 94, 103]
  | 38 => some [0, 1, 2, 3, 4, 9, 17]
  | 39 => some [0, 2, 3, 4, 5, 16, 20, 57]
  | 40 => some [0, 2]
  | 41 => some [0, 2, 3, 4, 5, 8, 13, 25, 32, 44]
  | 42 => some [0, 2, 4]
  | 43 => some [0, 1, 4]
  | 44 => some [0, 2]
  | 45 => some [0, 2, 24]
  | 46 => some [0, 1, 4, 5, 7, 8, 9, 16]
  | 47 => some [0, 1, 4, 5, 7, 8, 9, 16]
  | 48 => some [0, 1, 4]
  | 49 => some [0, 1, 2, 3, 4]
  | 50 => some [0, 1, 2, 3, 4, 5, 6, 7, 8, 9, 10, 11, 34, 36, 37, 45]
  | 51 => some [0, 2, 3]
  | 52 => some [0, 1, 2]
  | 53 => some [0, 1, 2, 3, 4, 5, 47, 52, 65]
  | 54 => some [0, 1, 2, 3, 5, 14, 19, 20, 39, 55, 61]
  | 55 => some [0, 1, 2, 3, 5, 6, 17, 26, 30, 36, 40, 51]
  | 56 => some [0, 1, 2, 3, 5, 6]
  | 57 => some [0, 1, 4]
  | 58 => some [0, 2, 4, 5, 6, 7, 8, 13]
  | 59 => some [0, 1, 2, 3, 8, 9, 10, 11, 12, 13, 14, 15, 16, 17, 18, 23, 29, 35, 50, 68, 72, 87, 113]
  | 60 => some [0, 2]
  | 61 => some [0, 1, 4, 5, 7, 8, 9, 16]
  | 62 => some [0, 1, 4]
  | 63 => some [0, 1, 4, 5, 6, 12, 21, 34]
  | 64 => some [0, 1, 4, 5, 7, 8, 9, 16]
  | 65 => some [0, 1, 2, 3, 12]
  | 66 => some [0, 1, 2, 3, 4]
  | 67 => some [0, 1, 2, 3, 4, 7, 10, 13, 17, 21]
  | 68 => some [0, 1, 2, 3, 4, 5, 6, 7, 8, 9, 13, 14, 22, 30, 41, 52, 63]
  | 69 => some [0, 1, 2, 3, 5, 23, 30, 38]
  | 70 => some [0, 1, 2, 3, 4, 5, 15]
  | 71 => some [0, 2]
  | 72 => some [0, 2]
  | 73 => some [0, 1, 3, 5, 7, 13]
  | 74 => some [0, 1, 2, 6, 7, 12, 30]
  | 75 => some [0, 1, 2, 6, 7, 8, 9, 10, 19, 30]
  | 76 => some [0, 1, 2, 6, 7, 8, 9, 10, 15, 33, 43]
  | 77 => some [0, 1, 2, 6, 7, 8, 9, 10, 11, 12, 32, 34, 49, 51, 54]
  | 78 => some [0, 1, 2, 6, 7, 13]
  | 79 => some [0, 1, 2, 6, 7, 8, 9, 10, 14, 32, 37, 41, 61, 65, 78, 98, 103, 116]
  | 80 => some [0, 1, 4]
  | 81 => some [0, 1, 2, 3, 8, 9, 10, 43, 59, 64]
  | 82 => some [0, 1, 2, 3, 8, 9, 10, 11, 43, 60, 65, 112, 129, 134]
  | 83 => some [0, 2, 4, 8]
  | 84 => some [0, 2, 4, 8, 14]
  | 85 => some [0, 1, 4, 5, 7, 8, 9, 16]
  | 86 => some [0, 1, 4, 13]
  | 87 => some [0, 1, 4, 16]
  | 88 => some [0, 2, 3, 4, 5, 9, 16]
  | 89 => some [0, 1, 4, 7, 12]
  | 90 => some [0, 1, 4, 7, 15]
  | 91 => some [0, 1, 4, 5, 6, 9, 18]
  | 92 => some [0, 1, 4, 5, 6, 9, 17, 26]
  | 93 => some [0, 1, 4, 5, 10, 12, 13, 14, 24]
  | 94 => some [0, 1, 2]
  | 95 => some [0, 1, 2, 4, 5, 6, 7]
  | 96 => some [0, 1, 2, 3, 8, 9, 10, 11, 12, 13, 14, 15, 16, 17, 18, 23, 29, 35, 50, 68, 72, 87, 113]
  | 97 => some [0, 1, 2, 3, 8, 9, 16, 36, 52]
  | 98 => some [0, 2]
  | 99 => some [0, 2]
  | 100 => some [0, 1, 2, 6]
  | 101 => some [0, 1, 2, 3, 4, 10]
  | 102 => some [0, 2]
  | 103 => some [0, 1, 4]
  | 104 => some [0, 2, 3, 10]
  | 105 => some [0, 1, 4]
  | 106 => some [0, 2, 3, 4, 5, 6, 10, 18, 27, 33, 35, 48]
  | 107 => some [0, 1, 4, 5, 6, 7, 8, 14]
  | 108 => some [0, 1, 2, 6, 7, 12, 30]
  | 109 => some [0, 1, 2, 6, 7, 8, 9, 10, 19, 30]
  | 110 => some [0, 1, 2, 6, 7, 8, 9, 10, 15, 33, 43]
  | 111 => some [0, 1, 2, 6, 7, 8, 9, 10, 11, 12, 32, 34, 49, 51, 54]
  | 112 => some [0, 1, 2, 6, 7, 13]
  | 113 => some [0, 1, 2, 6, 7, 8, 9, 10, 14, 32, 37, 41, 61, 65, 78, 98, 103, 116]
  | 114 => some [0, 1, 4]
  | 115 => some [0, 1, 2, 3, 8, 9, 10, 43, 59, 64]
  | 116 => some [0, 1, 2, 3, 8, 9, 10, 11, 43, 60, 65, 112, 129, 134]
  | 117 => some [0, 1, 2, 3, 8, 9, 18]
  | 118 => some [0, 2, 3, 4, 5, 6, 7, 8, 9, 10, 11, 12, 16, 23, 45, 57, 59, 75, 77, 98]
  | 119 => some [0, 1, 4, 5, 6, 7, 8, 9, 10, 11, 12, 13, 14, 15, 16, 26, 33, 43, 51, 64, 98, 108, 124, 139, 143, 156, 160, 171, 175, 176, 177, 181, 183]
  | 120 => some [0, 2]
  | 121 => some [0, 1, 2, 3, 8, 9, 16, 36, 52]
  | 122 => some [0, 1, 2, 6]
  | 123 => some [0, 1, 2, 3, 4, 10]
  | 124 => some [0, 2]
  | 125 => some [0, 1, 4]
  | 126 => some [0, 2, 3, 10]
  | 127 => some [0, 2]
  | 129 => some [0, 1, 2, 3, 8, 9, 18]
  | 130 => some [0, 1, 4]
  | 156 => some []
  | _ => none
def lo (f t : Nat) : List Nat := match f with
  | 7 => match t with | 74 => [0, 1] | _ => []
  | _ => []

/-- What operations name. -/
def opRows : List (Bool × Bool × Bool × Bool × Int) := [(false, false, false, false, 0), (true, false, false, false, 1), (true, true, false, false, 0), (true, true, false, false, 2), (true, true, true, false, 3), (true, true, false, true, 4), (false, true, true, true, 4),
  (false, false, false, false, 5), (false, false, false, false, 5), (false, true, false, false, 0), (true, false, false, false, 6), (false, false, false, false, 7), (false, true, false, false, 7), (false, true, false, false, 0)]
def opCells : List AV := (opRows.map fun q => [AV.bool q.1, .bool q.2.1, .bool q.2.2.1, .bool q.2.2.2.1, .int .i64 q.2.2.2.2]).flatten
def wordsOf : List String := ["global", "array", "lock", "func", "thread", "var", "if", "else", "while", "with", "print", "call", "return", "true", "false"]
def wordCells : List AV := wordsOf.map fun s => .str s.toUTF8.data.toList
def glb (g : Nat) : Option AV := match g with
  | 0 => some (.ref wordCells)
  | 1 => some (.ref opCells)
  | _ => none
def prm (f : Nat) : Option (List AV → Heap → Option (CRes × Heap)) := match f with
  | 51 => some (sortedKeys 73)
  | 40 => some sortStr
  | _ => none

def told : RvTold := { pure := pu, imm := im, live := lv, glob := glb, prim := prm, loose := lo }
def cfg : Cfg := told.cfg Tryz.prog
def cfg0 : Cfg := told.bare Tryz.prog
instance : NoAlone cfg := ⟨fun _ => rfl⟩
theorem qt_eq (f t : Nat) : cfg.quiet f t = false := rfl
theorem fnat {f : Nat} {fn : Func} {b : Code} (h1 : Tryz.prog.funcs[f]? = some fn) (h2 : fn.body = some b) (h3 : okB cfg0 f fn b = true) : cfg.fn f = some ⟨fn.params.size + fn.nfree, fn.results.toList, b⟩ := fn_of (T := told) h1 h2 h3
theorem ty1 : cfg.ty 1 = some ⟨.func, 1, 8, [.nilFunc]⟩ := by kernel_rfl
theorem ty2 : cfg.ty 2 = some ⟨.int .i64, 1, 8, [.int .i64 0]⟩ := by kernel_rfl
theorem ty3 : cfg.ty 3 = some ⟨.int .i64, 1, 8, [.int .i64 0]⟩ := by kernel_rfl
theorem ty4 : cfg.ty 4 = some ⟨.bool, 1, 1, [.bool false]⟩ := by kernel_rfl
theorem ty5 : cfg.ty 5 = some ⟨.int .u8, 1, 1, [.int .u8 0]⟩ := by kernel_rfl
theorem ty6 : cfg.ty 6 = some ⟨.int .u8, 1, 1, [.int .u8 0]⟩ := by kernel_rfl
theorem ty7 : cfg.ty 7 = some ⟨.struct [(2, 0), (3, 1), (4, 2), (6, 3)], 4, 24, [.int .i64 0, .int .i64 0, .bool false, .int .u8 0]⟩ := by kernel_rfl
theorem ty8 : cfg.ty 8 = some ⟨.struct [(2, 0), (3, 1), (4, 2), (6, 3)], 4, 24, [.int .i64 0, .int .i64 0, .bool false, .int .u8 0]⟩ := by kernel_rfl
theorem ty9 : cfg.ty 9 = some ⟨.str, 1, 16, [.str []]⟩ := by kernel_rfl
theorem ty10 : cfg.ty 10 = some ⟨.str, 1, 16, [.str []]⟩ := by kernel_rfl
theorem ty11 : cfg.ty 11 = some ⟨.str, 1, 16, [.str []]⟩ := by kernel_rfl
theorem ty12 : cfg.ty 12 = some ⟨.int .u64, 1, 8, [.int .u64 0]⟩ := by kernel_rfl
theorem ty13 : cfg.ty 13 = some ⟨.struct [(9, 0), (12, 1)], 2, 24, [.str [], .int .u64 0]⟩ := by kernel_rfl
theorem ty14 : cfg.ty 14 = some ⟨.struct [(9, 0), (12, 1)], 2, 24, [.str [], .int .u64 0]⟩ := by kernel_rfl
theorem ty15 : cfg.ty 15 = some ⟨.ptr, 1, 8, [.nilPtr]⟩ := by kernel_rfl
theorem ty16 : cfg.ty 16 = some ⟨.ptr, 1, 8, [.nilPtr]⟩ := by kernel_rfl
theorem ty17 : cfg.ty 17 = some ⟨.ptr, 1, 8, [.nilPtr]⟩ := by kernel_rfl
theorem ty18 : cfg.ty 18 = some ⟨.struct [(17, 0)], 1, 8, [.nilPtr]⟩ := by kernel_rfl
theorem ty19 : cfg.ty 19 = some ⟨.struct [(17, 0)], 1, 8, [.nilPtr]⟩ := by kernel_rfl
theorem ty20 : cfg.ty 20 = some ⟨.iface, 1, 16, [.nilIface]⟩ := by kernel_rfl
theorem ty21 : cfg.ty 21 = some ⟨.int .i32, 1, 4, [.int .i32 0]⟩ := by kernel_rfl
theorem ty22 : cfg.ty 22 = some ⟨.slice 63, 1, 24, [.lst [] 0 .nil]⟩ := by kernel_rfl
theorem ty23 : cfg.ty 23 = some ⟨.slice 9, 1, 24, [.lst [] 0 .nil]⟩ := by kernel_rfl
theorem ty24 : cfg.ty 24 = some ⟨.slice 38, 1, 24, [.lst [] 0 .nil]⟩ := by kernel_rfl
theorem ty25 : cfg.ty 25 = some ⟨.struct [(22, 0), (23, 1), (24, 2)], 3, 72, [.lst [] 0 .nil, .lst [] 0 .nil, .lst [] 0 .nil]⟩ := by kernel_rfl
theorem ty26 : cfg.ty 26 = some ⟨.struct [(22, 0), (23, 1), (24, 2)], 3, 72, [.lst [] 0 .nil, .lst [] 0 .nil, .lst [] 0 .nil]⟩ := by kernel_rfl
theorem ty27 : cfg.ty 27 = some ⟨.func, 1, 8, [.nilFunc]⟩ := by kernel_rfl
theorem ty28 : cfg.ty 28 = some ⟨.slice 29, 1, 24, [.lst [] 0 .nil]⟩ := by kernel_rfl
theorem ty29 : cfg.ty 29 = some ⟨.slice 3, 1, 24, [.lst [] 0 .nil]⟩ := by kernel_rfl
theorem ty30 : cfg.ty 30 = some ⟨.struct [(28, 0), (28, 1), (28, 2), (28, 3), (29, 4)], 5, 120, [.lst [] 0 .nil, .lst [] 0 .nil, .lst [] 0 .nil, .lst [] 0 .nil, .lst [] 0 .nil]⟩ := by kernel_rfl
theorem ty31 : cfg.ty 31 = some ⟨.struct [(28, 0), (28, 1), (28, 2), (28, 3), (29, 4)], 5, 120, [.lst [] 0 .nil, .lst [] 0 .nil, .lst [] 0 .nil, .lst [] 0 .nil, .lst [] 0 .nil]⟩ := by kernel_rfl
theorem ty32 : cfg.ty 32 = some ⟨.int .i64, 1, 8, [.int .i64 0]⟩ := by kernel_rfl
theorem ty34 : cfg.ty 34 = some ⟨.func, 1, 8, [.nilFunc]⟩ := by kernel_rfl
theorem ty35 : cfg.ty 35 = some ⟨.func, 1, 8, [.nilFunc]⟩ := by kernel_rfl
theorem ty36 : cfg.ty 36 = some ⟨.slice 42, 1, 24, [.lst [] 0 .nil]⟩ := by kernel_rfl
theorem ty37 : cfg.ty 37 = some ⟨.struct [(9, 0), (4, 1), (3, 2), (3, 3), (36, 4)], 5, 64, [.str [], .bool false, .int .i64 0, .int .i64 0, .lst [] 0 .nil]⟩ := by kernel_rfl
theorem ty38 : cfg.ty 38 = some ⟨.struct [(9, 0), (4, 1), (3, 2), (3, 3), (36, 4)], 5, 64, [.str [], .bool false, .int .i64 0, .int .i64 0, .lst [] 0 .nil]⟩ := by kernel_rfl
theorem ty39 : cfg.ty 39 = some ⟨.func, 1, 8, [.nilFunc]⟩ := by kernel_rfl
theorem ty40 : cfg.ty 40 = some ⟨.int .u64, 1, 8, [.int .u64 0]⟩ := by kernel_rfl
theorem ty41 : cfg.ty 41 = some ⟨.struct [(5, 0), (3, 1), (3, 2), (3, 3), (2, 4), (29, 5)], 6, 64, [.int .u8 0, .int .i64 0, .int .i64 0, .int .i64 0, .int .i64 0, .lst [] 0 .nil]⟩ := by kernel_rfl
theorem ty42 : cfg.ty 42 = some ⟨.struct [(5, 0), (3, 1), (3, 2), (3, 3), (2, 4), (29, 5)], 6, 64, [.int .u8 0, .int .i64 0, .int .i64 0, .int .i64 0, .int .i64 0, .lst [] 0 .nil]⟩ := by kernel_rfl
theorem ty43 : cfg.ty 43 = some ⟨.func, 1, 8, [.nilFunc]⟩ := by kernel_rfl
theorem ty44 : cfg.ty 44 = some ⟨.struct [(28, 0), (28, 1), (28, 2), (28, 3), (29, 4)], 5, 120, [.lst [] 0 .nil, .lst [] 0 .nil, .lst [] 0 .nil, .lst [] 0 .nil, .lst [] 0 .nil]⟩ := by kernel_rfl
theorem ty46 : cfg.ty 46 = some ⟨.func, 1, 8, [.nilFunc]⟩ := by kernel_rfl
theorem ty47 : cfg.ty 47 = some ⟨.func, 1, 8, [.nilFunc]⟩ := by kernel_rfl
theorem ty48 : cfg.ty 48 = some ⟨.func, 1, 8, [.nilFunc]⟩ := by kernel_rfl
theorem ty49 : cfg.ty 49 = some ⟨.func, 1, 8, [.nilFunc]⟩ := by kernel_rfl
theorem ty50 : cfg.ty 50 = some ⟨.func, 1, 8, [.nilFunc]⟩ := by kernel_rfl
theorem ty51 : cfg.ty 51 = some ⟨.func, 1, 8, [.nilFunc]⟩ := by kernel_rfl
theorem ty52 : cfg.ty 52 = some ⟨.func, 1, 8, [.nilFunc]⟩ := by kernel_rfl
theorem ty53 : cfg.ty 53 = some ⟨.func, 1, 8, [.nilFunc]⟩ := by kernel_rfl
theorem ty54 : cfg.ty 54 = some ⟨.func, 1, 8, [.nilFunc]⟩ := by kernel_rfl
theorem ty55 : cfg.ty 55 = some ⟨.func, 1, 8, [.nilFunc]⟩ := by kernel_rfl
theorem ty56 : cfg.ty 56 = some ⟨.slice 57, 1, 24, [.lst [] 0 .nil]⟩ := by kernel_rfl
theorem ty57 : cfg.ty 57 = some ⟨.slice 4, 1, 24, [.lst [] 0 .nil]⟩ := by kernel_rfl
theorem ty58 : cfg.ty 58 = some ⟨.func, 1, 8, [.nilFunc]⟩ := by kernel_rfl
theorem ty59 : cfg.ty 59 = some ⟨.slice 5, 1, 24, [.lst [] 0 .nil]⟩ := by kernel_rfl
theorem ty60 : cfg.ty 60 = some ⟨.func, 1, 8, [.nilFunc]⟩ := by kernel_rfl
theorem ty61 : cfg.ty 61 = some ⟨.func, 1, 8, [.nilFunc]⟩ := by kernel_rfl
theorem ty62 : cfg.ty 62 = some ⟨.struct [(9, 0), (3, 1), (2, 2)], 3, 32, [.str [], .int .i64 0, .int .i64 0]⟩ := by kernel_rfl
theorem ty63 : cfg.ty 63 = some ⟨.struct [(9, 0), (3, 1), (2, 2)], 3, 32, [.str [], .int .i64 0, .int .i64 0]⟩ := by kernel_rfl
theorem ty64 : cfg.ty 64 = some ⟨.func, 1, 8, [.nilFunc]⟩ := by kernel_rfl
theorem ty65 : cfg.ty 65 = some ⟨.func, 1, 8, [.nilFunc]⟩ := by kernel_rfl
theorem ty66 : cfg.ty 66 = some ⟨.func, 1, 8, [.nilFunc]⟩ := by kernel_rfl
theorem ty67 : cfg.ty 67 = some ⟨.func, 1, 8, [.nilFunc]⟩ := by kernel_rfl
theorem ty68 : cfg.ty 68 = some ⟨.map 3 3, 1, 8, [.nilMap]⟩ := by kernel_rfl
theorem ty69 : cfg.ty 69 = some ⟨.map 3 3, 1, 8, [.nilMap]⟩ := by kernel_rfl
theorem ty70 : cfg.ty 70 = some ⟨.func, 1, 8, [.nilFunc]⟩ := by kernel_rfl
theorem ty71 : cfg.ty 71 = some ⟨.func, 1, 8, [.nilFunc]⟩ := by kernel_rfl
theorem ty72 : cfg.ty 72 = some ⟨.func, 1, 8, [.nilFunc]⟩ := by kernel_rfl
theorem ty73 : cfg.ty 73 = some ⟨.func, 1, 8, [.nilFunc]⟩ := by kernel_rfl
theorem ty74 : cfg.ty 74 = some ⟨.func, 1, 8, [.nilFunc]⟩ := by kernel_rfl
theorem ty75 : cfg.ty 75 = some ⟨.func, 1, 8, [.nilFunc]⟩ := by kernel_rfl
theorem ty76 : cfg.ty 76 = some ⟨.func, 1, 8, [.nilFunc]⟩ := by kernel_rfl
theorem ty77 : cfg.ty 77 = some ⟨.func, 1, 8, [.nilFunc]⟩ := by kernel_rfl
theorem ty78 : cfg.ty 78 = some ⟨.func, 1, 8, [.nilFunc]⟩ := by kernel_rfl
theorem ty79 : cfg.ty 79 = some ⟨.func, 1, 8, [.nilFunc]⟩ := by kernel_rfl
theorem ty80 : cfg.ty 80 = some ⟨.func, 1, 8, [.nilFunc]⟩ := by kernel_rfl
theorem ty81 : cfg.ty 81 = some ⟨.func, 1, 8, [.nilFunc]⟩ := by kernel_rfl
theorem ty82 : cfg.ty 82 = some ⟨.func, 1, 8, [.nilFunc]⟩ := by kernel_rfl
theorem ty83 : cfg.ty 83 = some ⟨.func, 1, 8, [.nilFunc]⟩ := by kernel_rfl
theorem ty84 : cfg.ty 84 = some ⟨.func, 1, 8, [.nilFunc]⟩ := by kernel_rfl
theorem ty85 : cfg.ty 85 = some ⟨.func, 1, 8, [.nilFunc]⟩ := by kernel_rfl
theorem ty86 : cfg.ty 86 = some ⟨.func, 1, 8, [.nilFunc]⟩ := by kernel_rfl
theorem ty87 : cfg.ty 87 = some ⟨.func, 1, 8, [.nilFunc]⟩ := by kernel_rfl
theorem ty88 : cfg.ty 88 = some ⟨.func, 1, 8, [.nilFunc]⟩ := by kernel_rfl
theorem ty89 : cfg.ty 89 = some ⟨.func, 1, 8, [.nilFunc]⟩ := by kernel_rfl
theorem ty91 : cfg.ty 91 = some ⟨.func, 1, 8, [.nilFunc]⟩ := by kernel_rfl
theorem ty92 : cfg.ty 92 = some ⟨.func, 1, 8, [.nilFunc]⟩ := by kernel_rfl
theorem ty93 : cfg.ty 93 = some ⟨.func, 1, 8, [.nilFunc]⟩ := by kernel_rfl
theorem ty94 : cfg.ty 94 = some ⟨.func, 1, 8, [.nilFunc]⟩ := by kernel_rfl
theorem ty95 : cfg.ty 95 = some ⟨.func, 1, 8, [.nilFunc]⟩ := by kernel_rfl
theorem ty96 : cfg.ty 96 = some ⟨.func, 1, 8, [.nilFunc]⟩ := by kernel_rfl
theorem ty97 : cfg.ty 97 = some ⟨.array 15 9, 15, 240, [.str [], .str [], .str [], .str [], .str [], .str [], .str [], .str [], .str [], .str [], .str [], .str [], .str [], .str [], .str []]⟩ := by kernel_rfl
theorem ty98 : cfg.ty 98 = some ⟨.func, 1, 8, [.nilFunc]⟩ := by kernel_rfl
theorem ty99 : cfg.ty 99 = some ⟨.func, 1, 8, [.nilFunc]⟩ := by kernel_rfl
theorem ty100 : cfg.ty 100 = some ⟨.struct [(4, 0), (4, 1), (4, 2), (4, 3), (3, 4)], 5, 16, [.bool false, .bool false, .bool false, .bool false, .int .i64 0]⟩ := by kernel_rfl
theorem ty101 : cfg.ty 101 = some ⟨.struct [(4, 0), (4, 1), (4, 2), (4, 3), (3, 4)], 5, 16, [.bool false, .bool false, .bool false, .bool false, .int .i64 0]⟩ := by kernel_rfl
theorem ty103 : cfg.ty 103 = some ⟨.func, 1, 8, [.nilFunc]⟩ := by kernel_rfl
theorem ty104 : cfg.ty 104 = some ⟨.func, 1, 8, [.nilFunc]⟩ := by kernel_rfl
theorem ty105 : cfg.ty 105 = some ⟨.func, 1, 8, [.nilFunc]⟩ := by kernel_rfl
theorem ty106 : cfg.ty 106 = some ⟨.func, 1, 8, [.nilFunc]⟩ := by kernel_rfl
theorem ty107 : cfg.ty 107 = some ⟨.func, 1, 8, [.nilFunc]⟩ := by kernel_rfl
theorem ty108 : cfg.ty 108 = some ⟨.func, 1, 8, [.nilFunc]⟩ := by kernel_rfl
theorem ty109 : cfg.ty 109 = some ⟨.int .i64, 1, 8, [.int .i64 0]⟩ := by kernel_rfl
theorem ty111 : cfg.ty 111 = some ⟨.func, 1, 8, [.nilFunc]⟩ := by kernel_rfl
theorem ty112 : cfg.ty 112 = some ⟨.func, 1, 8, [.nilFunc]⟩ := by kernel_rfl
theorem ty113 : cfg.ty 113 = some ⟨.func, 1, 8, [.nilFunc]⟩ := by kernel_rfl
theorem ty114 : cfg.ty 114 = some ⟨.func, 1, 8, [.nilFunc]⟩ := by kernel_rfl
theorem ty115 : cfg.ty 115 = some ⟨.func, 1, 8, [.nilFunc]⟩ := by kernel_rfl
theorem ty116 : cfg.ty 116 = some ⟨.func, 1, 8, [.nilFunc]⟩ := by kernel_rfl
theorem ty117 : cfg.ty 117 = some ⟨.int .u32, 1, 4, [.int .u32 0]⟩ := by kernel_rfl
theorem ty118 : cfg.ty 118 = some ⟨.func, 1, 8, [.nilFunc]⟩ := by kernel_rfl
theorem ty119 : cfg.ty 119 = some ⟨.int .u64, 1, 8, [.int .u64 0]⟩ := by kernel_rfl
theorem ty120 : cfg.ty 120 = some ⟨.func, 1, 8, [.nilFunc]⟩ := by kernel_rfl
theorem ty121 : cfg.ty 121 = some ⟨.func, 1, 8, [.nilFunc]⟩ := by kernel_rfl
theorem ty122 : cfg.ty 122 = some ⟨.array 256 4, 256, 256, copies 256 [.bool false]⟩ := by kernel_rfl
theorem ty123 : cfg.ty 123 = some ⟨.array 256 4, 256, 256, copies 256 [.bool false]⟩ := by kernel_rfl
theorem ty125 : cfg.ty 125 = some ⟨.func, 1, 8, [.nilFunc]⟩ := by kernel_rfl
theorem ty126 : cfg.ty 126 = some ⟨.func, 1, 8, [.nilFunc]⟩ := by kernel_rfl
theorem ty127 : cfg.ty 127 = some ⟨.ptr, 1, 8, [.nilPtr]⟩ := by kernel_rfl
theorem ty128 : cfg.ty 128 = some ⟨.array 14 101, 70, 224, [.bool false, .bool false, .bool false, .bool false, .int .i64 0, .bool false, .bool false, .bool false, .bool false, .int .i64 0, .bool false, .bool false, .bool false, .bool false, .int .i64 0, .bool false, .bool false, .bool false, .bool false, .int .i64 0, .bool false, .bool false, .bool false, .bool false, .int .i64 0, .bool false, .bool false, .bool false, .bool false, .int .i64 0, .bool false, .bool false, .bool false, .bool false, .int .i64 0, .bool false, .bool false, .bool false, .bool false, .int .i64 0, .bool false, .bool false, .bool false, .bool false, .int .i64 0, .bool false, .bool false, .bool false, .bool false, .int .i64 0, .bool false, .bool false, .bool false, .bool false, .int .i64 0, .bool false, .bool false, .bool false, .bool false, .int .i64 0, .bool false, .bool false, .bool false, .bool false, .int .i64 0, .bool false, .bool false, .bool false, .bool false, .int .i64 0]⟩ := by kernel_rfl
theorem ty129 : cfg.ty 129 = some ⟨.func, 1, 8, [.nilFunc]⟩ := by kernel_rfl
theorem ty130 : cfg.ty 130 = some ⟨.func, 1, 8, [.nilFunc]⟩ := by kernel_rfl
theorem ty131 : cfg.ty 131 = some ⟨.func, 1, 8, [.nilFunc]⟩ := by kernel_rfl
theorem ty132 : cfg.ty 132 = some ⟨.int .u64, 1, 8, [.int .u64 0]⟩ := by kernel_rfl
theorem ty133 : cfg.ty 133 = some ⟨.func, 1, 8, [.nilFunc]⟩ := by kernel_rfl
theorem ty134 : cfg.ty 134 = some ⟨.func, 1, 8, [.nilFunc]⟩ := by kernel_rfl
theorem ty135 : cfg.ty 135 = some ⟨.func, 1, 8, [.nilFunc]⟩ := by kernel_rfl
theorem ty136 : cfg.ty 136 = some ⟨.ptr, 1, 8, [.nilPtr]⟩ := by kernel_rfl
theorem ty137 : cfg.ty 137 = some ⟨.func, 1, 8, [.nilFunc]⟩ := by kernel_rfl
theorem ty138 : cfg.ty 138 = some ⟨.func, 1, 8, [.nilFunc]⟩ := by kernel_rfl
theorem ty140 : cfg.ty 140 = some ⟨.func, 1, 8, [.nilFunc]⟩ := by kernel_rfl
theorem ty141 : cfg.ty 141 = some ⟨.func, 1, 8, [.nilFunc]⟩ := by kernel_rfl
theorem ty142 : cfg.ty 142 = some ⟨.func, 1, 8, [.nilFunc]⟩ := by kernel_rfl
theorem ty143 : cfg.ty 143 = some ⟨.func, 1, 8, [.nilFunc]⟩ := by kernel_rfl
theorem ty144 : cfg.ty 144 = some ⟨.func, 1, 8, [.nilFunc]⟩ := by kernel_rfl
theorem ty145 : cfg.ty 145 = some ⟨.func, 1, 8, [.nilFunc]⟩ := by kernel_rfl
theorem ty146 : cfg.ty 146 = some ⟨.func, 1, 8, [.nilFunc]⟩ := by kernel_rfl
theorem ty147 : cfg.ty 147 = some ⟨.func, 1, 8, [.nilFunc]⟩ := by kernel_rfl
theorem ty148 : cfg.ty 148 = some ⟨.ptr, 1, 8, [.nilPtr]⟩ := by kernel_rfl
theorem ty150 : cfg.ty 150 = some ⟨.func, 1, 8, [.nilFunc]⟩ := by kernel_rfl
theorem ty151 : cfg.ty 151 = some ⟨.func, 1, 8, [.nilFunc]⟩ := by kernel_rfl
theorem ty152 : cfg.ty 152 = some ⟨.func, 1, 8, [.nilFunc]⟩ := by kernel_rfl
theorem ty153 : cfg.ty 153 = some ⟨.func, 1, 8, [.nilFunc]⟩ := by kernel_rfl
theorem ty154 : cfg.ty 154 = some ⟨.array 256 5, 256, 256, copies 256 [.int .u8 0]⟩ := by kernel_rfl
theorem ty155 : cfg.ty 155 = some ⟨.struct [(5, 0), (5, 1)], 2, 2, [.int .u8 0, .int .u8 0]⟩ := by kernel_rfl
theorem ty156 : cfg.ty 156 = some ⟨.struct [(5, 0), (5, 1)], 2, 2, [.int .u8 0, .int .u8 0]⟩ := by kernel_rfl
theorem ty157 : cfg.ty 157 = some ⟨.array 16 156, 32, 32, [.int .u8 0, .int .u8 0, .int .u8 0, .int .u8 0, .int .u8 0, .int .u8 0, .int .u8 0, .int .u8 0, .int .u8 0, .int .u8 0, .int .u8 0, .int .u8 0, .int .u8 0, .int .u8 0, .int .u8 0, .int .u8 0, .int .u8 0, .int .u8 0, .int .u8 0, .int .u8 0, .int .u8 0, .int .u8 0, .int .u8 0, .int .u8 0, .int .u8 0, .int .u8 0, .int .u8 0, .int .u8 0, .int .u8 0, .int .u8 0, .int .u8 0, .int .u8 0]⟩ := by kernel_rfl
theorem ty158 : cfg.ty 158 = some ⟨.func, 1, 8, [.nilFunc]⟩ := by kernel_rfl
theorem ty159 : cfg.ty 159 = some ⟨.func, 1, 8, [.nilFunc]⟩ := by kernel_rfl
theorem ty160 : cfg.ty 160 = some ⟨.func, 1, 8, [.nilFunc]⟩ := by kernel_rfl
theorem ty161 : cfg.ty 161 = some ⟨.func, 1, 8, [.nilFunc]⟩ := by kernel_rfl
theorem ty162 : cfg.ty 162 = some ⟨.func, 1, 8, [.nilFunc]⟩ := by kernel_rfl
theorem ty163 : cfg.ty 163 = some ⟨.func, 1, 8, [.nilFunc]⟩ := by kernel_rfl
theorem ty164 : cfg.ty 164 = some ⟨.struct [(17, 0), (17, 1), (17, 2), (9, 3)], 4, 40, [.nilPtr, .nilPtr, .nilPtr, .str []]⟩ := by kernel_rfl
theorem ty165 : cfg.ty 165 = some ⟨.struct [(17, 0), (17, 1), (17, 2), (9, 3)], 4, 40, [.nilPtr, .nilPtr, .nilPtr, .str []]⟩ := by kernel_rfl
theorem ty166 : cfg.ty 166 = some ⟨.array 0 16, 0, 0, []⟩ := by kernel_rfl
theorem ty167 : cfg.ty 167 = some ⟨.struct [(166, 0)], 0, 0, []⟩ := by kernel_rfl
theorem ty168 : cfg.ty 168 = some ⟨.struct [(166, 0)], 0, 0, []⟩ := by kernel_rfl
theorem ty169 : cfg.ty 169 = some ⟨.func, 1, 8, [.nilFunc]⟩ := by kernel_rfl
theorem ty170 : cfg.ty 170 = some ⟨.int .u8, 1, 1, [.int .u8 0]⟩ := by kernel_rfl
theorem ty171 : cfg.ty 171 = some ⟨.int .u8, 1, 1, [.int .u8 0]⟩ := by kernel_rfl
theorem ty172 : cfg.ty 172 = some ⟨.func, 1, 8, [.nilFunc]⟩ := by kernel_rfl
theorem ty173 : cfg.ty 173 = some ⟨.ptr, 1, 8, [.nilPtr]⟩ := by kernel_rfl
theorem ty174 : cfg.ty 174 = some ⟨.int .i32, 1, 4, [.int .i32 0]⟩ := by kernel_rfl
theorem ty175 : cfg.ty 175 = some ⟨.int .i32, 1, 4, [.int .i32 0]⟩ := by kernel_rfl
theorem ty176 : cfg.ty 176 = some ⟨.struct [(12, 0), (12, 1), (117, 2), (170, 3), (5, 4), (5, 5), (171, 6), (172, 7), (173, 8), (174, 9), (175, 10)], 11, 48, [.int .u64 0, .int .u64 0, .int .u32 0, .int .u8 0, .int .u8 0, .int .u8 0, .int .u8 0, .nilFunc, .nilPtr, .int .i32 0, .int .i32 0]⟩ := by kernel_rfl
theorem ty177 : cfg.ty 177 = some ⟨.struct [(12, 0), (12, 1), (117, 2), (170, 3), (5, 4), (5, 5), (171, 6), (172, 7), (173, 8), (174, 9), (175, 10)], 11, 48, [.int .u64 0, .int .u64 0, .int .u32 0, .int .u8 0, .int .u8 0, .int .u8 0, .int .u8 0, .nilFunc, .nilPtr, .int .i32 0, .int .i32 0]⟩ := by kernel_rfl
end
end Go.Proofs.Sx

/-
  slices.Index, Contains, IndexFunc, ContainsFunc, Equal: what their calls answer.
-/
set_option linter.unusedSimpArgs false
set_option linter.unusedVariables false
set_option maxRecDepth 100000
namespace Go.Proofs.Sx
open Go.Rv Go.Proofs
attribute [local congr] bind_left got_left guardK_left
noncomputable section

def intL (xs : List Int) : List AV := xs.map (AV.int .i64)
theorem intL_len (xs : List Int) : (intL xs).length = xs.length := by simp [intL]
theorem intL_drop {xs ys : List Int} {i : Nat} (h : xs.drop i = ys) : (intL xs).drop i = intL ys := by rw [intL, ← List.map_drop, h]; rfl

def idxFrom (x : Int) : List Int → Nat → Int
  | [], _ => -1
  | y :: r, i => if x = y then i else idxFrom x r (i + 1)
theorem idxFrom_has (x : Int) : ∀ (l : List Int) (i : Nat), (idxFrom x l i ≥ 0) = (x ∈ l)
  | [], i => by simp [idxFrom]
  | y :: r, i => by
    unfold idxFrom
    split
    · rename_i h; subst h; simp
    · rename_i h
      rw [idxFrom_has x r (i + 1)]
      simp [h]

theorem lv33 (r : Nat) : cfg.live 33 r = some [0, 1, 4, 5, 7, 8, 9, 16] := rfl
theorem ok33 : okB cfg0 33 Tryz.f33 (Tryz.f33.body.getD .skip) = true := by kernel_rfl
theorem pu33 : cfg.pure 33 = true := rfl
instance tight33 {d : Option Nat} : TightD cfg 33 d := ⟨fun _ _ => rfl⟩
def a33_0 : Array Oper := codeOps (codeAt [false] (Tryz.f33.body.getD .skip))
def b33_0 : Array Oper := a33_0
def r33_0 : Code := .region 0 a33_0 false
theorem x33_0 (e : Env) (h : Heap) : exec cfg 33 r33_0 e h = (ops cfg 33 b33_0 (a33_0.toList) e h).bind (regEnd cfg 33 0 false) := region_at _ _ _ _ _ _ _
def a33_1 : Array Oper := codeOps (codeAt [true, false, false] (Tryz.f33.body.getD .skip))
def b33_1 : Array Oper := a33_1
def r33_1 : Code := .region 1 a33_1 false
theorem x33_1 (e : Env) (h : Heap) : exec cfg 33 r33_1 e h = (ops cfg 33 b33_1 (a33_1.toList) e h).bind (regEnd cfg 33 1 false) := region_at _ _ _ _ _ _ _
def a33_2 : Array Oper := codeOps (codeAt [true, false, true, false, false, false] (Tryz.f33.body.getD .skip))
def b33_2 : Array Oper := a33_2
def r33_2 : Code := .region 2 a33_2 false
theorem x33_2 (e : Env) (h : Heap) : exec cfg 33 r33_2 e h = (ops cfg 33 b33_2 (a33_2.toList) e h).bind (regEnd cfg 33 2 false) := region_at _ _ _ _ _ _ _
def a33_3 : Array Oper := codeOps (codeAt [true, false, true, false, false, true, true, false, false, false] (Tryz.f33.body.getD .skip))
def b33_3 : Array Oper := a33_3
def r33_3 : Code := .region 3 a33_3 false
theorem x33_3 (e : Env) (h : Heap) : exec cfg 33 r33_3 e h = (ops cfg 33 b33_3 (a33_3.toList) e h).bind (regEnd cfg 33 3 false) := region_at _ _ _ _ _ _ _
def a33_4 : Array Oper := codeOps (codeAt [true, false, true, false, false, true, true, false, false, true, false] (Tryz.f33.body.getD .skip))
def b33_4 : Array Oper := a33_4
def r33_4 : Code := .region 4 a33_4 false
theorem x33_4 (e : Env) (h : Heap) : exec cfg 33 r33_4 e h = (ops cfg 33 b33_4 (a33_4.toList) e h).bind (regEnd cfg 33 4 false) := region_at _ _ _ _ _ _ _
def a33_5 : Array Oper := codeOps (codeAt [true, false, true, false, false, true, true, false, false, true, true, false, false] (Tryz.f33.body.getD .skip))
def b33_5 : Array Oper := a33_5
def r33_5 : Code := .region 5 a33_5 false
theorem x33_5 (e : Env) (h : Heap) : exec cfg 33 r33_5 e h = (ops cfg 33 b33_5 (a33_5.toList) e h).bind (regEnd cfg 33 5 false) := region_at _ _ _ _ _ _ _
def a33_6 : Array Oper := codeOps (codeAt [true, false, true, false, false, true, true, true] (Tryz.f33.body.getD .skip))
def b33_6 : Array Oper := a33_6
def r33_6 : Code := .region 6 a33_6 false
theorem x33_6 (e : Env) (h : Heap) : exec cfg 33 r33_6 e h = (ops cfg 33 b33_6 (a33_6.toList) e h).bind (regEnd cfg 33 6 false) := region_at _ _ _ _ _ _ _
def a33_7 : Array Oper := codeOps (codeAt [true, true, false] (Tryz.f33.body.getD .skip))
def b33_7 : Array Oper := a33_7
def r33_7 : Code := .region 7 a33_7 false
theorem x33_7 (e : Env) (h : Heap) : exec cfg 33 r33_7 e h = (ops cfg 33 b33_7 (a33_7.toList) e h).bind (regEnd cfg 33 7 false) := region_at _ _ _ _ _ _ _
def l33_0 : Code := (.seq r33_2 (.seq (.cond (.tmp 9) .skip (.exit 0)) (.seq (.block 1 (.seq r33_3 (.seq r33_4 (.cond (.tmp 16) (.seq r33_5 .ret) .skip)))) r33_6)))
def k33 : Code := (.seq r33_0 (.seq (.seq r33_1 (.block 0 (.loop l33_0))) (.seq r33_7 .ret)))
theorem body33 : Tryz.f33.body = some k33 := by kernel_rfl
theorem call33 (x0 x1 : AV) (h : Heap) : call cfg 33 [x0, x1] h = (exec cfg 33 k33 [(0, x0), (1, x1)] h).bind (callEnd cfg 33 h [.tmp 4]) := call_at2 (fnat Tryz.func33 body33 (by rw [← ok33]; kernel_rfl)) rfl rfl
theorem lv18 (r : Nat) : cfg.live 18 r = some [0, 1, 4] := rfl
theorem ok18 : okB cfg0 18 Tryz.f18 (Tryz.f18.body.getD .skip) = true := by kernel_rfl
theorem pu18 : cfg.pure 18 = true := rfl
instance tight18 {d : Option Nat} : TightD cfg 18 d := ⟨fun _ _ => rfl⟩
def a18_0 : Array Oper := codeOps (codeAt [false] (Tryz.f18.body.getD .skip))
def b18_0 : Array Oper := a18_0
def r18_0 : Code := .region 0 a18_0 false
theorem x18_0 (e : Env) (h : Heap) : exec cfg 18 r18_0 e h = (ops cfg 18 b18_0 (a18_0.toList) e h).bind (regEnd cfg 18 0 false) := region_at _ _ _ _ _ _ _
def a18_1 : Array Oper := codeOps (codeAt [true, false] (Tryz.f18.body.getD .skip))
def b18_1 : Array Oper := a18_1
def r18_1 : Code := .region 1 a18_1 false
theorem x18_1 (e : Env) (h : Heap) : exec cfg 18 r18_1 e h = (ops cfg 18 b18_1 (a18_1.toList) e h).bind (regEnd cfg 18 1 false) := region_at _ _ _ _ _ _ _
def k18 : Code := (.seq r18_0 (.seq r18_1 .ret))
theorem body18 : Tryz.f18.body = some k18 := by kernel_rfl
theorem call18 (x0 x1 : AV) (h : Heap) : call cfg 18 [x0, x1] h = (exec cfg 18 k18 [(0, x0), (1, x1)] h).bind (callEnd cfg 18 h [.tmp 4]) := call_at2 (fnat Tryz.func18 body18 (by rw [← ok18]; kernel_rfl)) rfl rfl

theorem indexI_loop (xs : List Int) (x : Int) (z : Nat) (r : Room) (h : Heap) (hn : xs.length < 1000000000) : ∀ (ys : List Int) (i : Nat), xs.drop i = ys → i ≤ xs.length → ∀ c d t e,
    Got (exec cfg 33 (.loop l33_0) [(0, .lst (intL xs) z r), (1, .int .i64 x), (4, c), (5, d), (7, .int .i64 xs.length), (8, .int .i64 i), (9, t), (16, e)] h) (fun q => q.2.2 = h ∧
      ((q.1 = .exit 0 ∧ idxFrom x ys i = -1) ∨ (q.1 = .ret ∧ q.2.1.get 4 = .int .i64 (idxFrom x ys i)))) := by
  intro ys
  induction ys with
  | nil =>
    intro i hd hi c d t e
    rw [got_loop]
    simp only [l33_0, k33, Tryz.f33, regEnd_nrm (lv33 _), pu33, x33_0, a33_0, x33_1, a33_1, x33_2, a33_2, x33_3, a33_3, x33_4, a33_4, x33_5, a33_5, x33_6, a33_6, x33_7, a33_7, sxAll, arithA, Nat.reduceEqDiff, Env.keep, qt_eq, isAlloc, resultsA, packA, storeA, indexAddrA, fieldA, indexA, unA, fieldAddrA, loadA, Rv.part, cellsAt, TD.isAgg, convH, convA, buildA, fillA, setCells, copies, lenA, optA, boundA, mapO, ↓Option.bind_some, ↓Option.bind_none, Nat.reduceBEq, Nat.reduceAdd, Nat.reduceMul, Nat.reduceLeDiff, Nat.reduceSub, Nat.reduceLT, Nat.reduceGT, Int.reduceBEq, Int.reduceLT, Int.reduceLE, bne, ↓reduceIte, at_end hd]
    exact ⟨trivial, .inl ⟨trivial, rfl⟩⟩
  | cons y r ih =>
    intro i hd hi c d t e
    obtain ⟨hlt, _, hd'⟩ := at_drop hd
    obtain ⟨_, hx, _⟩ := at_drop (intL_drop hd)
    have hw := wrap_succ (i := i) (by omega)
    rw [got_loop]
    by_cases he : x = y
    · subst he
      simp only [l33_0, k33, Tryz.f33, regEnd_nrm (lv33 _), pu33, x33_0, a33_0, x33_1, a33_1, x33_2, a33_2, x33_3, a33_3, x33_4, a33_4, x33_5, a33_5, x33_6, a33_6, x33_7, a33_7, sxAll, arithA, Nat.reduceEqDiff, Env.keep, qt_eq, isAlloc, resultsA, packA, storeA, indexAddrA, fieldA, indexA, unA, fieldAddrA, loadA, Rv.part, cellsAt, TD.isAgg, convH, convA, buildA, fillA, setCells, copies, lenA, optA, boundA, mapO, ↓Option.bind_some, ↓Option.bind_none, Nat.reduceBEq, Nat.reduceAdd, Nat.reduceMul, Nat.reduceLeDiff, Nat.reduceSub, Nat.reduceLT, Nat.reduceGT, Int.reduceBEq, Int.reduceLT, Int.reduceLE, bne, ↓reduceIte, hlt, indexAddrA, ty29, ty3, hx]
      exact ⟨trivial, .inr ⟨trivial, by simp [Env.get_cons, idxFrom]⟩⟩
    · have hne : (x == y) = false := by simp [he]
      have := ih (i + 1) hd' (by simp at hlt; omega)
      simp only [l33_0] at this ⊢
      simp only [k33, Tryz.f33, regEnd_nrm (lv33 _), pu33, x33_0, a33_0, x33_1, a33_1, x33_2, a33_2, x33_3, a33_3, x33_4, a33_4, x33_5, a33_5, x33_6, a33_6, x33_7, a33_7, sxAll, arithA, Nat.reduceEqDiff, Env.keep, qt_eq, isAlloc, resultsA, packA, storeA, indexAddrA, fieldA, indexA, unA, fieldAddrA, loadA, Rv.part, cellsAt, TD.isAgg, convH, convA, buildA, fillA, setCells, copies, lenA, optA, boundA, mapO, ↓Option.bind_some, ↓Option.bind_none, Nat.reduceBEq, Nat.reduceAdd, Nat.reduceMul, Nat.reduceLeDiff, Nat.reduceSub, Nat.reduceLT, Nat.reduceGT, Int.reduceBEq, Int.reduceLT, Int.reduceLE, bne, ↓reduceIte, hlt, indexAddrA, ty29, ty3, hx, hne, hw, idxFrom, if_neg he] at this ⊢
      exact this _ _ _ _

theorem indexI_eq (xs : List Int) (x : Int) (z : Nat) (r : Room) (h : Heap) (hn : xs.length < 1000000000) : call cfg 33 [.lst (intL xs) z r, .int .i64 x] h = some (.ret (.int .i64 (idxFrom x xs 0)), h) := by
  obtain ⟨⟨o, e', h'⟩, hx, hh, hq⟩ := indexI_loop xs x z r h hn xs 0 (by simp) (by omega) (.int .i64 0) .junk .junk .junk
  simp only [Int.natCast_zero] at hx hh hq
  subst hh
  rw [call33]
  rcases hq with ⟨rfl, h1⟩ | ⟨rfl, h1⟩
  · simp only [k33, Tryz.f33, regEnd_nrm (lv33 _), pu33, x33_0, a33_0, x33_1, a33_1, x33_2, a33_2, x33_3, a33_3, x33_4, a33_4, x33_5, a33_5, x33_6, a33_6, x33_7, a33_7, sxAll, arithA, Nat.reduceEqDiff, Env.keep, qt_eq, isAlloc, resultsA, packA, storeA, indexAddrA, fieldA, indexA, unA, fieldAddrA, loadA, Rv.part, cellsAt, TD.isAgg, convH, convA, buildA, fillA, setCells, copies, lenA, optA, boundA, mapO, ↓Option.bind_some, ↓Option.bind_none, Nat.reduceBEq, Nat.reduceAdd, Nat.reduceMul, Nat.reduceLeDiff, Nat.reduceSub, Nat.reduceLT, Nat.reduceGT, Int.reduceBEq, Int.reduceLT, Int.reduceLE, bne, ↓reduceIte, ty29, intL_len, hx, h1]
    exact leave_kept rfl rfl
  · simp only [k33, Tryz.f33, regEnd_nrm (lv33 _), pu33, x33_0, a33_0, x33_1, a33_1, x33_2, a33_2, x33_3, a33_3, x33_4, a33_4, x33_5, a33_5, x33_6, a33_6, x33_7, a33_7, sxAll, arithA, Nat.reduceEqDiff, Env.keep, qt_eq, isAlloc, resultsA, packA, storeA, indexAddrA, fieldA, indexA, unA, fieldAddrA, loadA, Rv.part, cellsAt, TD.isAgg, convH, convA, buildA, fillA, setCells, copies, lenA, optA, boundA, mapO, ↓Option.bind_some, ↓Option.bind_none, Nat.reduceBEq, Nat.reduceAdd, Nat.reduceMul, Nat.reduceLeDiff, Nat.reduceSub, Nat.reduceLT, Nat.reduceGT, Int.reduceBEq, Int.reduceLT, Int.reduceLE, bne, ↓reduceIte, ty29, intL_len, hx, h1]
    exact leave_kept rfl rfl
theorem containsI_eq (xs : List Int) (x : Int) (z : Nat) (r : Room) (h : Heap) (hn : xs.length < 1000000000) : call cfg 18 [.lst (intL xs) z r, .int .i64 x] h = some (.ret (.bool (decide (x ∈ xs))), h) := by
  rw [call18]
  simp only [k18, Tryz.f18, regEnd_nrm (lv18 _), pu18, x18_0, a18_0, x18_1, a18_1, sxAll, arithA, Nat.reduceEqDiff, Env.keep, qt_eq, isAlloc, resultsA, packA, storeA, indexAddrA, fieldA, indexA, unA, fieldAddrA, loadA, Rv.part, cellsAt, TD.isAgg, convH, convA, buildA, fillA, setCells, copies, lenA, optA, boundA, mapO, ↓Option.bind_some, ↓Option.bind_none, Nat.reduceBEq, Nat.reduceAdd, Nat.reduceMul, Nat.reduceLeDiff, Nat.reduceSub, Nat.reduceLT, Nat.reduceGT, Int.reduceBEq, Int.reduceLT, Int.reduceLE, bne, ↓reduceIte, indexI_eq xs x z r h hn, pu33, idxFrom_has]
  exact leave_kept rfl rfl
end
end Go.Proofs.Sx
