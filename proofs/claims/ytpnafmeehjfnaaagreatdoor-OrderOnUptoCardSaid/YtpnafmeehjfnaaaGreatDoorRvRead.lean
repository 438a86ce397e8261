/-
  Arguments read: from a row's reading to the interpreter's values. What lies in old blocks is never written.
-/
import Derived.Test.YtpnafmeehjfnaaaGreatDoorRvEntry
import Derived.Carry
set_option linter.unusedSimpArgs false
set_option linter.unusedVariables false
namespace Go.Rv
open Go.ChangeShapes Go.WideShapes Go.Deep Go.RowKit

/-- All that was there at the start is never written. -/
def old (w : World) : Sim := { μ := fun _ => none, I := fun b => b < w.heap.size, good := ⟨fun _ _ _ _ _ => False, fun _ _ => False⟩ }

theorem old_rel (g : Fixed) (w : World) : Rel { old w with good := g } [] w where
  inj _ _ _ h := by cases h
  obj _ _ h := by cases h
  apart _ _ h := by cases h
  imm _ h := h

theorem below_of_ext {s' : Sim} {h' : Heap} {w w' : World} {g : Fixed} (E : Ext { old w with good := g } [] w s' h' w') : Below w.heap.size w w' where
  os := E.os
  tape := E.tape
  output := E.output
  size := E.size
  block k hk := E.far k hk (fun o hx => by cases hx)

theorem same_of_below {w w' : World} (B : Below w.heap.size w w') : Same w w' where
  kept := by
    refine ⟨B.os, B.output, fun i hi => ?_⟩
    rw [B.block i hi]
    cases w.heap[i]? with
    | none => rfl
    | some o =>
      cases o <;> first | rfl | exact ⟨rfl, rfl, rfl, fun _ _ => rfl⟩ | exact .inr ⟨rfl, rfl⟩
  frozen a ha := by
    unfold World.frozen?
    rw [B.block a.block ha]
  size := B.size

/-- A function whose arguments are read, of a program without state. -/
theorem entry_old {T : RvTold} {P : Program} (hg : ∀ g, T.glob g = none) (hp : PrimOk P (T.cfg P)) (hm : P.follows .mixedOrders = true) {f : Nat} {args : List AV} {v : AV} {h' : Heap} (hc : call (T.cfg P) f args [] = some (.ret v, h'))
    {w : World} {vs : List Value} (H : VRs (old w) [] w args vs) : Calls P f vs.toArray w (fun e w' => Below w.heap.size w w' ∧ ∃ u s', e = .returned u ∧ VR s' h' w' v u) := by
  have G : GG (T.cfg P) (ordOk (T.cfg P)) { old w with good := ⟨goodOf (ordOk (T.cfg P)), fun _ _ => True⟩ } [] w := ⟨fun g x hx => absurd hx (by change T.glob g ≠ some x; rw [hg]; simp), rfl⟩
  have := RvTold.sound (T := T) (P := P) (fun g x hx => by change T.glob g = some x at hx; rw [hg] at hx; cases hx) (fun g x hx => by rw [hg] at hx; cases hx) hp hm hc (old_rel _ w) G (H.regood _)
  refine Calls.mono this fun e w' he => ?_
  obtain ⟨s', E, R, hv⟩ := he
  refine ⟨below_of_ext E, ?_⟩
  cases e with
  | returned u => exact ⟨u, s', rfl, hv⟩
  | panicked _ => exact hv.elim
  | outgrown => exact hv.elim

/-- How much a reading holds: what is asked of such a measure. -/
structure Bulk {H : Type} (μ : DataW H → Nat) (μs : List (DataW H) → Nat) : Prop where
  str (l : List UInt8) : l.length ≤ μ (.lit (.string l))
  slice (e s : List (DataW H)) : μs e ≤ μ (.slice e s)
  agg (e : List (DataW H)) : μs e ≤ μ (.agg e)
  cons (d : DataW H) (r : List (DataW H)) : μs (d :: r) = μ d + μs r
  pos (d : DataW H) : 1 ≤ μ d
theorem Bulk.mem {H : Type} {μ : DataW H → Nat} {μs : List (DataW H) → Nat} (U : Bulk μ μs) {d : DataW H} : ∀ {l : List (DataW H)}, d ∈ l → μ d ≤ μs l
  | x :: r, h => by
    rw [U.cons]
    rcases List.mem_cons.1 h with h | h
    · subst h; omega
    · have := U.mem h; omega
theorem Bulk.len {H : Type} {μ : DataW H → Nat} {μs : List (DataW H) → Nat} (U : Bulk μ μs) : ∀ (l : List (DataW H)), l.length ≤ μs l
  | [] => by simp
  | x :: r => by rw [U.cons]; have := U.pos x; have := U.len r; simp; omega

section
variable {H : Type} {enc : TypeId × Value → H} {P : Program} {μ : DataW H → Nat} {μs : List (DataW H) → Nat} {B : Nat}

/-- Whatever is read at this type, of no more than so much, is the picture of some a. -/
def Opens (enc : TypeId × Value → H) (P : Program) (μ : DataW H → Nat) (B : Nat) (t : TypeId) {α : Type} (pic : α → List AV) (ok : α → Prop) : Prop :=
  ∀ (w : World) (n : Nat) (cs : List Value) (x : DataW H × List MemPlace), DataW.trod enc P w 0 (fun _ => true) true n t cs = some x → (∀ p ∈ x.2, p.block < w.heap.size) → μ x.1 ≤ B → ∃ a, ok a ∧ VRs (old w) [] w (pic a) cs

theorem opens_int {t : TypeId} {k : IntKind} (ht : P.underlying t = some (.int k)) : Opens enc P μ B t (fun n : Int => [.int k n]) (fun n => (Lit.int k n).wf = true) := by
  intro w n cs x h _ _
  obtain ⟨a, rfl, hc, hw⟩ : ∃ a, cs = [.int k a] ∧ True ∧ (Lit.int k a).wf = true := by
    cases n with
    | zero => simp [DataW.trod] at h
    | succ n =>
      unfold DataW.trod at h
      rw [ht] at h
      split at h <;> simp_all
  exact ⟨a, hw, rfl, fun i c hi => by
    cases i with
    | zero => simp at hi; subst hi; exact ⟨_, rfl, .int _ _⟩
    | succ i => simp at hi⟩

theorem opens_bool {t : TypeId} (ht : P.underlying t = some .bool) : Opens enc P μ B t (fun b : Bool => [.bool b]) (fun _ => True) := by
  intro w n cs x h _ _
  obtain ⟨a, rfl⟩ : ∃ a, cs = [.bool a] := by
    cases n with
    | zero => simp [DataW.trod] at h
    | succ n =>
      unfold DataW.trod at h
      rw [ht] at h
      split at h <;> simp_all
  exact ⟨a, trivial, rfl, fun i c hi => by
    cases i with
    | zero => simp at hi; subst hi; exact ⟨_, rfl, .bool _⟩
    | succ i => simp at hi⟩

theorem opens_string (U : Bulk μ μs) {t : TypeId} (ht : P.underlying t = some .string) : Opens enc P μ B t (fun l : List UInt8 => [.str l]) (fun l => l.length ≤ B) := by
  intro w n cs x h _ hb
  obtain ⟨a, rfl, ha⟩ : ∃ a : ByteArray, cs = [.string a] ∧ x.1 = .lit (.string a.data.toList) := by
    cases n with
    | zero => simp [DataW.trod] at h
    | succ n =>
      unfold DataW.trod at h
      rw [ht] at h
      split at h <;> simp_all
      rw [← h.2]
  refine ⟨a.data.toList, by rw [ha] at hb; exact Nat.le_trans (U.str _) hb, rfl, fun i c hi => ?_⟩
  cases i with
  | zero =>
    simp at hi; subst hi
    refine ⟨_, rfl, ?_⟩
    have := VR.str (s := old w) (h := []) (w := w) a.data.toList
    simpa using this
  | succ i => simp at hi

/-- A slice of the input: nil, or so many elements and so much room. -/
inductive GS (α : Type) where
  | nil
  | mk (l : List α) (cap : Nat)

def GS.pic {α : Type} (el : α → AV) (z : Nat) : GS α → List AV
  | .nil => [.lst [] z .nil]
  | .mk l cap => [.lst (l.map el) z (.exact cap)]
def GS.ok {α : Type} (B : Nat) (ok : α → Prop) : GS α → Prop
  | .nil => True
  | .mk l _ => l.length ≤ B ∧ ∀ a ∈ l, ok a

theorem choose_list {α : Type} {Q : Nat → α → Prop} : ∀ n : Nat, (∀ i, i < n → ∃ a, Q i a) → ∃ l : List α, l.length = n ∧ ∀ (i : Nat) a, l[i]? = some a → Q i a
  | 0, _ => ⟨[], rfl, fun i a h => by simp at h⟩
  | n + 1, H => by
    obtain ⟨l, h1, h2⟩ := choose_list n (fun i hi => H i (by omega))
    obtain ⟨a, ha⟩ := H n (by omega)
    refine ⟨l ++ [a], by simp [h1], fun i b hb => ?_⟩
    by_cases hi : i < n
    · rw [List.getElem?_append_left (by omega)] at hb
      exact h2 i b hb
    · rw [List.getElem?_append_right (by omega)] at hb
      have : i - l.length = 0 := by
        have := (List.getElem?_eq_some_iff.1 hb).1
        simp at this; omega
      rw [this] at hb
      simp at hb
      subst hb
      have : i = n := by omega
      rw [this]; exact ha

theorem opens_slice (U : Bulk μ μs) {t e : TypeId} (ht : P.underlying t = some (.slice e)) {α : Type} {pic : α → List AV} {ok : α → Prop} (O : Opens enc P μ B e pic ok) {z : Nat} (hz : P.cellsOf e = z) (hpos : 0 < z) (el : α → AV) (hel : ∀ a, (el a).cells = pic a) (hpl : ∀ a, (pic a).length = z) :
    Opens enc P μ B t (GS.pic el z) (GS.ok B ok) := by
  intro w n cs x h hpl2 hb
  rcases open_slice ht h with ⟨rfl, _⟩ | ⟨A, len, cap, m, n', D, Pl, rfl, _, hle, hcap, hm, hx, hi⟩
  · exact ⟨.nil, trivial, rfl, fun i c hi => by
      cases i with
      | zero => simp [GS.pic] at hi; subst hi; exact ⟨_, rfl, .lstNil _⟩
      | succ i => simp [GS.pic] at hi⟩
  · simp only [if_true] at hm
    subst hm
    have hfit : ∀ i, i < m → ∀ p ∈ Pl i, p.block < w.heap.size := fun i him p hp => hpl2 p (by
      rw [hx]
      simp only [List.mem_append, List.mem_flatMap, List.mem_range]
      exact .inr ⟨i, him, hp⟩)
    have hb1 : μs ((List.range len).map D) ≤ B := by rw [hx] at hb; exact Nat.le_trans (U.slice _ _) hb
    have hbD : ∀ i, i < len → μ (D i) ≤ B := fun i hi => Nat.le_trans (U.mem (List.mem_map.2 ⟨i, List.mem_range.2 hi, rfl⟩)) hb1
    have hbl : len ≤ B := by have := U.len ((List.range len).map D); simp at this; omega
    obtain ⟨l, hl, hl2⟩ := choose_list (Q := fun i a => ok a ∧ ∃ cs', w.cells? 0 (A.add (i * z)) z = some cs' ∧ VRs (old w) [] w (pic a) cs') len (fun i hil => by
      obtain ⟨cs', h1, h2⟩ := hi i (by omega)
      obtain ⟨a, h3, h4⟩ := O w n' cs' _ h2 (hfit i (by omega)) (hbD i hil)
      rw [hz] at h1
      exact ⟨a, h3, cs', h1, h4⟩)
    have hok : ∀ a ∈ l, ok a := fun a ha => by
      obtain ⟨i, hia⟩ := List.mem_iff_getElem?.1 ha
      exact (hl2 i a hia).1
    refine ⟨.mk l m, ⟨by omega, hok⟩, rfl, fun i c hic => ?_⟩
    cases i with
    | succ i => simp [GS.pic] at hic
    | zero =>
      simp only [GS.pic, List.getElem?_cons_zero, Option.some.injEq] at hic
      subst hic
      refine ⟨_, rfl, ?_⟩
      by_cases h0 : m = 0
      · subst h0
        have : len = 0 := by omega
        subst this
        have : l = [] := by simpa using hl
        subst this
        exact .lstEmpty _ _
      · obtain ⟨cs', h1, _⟩ := hi 0 (by omega)
        rw [hz] at h1
        obtain ⟨_, hcl, hat⟩ := World.cells?_some h1
        have hc0 := hat 0 hpos
        have hA : (A.add (0 * z)).add 0 = A := by simp [Addr.add]
        rw [hA, List.getElem?_eq_getElem (by omega)] at hc0
        have hspot : A.spot = none := by
          unfold World.cell? at hc0
          split at hc0
          · split at hc0
            · cases hc0
            · rename_i hs; simpa using hs
          all_goals cases hc0
        obtain ⟨b, off, sp⟩ := A
        simp only at hspot
        subst hspot
        have hb : b < w.heap.size := cell_block hc0
        have hlen : (l.map el).length = len := by simp [hl]
        have get : ∀ (i : Nat) x, (l.map el)[i]? = some x → ∃ a, x = el a ∧ ∃ cs', w.cells? 0 ((⟨b, off, none⟩ : Addr).add (i * z)) z = some cs' ∧ VRs (old w) [] w (pic a) cs' := fun i x hx => by
          rw [List.getElem?_map] at hx
          obtain ⟨a, ha, rfl⟩ := Option.map_eq_some_iff.1 hx
          exact ⟨a, rfl, (hl2 i a ha).2⟩
        have cell : ∀ (i j : Nat) x y, (l.map el)[i]? = some x → x.cells[j]? = some y → ∃ v, w.cell? ⟨b, off + i * z + j, none⟩ = some v ∧ VR (old w) [] w y v := by
          intro i j x y hx hy
          obtain ⟨a, rfl, cs', h1, h2⟩ := get i x hx
          rw [hel] at hy
          obtain ⟨v, hv, hr⟩ := h2.2 j y hy
          obtain ⟨_, hcl, hat⟩ := World.cells?_some h1
          have hj : j < z := by rw [← hcl]; exact (List.getElem?_eq_some_iff.1 hv).1
          have := hat j hj
          rw [addr_add, addr_add, hv] at this
          exact ⟨v, this, hr⟩
        have := VR.lst (s := old w) (h := []) (w := w) (l.map el) z (.exact m) b off m (fun i j => (w.cell? ⟨b, off + i * z + j, none⟩).getD undef) (fun _ => hb) rfl (by omega)
          (fun i x hx => by
            obtain ⟨a, rfl, _⟩ := get i x hx
            rw [hel, hpl])
          (fun i j x y hx hy => by
            obtain ⟨v, hv, _⟩ := cell i j x y hx hy
            rw [hv]; rfl)
          (fun i j x y hx hy => by
            obtain ⟨v, hv, hr⟩ := cell i j x y hx hy
            rw [hv]; exact hr)
        rw [hlen] at this
        exact this

/-- Fields, one behind the other. -/
def OpensF (enc : TypeId × Value → H) (P : Program) (μ : DataW H → Nat) (B : Nat) (fs : List Field) {α : Type} (pic : α → List AV) (ok : α → Prop) : Prop :=
  ∀ (w : World) (n : Nat) (cs : List Value) (xs : List (DataW H × List MemPlace)), fs.mapM (fun f => DataW.trod enc P w 0 (fun _ => true) true n f.type ((cs.drop f.offset).take (P.cellsOf f.type))) = some xs →
    (∀ p ∈ xs.flatMap (·.2), p.block < w.heap.size) → (∀ y ∈ xs, μ y.1 ≤ B) → ∃ a, ok a ∧ VRs (old w) [] w (pic a) (fs.flatMap fun f => (cs.drop f.offset).take (P.cellsOf f.type))

theorem opensF_nil : OpensF enc P μ B [] (fun _ : Unit => []) (fun _ => True) := fun w n cs xs _ _ _ => ⟨(), trivial, rfl, fun i c hi => by simp at hi⟩

theorem opensF_cons {f : Field} {fs : List Field} {α β : Type} {pic : α → List AV} {ok : α → Prop} {pic' : β → List AV} {ok' : β → Prop} (O : Opens enc P μ B f.type pic ok) (F : OpensF enc P μ B fs pic' ok') :
    OpensF enc P μ B (f :: fs) (fun p : α × β => pic p.1 ++ pic' p.2) (fun p => ok p.1 ∧ ok' p.2) := by
  intro w n cs xs h hp hb
  rw [List.mapM_cons] at h
  simp only [Option.bind_eq_bind, Option.pure_def] at h
  obtain ⟨x, hx, h⟩ := Option.bind_eq_some_iff.1 h
  obtain ⟨ys, hys, h⟩ := Option.bind_eq_some_iff.1 h
  simp only [Option.some.injEq] at h
  subst h
  obtain ⟨a, h1, h2⟩ := O w n _ x hx (fun p h => hp p (by simp [h])) (hb x (by simp))
  obtain ⟨b, h3, h4⟩ := F w n cs ys hys (fun p h => hp p (by
    rw [List.flatMap_cons]
    exact List.mem_append_right _ h)) (fun y hy => hb y (List.mem_cons_of_mem _ hy))
  exact ⟨(a, b), ⟨h1, h3⟩, by
    rw [List.flatMap_cons]
    exact h2.append h4⟩

/-- Do the fields lie one behind the other? Behind them all. -/
def lay (P : Program) : List Field → Nat → Option Nat
  | [], o => some o
  | f :: r, o => if f.offset = o then lay P r (o + P.cellsOf f.type) else none

theorem lay_le : ∀ {fs : List Field} {o T : Nat}, lay P fs o = some T → o ≤ T
  | [], o, T, h => by simp [lay] at h; omega
  | f :: r, o, T, h => by
    simp only [lay] at h
    split at h
    · have := lay_le h; omega
    · cases h

theorem lay_flat (cs : List Value) : ∀ {fs : List Field} {o T : Nat}, lay P fs o = some T → T ≤ cs.length → (fs.flatMap fun f => (cs.drop f.offset).take (P.cellsOf f.type)) = (cs.drop o).take (T - o)
  | [], o, T, h, _ => by
    simp only [lay, Option.some.injEq] at h
    subst h
    simp
  | f :: r, o, T, h, hT => by
    simp only [lay] at h
    split at h
    · rename_i he
      have hle := lay_le h
      rw [List.flatMap_cons, lay_flat cs h hT, he]
      rw [show T - o = P.cellsOf f.type + (T - (o + P.cellsOf f.type)) from by omega, List.take_add, List.drop_drop]
    · cases h

theorem mapM_get {β γ : Type} {f : β → Option γ} : ∀ {l : List β} {xs : List γ}, xs.length = l.length → (∀ (i : Nat) b, l[i]? = some b → f b = xs[i]?) → l.mapM f = some xs
  | [], [], _, _ => rfl
  | [], _ :: _, h, _ => by simp at h
  | _ :: _, [], h, _ => by simp at h
  | b :: l, x :: xs, h, H => by
    have h0 := H 0 b rfl
    simp only [List.getElem?_cons_zero] at h0
    rw [List.mapM_cons, h0, mapM_get (l := l) (xs := xs) (by simpa using h) (fun i b hb => by simpa using H (i + 1) b (by simpa using hb))]
    rfl

theorem opens_struct (U : Bulk μ μs) {t : TypeId} {fs : Array Field} (ht : P.underlying t = some (.struct fs)) {α : Type} {pic : α → List AV} {ok : α → Prop} (F : OpensF enc P μ B fs.toList pic ok) (hl : lay P fs.toList 0 = some (P.cellsOf t)) : Opens enc P μ B t pic ok := by
  intro w n cs x h hp hb
  obtain ⟨xs, n', hxs, hx, hlen⟩ : ∃ xs n', fs.toList.mapM (fun f => DataW.trod enc P w 0 (fun _ => true) true n' f.type ((cs.drop f.offset).take (P.cellsOf f.type))) = some xs ∧ x = (.agg (xs.map (·.1)), xs.flatMap (·.2)) ∧ cs.length = P.cellsOf t := by
    obtain ⟨xs, n', _, hx, hl', hlen, hf⟩ := DataW.trod_struct ht h
    exact ⟨xs, n', mapM_get (by simpa using hlen) (fun i f hif => hf i f (by simpa using hif)), hx, hl'⟩
  obtain ⟨a, h1, h2⟩ := F w n' cs xs hxs (by rw [hx] at hp; exact hp) (fun y hy => by
    rw [hx] at hb
    exact Nat.le_trans (U.mem (List.mem_map.2 ⟨y, hy, rfl⟩)) (Nat.le_trans (U.agg _) hb))
  refine ⟨a, h1, ?_⟩
  rw [lay_flat cs hl (by omega)] at h2
  simpa [← hlen] using h2

/-- A struct that is an argument. -/
theorem open_arg {t : TypeId} {fs : Array Field} (ht : P.underlying t = some (.struct fs)) {α : Type} {pic : α → List AV} {ok : α → Prop} (O : Opens enc P μ B t pic ok) {w : World} {r : Reach} {b0 : Nat} {v : Value} {d : DataW H} {ps : List MemPlace}
    (hv : Value.okWide P w r b0 t v) (h : DataW.Trod enc P w 0 (fun _ => true) true t v d ps) (hp : ∀ p ∈ ps, p.block < w.heap.size) (hb : μ d ≤ B) : ∃ a, ok a ∧ VR (old w) [] w (.agg (pic a)) v := by
  obtain ⟨cs, rfl, _⟩ := okWide_struct ht hv
  obtain ⟨n, hn⟩ := h
  obtain ⟨a, h1, h2⟩ := O w n _ _ hn hp hb
  refine ⟨a, h1, .agg _ _ (by simpa [Value.cells] using h2.1) fun i c hi => ?_⟩
  obtain ⟨u, hu, hr⟩ := h2.2 i c hi
  have hu' : cs[i]? = some u := by simpa [Value.cells] using hu
  rw [Array.getD_eq_getD_getElem?, hu']
  exact hr
end
end Go.Rv
