/-
  Arguments read: from a row's reading to the interpreter's values. What lies in old blocks is never written.
-/
import Derived.Test.YtlimadookjcbmaaGreatDoorPtG
import Derived.Carry
import Derived.Laws.BitsLemmas
import Derived.KernelRfl
import Derived.OpenShut
import Derived.ChangeArms
set_option linter.unusedSectionVars false
set_option linter.unusedSimpArgs false
set_option linter.unusedVariables false
set_option linter.defProp false
namespace Go.Rv
open Go.ChangeShapes Go.WideShapes Go.Deep Go.RowKit
def old (w : World) : Sim := { μ := fun _ => none, I := fun b => b < w.heap.size, good := ⟨fun _ _ _ _ _ => False, fun _ _ => False, []⟩ }
theorem old_rel (g : Fixed) (w : World) : Rel { old w with good := g } [] w where
  inj _ _ _ h := by cases h
  obj _ _ h := by cases h
  apart _ _ h := by cases h
  imm _ h := h
theorem below_of_ext {s' : Sim} {h' : Heap} {w w' : World} {g : Fixed} (E : Ext { old w with good := g } [] w s' h' w') : Below w.heap.size w w' where
  os := E.os
  tape := E.tape
  output := E.output
  size := E.size
  block k hk := E.far k hk (fun o hx => by cases hx)
theorem same_of_below {w w' : World} (B : Below w.heap.size w w') : Same w w' where
  kept := by
    refine ⟨B.os, B.output, fun i hi => ?_⟩
    rw [B.block i hi]
    cases w.heap[i]? with
    | none => rfl
    | some o =>
      cases o <;> first | rfl | exact ⟨rfl, rfl, rfl, fun _ _ => rfl⟩ | exact .inr ⟨rfl, rfl⟩
  frozen a ha := by
    unfold World.frozen?
    rw [B.block a.block ha]
  size := B.size
structure Bulk {H : Type} (μ : DataW H → Nat) (μs : List (DataW H) → Nat) : Prop where
  str (l : List UInt8) : l.length ≤ μ (.lit (.string l))
  slice (e s : List (DataW H)) : μs e ≤ μ (.slice e s)
  agg (e : List (DataW H)) : μs e ≤ μ (.agg e)
  cons (d : DataW H) (r : List (DataW H)) : μs (d :: r) = μ d + μs r
  pos (d : DataW H) : 1 ≤ μ d
theorem Bulk.mem {H : Type} {μ : DataW H → Nat} {μs : List (DataW H) → Nat} (U : Bulk μ μs) {d : DataW H} : ∀ {l : List (DataW H)}, d ∈ l → μ d ≤ μs l
  | x :: r, h => by
    rw [U.cons]
    rcases List.mem_cons.1 h with h | h
    · subst h; omega
    · have := U.mem h; omega
theorem Bulk.len {H : Type} {μ : DataW H → Nat} {μs : List (DataW H) → Nat} (U : Bulk μ μs) : ∀ (l : List (DataW H)), l.length ≤ μs l
  | [] => by simp
  | x :: r => by rw [U.cons]; have := U.pos x; have := U.len r; simp; omega
section
variable {H : Type} {enc : TypeId × Value → H} {P : Program} {μ : DataW H → Nat} {μs : List (DataW H) → Nat} {B : Nat}
def Opens (enc : TypeId × Value → H) (P : Program) (μ : DataW H → Nat) (B : Nat) (t : TypeId) {α : Type} (pic : α → List AV) (ok : α → Prop) : Prop :=
  ∀ (w : World) (n : Nat) (cs : List Value) (x : DataW H × List MemPlace), DataW.trod enc P w 0 (fun _ => true) true n t cs = some x → (∀ p ∈ x.2, p.block < w.heap.size) → μ x.1 ≤ B → ∃ a, ok a ∧ VRs (old w) [] w (pic a) cs
theorem opens_int {t : TypeId} {k : IntKind} (ht : P.underlying t = some (.int k)) : Opens enc P μ B t (fun n : Int => [.int k n]) (fun n => (Lit.int k n).wf = true) := by
  intro w n cs x h _ _
  obtain ⟨a, rfl, hc, hw⟩ : ∃ a, cs = [.int k a] ∧ True ∧ (Lit.int k a).wf = true := by
    cases n with
    | zero => simp [DataW.trod] at h
    | succ n =>
      unfold DataW.trod at h
      rw [ht] at h
      split at h <;> simp_all
  exact ⟨a, hw, rfl, fun i c hi => by
    cases i with
    | zero => simp at hi; subst hi; exact ⟨_, rfl, .int _ _⟩
    | succ i => simp at hi⟩
theorem opens_bool {t : TypeId} (ht : P.underlying t = some .bool) : Opens enc P μ B t (fun b : Bool => [.bool b]) (fun _ => True) := by
  intro w n cs x h _ _
  obtain ⟨a, rfl⟩ : ∃ a, cs = [.bool a] := by
    cases n with
    | zero => simp [DataW.trod] at h
    | succ n =>
      unfold DataW.trod at h
      rw [ht] at h
      split at h <;> simp_all
  exact ⟨a, trivial, rfl, fun i c hi => by
    cases i with
    | zero => simp at hi; subst hi; exact ⟨_, rfl, .bool _⟩
    | succ i => simp at hi⟩
theorem opens_string (U : Bulk μ μs) {t : TypeId} (ht : P.underlying t = some .string) : Opens enc P μ B t (fun l : List UInt8 => [.str l]) (fun l => l.length ≤ B) := by
  intro w n cs x h _ hb
  obtain ⟨a, rfl, ha⟩ : ∃ a : ByteArray, cs = [.string a] ∧ x.1 = .lit (.string a.data.toList) := by
    cases n with
    | zero => simp [DataW.trod] at h
    | succ n =>
      unfold DataW.trod at h
      rw [ht] at h
      split at h <;> simp_all
      rw [← h.2]
  refine ⟨a.data.toList, by rw [ha] at hb; exact Nat.le_trans (U.str _) hb, rfl, fun i c hi => ?_⟩
  cases i with
  | zero =>
    simp at hi; subst hi
    refine ⟨_, rfl, ?_⟩
    have := VR.str (s := old w) (h := []) (w := w) a.data.toList
    simpa using this
  | succ i => simp at hi
inductive GS (α : Type) where
  | nil
  | mk (l : List α) (cap : Nat)
def GS.pic {α : Type} (el : α → AV) (z : Nat) : GS α → List AV
  | .nil => [.lst [] z .nil]
  | .mk l cap => [.lst (l.map el) z (.exact cap)]
def GS.ok {α : Type} (B : Nat) (ok : α → Prop) : GS α → Prop
  | .nil => True
  | .mk l _ => l.length ≤ B ∧ ∀ a ∈ l, ok a
theorem choose_list {α : Type} {Q : Nat → α → Prop} : ∀ n : Nat, (∀ i, i < n → ∃ a, Q i a) → ∃ l : List α, l.length = n ∧ ∀ (i : Nat) a, l[i]? = some a → Q i a
  | 0, _ => ⟨[], rfl, fun i a h => by simp at h⟩
  | n + 1, H => by
    obtain ⟨l, h1, h2⟩ := choose_list n (fun i hi => H i (by omega))
    obtain ⟨a, ha⟩ := H n (by omega)
    refine ⟨l ++ [a], by simp [h1], fun i b hb => ?_⟩
    by_cases hi : i < n
    · rw [List.getElem?_append_left (by omega)] at hb
      exact h2 i b hb
    · rw [List.getElem?_append_right (by omega)] at hb
      have : i - l.length = 0 := by
        have := (List.getElem?_eq_some_iff.1 hb).1
        simp at this; omega
      rw [this] at hb
      simp at hb
      subst hb
      have : i = n := by omega
      rw [this]; exact ha
theorem opens_slice (U : Bulk μ μs) {t e : TypeId} (ht : P.underlying t = some (.slice e)) {α : Type} {pic : α → List AV} {ok : α → Prop} (O : Opens enc P μ B e pic ok) {z : Nat} (hz : P.cellsOf e = z) (hpos : 0 < z) (el : α → AV) (hel : ∀ a, (el a).cells = pic a) (hpl : ∀ a, (pic a).length = z) :
    Opens enc P μ B t (GS.pic el z) (GS.ok B ok) := by
  intro w n cs x h hpl2 hb
  rcases open_slice ht h with ⟨rfl, _⟩ | ⟨A, len, cap, m, n', D, Pl, rfl, _, hle, hcap, hm, hx, hi⟩
  · exact ⟨.nil, trivial, rfl, fun i c hi => by
      cases i with
      | zero => simp [GS.pic] at hi; subst hi; exact ⟨_, rfl, .lstNil _⟩
      | succ i => simp [GS.pic] at hi⟩
  · simp only [if_true] at hm
    subst hm
    have hfit : ∀ i, i < m → ∀ p ∈ Pl i, p.block < w.heap.size := fun i him p hp => hpl2 p (by
      rw [hx]
      simp only [List.mem_append, List.mem_flatMap, List.mem_range]
      exact .inr ⟨i, him, hp⟩)
    have hb1 : μs ((List.range len).map D) ≤ B := by rw [hx] at hb; exact Nat.le_trans (U.slice _ _) hb
    have hbD : ∀ i, i < len → μ (D i) ≤ B := fun i hi => Nat.le_trans (U.mem (List.mem_map.2 ⟨i, List.mem_range.2 hi, rfl⟩)) hb1
    have hbl : len ≤ B := by have := U.len ((List.range len).map D); simp at this; omega
    obtain ⟨l, hl, hl2⟩ := choose_list (Q := fun i a => ok a ∧ ∃ cs', w.cells? 0 (A.add (i * z)) z = some cs' ∧ VRs (old w) [] w (pic a) cs') len (fun i hil => by
      obtain ⟨cs', h1, h2⟩ := hi i (by omega)
      obtain ⟨a, h3, h4⟩ := O w n' cs' _ h2 (hfit i (by omega)) (hbD i hil)
      rw [hz] at h1
      exact ⟨a, h3, cs', h1, h4⟩)
    have hok : ∀ a ∈ l, ok a := fun a ha => by
      obtain ⟨i, hia⟩ := List.mem_iff_getElem?.1 ha
      exact (hl2 i a hia).1
    refine ⟨.mk l m, ⟨by omega, hok⟩, rfl, fun i c hic => ?_⟩
    cases i with
    | succ i => simp [GS.pic] at hic
    | zero =>
      simp only [GS.pic, List.getElem?_cons_zero, Option.some.injEq] at hic
      subst hic
      refine ⟨_, rfl, ?_⟩
      by_cases h0 : m = 0
      · subst h0
        have : len = 0 := by omega
        subst this
        have : l = [] := by simpa using hl
        subst this
        exact .lstEmpty _ _
      · obtain ⟨cs', h1, _⟩ := hi 0 (by omega)
        rw [hz] at h1
        obtain ⟨_, hcl, hat⟩ := World.cells?_some h1
        have hc0 := hat 0 hpos
        have hA : (A.add (0 * z)).add 0 = A := by simp [Addr.add]
        rw [hA, List.getElem?_eq_getElem (by omega)] at hc0
        have hspot : A.spot = none := by
          unfold World.cell? at hc0
          split at hc0
          · split at hc0
            · cases hc0
            · rename_i hs; simpa using hs
          all_goals cases hc0
        obtain ⟨b, off, sp⟩ := A
        simp only at hspot
        subst hspot
        have hb : b < w.heap.size := cell_block hc0
        have hlen : (l.map el).length = len := by simp [hl]
        have get : ∀ (i : Nat) x, (l.map el)[i]? = some x → ∃ a, x = el a ∧ ∃ cs', w.cells? 0 ((⟨b, off, none⟩ : Addr).add (i * z)) z = some cs' ∧ VRs (old w) [] w (pic a) cs' := fun i x hx => by
          rw [List.getElem?_map] at hx
          obtain ⟨a, ha, rfl⟩ := Option.map_eq_some_iff.1 hx
          exact ⟨a, rfl, (hl2 i a ha).2⟩
        have cell : ∀ (i j : Nat) x y, (l.map el)[i]? = some x → x.cells[j]? = some y → ∃ v, w.cell? ⟨b, off + i * z + j, none⟩ = some v ∧ VR (old w) [] w y v := by
          intro i j x y hx hy
          obtain ⟨a, rfl, cs', h1, h2⟩ := get i x hx
          rw [hel] at hy
          obtain ⟨v, hv, hr⟩ := h2.2 j y hy
          obtain ⟨_, hcl, hat⟩ := World.cells?_some h1
          have hj : j < z := by rw [← hcl]; exact (List.getElem?_eq_some_iff.1 hv).1
          have := hat j hj
          rw [addr_add, addr_add, hv] at this
          exact ⟨v, this, hr⟩
        have := VR.lst (s := old w) (h := []) (w := w) (l.map el) z (.exact m) b off m (fun i j => (w.cell? ⟨b, off + i * z + j, none⟩).getD undef) (fun _ => hb) rfl (by omega)
          (fun i x hx => by
            obtain ⟨a, rfl, _⟩ := get i x hx
            rw [hel, hpl])
          (fun i j x y hx hy => by
            obtain ⟨v, hv, _⟩ := cell i j x y hx hy
            rw [hv]; rfl)
          (fun i j x y hx hy => by
            obtain ⟨v, hv, hr⟩ := cell i j x y hx hy
            rw [hv]; exact hr)
        rw [hlen] at this
        exact this
def OpensF (enc : TypeId × Value → H) (P : Program) (μ : DataW H → Nat) (B : Nat) (fs : List Field) {α : Type} (pic : α → List AV) (ok : α → Prop) : Prop :=
  ∀ (w : World) (n : Nat) (cs : List Value) (xs : List (DataW H × List MemPlace)), fs.mapM (fun f => DataW.trod enc P w 0 (fun _ => true) true n f.type ((cs.drop f.offset).take (P.cellsOf f.type))) = some xs →
    (∀ p ∈ xs.flatMap (·.2), p.block < w.heap.size) → (∀ y ∈ xs, μ y.1 ≤ B) → ∃ a, ok a ∧ VRs (old w) [] w (pic a) (fs.flatMap fun f => (cs.drop f.offset).take (P.cellsOf f.type))
theorem opensF_nil : OpensF enc P μ B [] (fun _ : Unit => []) (fun _ => True) := fun w n cs xs _ _ _ => ⟨(), trivial, rfl, fun i c hi => by simp at hi⟩
theorem opensF_cons {f : Field} {fs : List Field} {α β : Type} {pic : α → List AV} {ok : α → Prop} {pic' : β → List AV} {ok' : β → Prop} (O : Opens enc P μ B f.type pic ok) (F : OpensF enc P μ B fs pic' ok') :
    OpensF enc P μ B (f :: fs) (fun p : α × β => pic p.1 ++ pic' p.2) (fun p => ok p.1 ∧ ok' p.2) := by
  intro w n cs xs h hp hb
  rw [List.mapM_cons] at h
  simp only [Option.bind_eq_bind, Option.pure_def] at h
  obtain ⟨x, hx, h⟩ := Option.bind_eq_some_iff.1 h
  obtain ⟨ys, hys, h⟩ := Option.bind_eq_some_iff.1 h
  simp only [Option.some.injEq] at h
  subst h
  obtain ⟨a, h1, h2⟩ := O w n _ x hx (fun p h => hp p (by simp [h])) (hb x (by simp))
  obtain ⟨b, h3, h4⟩ := F w n cs ys hys (fun p h => hp p (by
    rw [List.flatMap_cons]
    exact List.mem_append_right _ h)) (fun y hy => hb y (List.mem_cons_of_mem _ hy))
  exact ⟨(a, b), ⟨h1, h3⟩, by
    rw [List.flatMap_cons]
    exact h2.append h4⟩
def lay (P : Program) : List Field → Nat → Option Nat
  | [], o => some o
  | f :: r, o => if f.offset = o then lay P r (o + P.cellsOf f.type) else none
theorem lay_le : ∀ {fs : List Field} {o T : Nat}, lay P fs o = some T → o ≤ T
  | [], o, T, h => by simp [lay] at h; omega
  | f :: r, o, T, h => by
    simp only [lay] at h
    split at h
    · have := lay_le h; omega
    · cases h
theorem lay_flat (cs : List Value) : ∀ {fs : List Field} {o T : Nat}, lay P fs o = some T → T ≤ cs.length → (fs.flatMap fun f => (cs.drop f.offset).take (P.cellsOf f.type)) = (cs.drop o).take (T - o)
  | [], o, T, h, _ => by
    simp only [lay, Option.some.injEq] at h
    subst h
    simp
  | f :: r, o, T, h, hT => by
    simp only [lay] at h
    split at h
    · rename_i he
      have hle := lay_le h
      rw [List.flatMap_cons, lay_flat cs h hT, he]
      rw [show T - o = P.cellsOf f.type + (T - (o + P.cellsOf f.type)) from by omega, List.take_add, List.drop_drop]
    · cases h
theorem mapM_get {β γ : Type} {f : β → Option γ} : ∀ {l : List β} {xs : List γ}, xs.length = l.length → (∀ (i : Nat) b, l[i]? = some b → f b = xs[i]?) → l.mapM f = some xs
  | [], [], _, _ => rfl
  | [], _ :: _, h, _ => by simp at h
  | _ :: _, [], h, _ => by simp at h
  | b :: l, x :: xs, h, H => by
    have h0 := H 0 b rfl
    simp only [List.getElem?_cons_zero] at h0
    rw [List.mapM_cons, h0, mapM_get (l := l) (xs := xs) (by simpa using h) (fun i b hb => by simpa using H (i + 1) b (by simpa using hb))]
    rfl
theorem opens_struct (U : Bulk μ μs) {t : TypeId} {fs : Array Field} (ht : P.underlying t = some (.struct fs)) {α : Type} {pic : α → List AV} {ok : α → Prop} (F : OpensF enc P μ B fs.toList pic ok) (hl : lay P fs.toList 0 = some (P.cellsOf t)) : Opens enc P μ B t pic ok := by
  intro w n cs x h hp hb
  obtain ⟨xs, n', hxs, hx, hlen⟩ : ∃ xs n', fs.toList.mapM (fun f => DataW.trod enc P w 0 (fun _ => true) true n' f.type ((cs.drop f.offset).take (P.cellsOf f.type))) = some xs ∧ x = (.agg (xs.map (·.1)), xs.flatMap (·.2)) ∧ cs.length = P.cellsOf t := by
    obtain ⟨xs, n', _, hx, hl', hlen, hf⟩ := DataW.trod_struct ht h
    exact ⟨xs, n', mapM_get (by simpa using hlen) (fun i f hif => hf i f (by simpa using hif)), hx, hl'⟩
  obtain ⟨a, h1, h2⟩ := F w n' cs xs hxs (by rw [hx] at hp; exact hp) (fun y hy => by
    rw [hx] at hb
    exact Nat.le_trans (U.mem (List.mem_map.2 ⟨y, hy, rfl⟩)) (Nat.le_trans (U.agg _) hb))
  refine ⟨a, h1, ?_⟩
  rw [lay_flat cs hl (by omega)] at h2
  simpa [← hlen] using h2
theorem open_arg {t : TypeId} {fs : Array Field} (ht : P.underlying t = some (.struct fs)) {α : Type} {pic : α → List AV} {ok : α → Prop} (O : Opens enc P μ B t pic ok) {w : World} {r : Reach} {b0 : Nat} {v : Value} {d : DataW H} {ps : List MemPlace}
    (hv : Value.okWide P w r b0 t v) (h : DataW.Trod enc P w 0 (fun _ => true) true t v d ps) (hp : ∀ p ∈ ps, p.block < w.heap.size) (hb : μ d ≤ B) : ∃ a, ok a ∧ VR (old w) [] w (.agg (pic a)) v := by
  obtain ⟨cs, rfl, _⟩ := okWide_struct ht hv
  obtain ⟨n, hn⟩ := h
  obtain ⟨a, h1, h2⟩ := O w n _ _ hn hp hb
  refine ⟨a, h1, .agg _ _ (by simpa [Value.cells] using h2.1) fun i c hi => ?_⟩
  obtain ⟨u, hu, hr⟩ := h2.2 i c hi
  have hu' : cs[i]? = some u := by simpa [Value.cells] using hu
  rw [Array.getD_eq_getD_getElem?, hu']
  exact hr
end
end Go.Rv
namespace Go.Rv
theorem bind_left {α β : Type} {x y : Option α} (h : x = y) (f : α → Option β) : x.bind f = y.bind f := by rw [h]
section
variable (h X : Heap) (k g : Nat)
theorem obj_app : Heap.obj (h ++ X) (h.length + k) g = Heap.obj X k g := by
  unfold Heap.obj
  rw [List.getElem?_append_right (by omega), Nat.add_sub_cancel_left]
theorem obj_app0 : Heap.obj (h ++ X) h.length g = Heap.obj X 0 g := obj_app h X 0 g
theorem live_app : Heap.live (h ++ X) (h.length + k) g = Heap.live X k g := by unfold Heap.live; rw [obj_app]
theorem live_app0 : Heap.live (h ++ X) h.length g = Heap.live X 0 g := live_app h X 0 g
theorem set_app (y : AObj) : (h ++ X).set (h.length + k) y = h ++ X.set k y := by
  rw [List.set_append_right _ _ (by omega), Nat.add_sub_cancel_left]
theorem set_app0 (y : AObj) : (h ++ X).set h.length y = h ++ X.set 0 y := set_app h X 0 y
theorem obj_zero (cs : List AV) (r : Heap) : Heap.obj (.cells cs g :: r) 0 g = some cs := by simp [Heap.obj]
theorem obj_succ (x : AObj) (r : Heap) : Heap.obj (x :: r) (k + 1) g = Heap.obj r k g := by simp [Heap.obj]
theorem live_zero (cs : List AV) (r : Heap) : Heap.live (.cells cs g :: r) 0 g = true := by simp [Heap.live, obj_zero]
theorem live_succ (x : AObj) (r : Heap) : Heap.live (x :: r) (k + 1) g = Heap.live r k g := by simp [Heap.live, obj_succ]
end
section
variable {C : Cfg} (f : Nat) (h X : Heap) (hp : C.pure f = true)
include hp
end
def AV.dead : AV → Bool
  | .bool _ | .int .. | .str _ | .nilPtr | .nilMap | .nilFunc | .nilIface | .junk => true
  | _ => false
theorem freeze_dead (h : Heap) (n d : Nat) {v : AV} (hv : v.dead = true) : freezeV h n (d + 1) v = some v := by
  cases v <;> simp only [AV.dead, Bool.false_eq_true] at hv <;> rfl
theorem freeze_deads (h : Heap) (n d : Nat) : ∀ {l : List AV}, l.all AV.dead = true → mapO (freezeV h n (d + 1)) l = some l
  | [], _ => rfl
  | v :: r, hv => by
    simp only [List.all_cons, Bool.and_eq_true] at hv
    simp only [mapO, freeze_dead h n d hv.1, freeze_deads h n d hv.2]
    rfl
def known : AV → Option AV
  | .junk => none
  | v => some v
theorem evalA_tmp {C : Cfg} (e : Env) (t : Nat) : evalA C e (.tmp t) = known (e.get t) := rfl
theorem evalA_int {C : Cfg} (e : Env) (k : IntKind) (n : Int) : evalA C e (.const (.int k n)) = some (.int k n) := rfl
theorem evalA_bool {C : Cfg} (e : Env) (b : Bool) : evalA C e (.const (.bool b)) = some (.bool b) := rfl
theorem evalA_func {C : Cfg} (e : Env) (g : Nat) : evalA C e (.func g) = some (.clo g []) := rfl
theorem known_int (k : IntKind) (n : Int) : known (.int k n) = some (.int k n) := rfl
theorem known_bool (b : Bool) : known (.bool b) = some (.bool b) := rfl
theorem known_str (b : List UInt8) : known (.str b) = some (.str b) := rfl
theorem known_ptr (o off g : Nat) : known (.ptr o off g) = some (.ptr o off g) := rfl
theorem known_ref (cs : List AV) : known (.ref cs) = some (.ref cs) := rfl
theorem known_agg (cs : List AV) : known (.agg cs) = some (.agg cs) := rfl
theorem known_tup (cs : List AV) : known (.tup cs) = some (.tup cs) := rfl
theorem known_lst (cs : List AV) (z : Nat) (r : Room) : known (.lst cs z r) = some (.lst cs z r) := rfl
theorem known_msl (o off len z g : Nat) (c : Option Nat) : known (.msl o off len z g c) = some (.msl o off len z g c) := rfl
theorem known_clo (g : Nat) (cs : List AV) : known (.clo g cs) = some (.clo g cs) := rfl
theorem cells_int (k : IntKind) (n : Int) : AV.cells (.int k n) = [.int k n] := rfl
theorem cells_bool (b : Bool) : AV.cells (.bool b) = [.bool b] := rfl
theorem cells_str (b : List UInt8) : AV.cells (.str b) = [.str b] := rfl
theorem cells_ptr (o off g : Nat) : AV.cells (.ptr o off g) = [.ptr o off g] := rfl
theorem cells_ref (cs : List AV) : AV.cells (.ref cs) = [.ref cs] := rfl
theorem cells_agg (cs : List AV) : AV.cells (.agg cs) = cs := rfl
theorem cells_lst (cs : List AV) (z : Nat) (r : Room) : AV.cells (.lst cs z r) = [.lst cs z r] := rfl
theorem leaf_int (k : IntKind) (n : Int) : AV.leaf (.int k n) = true := rfl
theorem leaf_bool (b : Bool) : AV.leaf (.bool b) = true := rfl
theorem leaf_str (b : List UInt8) : AV.leaf (.str b) = true := rfl
theorem leaf_lst (cs : List AV) (z : Nat) (r : Room) : AV.leaf (.lst cs z r) = true := rfl
theorem one_int (k : IntKind) (n : Int) : one (.int k n) = .int k n := rfl
theorem one_bool (b : Bool) : one (.bool b) = .bool b := rfl
theorem one_str (b : List UInt8) : one (.str b) = .str b := rfl
theorem isRef_ref (cs : List AV) : AV.isRef (.ref cs) = true := rfl
theorem putAt_some (e : Env) (d : Nat) (v : AV) : e.putAt (some d) v = e.put d v := rfl
theorem putAt_none (e : Env) (v : AV) : e.putAt none v = e := rfl
theorem binA_int {C : Cfg} (h : Heap) (op : BinOp) (t : Nat) (k : IntKind) (a b : Int) : binA C h op t (.int k a) (.int k b) = arithA op k a b := by simp [binA]
def pickA (c : AV) (x y : Option AV) : Option AV := match c with
  | .bool true => x
  | .bool false => y
  | _ => none
theorem pick_true (x y : Option AV) : pickA (.bool true) x y = x := rfl
theorem pick_false (x y : Option AV) : pickA (.bool false) x y = y := rfl
noncomputable def partsA (C : Cfg) (e : Env) (l : List (Nat × Operand)) : Option (List (Nat × AV)) := mapO (fun (p : Nat × Operand) => (evalA C e p.2).map (p.1, ·)) l
theorem parts_eq (C : Cfg) (e : Env) (l : List (Nat × Operand)) : mapO (fun (p : Nat × Operand) => (evalA C e p.2).map (p.1, ·)) l = partsA C e l := rfl
theorem parts_nil (C : Cfg) (e : Env) : partsA C e [] = some [] := rfl
theorem parts_cons (C : Cfg) (e : Env) (i : Nat) (x : Operand) (r : List (Nat × Operand)) : partsA C e ((i, x) :: r) = (evalA C e x).bind fun v => (partsA C e r).bind fun l => some ((i, v) :: l) := by
  unfold partsA
  simp only [mapO, Option.bind_eq_bind]
  cases evalA C e x <;> rfl
section
variable {C : Cfg} [Tight C] {f : Nat} {os : Array Oper} {d : Option Nat} {ty : TypeId} {ps : String} {af : Array Edge} {r : List Oper} {e : Env} {h : Heap}
def guardK {α : Type} (v : AV) (w : Bool) (x y : Option α) : Option α := match v with
  | .bool b => if b == w then x else y
  | .tup [] => y
  | _ => none
theorem guardK_left {α : Type} {a b : AV} (h : a = b) (w : Bool) (x y : Option α) : guardK a w x y = guardK b w x y := by rw [h]
end
end Go.Rv
namespace Go.Rv
class TightD (C : Cfg) (f : Nat) (d : Option Nat) : Prop where
  none : ∀ t, d = some t → C.loose f t = []
class NoAlone (C : Cfg) : Prop where
  alone : ∀ f, C.alone f = false
theorem looseAll_tightD {C : Cfg} {f : Nat} {d : Option Nat} [T : TightD C f d] (os : Array Oper) (e : Env) (h : Heap) : looseAll C f os d e h = true := by
  cases hd : d with
  | none => rfl
  | some t => simp only [looseAll, T.none t hd, List.all_nil]
theorem sx_cons {C : Cfg} {f : Nat} {e : Env} {h : Heap} (os : Array Oper) (o : Oper) [TightD C f (dkey o)] (r : List Oper) : ops C f os (o :: r) e h = (wantA os e o).bind fun w => match w with
    | false => ops C f os r (e.putAt o.dst (.tup [])) h
    | true => match callee o with
      | none => match panO C e o with
        | some v => some (.pan v, e, h)
        | none => (opA C f e h o).bind fun x => ops C f os r (e.putAt o.dst x.1) x.2
      | some ga => (mapO (evalA C e) ga.2.toList).bind fun vs => (evalA C e ga.1).bind fun gv =>
        if (o.dst.map (C.quiet f)).getD false && !pureV C gv then none else (callv C gv vs h).bind fun x => match x.1 with
          | .ret v => ops C f os r (e.putAt o.dst v) x.2
          | .pan v => some (.pan v, e, x.2) := by
  rw [ops_cons]
  simp only [looseAll_tightD, if_true]
  rfl
theorem call_at {C : Cfg} {f : Nat} {h : Heap} (args : List AV) (fi : FI) (hp : C.prim f = none) (hf : C.fn f = some fi) (hl : (args.length != fi.params) = false) [T : NoAlone C] :
    call C f args h = (exec C f fi.body (args.zipIdx.map fun (v, i) => (i, v)) h).bind fun x => match x.1 with
      | .nrm | .ret => (resultsA C x.2.2 x.2.1 fi.results).bind fun vs => leaveA C f h (packA vs) x.2.2
      | .pan v => some (.pan v, x.2.2)
      | .exit _ => none := by
  apply ext_some
  intro r
  rw [call_succ]
  simp only [callF, hp, hf, Option.bind_eq_bind, Option.bind_some, hl, Bool.false_eq_true, if_false, T.alone]
  constructor
  · rintro ⟨k, hk⟩
    obtain ⟨⟨out, e1, h1⟩, hx, hr⟩ := Option.bind_eq_some_iff.1 hk
    exact Option.bind_eq_some_iff.2 ⟨_, (exec_iff C).2 ⟨k, hx⟩, by cases out <;> exact hr⟩
  · intro hk
    obtain ⟨⟨out, e1, h1⟩, hx, hr⟩ := Option.bind_eq_some_iff.1 hk
    obtain ⟨k, hk⟩ := (exec_iff C).1 hx
    exact ⟨k, Option.bind_eq_some_iff.2 ⟨_, hk, by cases out <;> exact hr⟩⟩
section
variable {C : Cfg} {f : Nat} {os : Array Oper} {d : Option Nat} [TightD C f d] {ty : TypeId} {ps : String} {af : Array Edge} {r : List Oper} {e : Env} {h : Heap}
theorem sx_plain {o : Oper} [TightD C f (dkey o)] (hw : o.guard = none) (hc : callee o = none) (hp : panO C e o = none := by rfl) : ops C f os (o :: r) e h = (opA C f e h o).bind fun x => ops C f os r (e.putAt o.dst x.1) x.2 := by
  rw [sx_cons]
  have : wantA os e o = some true := by unfold wantA; rw [hw]
  rw [this, hc, Option.bind_some]
  simp only [hp]
theorem sx_move (x : Operand) : ops C f os (⟨d, .move x, ty, ps, af, none⟩ :: r) e h = (evalA C e x).bind fun v => ops C f os r (e.putAt d v) h := by
  rw [sx_plain rfl rfl]
  simp only [opA, Option.bind_eq_bind, Option.bind_assoc, Option.bind_some]
theorem sx_assign (x : Operand) : ops C f os (⟨d, .assign x, ty, ps, af, none⟩ :: r) e h = (evalA C e x).bind fun v => ops C f os r (e.putAt d v) h := by
  rw [sx_plain rfl rfl]
  simp only [opA, Option.bind_eq_bind, Option.bind_assoc, Option.bind_some]
theorem sx_load (t : TypeId) (x : Operand) : ops C f os (⟨d, .load t x, ty, ps, af, none⟩ :: r) e h = (evalA C e x).bind fun x => if (d.map (C.quiet f)).getD false && !x.isRef then none else (loadA C h t x).bind fun v => ops C f os r (e.putAt d v) h := by
  rw [sx_plain rfl rfl]
  simp only [opA, Option.bind_eq_bind, Option.bind_assoc]
  cases evalA C e x <;> simp only [Option.bind_none, Option.bind_some]
  split
  · rfl
  · simp only [Option.bind_assoc, Option.bind_some]
omit [TightD C f d] in
theorem sx_store (t : TypeId) (x y : Operand) [TightD C f (dkeyO d (.store t x y))] : ops C f os (⟨d, .store t x y, ty, ps, af, none⟩ :: r) e h = (evalA C e x).bind fun x => (evalA C e y).bind fun y => (storeA C h t x y).bind fun h => ops C f os r (e.putAt d (.tup [])) h := by
  rw [sx_plain rfl rfl]
  simp only [opA, Option.bind_eq_bind, Option.bind_assoc, Option.bind_some]
theorem sx_bin (b : BinOp) (t t' : TypeId) (x y : Operand) (hy : nilI y = false) : ops C f os (⟨d, .binOp b t x y t', ty, ps, af, none⟩ :: r) e h = (evalA C e x).bind fun x => (evalA C e y).bind fun y => (binA C h b t x y).bind fun v => ops C f os r (e.putAt d v) h := by
  rw [sx_plain rfl rfl]
  simp only [opA, hy, Bool.false_eq_true, if_false, Option.bind_eq_bind, Option.bind_assoc, Option.bind_some]
theorem sx_bin_t (b : BinOp) (t t' : TypeId) (x : Operand) (q : Nat) : ops C f os (⟨d, .binOp b t x (.tmp q) t', ty, ps, af, none⟩ :: r) e h = (evalA C e x).bind fun x => (evalA C e (.tmp q)).bind fun y => (binA C h b t x y).bind fun v => ops C f os r (e.putAt d v) h := sx_bin b t t' x _ rfl
theorem sx_bin_i (b : BinOp) (t t' : TypeId) (x : Operand) (q1 : IntKind) (q2 : Int) : ops C f os (⟨d, .binOp b t x (.const (.int q1 q2)) t', ty, ps, af, none⟩ :: r) e h = (evalA C e x).bind fun x => (evalA C e (.const (.int q1 q2))).bind fun y => (binA C h b t x y).bind fun v => ops C f os r (e.putAt d v) h := sx_bin b t t' x _ rfl
theorem sx_bin_b (b : BinOp) (t t' : TypeId) (x : Operand) (q : Bool) : ops C f os (⟨d, .binOp b t x (.const (.bool q)) t', ty, ps, af, none⟩ :: r) e h = (evalA C e x).bind fun x => (evalA C e (.const (.bool q))).bind fun y => (binA C h b t x y).bind fun v => ops C f os r (e.putAt d v) h := sx_bin b t t' x _ rfl
theorem sx_bin_s (b : BinOp) (t t' : TypeId) (x : Operand) (q : ByteArray) : ops C f os (⟨d, .binOp b t x (.const (.string q)) t', ty, ps, af, none⟩ :: r) e h = (evalA C e x).bind fun x => (evalA C e (.const (.string q))).bind fun y => (binA C h b t x y).bind fun v => ops C f os r (e.putAt d v) h := sx_bin b t t' x _ rfl
theorem sx_bin_l (b : BinOp) (t t' : TypeId) (x : Operand) (q1 : Option Addr) (q2 q3 : Nat) : ops C f os (⟨d, .binOp b t x (.const (.slice q1 q2 q3)) t', ty, ps, af, none⟩ :: r) e h = (evalA C e x).bind fun x => (evalA C e (.const (.slice q1 q2 q3))).bind fun y => (binA C h b t x y).bind fun v => ops C f os r (e.putAt d v) h := sx_bin b t t' x _ rfl
theorem sx_bin_p (b : BinOp) (t t' : TypeId) (x : Operand) (q : Option Addr) : ops C f os (⟨d, .binOp b t x (.const (.pointer q)) t', ty, ps, af, none⟩ :: r) e h = (evalA C e x).bind fun x => (evalA C e (.const (.pointer q))).bind fun y => (binA C h b t x y).bind fun v => ops C f os r (e.putAt d v) h := sx_bin b t t' x _ rfl
theorem sx_bin_m (b : BinOp) (t t' : TypeId) (x : Operand) (q : Option Nat) : ops C f os (⟨d, .binOp b t x (.const (.map q)) t', ty, ps, af, none⟩ :: r) e h = (evalA C e x).bind fun x => (evalA C e (.const (.map q))).bind fun y => (binA C h b t x y).bind fun v => ops C f os r (e.putAt d v) h := sx_bin b t t' x _ rfl
theorem sx_bin_f (b : BinOp) (t t' : TypeId) (x : Operand)  : ops C f os (⟨d, .binOp b t x (.const .nilFunc) t', ty, ps, af, none⟩ :: r) e h = (evalA C e x).bind fun x => (evalA C e (.const .nilFunc)).bind fun y => (binA C h b t x y).bind fun v => ops C f os r (e.putAt d v) h := sx_bin b t t' x _ rfl
theorem sx_un (b : UnOp) (t : TypeId) (x : Operand) : ops C f os (⟨d, .unOp b t x, ty, ps, af, none⟩ :: r) e h = (evalA C e x).bind fun x => (unA b x).bind fun v => ops C f os r (e.putAt d v) h := by
  rw [sx_plain rfl rfl]
  simp only [opA, Option.bind_eq_bind, Option.bind_assoc, Option.bind_some]
theorem sx_conv (a b : Nat) (x : Operand) : ops C f os (⟨d, .convert a b x, ty, ps, af, none⟩ :: r) e h = (evalA C e x).bind fun v => (convH C h a b v).bind fun z => ops C f os r (e.putAt d z) h := by
  rw [sx_plain rfl rfl]
  simp only [opA, Option.bind_eq_bind, Option.bind_assoc, Option.bind_some]
theorem sx_fieldAddr (t : TypeId) (x : Operand) (k : Nat) : ops C f os (⟨d, .fieldAddr t x k, ty, ps, af, none⟩ :: r) e h = (evalA C e x).bind fun x => (fieldAddrA C h t x k).bind fun v => ops C f os r (e.putAt d v) h := by
  rw [sx_plain rfl rfl]
  simp only [opA, Option.bind_eq_bind, Option.bind_assoc, Option.bind_some]
theorem sx_field (t : TypeId) (x : Operand) (k : Nat) : ops C f os (⟨d, .field t x k, ty, ps, af, none⟩ :: r) e h = (evalA C e x).bind fun x => (fieldA C t x k).bind fun v => ops C f os r (e.putAt d v) h := by
  rw [sx_plain rfl rfl]
  simp only [opA, Option.bind_eq_bind, Option.bind_assoc, Option.bind_some]
theorem sx_indexAddr (t : TypeId) (x y : Operand) : ops C f os (⟨d, .indexAddr t x y, ty, ps, af, none⟩ :: r) e h = (evalA C e x).bind fun x => (evalA C e y).bind fun y => (indexAddrA C h t x y).bind fun v => ops C f os r (e.putAt d v) h := by
  rw [sx_plain rfl rfl]
  simp only [opA, Option.bind_eq_bind, Option.bind_assoc, Option.bind_some]
theorem sx_index (t : TypeId) (x y : Operand) : ops C f os (⟨d, .index t x y, ty, ps, af, none⟩ :: r) e h = (evalA C e x).bind fun x => (evalA C e y).bind fun y => (indexA C t x y).bind fun v => ops C f os r (e.putAt d v) h := by
  rw [sx_plain rfl rfl]
  simp only [opA, Option.bind_eq_bind, Option.bind_assoc, Option.bind_some]
theorem sx_alloc (t : TypeId) : ops C f os (⟨d, .alloc t, ty, ps, af, none⟩ :: r) e h = (C.ty t).bind fun ti => if ti.zero.length == ti.size then ops C f os r (e.putAt d (.ptr h.length 0 0)) (h ++ [.cells ti.zero 0]) else none := by
  rw [sx_plain rfl rfl]
  simp only [opA, Option.bind_eq_bind, Option.bind_assoc]
  cases C.ty t <;> simp only [Option.bind_none, Option.bind_some]
  split <;> rfl
theorem sx_box (t : TypeId) (x : Operand) : ops C f os (⟨d, .box t x, ty, ps, af, none⟩ :: r) e h = (C.ty t).bind fun ti => (evalA C e x).bind fun v => if v.cells.length == ti.size then (if (d.map (C.imm f)).getD false then ops C f os r (e.putAt d (.ref v.cells)) h else ops C f os r (e.putAt d (.ptr h.length 0 0)) (h ++ [.cells v.cells 0])) else none := by
  rw [sx_plain rfl rfl]
  simp only [opA, Option.bind_eq_bind, Option.bind_assoc]
  cases C.ty t <;> simp only [Option.bind_none, Option.bind_some]
  cases evalA C e x <;> simp only [Option.bind_none, Option.bind_some]
  split
  · split <;> rfl
  · rfl
theorem sx_pick (c x y : Operand) : ops C f os (⟨d, .pick c x y, ty, ps, af, none⟩ :: r) e h = (evalA C e c).bind fun c => (pickA c (evalA C e x) (evalA C e y)).bind fun v => ops C f os r (e.putAt d v) h := by
  rw [sx_plain rfl rfl]
  simp only [opA, Option.bind_eq_bind, Option.bind_assoc]
  cases evalA C e c <;> simp only [Option.bind_none, Option.bind_some]
  rename_i v
  unfold pickA
  split <;> simp only [Option.bind_none, Option.bind_some, Option.bind_assoc]
theorem sx_build (t : TypeId) (qs : Array (Nat × Operand)) : ops C f os (⟨d, .build t qs, ty, ps, af, none⟩ :: r) e h = (partsA C e qs.toList).bind fun ps => (buildA C t ps).bind fun v => ops C f os r (e.putAt d v) h := by
  rw [sx_plain rfl rfl]
  simp only [opA, parts_eq, Option.bind_eq_bind, Option.bind_assoc, Option.bind_some]
theorem sx_buildSlice (t n : TypeId) (qs : Array (Nat × Operand)) : ops C f os (⟨d, .buildSlice t n qs, ty, ps, af, none⟩ :: r) e h = (partsA C e qs.toList).bind fun ps => (C.ty t).bind fun ti => match ti.td with
    | .slice el => (C.ty el).bind fun ti => if ti.zero.length != ti.size || decide (n * ti.size > 16777216) then none else
      (fillA (fun i => some (i * ti.size, ti.size)) (copies n ti.zero) ps).bind fun cs => if (d.map (C.imm f)).getD false then ops C f os r (e.putAt d (.lst (group n cs ti.size) ti.size (.exact n))) h else ops C f os r (e.putAt d (.msl h.length 0 n ti.size 0 (some n))) (h ++ [.cells cs 0])
    | _ => none := by
  rw [sx_plain rfl rfl]
  simp only [opA, parts_eq, Option.bind_eq_bind, Option.bind_assoc]
  cases partsA C e qs.toList <;> simp only [Option.bind_none, Option.bind_some]
  cases C.ty t <;> simp only [Option.bind_none, Option.bind_some]
  rename_i ti
  cases ti.td <;> simp only [Option.bind_none]
  rename_i el
  cases C.ty el <;> simp only [Option.bind_none, Option.bind_some]
  split
  · rfl
  · simp only [Option.bind_assoc]
    congr 1
    funext cs
    split <;> rfl
theorem sx_len (x : Operand) (t : TypeId) : ops C f os (⟨d, .call { callee := .builtin .len, args := #[x], argTypes := #[t] }, ty, ps, af, none⟩ :: r) e h = (evalA C e x).bind fun x => (C.ty t).bind fun ti => (lenA h ti.td x).bind fun n => ops C f os r (e.putAt d (.int .i64 n)) h := by
  rw [sx_plain rfl rfl]
  simp [opA, mapO, Option.bind_eq_bind, Option.bind_assoc, Option.bind_some]
theorem sx_slice (t : TypeId) (x : Operand) (lo hi : Option Operand) : ops C f os (⟨d, .slice t x lo hi none, ty, ps, af, none⟩ :: r) e h = (optA C e lo).bind fun lo => (optA C e hi).bind fun hi => (evalA C e x).bind fun x => (sliceA C h t x lo hi none).bind fun v => ops C f os r (e.putAt d v) h := by
  rw [sx_plain rfl rfl]
  simp [opA, Option.bind_eq_bind, Option.bind_assoc, Option.bind_some]
theorem sx_callf (g : Nat) (args : Array Operand) (ct : Array TypeId) : ops C f os (⟨d, .call { callee := .value (.func g), args := args, argTypes := ct }, ty, ps, af, none⟩ :: r) e h = (mapO (evalA C e) args.toList).bind fun vs => if (d.map (C.quiet f)).getD false && !C.pure g then none else (call C g vs h).bind fun x => match x.1 with
    | .ret v => ops C f os r (e.putAt d v) x.2
    | .pan v => some (.pan v, e, x.2) := by
  rw [sx_cons]
  simp only [wantA, callee, Option.bind_some, evalA, callv_clo, pureV, List.append_nil]
theorem sx_guard (o : Op) [TightD C f (dkeyO d o)] (g : Nat × Bool) : ops C f os (⟨d, o, ty, ps, af, some g⟩ :: r) e h = (wantA os e ⟨d, o, ty, ps, af, some g⟩).bind fun w => match w with
    | false => ops C f os r (e.putAt d (.tup [])) h
    | true => ops C f os (⟨d, o, ty, ps, af, none⟩ :: r) e h := by
  rw [sx_cons]
  cases wantA os e ⟨d, o, ty, ps, af, some g⟩ with
  | none => rfl
  | some w =>
    cases w
    · rfl
    · simp only [Option.bind_some]
      rw [sx_cons]
      rfl
theorem sx_guardT {j t : Nat} (g : (os[j]?).bind (·.dst) = some t) (o : Op) [TightD C f (dkeyO d o)] (w : Bool) : ops C f os (⟨d, o, ty, ps, af, some (j, w)⟩ :: r) e h = guardK (e.get t) w (ops C f os (⟨d, o, ty, ps, af, none⟩ :: r) e h) (ops C f os r (e.putAt d (.tup [])) h) := by
  rw [sx_guard]
  simp only [wantA, g, Option.map_some]
  generalize e.get t = v
  unfold guardK
  cases v <;> try rfl
  · rename_i b
    simp only [Option.bind_some]
    cases b <;> cases w <;> rfl
  · rename_i vs
    cases vs <;> rfl
noncomputable def guardO (C : Cfg) (f : Nat) (os : Array Oper) (o : Oper) (r : List Oper) (v : AV) (w : Bool) (e : Env) (h : Heap) : Option (Out × Env × Heap) := guardK v w (ops C f os (o :: r) e h) (ops C f os r (e.putAt o.dst (.tup [])) h)
theorem sx_guardO {j t : Nat} (g : (os[j]?).bind (·.dst) = some t) (o : Op) [TightD C f (dkeyO d o)] (w : Bool) : ops C f os (⟨d, o, ty, ps, af, some (j, w)⟩ :: r) e h = guardO C f os ⟨d, o, ty, ps, af, none⟩ r (e.get t) w e h := sx_guardT g o w
omit [TightD C f d] in
theorem go_tt (o : Op) : guardO C f os ⟨d, o, ty, ps, af, none⟩ r (.bool true) true e h = ops C f os (⟨d, o, ty, ps, af, none⟩ :: r) e h := rfl
omit [TightD C f d] in
theorem go_ff (o : Op) : guardO C f os ⟨d, o, ty, ps, af, none⟩ r (.bool false) false e h = ops C f os (⟨d, o, ty, ps, af, none⟩ :: r) e h := rfl
omit [TightD C f d] in
theorem go_tf (o : Op) : guardO C f os ⟨d, o, ty, ps, af, none⟩ r (.bool true) false e h = ops C f os r (e.putAt d (.tup [])) h := rfl
omit [TightD C f d] in
theorem go_ft (o : Op) : guardO C f os ⟨d, o, ty, ps, af, none⟩ r (.bool false) true e h = ops C f os r (e.putAt d (.tup [])) h := rfl
omit [TightD C f d] in
theorem go_tup (o : Op) (w : Bool) : guardO C f os ⟨d, o, ty, ps, af, none⟩ r (.tup []) w e h = ops C f os r (e.putAt d (.tup [])) h := rfl
theorem sx_makeFunc (g : Nat) (caps : Array Operand) : ops C f os (⟨d, .makeFunc (.func g) #[] caps, ty, ps, af, none⟩ :: r) e h = (mapO (evalA C e) caps.toList).bind fun cs => ops C f os r (e.putAt d (.clo g cs)) h := by
  rw [sx_plain rfl rfl]
  simp [opA, Option.bind_eq_bind, Option.bind_assoc, Option.bind_some]
theorem sx_makeSlice (t : TypeId) (x y : Operand) : ops C f os (⟨d, .makeSlice t x y, ty, ps, af, none⟩ :: r) e h = (evalA C e x).bind fun x => (evalA C e y).bind fun y => (makeSliceA C h t x y).bind fun v => ops C f os r (e.putAt d v.1) v.2 := by
  rw [sx_plain rfl rfl]
  simp only [opA, Option.bind_eq_bind, Option.bind_assoc]
theorem sx_makeMap (t : TypeId) : ops C f os (⟨d, .makeMap t none, ty, ps, af, none⟩ :: r) e h = (C.ty t).bind fun _ => ops C f os r (e.putAt d (.map h.length)) (h ++ [.map []]) := by
  rw [sx_plain rfl rfl]
  simp only [opA, Option.bind_eq_bind, Option.bind_assoc, Option.bind_some]
theorem sx_lookup (t : TypeId) (x y : Operand) (ok : Bool) : ops C f os (⟨d, .lookup t x y ok, ty, ps, af, none⟩ :: r) e h = (evalA C e x).bind fun x => (evalA C e y).bind fun y => (lookupA C h t x y ok).bind fun v => ops C f os r (e.putAt d v) h := by
  rw [sx_plain rfl rfl]
  simp only [opA, Option.bind_eq_bind, Option.bind_assoc, Option.bind_some]
omit [TightD C f d] in
theorem sx_mapUpdate (t : TypeId) (x y z : Operand) [TightD C f (dkeyO d (.mapUpdate t x y z))] : ops C f os (⟨d, .mapUpdate t x y z, ty, ps, af, none⟩ :: r) e h = (evalA C e x).bind fun x => (evalA C e y).bind fun y => (evalA C e z).bind fun z => (updateA C h t x y z).bind fun h => ops C f os r (e.putAt d (.tup [])) h := by
  rw [sx_plain rfl rfl]
  simp only [opA, Option.bind_eq_bind, Option.bind_assoc, Option.bind_some]
theorem sx_insert (t : TypeId) (x y z : Operand) : ops C f os (⟨d, .insert t x y z, ty, ps, af, none⟩ :: r) e h = (evalA C e x).bind fun x => (evalA C e y).bind fun y => (evalA C e z).bind fun z => (updateA C h t x y z).bind fun h => ops C f os r (e.putAt d (.tup [])) h := by
  rw [sx_plain rfl rfl]
  simp only [opA, Option.bind_eq_bind, Option.bind_assoc, Option.bind_some]
theorem sx_nilCheck (x : Operand) : ops C f os (⟨d, .nilCheck x, ty, ps, af, none⟩ :: r) e h = (evalA C e x).bind fun x => match x with
    | .ptr o off g => if h.live o g then ops C f os r (e.putAt d (.ptr o off g)) h else none
    | .ref cs => ops C f os r (e.putAt d (.ref cs)) h
    | .clo g cs => ops C f os r (e.putAt d (.clo g cs)) h
    | .bnd g cs => ops C f os r (e.putAt d (.bnd g cs)) h
    | .yld l => ops C f os r (e.putAt d (.yld l)) h
    | _ => none := by
  rw [sx_plain rfl rfl]
  simp only [opA, Option.bind_eq_bind, Option.bind_assoc]
  congr 1
  funext v
  cases v <;> simp only [Option.bind_some, Option.bind_none]
  split <;> rfl
theorem sx_iface (t : TypeId) (x : Operand) : ops C f os (⟨d, .makeInterface t x, ty, ps, af, none⟩ :: r) e h = (C.ty t).bind fun ti => match ti.td with
    | .iface => none
    | _ => (evalA C e x).bind fun v => ops C f os r (e.putAt d (.iface t v)) h := by
  rw [sx_plain rfl rfl]
  simp only [opA, Option.bind_eq_bind, Option.bind_assoc]
  congr 1
  funext v
  cases v.td <;> simp only [Option.bind_some, Option.bind_none, Option.bind_assoc]
theorem sx_extract (x : Operand) (i : Nat) : ops C f os (⟨d, .extract x i, ty, ps, af, none⟩ :: r) e h = (evalA C e x).bind fun v => match v with
    | .tup vs => (vs[i]?).bind fun v => ops C f os r (e.putAt d v) h
    | _ => none := by
  rw [sx_plain rfl rfl]
  simp only [opA, Option.bind_eq_bind, Option.bind_assoc]
  congr 1
  funext v
  cases v <;> simp only [Option.bind_some, Option.bind_none, Option.bind_assoc]
theorem sx_append (x y : Operand) (t : TypeId) : ops C f os (⟨d, .call { callee := .builtin .append, args := #[x, y], argTypes := #[t, t] }, ty, ps, af, none⟩ :: r) e h = (evalA C e x).bind fun x => (evalA C e y).bind fun y => (C.ty t).bind fun ti => match ti.td with
    | .slice el => (C.ty el).bind fun te => (elems h y).bind fun ys => (appendA h te.size x ys).bind fun v => ops C f os r (e.putAt d v.1) v.2
    | _ => none := by
  rw [sx_plain rfl rfl]
  simp only [opA, mapO, Option.bind_eq_bind, Option.bind_assoc, Option.bind_some, bne_self_eq_false, Bool.false_eq_true, if_false]
  congr 1
  funext x
  congr 1
  funext y
  congr 1
  funext ti
  cases ti.td <;> simp only [Option.bind_none, Option.bind_assoc]
theorem sx_cap (x : Operand) (t : TypeId) : ops C f os (⟨d, .call { callee := .builtin .cap, args := #[x], argTypes := #[t] }, ty, ps, af, none⟩ :: r) e h = (evalA C e x).bind fun x => (moreA C h .cap [t] [x]).bind fun v => ops C f os r (e.putAt d v.1) v.2 := by
  rw [sx_plain rfl rfl]
  simp [opA, mapO, Option.bind_eq_bind, Option.bind_assoc, Option.bind_some]
theorem sx_clear (x : Operand) (t : TypeId) : ops C f os (⟨d, .call { callee := .builtin .clear, args := #[x], argTypes := #[t] }, ty, ps, af, none⟩ :: r) e h = (evalA C e x).bind fun x => (moreA C h .clear [t] [x]).bind fun v => ops C f os r (e.putAt d v.1) v.2 := by
  rw [sx_plain rfl rfl]
  simp [opA, mapO, Option.bind_eq_bind, Option.bind_assoc, Option.bind_some]
theorem sx_copy (x y : Operand) (t u : TypeId) : ops C f os (⟨d, .call { callee := .builtin .copy, args := #[x, y], argTypes := #[t, u] }, ty, ps, af, none⟩ :: r) e h = (evalA C e x).bind fun x => (evalA C e y).bind fun y => (moreA C h .copy [t, u] [x, y]).bind fun v => ops C f os r (e.putAt d v.1) v.2 := by
  rw [sx_plain rfl rfl]
  simp [opA, mapO, Option.bind_eq_bind, Option.bind_assoc, Option.bind_some]
theorem sx_delete (x y : Operand) (t u : TypeId) : ops C f os (⟨d, .call { callee := .builtin .delete, args := #[x, y], argTypes := #[t, u] }, ty, ps, af, none⟩ :: r) e h = (evalA C e x).bind fun x => (evalA C e y).bind fun y => (moreA C h .delete [t, u] [x, y]).bind fun v => ops C f os r (e.putAt d v.1) v.2 := by
  rw [sx_plain rfl rfl]
  simp [opA, mapO, Option.bind_eq_bind, Option.bind_assoc, Option.bind_some]
theorem sx_max (x y : Operand) (t u : TypeId) : ops C f os (⟨d, .call { callee := .builtin .max, args := #[x, y], argTypes := #[t, u] }, ty, ps, af, none⟩ :: r) e h = (evalA C e x).bind fun x => (evalA C e y).bind fun y => (moreA C h .max [t, u] [x, y]).bind fun v => ops C f os r (e.putAt d v.1) v.2 := by
  rw [sx_plain rfl rfl]
  simp [opA, mapO, Option.bind_eq_bind, Option.bind_assoc, Option.bind_some]
theorem sx_min (x y : Operand) (t u : TypeId) : ops C f os (⟨d, .call { callee := .builtin .min, args := #[x, y], argTypes := #[t, u] }, ty, ps, af, none⟩ :: r) e h = (evalA C e x).bind fun x => (evalA C e y).bind fun y => (moreA C h .min [t, u] [x, y]).bind fun v => ops C f os r (e.putAt d v.1) v.2 := by
  rw [sx_plain rfl rfl]
  simp [opA, mapO, Option.bind_eq_bind, Option.bind_assoc, Option.bind_some]
theorem sx_callt (g : Nat) (args : Array Operand) (ct : Array TypeId) : ops C f os (⟨d, .call { callee := .value (.tmp g), args := args, argTypes := ct }, ty, ps, af, none⟩ :: r) e h = (mapO (evalA C e) args.toList).bind fun vs => (known (e.get g)).bind fun gv => if (d.map (C.quiet f)).getD false && !pureV C gv then none else (callv C gv vs h).bind fun x => match x.1 with
    | .ret v => ops C f os r (e.putAt d v) x.2
    | .pan v => some (.pan v, e, x.2) := by
  rw [sx_cons]
  simp only [wantA, callee, Option.bind_some, evalA_tmp]
end
end Go.Rv
namespace Go.Rv
theorem get_hit (k : Nat) (v : AV) (r : Env) : Env.get ((k, v) :: r) k = v := by rw [Env.get_cons]; simp
noncomputable def codeAt : List Bool → Code → Code
  | [], c => c
  | false :: p, .seq a _ => codeAt p a
  | true :: p, .seq _ b => codeAt p b
  | false :: p, .cond _ a _ => codeAt p a
  | true :: p, .cond _ _ b => codeAt p b
  | _ :: p, .block _ a => codeAt p a
  | _ :: p, .loop a => codeAt p a
  | _ :: p, .scope a => codeAt p a
  | false :: p, .rangeFunc _ _ a _ => codeAt p a
  | true :: p, .rangeFunc _ _ _ b => codeAt p b
  | _, c => c
noncomputable def codeOps : Code → Array Oper
  | .region _ os _ => os
  | _ => #[]
theorem codeAt_nil (c : Code) : codeAt [] c = c := by simp [codeAt]
theorem codeAt_seq0 (p : List Bool) (a b : Code) : codeAt (false :: p) (.seq a b) = codeAt p a := rfl
theorem codeAt_seq1 (p : List Bool) (a b : Code) : codeAt (true :: p) (.seq a b) = codeAt p b := rfl
theorem codeAt_cond0 (p : List Bool) (x : Operand) (a b : Code) : codeAt (false :: p) (.cond x a b) = codeAt p a := rfl
theorem codeAt_cond1 (p : List Bool) (x : Operand) (a b : Code) : codeAt (true :: p) (.cond x a b) = codeAt p b := rfl
theorem codeAt_block (p : List Bool) (i : Nat) (a : Code) : codeAt (false :: p) (.block i a) = codeAt p a := rfl
theorem codeAt_loop (p : List Bool) (a : Code) : codeAt (false :: p) (.loop a) = codeAt p a := rfl
theorem codeAt_scope (p : List Bool) (a : Code) : codeAt (false :: p) (.scope a) = codeAt p a := rfl
theorem codeAt_range0 (p : List Bool) (x : Operand) (q : Array Tmp) (a b : Code) : codeAt (false :: p) (.rangeFunc x q a b) = codeAt p a := rfl
theorem codeAt_range1 (p : List Bool) (x : Operand) (q : Array Tmp) (a b : Code) : codeAt (true :: p) (.rangeFunc x q a b) = codeAt p b := rfl
theorem codeOps_region (i : Nat) (os : Array Oper) (d : Bool) : codeOps (.region i os d) = os := rfl
noncomputable def regEnd (C : Cfg) (f : Nat) (os : Array Oper) (id : Nat) (draw : Bool) (x : Out × Env × Heap) : Option (Out × Env × Heap) := match x.1 with
  | .nrm => some (.nrm, (match C.live f id with | some l => x.2.1.keep l | none => x.2.1), x.2.2)
  | .pan v => if draw then (if panOk os then some (.pan v, x.2.1.outside os, x.2.2) else none) else some x
  | _ => if draw then none else some x
theorem regEnd_nrm {C : Cfg} {f id : Nat} {os : Array Oper} {d : Bool} {e : Env} {h : Heap} {l : List Nat} (hl : C.live f id = some l) : regEnd C f os id d (.nrm, e, h) = some (.nrm, e.keep l, h) := by simp only [regEnd, hl]
theorem region_at (C : Cfg) (f id : Nat) (os : Array Oper) (d : Bool) (e : Env) (h : Heap) : exec C f (.region id os d) e h = (ops C f os (sched os d) e h).bind (regEnd C f os id d) := by
  rw [exec_region]
  cases ops C f os (sched os d) e h with
  | none => rfl
  | some x =>
    obtain ⟨o, e, h⟩ := x
    cases o <;> rfl
noncomputable def callEnd (C : Cfg) (f : Nat) (h : Heap) (rs : List ResultVar) (x : Out × Env × Heap) : Option (CRes × Heap) := match x.1 with
  | .nrm | .ret => (resultsA C x.2.2 x.2.1 rs).bind fun vs => leaveA C f h (packA vs) x.2.2
  | .pan v => some (.pan v, x.2.2)
  | .exit _ => none
theorem callEnd_ret {C : Cfg} {f : Nat} {h h' : Heap} {rs : List ResultVar} {e : Env} : callEnd C f h rs (.ret, e, h') = (resultsA C h' e rs).bind fun vs => leaveA C f h (packA vs) h' := rfl
theorem callEnd_nrm {C : Cfg} {f : Nat} {h h' : Heap} {rs : List ResultVar} {e : Env} : callEnd C f h rs (.nrm, e, h') = (resultsA C h' e rs).bind fun vs => leaveA C f h (packA vs) h' := rfl
abbrev tt : Bool := true
abbrev ff : Bool := false
noncomputable def cA (p : List Bool) (b : Option Code) : Array Oper := codeOps (codeAt p (b.getD .skip))
abbrev XR (C : Cfg) (f : Nat) (r : Code) (b : Array Oper) (row : List Oper) (i : Nat) (d : Bool) : Prop := ∀ (e : Env) (h : Heap), exec C f r e h = (ops C f b row e h).bind (regEnd C f b i d)
theorem xr {C : Cfg} {f i : Nat} {r : Code} {b a : Array Oper} (hr : r = .region i a false) (hb : b = a) : XR C f r b a.toList i false := fun e h => by
  subst hr hb; exact region_at _ _ _ _ _ _ _
theorem xd {C : Cfg} {f i : Nat} {r : Code} {b a : Array Oper} {row : List Oper} (hs : sched a true = row) (hr : r = .region i a true) (hb : b = a) : XR C f r b row i true := fun e h => by
  subst hr hb hs; exact region_at _ _ _ _ _ _ _
abbrev GO (C : Cfg) (f : Nat) (os : Array Oper) (j t : Nat) : Prop := ∀ (d : Option Nat) (o : Op) (ty : TypeId) (ps : String) (af : Array Edge) (r : List Oper) (e : Env) (h : Heap) (w : Bool) [TightD C f d] [TightD C f (dkeyO d o)], ops C f os (⟨d, o, ty, ps, af, some (j, w)⟩ :: r) e h = guardO C f os ⟨d, o, ty, ps, af, none⟩ r (e.get t) w e h
theorem gO {C : Cfg} {f : Nat} {os : Array Oper} {j t : Nat} (g : (os[j]?).bind (·.dst) = some t) : GO C f os j t := by
  intro d o ty ps af r e h w i1 i2
  exact sx_guardO g o w
abbrev RE (C : Cfg) (f : Nat) (l : List Nat) : Prop := ∀ (os : Array Oper) (i : Nat) (d : Bool) (e : Env) (h : Heap), regEnd C f os i d (.nrm, e, h) = some (.nrm, e.keep l, h)
theorem rE {C : Cfg} {f : Nat} {l : List Nat} (hl : ∀ i, C.live f i = some l) : RE C f l := fun _ i _ _ _ => regEnd_nrm (hl i)
theorem tgS {C : Cfg} {f t : Nat} (h : C.loose f t = []) : TightD C f (some t) := ⟨fun _ e => by cases e; exact h⟩
theorem tgN {C : Cfg} {f : Nat} : TightD C f none := ⟨fun _ e => by cases e⟩
theorem call_at2 {C : Cfg} [NoAlone C] {f : Nat} {h : Heap} {args : List AV} {n : Nat} {rs : List ResultVar} {b : Code} (hf : C.fn f = some ⟨n, rs, b⟩) (hp : C.prim f = none) (hl : (args.length != n) = false) :
    call C f args h = (exec C f b (args.zipIdx.map fun (v, i) => (i, v)) h).bind (callEnd C f h rs) := by
  rw [call_at args _ hp hf hl]
  cases exec C f b (args.zipIdx.map fun (v, i) => (i, v)) h with
  | none => rfl
  | some x =>
    obtain ⟨o, e, h⟩ := x
    cases o <;> rfl
theorem leave_pure {C : Cfg} {f : Nat} {h h' : Heap} {v v' : AV} (hp : C.pure f = true) (hh : h'.take h.length = h) (hv : freezeV h' h.length 40 v = some v') : leaveA C f h v h' = some (.ret v', h) := by
  unfold leaveA
  rw [if_pos hp, if_pos hh, hv]
  rfl
theorem leave_kept {C : Cfg} {f : Nat} {h : Heap} {v v' : AV} (hp : C.pure f = true) (hv : freezeV h h.length 40 v = some v') : leaveA C f h v h = some (.ret v', h) := leave_pure hp (by simp) hv
theorem leave_impure {C : Cfg} {f : Nat} {h h' : Heap} {v : AV} (hp : C.pure f = false) : leaveA C f h v h' = some (.ret v, h') := by
  unfold leaveA
  rw [if_neg (by simp [hp])]
theorem natlt (a b : Nat) : ((a : Int) < (b : Int)) = (a < b) := by simp
theorem natneg (a : Nat) : ((a : Int) < 0) = False := by simp
def pickL (l : List Oper) : List Nat → List Oper
  | [] => []
  | i :: r => match l[i]? with
    | some o => o :: pickL l r
    | none => pickL l r
theorem pickL_nil (l : List Oper) : pickL l [] = [] := rfl
theorem pickL_cons (l : List Oper) (i : Nat) (r : List Nat) : pickL l (i :: r) = match l[i]? with
    | some o => o :: pickL l r
    | none => pickL l r := rfl
section
variable {C : Cfg} (e : Env)
theorem evalA_lst : evalA C e (.const (.slice none 0 0)) = some (.lst [] 0 .nil) := rfl
theorem evalA_nilFunc : evalA C e (.const .nilFunc) = some .nilFunc := rfl
theorem evalA_nilMap : evalA C e (.const (.map none)) = some .nilMap := rfl
theorem evalA_nilPtr : evalA C e (.const (.pointer none)) = some .nilPtr := rfl
theorem evalA_str (l : List UInt8) : evalA C e (.const (.string ⟨l.toArray⟩)) = some (.str l) := rfl
end
theorem exec_seq_nrm {C : Cfg} {f : Nat} {a b : Code} {e e1 : Env} {h h1 : Heap} (H : exec C f a e h = some (.nrm, e1, h1)) : exec C f (.seq a b) e h = exec C f b e1 h1 := by
  rw [exec_seq, H]; rfl
theorem freeze_clo (h : Heap) (n d f : Nat) (cs : List AV) : freezeV h n (d + 1) (.clo f cs) = (mapO (freezeV h n d) cs).map (.clo f) := rfl
theorem freeze_ref (h : Heap) (n d : Nat) (cs : List AV) : freezeV h n (d + 1) (.ref cs) = (mapO (freezeV h n d) cs).map .ref := rfl
theorem freeze_aggv (h : Heap) (n d : Nat) (cs : List AV) : freezeV h n (d + 1) (.agg cs) = (mapO (freezeV h n d) cs).map .agg := rfl
theorem mapO_nil {α β : Type} (f : α → Option β) : mapO f [] = some [] := rfl
theorem mapO_cons {α β : Type} (f : α → Option β) (a : α) (r : List α) : mapO f (a :: r) = (f a).bind fun b => (mapO f r).bind fun bs => some (b :: bs) := rfl
theorem wrap_id {a : Int} (h1 : -9223372036854775808 ≤ a) (h2 : a < 9223372036854775808) : IntKind.i64.wrap a = a := by rw [IntKind.wrap_i64]; omega
theorem wrap_succ {i : Nat} (h : i < 1000000000000) : IntKind.i64.wrap ((i : Int) + 1) = ((i + 1 : Nat) : Int) := by rw [wrap_id (by omega) (by omega)]; rfl
theorem at_drop {α : Type} {xs r : List α} {y : α} {i : Nat} (hd : xs.drop i = y :: r) : (i < xs.length) = True ∧ xs[i]? = some y ∧ xs.drop (i + 1) = r := by
  have hl := congrArg List.length hd
  have h0 := congrArg (·[0]?) hd
  simp only [List.length_drop, List.length_cons] at hl
  refine ⟨by simp; omega, by simpa using h0, by rw [← List.drop_drop, hd]; rfl⟩
theorem at_end {α : Type} {xs : List α} {i : Nat} (hd : xs.drop i = []) : (i < xs.length) = False := by
  have := List.drop_eq_nil_iff.1 hd
  simp; omega
def objOf : AV → Option Nat
  | .msl o _ _ _ _ _ => some o
  | _ => none
noncomputable def flatC (xs : List AV) : List AV := (xs.map AV.cells).flatten
def Built (h : Heap) (v : AV) (xs : List AV) (sz : Nat) : Prop :=
  (v = .lst [] 0 .nil ∧ xs = []) ∨ ∃ o g cap, v = .msl o 0 xs.length sz g cap ∧ h.obj o g = some (flatC xs) ∧ (cap = none ∨ cap = some xs.length)
theorem flatC_len {xs : List AV} {sz : Nat} (H : ∀ x ∈ xs, x.cells.length = sz) : (flatC xs).length = xs.length * sz := by
  induction xs with
  | nil => simp [flatC]
  | cons x r ih =>
    have := ih (fun y hy => H y (List.mem_cons_of_mem _ hy))
    simp only [flatC, List.map_cons, List.flatten_cons, List.length_append, List.length_cons] at this ⊢
    rw [this, H x (List.mem_cons_self ..), Nat.add_mul]; omega
theorem flatC_append (xs ys : List AV) : flatC (xs ++ ys) = flatC xs ++ flatC ys := by simp [flatC]
theorem obj_some {h : Heap} {o g : Nat} {cs : List AV} (H : h.obj o g = some cs) : o < h.length := by
  unfold Heap.obj at H
  split at H
  · rename_i hx
    exact (List.getElem?_eq_some_iff.1 hx).1
  · cases H
theorem append_built {h : Heap} {v : AV} {xs ys : List AV} {sz : Nat} (B : Built h v xs sz) (hx : ∀ x ∈ xs, x.cells.length = sz) (hy : ∀ y ∈ ys, y.cells.length = sz ∧ y.cells.all AV.leaf = true) (hsz : 0 < sz) (hlen : xs.length + ys.length ≤ mostLen) :
    ∃ v' h', appendA h sz v ys = some (v', h') ∧ Built h' v' (xs ++ ys) sz ∧ h.length ≤ h'.length ∧ (∀ o, o < h.length → objOf v ≠ some o → h'[o]? = h[o]?) ∧ (objOf v' = objOf v ∨ objOf v' = some h.length) := by
  have hfl := flatC_len (fun y hm => (hy y hm).1)
  have hall : (flatC ys).all AV.leaf = true := by
    rw [List.all_eq_true]
    intro c hc
    simp only [flatC, List.mem_flatten, List.mem_map] at hc
    obtain ⟨l, ⟨y, hm, rfl⟩, hc⟩ := hc
    exact List.all_eq_true.1 (hy y hm).2 c hc
  have h0 : (sz == 0) = false := by simp; omega
  have hfl' : ((flatC ys).length != ys.length * sz) = false := by simp [hfl]
  cases ys with
  | nil =>
    refine ⟨v, h, ?_, by simpa using B, Nat.le_refl _, fun _ _ _ => rfl, .inl rfl⟩
    rcases B with ⟨rfl, rfl⟩ | ⟨o, g, cap, rfl, hob, _⟩
    · simp [appendA, h0]
    · simp [appendA, h0, hob]
  | cons y r =>
    have hne : (y :: r).isEmpty = false := rfl
    rcases B with ⟨rfl, rfl⟩ | ⟨o, g, cap, rfl, hob, hcap⟩
    · refine ⟨.msl h.length 0 (y :: r).length sz 0 none, h ++ [.cells (flatC (y :: r)) 0], ?_, .inr ⟨h.length, 0, none, by simp, by rw [obj_app0, obj_zero]; rfl, .inl rfl⟩, by simp, fun o ho _ => List.getElem?_append_left ho, .inr rfl⟩
      unfold appendA
      simp only
      rw [show ((y :: r).map AV.cells).flatten = flatC (y :: r) from rfl, hfl', hall, h0, hne]
      have : (Room.nil.full ([] : List AV).length && ((0 : Nat) == sz || ([] : List AV).isEmpty) && decide (([] : List AV).length + (y :: r).length ≤ mostLen)) = true := by
        simp only [Room.full, List.isEmpty_nil, Bool.or_true, Bool.true_and, decide_eq_true_eq]; exact hlen
      rw [this]
      simp [flatC]
    · have hxl := flatC_len hx
      unfold appendA
      simp only
      rw [show ((y :: r).map AV.cells).flatten = flatC (y :: r) from rfl, hfl', hall, h0, hne]
      have e1 : (decide (0 + xs.length * sz + (flatC (y :: r)).length ≤ (flatC xs).length) && capOk cap (xs.length + (y :: r).length)) = false := by
        have : 0 < (flatC (y :: r)).length := by rw [hfl]; exact Nat.mul_pos (by simp) hsz
        rw [Bool.and_eq_false_iff]; left
        simp only [decide_eq_false_iff_not]
        rw [hxl]; omega
      have e2 : (0 + xs.length * sz == (flatC xs).length && (0 : Nat) == 0 && decide (xs.length + (y :: r).length ≤ mostLen)) = true := by
        simp only [Nat.zero_add, hxl, beq_self_eq_true, Bool.true_and, decide_eq_true_eq]
        exact hlen
      simp only [hob, Option.bind_eq_bind, Option.bind_some, bne_self_eq_false, Bool.false_eq_true, if_false, Bool.or_false, Bool.not_true, e1, e2, if_true]
      have ho := obj_some hob
      rcases hcap with rfl | rfl
      · refine ⟨_, _, rfl, .inr ⟨o, g + 1, none, by simp, ?_, .inl rfl⟩, by simp, fun o' _ hn => ?_, .inl rfl⟩
        · rw [flatC_append]
          simp [Heap.obj, List.getElem?_set_self ho]
        · rw [List.getElem?_set_ne (by intro hc; exact hn (by simp [objOf, hc]))]
      · refine ⟨.msl h.length 0 (xs.length + (y :: r).length) sz 0 none, h ++ [.cells (flatC xs ++ flatC (y :: r)) 0], by simp [growA], .inr ⟨h.length, 0, none, by simp, by rw [obj_app0, obj_zero, flatC_append], .inl rfl⟩, by simp, fun o' ho' _ => List.getElem?_append_left ho', .inr rfl⟩
theorem known_built {h : Heap} {v : AV} {xs : List AV} {sz : Nat} (B : Built h v xs sz) : known v = some v := by
  rcases B with ⟨rfl, _⟩ | ⟨o, g, cap, rfl, _⟩ <;> rfl
def Plain1 (xs : List AV) : Prop := ∀ x ∈ xs, x.cells = [x] ∧ one x = x ∧ x.leaf = true ∧ x.dead = true
theorem flatC_plain {xs : List AV} (H : Plain1 xs) : flatC xs = xs := by
  induction xs with
  | nil => rfl
  | cons x r ih =>
    have := ih (fun y hy => H y (List.mem_cons_of_mem _ hy))
    simp only [flatC, List.map_cons, List.flatten_cons] at this ⊢
    rw [this, (H x (List.mem_cons_self ..)).1]; rfl
theorem group_plain {xs : List AV} (H : Plain1 xs) : group xs.length xs 1 = xs := by
  induction xs with
  | nil => rfl
  | cons x r ih =>
    have := ih (fun y hy => H y (List.mem_cons_of_mem _ hy))
    simp only [List.length_cons, group, beq_self_eq_true, if_true, List.headD_cons, List.drop_succ_cons, List.drop_zero, this, (H x (List.mem_cons_self ..)).2.1]
theorem plain_dead {xs : List AV} (H : Plain1 xs) : xs.all AV.dead = true := List.all_eq_true.2 fun x hx => (H x hx).2.2.2
theorem plain_ints (xs : List Int) : Plain1 (xs.map (AV.int .i64)) := fun x hx => by
  obtain ⟨n, _, rfl⟩ := List.mem_map.1 hx
  exact ⟨rfl, rfl, rfl, rfl⟩
theorem plain_strs (xs : List (List UInt8)) : Plain1 (xs.map AV.str) := fun x hx => by
  obtain ⟨n, _, rfl⟩ := List.mem_map.1 hx
  exact ⟨rfl, rfl, rfl, rfl⟩
theorem Plain1.append {xs ys : List AV} (H : Plain1 xs) (K : Plain1 ys) : Plain1 (xs ++ ys) := fun x hx => (List.mem_append.1 hx).elim (H x) (K x)
theorem Plain1.size {xs : List AV} (H : Plain1 xs) : ∀ x ∈ xs, x.cells.length = 1 := fun x hx => by rw [(H x hx).1]; rfl
theorem Plain1.leafs {xs : List AV} (H : Plain1 xs) : ∀ x ∈ xs, x.cells.length = 1 ∧ x.cells.all AV.leaf = true := fun x hx => by rw [(H x hx).1]; simp [(H x hx).2.2.1]
theorem freeze_built {h : Heap} {v : AV} {xs : List AV} {n d : Nat} (B : Built h v xs 1) (H : Plain1 xs) (ho : ∀ o, objOf v = some o → n ≤ o) :
    (v = .lst [] 0 .nil ∧ xs = [] ∧ freezeV h n (d + 2) v = some (.lst [] 0 .nil)) ∨ freezeV h n (d + 2) v = some (.lst xs 1 .open) := by
  rcases B with ⟨rfl, rfl⟩ | ⟨o, g, cap, rfl, hob, _⟩
  · exact .inl ⟨rfl, rfl, rfl⟩
  · right
    have hn := ho o rfl
    unfold freezeV
    simp only
    rw [if_neg (by omega), hob]
    simp only [Option.bind_eq_bind, Option.bind_some, Nat.zero_add, Nat.mul_one, flatC_plain H, List.drop_zero, Nat.le_refl, if_true, List.take_length, freeze_deads h n d (plain_dead H), group_plain H]
theorem elems_built {h : Heap} {v : AV} {xs : List AV} (B : Built h v xs 1) (H : Plain1 xs) : elems h v = some xs := by
  rcases B with ⟨rfl, rfl⟩ | ⟨o, g, cap, rfl, hob, _⟩
  · rfl
  · simp only [elems, hob, Option.bind_eq_bind, Option.bind_some, Nat.zero_add, Nat.mul_one, flatC_plain H, Nat.le_refl, if_true, List.drop_zero, group_plain H]
theorem callv_yld_of {C : Cfg} {o : Nat} {vs : List AV} {h h1 h2 : Heap} {r r1 r2 : ALoop} {e1 e2 : Env} {out : Out} {j : Option Code} (hr : h.loopAt o = some r) (hs : r.st = .ready) (hp : r.ps.length = vs.length)
    (ha : exec C r.f r.assign (r.env.puts r.ps vs) h = some (.nrm, e1, h1)) (hr1 : h1.loopAt o = some r1) (hs1 : r1.st = .ready) (hb : exec C r.f r.body e1 (h1.set o (.loop { r1 with st := .busy })) = some (out, e2, h2)) (hr2 : h2.loopAt o = some r2) (hj : jumpOf out = some j) :
    callv C (.yld o) vs h = some (.ret (.bool j.isNone), h2.set o (.loop { r2 with st := if j.isNone then .ready else .done, pend := j })) := by
  obtain ⟨k1, ha⟩ := (exec_iff C).1 ha
  obtain ⟨k2, hb⟩ := (exec_iff C).1 hb
  refine (callv_succ C).2 ⟨max k1 k2, ?_⟩
  have ha' := execF_le C (Nat.le_max_left k1 k2) _ _ _ _ _ ha
  have hb' := execF_le C (Nat.le_max_right k1 k2) _ _ _ _ _ hb
  simp only [callV, hr, Option.bind_eq_bind, Option.bind_some, hs, hp, ha', hr1, hs1, hb', hr2, hj]
  simp
theorem exec_range_of {C : Cfg} {f : Nat} {g : Operand} {ps : Array Tmp} {assign body : Code} {e : Env} {h h1 : Heap} {gn : Nat} {caps : List AV} {v : AV} {r : ALoop} (hg : evalA C e g = some (.clo gn caps))
    (hc : call C gn (.yld h.length :: caps) (h ++ [.loop { st := .ready, pend := none, f, env := e, ps := ps.toList, assign, body }]) = some (.ret v, h1)) (hr : h1.loopAt h.length = some r) (hb : (r.st == .busy) = false) {out : Out}
    (ho : out = .nrm ∧ r.pend = none ∨ out = .ret ∧ r.pend = some .ret) :
    exec C f (.rangeFunc g ps assign body) e h = some (out, e, h1.set h.length (.cells [] 1)) := by
  obtain ⟨k, hc⟩ := (call_iff C).1 hc
  refine (exec_succ C).2 ⟨k, ?_⟩
  simp only [execF, hg, Option.bind_eq_bind, Option.bind_some, hc, hr, hb, Bool.false_eq_true, if_false]
  rcases ho with ⟨rfl, hp⟩ | ⟨rfl, hp⟩ <;> rw [hp]
def Ends (C : Cfg) (f : Nat) (c : Code) (e : Env) (h : Heap) (Q : Out → Env → Heap → Prop) : Prop := ∃ o e' h', exec C f c e h = some (o, e', h') ∧ Q o e' h'
theorem Ends.mono {C : Cfg} {f : Nat} {c : Code} {e : Env} {h : Heap} {Q R : Out → Env → Heap → Prop} (H : Ends C f c e h Q) (k : ∀ o e' h', Q o e' h' → R o e' h') : Ends C f c e h R :=
  let ⟨o, e', h', a, b⟩ := H; ⟨o, e', h', a, k _ _ _ b⟩
def Got {α : Type} (x : Option α) (Q : α → Prop) : Prop := ∃ a, x = some a ∧ Q a
theorem got_some {α : Type} (a : α) (Q : α → Prop) : Got (some a) Q = Q a := by
  simp [Got]
theorem got_bind {α β : Type} (x : Option α) (f : α → Option β) (Q : β → Prop) : Got (x.bind f) Q = Got x (fun a => Got (f a) Q) := by
  cases x <;> simp [Got]
theorem Got.mono {α : Type} {x : Option α} {Q R : α → Prop} (H : Got x Q) (k : ∀ a, Q a → R a) : Got x R := let ⟨a, b, c⟩ := H; ⟨a, b, k a c⟩
theorem got_left {α : Type} {x y : Option α} (h : x = y) (Q : α → Prop) : Got x Q = Got y Q := by rw [h]
theorem got_loop {C : Cfg} [NoRounds C] {f : Nat} {b : Code} {e : Env} {h : Heap} {Q : Out × Env × Heap → Prop} : Got (exec C f (.loop b) e h) Q = Got (exec C f b e h) (fun x => match x.1 with | .nrm => Got (exec C f (.loop b) x.2.1 x.2.2) Q | _ => Q x) := by
  rw [exec_loop, got_bind]
  congr 1
  funext x
  obtain ⟨o, e, h⟩ := x
  cases o <;> simp [got_some]
end Go.Rv
namespace Go.Rv
theorem built_cells {h : Heap} {v : AV} {xs : List AV} {sz : Nat} (B : Built h v xs sz) : v.cells = [v] := by
  rcases B with ⟨rfl, _⟩ | ⟨o, g, cap, rfl, _⟩ <;> rfl
theorem built_leaf {h : Heap} {v : AV} {xs : List AV} {sz : Nat} (B : Built h v xs sz) : v.leaf = true := by
  rcases B with ⟨rfl, _⟩ | ⟨o, g, cap, rfl, _⟩ <;> rfl
theorem built_lt {h : Heap} {v : AV} {xs : List AV} {sz o : Nat} (B : Built h v xs sz) (ho : objOf v = some o) : o < h.length := by
  rcases B with ⟨rfl, _⟩ | ⟨o', g, cap, rfl, hob, _⟩
  · cases ho
  · simp only [objOf, Option.some.injEq] at ho; subst ho; exact obj_some hob
theorem freeze_stay {h : Heap} {v : AV} {xs : List AV} {sz n d : Nat} (B : Built h v xs sz) (hn : h.length ≤ n) : freezeV h n (d + 2) v = some v := by
  rcases B with ⟨rfl, rfl⟩ | ⟨o, g, cap, rfl, hob, _⟩
  · rfl
  · have := obj_some hob
    unfold freezeV
    simp only
    rw [if_pos (by omega)]
theorem loopAt_app0 (h : Heap) (r : ALoop) (X : Heap) : Heap.loopAt (h ++ .loop r :: X) h.length = some r := by simp [Heap.loopAt]
theorem obj_left {h : Heap} (X : Heap) {o : Nat} (g : Nat) (ho : o < h.length) : Heap.obj (h ++ X) o g = Heap.obj h o g := by
  unfold Heap.obj; rw [List.getElem?_append_left ho]
theorem set_left {h : Heap} (X : Heap) {o : Nat} (x : AObj) (ho : o < h.length) : (h ++ X).set o x = h.set o x ++ X := List.set_append_left _ _ ho
theorem live_of {h : Heap} {o g : Nat} {cs : List AV} (H : h.obj o g = some cs) : h.live o g = true := by simp [Heap.live, H]
theorem known_yld (o : Nat) : known (.yld o) = some (.yld o) := rfl
theorem known_map (o : Nat) : known (.map o) = some (.map o) := rfl
theorem known_nilPtr : known .nilPtr = some .nilPtr := rfl
theorem cells_clo (g : Nat) (cs : List AV) : AV.cells (.clo g cs) = [.clo g cs] := rfl
theorem cells_map (o : Nat) : AV.cells (.map o) = [.map o] := rfl
theorem cells_msl (o off len z g : Nat) (c : Option Nat) : AV.cells (.msl o off len z g c) = [.msl o off len z g c] := rfl
theorem leaf_clo (g : Nat) (cs : List AV) : AV.leaf (.clo g cs) = true := rfl
theorem leaf_msl (o off len z g : Nat) (c : Option Nat) : AV.leaf (.msl o off len z g c) = true := rfl
theorem cells_nilFunc : AV.cells .nilFunc = [.nilFunc] := rfl
theorem leaf_nilFunc : AV.leaf .nilFunc = true := rfl
theorem obj_leftS {h : Heap} {o g : Nat} {cs : List AV} (X : Heap) (H : h.obj o g = some cs) : Heap.obj (h ++ X) o g = some cs := by rw [obj_left X g (obj_some H), H]
theorem Built.app {h : Heap} {v : AV} {xs : List AV} {sz : Nat} (B : Built h v xs sz) (X : Heap) : Built (h ++ X) v xs sz := by
  rcases B with h1 | ⟨o, g, cap, rfl, hob, hc⟩
  · exact .inl h1
  · exact .inr ⟨o, g, cap, rfl, obj_leftS X hob, hc⟩
theorem Built.other {h h' : Heap} {v : AV} {xs : List AV} {sz : Nat} (B : Built h v xs sz) (K : ∀ o, objOf v = some o → h'[o]? = h[o]?) : Built h' v xs sz := by
  rcases B with h1 | ⟨o, g, cap, rfl, hob, hc⟩
  · exact .inl h1
  · refine .inr ⟨o, g, cap, rfl, ?_, hc⟩
    unfold Heap.obj at *
    rw [K o rfl]; exact hob
structure Own (n : Nat) (h0 h : Heap) (v : AV) (xs : List AV) : Prop where
  b : Built h v xs 1
  own : ∀ o, objOf v = some o → n ≤ o
  le : n ≤ h.length
  old : h.take n = h0.take n
theorem take_app {h : Heap} (X : Heap) {n : Nat} (hn : n ≤ h.length) : (h ++ X).take n = h.take n := List.take_append_of_le_length hn
theorem Own.app {n : Nat} {h0 h : Heap} {v : AV} {xs : List AV} (O : Own n h0 h v xs) (X : Heap) : Own n h0 (h ++ X) v xs where
  b := O.b.app X
  own := O.own
  le := by have := O.le; simp; omega
  old := by rw [take_app X O.le, O.old]
theorem Own.kn {n : Nat} {h0 h : Heap} {v : AV} {xs : List AV} (O : Own n h0 h v xs) : known v = some v := known_built O.b
theorem Own.push {n : Nat} {h0 h : Heap} {v : AV} {xs ys : List AV} (O : Own n h0 h v xs) (hx : Plain1 xs) (hy : Plain1 ys) (hl : xs.length + ys.length ≤ mostLen) :
    ∃ v' h', appendA h 1 v ys = some (v', h') ∧ Own n h0 h' v' (xs ++ ys) := by
  obtain ⟨v', h', h1, h2, h4, h5, h6⟩ := append_built O.b hx.size (fun y hm => hy.leafs y hm) (by omega) hl
  refine ⟨v', h', h1, h2, fun o ho => ?_, Nat.le_trans O.le h4, ?_⟩
  · rcases h6 with h6 | h6
    · exact O.own o (h6 ▸ ho)
    · rw [h6] at ho; simp only [Option.some.injEq] at ho; subst ho; exact O.le
  · rw [← O.old]
    apply List.ext_getElem?
    intro i
    by_cases hi : i < n
    · rw [List.getElem?_take_of_lt hi, List.getElem?_take_of_lt hi]
      exact h5 i (Nat.lt_of_lt_of_le hi O.le) fun hc => by have := O.own i hc; omega
    · rw [List.getElem?_eq_none (by simp; omega), List.getElem?_eq_none (by simp; omega)]
theorem Own.nil (h : Heap) : Own h.length h h (.lst [] 0 .nil) [] := ⟨.inl ⟨rfl, rfl⟩, fun _ h => (by cases h), Nat.le_refl _, rfl⟩
theorem Own.leave {h h' : Heap} {v : AV} {xs : List AV} (O : Own h.length h h' v xs) (hx : Plain1 xs) {C : Cfg} {f : Nat} (hp : C.pure f = true) :
    (xs = [] ∧ leaveA C f h v h' = some (.ret (.lst [] 0 .nil), h)) ∨ leaveA C f h v h' = some (.ret (.lst xs 1 .open), h) := by
  have ht : h'.take h.length = h := by rw [O.old]; simp
  rcases freeze_built (n := h.length) (d := 38) O.b hx O.own with ⟨_, rfl, hf⟩ | hf
  · exact .inl ⟨rfl, leave_pure hp ht hf⟩
  · exact .inr (leave_pure hp ht hf)
theorem len_built {h : Heap} {v : AV} {xs : List AV} {sz e : Nat} (B : Built h v xs sz) : lenA h (.slice e) v = some xs.length := by
  rcases B with ⟨rfl, rfl⟩ | ⟨o, g, cap, rfl, hob, _⟩
  · rfl
  · simp [lenA, live_of hob]
structure Rd (C : Cfg) (h : Heap) (ts te : Nat) (v : AV) (xs : List AV) : Prop where
  kn : known v = some v
  len : lenA h (.slice te) v = some xs.length
  get : ∀ (i : Nat) x, xs[i]? = some x → ∃ a, indexAddrA C h ts v (.int .i64 i) = some a ∧ known a = some a ∧ loadA C h te a = some x
theorem rd_built {C : Cfg} {h : Heap} {ts te : Nat} {v : AV} {xs : List AV} {ti tei : TI} (hts : C.ty ts = some ti) (hti : ti.td = .slice te) (hte : C.ty te = some tei) (h1 : tei.size = 1) (ha : tei.td.isAgg = false) (B : Built h v xs 1) (H : Plain1 xs) : Rd C h ts te v xs where
  kn := known_built B
  len := len_built B
  get i x hx := by
    have hi : i < xs.length := (List.getElem?_eq_some_iff.1 hx).1
    rcases B with ⟨rfl, rfl⟩ | ⟨o, g, cap, rfl, hob, _⟩
    · simp at hx
    · refine ⟨.ptr o i g, ?_, rfl, ?_⟩
      · simp only [indexAddrA, hts, hti, hte, Option.bind_eq_bind, Option.bind_some, natneg, if_false, Int.toNat_natCast, h1, live_of hob]
        simp [hi]
      · rw [flatC_plain H] at hob
        simp only [loadA, hte, cellsAt, hob, Option.bind_eq_bind, Option.bind_some, Option.map_some, Rv.part, ha]
        simp [List.head?_drop, hx]
theorem binA_str_eql {C : Cfg} (h : Heap) (t : Nat) (a b : List UInt8) : binA C h .eql t (.str a) (.str b) = some (.bool (a == b)) := rfl
theorem binA_str_neq {C : Cfg} (h : Heap) (t : Nat) (a b : List UInt8) : binA C h .neq t (.str a) (.str b) = some (.bool (!(a == b))) := rfl
theorem setCells_at {α : Type} : ∀ (ds cs : List α) (off : Nat), off + ds.length ≤ cs.length → ∀ i, (setCells cs off ds)[i]? = if off ≤ i ∧ i < off + ds.length then ds[i - off]? else cs[i]?
  | [], cs, off, _, i => by
    simp only [setCells, List.length_nil, Nat.add_zero]
    rw [if_neg (by omega)]
  | d :: r, cs, off, h, i => by
    simp only [setCells, List.length_cons] at h ⊢
    rw [setCells_at r (cs.set off d) (off + 1) (by simp; omega) i]
    by_cases h1 : i = off
    · subst h1
      rw [if_neg (by omega), if_pos (by omega), List.getElem?_set_self (by omega)]
      simp
    · by_cases h2 : off + 1 ≤ i ∧ i < off + 1 + r.length
      · rw [if_pos h2, if_pos (by omega), show i - off = (i - (off + 1)) + 1 from by omega, List.getElem?_cons_succ]
      · rw [if_neg h2, if_neg (by omega), List.getElem?_set_ne (by omega)]
theorem setCells_full {α : Type} {cs ds : List α} (h : ds.length = cs.length) : setCells cs 0 ds = ds := by
  apply List.ext_getElem?
  intro i
  rw [setCells_at ds cs 0 (by omega) i]
  by_cases hi : i < ds.length
  · rw [if_pos (by omega)]; rfl
  · rw [if_neg (by omega), List.getElem?_eq_none (by omega), List.getElem?_eq_none (by omega)]
noncomputable def tabC (T : Nat → Bool) : List AV := (List.range 256).map fun k => AV.bool (T k)
theorem tabC_len (T : Nat → Bool) : (tabC T).length = 256 := by simp [tabC]
theorem tabC_get (T : Nat → Bool) {k : Nat} (hk : k < 256) : (tabC T)[k]? = some (.bool (T k)) := by simp [tabC, hk]
theorem tabC_head (T : Nat → Bool) {k : Nat} (hk : k < 256) : ((tabC T).drop k).head? = some (.bool (T k)) := by rw [List.head?_drop, tabC_get T hk]
theorem tabC_set (T : Nat → Bool) {c : Nat} (hc : c < 256) : (tabC T).set c (.bool true) = tabC (fun k => T k || k == c) := by
  apply List.ext_getElem?
  intro i
  by_cases hi : i < 256
  · rw [List.getElem?_set, tabC_get (fun k => T k || k == c) hi]
    by_cases he : c = i
    · subst he; simp [tabC_len, hi]
    · have : (i == c) = false := by simp; omega
      simp [he, tabC_get T hi, this]
  · rw [List.getElem?_eq_none (by simp [tabC_len]; omega), List.getElem?_eq_none (by simp [tabC_len]; omega)]
theorem tabC_leaf (T : Nat → Bool) : (tabC T).all AV.leaf = true := by simp [tabC, AV.leaf]
theorem tabC_zero : copies 256 [AV.bool false] = tabC (fun _ => false) := by kernel_rfl
theorem tabC_take (T : Nat → Bool) : (tabC T).take 256 = tabC T := List.take_of_length_le (by rw [tabC_len]; omega)
theorem tabC_over (T U : Nat → Bool) : setCells (tabC T) 0 (tabC U) = tabC U := setCells_full (by rw [tabC_len, tabC_len])
end Go.Rv
namespace Go.Rv
set_option linter.defProp false in
def sxAll := (And.intro (And.intro (And.intro (And.intro (And.intro (And.intro (And.intro @codeAt_nil @codeAt_seq0) (And.intro @codeAt_seq1 (And.intro @codeAt_cond0 @codeAt_cond1))) (And.intro (And.intro @codeAt_block (And.intro @codeAt_loop @codeAt_scope)) (And.intro @codeAt_range0 (And.intro @codeAt_range1 @codeOps_region)))) (And.intro (And.intro (And.intro @exec_seq (And.intro @exec_cond @exec_block)) (And.intro @exec_exit (And.intro @exec_skip @exec_label))) (And.intro (And.intro @exec_scope (And.intro @exec_ret @ops_nil)) (And.intro @sx_move (And.intro @sx_assign @sx_load))))) (And.intro (And.intro (And.intro (And.intro @sx_store @sx_bin_t) (And.intro @sx_bin_i (And.intro @sx_bin_b @sx_bin_s))) (And.intro (And.intro @sx_bin_l (And.intro @sx_bin_p @sx_bin_m)) (And.intro @sx_bin_f (And.intro @sx_un @sx_conv)))) (And.intro (And.intro (And.intro @sx_fieldAddr (And.intro @sx_field @sx_indexAddr)) (And.intro @sx_index (And.intro @sx_alloc @sx_box))) (And.intro (And.intro @sx_pick (And.intro @sx_build @sx_buildSlice)) (And.intro @sx_len (And.intro @sx_slice @sx_callf)))))) (And.intro (And.intro (And.intro (And.intro (And.intro @sx_callt @sx_makeFunc) (And.intro @sx_makeSlice (And.intro @sx_makeMap @sx_lookup))) (And.intro (And.intro @sx_mapUpdate (And.intro @sx_insert @sx_nilCheck)) (And.intro @sx_iface (And.intro @sx_extract @sx_append)))) (And.intro (And.intro (And.intro @sx_cap (And.intro @sx_clear @sx_copy)) (And.intro @sx_delete (And.intro @sx_max @sx_min))) (And.intro (And.intro @evalA_tmp (And.intro @evalA_int @evalA_bool)) (And.intro @evalA_func (And.intro @evalA_lst @evalA_nilFunc))))) (And.intro (And.intro (And.intro (And.intro @evalA_nilMap @evalA_nilPtr) (And.intro @evalA_str (And.intro @known_int @known_bool))) (And.intro (And.intro @known_str (And.intro @known_ptr @known_ref)) (And.intro @known_agg (And.intro @known_tup @known_lst)))) (And.intro (And.intro (And.intro @known_msl (And.intro @known_clo @cells_int)) (And.intro @cells_bool (And.intro @cells_str @cells_ptr))) (And.intro (And.intro @cells_ref (And.intro @cells_agg @cells_lst)) (And.intro @leaf_int (And.intro @leaf_bool @leaf_str))))))) (And.intro (And.intro (And.intro (And.intro (And.intro (And.intro @leaf_lst @one_int) (And.intro @one_bool (And.intro @one_str @isRef_ref))) (And.intro (And.intro @putAt_some (And.intro @putAt_none @binA_int)) (And.intro @pick_true (And.intro @pick_false @parts_nil)))) (And.intro (And.intro (And.intro @parts_cons (And.intro @get_hit @Env.get_cons)) (And.intro @Env.get_nil (And.intro @Env.put_eq @eq_self.{1}))) (And.intro (And.intro @pickL_nil (And.intro @pickL_cons @obj_app)) (And.intro @obj_app0 (And.intro @live_app @live_app0))))) (And.intro (And.intro (And.intro (And.intro @set_app @set_app0) (And.intro @obj_zero (And.intro @obj_succ @live_zero))) (And.intro (And.intro @live_succ (And.intro @List.length_append.{0} @List.append_assoc.{0})) (And.intro @callEnd_ret (And.intro @callEnd_nrm @callv_clo)))) (And.intro (And.intro (And.intro @natlt (And.intro @natneg @Int.toNat_natCast)) (And.intro @got_some (And.intro @go_tt @go_tf))) (And.intro (And.intro @go_ft (And.intro @go_ff @go_tup)) (And.intro @List.cons_append.{0} (And.intro @List.nil_append.{0} @List.append_nil.{0})))))) (And.intro (And.intro (And.intro (And.intro (And.intro @Option.bind_eq_bind.{0} @Option.map_some.{0, 0}) (And.intro @Option.map_none.{0, 0} (And.intro @Option.getD_some.{0} @Option.getD_none.{0}))) (And.intro (And.intro @Bool.false_eq_true (And.intro @if_true.{1} @if_false.{1})) (And.intro @ite_true.{1} (And.intro @List.zipIdx_cons.{0} @List.zipIdx_nil.{0})))) (And.intro (And.intro (And.intro @List.map_cons.{0, 0} (And.intro @List.map_nil.{0, 0} @List.length_cons.{0})) (And.intro @List.length_nil.{0} (And.intro @List.getElem?_cons_zero.{0} @List.getElem?_cons_succ.{0}))) (And.intro (And.intro @List.drop_succ_cons.{0} (And.intro @List.drop_zero.{0} @List.head?_cons.{0})) (And.intro @List.set_cons_zero.{0} (And.intro @List.set_cons_succ.{0} @List.headD_cons.{0}))))) (And.intro (And.intro (And.intro (And.intro @List.contains_cons.{0} (And.intro @List.contains_nil.{0} @Bool.or_false)) (And.intro @Bool.false_or (And.intro @Bool.and_true @Bool.true_and))) (And.intro (And.intro @Bool.false_and (And.intro @Bool.and_false @Bool.not_true)) (And.intro @Bool.not_false (And.intro @Bool.true_or @Bool.or_true)))) (And.intro (And.intro (And.intro @decide_true (And.intro @decide_false @decide_eq_true_eq)) (And.intro @List.all_cons.{0} (And.intro @List.all_nil.{0} @List.take_succ_cons.{0}))) (And.intro (And.intro @List.take_zero.{0} (And.intro @beq_self_eq_true.{0} @Option.isSome_none.{0})) (And.intro @Option.isSome_some.{0} (And.intro @List.filter_cons.{0} @List.filter_nil.{0}))))))))
end Go.Rv
namespace Go.Rv
open Go.ChangeShapes Go.WideShapes Go.Deep Go.RowKit
def litParts (P : Program) (rec : TypeId → DataW Unit → Option (List Value)) : List (TypeId × Nat) → List (DataW Unit) → Nat → Option (List Value)
  | [], [], _ => some []
  | (t, off) :: fs, d :: ds, o =>
    if off = o then (rec t d).bind fun v => if v.length = P.cellsOf t then (litParts P rec fs ds (o + v.length)).map (v ++ ·) else none else none
  | _, _, _ => none
def litC (P : Program) : Nat → TypeId → DataW Unit → Option (List Value)
  | 0, _, _ => none
  | n + 1, t, d => match P.underlying t, d with
    | some .bool, .lit (.bool b) => some [.bool b]
    | some (.int k), .lit (.int _ z) => some [.int k z]
    | some .string, .lit (.string l) => some [.string ⟨l.toArray⟩]
    | some (.struct fs), .agg ds => (litParts P (litC P n) (fs.toList.map fun f => (f.type, f.offset)) ds 0).bind fun vs => if vs.length = P.cellsOf t then some vs else none
    | some (.array m e), .agg ds => (litParts P (litC P n) ((List.range m).map fun i => (e, i * P.cellsOf e)) ds 0).bind fun vs => if vs.length = P.cellsOf t then some vs else none
    | _, _ => none
section
variable {P : Program} {w : World}
abbrev tr (P : Program) (w : World) (b : Nat) (sp : Nat → Bool) (hd : Bool) := DataW.trod (fun _ => ()) P w b sp hd
theorem litParts_eq {b : Nat} {sp : Nat → Bool} {hd : Bool} {m : Nat} {rec : TypeId → DataW Unit → Option (List Value)} (hrec : ∀ t cs d ps v, tr P w b sp hd m t cs = some (d, ps) → rec t d = some v → cs = v) {cs : List Value} :
    ∀ (fs : List (TypeId × Nat)) (ds : List (DataW Unit)) (o : Nat) (vs : List Value), litParts P rec fs ds o = some vs →
    (∀ (i : Nat) t off, fs[i]? = some (t, off) → ∃ d ps, ds[i]? = some d ∧ tr P w b sp hd m t ((cs.drop off).take (P.cellsOf t)) = some (d, ps)) → o + vs.length = cs.length → cs.drop o = vs
  | [], [], o, vs, h, _, hl => by
    simp only [litParts, Option.some.injEq] at h
    subst h
    simp at hl
    simp [hl]
  | [], _ :: _, o, vs, h, _, _ => by simp [litParts] at h
  | _ :: _, [], o, vs, h, _, _ => by simp [litParts] at h
  | (t, off) :: fs, d :: ds, o, vs, h, H, hl => by
    simp only [litParts] at h
    split at h
    · rename_i ho
      subst ho
      obtain ⟨v, hv, h⟩ := Option.bind_eq_some_iff.1 h
      split at h
      · rename_i hvl
        obtain ⟨r, hr, rfl⟩ := Option.map_eq_some_iff.1 h
        obtain ⟨d', ps, hd', ht⟩ := H 0 t off rfl
        simp at hd'
        subst hd'
        have h1 := hrec _ _ _ _ _ ht hv
        have h2 := litParts_eq hrec fs ds (off + v.length) r hr (fun i t' off' hi => by
          obtain ⟨d', ps, k1, k2⟩ := H (i + 1) t' off' (by simpa using hi)
          exact ⟨d', ps, by simpa using k1, k2⟩) (by simp at hl; omega)
        rw [← h2]
        have h3 : cs.drop off = (cs.drop off).take v.length ++ (cs.drop off).drop v.length := (List.take_append_drop _ _).symm
        rw [h3, List.drop_drop]
        rw [hvl] at *
        rw [h1]
      · cases h
    · cases h
theorem litC_eq {b : Nat} {sp : Nat → Bool} {hd : Bool} : ∀ (n m : Nat) (t : TypeId) (cs : List Value) (d : DataW Unit) (ps : List MemPlace) (vs : List Value), tr P w b sp hd m t cs = some (d, ps) → litC P n t d = some vs → cs = vs
  | 0, _, _, _, _, _, _, _, h => by simp [litC] at h
  | n + 1, m, t, cs, d, ps, vs, ht, h => by
    simp only [litC] at h
    split at h
    · rename_i hu
      obtain ⟨b', rfl, hx⟩ := DataW.trod_bool hu ht
      simp only [Prod.mk.injEq, DataW.lit.injEq, Lit.bool.injEq] at hx
      simp only [Option.some.injEq] at h
      rw [← h, ← hx.1]
    · rename_i hu
      obtain ⟨b', rfl, hx, _⟩ := DataW.trod_int hu ht
      simp only [Prod.mk.injEq, DataW.lit.injEq, Lit.int.injEq] at hx
      simp only [Option.some.injEq] at h
      rw [← h, ← hx.1.2]
    · rename_i hu
      obtain ⟨b', rfl, hx, _⟩ := DataW.trod_string hu ht
      simp only [Prod.mk.injEq, DataW.lit.injEq, Lit.string.injEq] at hx
      simp only [Option.some.injEq] at h
      rw [← h, hx.1]
    · rename_i fs ds hu
      obtain ⟨xs, m', rfl, hx, hcl, hxl, hel⟩ := DataW.trod_struct hu ht
      simp only [Prod.mk.injEq, DataW.agg.injEq] at hx
      obtain ⟨vs', h1, h⟩ := Option.bind_eq_some_iff.1 h
      split at h <;> first | cases h | skip
      rename_i hlen
      have := litParts_eq (w := w) (b := b) (sp := sp) (hd := hd) (m := m') (cs := cs) (fun t cs d ps v k1 k2 => litC_eq n m' t cs d ps v k1 k2) _ _ 0 vs h1 (fun i t' off hi => ?_) (by omega)
      · simpa using this
      · rw [List.getElem?_map] at hi
        obtain ⟨f, hf, hfe⟩ := Option.map_eq_some_iff.1 hi
        simp only [Prod.mk.injEq] at hfe
        obtain ⟨rfl, rfl⟩ := hfe
        have hlt : i < fs.size := by have := (List.getElem?_eq_some_iff.1 hf).1; simpa using this
        have he := hel i f (by rw [← Array.getElem?_toList]; exact hf)
        rw [List.getElem?_eq_getElem (by omega)] at he
        refine ⟨(xs[i]).1, (xs[i]).2, ?_, he⟩
        rw [hx.1, List.getElem?_map, List.getElem?_eq_getElem (by omega)]
        rfl
    · rename_i k e ds hu
      obtain ⟨xs, m', rfl, hx, hcl, hxl, hel⟩ := DataW.trod_array hu ht
      simp only [Prod.mk.injEq, DataW.agg.injEq] at hx
      obtain ⟨vs', h1, h⟩ := Option.bind_eq_some_iff.1 h
      split at h <;> first | cases h | skip
      rename_i hlen
      have := litParts_eq (w := w) (b := b) (sp := sp) (hd := hd) (m := m') (cs := cs) (fun t cs d ps v k1 k2 => litC_eq n m' t cs d ps v k1 k2) _ _ 0 vs h1 (fun i t' off hi => ?_) (by omega)
      · simpa using this
      · rw [List.getElem?_map] at hi
        obtain ⟨i', hi', hfe⟩ := Option.map_eq_some_iff.1 hi
        have hlt : i < k := by have := (List.getElem?_eq_some_iff.1 hi').1; simpa using this
        rw [List.getElem?_range hlt] at hi'
        injection hi' with hi'; subst hi'
        simp only [Prod.mk.injEq] at hfe
        obtain ⟨rfl, rfl⟩ := hfe
        have he := hel i hlt
        rw [List.getElem?_eq_getElem (by omega)] at he
        refine ⟨(xs[i]).1, (xs[i]).2, ?_, he⟩
        rw [hx.1, List.getElem?_map, List.getElem?_eq_getElem (by omega)]
        rfl
    · cases h
def globA (P : Program) (t : TypeId) (d : DataW Unit) : Option AV := ((litC P 8 t d).bind fun vs => mapO ofValue vs).map .ref
theorem glob_rel {n : String} {g : Nat} {t : TypeId} {d : DataW Unit} {cs : Array Value} {b fuel : Nat} {sp : Nat → Bool} {hd : Bool} {ps : List MemPlace} {v : AV} (hg : P.globalNamed n = some g) (hv : w.var? P n = some cs)
    (ht : tr P w b sp hd fuel t cs.toList = some (d, ps)) (ha : globA P t d = some v) : v ≠ .junk ∧ VR (old w) [] w v (.pointer (some ⟨g, 0, none⟩)) := by
  unfold globA at ha
  obtain ⟨avs, h1, rfl⟩ := Option.map_eq_some_iff.1 ha
  obtain ⟨vs, h2, h3⟩ := Option.bind_eq_some_iff.1 h1
  have hcs := litC_eq 8 fuel t cs.toList d ps vs ht h2
  obtain ⟨m1, m2⟩ := mapO_get h3
  have hcell : ∀ (i : Nat) c, avs[i]? = some c → w.cell? ⟨g, 0 + i, none⟩ = some (vs.getD i undef) ∧ VR (old w) [] w c (vs.getD i undef) := fun i c hi => by
    have hlt : i < vs.length := by rw [← m1]; exact (List.getElem?_eq_some_iff.1 hi).1
    obtain ⟨a, k1, k2⟩ := m2 i vs[i] (List.getElem?_eq_getElem hlt)
    rw [hi] at k1
    injection k1 with k1; subst k1
    have hget : vs.getD i undef = vs[i] := by simp [List.getD, hlt]
    rw [hget]
    refine ⟨?_, ofValue_rel k2⟩
    rw [Nat.zero_add, World.var?_cell hg hv i]
    rw [← Array.getElem?_toList, hcs, List.getElem?_eq_getElem hlt]
  refine ⟨by simp, .ref avs g 0 (fun i => vs.getD i undef) (fun h0 => ?_) (fun i c hi => (hcell i c hi).1) (fun i c hi => (hcell i c hi).2)⟩
  exact cell_block (hcell 0 _ (List.getElem?_eq_getElem h0)).1
theorem entry_glob {T : RvTold} {P : Program} (hp : PrimOk P (T.cfg P)) (hm : P.follows .mixedOrders = true) {f : Nat} {args : List AV} {v : AV} {h' : Heap} (hc : call (T.cfg P) f args [] = some (.ret v, h'))
    {w : World} (hcl : ∀ g v, T.glob g = some v → ∀ h, freezeV h 0 40 v = some v) (hg : ∀ g v, T.glob g = some v → v ≠ .junk ∧ VR (old w) [] w v (.pointer (some ⟨g, 0, none⟩))) {vs : List Value} (H : VRs (old w) [] w args vs) : Calls P f vs.toArray w (fun e w' => Below w.heap.size w w' ∧ ∃ u s', e = .returned u ∧ VR s' h' w' v u) := by
  have G : GG (T.cfg P) (ordOk (T.cfg P)) { old w with good := ⟨goodOf (ordOk (T.cfg P)), fun _ _ => True, []⟩ } [] w := ⟨fun g x hx => (hg g x hx).2.regood _, rfl⟩
  have := RvTold.sound (T := T) (P := P) (fun g x hx => (hg g x hx).1) hcl hp hm hc (old_rel _ w) G (H.regood _)
  refine Calls.mono this fun e w' he => ?_
  obtain ⟨s', E, R, hv⟩ := he
  refine ⟨below_of_ext E, ?_⟩
  cases e with
  | returned u => exact ⟨u, s', rfl, hv⟩
  | panicked _ => exact hv.elim
  | outgrown => exact hv.elim
end
end Go.Rv
