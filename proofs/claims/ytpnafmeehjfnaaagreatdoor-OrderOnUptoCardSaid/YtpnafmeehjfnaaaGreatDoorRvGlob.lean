/-
  Package-level variables that a row lists: what lies in them when the call begins.
-/
import Derived.Test.YtpnafmeehjfnaaaGreatDoorRvRead
import Derived.OpenShut
import Derived.ChangeArms
set_option linter.unusedSimpArgs false
set_option linter.unusedVariables false
namespace Go.Rv
open Go.ChangeShapes Go.WideShapes Go.Deep Go.RowKit

/-- The cells of plain parts. -/
def litParts (P : Program) (rec : TypeId → DataW Unit → Option (List Value)) : List (TypeId × Nat) → List (DataW Unit) → Nat → Option (List Value)
  | [], [], _ => some []
  | (t, off) :: fs, d :: ds, o =>
    if off = o then (rec t d).bind fun v => if v.length = P.cellsOf t then (litParts P rec fs ds (o + v.length)).map (v ++ ·) else none else none
  | _, _, _ => none

/-- The cells of a plain datum at a type. -/
def litC (P : Program) : Nat → TypeId → DataW Unit → Option (List Value)
  | 0, _, _ => none
  | n + 1, t, d => match P.underlying t, d with
    | some .bool, .lit (.bool b) => some [.bool b]
    | some (.int k), .lit (.int _ z) => some [.int k z]
    | some .string, .lit (.string l) => some [.string ⟨l.toArray⟩]
    | some (.struct fs), .agg ds => (litParts P (litC P n) (fs.toList.map fun f => (f.type, f.offset)) ds 0).bind fun vs => if vs.length = P.cellsOf t then some vs else none
    | some (.array m e), .agg ds => (litParts P (litC P n) ((List.range m).map fun i => (e, i * P.cellsOf e)) ds 0).bind fun vs => if vs.length = P.cellsOf t then some vs else none
    | _, _ => none

section
variable {P : Program} {w : World}
abbrev tr (P : Program) (w : World) (b : Nat) (sp : Nat → Bool) (hd : Bool) := DataW.trod (fun _ => ()) P w b sp hd

theorem litParts_eq {b : Nat} {sp : Nat → Bool} {hd : Bool} {m : Nat} {rec : TypeId → DataW Unit → Option (List Value)} (hrec : ∀ t cs d ps v, tr P w b sp hd m t cs = some (d, ps) → rec t d = some v → cs = v) {cs : List Value} :
    ∀ (fs : List (TypeId × Nat)) (ds : List (DataW Unit)) (o : Nat) (vs : List Value), litParts P rec fs ds o = some vs →
    (∀ (i : Nat) t off, fs[i]? = some (t, off) → ∃ d ps, ds[i]? = some d ∧ tr P w b sp hd m t ((cs.drop off).take (P.cellsOf t)) = some (d, ps)) → o + vs.length = cs.length → cs.drop o = vs
  | [], [], o, vs, h, _, hl => by
    simp only [litParts, Option.some.injEq] at h
    subst h
    simp at hl
    simp [List.drop_eq_nil_iff, hl]
  | [], _ :: _, o, vs, h, _, _ => by simp [litParts] at h
  | _ :: _, [], o, vs, h, _, _ => by simp [litParts] at h
  | (t, off) :: fs, d :: ds, o, vs, h, H, hl => by
    simp only [litParts] at h
    split at h
    · rename_i ho
      subst ho
      obtain ⟨v, hv, h⟩ := Option.bind_eq_some_iff.1 h
      split at h
      · rename_i hvl
        obtain ⟨r, hr, rfl⟩ := Option.map_eq_some_iff.1 h
        obtain ⟨d', ps, hd', ht⟩ := H 0 t off rfl
        simp at hd'
        subst hd'
        have h1 := hrec _ _ _ _ _ ht hv
        have h2 := litParts_eq hrec fs ds (off + v.length) r hr (fun i t' off' hi => by
          obtain ⟨d', ps, k1, k2⟩ := H (i + 1) t' off' (by simpa using hi)
          exact ⟨d', ps, by simpa using k1, k2⟩) (by simp at hl; omega)
        rw [← h2]
        have h3 : cs.drop off = (cs.drop off).take v.length ++ (cs.drop off).drop v.length := (List.take_append_drop _ _).symm
        rw [h3, List.drop_drop]
        rw [hvl] at *
        rw [h1]
      · cases h
    · cases h

theorem litC_eq {b : Nat} {sp : Nat → Bool} {hd : Bool} : ∀ (n m : Nat) (t : TypeId) (cs : List Value) (d : DataW Unit) (ps : List MemPlace) (vs : List Value), tr P w b sp hd m t cs = some (d, ps) → litC P n t d = some vs → cs = vs
  | 0, _, _, _, _, _, _, _, h => by simp [litC] at h
  | n + 1, m, t, cs, d, ps, vs, ht, h => by
    simp only [litC] at h
    split at h
    · rename_i hu
      obtain ⟨b', rfl, hx⟩ := DataW.trod_bool hu ht
      simp only [Prod.mk.injEq, DataW.lit.injEq, Lit.bool.injEq] at hx
      simp only [Option.some.injEq] at h
      rw [← h, ← hx.1]
    · rename_i hu
      obtain ⟨b', rfl, hx, _⟩ := DataW.trod_int hu ht
      simp only [Prod.mk.injEq, DataW.lit.injEq, Lit.int.injEq] at hx
      simp only [Option.some.injEq] at h
      rw [← h, ← hx.1.2]
    · rename_i hu
      obtain ⟨b', rfl, hx, _⟩ := DataW.trod_string hu ht
      simp only [Prod.mk.injEq, DataW.lit.injEq, Lit.string.injEq] at hx
      simp only [Option.some.injEq] at h
      rw [← h, hx.1]
    · rename_i fs ds hu
      obtain ⟨xs, m', rfl, hx, hcl, hxl, hel⟩ := DataW.trod_struct hu ht
      simp only [Prod.mk.injEq, DataW.agg.injEq] at hx
      obtain ⟨vs', h1, h⟩ := Option.bind_eq_some_iff.1 h
      split at h <;> first | cases h | skip
      rename_i hlen
      have := litParts_eq (w := w) (b := b) (sp := sp) (hd := hd) (m := m') (cs := cs) (fun t cs d ps v k1 k2 => litC_eq n m' t cs d ps v k1 k2) _ _ 0 vs h1 (fun i t' off hi => ?_) (by omega)
      · simpa using this
      · rw [List.getElem?_map] at hi
        obtain ⟨f, hf, hfe⟩ := Option.map_eq_some_iff.1 hi
        simp only [Prod.mk.injEq] at hfe
        obtain ⟨rfl, rfl⟩ := hfe
        have hlt : i < fs.size := by have := (List.getElem?_eq_some_iff.1 hf).1; simpa using this
        have he := hel i f (by rw [← Array.getElem?_toList]; exact hf)
        rw [List.getElem?_eq_getElem (by omega)] at he
        refine ⟨(xs[i]).1, (xs[i]).2, ?_, he⟩
        rw [hx.1, List.getElem?_map, List.getElem?_eq_getElem (by omega)]
        rfl
    · rename_i k e ds hu
      obtain ⟨xs, m', rfl, hx, hcl, hxl, hel⟩ := DataW.trod_array hu ht
      simp only [Prod.mk.injEq, DataW.agg.injEq] at hx
      obtain ⟨vs', h1, h⟩ := Option.bind_eq_some_iff.1 h
      split at h <;> first | cases h | skip
      rename_i hlen
      have := litParts_eq (w := w) (b := b) (sp := sp) (hd := hd) (m := m') (cs := cs) (fun t cs d ps v k1 k2 => litC_eq n m' t cs d ps v k1 k2) _ _ 0 vs h1 (fun i t' off hi => ?_) (by omega)
      · simpa using this
      · rw [List.getElem?_map] at hi
        obtain ⟨i', hi', hfe⟩ := Option.map_eq_some_iff.1 hi
        have hlt : i < k := by have := (List.getElem?_eq_some_iff.1 hi').1; simpa using this
        rw [List.getElem?_range hlt] at hi'
        injection hi' with hi'; subst hi'
        simp only [Prod.mk.injEq] at hfe
        obtain ⟨rfl, rfl⟩ := hfe
        have he := hel i hlt
        rw [List.getElem?_eq_getElem (by omega)] at he
        refine ⟨(xs[i]).1, (xs[i]).2, ?_, he⟩
        rw [hx.1, List.getElem?_map, List.getElem?_eq_getElem (by omega)]
        rfl
    · cases h

/-- The cells that the interpreter is told of a variable. -/
def globA (P : Program) (t : TypeId) (d : DataW Unit) : Option AV := ((litC P 8 t d).bind fun vs => mapO ofValue vs).map .ref

/-- A listed variable: what the interpreter is told of it. -/
theorem glob_rel {n : String} {g : Nat} {t : TypeId} {d : DataW Unit} {cs : Array Value} {b fuel : Nat} {sp : Nat → Bool} {hd : Bool} {ps : List MemPlace} {v : AV} (hg : P.globalNamed n = some g) (hv : w.var? P n = some cs)
    (ht : tr P w b sp hd fuel t cs.toList = some (d, ps)) (ha : globA P t d = some v) : v ≠ .junk ∧ VR (old w) [] w v (.pointer (some ⟨g, 0, none⟩)) := by
  unfold globA at ha
  obtain ⟨avs, h1, rfl⟩ := Option.map_eq_some_iff.1 ha
  obtain ⟨vs, h2, h3⟩ := Option.bind_eq_some_iff.1 h1
  have hcs := litC_eq 8 fuel t cs.toList d ps vs ht h2
  obtain ⟨m1, m2⟩ := mapO_get h3
  have hcell : ∀ (i : Nat) c, avs[i]? = some c → w.cell? ⟨g, 0 + i, none⟩ = some (vs.getD i undef) ∧ VR (old w) [] w c (vs.getD i undef) := fun i c hi => by
    have hlt : i < vs.length := by rw [← m1]; exact (List.getElem?_eq_some_iff.1 hi).1
    obtain ⟨a, k1, k2⟩ := m2 i vs[i] (List.getElem?_eq_getElem hlt)
    rw [hi] at k1
    injection k1 with k1; subst k1
    have hget : vs.getD i undef = vs[i] := by simp [List.getD, hlt]
    rw [hget]
    refine ⟨?_, ofValue_rel k2⟩
    rw [Nat.zero_add, World.var?_cell hg hv i]
    rw [← Array.getElem?_toList, hcs, List.getElem?_eq_getElem hlt]
  refine ⟨by simp, .ref avs g 0 (fun i => vs.getD i undef) (fun h0 => ?_) (fun i c hi => (hcell i c hi).1) (fun i c hi => (hcell i c hi).2)⟩
  exact cell_block (hcell 0 _ (List.getElem?_eq_getElem h0)).1

/-- A function of a program some of whose variables are known. -/
theorem entry_glob {T : RvTold} {P : Program} (hp : PrimOk P (T.cfg P)) (hm : P.follows .mixedOrders = true) {f : Nat} {args : List AV} {v : AV} {h' : Heap} (hc : call (T.cfg P) f args [] = some (.ret v, h'))
    {w : World} (hcl : ∀ g v, T.glob g = some v → ∀ h, freezeV h 0 40 v = some v) (hg : ∀ g v, T.glob g = some v → v ≠ .junk ∧ VR (old w) [] w v (.pointer (some ⟨g, 0, none⟩))) {vs : List Value} (H : VRs (old w) [] w args vs) : Calls P f vs.toArray w (fun e w' => Below w.heap.size w w' ∧ ∃ u s', e = .returned u ∧ VR s' h' w' v u) := by
  have G : GG (T.cfg P) (ordOk (T.cfg P)) { old w with good := ⟨goodOf (ordOk (T.cfg P)), fun _ _ => True⟩ } [] w := ⟨fun g x hx => (hg g x hx).2.regood _, rfl⟩
  have := RvTold.sound (T := T) (P := P) (fun g x hx => (hg g x hx).1) hcl hp hm hc (old_rel _ w) G (H.regood _)
  refine Calls.mono this fun e w' he => ?_
  obtain ⟨s', E, R, hv⟩ := he
  refine ⟨below_of_ext E, ?_⟩
  cases e with
  | returned u => exact ⟨u, s', rfl, hv⟩
  | panicked _ => exact hv.elim
  | outgrown => exact hv.elim
end
end Go.Rv
