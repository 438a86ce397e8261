/-
  'slices.Sort' at []int, as one step of the interpreter: what its model's calls come to.
-/
import Derived.Test.YtpnafmeehjfnaaaGreatDoorPtK
import Derived.Shelf.SortM.Plain
import Derived.Shelf.SortM.SortNone
set_option linter.unusedSectionVars false
set_option linter.unusedSimpArgs false
set_option linter.unusedVariables false
set_option linter.defProp false
namespace Go.Rv
open Go.Sort Go.RowKit Go.Proofs
def ZSortSays (P : Program) (f : Nat) : Prop :=
  (∀ (blk off cap : Nat) (ss : List Int) (w : World), Holds (Value.int .i64) w blk off ss.toArray → blk < w.heap.size → ss.length < 4611686018427387904 →
    Calls P f #[.slice (some ⟨blk, off, none⟩) ss.length cap] w fun e w' => e = .returned (.tuple #[]) ∧ ∃ n os, w' = grow (putRow (Value.int .i64) (Sort.ahead w n) blk off (ss.mergeSort fun x y => decide (x ≤ y)).toArray) os) ∧
  ∀ (p : Option Addr) (cap : Nat) (w : World), Calls P f #[.slice p 0 cap] w fun e w' => e = .returned (.tuple #[]) ∧ w' = w
section
variable {P : Program} {s : Sim} {h : Heap} {w : World}
theorem sortZ_ok {f : Nat} (hS : ZSortSays P f) {args : List AV} {res : CRes} {h' : Heap} (hp : sortZ args h = some (res, h')) {vs : List Value} (R : Rel s h w) (H : VRs s h w args vs) : CallOk P f vs s h w res h' := by
  unfold sortZ at hp
  split at hp <;> first | cases hp | skip
  · rename_i z r
    obtain ⟨v0, hvs0⟩ := List.length_eq_one_iff.1 (show vs.length = 1 by rw [← H.1]; rfl)
    subst hvs0
    obtain ⟨v1, hv1, hvr⟩ := H.2 0 _ rfl
    have hv1 : v0 = v1 := by simpa using hv1
    subst hv1
    have key : ∀ p cap, v0 = .slice p 0 cap → CallOk P f [v0] s h w (.ret (.tup [])) h := by
      rintro p cap rfl
      refine Calls.mono (hS.2 p cap w) fun e w' he => ?_
      obtain ⟨rfl, rfl⟩ := he
      exact ⟨s, Ext.refl _ _ _, R, .tup [] #[] rfl fun i c hi => by simp at hi⟩
    cases hvr with
    | lstNil => exact key _ _ rfl
    | lstEmpty => exact key _ _ rfl
    | lst => exact key _ _ rfl
  · rename_i o len g cap
    obtain ⟨cs, hcs, hp⟩ := Option.bind_eq_some_iff.1 hp
    split at hp <;> first | cases hp | skip
    rename_i hlen
    obtain ⟨hlen, hmax⟩ := hlen
    obtain ⟨ss, hss, hp⟩ := Option.map_eq_some_iff.1 hp
    simp only [Prod.mk.injEq] at hp
    obtain ⟨rfl, rfl⟩ := hp
    have hcsm := zsOf_eq hss
    subst hcsm
    simp only [List.length_map] at hlen
    have hsl : (sortedZ ss).length = ss.length := (sortedZ_perm ss).length_eq
    obtain ⟨v0, hvs0⟩ := List.length_eq_one_iff.1 (show vs.length = 1 by rw [← H.1]; rfl)
    subst hvs0
    obtain ⟨v1, hv1, hvr⟩ := H.2 0 _ rfl
    have hv1 : v0 = v1 := by simpa using hv1
    subst hv1
    have hgo := genOf_obj hcs
    cases hvr with
    | mslOld _ _ _ _ _ _ g' a n c k1 k2 => have := hgo.1; rw [this] at k1; injection k1; omega
    | msl _ _ _ _ _ _ b c el n off' hoff hg hb hle hcap hnone hsh hn =>
      by_cases h0 : ss.length = 0
      · have hs0 : ss = [] := List.length_eq_zero_iff.1 h0
        subst hs0
        simp only [List.length_nil] at hlen
        subst hlen
        have hset : h.set o (.cells ((sortedZ []).map (AV.int .i64)) g) = h := by
          have hx := hgo.2.1
          simp only [List.map_nil] at hx
          apply List.ext_getElem?
          intro i
          by_cases hi : o = i
          · subst hi
            rw [List.getElem?_set_self (List.getElem?_eq_some_iff.1 hx).1, hx]
            simp [sortedZ]
          · rw [List.getElem?_set_ne hi]
        rw [hset]
        refine Calls.mono (hS.2 _ _ w) fun e w' he => ?_
        obtain ⟨rfl, rfl⟩ := he
        exact ⟨s, Ext.refl _ _ _, R, .tup [] #[] rfl fun i c hi => by simp at hi⟩
      · have hoff0 : off' = 0 := by rcases hoff with h1 | h1 <;> omega
        subst hoff0
        obtain ⟨x, hx, hr⟩ := R.obj o b hb
        have hobj := hgo.2.1
        rw [hobj] at hx
        injection hx with hx; subst hx
        obtain ⟨bc, el', hheap, hsz, hcell⟩ := hr
        simp only [List.length_map] at hsz
        have hbl : b < w.heap.size := R.lt hb
        have hcs' : ∀ j, j < ss.length → bc[j]? = some ((Value.int .i64) ss[j]!) := by
          intro j hj
          obtain ⟨v, hv, hvr⟩ := hcell j (.int .i64 ss[j]) (by simp [hj])
          cases hvr
          rw [hv, getElem!_pos ss j hj]
        have hH : Holds (Value.int .i64) w b 0 ss.toArray := by
          intro j hj
          simp only [List.size_toArray] at hj
          constructor
          · unfold World.cell?
            simp only [hheap, Option.isSome_none, Bool.false_eq_true, if_false, Nat.zero_add]
            rw [hcs' j hj]; simp
          · unfold World.frozen?
            simp only [hheap]
            simp
        have hlt62 : ss.length < 4611686018427387904 := by omega
        have hcall := hS.1 b 0 c ss w hH hbl hlt62
        rw [hlen] at hcall
        refine Calls.mono hcall fun e w' he => ?_
        obtain ⟨rfl, nn, os, rfl⟩ := he
        have hput : (grow (putRow (Value.int .i64) (Sort.ahead w nn) b 0 (ss.mergeSort fun x y => decide (x ≤ y)).toArray) os).heap[b]? = some (.cells (putCells (Value.int .i64) 0 (sortedZ ss).toArray bc) el' (0, 0)) := by
          rw [heap_grow_old _ _ (by simpa [putRow, mapBlock, Sort.ahead] using hbl)]
          simp only [putRow, mapBlock, Sort.ahead, ← sortedZ_eq, Array.getElem?_modify, if_true, hheap, Option.map_some, onCells]
        have hfar : ∀ k, k < w.heap.size → k ≠ b → (grow (putRow (Value.int .i64) (Sort.ahead w nn) b 0 (ss.mergeSort fun x y => decide (x ≤ y)).toArray) os).heap[k]? = w.heap[k]? := by
          intro k hk hne
          rw [heap_grow_old _ _ (by simpa [putRow, mapBlock, Sort.ahead] using hk)]
          simp only [putRow, mapBlock, Sort.ahead, Array.getElem?_modify, if_neg (Ne.symm hne)]
        have W : Wrote w (grow (putRow (Value.int .i64) (Sort.ahead w nn) b 0 (ss.mergeSort fun x y => decide (x ≤ y)).toArray) os) b :=
          { size := by simp [putRow, mapBlock, Sort.ahead]
            far := hfar
            shape := fun k x hx => by
              by_cases e : k = b
              · subst e
                unfold World.shape? at *
                rw [hput]
                rw [hheap] at hx
                simpa [putCells] using hx
              · rw [shape_of (hfar k (shape_lt hx) e)]; exact hx
            os := rfl
            tape := rfl
            output := rfl }
        have hs : s.add o b = s := by
          unfold Sim.add
          cases s with
          | mk μ I G =>
            congr 1
            funext k
            by_cases e : k = o
            · subst e; simp [show μ k = some b from hb]
            · simp [e]
        have key := write_cells R (b' := b) (g' := g) (cs' := (sortedZ ss).map (AV.int .i64)) hb hobj (Nat.le_refl _) (fun _ => by simp [hsl]) (.inl rfl) W hput (by simp [putCells, hsl]; omega) (fun i x hi => by
          rw [List.getElem?_map] at hi
          obtain ⟨t, ht, rfl⟩ := Option.map_eq_some_iff.1 hi
          have hil : i < (sortedZ ss).length := (List.getElem?_eq_some_iff.1 ht).1
          have hib : i < bc.size := by omega
          refine ⟨(Value.int .i64) t, ?_, .int _ _⟩
          simp only [putCells, Array.getElem?_mapIdx]
          rw [Array.getElem?_eq_getElem hib]
          have hg : (sortedZ ss)[i] = t := by
            have := (List.getElem?_eq_some_iff.1 ht).2; exact this
          simp [hil, hg])
        rw [hs] at key
        exact ⟨s, key.1, key.2, .tup [] #[] rfl fun i c hi => by simp at hi⟩
end
end Go.Rv
