/-
  'slices.Sort' at []string, as one step of the interpreter: the slice's object holds the texts, sorted.
-/
import Derived.Test.YtpnafmeehjfnaaaGreatDoorRvGlob
set_option linter.unusedSimpArgs false
set_option linter.unusedVariables false
namespace Go.Rv

def strsOf : List AV → Option (List (List UInt8))
  | [] => some []
  | .str s :: r => (strsOf r).map (s :: ·)
  | _ => none
theorem strsOf_map : ∀ l : List (List UInt8), strsOf (l.map AV.str) = some l
  | [] => rfl
  | a :: r => by simp [strsOf, strsOf_map r]
theorem strsOf_eq : ∀ {cs : List AV} {l : List (List UInt8)}, strsOf cs = some l → cs = l.map AV.str
  | [], l, h => by simp only [strsOf, Option.some.injEq] at h; subst h; rfl
  | c :: r, l, h => by
    cases c <;> simp only [strsOf, reduceCtorEq] at h
    obtain ⟨l', hl, rfl⟩ := Option.map_eq_some_iff.1 h
    rw [strsOf_eq hl]; rfl

def insS (x : List UInt8) : List (List UInt8) → List (List UInt8)
  | [] => [x]
  | y :: r => match decide (x ≤ y) with
    | true => x :: y :: r
    | false => y :: insS x r
def sortedS : List (List UInt8) → List (List UInt8)
  | [] => []
  | x :: r => insS x (sortedS r)
theorem insS_perm (x : List UInt8) : ∀ l, (insS x l).Perm (x :: l)
  | [] => List.Perm.refl _
  | y :: r => by
    simp only [insS]
    cases decide (x ≤ y) with
    | true => exact List.Perm.refl _
    | false => exact ((insS_perm x r).cons y).trans (List.Perm.swap x y r)
theorem sortedS_perm : ∀ l, (sortedS l).Perm l
  | [] => List.Perm.refl _
  | x :: r => (insS_perm x (sortedS r)).trans ((sortedS_perm r).cons x)
theorem insS_sorted (x : List UInt8) : ∀ l, l.Pairwise (fun a b : List UInt8 => a ≤ b) → (insS x l).Pairwise (fun a b : List UInt8 => a ≤ b)
  | [], _ => by simp [insS]
  | y :: r, h => by
    have h1 := List.pairwise_cons.1 h
    simp only [insS]
    cases hd : decide (x ≤ y) with
    | true =>
      have hxy : x ≤ y := by simpa using hd
      refine List.pairwise_cons.2 ⟨fun a ha => ?_, h⟩
      rcases List.mem_cons.1 ha with rfl | ha
      · exact hxy
      · exact List.le_trans hxy (h1.1 a ha)
    | false =>
      have hxy : ¬ x ≤ y := by simpa using hd
      have hyx : y ≤ x := (List.le_total x y).resolve_left hxy
      refine List.pairwise_cons.2 ⟨fun a ha => ?_, insS_sorted x r h1.2⟩
      rcases List.mem_cons.1 ((insS_perm x r).mem_iff.1 ha) with rfl | ha
      · exact hyx
      · exact h1.1 a ha
theorem sortedS_sorted : ∀ l, (sortedS l).Pairwise (fun a b : List UInt8 => a ≤ b)
  | [] => by simp [sortedS]
  | x :: r => insS_sorted x _ (sortedS_sorted r)
theorem sortedS_eq (l : List (List UInt8)) : l.mergeSort (fun x y => decide (x ≤ y)) = sortedS l := by
  have h1 : (l.mergeSort (fun x y => decide (x ≤ y))).Pairwise (fun a b : List UInt8 => a ≤ b) := by
    refine (List.pairwise_mergeSort (le := fun x y : List UInt8 => decide (x ≤ y)) (fun a b c h1 h2 => ?_) (fun a b => ?_) l).imp fun h => by simpa using h
    · simp only [decide_eq_true_eq] at *; exact List.le_trans h1 h2
    · have := List.le_total a b
      simpa [Bool.or_eq_true] using this
  exact List.Perm.eq_of_pairwise (le := fun a b : List UInt8 => a ≤ b) (fun a b _ _ x y => List.le_antisymm x y) h1 (sortedS_sorted l) ((List.mergeSort_perm l _).trans (sortedS_perm l).symm)

/-- slices.Sort of a slice of texts that fills its object, or of none. -/
def sortStr (args : List AV) (h : Heap) : Option (CRes × Heap) :=
  match args with
  | [.lst [] _ _] => some (.ret (.tup []), h)
  | [.msl o 0 len 1 g _] => (h.obj o g).bind fun cs => if cs.length = len ∧ len ≤ 1000000000 then (strsOf cs).map fun ss => (.ret (.tup []), h.set o (.cells ((sortedS ss).map AV.str) g)) else none
  | _ => none
end Go.Rv
