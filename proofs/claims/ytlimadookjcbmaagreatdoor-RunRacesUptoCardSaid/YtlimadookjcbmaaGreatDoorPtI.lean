/-
  'slices.Sort' at []string, as one step of the interpreter: the slice's object holds the texts, sorted.
-/
import Derived.Test.YtlimadookjcbmaaGreatDoorPtH
import Derived.Test.YtlimadookjcbmaaGreatDoorProg
import Derived.KernelRfl
set_option linter.unusedSectionVars false
set_option linter.unusedSimpArgs false
set_option linter.unusedVariables false
set_option linter.defProp false
set_option maxHeartbeats 4000000
set_option maxRecDepth 100000
namespace Go.Rv
def strsOf : List AV → Option (List (List UInt8))
  | [] => some []
  | .str s :: r => (strsOf r).map (s :: ·)
  | _ => none
theorem strsOf_map : ∀ l : List (List UInt8), strsOf (l.map AV.str) = some l
  | [] => rfl
  | a :: r => by simp [strsOf, strsOf_map r]
theorem strsOf_eq : ∀ {cs : List AV} {l : List (List UInt8)}, strsOf cs = some l → cs = l.map AV.str
  | [], l, h => by simp only [strsOf, Option.some.injEq] at h; subst h; rfl
  | c :: r, l, h => by
    cases c <;> simp only [strsOf, reduceCtorEq] at h
    obtain ⟨l', hl, rfl⟩ := Option.map_eq_some_iff.1 h
    rw [strsOf_eq hl]; rfl
def insS (x : List UInt8) : List (List UInt8) → List (List UInt8)
  | [] => [x]
  | y :: r => match decide (x ≤ y) with
    | true => x :: y :: r
    | false => y :: insS x r
def sortedS : List (List UInt8) → List (List UInt8)
  | [] => []
  | x :: r => insS x (sortedS r)
theorem insS_perm (x : List UInt8) : ∀ l, (insS x l).Perm (x :: l)
  | [] => List.Perm.refl _
  | y :: r => by
    simp only [insS]
    cases decide (x ≤ y) with
    | true => exact List.Perm.refl _
    | false => exact ((insS_perm x r).cons y).trans (List.Perm.swap x y r)
theorem sortedS_perm : ∀ l, (sortedS l).Perm l
  | [] => List.Perm.refl _
  | x :: r => (insS_perm x (sortedS r)).trans ((sortedS_perm r).cons x)
theorem insS_sorted (x : List UInt8) : ∀ l, l.Pairwise (fun a b : List UInt8 => a ≤ b) → (insS x l).Pairwise (fun a b : List UInt8 => a ≤ b)
  | [], _ => by simp [insS]
  | y :: r, h => by
    have h1 := List.pairwise_cons.1 h
    simp only [insS]
    cases hd : decide (x ≤ y) with
    | true =>
      have hxy : x ≤ y := by simpa using hd
      refine List.pairwise_cons.2 ⟨fun a ha => ?_, h⟩
      rcases List.mem_cons.1 ha with rfl | ha
      · exact hxy
      · exact List.le_trans hxy (h1.1 a ha)
    | false =>
      have hxy : ¬ x ≤ y := by simpa using hd
      have hyx : y ≤ x := (List.le_total x y).resolve_left hxy
      refine List.pairwise_cons.2 ⟨fun a ha => ?_, insS_sorted x r h1.2⟩
      rcases List.mem_cons.1 ((insS_perm x r).mem_iff.1 ha) with rfl | ha
      · exact hyx
      · exact h1.1 a ha
theorem sortedS_sorted : ∀ l, (sortedS l).Pairwise (fun a b : List UInt8 => a ≤ b)
  | [] => by simp [sortedS]
  | x :: r => insS_sorted x _ (sortedS_sorted r)
theorem sortedS_eq (l : List (List UInt8)) : l.mergeSort (fun x y => decide (x ≤ y)) = sortedS l := by
  have h1 : (l.mergeSort (fun x y => decide (x ≤ y))).Pairwise (fun a b : List UInt8 => a ≤ b) := by
    refine (List.pairwise_mergeSort (le := fun x y : List UInt8 => decide (x ≤ y)) (fun a b c h1 h2 => ?_) (fun a b => ?_) l).imp fun h => by simpa using h
    · simp only [decide_eq_true_eq] at *; exact List.le_trans h1 h2
    · have := List.le_total a b
      simpa [Bool.or_eq_true] using this
  exact List.Perm.eq_of_pairwise (le := fun a b : List UInt8 => a ≤ b) (fun a b _ _ x y => List.le_antisymm x y) h1 (sortedS_sorted l) ((List.mergeSort_perm l _).trans (sortedS_perm l).symm)
def sortStr (args : List AV) (h : Heap) : Option (CRes × Heap) :=
  match args with
  | [.lst [] _ _] => some (.ret (.tup []), h)
  | [.msl o 0 len 1 g _] => (h.obj o g).bind fun cs => if cs.length = len ∧ len ≤ 1000000000 then (strsOf cs).map fun ss => (.ret (.tup []), h.set o (.cells ((sortedS ss).map AV.str) g)) else none
  | _ => none
end Go.Rv
namespace Go.Proofs.Sx
open Go.Rv Go.Proofs
noncomputable section
def im (f t : Nat) : Bool := match f with
  | 3 => match t with | 3 => true | _ => false
  | 4 => match t with | 3 => true | _ => false
  | 5 => match t with | 3 => true | _ => false
  | 6 => match t with | 2 => true | _ => false
  | 7 => match t with | 1 => true | _ => false
  | 9 => match t with | 2 => true | _ => false
  | 10 => match t with | 2 => true | 3 => true | _ => false
  | 11 => match t with | 2 => true | 3 => true | _ => false
  | 12 => match t with | 2 => true | 3 => true | _ => false
  | 13 => match t with | 2 => true | _ => false
  | 15 => match t with | 1 => true | 45 => true | _ => false
  | 18 => match t with | 2 => true | 33 => true | _ => false
  | 21 => match t with | 2 => true | 3 => true | _ => false
  | 24 => match t with | 68 => true | _ => false
  | 26 => match t with | 1 => true | _ => false
  | 27 => match t with | 36 => true | 40 => true | _ => false
  | 29 => match t with | 1 => true | 18 => true | _ => false
  | 37 => match t with | 15 => true | _ => false
  | 42 => match t with | 26 => true | _ => false
  | 43 => match t with | 1 => true | 18 => true | 35 => true | _ => false
  | 45 => match t with | 1 => true | _ => false
  | 47 => match t with | 2 => true | _ => false
  | 48 => match t with | 2 => true | 3 => true | _ => false
  | 49 => match t with | 1 => true | _ => false
  | 59 => match t with | 20 => true | _ => false
  | 68 => match t with | 20 => true | _ => false
  | 69 => match t with | 20 => true | 50 => true | _ => false
  | 83 => match t with | 3 => true | _ => false
  | 84 => match t with | 3 => true | 4 => true | 5 => true | _ => false
  | 102 => match t with | 1 => true | _ => false
  | 103 => match t with | 2 => true | 3 => true | _ => false
  | 104 => match t with | 2 => true | _ => false
  | 105 => match t with | 4 => true | 5 => true | 6 => true | 7 => true | _ => false
  | 106 => match t with | 1 => true | 27 => true | 34 => true | _ => false
  | 107 => match t with | 1 => true | _ => false
  | 133 => match t with | 1 => true | _ => false
  | 134 => match t with | 1 => true | _ => false
  | _ => false
def pu (f : Nat) : Bool := match f with
  | 15 => false
  | 16 => false
  | 17 => false
  | 18 => false
  | 19 => false
  | 20 => false
  | 22 => false
  | 23 => false
  | 27 => false
  | 30 => false
  | 31 => false
  | 50 => false
  | 52 => false
  | 53 => false
  | 54 => false
  | 58 => false
  | 60 => false
  | 61 => false
  | 62 => false
  | 63 => false
  | 64 => false
  | 65 => false
  | 66 => false
  | 67 => false
  | 68 => false
  | 69 => false
  | 70 => false
  | 71 => false
  | 72 => false
  | 75 => false
  | 76 => false
  | 87 => false
  | 91 => false
  | 92 => false
  | 93 => false
  | 94 => false
  | 111 => false
  | 127 => false
  | 157 => false
  | _ => true
def lv (f r : Nat) : Option (List Nat) := match f with
  | 2 => some []
  | 3 => some [0, 1, 2, 3, 6, 7, 8, 9, 10, 32, 54, 60]
  | 4 => some [0, 1, 2, 3, 6, 7, 8, 9, 10, 11, 12, 13, 24, 54, 99, 104, 117, 122, 135]
  | 5 => some [0, 1, 2, 3, 6, 7, 8, 9, 10, 11, 12, 23, 32, 65, 99]
  | 6 => some [0, 1, 2, 4, 5, 6, 7, 8, 9, 10, 11, 22, 31, 39, 63, 78, 80]
  | 7 => some [0, 1, 2, 3, 4, 5, 21, 26, 45, 63, 77]
  | 8 => some [0, 1, 2]
  | 9 => some [0, 1, 2, 4, 5, 6, 7, 13, 18]
  | 10 => some [0, 1, 2, 3, 4, 5, 6, 7, 8, 47, 52, 65, 70, 83, 88, 98, 132]
  | 11 => some [0, 1, 2, 3, 4, 5]
  | 12 => some [0, 1, 2, 3, 4, 5]
  | 13 => some [0, 1, 2, 4, 5, 6, 7, 8, 10, 17, 21, 22, 23, 28, 33, 44]
  | 14 => some [0]
  | 15 => some [0, 1, 2, 3, 4, 5, 6, 8, 11, 22, 30, 31, 32, 33]
  | 16 => some [0, 4, 5]
  | 17 => some [0, 2, 3, 4, 5, 7, 12, 13, 14, 31]
  | 18 => some [0, 1, 2, 4, 5, 6, 7, 8, 10, 11, 12, 28, 30]
  | 19 => some [0, 1, 2, 5, 6]
  | 20 => some [0, 1, 4, 5, 6, 7, 9, 14]
  | 21 => some [0, 1, 2, 3, 4, 5, 6, 7, 14]
  | 22 => some [0, 1, 2, 5, 6]
  | 23 => some [0, 1, 4, 5, 6, 7, 10, 22, 54]
  | 24 => some [0, 2, 3, 4, 5, 6, 7, 8, 9, 11, 12, 13, 32, 63]
  | 25 => some [0, 1, 4]
  | 26 => some [0, 1, 2, 16]
  | 27 => some [0, 1, 4, 5, 6, 8, 9, 12, 23, 24, 25, 26]
  | 28 => some [0, 1, 2, 3, 4, 5, 20, 21, 22, 41, 42, 43, 44]
  | 29 => some [0, 1, 2, 3, 4, 5, 7, 8, 9, 10, 15]
  | 30 => some [0, 1, 2, 6, 7]
  | 31 => some [0, 2, 8, 18]
  | 32 => some [0, 1, 4, 5, 6, 8, 20]
  | 33 => some [0, 2, 4]
  | 34 => some [0, 2, 4]
  | 35 => some [0, 2, 4]
  | 36 => some [0, 2, 4]
  | 37 => some [0, 2, 3, 4, 6, 7, 8, 12]
  | 38 => some [0, 1, 4, 30]
  | 39 => some [0, 1, 4]
  | 40 => some [0]
  | 41 => some [0, 2, 4]
  | 42 => some [0, 1, 4, 5, 6, 7, 8, 10, 14, 40, 59]
  | 43 => some [0, 1, 2, 3, 5, 7, 9, 10, 11, 12, 26, 27, 28, 29]
  | 44 => some [0, 1, 4]
  | 45 => some [0, 1, 2]
  | 46 => some [0, 1, 4]
  | 47 => some [0, 1, 2, 3]
  | 48 => some [0, 1, 2, 3, 4, 5, 6, 46, 59]
  | 49 => some [0, 1, 2]
  | 50 => some [0, 1, 4, 5, 6, 7, 8, 10, 26, 37]
  | 51 => some [0, 2, 4]
  | 52 => some [0, 2, 4]
  | 53 => some [0, 2, 4]
  | 54 => some [0, 2, 4]
  | 55 => some [0, 1, 4]
  | 56 => some [0, 2]
  | 57 => some [0, 1, 4, 5, 6, 7, 9]
  | 58 => some [0, 2, 4]
  | 59 => some [0, 2, 3, 5, 7, 11, 12, 13, 14]
  | 60 => some [0]
  | 61 => some [0]
  | 62 => some [0]
  | 63 => some [0]
  | 64 => some [0, 2, 3]
  | 65 => some [0]
  | 66 => some [0]
  | 67 => some [0]
  | 68 => some [0]
  | 69 => some [0, 2, 4, 5, 10, 11, 12, 13]
  | 70 => some [0]
  | 71 => some [0, 9]
  | 72 => some [0, 2, 3, 4, 45]
  | 73 => some [0, 2, 8]
  | 74 => some [0, 1, 2, 6, 7, 8, 9, 18]
  | 75 => some [0, 2]
  | 76 => some [0, 2, 3, 4, 5, 8, 13, 25, 32, 44]
  | 77 => some [0, 1, 4]
  | 78 => some [0, 2]
  | 79 => some [0, 2, 24]
  | 80 => some [0, 1, 4, 5, 7, 8, 9, 16]
  | 81 => some [0, 1, 4, 5, 7, 8, 9, 16]
  | 82 => some [0, 1, 4]
  | 83 => some [0, 1, 2, 3, 4]
  | 84 => some [0, 1, 2, 3, 4, 5, 6, 7, 8, 9, 10, 11, 34, 36, 37, 45]
  | 85 => some [0, 1, 4, 5, 6, 7, 8, 9]
  | 86 => some [0, 1, 4, 5, 7, 8, 9, 16]
  | 87 => some [0, 1, 2, 7]
  | 88 => some [0, 1, 4]
  | 89 => some [0, 1, 4, 5, 6, 7, 11]
  | 90 => some [0, 1, 2, 6, 7, 8, 9, 29]
  | 91 => some [0, 1, 5]
  | 92 => some [0, 1, 2, 3, 8, 9, 10, 19]
  | 93 => some [0, 1, 2, 6, 7, 9, 14, 25]
  | 94 => some [0, 1, 2, 6, 7, 8, 9, 14, 31]
  | 95 => some [0, 1, 2, 6, 7, 8, 11, 23]
  | 96 => some [0, 1, 2, 3, 8, 9, 10, 11, 12, 13, 14, 15, 16, 17, 18, 23, 29, 35, 50, 68, 72, 87, 113]
  | 97 => some [0, 2]
  | 98 => some [0, 1, 4, 5, 7, 8, 9, 16]
  | 99 => some [0, 1, 4]
  | 100 => some [0, 1, 4, 5, 6, 12, 21, 34]
  | 101 => some [0, 1, 4, 5, 7, 8, 9, 16]
  | 102 => some [0, 1, 2, 3, 12]
  | 103 => some [0, 1, 2, 3, 4]
  | 104 => some [0, 1, 2, 3, 4, 7, 10, 13, 17, 21]
  | 105 => some [0, 1, 2, 3, 4, 5, 6, 7, 8, 9, 13, 14, 22, 30, 41, 52, 63]
  | 106 => some [0, 1, 2, 3, 5, 23, 30, 38]
  | 107 => some [0, 1, 2, 3, 4, 5, 15]
  | 108 => some [0, 1, 4, 5, 6]
  | 109 => some [0, 1, 4, 5, 6, 7, 8, 9, 10, 11, 12, 13]
  | 110 => some [0, 2, 3]
  | 111 => some [0, 1]
  | 112 => some [0, 1, 4, 5, 8]
  | 113 => some [0, 1, 2, 6, 7, 12, 30]
  | 114 => some [0, 1, 2, 6, 7, 8, 9, 10, 19, 30]
  | 115 => some [0, 1, 2, 6, 7, 8, 9, 10, 15, 33, 43]
  | 116 => some [0, 1, 2, 6, 7, 8, 9, 10, 11, 12, 32, 34, 49, 51, 54]
  | 117 => some [0, 1, 2, 6, 7, 13]
  | 118 => some [0, 1, 2, 6, 7, 8, 9, 10, 14, 32, 37, 41, 61, 65, 78, 98, 103, 116]
  | 119 => some [0, 1, 4]
  | 120 => some [0, 1, 2, 3, 8, 9, 10, 43, 59, 64]
  | 121 => some [0, 1, 2, 3, 8, 9, 10, 11, 43, 60, 65, 112, 129, 134]
  | 122 => some [0, 2, 4, 8]
  | 123 => some [0, 2, 4, 8, 14]
  | 124 => some [0, 1, 4, 5, 7, 8, 9, 16]
  | 125 => some [0, 1, 4, 13]
  | 126 => some [0, 1, 4, 16]
  | 127 => some [0, 2, 3, 4, 5, 9, 16]
  | 128 => some [0, 1, 4, 7, 12]
  | 129 => some [0, 1, 4, 7, 15]
  | 130 => some [0, 1, 4, 5, 6, 9, 18]
  | 131 => some [0, 1, 4, 5, 6, 9, 17, 26]
  | 132 => some [0, 1, 4, 5, 10, 12, 13, 14, 24]
  | 133 => some [0, 1, 2]
  | 134 => some [0, 1, 2]
  | 135 => some [0, 1, 2, 5]
  | 136 => some [0, 1, 4]
  | 137 => some [0, 1, 4]
  | 138 => some [0, 1, 4]
  | 139 => some [0, 1, 4]
  | 140 => some [0, 1, 4]
  | 141 => some [0, 1, 4]
  | 142 => some [0, 1, 4]
  | 143 => some [0, 1, 4]
  | 144 => some [0, 1, 4]
  | 145 => some [0, 1, 4]
  | 146 => some [0, 1, 4]
  | 147 => some [0, 1, 2, 3, 8, 9, 16, 36, 52]
  | 148 => some [0, 2]
  | 149 => some [0, 2]
  | 150 => some [0, 1, 2, 6]
  | 151 => some [0, 1, 2, 3, 4, 10]
  | 152 => some [0, 2]
  | 153 => some [0, 1, 4]
  | 154 => some [0, 2, 3, 10]
  | 155 => some [0, 1, 4]
  | 156 => some [0, 2, 3, 4, 5, 6, 10, 18, 27, 33, 35, 48]
  | 157 => some [0, 1, 4, 5, 6, 7, 8, 14]
  | 158 => some [0, 1, 2, 3, 8, 9, 18]
  | 159 => some [0, 2, 3, 4, 5, 6, 7, 8, 9, 10, 11, 12, 16, 23, 45, 57, 59, 75, 77, 98]
  | 160 => some [0, 1, 4, 5, 6, 7, 8, 9, 10, 11, 12, 13, 14, 15, 16, 26, 33, 43, 51, 64, 98, 108, 124, 139, 143, 156, 160, 171, 175, 176, 177, 181, 183]
  | 161 => some [0, 2]
  | 162 => some [0, 1, 4]
  | 163 => some [0, 2, 3, 10]
  | 164 => some [0, 2]
  | 166 => some [0, 1, 4]
  | 192 => some []
  | _ => none
def lo (f t : Nat) : List Nat := match f with
  | 15 => match t with | 43 => [2, 3, 4] | 44 => [2, 3, 4] | _ => []
  | 22 => match t with | 16 => [0, 2, 3] | _ => []
  | 27 => match t with | 39 => [2, 3, 4] | _ => []
  | 28 => match t with | 11 => [6, 7, 9] | 14 => [9] | 33 => [0, 1] | _ => []
  | 68 => match t with | 21 => [1, 2, 3] | _ => []
  | 69 => match t with | 49 => [2, 3] | _ => []
  | _ => []
def opRows : List (Bool × Bool × Bool × Bool × Int) := [(false, false, false, false, 0), (true, false, false, false, 1), (true, true, false, false, 0), (true, true, false, false, 2), (true, true, true, false, 3), (true, true, false, true, 4), (false, true, true, true, 4),
  (false, false, false, false, 5), (false, false, false, false, 5), (false, true, false, false, 0), (true, false, false, false, 6), (false, false, false, false, 7), (false, true, false, false, 7), (false, true, false, false, 0)]
def opCells : List AV := (opRows.map fun q => [AV.bool q.1, .bool q.2.1, .bool q.2.2.1, .bool q.2.2.2.1, .int .i64 q.2.2.2.2]).flatten
def wordsOf : List String := ["global", "array", "lock", "func", "thread", "var", "if", "else", "while", "with", "print", "call", "return", "true", "false"]
def wordCells : List AV := wordsOf.map fun s => .str s.toUTF8.data.toList
def glb (g : Nat) : Option AV := match g with
  | 0 => some (.ref wordCells)
  | 1 => some (.ref opCells)
  | _ => none
def prm (f : Nat) : Option (List AV → Heap → Option (CRes × Heap)) := match f with
  | 75 => some sortStr
  | _ => none
def told : RvTold := { pure := pu, imm := im, live := lv, glob := glb, prim := prm, loose := lo }
def cfg : Cfg := told.cfg Tryz.prog
def cfg0 : Cfg := told.bare Tryz.prog
instance : NoAlone cfg := ⟨fun _ => rfl⟩
instance : NoRounds cfg := ⟨fun _ => rfl⟩
theorem qt_eq (f t : Nat) : cfg.quiet f t = false := rfl
theorem fnat {f : Nat} {fn : Func} {b : Code} (h1 : Tryz.prog.funcs[f]? = some fn) (h2 : fn.body = some b) (h3 : okB cfg0 f fn b = true) : cfg.fn f = some ⟨fn.params.size + fn.nfree, fn.results.toList, b⟩ := fn_of (T := told) h1 h2 h3
theorem ty2 : cfg.ty 2 = some ⟨.int .i64, 1, 8, [.int .i64 0]⟩ := by kernel_rfl
theorem ty3 : cfg.ty 3 = some ⟨.int .i64, 1, 8, [.int .i64 0]⟩ := by kernel_rfl
theorem ty4 : cfg.ty 4 = some ⟨.bool, 1, 1, [.bool false]⟩ := by kernel_rfl
theorem ty5 : cfg.ty 5 = some ⟨.int .u8, 1, 1, [.int .u8 0]⟩ := by kernel_rfl
theorem ty9 : cfg.ty 9 = some ⟨.str, 1, 16, [.str []]⟩ := by kernel_rfl
theorem ty22 : cfg.ty 22 = some ⟨.slice 101, 1, 24, [.lst [] 0 .nil]⟩ := by kernel_rfl
theorem ty23 : cfg.ty 23 = some ⟨.slice 9, 1, 24, [.lst [] 0 .nil]⟩ := by kernel_rfl
theorem ty24 : cfg.ty 24 = some ⟨.slice 47, 1, 24, [.lst [] 0 .nil]⟩ := by kernel_rfl
theorem ty26 : cfg.ty 26 = some ⟨.struct [(22, 0), (23, 1), (24, 2)], 3, 72, [.lst [] 0 .nil, .lst [] 0 .nil, .lst [] 0 .nil]⟩ := by kernel_rfl
theorem ty29 : cfg.ty 29 = some ⟨.slice 2, 1, 24, [.lst [] 0 .nil]⟩ := by kernel_rfl
theorem ty30 : cfg.ty 30 = some ⟨.slice 29, 1, 24, [.lst [] 0 .nil]⟩ := by kernel_rfl
theorem ty31 : cfg.ty 31 = some ⟨.slice 3, 1, 24, [.lst [] 0 .nil]⟩ := by kernel_rfl
theorem ty33 : cfg.ty 33 = some ⟨.struct [(5, 0), (29, 1), (30, 2), (3, 3), (31, 4)], 5, 88, [.int .u8 0, .lst [] 0 .nil, .lst [] 0 .nil, .int .i64 0, .lst [] 0 .nil]⟩ := by kernel_rfl
theorem ty39 : cfg.ty 39 = some ⟨.int .u64, 1, 8, [.int .u64 0]⟩ := by kernel_rfl
theorem ty45 : cfg.ty 45 = some ⟨.slice 49, 1, 24, [.lst [] 0 .nil]⟩ := by kernel_rfl
theorem ty47 : cfg.ty 47 = some ⟨.struct [(9, 0), (4, 1), (3, 2), (3, 3), (45, 4)], 5, 64, [.str [], .bool false, .int .i64 0, .int .i64 0, .lst [] 0 .nil]⟩ := by kernel_rfl
theorem ty49 : cfg.ty 49 = some ⟨.struct [(5, 0), (3, 1), (3, 2), (3, 3), (2, 4), (31, 5)], 6, 64, [.int .u8 0, .int .i64 0, .int .i64 0, .int .i64 0, .int .i64 0, .lst [] 0 .nil]⟩ := by kernel_rfl
theorem ty51 : cfg.ty 51 = some ⟨.ptr, 1, 8, [.nilPtr]⟩ := by kernel_rfl
theorem ty55 : cfg.ty 55 = some ⟨.func, 1, 8, [.nilFunc]⟩ := by kernel_rfl
theorem ty57 : cfg.ty 57 = some ⟨.struct [(55, 0), (3, 1), (4, 2)], 3, 24, [.nilFunc, .int .i64 0, .bool false]⟩ := by kernel_rfl
theorem ty62 : cfg.ty 62 = some ⟨.slice 98, 1, 24, [.lst [] 0 .nil]⟩ := by kernel_rfl
theorem ty65 : cfg.ty 65 = some ⟨.ptr, 1, 8, [.nilPtr]⟩ := by kernel_rfl
theorem ty69 : cfg.ty 69 = some ⟨.slice 76, 1, 24, [.lst [] 0 .nil]⟩ := by kernel_rfl
theorem ty71 : cfg.ty 71 = some ⟨.struct [(26, 0), (65, 3), (69, 4), (3, 5), (29, 6), (5, 7)], 8, 144, [.lst [] 0 .nil, .lst [] 0 .nil, .lst [] 0 .nil, .nilPtr, .lst [] 0 .nil, .int .i64 0, .lst [] 0 .nil, .int .u8 0]⟩ := by kernel_rfl
theorem ty74 : cfg.ty 74 = some ⟨.struct [(3, 0), (3, 1), (29, 2)], 3, 40, [.int .i64 0, .int .i64 0, .lst [] 0 .nil]⟩ := by kernel_rfl
theorem ty76 : cfg.ty 76 = some ⟨.slice 74, 1, 24, [.lst [] 0 .nil]⟩ := by kernel_rfl
theorem ty83 : cfg.ty 83 = some ⟨.int .u64, 1, 8, [.int .u64 0]⟩ := by kernel_rfl
theorem ty84 : cfg.ty 84 = some ⟨.ptr, 1, 8, [.nilPtr]⟩ := by kernel_rfl
theorem ty89 : cfg.ty 89 = some ⟨.struct [(51, 0), (3, 1), (84, 2), (49, 3), (4, 9)], 10, 96, [.nilPtr, .int .i64 0, .nilPtr, .int .u8 0, .int .i64 0, .int .i64 0, .int .i64 0, .int .i64 0, .lst [] 0 .nil, .bool false]⟩ := by kernel_rfl
theorem ty90 : cfg.ty 90 = some ⟨.func, 1, 8, [.nilFunc]⟩ := by kernel_rfl
theorem ty91 : cfg.ty 91 = some ⟨.array 14 90, 14, 112, [.nilFunc, .nilFunc, .nilFunc, .nilFunc, .nilFunc, .nilFunc, .nilFunc, .nilFunc, .nilFunc, .nilFunc, .nilFunc, .nilFunc, .nilFunc, .nilFunc]⟩ := by kernel_rfl
theorem ty95 : cfg.ty 95 = some ⟨.struct [(3, 0), (3, 1), (4, 2)], 3, 24, [.int .i64 0, .int .i64 0, .bool false]⟩ := by kernel_rfl
theorem ty98 : cfg.ty 98 = some ⟨.array 2 3, 2, 16, [.int .i64 0, .int .i64 0]⟩ := by kernel_rfl
theorem ty101 : cfg.ty 101 = some ⟨.struct [(9, 0), (3, 1), (2, 2)], 3, 32, [.str [], .int .i64 0, .int .i64 0]⟩ := by kernel_rfl
theorem ty106 : cfg.ty 106 = some ⟨.map 3 3, 1, 8, [.nilMap]⟩ := by kernel_rfl
theorem ty108 : cfg.ty 108 = some ⟨.struct [(30, 0), (3, 1), (106, 2)], 3, 40, [.lst [] 0 .nil, .int .i64 0, .nilMap]⟩ := by kernel_rfl
theorem ty148 : cfg.ty 148 = some ⟨.array 15 9, 15, 240, [.str [], .str [], .str [], .str [], .str [], .str [], .str [], .str [], .str [], .str [], .str [], .str [], .str [], .str [], .str []]⟩ := by kernel_rfl
theorem ty152 : cfg.ty 152 = some ⟨.struct [(4, 0), (4, 1), (4, 2), (4, 3), (3, 4)], 5, 16, [.bool false, .bool false, .bool false, .bool false, .int .i64 0]⟩ := by kernel_rfl
theorem ty168 : cfg.ty 168 = some ⟨.func, 1, 8, [.nilFunc]⟩ := by kernel_rfl
theorem ty170 : cfg.ty 170 = some ⟨.map 5 168, 1, 8, [.nilMap]⟩ := by kernel_rfl
theorem ty185 : cfg.ty 185 = some ⟨.array 256 4, 256, 256, copies 256 [.bool false]⟩ := by kernel_rfl
theorem ty190 : cfg.ty 190 = some ⟨.array 14 152, 70, 224, [.bool false, .bool false, .bool false, .bool false, .int .i64 0, .bool false, .bool false, .bool false, .bool false, .int .i64 0, .bool false, .bool false, .bool false, .bool false, .int .i64 0, .bool false, .bool false, .bool false, .bool false, .int .i64 0, .bool false, .bool false, .bool false, .bool false, .int .i64 0, .bool false, .bool false, .bool false, .bool false, .int .i64 0, .bool false, .bool false, .bool false, .bool false, .int .i64 0, .bool false, .bool false, .bool false, .bool false, .int .i64 0, .bool false, .bool false, .bool false, .bool false, .int .i64 0, .bool false, .bool false, .bool false, .bool false, .int .i64 0, .bool false, .bool false, .bool false, .bool false, .int .i64 0, .bool false, .bool false, .bool false, .bool false, .int .i64 0, .bool false, .bool false, .bool false, .bool false, .int .i64 0, .bool false, .bool false, .bool false, .bool false, .int .i64 0]⟩ := by kernel_rfl
theorem ty193 : cfg.ty 193 = some ⟨.func, 1, 8, [.nilFunc]⟩ := by kernel_rfl
end
end Go.Proofs.Sx
namespace Go.Proofs.Sx
open Go.Rv Go.Proofs
attribute [local congr] bind_left got_left guardK_left
noncomputable section
def intL (xs : List Int) : List AV := xs.map (AV.int .i64)
theorem intL_len (xs : List Int) : (intL xs).length = xs.length := by simp [intL]
theorem intL_drop {xs ys : List Int} {i : Nat} (h : xs.drop i = ys) : (intL xs).drop i = intL ys := by rw [intL, ← List.map_drop, h]; rfl
end
end Go.Proofs.Sx
namespace Go.Proofs.Sx
open Go.Rv Go.Proofs
attribute [local congr] bind_left got_left guardK_left
noncomputable section
def idxP {α : Type} (p : α → Bool) : List α → Nat → Int
  | [], _ => -1
  | y :: r, i => if p y then i else idxP p r (i + 1)
theorem idxP_any {α : Type} (p : α → Bool) : ∀ (l : List α) (i : Nat), (decide (idxP p l i ≥ 0)) = l.any p
  | [], i => by simp [idxP]
  | y :: r, i => by
    unfold idxP
    cases hp : p y
    · simp only [Bool.false_eq_true, if_false, List.any_cons, hp, Bool.false_or]
      exact idxP_any p r (i + 1)
    · simp [List.any_cons, hp]
theorem drop_map {α β : Type} {f : α → β} {xs ys : List α} {i : Nat} (h : xs.drop i = ys) : (xs.map f).drop i = ys.map f := by rw [← List.map_drop, h]
theorem pu98 : cfg.pure 98 = true := rfl
instance t98 {d : Option Nat} : TightD cfg 98 d := ⟨fun _ _ => rfl⟩
def B98 (p : List Bool) := cA p Tryz.f98.body
def R98 (p : List Bool) (i : Nat) := Code.region i (cA p Tryz.f98.body) false
theorem F98 : (∀ p i, XR cfg 98 (R98 p i) (B98 p) (cA p Tryz.f98.body).toList i false) ∧ RE cfg 98 [0, 1, 4, 5, 7, 8, 9, 16] ∧ cfg.pure 98 = true := ⟨fun _ _ => xr rfl rfl, rE fun _ => rfl, rfl⟩
def l98_0 : Code := (.seq (R98 [tt, ff, tt, ff, ff, ff] 2) (.seq (.cond (.tmp 9) .skip (.exit 0)) (.seq (.block 1 (.seq (R98 [tt, ff, tt, ff, ff, tt, tt, ff, ff, ff] 3) (.seq (R98 [tt, ff, tt, ff, ff, tt, tt, ff, ff, tt, ff] 4) (.cond (.tmp 16) (.seq (R98 [tt, ff, tt, ff, ff, tt, tt, ff, ff, tt, tt, ff, ff] 5) .ret) .skip)))) (R98 [tt, ff, tt, ff, ff, tt, tt, tt] 6))))
def k98 : Code := (.seq (R98 [ff] 0) (.seq (.seq (R98 [tt, ff, ff] 1) (.block 0 (.loop l98_0))) (.seq (R98 [tt, tt, ff] 7) .ret)))
theorem call98 (x0 x1 : AV) (h : Heap) : call cfg 98 [x0, x1] h = (exec cfg 98 k98 [(0, x0), (1, x1)] h).bind (callEnd cfg 98 h [.tmp 4]) := call_at2 (fnat Tryz.func98 (b := k98) (by kernel_rfl) (by kernel_rfl)) rfl rfl
theorem pu77 : cfg.pure 77 = true := rfl
instance t77 {d : Option Nat} : TightD cfg 77 d := ⟨fun _ _ => rfl⟩
def B77 (p : List Bool) := cA p Tryz.f77.body
def R77 (p : List Bool) (i : Nat) := Code.region i (cA p Tryz.f77.body) false
theorem F77 : (∀ p i, XR cfg 77 (R77 p i) (B77 p) (cA p Tryz.f77.body).toList i false) ∧ RE cfg 77 [0, 1, 4] ∧ cfg.pure 77 = true := ⟨fun _ _ => xr rfl rfl, rE fun _ => rfl, rfl⟩
def k77 : Code := (.seq (R77 [ff] 0) (.seq (R77 [tt, ff] 1) .ret))
theorem call77 (x0 x1 : AV) (h : Heap) : call cfg 77 [x0, x1] h = (exec cfg 77 k77 [(0, x0), (1, x1)] h).bind (callEnd cfg 77 h [.tmp 4]) := call_at2 (fnat Tryz.func77 (b := k77) (by kernel_rfl) (by kernel_rfl)) rfl rfl
theorem pu80 : cfg.pure 80 = true := rfl
instance t80 {d : Option Nat} : TightD cfg 80 d := ⟨fun _ _ => rfl⟩
def B80 (p : List Bool) := cA p Tryz.f80.body
def R80 (p : List Bool) (i : Nat) := Code.region i (cA p Tryz.f80.body) false
theorem F80 : (∀ p i, XR cfg 80 (R80 p i) (B80 p) (cA p Tryz.f80.body).toList i false) ∧ RE cfg 80 [0, 1, 4, 5, 7, 8, 9, 16] ∧ cfg.pure 80 = true := ⟨fun _ _ => xr rfl rfl, rE fun _ => rfl, rfl⟩
def l80_0 : Code := (.seq (R80 [tt, ff, tt, ff, ff, ff] 2) (.seq (.cond (.tmp 9) .skip (.exit 0)) (.seq (.block 1 (.seq (R80 [tt, ff, tt, ff, ff, tt, tt, ff, ff, ff] 3) (.seq (R80 [tt, ff, tt, ff, ff, tt, tt, ff, ff, tt, ff] 4) (.cond (.tmp 16) (.seq (R80 [tt, ff, tt, ff, ff, tt, tt, ff, ff, tt, tt, ff, ff] 5) .ret) .skip)))) (R80 [tt, ff, tt, ff, ff, tt, tt, tt] 6))))
def k80 : Code := (.seq (R80 [ff] 0) (.seq (.seq (R80 [tt, ff, ff] 1) (.block 0 (.loop l80_0))) (.seq (R80 [tt, tt, ff] 7) .ret)))
theorem call80 (x0 x1 : AV) (h : Heap) : call cfg 80 [x0, x1] h = (exec cfg 80 k80 [(0, x0), (1, x1)] h).bind (callEnd cfg 80 h [.tmp 4]) := call_at2 (fnat Tryz.func80 (b := k80) (by kernel_rfl) (by kernel_rfl)) rfl rfl
theorem pu44 : cfg.pure 44 = true := rfl
instance t44 {d : Option Nat} : TightD cfg 44 d := ⟨fun _ _ => rfl⟩
def B44 (p : List Bool) := cA p Tryz.f44.body
def R44 (p : List Bool) (i : Nat) := Code.region i (cA p Tryz.f44.body) false
theorem F44 : (∀ p i, XR cfg 44 (R44 p i) (B44 p) (cA p Tryz.f44.body).toList i false) ∧ RE cfg 44 [0, 1, 4] ∧ cfg.pure 44 = true := ⟨fun _ _ => xr rfl rfl, rE fun _ => rfl, rfl⟩
def k44 : Code := (.seq (R44 [ff] 0) (.seq (R44 [tt, ff] 1) .ret))
theorem call44 (x0 x1 : AV) (h : Heap) : call cfg 44 [x0, x1] h = (exec cfg 44 k44 [(0, x0), (1, x1)] h).bind (callEnd cfg 44 h [.tmp 4]) := call_at2 (fnat Tryz.func44 (b := k44) (by kernel_rfl) (by kernel_rfl)) rfl rfl
theorem indexFMem_loop {α : Type} (xs : List α) (f : α → List AV) (p : α → Bool) (g : Nat) (caps : List AV) (z : Nat) (r : Room) (h : Heap) (hn : xs.length < 1000000000) (hs : ∀ a ∈ xs, (f a).length = 3)
    (hg : ∀ a ∈ xs, call cfg g (.agg (f a) :: caps) h = some (.ret (.bool (p a)), h)) : ∀ (ys : List α) (i : Nat), xs.drop i = ys → i ≤ xs.length → ∀ c d t e,
    Got (exec cfg 80 (.loop l80_0) [(0, .lst (xs.map fun a => .agg (f a)) z r), (1, .clo g caps), (4, c), (5, d), (7, .int .i64 xs.length), (8, .int .i64 i), (9, t), (16, e)] h) (fun q => q.2.2 = h ∧
      ((q.1 = .exit 0 ∧ idxP p ys i = -1) ∨ (q.1 = .ret ∧ q.2.1.get 4 = .int .i64 (idxP p ys i)))) := by
  intro ys
  induction ys with
  | nil =>
    intro i hd hi c d t e
    rw [got_loop]
    simp only [l80_0, F80, Tryz.f80, sxAll, cA, arithA, Env.keep, ↓Option.bind_some, Nat.reduceBEq, ↓reduceIte, at_end hd]
    exact ⟨trivial, .inl ⟨trivial, rfl⟩⟩
  | cons y r ih =>
    intro i hd hi c d t e
    obtain ⟨hlt, hget, hd'⟩ := at_drop hd
    obtain ⟨_, hx, _⟩ := at_drop (drop_map (f := fun a => AV.agg (f a)) hd)
    have hmem : y ∈ xs := List.mem_of_getElem? hget
    have hw := wrap_succ (i := i) (by omega)
    have hc := hg y hmem
    have hsz := hs y hmem
    have hle : ((3 : Nat) ≤ (f y).length) = True := by simp [hsz]
    have htk : (f y).take 3 = f y := List.take_of_length_le (by omega)
    have hbq : ((f y).length == 3) = true := by simp [hsz]
    rw [got_loop]
    cases he : p y with
    | true =>
      rw [he] at hc
      simp only [l80_0, F80, Tryz.f80, sxAll, cA, arithA, Env.keep, qt_eq, indexAddrA, loadA, Rv.part, cellsAt, TD.isAgg, mapO, ↓Option.bind_some, Nat.reduceBEq, ↓reduceIte, hlt, indexAddrA, ty22, ty101, hx, hc, hle, htk, hbq]
      exact ⟨trivial, .inr ⟨trivial, by simp [idxP, he]⟩⟩
    | false =>
      rw [he] at hc
      have := ih (i + 1) hd' (by simp at hlt; omega)
      simp only [l80_0] at this ⊢
      simp only [F80, Tryz.f80, sxAll, cA, arithA, Env.keep, qt_eq, indexAddrA, loadA, Rv.part, cellsAt, TD.isAgg, mapO, ↓Option.bind_some, Nat.reduceBEq, ↓reduceIte, hlt, indexAddrA, ty22, ty101, hx, hw, hc, idxP, he, hle, htk, hbq] at this ⊢
      exact this _ _ _ _
theorem indexFMem_eq {α : Type} (xs : List α) (f : α → List AV) (p : α → Bool) (g : Nat) (caps : List AV) (z : Nat) (r : Room) (h : Heap) (hn : xs.length < 1000000000) (hs : ∀ a ∈ xs, (f a).length = 3)
    (hg : ∀ a ∈ xs, call cfg g (.agg (f a) :: caps) h = some (.ret (.bool (p a)), h)) : call cfg 80 [.lst (xs.map fun a => .agg (f a)) z r, .clo g caps] h = some (.ret (.int .i64 (idxP p xs 0)), h) := by
  obtain ⟨⟨o, e', h'⟩, hx, hh, hq⟩ := indexFMem_loop xs f p g caps z r h hn hs hg xs 0 (by simp) (by omega) (.int .i64 0) .junk .junk .junk
  simp only [Int.natCast_zero] at hx hh hq
  subst hh
  rw [call80]
  rcases hq with ⟨rfl, h1⟩ | ⟨rfl, h1⟩
  · simp only [F80, k80, Tryz.f80, sxAll, cA, Env.keep, resultsA, packA, lenA, ↓Option.bind_some, Nat.reduceBEq, ↓reduceIte, ty22, List.length_map, hx, h1]
    exact leave_kept rfl rfl
  · simp only [F80, k80, Tryz.f80, sxAll, cA, Env.keep, resultsA, packA, lenA, ↓Option.bind_some, Nat.reduceBEq, ↓reduceIte, ty22, List.length_map, hx, h1]
    exact leave_kept rfl rfl
theorem containsFMem_eq {α : Type} (xs : List α) (f : α → List AV) (p : α → Bool) (g : Nat) (caps : List AV) (z : Nat) (r : Room) (h : Heap) (hn : xs.length < 1000000000) (hs : ∀ a ∈ xs, (f a).length = 3)
    (hg : ∀ a ∈ xs, call cfg g (.agg (f a) :: caps) h = some (.ret (.bool (p a)), h)) : call cfg 44 [.lst (xs.map fun a => .agg (f a)) z r, .clo g caps] h = some (.ret (.bool (xs.any p)), h) := by
  rw [call44]
  simp only [F44, k44, Tryz.f44, sxAll, cA, arithA, Env.keep, qt_eq, resultsA, packA, mapO, ↓Option.bind_some, Nat.reduceBEq, ↓reduceIte, indexFMem_eq xs f p g caps z r h hn hs hg, pu80, idxP_any]
  exact leave_kept rfl rfl
theorem pu81 : cfg.pure 81 = true := rfl
instance t81 {d : Option Nat} : TightD cfg 81 d := ⟨fun _ _ => rfl⟩
def B81 (p : List Bool) := cA p Tryz.f81.body
def R81 (p : List Bool) (i : Nat) := Code.region i (cA p Tryz.f81.body) false
theorem F81 : (∀ p i, XR cfg 81 (R81 p i) (B81 p) (cA p Tryz.f81.body).toList i false) ∧ RE cfg 81 [0, 1, 4, 5, 7, 8, 9, 16] ∧ cfg.pure 81 = true := ⟨fun _ _ => xr rfl rfl, rE fun _ => rfl, rfl⟩
def l81_0 : Code := (.seq (R81 [tt, ff, tt, ff, ff, ff] 2) (.seq (.cond (.tmp 9) .skip (.exit 0)) (.seq (.block 1 (.seq (R81 [tt, ff, tt, ff, ff, tt, tt, ff, ff, ff] 3) (.seq (R81 [tt, ff, tt, ff, ff, tt, tt, ff, ff, tt, ff] 4) (.cond (.tmp 16) (.seq (R81 [tt, ff, tt, ff, ff, tt, tt, ff, ff, tt, tt, ff, ff] 5) .ret) .skip)))) (R81 [tt, ff, tt, ff, ff, tt, tt, tt] 6))))
def k81 : Code := (.seq (R81 [ff] 0) (.seq (.seq (R81 [tt, ff, ff] 1) (.block 0 (.loop l81_0))) (.seq (R81 [tt, tt, ff] 7) .ret)))
theorem call81 (x0 x1 : AV) (h : Heap) : call cfg 81 [x0, x1] h = (exec cfg 81 k81 [(0, x0), (1, x1)] h).bind (callEnd cfg 81 h [.tmp 4]) := call_at2 (fnat Tryz.func81 (b := k81) (by kernel_rfl) (by kernel_rfl)) rfl rfl
theorem pu46 : cfg.pure 46 = true := rfl
instance t46 {d : Option Nat} : TightD cfg 46 d := ⟨fun _ _ => rfl⟩
def B46 (p : List Bool) := cA p Tryz.f46.body
def R46 (p : List Bool) (i : Nat) := Code.region i (cA p Tryz.f46.body) false
theorem F46 : (∀ p i, XR cfg 46 (R46 p i) (B46 p) (cA p Tryz.f46.body).toList i false) ∧ RE cfg 46 [0, 1, 4] ∧ cfg.pure 46 = true := ⟨fun _ _ => xr rfl rfl, rE fun _ => rfl, rfl⟩
def k46 : Code := (.seq (R46 [ff] 0) (.seq (R46 [tt, ff] 1) .ret))
theorem call46 (x0 x1 : AV) (h : Heap) : call cfg 46 [x0, x1] h = (exec cfg 46 k46 [(0, x0), (1, x1)] h).bind (callEnd cfg 46 h [.tmp 4]) := call_at2 (fnat Tryz.func46 (b := k46) (by kernel_rfl) (by kernel_rfl)) rfl rfl
theorem indexFFun_loop {α : Type} (xs : List α) (f : α → List AV) (p : α → Bool) (g : Nat) (caps : List AV) (z : Nat) (r : Room) (h : Heap) (hn : xs.length < 1000000000) (hs : ∀ a ∈ xs, (f a).length = 5)
    (hg : ∀ a ∈ xs, call cfg g (.agg (f a) :: caps) h = some (.ret (.bool (p a)), h)) : ∀ (ys : List α) (i : Nat), xs.drop i = ys → i ≤ xs.length → ∀ c d t e,
    Got (exec cfg 81 (.loop l81_0) [(0, .lst (xs.map fun a => .agg (f a)) z r), (1, .clo g caps), (4, c), (5, d), (7, .int .i64 xs.length), (8, .int .i64 i), (9, t), (16, e)] h) (fun q => q.2.2 = h ∧
      ((q.1 = .exit 0 ∧ idxP p ys i = -1) ∨ (q.1 = .ret ∧ q.2.1.get 4 = .int .i64 (idxP p ys i)))) := by
  intro ys
  induction ys with
  | nil =>
    intro i hd hi c d t e
    rw [got_loop]
    simp only [l81_0, F81, Tryz.f81, sxAll, cA, arithA, Env.keep, ↓Option.bind_some, Nat.reduceBEq, ↓reduceIte, at_end hd]
    exact ⟨trivial, .inl ⟨trivial, rfl⟩⟩
  | cons y r ih =>
    intro i hd hi c d t e
    obtain ⟨hlt, hget, hd'⟩ := at_drop hd
    obtain ⟨_, hx, _⟩ := at_drop (drop_map (f := fun a => AV.agg (f a)) hd)
    have hmem : y ∈ xs := List.mem_of_getElem? hget
    have hw := wrap_succ (i := i) (by omega)
    have hc := hg y hmem
    have hsz := hs y hmem
    have hle : ((5 : Nat) ≤ (f y).length) = True := by simp [hsz]
    have htk : (f y).take 5 = f y := List.take_of_length_le (by omega)
    have hbq : ((f y).length == 5) = true := by simp [hsz]
    rw [got_loop]
    cases he : p y with
    | true =>
      rw [he] at hc
      simp only [l81_0, F81, Tryz.f81, sxAll, cA, arithA, Env.keep, qt_eq, indexAddrA, loadA, Rv.part, cellsAt, TD.isAgg, mapO, ↓Option.bind_some, Nat.reduceBEq, ↓reduceIte, hlt, indexAddrA, ty24, ty47, hx, hc, hle, htk, hbq]
      exact ⟨trivial, .inr ⟨trivial, by simp [idxP, he]⟩⟩
    | false =>
      rw [he] at hc
      have := ih (i + 1) hd' (by simp at hlt; omega)
      simp only [l81_0] at this ⊢
      simp only [F81, Tryz.f81, sxAll, cA, arithA, Env.keep, qt_eq, indexAddrA, loadA, Rv.part, cellsAt, TD.isAgg, mapO, ↓Option.bind_some, Nat.reduceBEq, ↓reduceIte, hlt, indexAddrA, ty24, ty47, hx, hw, hc, idxP, he, hle, htk, hbq] at this ⊢
      exact this _ _ _ _
theorem indexFFun_eq {α : Type} (xs : List α) (f : α → List AV) (p : α → Bool) (g : Nat) (caps : List AV) (z : Nat) (r : Room) (h : Heap) (hn : xs.length < 1000000000) (hs : ∀ a ∈ xs, (f a).length = 5)
    (hg : ∀ a ∈ xs, call cfg g (.agg (f a) :: caps) h = some (.ret (.bool (p a)), h)) : call cfg 81 [.lst (xs.map fun a => .agg (f a)) z r, .clo g caps] h = some (.ret (.int .i64 (idxP p xs 0)), h) := by
  obtain ⟨⟨o, e', h'⟩, hx, hh, hq⟩ := indexFFun_loop xs f p g caps z r h hn hs hg xs 0 (by simp) (by omega) (.int .i64 0) .junk .junk .junk
  simp only [Int.natCast_zero] at hx hh hq
  subst hh
  rw [call81]
  rcases hq with ⟨rfl, h1⟩ | ⟨rfl, h1⟩
  · simp only [F81, k81, Tryz.f81, sxAll, cA, Env.keep, resultsA, packA, lenA, ↓Option.bind_some, Nat.reduceBEq, ↓reduceIte, ty24, List.length_map, hx, h1]
    exact leave_kept rfl rfl
  · simp only [F81, k81, Tryz.f81, sxAll, cA, Env.keep, resultsA, packA, lenA, ↓Option.bind_some, Nat.reduceBEq, ↓reduceIte, ty24, List.length_map, hx, h1]
    exact leave_kept rfl rfl
theorem containsFFun_eq {α : Type} (xs : List α) (f : α → List AV) (p : α → Bool) (g : Nat) (caps : List AV) (z : Nat) (r : Room) (h : Heap) (hn : xs.length < 1000000000) (hs : ∀ a ∈ xs, (f a).length = 5)
    (hg : ∀ a ∈ xs, call cfg g (.agg (f a) :: caps) h = some (.ret (.bool (p a)), h)) : call cfg 46 [.lst (xs.map fun a => .agg (f a)) z r, .clo g caps] h = some (.ret (.bool (xs.any p)), h) := by
  rw [call46]
  simp only [F46, k46, Tryz.f46, sxAll, cA, arithA, Env.keep, qt_eq, resultsA, packA, mapO, ↓Option.bind_some, Nat.reduceBEq, ↓reduceIte, indexFFun_eq xs f p g caps z r h hn hs hg, pu81, idxP_any]
  exact leave_kept rfl rfl
theorem pu101 : cfg.pure 101 = true := rfl
instance t101 {d : Option Nat} : TightD cfg 101 d := ⟨fun _ _ => rfl⟩
def B101 (p : List Bool) := cA p Tryz.f101.body
def R101 (p : List Bool) (i : Nat) := Code.region i (cA p Tryz.f101.body) false
theorem F101 : (∀ p i, XR cfg 101 (R101 p i) (B101 p) (cA p Tryz.f101.body).toList i false) ∧ RE cfg 101 [0, 1, 4, 5, 7, 8, 9, 16] ∧ cfg.pure 101 = true := ⟨fun _ _ => xr rfl rfl, rE fun _ => rfl, rfl⟩
def l101_0 : Code := (.seq (R101 [tt, ff, tt, ff, ff, ff] 2) (.seq (.cond (.tmp 9) .skip (.exit 0)) (.seq (.block 1 (.seq (R101 [tt, ff, tt, ff, ff, tt, tt, ff, ff, ff] 3) (.seq (R101 [tt, ff, tt, ff, ff, tt, tt, ff, ff, tt, ff] 4) (.cond (.tmp 16) (.seq (R101 [tt, ff, tt, ff, ff, tt, tt, ff, ff, tt, tt, ff, ff] 5) .ret) .skip)))) (R101 [tt, ff, tt, ff, ff, tt, tt, tt] 6))))
def k101 : Code := (.seq (R101 [ff] 0) (.seq (.seq (R101 [tt, ff, ff] 1) (.block 0 (.loop l101_0))) (.seq (R101 [tt, tt, ff] 7) .ret)))
theorem call101 (x0 x1 : AV) (h : Heap) : call cfg 101 [x0, x1] h = (exec cfg 101 k101 [(0, x0), (1, x1)] h).bind (callEnd cfg 101 h [.tmp 4]) := call_at2 (fnat Tryz.func101 (b := k101) (by kernel_rfl) (by kernel_rfl)) rfl rfl
theorem pu82 : cfg.pure 82 = true := rfl
instance t82 {d : Option Nat} : TightD cfg 82 d := ⟨fun _ _ => rfl⟩
def B82 (p : List Bool) := cA p Tryz.f82.body
def R82 (p : List Bool) (i : Nat) := Code.region i (cA p Tryz.f82.body) false
theorem F82 : (∀ p i, XR cfg 82 (R82 p i) (B82 p) (cA p Tryz.f82.body).toList i false) ∧ RE cfg 82 [0, 1, 4] ∧ cfg.pure 82 = true := ⟨fun _ _ => xr rfl rfl, rE fun _ => rfl, rfl⟩
def k82 : Code := (.seq (R82 [ff] 0) (.seq (R82 [tt, ff] 1) .ret))
theorem call82 (x0 x1 : AV) (h : Heap) : call cfg 82 [x0, x1] h = (exec cfg 82 k82 [(0, x0), (1, x1)] h).bind (callEnd cfg 82 h [.tmp 4]) := call_at2 (fnat Tryz.func82 (b := k82) (by kernel_rfl) (by kernel_rfl)) rfl rfl
theorem indexFIns_loop {α : Type} (xs : List α) (f : α → List AV) (p : α → Bool) (g : Nat) (caps : List AV) (z : Nat) (r : Room) (h : Heap) (hn : xs.length < 1000000000) (hs : ∀ a ∈ xs, (f a).length = 6)
    (hg : ∀ a ∈ xs, call cfg g (.agg (f a) :: caps) h = some (.ret (.bool (p a)), h)) : ∀ (ys : List α) (i : Nat), xs.drop i = ys → i ≤ xs.length → ∀ c d t e,
    Got (exec cfg 101 (.loop l101_0) [(0, .lst (xs.map fun a => .agg (f a)) z r), (1, .clo g caps), (4, c), (5, d), (7, .int .i64 xs.length), (8, .int .i64 i), (9, t), (16, e)] h) (fun q => q.2.2 = h ∧
      ((q.1 = .exit 0 ∧ idxP p ys i = -1) ∨ (q.1 = .ret ∧ q.2.1.get 4 = .int .i64 (idxP p ys i)))) := by
  intro ys
  induction ys with
  | nil =>
    intro i hd hi c d t e
    rw [got_loop]
    simp only [l101_0, F101, Tryz.f101, sxAll, cA, arithA, Env.keep, ↓Option.bind_some, Nat.reduceBEq, ↓reduceIte, at_end hd]
    exact ⟨trivial, .inl ⟨trivial, rfl⟩⟩
  | cons y r ih =>
    intro i hd hi c d t e
    obtain ⟨hlt, hget, hd'⟩ := at_drop hd
    obtain ⟨_, hx, _⟩ := at_drop (drop_map (f := fun a => AV.agg (f a)) hd)
    have hmem : y ∈ xs := List.mem_of_getElem? hget
    have hw := wrap_succ (i := i) (by omega)
    have hc := hg y hmem
    have hsz := hs y hmem
    have hle : ((6 : Nat) ≤ (f y).length) = True := by simp [hsz]
    have htk : (f y).take 6 = f y := List.take_of_length_le (by omega)
    have hbq : ((f y).length == 6) = true := by simp [hsz]
    rw [got_loop]
    cases he : p y with
    | true =>
      rw [he] at hc
      simp only [l101_0, F101, Tryz.f101, sxAll, cA, arithA, Env.keep, qt_eq, indexAddrA, loadA, Rv.part, cellsAt, TD.isAgg, mapO, ↓Option.bind_some, Nat.reduceBEq, ↓reduceIte, hlt, indexAddrA, ty45, ty49, hx, hc, hle, htk, hbq]
      exact ⟨trivial, .inr ⟨trivial, by simp [idxP, he]⟩⟩
    | false =>
      rw [he] at hc
      have := ih (i + 1) hd' (by simp at hlt; omega)
      simp only [l101_0] at this ⊢
      simp only [F101, Tryz.f101, sxAll, cA, arithA, Env.keep, qt_eq, indexAddrA, loadA, Rv.part, cellsAt, TD.isAgg, mapO, ↓Option.bind_some, Nat.reduceBEq, ↓reduceIte, hlt, indexAddrA, ty45, ty49, hx, hw, hc, idxP, he, hle, htk, hbq] at this ⊢
      exact this _ _ _ _
theorem indexFIns_eq {α : Type} (xs : List α) (f : α → List AV) (p : α → Bool) (g : Nat) (caps : List AV) (z : Nat) (r : Room) (h : Heap) (hn : xs.length < 1000000000) (hs : ∀ a ∈ xs, (f a).length = 6)
    (hg : ∀ a ∈ xs, call cfg g (.agg (f a) :: caps) h = some (.ret (.bool (p a)), h)) : call cfg 101 [.lst (xs.map fun a => .agg (f a)) z r, .clo g caps] h = some (.ret (.int .i64 (idxP p xs 0)), h) := by
  obtain ⟨⟨o, e', h'⟩, hx, hh, hq⟩ := indexFIns_loop xs f p g caps z r h hn hs hg xs 0 (by simp) (by omega) (.int .i64 0) .junk .junk .junk
  simp only [Int.natCast_zero] at hx hh hq
  subst hh
  rw [call101]
  rcases hq with ⟨rfl, h1⟩ | ⟨rfl, h1⟩
  · simp only [F101, k101, Tryz.f101, sxAll, cA, Env.keep, resultsA, packA, lenA, ↓Option.bind_some, Nat.reduceBEq, ↓reduceIte, ty45, List.length_map, hx, h1]
    exact leave_kept rfl rfl
  · simp only [F101, k101, Tryz.f101, sxAll, cA, Env.keep, resultsA, packA, lenA, ↓Option.bind_some, Nat.reduceBEq, ↓reduceIte, ty45, List.length_map, hx, h1]
    exact leave_kept rfl rfl
theorem containsFIns_eq {α : Type} (xs : List α) (f : α → List AV) (p : α → Bool) (g : Nat) (caps : List AV) (z : Nat) (r : Room) (h : Heap) (hn : xs.length < 1000000000) (hs : ∀ a ∈ xs, (f a).length = 6)
    (hg : ∀ a ∈ xs, call cfg g (.agg (f a) :: caps) h = some (.ret (.bool (p a)), h)) : call cfg 82 [.lst (xs.map fun a => .agg (f a)) z r, .clo g caps] h = some (.ret (.bool (xs.any p)), h) := by
  rw [call82]
  simp only [F82, k82, Tryz.f82, sxAll, cA, arithA, Env.keep, qt_eq, resultsA, packA, mapO, ↓Option.bind_some, Nat.reduceBEq, ↓reduceIte, indexFIns_eq xs f p g caps z r h hn hs hg, pu101, idxP_any]
  exact leave_kept rfl rfl
end
end Go.Proofs.Sx
namespace Go.Proofs.Sx
open Go.Rv Go.Proofs
attribute [local congr] bind_left got_left guardK_left
noncomputable section
structure SIns where
  op : Int
  r : Int
  a : Int
  b : Int
  n : Int
  args : List Int
  z : Nat
  room : Room
def SIns.cells (i : SIns) : List AV := [.int .u8 i.op, .int .i64 i.r, .int .i64 i.a, .int .i64 i.b, .int .i64 i.n, .lst (intL i.args) i.z i.room]
theorem freeze_ints (h : Heap) (n d : Nat) (xs : List Int) : mapO (freezeV h n (d + 1)) (intL xs) = some (intL xs) := freeze_deads h n d (by simp [intL, AV.dead])
theorem freeze_lint (h : Heap) (n d : Nat) (xs : List Int) (z : Nat) (r : Room) : freezeV h n (d + 2) (.lst (intL xs) z r) = some (.lst (intL xs) z r) := by
  show (mapO (freezeV h n (d + 1)) (intL xs)).map _ = _
  rw [freeze_ints]; rfl
abbrev Row := Bool × Bool × Bool × Bool × Int
def rowCells (q : Row) : List AV := [.bool q.1, .bool q.2.1, .bool q.2.2.1, .bool q.2.2.2.1, .int .i64 q.2.2.2.2]
def rowOf (op : Int) : Row := if op < 1 then (false, false, false, false, 0) else opRows.getD op.toNat (false, false, false, false, 0)
def legal (op : Int) : Bool := decide (1 ≤ op) && decide (op < 14)
theorem glob_ops : cfg.glob 1 = some (.ref opCells) := rfl
theorem evalA_glob {C : Cfg} (e : Env) (g : Nat) : evalA C e (.global g) = C.glob g := rfl
theorem pu102 : cfg.pure 102 = true := rfl
instance t102 {d : Option Nat} : TightD cfg 102 d := ⟨fun _ _ => rfl⟩
def B102 (p : List Bool) := cA p Tryz.f102.body
def R102 (p : List Bool) (i : Nat) := Code.region i (cA p Tryz.f102.body) false
theorem F102 : (∀ p i, XR cfg 102 (R102 p i) (B102 p) (cA p Tryz.f102.body).toList i false) ∧ cfg.imm 102 1 = true ∧ GO cfg 102 (B102 [tt, ff, ff]) 3 7 ∧ RE cfg 102 [0, 1, 2, 3, 12] ∧ cfg.pure 102 = true := ⟨fun _ _ => xr rfl rfl, by kernel_rfl, gO (by kernel_rfl), rE fun _ => rfl, rfl⟩
def k102 : Code := (.seq (R102 [ff] 0) (.seq (.seq (R102 [tt, ff, ff] 1) (.cond (.tmp 12) (.seq (R102 [tt, ff, tt, ff, ff] 2) .ret) .skip)) (.seq (R102 [tt, tt, ff] 3) .ret)))
theorem call102 (x0 : AV) (h : Heap) : call cfg 102 [x0] h = (exec cfg 102 k102 [(0, x0)] h).bind (callEnd cfg 102 h [.cell 2 152, .tmp 3]) := call_at2 (fnat Tryz.func102 (b := k102) (by kernel_rfl) (by kernel_rfl)) rfl rfl
theorem op_cases {op : Int} (h1 : 1 ≤ op) (h2 : op < 14) : op = 1 ∨ op = 2 ∨ op = 3 ∨ op = 4 ∨ op = 5 ∨ op = 6 ∨ op = 7 ∨ op = 8 ∨ op = 9 ∨ op = 10 ∨ op = 11 ∨ op = 12 ∨ op = 13 := by omega
theorem op_row {op : Int} (h1 : 1 ≤ op) (h2 : op < 14) : (op.toNat < 14) = True ∧ (5 ≤ (opCells.drop (op.toNat * 5)).length) = True ∧ (opCells.drop (op.toNat * 5)).take 5 = rowCells (rowOf op) := by
  rcases op_cases h1 h2 with rfl | rfl | rfl | rfl | rfl | rfl | rfl | rfl | rfl | rfl | rfl | rfl | rfl <;> exact ⟨eq_true (by decide), eq_true (by decide), rfl⟩
theorem ofI_eq (i : SIns) (h : Heap) (h0 : 0 ≤ i.op) (h1 : i.op < 256) : call cfg 102 [.agg i.cells] h = some (.ret (.tup [.agg (rowCells (rowOf i.op)), .bool (legal i.op)]), h) := by
  rw [call102]
  have hw : IntKind.i64.wrap i.op = i.op := wrap_id (by omega) (by omega)
  by_cases ha : i.op < 1
  · have e1 : rowOf i.op = (false, false, false, false, 0) := by simp [rowOf, ha]
    have e2 : legal i.op = false := by simp [legal]; omega
    rw [e1, e2]
    simp only [SIns.cells, F102, k102, Tryz.f102, sxAll, cA, arithA, Env.keep, qt_eq, resultsA, packA, storeA, fieldAddrA, loadA, Rv.part, cellsAt, TD.isAgg, buildA, fillA, setCells, ↓Option.bind_some, Nat.reduceBEq, Nat.reduceAdd, Nat.reduceLeDiff, ↓reduceIte, ty49, ty5, ty152, ha]
    exact leave_pure rfl (by simp) rfl
  · by_cases hb : i.op < 14
    · have e2 : legal i.op = true := by simp [legal]; omega
      have hge : (i.op ≥ 14) = False := by simp; omega
      have hneg : (i.op < 0) = False := by simp; omega
      rw [e2]
      simp only [SIns.cells, F102, k102, Tryz.f102, sxAll, cA, arithA, Env.keep, qt_eq, resultsA, packA, storeA, indexAddrA, fieldAddrA, loadA, Rv.part, cellsAt, TD.isAgg, convH, convA, setCells, ↓Option.bind_some, Nat.reduceBEq, Nat.reduceAdd, Nat.reduceLeDiff, ↓reduceIte, ty49, ty5, ty152, ty3, ty190, ha, hw, hge, evalA_glob, glob_ops, hneg, (op_row (by omega) hb).1, (op_row (by omega) hb).2.1, (op_row (by omega) hb).2.2, rowCells]
      exact leave_pure rfl (by simp) rfl
    · have e1 : rowOf i.op = (false, false, false, false, 0) := by
        unfold rowOf
        rw [if_neg ha]
        have : opRows.length ≤ i.op.toNat := by simp [opRows]; omega
        rw [List.getD_eq_getElem?_getD, List.getElem?_eq_none this]; rfl
      have e2 : legal i.op = false := by simp [legal]; omega
      have hge : (i.op ≥ 14) = True := by simp; omega
      rw [e1, e2]
      simp only [SIns.cells, F102, k102, Tryz.f102, sxAll, cA, arithA, Env.keep, qt_eq, resultsA, packA, storeA, fieldAddrA, loadA, Rv.part, cellsAt, TD.isAgg, convH, convA, buildA, fillA, setCells, ↓Option.bind_some, Nat.reduceBEq, Nat.reduceAdd, Nat.reduceLeDiff, ↓reduceIte, ty49, ty5, ty152, ty3, ha, hw, hge]
      exact leave_pure rfl (by simp) rfl
theorem pu107 : cfg.pure 107 = true := rfl
instance t107 {d : Option Nat} : TightD cfg 107 d := ⟨fun _ _ => rfl⟩
def B107 (p : List Bool) := cA p Tryz.f107.body
def R107 (p : List Bool) (i : Nat) := Code.region i (cA p Tryz.f107.body) false
theorem F107 : (∀ p i, XR cfg 107 (R107 p i) (B107 p) (cA p Tryz.f107.body).toList i false) ∧ cfg.imm 107 1 = true ∧ GO cfg 107 (B107 [tt, ff, tt, ff]) 1 12 ∧ RE cfg 107 [0, 1, 2, 3, 4, 5, 15] ∧ cfg.pure 107 = true := ⟨fun _ _ => xr rfl rfl, by kernel_rfl, gO (by kernel_rfl), rE fun _ => rfl, rfl⟩
def k107 : Code := (.seq (R107 [ff] 0) (.seq (.seq (R107 [tt, ff, ff] 1) (.seq (R107 [tt, ff, tt, ff] 2) (.cond (.tmp 15) (.seq (R107 [tt, ff, tt, tt, ff, ff] 3) .ret) .skip))) (.seq (R107 [tt, tt, ff] 4) .ret)))
theorem call107 (x0 : AV) (h : Heap) : call cfg 107 [x0] h = (exec cfg 107 k107 [(0, x0)] h).bind (callEnd cfg 107 h [.tmp 2, .tmp 3]) := call_at2 (fnat Tryz.func107 (b := k107) (by kernel_rfl) (by kernel_rfl)) rfl rfl
def writesOf (i : SIns) : Int × Bool := if legal i.op && (rowOf i.op).1 then (i.r, true) else (0, false)
theorem writes_eq (i : SIns) (h : Heap) (h0 : 0 ≤ i.op) (h1 : i.op < 256) : call cfg 107 [.agg i.cells] h = some (.ret (.tup [.int .i64 (writesOf i).1, .bool (writesOf i).2]), h) := by
  rw [call107]
  have hc := fun h => ofI_eq i h h0 h1
  unfold writesOf
  generalize hq : rowOf i.op = q at hc
  generalize legal i.op = l at hc
  obtain ⟨q1, q2, q3, q4, q5⟩ := q
  simp only [SIns.cells] at hc
  cases l <;> cases q1 <;> simp only [SIns.cells, rowCells, F107, k107, Tryz.f107, sxAll, cA, Env.keep, qt_eq, resultsA, packA, storeA, fieldAddrA, loadA, Rv.part, cellsAt, TD.isAgg, setCells, mapO, ↓Option.bind_some, Nat.reduceBEq, Nat.reduceAdd, Nat.reduceLeDiff, ↓reduceIte, ty49, ty152, ty3, ty4, pu102, hc] <;> exact leave_pure rfl (by simp) rfl
end
end Go.Proofs.Sx
namespace Go.Proofs.Sx
open Go.Rv Go.Proofs
attribute [local congr] bind_left got_left guardK_left
noncomputable section
theorem pu132 : cfg.pure 132 = true := rfl
instance t132 {d : Option Nat} : TightD cfg 132 d := ⟨fun _ _ => rfl⟩
def B132 (p : List Bool) := cA p Tryz.f132.body
def R132 (p : List Bool) (i : Nat) := Code.region i (cA p Tryz.f132.body) false
def D132 (p : List Bool) (i : Nat) := Code.region i (cA p Tryz.f132.body) true
theorem F132 : (∀ p i, XR cfg 132 (R132 p i) (B132 p) (cA p Tryz.f132.body).toList i false) ∧ XR cfg 132 (D132 [tt, tt, ff, tt, ff, ff, tt, tt, ff, ff, tt, ff] 6) (B132 [tt, tt, ff, tt, ff, ff, tt, tt, ff, ff, tt, ff]) ((cA [tt, tt, ff, tt, ff, ff, tt, tt, ff, ff, tt, ff] Tryz.f132.body).toList) 6 true ∧ RE cfg 132 [0, 1, 4, 5, 10, 12, 13, 14, 24] ∧ cfg.pure 132 = true := ⟨fun _ _ => xr rfl rfl, xd (by kernel_rfl) rfl rfl, rE fun _ => rfl, rfl⟩
def l132_0 : Code := (.seq (R132 [tt, tt, ff, tt, ff, ff, ff] 4) (.seq (.cond (.tmp 14) .skip (.exit 0)) (.seq (.block 1 (.seq (R132 [tt, tt, ff, tt, ff, ff, tt, tt, ff, ff, ff] 5) (.seq (D132 [tt, tt, ff, tt, ff, ff, tt, tt, ff, ff, tt, ff] 6) (.cond (.tmp 24) (.seq (R132 [tt, tt, ff, tt, ff, ff, tt, tt, ff, ff, tt, tt, ff, ff] 7) .ret) .skip)))) (R132 [tt, tt, ff, tt, ff, ff, tt, tt, tt] 8))))
def k132 : Code := (.seq (R132 [ff] 0) (.seq (.seq (R132 [tt, ff, ff] 1) (.cond (.tmp 10) (.seq (R132 [tt, ff, tt, ff, ff] 2) .ret) .skip)) (.seq (.seq (R132 [tt, tt, ff, ff] 3) (.block 0 (.loop l132_0))) (.seq (R132 [tt, tt, tt, ff] 9) .ret))))
theorem call132 (x0 x1 : AV) (h : Heap) : call cfg 132 [x0, x1] h = (exec cfg 132 k132 [(0, x0), (1, x1)] h).bind (callEnd cfg 132 h [.tmp 4]) := call_at2 (fnat Tryz.func132 (b := k132) (by kernel_rfl) (by kernel_rfl)) rfl rfl
theorem equalI_loop (xs ys : List Int) (z z' : Nat) (r r' : Room) (h : Heap) (hn : xs.length < 1000000000) (hl : ys.length = xs.length) : ∀ (us vs : List Int) (i : Nat), xs.drop i = us → ys.drop i = vs → i ≤ xs.length → ∀ c d t e b,
    Got (exec cfg 132 (.loop l132_0) [(0, .lst (intL xs) z r), (1, .lst (intL ys) z' r'), (4, c), (5, d), (10, b), (12, .int .i64 xs.length), (13, .int .i64 i), (14, t), (24, e)] h) (fun q => q.2.2 = h ∧
      ((q.1 = .exit 0 ∧ us = vs) ∨ (q.1 = .ret ∧ q.2.1.get 4 = .bool false ∧ us ≠ vs))) := by
  intro us
  induction us with
  | nil =>
    intro vs i hd hd2 hi c d t e b
    have : vs = [] := by
      rw [← hd2]; apply List.drop_of_length_le
      have := List.drop_eq_nil_iff.1 hd; omega
    subst this
    rw [got_loop]
    simp only [l132_0, F132, Tryz.f132, sxAll, cA, arithA, Env.keep, ↓Option.bind_some, Nat.reduceBEq, ↓reduceIte, at_end hd]
    exact ⟨trivial, .inl ⟨trivial, trivial⟩⟩
  | cons y r ih =>
    intro vs i hd hd2 hi c d t e b
    obtain ⟨hlt, _, hd'⟩ := at_drop hd
    obtain ⟨_, hx, _⟩ := at_drop (intL_drop hd)
    cases vs with
    | nil =>
      have := List.drop_eq_nil_iff.1 hd2
      simp at hlt; omega
    | cons w s =>
      obtain ⟨_, _, hd2'⟩ := at_drop hd2
      obtain ⟨_, hx2, _⟩ := at_drop (intL_drop hd2)
      have hw := wrap_succ (i := i) (by omega)
      rw [got_loop]
      by_cases he : y = w
      · subst he
        have := ih s (i + 1) hd' hd2' (by simp at hlt; omega)
        simp only [l132_0] at this ⊢
        simp only [F132, Tryz.f132, sxAll, cA, arithA, Env.keep, qt_eq, indexAddrA, loadA, Rv.part, cellsAt, TD.isAgg, ↓Option.bind_some, Nat.reduceBEq, Nat.reduceAdd, bne, ↓reduceIte, hlt, indexAddrA, ty31, ty3, hx, hx2, hw, List.cons.injEq, true_and, ne_eq] at this ⊢
        exact this _ _ _ _ _
      · have hne : (y == w) = false := by simp [he]
        simp only [l132_0, F132, Tryz.f132, sxAll, cA, arithA, Env.keep, qt_eq, indexAddrA, loadA, Rv.part, cellsAt, TD.isAgg, ↓Option.bind_some, Nat.reduceBEq, Nat.reduceAdd, bne, ↓reduceIte, hlt, indexAddrA, ty31, ty3, hx, hx2, hne]
        exact ⟨trivial, .inr ⟨trivial, trivial, by simp [he]⟩⟩
theorem equalI_eq (xs ys : List Int) (z z' : Nat) (r r' : Room) (h : Heap) (hn : xs.length < 1000000000) : call cfg 132 [.lst (intL xs) z r, .lst (intL ys) z' r'] h = some (.ret (.bool (decide (xs = ys))), h) := by
  rw [call132]
  by_cases hl : ys.length = xs.length
  · obtain ⟨⟨o, e', h'⟩, hx, hh, hq⟩ := equalI_loop xs ys z z' r r' h hn hl xs ys 0 (by simp) (by simp) (by omega) (.bool false) .junk .junk .junk (.bool false)
    simp only [Int.natCast_zero] at hx hh hq
    subst hh
    have hlen : (((xs.length : Int) != (ys.length : Int))) = false := by simp [hl]
    rcases hq with ⟨rfl, h1⟩ | ⟨rfl, h1, h2⟩
    · have hd : decide (xs = ys) = true := by simp [h1]
      simp only [F132, k132, Tryz.f132, sxAll, cA, arithA, Env.keep, resultsA, packA, lenA, ↓Option.bind_some, Nat.reduceBEq, bne, ↓reduceIte, ty31, intL_len, hl, hx, hd]
      exact leave_kept rfl rfl
    · have hd : decide (xs = ys) = false := by simp [h2]
      simp only [F132, k132, Tryz.f132, sxAll, cA, arithA, Env.keep, resultsA, packA, lenA, ↓Option.bind_some, Nat.reduceBEq, bne, ↓reduceIte, ty31, intL_len, hl, hx, h1, hd]
      exact leave_kept rfl rfl
  · have hlen : (((xs.length : Int) == (ys.length : Int))) = false := by simp; omega
    have hne : (xs = ys) = False := by simp; intro hc; exact hl (by rw [hc])
    simp only [F132, k132, Tryz.f132, sxAll, cA, arithA, Env.keep, resultsA, packA, lenA, ↓Option.bind_some, Nat.reduceBEq, bne, ↓reduceIte, ty31, intL_len, hlen, hne]
    exact leave_kept rfl rfl
theorem pu103 : cfg.pure 103 = true := rfl
instance t103 {d : Option Nat} : TightD cfg 103 d := ⟨fun _ _ => rfl⟩
def B103 (p : List Bool) := cA p Tryz.f103.body
def R103 (p : List Bool) (i : Nat) := Code.region i (cA p Tryz.f103.body) false
theorem F103 : (∀ p i, XR cfg 103 (R103 p i) (B103 p) (cA p Tryz.f103.body).toList i false) ∧ cfg.imm 103 2 = true ∧ cfg.imm 103 3 = true ∧ GO cfg 103 (B103 [tt, ff]) 5 10 ∧ GO cfg 103 (B103 [tt, ff]) 12 17 ∧ GO cfg 103 (B103 [tt, ff]) 19 24 ∧ GO cfg 103 (B103 [tt, ff]) 26 31 ∧ GO cfg 103 (B103 [tt, ff]) 33 38 ∧ RE cfg 103 [0, 1, 2, 3, 4] ∧ cfg.pure 103 = true := ⟨fun _ _ => xr rfl rfl, by kernel_rfl, by kernel_rfl, gO (by kernel_rfl), gO (by kernel_rfl), gO (by kernel_rfl), gO (by kernel_rfl), gO (by kernel_rfl), rE fun _ => rfl, rfl⟩
def k103 : Code := (.seq (R103 [ff] 0) (.seq (R103 [tt, ff] 1) .ret))
theorem call103 (x0 x1 : AV) (h : Heap) : call cfg 103 [x0, x1] h = (exec cfg 103 k103 [(0, x0), (1, x1)] h).bind (callEnd cfg 103 h [.tmp 4]) := call_at2 (fnat Tryz.func103 (b := k103) (by kernel_rfl) (by kernel_rfl)) rfl rfl
def sameB (i j : SIns) : Bool := i.op == j.op && i.r == j.r && i.a == j.a && i.b == j.b && i.n == j.n && decide (i.args = j.args)
theorem sameIns_eq (i j : SIns) (h : Heap) (hn : i.args.length < 1000000000) : call cfg 103 [.agg i.cells, .agg j.cells] h = some (.ret (.bool (sameB i j)), h) := by
  rw [call103]
  have hq := equalI_eq i.args j.args i.z j.z i.room j.room h hn
  unfold sameB
  cases h1 : i.op == j.op
  · simp only [SIns.cells, F103, k103, Tryz.f103, sxAll, cA, arithA, Env.keep, qt_eq, resultsA, packA, fieldAddrA, loadA, Rv.part, cellsAt, TD.isAgg, ↓Option.bind_some, Nat.reduceBEq, Nat.reduceAdd, ↓reduceIte, ty49, ty5, h1]
    exact leave_kept rfl rfl
  cases h2 : i.r == j.r
  · simp only [SIns.cells, F103, k103, Tryz.f103, sxAll, cA, arithA, Env.keep, qt_eq, resultsA, packA, fieldAddrA, loadA, Rv.part, cellsAt, TD.isAgg, ↓Option.bind_some, Nat.reduceBEq, Nat.reduceAdd, ↓reduceIte, ty49, ty5, ty3, h1, h2]
    exact leave_kept rfl rfl
  cases h3 : i.a == j.a
  · simp only [SIns.cells, F103, k103, Tryz.f103, sxAll, cA, arithA, Env.keep, qt_eq, resultsA, packA, fieldAddrA, loadA, Rv.part, cellsAt, TD.isAgg, ↓Option.bind_some, Nat.reduceBEq, Nat.reduceAdd, ↓reduceIte, ty49, ty5, ty3, h1, h2, h3]
    exact leave_kept rfl rfl
  cases h4 : i.b == j.b
  · simp only [SIns.cells, F103, k103, Tryz.f103, sxAll, cA, arithA, Env.keep, qt_eq, resultsA, packA, fieldAddrA, loadA, Rv.part, cellsAt, TD.isAgg, ↓Option.bind_some, Nat.reduceBEq, Nat.reduceAdd, ↓reduceIte, ty49, ty5, ty3, h1, h2, h3, h4]
    exact leave_kept rfl rfl
  cases h5 : i.n == j.n
  · simp only [SIns.cells, F103, k103, Tryz.f103, sxAll, cA, arithA, Env.keep, qt_eq, resultsA, packA, fieldAddrA, loadA, Rv.part, cellsAt, TD.isAgg, ↓Option.bind_some, Nat.reduceBEq, Nat.reduceAdd, ↓reduceIte, ty49, ty5, ty3, ty2, h1, h2, h3, h4, h5]
    exact leave_kept rfl rfl
  · simp only [SIns.cells, F103, k103, Tryz.f103, sxAll, cA, arithA, Env.keep, qt_eq, resultsA, packA, fieldAddrA, loadA, Rv.part, cellsAt, TD.isAgg, mapO, ↓Option.bind_some, Nat.reduceBEq, Nat.reduceAdd, ↓reduceIte, ty49, ty5, ty3, ty2, ty31, pu132, h1, h2, h3, h4, h5, hq]
    exact leave_kept rfl rfl
end
end Go.Proofs.Sx
namespace Go.Proofs.Sx
open Go.Rv Go.Proofs
attribute [local congr] bind_left got_left
noncomputable section
def bareOf (q : Row) (i : SIns) : SIns where
  op := 0
  r := if q.1 then 0 else i.r
  a := if q.2.1 then 0 else i.a
  b := if q.2.2.1 then 0 else i.b
  n := if q.2.2.2.2 = 0 then i.n else 0
  args := if q.2.2.2.2 = 6 then [] else i.args
  z := if q.2.2.2.2 = 6 then 0 else i.z
  room := if q.2.2.2.2 = 6 then .nil else i.room
theorem freeze_ins (h : Heap) (n d : Nat) (i : SIns) : freezeV h n (d + 3) (.agg i.cells) = some (.agg i.cells) := by
  show (mapO (freezeV h n (d + 2)) i.cells).map AV.agg = _
  simp only [SIns.cells, mapO, freeze_lint]
  rfl
theorem pu104 : cfg.pure 104 = true := rfl
instance t104 {d : Option Nat} : TightD cfg 104 d := ⟨fun _ _ => rfl⟩
def B104 (p : List Bool) := cA p Tryz.f104.body
def R104 (p : List Bool) (i : Nat) := Code.region i (cA p Tryz.f104.body) false
theorem F104 : (∀ p i, XR cfg 104 (R104 p i) (B104 p) (cA p Tryz.f104.body).toList i false) ∧ cfg.imm 104 2 = true ∧ cfg.imm 104 3 = false ∧ RE cfg 104 [0, 1, 2, 3, 4, 7, 10, 13, 17, 21] ∧ cfg.pure 104 = true := ⟨fun _ _ => xr rfl rfl, by kernel_rfl, by kernel_rfl, rE fun _ => rfl, rfl⟩
def k104 : Code := (.seq (R104 [ff] 0) (.seq (R104 [tt, ff] 1) (.seq (.seq (R104 [tt, tt, ff, ff] 2) (.cond (.tmp 7) (R104 [tt, tt, ff, tt, ff] 3) .skip)) (.seq (.seq (R104 [tt, tt, tt, ff, ff] 4) (.cond (.tmp 10) (R104 [tt, tt, tt, ff, tt, ff] 5) .skip)) (.seq (.seq (R104 [tt, tt, tt, tt, ff, ff] 6) (.cond (.tmp 13) (R104 [tt, tt, tt, tt, ff, tt, ff] 7) .skip)) (.seq (.seq (R104 [tt, tt, tt, tt, tt, ff, ff] 8) (.cond (.tmp 17) (R104 [tt, tt, tt, tt, tt, ff, tt, ff] 9) .skip)) (.seq (.seq (R104 [tt, tt, tt, tt, tt, tt, ff, ff] 10) (.cond (.tmp 21) (R104 [tt, tt, tt, tt, tt, tt, ff, tt, ff] 11) .skip)) (.seq (R104 [tt, tt, tt, tt, tt, tt, tt, ff] 12) .ret))))))))
theorem call104 (x0 x1 : AV) (h : Heap) : call cfg 104 [x0, x1] h = (exec cfg 104 k104 [(0, x0), (1, x1)] h).bind (callEnd cfg 104 h [.cell 4 49]) := call_at2 (fnat Tryz.func104 (b := k104) (by kernel_rfl) (by kernel_rfl)) rfl rfl
theorem bare_eq (q : Row) (i : SIns) (h : Heap) : call cfg 104 [.agg (rowCells q), .agg i.cells] h = some (.ret (.agg (bareOf q i).cells), h) := by
  rw [call104]
  obtain ⟨q1, q2, q3, q4, n⟩ := q
  by_cases h0 : n = 0
  · subst h0
    cases q1 <;> cases q2 <;> cases q3 <;> simp only [SIns.cells, rowCells, F104, k104, Tryz.f104, sxAll, cA, arithA, Env.keep, qt_eq, resultsA, packA, storeA, fieldAddrA, loadA, Rv.part, cellsAt, TD.isAgg, setCells, ↓Option.bind_some, Nat.reduceBEq, Nat.reduceAdd, Nat.reduceLeDiff, Int.reduceBEq, bne, ↓reduceIte, ty49, ty152, ty5, ty3, ty4, bareOf, Int.reduceEq] <;> exact leave_pure rfl (by simp) (freeze_ins _ _ 37 ⟨_, _, _, _, _, _, _, _⟩)
  · have e0 : (n == 0) = false := by simp [h0]
    by_cases h6 : n = 6
    · subst h6
      cases q1 <;> cases q2 <;> cases q3 <;> simp only [SIns.cells, rowCells, F104, k104, Tryz.f104, sxAll, cA, arithA, Env.keep, qt_eq, resultsA, packA, storeA, fieldAddrA, loadA, Rv.part, cellsAt, TD.isAgg, setCells, ↓Option.bind_some, Nat.reduceBEq, Nat.reduceAdd, Nat.reduceLeDiff, Int.reduceBEq, bne, ↓reduceIte, ty49, ty152, ty5, ty3, ty2, ty4, ty31, bareOf, Int.reduceEq] <;> exact leave_pure rfl (by simp) (freeze_ins _ _ 37 ⟨_, _, _, _, _, [], _, _⟩)
    · have e6 : (n == 6) = false := by simp [h6]
      cases q1 <;> cases q2 <;> cases q3 <;> simp only [SIns.cells, rowCells, F104, k104, Tryz.f104, sxAll, cA, arithA, Env.keep, qt_eq, resultsA, packA, storeA, fieldAddrA, loadA, Rv.part, cellsAt, TD.isAgg, setCells, ↓Option.bind_some, Nat.reduceBEq, Nat.reduceAdd, Nat.reduceLeDiff, bne, ↓reduceIte, ty49, ty152, ty5, ty3, ty2, ty4, e0, e6, bareOf, h0, h6] <;> exact leave_pure rfl (by simp) (freeze_ins _ _ 37 ⟨_, _, _, _, _, _, _, _⟩)
structure SMem where
  name : List UInt8
  size : Int
  first : Int
structure SFun where
  name : List UInt8
  thread : Bool
  params : Int
  regs : Int
  code : List SIns
  cz : Nat
  room : Room
structure SProg where
  mems : List SMem
  mz : Nat
  mroom : Room
  locks : List (List UInt8)
  lz : Nat
  lroom : Room
  funs : List SFun
  fz : Nat
  froom : Room
def SMem.cells (m : SMem) : List AV := [.str m.name, .int .i64 m.size, .int .i64 m.first]
def codeL (l : List SIns) : List AV := l.map fun i => .agg i.cells
def SFun.cells (f : SFun) : List AV := [.str f.name, .bool f.thread, .int .i64 f.params, .int .i64 f.regs, .lst (codeL f.code) f.cz f.room]
def memsL (l : List SMem) : List AV := l.map fun m => .agg m.cells
def strL (l : List (List UInt8)) : List AV := l.map AV.str
def funsL (l : List SFun) : List AV := l.map fun f => .agg f.cells
def SProg.cells (p : SProg) : List AV := [.lst (memsL p.mems) p.mz p.mroom, .lst (strL p.locks) p.lz p.lroom, .lst (funsL p.funs) p.fz p.froom]
theorem codeL_len (l : List SIns) : (codeL l).length = l.length := by simp [codeL]
theorem memsL_len (l : List SMem) : (memsL l).length = l.length := by simp [memsL]
theorem strL_len (l : List (List UInt8)) : (strL l).length = l.length := by simp [strL]
theorem funsL_len (l : List SFun) : (funsL l).length = l.length := by simp [funsL]
theorem codeL_get {l : List SIns} {n : Nat} {x : SIns} (h : l[n]? = some x) : (codeL l)[n]? = some (.agg x.cells) := by simp [codeL, h]
theorem memsL_get {l : List SMem} {n : Nat} {x : SMem} (h : l[n]? = some x) : (memsL l)[n]? = some (.agg x.cells) := by simp [memsL, h]
theorem strL_get {l : List (List UInt8)} {n : Nat} {x : List UInt8} (h : l[n]? = some x) : (strL l)[n]? = some (.str x) := by simp [strL, h]
theorem funsL_get {l : List SFun} {n : Nat} {x : SFun} (h : l[n]? = some x) : (funsL l)[n]? = some (.agg x.cells) := by simp [funsL, h]
def numberB (p : SProg) (f : SFun) (q : Row) (i : SIns) : Bool :=
  if q.2.2.2.2 = 2 then decide (i.n = 5) || decide (i.n = 6)
  else if q.2.2.2.2 = 3 then decide (7 ≤ i.n) && decide (i.n ≤ 17)
  else if q.2.2.2.2 = 4 then decide (0 ≤ i.n) && decide (i.n < p.mems.length)
  else if q.2.2.2.2 = 5 then decide (0 ≤ i.n) && decide (i.n < p.locks.length)
  else if q.2.2.2.2 = 7 then decide (0 ≤ i.n) && decide (i.n < f.code.length)
  else if q.2.2.2.2 = 6 then decide (0 ≤ i.n) && match p.funs[i.n.toNat]? with
    | some g => !g.thread && decide ((i.args.length : Int) = g.params)
    | none => false
  else true
theorem beq_dec (a b : Int) : (a == b) = decide (a = b) := rfl
theorem pu105 : cfg.pure 105 = true := rfl
instance t105 {d : Option Nat} : TightD cfg 105 d := ⟨fun _ _ => rfl⟩
def B105 (p : List Bool) := cA p Tryz.f105.body
def R105 (p : List Bool) (i : Nat) := Code.region i (cA p Tryz.f105.body) false
def D105 (p : List Bool) (i : Nat) := Code.region i (cA p Tryz.f105.body) true
theorem F105 : (∀ p i, XR cfg 105 (R105 p i) (B105 p) (cA p Tryz.f105.body).toList i false) ∧ cfg.imm 105 4 = true ∧ cfg.imm 105 5 = true ∧ cfg.imm 105 6 = true ∧ cfg.imm 105 7 = true ∧ GO cfg 105 (B105 [tt, tt, ff, tt, ff, tt, ff, ff]) 2 18 ∧ GO cfg 105 (B105 [tt, tt, ff, tt, ff, tt, tt, tt, ff, ff]) 2 26 ∧ GO cfg 105 (B105 [tt, tt, ff, tt, ff, tt, tt, tt, tt, tt, ff, ff]) 2 34 ∧ GO cfg 105 (B105 [tt, tt, ff, tt, ff, tt, tt, tt, tt, tt, tt, tt, ff, ff]) 2 45 ∧ GO cfg 105 (B105 [tt, tt, ff, tt, ff, tt, tt, tt, tt, tt, tt, tt, tt, tt, ff, ff]) 2 56 ∧ XR cfg 105 (D105 [tt, tt, ff, tt, ff, tt, tt, tt, tt, tt, tt, tt, tt, tt, tt, tt, ff, ff] 14) (B105 [tt, tt, ff, tt, ff, tt, tt, tt, tt, tt, tt, tt, tt, tt, tt, tt, ff, ff]) ((cA [tt, tt, ff, tt, ff, tt, tt, tt, tt, tt, tt, tt, tt, tt, tt, tt, ff, ff] Tryz.f105.body).toList) 14 true ∧ GO cfg 105 (B105 [tt, tt, ff, tt, ff, tt, tt, tt, tt, tt, tt, tt, tt, tt, tt, tt, ff, ff]) 2 67 ∧ GO cfg 105 (B105 [tt, tt, ff, tt, ff, tt, tt, tt, tt, tt, tt, tt, tt, tt, tt, tt, ff, ff]) 9 74 ∧ GO cfg 105 (B105 [tt, tt, ff, tt, ff, tt, tt, tt, tt, tt, tt, tt, tt, tt, tt, tt, ff, ff]) 18 83 ∧ RE cfg 105 [0, 1, 2, 3, 4, 5, 6, 7, 8, 9, 13, 14, 22, 30, 41, 52, 63] ∧ cfg.pure 105 = true := ⟨fun _ _ => xr rfl rfl, by kernel_rfl, by kernel_rfl, by kernel_rfl, by kernel_rfl, gO (by kernel_rfl), gO (by kernel_rfl), gO (by kernel_rfl), gO (by kernel_rfl), gO (by kernel_rfl), xd (by kernel_rfl) rfl rfl, gO (by kernel_rfl), gO (by kernel_rfl), gO (by kernel_rfl), rE fun _ => rfl, rfl⟩
def k105 : Code := (.seq (R105 [ff] 0) (.seq (R105 [tt, ff] 1) (.seq (.seq (R105 [tt, tt, ff, ff] 2) (.block 0 (.seq (R105 [tt, tt, ff, tt, ff, ff] 3) (.cond (.tmp 14) (.seq (R105 [tt, tt, ff, tt, ff, tt, ff, ff] 4) .ret) (.seq (R105 [tt, tt, ff, tt, ff, tt, tt, ff] 5) (.cond (.tmp 22) (.seq (R105 [tt, tt, ff, tt, ff, tt, tt, tt, ff, ff] 6) .ret) (.seq (R105 [tt, tt, ff, tt, ff, tt, tt, tt, tt, ff] 7) (.cond (.tmp 30) (.seq (R105 [tt, tt, ff, tt, ff, tt, tt, tt, tt, tt, ff, ff] 8) .ret) (.seq (R105 [tt, tt, ff, tt, ff, tt, tt, tt, tt, tt, tt, ff] 9) (.cond (.tmp 41) (.seq (R105 [tt, tt, ff, tt, ff, tt, tt, tt, tt, tt, tt, tt, ff, ff] 10) .ret) (.seq (R105 [tt, tt, ff, tt, ff, tt, tt, tt, tt, tt, tt, tt, tt, ff] 11) (.cond (.tmp 52) (.seq (R105 [tt, tt, ff, tt, ff, tt, tt, tt, tt, tt, tt, tt, tt, tt, ff, ff] 12) .ret) (.seq (R105 [tt, tt, ff, tt, ff, tt, tt, tt, tt, tt, tt, tt, tt, tt, tt, ff] 13) (.cond (.tmp 63) (.seq (D105 [tt, tt, ff, tt, ff, tt, tt, tt, tt, tt, tt, tt, tt, tt, tt, tt, ff, ff] 14) .ret) .skip)))))))))))))) (.seq (R105 [tt, tt, tt, ff] 15) .ret))))
theorem call105 (x0 x1 x2 x3 : AV) (h : Heap) : call cfg 105 [x0, x1, x2, x3] h = (exec cfg 105 k105 [(0, x0), (1, x1), (2, x2), (3, x3)] h).bind (callEnd cfg 105 h [.tmp 8]) := call_at2 (fnat Tryz.func105 (b := k105) (by kernel_rfl) (by kernel_rfl)) rfl rfl
theorem number_eq (p : SProg) (f : SFun) (q : Row) (i : SIns) (h : Heap) : call cfg 105 [.agg p.cells, .agg f.cells, .agg (rowCells q), .agg i.cells] h = some (.ret (.bool (numberB p f q i)), h) := by
  rw [call105]
  obtain ⟨q1, q2, q3, q4, n⟩ := q
  unfold numberB
  dsimp only
  by_cases h2 : n = 2
  · subst h2
    by_cases ha : i.n = 5
    · have ea : (i.n == 5) = true := by simp [ha]
      simp only [SProg.cells, SFun.cells, SIns.cells, rowCells, F105, k105, Tryz.f105, sxAll, cA, arithA, Env.keep, qt_eq, resultsA, packA, fieldAddrA, loadA, Rv.part, cellsAt, TD.isAgg, ↓Option.bind_some, Nat.reduceBEq, Nat.reduceAdd, ↓reduceIte, ty26, ty47, ty49, ty152, ty3, ty2, ea]
      try simp only [ha, decide_true, Bool.true_or]
      exact leave_kept rfl rfl
    · have ea : (i.n == 5) = false := by simp [ha]
      simp only [SProg.cells, SFun.cells, SIns.cells, rowCells, F105, k105, Tryz.f105, sxAll, cA, arithA, Env.keep, qt_eq, resultsA, packA, fieldAddrA, loadA, Rv.part, cellsAt, TD.isAgg, ↓Option.bind_some, Nat.reduceBEq, Nat.reduceAdd, ↓reduceIte, ty26, ty47, ty49, ty152, ty3, ty2, ea]
      try simp only [ha, decide_false, Bool.false_or, beq_dec]
      exact leave_kept rfl rfl
  have e2 : (n == 2) = false := by simp [h2]
  rw [if_neg h2]
  by_cases h3 : n = 3
  · subst h3
    by_cases ha : 7 ≤ i.n
    · have ea : (i.n ≥ 7) = True := by simp [ha]
      simp only [e2, SProg.cells, SFun.cells, SIns.cells, rowCells, F105, k105, Tryz.f105, sxAll, cA, arithA, Env.keep, qt_eq, resultsA, packA, fieldAddrA, loadA, Rv.part, cellsAt, TD.isAgg, ↓Option.bind_some, Nat.reduceBEq, Nat.reduceAdd, ↓reduceIte, ty26, ty47, ty49, ty152, ty3, ty2, ea]
      try simp only [ha, decide_true, Bool.true_and, if_true, Int.reduceEq, if_false]
      exact leave_kept rfl rfl
    · have ea : (i.n ≥ 7) = False := by simp; omega
      simp only [e2, SProg.cells, SFun.cells, SIns.cells, rowCells, F105, k105, Tryz.f105, sxAll, cA, arithA, Env.keep, qt_eq, resultsA, packA, fieldAddrA, loadA, Rv.part, cellsAt, TD.isAgg, ↓Option.bind_some, Nat.reduceBEq, Nat.reduceAdd, ↓reduceIte, ty26, ty47, ty49, ty152, ty3, ty2, ea]
      try simp only [ha, decide_false, Bool.false_and, if_true, Int.reduceEq, if_false]
      exact leave_kept rfl rfl
  have e3 : (n == 3) = false := by simp [h3]
  rw [if_neg h3]
  by_cases h4 : n = 4
  · subst h4
    by_cases ha : 0 ≤ i.n
    · have ea : (i.n ≥ 0) = True := by simp [ha]
      simp only [e2, e3, SProg.cells, SFun.cells, SIns.cells, rowCells, F105, k105, Tryz.f105, sxAll, cA, arithA, Env.keep, qt_eq, resultsA, packA, fieldAddrA, loadA, Rv.part, cellsAt, TD.isAgg, lenA, ↓Option.bind_some, Nat.reduceBEq, Nat.reduceAdd, ↓reduceIte, ty26, ty47, ty49, ty152, ty3, ty2, ty22, memsL_len, ea]
      try simp only [ha, decide_true, Bool.true_and, if_true, Int.reduceEq, if_false]
      exact leave_kept rfl rfl
    · have ea : (i.n ≥ 0) = False := by simp; omega
      simp only [e2, e3, SProg.cells, SFun.cells, SIns.cells, rowCells, F105, k105, Tryz.f105, sxAll, cA, arithA, Env.keep, qt_eq, resultsA, packA, fieldAddrA, loadA, Rv.part, cellsAt, TD.isAgg, ↓Option.bind_some, Nat.reduceBEq, Nat.reduceAdd, ↓reduceIte, ty26, ty47, ty49, ty152, ty3, ty2, ea]
      try simp only [ha, decide_false, Bool.false_and, if_true, Int.reduceEq, if_false]
      exact leave_kept rfl rfl
  have e4 : (n == 4) = false := by simp [h4]
  rw [if_neg h4]
  by_cases h5 : n = 5
  · subst h5
    by_cases ha : 0 ≤ i.n
    · have ea : (i.n ≥ 0) = True := by simp [ha]
      simp only [e2, e3, e4, SProg.cells, SFun.cells, SIns.cells, rowCells, F105, k105, Tryz.f105, sxAll, cA, arithA, Env.keep, qt_eq, resultsA, packA, fieldAddrA, loadA, Rv.part, cellsAt, TD.isAgg, lenA, ↓Option.bind_some, Nat.reduceBEq, Nat.reduceAdd, ↓reduceIte, ty26, ty47, ty49, ty152, ty3, ty2, ty23, strL_len, ea]
      try simp only [ha, decide_true, Bool.true_and, if_true, Int.reduceEq, if_false]
      exact leave_kept rfl rfl
    · have ea : (i.n ≥ 0) = False := by simp; omega
      simp only [e2, e3, e4, SProg.cells, SFun.cells, SIns.cells, rowCells, F105, k105, Tryz.f105, sxAll, cA, arithA, Env.keep, qt_eq, resultsA, packA, fieldAddrA, loadA, Rv.part, cellsAt, TD.isAgg, ↓Option.bind_some, Nat.reduceBEq, Nat.reduceAdd, ↓reduceIte, ty26, ty47, ty49, ty152, ty3, ty2, ea]
      try simp only [ha, decide_false, Bool.false_and, if_true, Int.reduceEq, if_false]
      exact leave_kept rfl rfl
  have e5 : (n == 5) = false := by simp [h5]
  rw [if_neg h5]
  by_cases h7 : n = 7
  · subst h7
    by_cases ha : 0 ≤ i.n
    · have ea : (i.n ≥ 0) = True := by simp [ha]
      simp only [e2, e3, e4, e5, SProg.cells, SFun.cells, SIns.cells, rowCells, F105, k105, Tryz.f105, sxAll, cA, arithA, Env.keep, qt_eq, resultsA, packA, fieldAddrA, loadA, Rv.part, cellsAt, TD.isAgg, lenA, ↓Option.bind_some, Nat.reduceBEq, Nat.reduceAdd, ↓reduceIte, ty26, ty47, ty49, ty152, ty3, ty2, ty45, codeL_len, ea]
      try simp only [ha, decide_true, Bool.true_and, if_true, Int.reduceEq, if_false]
      exact leave_kept rfl rfl
    · have ea : (i.n ≥ 0) = False := by simp; omega
      simp only [e2, e3, e4, e5, SProg.cells, SFun.cells, SIns.cells, rowCells, F105, k105, Tryz.f105, sxAll, cA, arithA, Env.keep, qt_eq, resultsA, packA, fieldAddrA, loadA, Rv.part, cellsAt, TD.isAgg, ↓Option.bind_some, Nat.reduceBEq, Nat.reduceAdd, ↓reduceIte, ty26, ty47, ty49, ty152, ty3, ty2, ea]
      try simp only [ha, decide_false, Bool.false_and, if_true, Int.reduceEq, if_false]
      exact leave_kept rfl rfl
  have e7 : (n == 7) = false := by simp [h7]
  rw [if_neg h7]
  by_cases h6 : n = 6
  · subst h6
    by_cases ha : 0 ≤ i.n
    · have ea : (i.n ≥ 0) = True := by simp [ha]
      by_cases hb : i.n < p.funs.length
      · have eb : (i.n < (p.funs.length : Int)) = True := by simp [hb]
        obtain ⟨g, hg⟩ : ∃ g, p.funs[i.n.toNat]? = some g := ⟨_, List.getElem?_eq_getElem (by omega)⟩
        have hg' := funsL_get hg
        have hneg : (i.n < 0) = False := by simp; omega
        cases ht : g.thread with
        | true =>
          simp only [e2, e3, e4, e5, e7, SProg.cells, SFun.cells, SIns.cells, rowCells, F105, k105, Tryz.f105, sxAll, cA, arithA, Env.keep, qt_eq, resultsA, packA, indexAddrA, unA, fieldAddrA, loadA, Rv.part, cellsAt, TD.isAgg, lenA, ↓Option.bind_some, Nat.reduceBEq, Nat.reduceAdd, ↓reduceIte, ty26, ty47, ty49, ty152, ty3, ty2, ty4, ty24, funsL_len, ea, eb, hneg, hg', ht]
          try simp only [hg, ht, Bool.not_true, Bool.false_and]
          exact leave_kept rfl rfl
        | false =>
          simp only [e2, e3, e4, e5, e7, SProg.cells, SFun.cells, SIns.cells, rowCells, F105, k105, Tryz.f105, sxAll, cA, arithA, Env.keep, qt_eq, resultsA, packA, indexAddrA, unA, fieldAddrA, loadA, Rv.part, cellsAt, TD.isAgg, lenA, ↓Option.bind_some, Nat.reduceBEq, Nat.reduceAdd, ↓reduceIte, ty26, ty47, ty49, ty152, ty3, ty2, ty4, ty31, ty24, funsL_len, intL_len, ea, eb, hneg, hg', ht]
          try simp only [hg, ht, Bool.true_and, Bool.not_false, beq_dec]
          exact leave_kept rfl rfl
      · have eb : (i.n < (p.funs.length : Int)) = False := by simp; omega
        have hg : p.funs[i.n.toNat]? = none := List.getElem?_eq_none (by omega)
        simp only [e2, e3, e4, e5, e7, SProg.cells, SFun.cells, SIns.cells, rowCells, F105, k105, Tryz.f105, sxAll, cA, arithA, Env.keep, qt_eq, resultsA, packA, fieldAddrA, loadA, Rv.part, cellsAt, TD.isAgg, lenA, ↓Option.bind_some, Nat.reduceBEq, Nat.reduceAdd, ↓reduceIte, ty26, ty47, ty49, ty152, ty3, ty2, ty24, funsL_len, ea, eb]
        try simp only [hg]
        exact leave_kept rfl rfl
    · have ea : (i.n ≥ 0) = False := by simp; omega
      simp only [e2, e3, e4, e5, e7, SProg.cells, SFun.cells, SIns.cells, rowCells, F105, k105, Tryz.f105, sxAll, cA, arithA, Env.keep, qt_eq, resultsA, packA, fieldAddrA, loadA, Rv.part, cellsAt, TD.isAgg, ↓Option.bind_some, Nat.reduceBEq, Nat.reduceAdd, ↓reduceIte, ty26, ty47, ty49, ty152, ty3, ty2, ea]
      try simp only [ha, decide_false, Bool.false_and, if_true]
      exact leave_kept rfl rfl
  have e6 : (n == 6) = false := by simp [h6]
  rw [if_neg h6]
  simp only [e2, e3, e4, e5, e6, e7, SProg.cells, SFun.cells, SIns.cells, rowCells, F105, k105, Tryz.f105, sxAll, cA, arithA, Env.keep, qt_eq, resultsA, packA, fieldAddrA, loadA, Rv.part, cellsAt, TD.isAgg, ↓Option.bind_some, Nat.reduceBEq, Nat.reduceAdd, ↓reduceIte, ty26, ty47, ty49, ty152, ty3, ty2]
  exact leave_kept rfl rfl
end
end Go.Proofs.Sx
