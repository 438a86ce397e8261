/-
  'slices.Sort' at []string, as one step of the interpreter: the slice's object holds the texts, sorted.
-/
import Derived.Test.YthljjckomhnhoaaGreatDoorPtH
import Derived.Test.YthljjckomhnhoaaGreatDoorProg
import Derived.KernelRfl
set_option linter.unusedSectionVars false
set_option linter.unusedSimpArgs false
set_option linter.unusedVariables false
set_option linter.defProp false
set_option maxRecDepth 100000
namespace Go.Rv
def strsOf : List AV -> Option (List (List UInt8))
 | [] => some []
 | .str s :: r => (strsOf r).map (s :: ·)
 | _ => none
theorem strsOf_map : ∀ l : List (List UInt8), strsOf (l.map AV.str) = some l
 | [] => rfl
 | a :: r => by simp [strsOf, strsOf_map r]
theorem strsOf_eq : ∀ {cs : List AV} {l : List (List UInt8)}, strsOf cs = some l -> cs = l.map AV.str
 | [], l, h => by simp only [strsOf, qAf] at h; subst h; rfl
 | c :: r, l, h => by
  cases c <;> simp only [strsOf, reduceCtorEq] at h
  obtain ⟨l', hl, rfl⟩ := qAl.1 h
  rw [strsOf_eq hl]; rfl
def insS (x : List UInt8) : List (List UInt8) -> List (List UInt8)
 | [] => [x]
 | y :: r => match decide (x <= y) with
  | true => x :: y :: r
  | false => y :: insS x r
def sortedS : List (List UInt8) -> List (List UInt8)
 | [] => []
 | x :: r => insS x (sortedS r)
theorem insS_perm (x : List UInt8) : ∀ l, (insS x l).Perm (x :: l)
 | [] => List.Perm.refl _
 | y :: r => by
  simp only [insS]
  cases decide (x <= y) with
  | true => exact List.Perm.refl _
  | false => exact ((insS_perm x r).cons y).trans (List.Perm.swap x y r)
theorem sortedS_perm : ∀ l, (sortedS l).Perm l
 | [] => List.Perm.refl _
 | x :: r => (insS_perm x (sortedS r)).trans ((sortedS_perm r).cons x)
theorem insS_sorted (x : List UInt8) : ∀ l, l.Pairwise (fun a b : List UInt8 => a <= b) -> (insS x l).Pairwise (fun a b : List UInt8 => a <= b)
 | [], _ => by simp [insS]
 | y :: r, h => by
  have h1 := List.pairwise_cons.1 h
  simp only [insS]
  cases hd : decide (x <= y) with
  | true =>
   have hxy : x <= y := by simpa using hd
   refine List.pairwise_cons.2 ⟨fun a ha => ?_, h⟩
   rcases qAj.1 ha with rfl | ha
   ·exact hxy
   ·exact List.le_trans hxy (h1.1 a ha)
  | false =>
   have hxy : ¬ x <= y := by simpa using hd
   have hyx : y <= x := (List.le_total x y).resolve_left hxy
   refine List.pairwise_cons.2 ⟨fun a ha => ?_, insS_sorted x r h1.2⟩
   rcases qAj.1 ((insS_perm x r).mem_iff.1 ha) with rfl | ha
   ·exact hyx
   ·exact h1.1 a ha
theorem sortedS_sorted : ∀ l, (sortedS l).Pairwise (fun a b : List UInt8 => a <= b)
 | [] => by simp [sortedS]
 | x :: r => insS_sorted x _ (sortedS_sorted r)
theorem sortedS_eq (l : List (List UInt8)) : l.mergeSort (fun x y => decide (x <= y)) = sortedS l := by
 have h1 : (l.mergeSort (fun x y => decide (x <= y))).Pairwise (fun a b : List UInt8 => a <= b) := by
  refine (List.pairwise_mergeSort (le := fun x y : List UInt8 => decide (x <= y)) (fun a b c h1 h2 => ?_) (fun a b => ?_) l).imp fun h => by simpa using h
  ·simp only [decide_eq_true_eq] at *; exact List.le_trans h1 h2
  ·have := List.le_total a b
   simpa [Bool.or_eq_true] using this
 exact List.Perm.eq_of_pairwise (le := fun a b : List UInt8 => a <= b) (fun a b _ _ x y => List.le_antisymm x y) h1 (sortedS_sorted l) ((List.mergeSort_perm l _).trans (sortedS_perm l).symm)
def sortStr (args : List AV) (h : Heap) : Option (CRes × Heap) :=
 match args with
 | [.lst [] _ _] => some (.ret (.tup []), h)
 | [.msl o 0 len 1 g _] => (h.obj o g).bind fun cs => if cs.length = len /\ len <= 1000000000 then (strsOf cs).map fun ss => (.ret (.tup []), h.set o (.cells ((sortedS ss).map AV.str) g)) else none
 | _ => none
end Go.Rv
namespace Go.Proofs.Sx
open Go.Rv Go.Proofs
noncomputable section
def im (f t : Nat) : Bool := match f with
 | 3 => match t with | 2 => true | 189 => true | _ => false
 | 4 => match t with | 6 => true | 7 => true | 8 => true | 14 => true | 15 => true | 25 => true | 26 => true | 27 => true | 33 => true | 34 => true | 35 => true | 41 => true | 42 => true | 43 => true | 49 => true | 50 => true | 51 => true | 52 => true | 58 => true | _ => false
 | 5 => match t with | 1 => true | _ => false
 | 6 => match t with | 1 => true | 24 => true | 43 => true | _ => false
 | 8 => match t with | 1 => true | 45 => true | _ => false
 | 13 => match t with | 43 => true | 49 => true | 55 => true | _ => false
 | 16 => match t with | 1 => true | _ => false
 | 17 => match t with | 1 => true | _ => false
 | 18 => match t with | 31 => true | _ => false
 | 19 => match t with | 2 => true | _ => false
 | 23 => match t with | 1 => true | 32 => true | _ => false
 | 24 => match t with | 36 => true | 40 => true | _ => false
 | 26 => match t with | 1 => true | 18 => true | _ => false
 | 30 => match t with | 15 => true | _ => false
 | 32 => match t with | 1 => true | 18 => true | 35 => true | _ => false
 | 34 => match t with | 1 => true | _ => false
 | 36 => match t with | 2 => true | _ => false
 | 37 => match t with | 2 => true | 3 => true | _ => false
 | 44 => match t with | 1 => true | _ => false
 | 64 => match t with | 3 => true | _ => false
 | 65 => match t with | 3 => true | 4 => true | 5 => true | _ => false
 | 79 => match t with | 20 => true | _ => false
 | 80 => match t with | 20 => true | 50 => true | _ => false
 | 90 => match t with | 1 => true | _ => false
 | 91 => match t with | 2 => true | 3 => true | _ => false
 | 92 => match t with | 2 => true | _ => false
 | 93 => match t with | 4 => true | 5 => true | 6 => true | 7 => true | _ => false
 | 94 => match t with | 1 => true | 27 => true | 34 => true | _ => false
 | 95 => match t with | 1 => true | _ => false
 | 131 => match t with | 1 => true | _ => false
 | 132 => match t with | 10 => true | _ => false
 | 158 => match t with | 1 => true | _ => false
 | _ => false
def pu (f : Nat) : Bool := match f with
 | 8 => false
 | 12 => false
 | 18 => false
 | 21 => false
 | 24 => false
 | 27 => false
 | 28 => false
 | 31 => false
 | 39 => false
 | 45 => false
 | 47 => false
 | 48 => false
 | 49 => false
 | 56 => false
 | 57 => false
 | 67 => false
 | 71 => false
 | 72 => false
 | 73 => false
 | 74 => false
 | 75 => false
 | 76 => false
 | 77 => false
 | 78 => false
 | 79 => false
 | 80 => false
 | 81 => false
 | 82 => false
 | 83 => false
 | 97 => false
 | 98 => false
 | 101 => false
 | 107 => false
 | 108 => false
 | 109 => false
 | 110 => false
 | 125 => false
 | 132 => false
 | 135 => false
 | 148 => false
 | _ => true
def lv (f r : Nat) : Option (List Nat) := match f with
 | 2 => some []
 | 3 => some [0, 1, 2, 4, 5, 6, 7, 8, 9, 10, 11, 12, 13, 14, 15, 16, 17, 18, 19, 21, 23, 34, 42, 53, 58, 82, 90, 107, 115, 132, 141, 173, 178, 186, 204, 208, 214, 258, 267, 278]
 | 4 => some [0, 1, 2, 4]
 | 5 => some [0, 1, 2, 3, 4, 5, 21, 46]
 | 6 => some [0, 1, 2, 3, 4, 6, 7, 8, 11, 14, 15, 16, 17, 34, 35, 36, 52, 61, 62, 63, 81]
 | 7 => some [0, 1, 4, 5, 9, 17]
 | 8 => some [0, 1, 2, 3, 4, 5, 6, 8, 11, 22, 30, 31, 32, 33]
 | 9 => some [0, 2, 4]
 | 10 => some [0, 1, 4, 5, 6, 7, 12]
 | 11 => some [0, 2, 4]
 | 12 => some [0, 1, 4, 5, 6, 7, 9, 14]
 | 13 => some [0, 2, 3, 4, 5, 6, 10, 30]
 | 14 => some [0, 1, 4, 5, 10, 14, 26]
 | 15 => some [0, 1, 4, 5, 10, 14, 25]
 | 16 => some [0, 1, 2, 16]
 | 17 => some [0, 1, 2, 3, 5, 8, 9, 10, 11, 16]
 | 18 => some [0, 2, 3, 4, 5, 7, 11, 12, 13, 14, 18, 19, 20, 21]
 | 19 => some [0, 1, 2, 4, 5, 6]
 | 20 => some [0, 1, 4]
 | 21 => some [0, 1, 4, 5, 6, 7, 12, 19, 29]
 | 22 => some [0, 1, 3]
 | 23 => some [0, 1, 2, 3, 4, 5, 11, 13, 14, 15, 16, 29]
 | 24 => some [0, 1, 4, 5, 6, 8, 9, 12, 23, 24, 25, 26]
 | 25 => some [0, 1, 2, 3, 4, 5, 20, 21, 22, 41, 42, 43, 44]
 | 26 => some [0, 1, 2, 3, 4, 5, 7, 8, 9, 10, 15]
 | 27 => some [0, 1, 2, 6, 7]
 | 28 => some [0, 2, 8, 18]
 | 29 => some [0, 1, 4, 30]
 | 30 => some [0, 2, 3, 4, 6, 7, 8, 12]
 | 31 => some [0, 1, 4, 5, 6, 7, 10, 22, 54]
 | 32 => some [0, 1, 2, 3, 5, 7, 9, 10, 11, 12, 26, 27, 28, 29]
 | 33 => some [0, 1, 4]
 | 34 => some [0, 1, 2]
 | 35 => some [0, 1, 4]
 | 36 => some [0, 1, 2, 3]
 | 37 => some [0, 1, 2, 3, 4, 5, 6, 46, 59]
 | 38 => some [0, 2]
 | 39 => some [0, 1, 2, 3, 6, 11, 12, 13, 14, 24]
 | 40 => some [0, 1, 4, 5, 7, 8, 9, 16]
 | 41 => some [0, 1, 4, 5, 7, 8, 9, 16]
 | 42 => some [0, 1, 4]
 | 43 => some [0, 1, 3]
 | 44 => some [0, 1, 2]
 | 45 => some [0, 1, 4, 5, 6, 7, 8, 10, 26, 37]
 | 46 => some [0, 2, 4]
 | 47 => some [0, 2, 4]
 | 48 => some [0, 2, 4]
 | 49 => some [0, 2, 4]
 | 50 => some [0, 2, 4]
 | 51 => some [0, 1, 4]
 | 52 => some [0, 2]
 | 53 => some [0, 1, 4, 5, 6, 8, 20]
 | 54 => some [0, 1, 4]
 | 55 => some [0]
 | 56 => some [0, 2]
 | 57 => some [0, 2, 3, 4, 5, 8, 13, 25, 32, 44]
 | 58 => some [0, 1, 4]
 | 59 => some [0, 2]
 | 60 => some [0, 2, 24]
 | 61 => some [0, 1, 4, 5, 7, 8, 9, 16]
 | 62 => some [0, 1, 4, 5, 7, 8, 9, 16]
 | 63 => some [0, 1, 4]
 | 64 => some [0, 1, 2, 3, 4]
 | 65 => some [0, 1, 2, 3, 4, 5, 6, 7, 8, 9, 10, 11, 34, 36, 37, 45]
 | 66 => some [0, 2, 3]
 | 67 => some [0, 1, 2]
 | 68 => some [0, 1, 4, 5, 6, 7, 8, 9]
 | 69 => some [0, 1, 4, 5, 7, 8, 9, 16]
 | 70 => some [0, 1, 4, 5, 6, 7, 9]
 | 71 => some [0]
 | 72 => some [0]
 | 73 => some [0]
 | 74 => some [0]
 | 75 => some [0, 2, 3]
 | 76 => some [0]
 | 77 => some [0]
 | 78 => some [0]
 | 79 => some [0]
 | 80 => some [0, 2, 4, 5, 10, 11, 12, 13]
 | 81 => some [0]
 | 82 => some [0, 9]
 | 83 => some [0, 2, 3, 4, 45]
 | 84 => some [0, 1, 2, 3, 8, 9, 10, 11, 12, 13, 14, 15, 16, 17, 18, 23, 29, 35, 50, 68, 72, 87, 113]
 | 85 => some [0, 2]
 | 86 => some [0, 1, 4, 5, 7, 8, 9, 16]
 | 87 => some [0, 1, 4]
 | 88 => some [0, 1, 4, 5, 6, 12, 21, 34]
 | 89 => some [0, 1, 4, 5, 7, 8, 9, 16]
 | 90 => some [0, 1, 2, 3, 12]
 | 91 => some [0, 1, 2, 3, 4]
 | 92 => some [0, 1, 2, 3, 4, 7, 10, 13, 17, 21]
 | 93 => some [0, 1, 2, 3, 4, 5, 6, 7, 8, 9, 13, 14, 22, 30, 41, 52, 63]
 | 94 => some [0, 1, 2, 3, 5, 23, 30, 38]
 | 95 => some [0, 1, 2, 3, 4, 5, 15]
 | 96 => some [0, 2]
 | 97 => some [0, 2]
 | 98 => some [0, 1, 3, 5, 7, 13]
 | 99 => some [0, 1, 4, 5, 6]
 | 100 => some [0, 1, 4, 5, 6, 7, 8, 9, 10, 11, 12, 13]
 | 101 => some [0, 1, 2, 7]
 | 102 => some [0, 1, 4]
 | 103 => some [0, 1, 4, 5, 6, 7, 11]
 | 104 => some [0, 1, 2, 6, 7, 8, 9, 29]
 | 105 => some [0, 1, 2, 6, 7, 8, 9, 18]
 | 106 => some [0, 2, 8]
 | 107 => some [0, 1, 5]
 | 108 => some [0, 1, 2, 3, 8, 9, 10, 19]
 | 109 => some [0, 1, 2, 6, 7, 9, 14, 25]
 | 110 => some [0, 1, 2, 6, 7, 8, 9, 14, 31]
 | 111 => some [0, 1, 2, 6, 7, 12, 30]
 | 112 => some [0, 1, 2, 6, 7, 8, 9, 10, 19, 30]
 | 113 => some [0, 1, 2, 6, 7, 8, 9, 10, 15, 33, 43]
 | 114 => some [0, 1, 2, 6, 7, 8, 9, 10, 11, 12, 32, 34, 49, 51, 54]
 | 115 => some [0, 1, 2, 6, 7, 13]
 | 116 => some [0, 1, 2, 6, 7, 8, 9, 10, 14, 32, 37, 41, 61, 65, 78, 98, 103, 116]
 | 117 => some [0, 1, 4]
 | 118 => some [0, 1, 2, 3, 8, 9, 10, 43, 59, 64]
 | 119 => some [0, 1, 2, 3, 8, 9, 10, 11, 43, 60, 65, 112, 129, 134]
 | 120 => some [0, 2, 4, 8]
 | 121 => some [0, 2, 4, 8, 14]
 | 122 => some [0, 1, 4, 5, 7, 8, 9, 16]
 | 123 => some [0, 1, 4, 13]
 | 124 => some [0, 1, 4, 16]
 | 125 => some [0, 2, 3, 4, 5, 9, 16]
 | 126 => some [0, 1, 4, 7, 12]
 | 127 => some [0, 1, 4, 7, 15]
 | 128 => some [0, 1, 4, 5, 6, 9, 18]
 | 129 => some [0, 1, 4, 5, 6, 9, 17, 26]
 | 130 => some [0, 1, 4, 5, 10, 12, 13, 14, 24]
 | 131 => some [0, 1, 2]
 | 132 => some [0, 1, 2, 4, 5, 6, 7]
 | 133 => some [0, 1, 2, 3, 8, 9, 10, 11, 12, 13, 14, 15, 16, 17, 18, 23, 29, 35, 50, 68, 72, 87, 113]
 | 134 => some [0, 2, 3]
 | 135 => some [0, 1]
 | 136 => some [0, 1, 2, 6, 7, 8, 11, 23]
 | 137 => some [0, 1, 4, 5, 8]
 | 138 => some [0, 1, 2, 3, 8, 9, 16, 36, 52]
 | 139 => some [0, 2]
 | 140 => some [0, 2]
 | 141 => some [0, 1, 2, 6]
 | 142 => some [0, 1, 2, 3, 4, 10]
 | 143 => some [0, 2]
 | 144 => some [0, 1, 4]
 | 145 => some [0, 2, 3, 10]
 | 146 => some [0, 1, 4]
 | 147 => some [0, 2, 3, 4, 5, 6, 10, 18, 27, 33, 35, 48]
 | 148 => some [0, 1, 4, 5, 6, 7, 8, 14]
 | 149 => some [0, 1, 2, 6, 7, 12, 30]
 | 150 => some [0, 1, 2, 6, 7, 8, 9, 10, 19, 30]
 | 151 => some [0, 1, 2, 6, 7, 8, 9, 10, 15, 33, 43]
 | 152 => some [0, 1, 2, 6, 7, 8, 9, 10, 11, 12, 32, 34, 49, 51, 54]
 | 153 => some [0, 1, 2, 6, 7, 13]
 | 154 => some [0, 1, 2, 6, 7, 8, 9, 10, 14, 32, 37, 41, 61, 65, 78, 98, 103, 116]
 | 155 => some [0, 1, 4]
 | 156 => some [0, 1, 2, 3, 8, 9, 10, 43, 59, 64]
 | 157 => some [0, 1, 2, 3, 8, 9, 10, 11, 43, 60, 65, 112, 129, 134]
 | 158 => some [0, 1, 2]
 | 159 => some [0, 1, 2, 5]
 | 160 => some [0, 1, 4]
 | 161 => some [0, 1, 4]
 | 162 => some [0, 1, 4]
 | 163 => some [0, 1, 4]
 | 164 => some [0, 1, 4]
 | 165 => some [0, 1, 4]
 | 166 => some [0, 1, 4]
 | 167 => some [0, 1, 4]
 | 168 => some [0, 1, 4]
 | 169 => some [0, 1, 4]
 | 170 => some [0, 1, 4]
 | 171 => some [0, 1, 2, 3, 8, 9, 18]
 | 172 => some [0, 2, 3, 4, 5, 6, 7, 8, 9, 10, 11, 12, 16, 23, 45, 57, 59, 75, 77, 98]
 | 173 => some [0, 1, 4, 5, 6, 7, 8, 9, 10, 11, 12, 13, 14, 15, 16, 26, 33, 43, 51, 64, 98, 108, 124, 139, 143, 156, 160, 171, 175, 176, 177, 181, 183]
 | 174 => some [0, 2]
 | 175 => some [0, 1, 2, 3, 8, 9, 16, 36, 52]
 | 176 => some [0, 1, 2, 6]
 | 177 => some [0, 1, 2, 3, 4, 10]
 | 178 => some [0, 2]
 | 179 => some [0, 1, 4]
 | 180 => some [0, 2, 3, 10]
 | 181 => some [0, 2]
 | 183 => some [0, 1, 2, 3, 8, 9, 18]
 | 184 => some [0, 1, 4]
 | 210 => some []
 | _ => none
def lo (f t : Nat) : List Nat := match f with
 | 6 => match t with | 74 => [0, 1] | _ => []
 | 8 => match t with | 43 => [2, 3, 4] | 44 => [2, 3, 4] | _ => []
 | 24 => match t with | 39 => [2, 3, 4] | _ => []
 | 25 => match t with | 11 => [6, 7, 9] | 14 => [9] | 33 => [0, 1] | _ => []
 | 79 => match t with | 21 => [1, 2, 3] | _ => []
 | 80 => match t with | 49 => [2, 3] | _ => []
 | _ => []
def opRows : List (Bool × Bool × Bool × Bool × Int) := [(false, false, false, false, 0), (true, false, false, false, 1), (true, true, false, false, 0), (true, true, false, false, 2), (true, true, true, false, 3), (true, true, false, true, 4), (false, true, true, true, 4),
 (false, false, false, false, 5), (false, false, false, false, 5), (false, true, false, false, 0), (true, false, false, false, 6), (false, false, false, false, 7), (false, true, false, false, 7), (false, true, false, false, 0)]
def opCells : List AV := (opRows.map fun q => [AV.bool q.1, .bool q.2.1, .bool q.2.2.1, .bool q.2.2.2.1, .int .i64 q.2.2.2.2]).flatten
def wordsOf : List String := ["global", "array", "lock", "func", "thread", "var", "if", "else", "while", "with", "print", "call", "return", "true", "false"]
def wordCells : List AV := wordsOf.map fun s => .str s.toUTF8.data.toList
def glb (g : Nat) : Option AV := match g with
 | 0 => some (.ref wordCells)
 | 1 => some (.ref opCells)
 | _ => none
def prm (f : Nat) : Option (List AV -> Heap -> Option (CRes × Heap)) := match f with
 | 66 => some (sortedKeys 98)
 | 56 => some sortStr
 | _ => none
def told : RvTold := { pure := pu, imm := im, live := lv, glob := glb, prim := prm, loose := lo }
def cfg : Cfg := told.cfg Tryz.prog
def cfg0 : Cfg := told.bare Tryz.prog
instance : NoAlone cfg := ⟨fun _ => rfl⟩
instance : NoRounds cfg := ⟨fun _ => rfl⟩
theorem qt_eq (f t : Nat) : cfg.quiet f t = false := rfl
theorem fnat {f : Nat} {fn : Func} {b : Code} (h1 : Tryz.prog.funcs[f]? = some fn) (h2 : fn.body = some b) (h3 : okB cfg0 f fn b = true) : cfg.fn f = some ⟨fn.params.size + fn.nfree, fn.results.toList, b⟩ := fn_of (T := told) h1 h2 h3
theorem ty2 : cfg.ty 2 = some ⟨.int .i64, 1, 8, [.int .i64 0]⟩ := by kernel_rfl
theorem ty3 : cfg.ty 3 = some ⟨.int .i64, 1, 8, [.int .i64 0]⟩ := by kernel_rfl
theorem ty4 : cfg.ty 4 = some ⟨.bool, 1, 1, [.bool false]⟩ := by kernel_rfl
theorem ty5 : cfg.ty 5 = some ⟨.int .u8, 1, 1, [.int .u8 0]⟩ := by kernel_rfl
theorem ty9 : cfg.ty 9 = some ⟨.str, 1, 16, [.str []]⟩ := by kernel_rfl
theorem ty22 : cfg.ty 22 = some ⟨.slice 81, 1, 24, [.lst [] 0 .nil]⟩ := by kernel_rfl
theorem ty23 : cfg.ty 23 = some ⟨.slice 9, 1, 24, [.lst [] 0 .nil]⟩ := by kernel_rfl
theorem ty24 : cfg.ty 24 = some ⟨.slice 39, 1, 24, [.lst [] 0 .nil]⟩ := by kernel_rfl
theorem ty26 : cfg.ty 26 = some ⟨.struct [(22, 0), (23, 1), (24, 2)], 3, 72, [.lst [] 0 .nil, .lst [] 0 .nil, .lst [] 0 .nil]⟩ := by kernel_rfl
theorem ty27 : cfg.ty 27 = some ⟨.slice 3, 1, 24, [.lst [] 0 .nil]⟩ := by kernel_rfl
theorem ty30 : cfg.ty 30 = some ⟨.slice 27, 1, 24, [.lst [] 0 .nil]⟩ := by kernel_rfl
theorem ty32 : cfg.ty 32 = some ⟨.struct [(30, 0), (30, 1), (30, 2), (30, 3), (27, 4)], 5, 120, [.lst [] 0 .nil, .lst [] 0 .nil, .lst [] 0 .nil, .lst [] 0 .nil, .lst [] 0 .nil]⟩ := by kernel_rfl
theorem ty37 : cfg.ty 37 = some ⟨.slice 41, 1, 24, [.lst [] 0 .nil]⟩ := by kernel_rfl
theorem ty39 : cfg.ty 39 = some ⟨.struct [(9, 0), (4, 1), (3, 2), (3, 3), (37, 4)], 5, 64, [.str [], .bool false, .int .i64 0, .int .i64 0, .lst [] 0 .nil]⟩ := by kernel_rfl
theorem ty41 : cfg.ty 41 = some ⟨.struct [(5, 0), (3, 1), (3, 2), (3, 3), (2, 4), (27, 5)], 6, 64, [.int .u8 0, .int .i64 0, .int .i64 0, .int .i64 0, .int .i64 0, .lst [] 0 .nil]⟩ := by kernel_rfl
theorem ty42 : cfg.ty 42 = some ⟨.ptr, 1, 8, [.nilPtr]⟩ := by kernel_rfl
theorem ty61 : cfg.ty 61 = some ⟨.ptr, 1, 8, [.nilPtr]⟩ := by kernel_rfl
theorem ty65 : cfg.ty 65 = some ⟨.slice 73, 1, 24, [.lst [] 0 .nil]⟩ := by kernel_rfl
theorem ty66 : cfg.ty 66 = some ⟨.slice 2, 1, 24, [.lst [] 0 .nil]⟩ := by kernel_rfl
theorem ty68 : cfg.ty 68 = some ⟨.struct [(26, 0), (61, 3), (65, 4), (3, 5), (66, 6), (5, 7)], 8, 144, [.lst [] 0 .nil, .lst [] 0 .nil, .lst [] 0 .nil, .nilPtr, .lst [] 0 .nil, .int .i64 0, .lst [] 0 .nil, .int .u8 0]⟩ := by kernel_rfl
theorem ty71 : cfg.ty 71 = some ⟨.struct [(3, 0), (3, 1), (66, 2)], 3, 40, [.int .i64 0, .int .i64 0, .lst [] 0 .nil]⟩ := by kernel_rfl
theorem ty73 : cfg.ty 73 = some ⟨.slice 71, 1, 24, [.lst [] 0 .nil]⟩ := by kernel_rfl
theorem ty74 : cfg.ty 74 = some ⟨.ptr, 1, 8, [.nilPtr]⟩ := by kernel_rfl
theorem ty76 : cfg.ty 76 = some ⟨.int .u64, 1, 8, [.int .u64 0]⟩ := by kernel_rfl
theorem ty81 : cfg.ty 81 = some ⟨.struct [(9, 0), (3, 1), (2, 2)], 3, 32, [.str [], .int .i64 0, .int .i64 0]⟩ := by kernel_rfl
theorem ty86 : cfg.ty 86 = some ⟨.map 3 3, 1, 8, [.nilMap]⟩ := by kernel_rfl
theorem ty87 : cfg.ty 87 = some ⟨.map 3 3, 1, 8, [.nilMap]⟩ := by kernel_rfl
theorem ty88 : cfg.ty 88 = some ⟨.func, 1, 8, [.nilFunc]⟩ := by kernel_rfl
theorem ty92 : cfg.ty 92 = some ⟨.slice 66, 1, 24, [.lst [] 0 .nil]⟩ := by kernel_rfl
theorem ty94 : cfg.ty 94 = some ⟨.struct [(92, 0), (3, 1), (86, 2)], 3, 40, [.lst [] 0 .nil, .int .i64 0, .nilMap]⟩ := by kernel_rfl
theorem ty106 : cfg.ty 106 = some ⟨.struct [(42, 0), (3, 1), (74, 2), (41, 3), (4, 9)], 10, 96, [.nilPtr, .int .i64 0, .nilPtr, .int .u8 0, .int .i64 0, .int .i64 0, .int .i64 0, .int .i64 0, .lst [] 0 .nil, .bool false]⟩ := by kernel_rfl
theorem ty107 : cfg.ty 107 = some ⟨.func, 1, 8, [.nilFunc]⟩ := by kernel_rfl
theorem ty108 : cfg.ty 108 = some ⟨.array 14 107, 14, 112, [.nilFunc, .nilFunc, .nilFunc, .nilFunc, .nilFunc, .nilFunc, .nilFunc, .nilFunc, .nilFunc, .nilFunc, .nilFunc, .nilFunc, .nilFunc, .nilFunc]⟩ := by kernel_rfl
theorem ty122 : cfg.ty 122 = some ⟨.int .u64, 1, 8, [.int .u64 0]⟩ := by kernel_rfl
theorem ty132 : cfg.ty 132 = some ⟨.array 15 9, 15, 240, [.str [], .str [], .str [], .str [], .str [], .str [], .str [], .str [], .str [], .str [], .str [], .str [], .str [], .str [], .str []]⟩ := by kernel_rfl
theorem ty136 : cfg.ty 136 = some ⟨.struct [(4, 0), (4, 1), (4, 2), (4, 3), (3, 4)], 5, 16, [.bool false, .bool false, .bool false, .bool false, .int .i64 0]⟩ := by kernel_rfl
theorem ty174 : cfg.ty 174 = some ⟨.array 256 4, 256, 256, copies 256 [.bool false]⟩ := by kernel_rfl
theorem ty179 : cfg.ty 179 = some ⟨.array 14 136, 70, 224, [.bool false, .bool false, .bool false, .bool false, .int .i64 0, .bool false, .bool false, .bool false, .bool false, .int .i64 0, .bool false, .bool false, .bool false, .bool false, .int .i64 0, .bool false, .bool false, .bool false, .bool false, .int .i64 0, .bool false, .bool false, .bool false, .bool false, .int .i64 0, .bool false, .bool false, .bool false, .bool false, .int .i64 0, .bool false, .bool false, .bool false, .bool false, .int .i64 0, .bool false, .bool false, .bool false, .bool false, .int .i64 0, .bool false, .bool false, .bool false, .bool false, .int .i64 0, .bool false, .bool false, .bool false, .bool false, .int .i64 0, .bool false, .bool false, .bool false, .bool false, .int .i64 0, .bool false, .bool false, .bool false, .bool false, .int .i64 0, .bool false, .bool false, .bool false, .bool false, .int .i64 0, .bool false, .bool false, .bool false, .bool false, .int .i64 0]⟩ := by kernel_rfl
theorem ty184 : cfg.ty 184 = some ⟨.func, 1, 8, [.nilFunc]⟩ := by kernel_rfl
theorem ty186 : cfg.ty 186 = some ⟨.map 5 184, 1, 8, [.nilMap]⟩ := by kernel_rfl
theorem ty207 : cfg.ty 207 = some ⟨.func, 1, 8, [.nilFunc]⟩ := by kernel_rfl
end
end Go.Proofs.Sx
namespace Go.Proofs.Sx
open Go.Rv Go.Proofs
attribute [local congr] bind_left got_left guardK_left
noncomputable section
def intL (xs : List Int) : List AV := xs.map (AV.int .i64)
theorem intL_len (xs : List Int) : (intL xs).length = xs.length := by simp [intL]
theorem intL_drop {xs ys : List Int} {i : Nat} (h : xs.drop i = ys) : (intL xs).drop i = intL ys := by rw [intL, ← List.map_drop, h]; rfl
def idxFrom (x : Int) : List Int -> Nat -> Int
 | [], _ => -1
 | y :: r, i => if x = y then i else idxFrom x r (i + 1)
theorem idxFrom_has (x : Int) : ∀ (l : List Int) (i : Nat), (idxFrom x l i >= 0) = (x ∈ l)
 | [], i => by simp [idxFrom]
 | y :: r, i => by
  unfold idxFrom
  split
  ·rename_i h; subst h; simp
  ·rename_i h
   rw [idxFrom_has x r (i + 1)]
   simp [h]
theorem pu40 : cfg.pure 40 = true := rfl
instance t40 {d : Option Nat} : TightD cfg 40 d := ⟨fun _ _ => rfl⟩
def B40 (p : List Bool) := cA p Tryz.f40.body
def R40 (p : List Bool) (i : Nat) := Code.region i (cA p Tryz.f40.body) false
theorem F40 : (∀ p i, XR cfg 40 (R40 p i) (B40 p) (cA p Tryz.f40.body).toList i false) /\ RE cfg 40 [0, 1, 4, 5, 7, 8, 9, 16] /\ cfg.pure 40 = true := ⟨fun _ _ => xr rfl rfl, rE fun _ => rfl, rfl⟩
def l40_0 : Code := (.seq (R40 [tt, ff, tt, ff, ff, ff] 2) (.seq (.cond (.tmp 9) .skip (.exit 0)) (.seq (.block 1 (.seq (R40 [tt, ff, tt, ff, ff, tt, tt, ff, ff, ff] 3) (.seq (R40 [tt, ff, tt, ff, ff, tt, tt, ff, ff, tt, ff] 4) (.cond (.tmp 16) (.seq (R40 [tt, ff, tt, ff, ff, tt, tt, ff, ff, tt, tt, ff, ff] 5) .ret) .skip)))) (R40 [tt, ff, tt, ff, ff, tt, tt, tt] 6))))
def k40 : Code := (.seq (R40 [ff] 0) (.seq (.seq (R40 [tt, ff, ff] 1) (.block 0 (.loop l40_0))) (.seq (R40 [tt, tt, ff] 7) .ret)))
theorem call40 (x0 x1 : AV) (h : Heap) : call cfg 40 [x0, x1] h = (exec cfg 40 k40 [(0, x0), (1, x1)] h).bind (callEnd cfg 40 h [.tmp 4]) := call_at2 (fnat Tryz.func40 (b := k40) (by kernel_rfl) (by kernel_rfl)) rfl rfl
theorem pu20 : cfg.pure 20 = true := rfl
instance t20 {d : Option Nat} : TightD cfg 20 d := ⟨fun _ _ => rfl⟩
def B20 (p : List Bool) := cA p Tryz.f20.body
def R20 (p : List Bool) (i : Nat) := Code.region i (cA p Tryz.f20.body) false
theorem F20 : (∀ p i, XR cfg 20 (R20 p i) (B20 p) (cA p Tryz.f20.body).toList i false) /\ RE cfg 20 [0, 1, 4] /\ cfg.pure 20 = true := ⟨fun _ _ => xr rfl rfl, rE fun _ => rfl, rfl⟩
def k20 : Code := (.seq (R20 [ff] 0) (.seq (R20 [tt, ff] 1) .ret))
theorem call20 (x0 x1 : AV) (h : Heap) : call cfg 20 [x0, x1] h = (exec cfg 20 k20 [(0, x0), (1, x1)] h).bind (callEnd cfg 20 h [.tmp 4]) := call_at2 (fnat Tryz.func20 (b := k20) (by kernel_rfl) (by kernel_rfl)) rfl rfl
theorem indexI_loop (xs : List Int) (x : Int) (z : Nat) (r : Room) (h : Heap) (hn : xs.length < 1000000000) : ∀ (ys : List Int) (i : Nat), xs.drop i = ys -> i <= xs.length -> ∀ c d t e,
  Got (exec cfg 40 (.loop l40_0) [(0, .lst (intL xs) z r), (1, .int .i64 x), (4, c), (5, d), (7, .int .i64 xs.length), (8, .int .i64 i), (9, t), (16, e)] h) (fun q => q.2.2 = h /\
   ((q.1 = .exit 0 /\ idxFrom x ys i = -1) ∨ (q.1 = .ret /\ q.2.1.get 4 = .int .i64 (idxFrom x ys i)))) := by
 intro ys
 induction ys with
 | nil =>
  intro i hd hi c d t e
  rw [got_loop]
  simp only [l40_0, F40, Tryz.f40, sxAll, cA, arithA, Env.keep, ↓qAe, Nat.reduceBEq, ↓reduceIte, at_end hd]
  exact ⟨trivial, .inl ⟨trivial, rfl⟩⟩
 | cons y r ih =>
  intro i hd hi c d t e
  obtain ⟨hlt, _, hd'⟩ := at_drop hd
  obtain ⟨_, hx, _⟩ := at_drop (intL_drop hd)
  have hw := wrap_succ (i := i) (by omega)
  rw [got_loop]
  by_cases he : x = y
  ·subst he
   simp only [l40_0, F40, Tryz.f40, sxAll, cA, arithA, Env.keep, qt_eq, indexAddrA, loadA, Rv.part, cellsAt, TD.isAgg, ↓qAe, Nat.reduceBEq, Nat.reduceAdd, ↓reduceIte, hlt, indexAddrA, ty27, ty3, hx]
   exact ⟨trivial, .inr ⟨trivial, by simp [idxFrom]⟩⟩
  ·have hne : (x == y) = false := by simp [he]
   have := ih (i + 1) hd' (by simp at hlt; omega)
   simp only [l40_0] at this ⊢
   simp only [F40, Tryz.f40, sxAll, cA, arithA, Env.keep, qt_eq, indexAddrA, loadA, Rv.part, cellsAt, TD.isAgg, ↓qAe, Nat.reduceBEq, Nat.reduceAdd, ↓reduceIte, hlt, indexAddrA, ty27, ty3, hx, hne, hw, idxFrom, if_neg he] at this ⊢
   exact this _ _ _ _
theorem indexI_eq (xs : List Int) (x : Int) (z : Nat) (r : Room) (h : Heap) (hn : xs.length < 1000000000) : call cfg 40 [.lst (intL xs) z r, .int .i64 x] h = some (.ret (.int .i64 (idxFrom x xs 0)), h) := by
 obtain ⟨⟨o, e', h'⟩, hx, hh, hq⟩ := indexI_loop xs x z r h hn xs 0 (by simp) (by omega) (.int .i64 0) .junk .junk .junk
 simp only [qBo] at hx hh hq
 subst hh
 rw [call40]
 rcases hq with ⟨rfl, h1⟩ | ⟨rfl, h1⟩
 ·simp only [F40, k40, Tryz.f40, sxAll, cA, Env.keep, resultsA, packA, lenA, ↓qAe, Nat.reduceBEq, ↓reduceIte, ty27, intL_len, hx, h1]
  exact leave_kept rfl rfl
 ·simp only [F40, k40, Tryz.f40, sxAll, cA, Env.keep, resultsA, packA, lenA, ↓qAe, Nat.reduceBEq, ↓reduceIte, ty27, intL_len, hx, h1]
  exact leave_kept rfl rfl
theorem containsI_eq (xs : List Int) (x : Int) (z : Nat) (r : Room) (h : Heap) (hn : xs.length < 1000000000) : call cfg 20 [.lst (intL xs) z r, .int .i64 x] h = some (.ret (.bool (decide (x ∈ xs))), h) := by
 rw [call20]
 simp only [F20, k20, Tryz.f20, sxAll, cA, arithA, Env.keep, qt_eq, resultsA, packA, mapO, ↓qAe, Nat.reduceBEq, ↓reduceIte, indexI_eq xs x z r h hn, pu40, idxFrom_has]
 exact leave_kept rfl rfl
end
end Go.Proofs.Sx
namespace Go.Proofs.Sx
open Go.Rv Go.Proofs
attribute [local congr] bind_left got_left guardK_left
noncomputable section
def idxP {α : Type} (p : α -> Bool) : List α -> Nat -> Int
 | [], _ => -1
 | y :: r, i => if p y then i else idxP p r (i + 1)
theorem idxP_any {α : Type} (p : α -> Bool) : ∀ (l : List α) (i : Nat), (decide (idxP p l i >= 0)) = l.any p
 | [], i => by simp [idxP]
 | y :: r, i => by
  unfold idxP
  cases hp : p y
  ·simp only [qAb, if_false, List.any_cons, hp, Bool.false_or]
   exact idxP_any p r (i + 1)
  ·simp [List.any_cons, hp]
theorem drop_map {α β : Type} {f : α -> β} {xs ys : List α} {i : Nat} (h : xs.drop i = ys) : (xs.map f).drop i = ys.map f := by rw [← List.map_drop, h]
theorem pu41 : cfg.pure 41 = true := rfl
instance t41 {d : Option Nat} : TightD cfg 41 d := ⟨fun _ _ => rfl⟩
def B41 (p : List Bool) := cA p Tryz.f41.body
def R41 (p : List Bool) (i : Nat) := Code.region i (cA p Tryz.f41.body) false
theorem F41 : (∀ p i, XR cfg 41 (R41 p i) (B41 p) (cA p Tryz.f41.body).toList i false) /\ RE cfg 41 [0, 1, 4, 5, 7, 8, 9, 16] /\ cfg.pure 41 = true := ⟨fun _ _ => xr rfl rfl, rE fun _ => rfl, rfl⟩
def l41_0 : Code := (.seq (R41 [tt, ff, tt, ff, ff, ff] 2) (.seq (.cond (.tmp 9) .skip (.exit 0)) (.seq (.block 1 (.seq (R41 [tt, ff, tt, ff, ff, tt, tt, ff, ff, ff] 3) (.seq (R41 [tt, ff, tt, ff, ff, tt, tt, ff, ff, tt, ff] 4) (.cond (.tmp 16) (.seq (R41 [tt, ff, tt, ff, ff, tt, tt, ff, ff, tt, tt, ff, ff] 5) .ret) .skip)))) (R41 [tt, ff, tt, ff, ff, tt, tt, tt] 6))))
def k41 : Code := (.seq (R41 [ff] 0) (.seq (.seq (R41 [tt, ff, ff] 1) (.block 0 (.loop l41_0))) (.seq (R41 [tt, tt, ff] 7) .ret)))
theorem call41 (x0 x1 : AV) (h : Heap) : call cfg 41 [x0, x1] h = (exec cfg 41 k41 [(0, x0), (1, x1)] h).bind (callEnd cfg 41 h [.tmp 4]) := call_at2 (fnat Tryz.func41 (b := k41) (by kernel_rfl) (by kernel_rfl)) rfl rfl
theorem pu42 : cfg.pure 42 = true := rfl
instance t42 {d : Option Nat} : TightD cfg 42 d := ⟨fun _ _ => rfl⟩
def B42 (p : List Bool) := cA p Tryz.f42.body
def R42 (p : List Bool) (i : Nat) := Code.region i (cA p Tryz.f42.body) false
theorem F42 : (∀ p i, XR cfg 42 (R42 p i) (B42 p) (cA p Tryz.f42.body).toList i false) /\ RE cfg 42 [0, 1, 4] /\ cfg.pure 42 = true := ⟨fun _ _ => xr rfl rfl, rE fun _ => rfl, rfl⟩
def k42 : Code := (.seq (R42 [ff] 0) (.seq (R42 [tt, ff] 1) .ret))
theorem call42 (x0 x1 : AV) (h : Heap) : call cfg 42 [x0, x1] h = (exec cfg 42 k42 [(0, x0), (1, x1)] h).bind (callEnd cfg 42 h [.tmp 4]) := call_at2 (fnat Tryz.func42 (b := k42) (by kernel_rfl) (by kernel_rfl)) rfl rfl
theorem indexFI_loop {α : Type} (xs : List α) (f : α -> Int) (p : α -> Bool) (g : Nat) (caps : List AV) (z : Nat) (r : Room) (h : Heap) (hn : xs.length < 1000000000) (hs : ∀ a ∈ xs, True)
  (hg : ∀ a ∈ xs, call cfg g (.int .i64 (f a) :: caps) h = some (.ret (.bool (p a)), h)) : ∀ (ys : List α) (i : Nat), xs.drop i = ys -> i <= xs.length -> ∀ c d t e,
  Got (exec cfg 41 (.loop l41_0) [(0, .lst (xs.map fun a => .int .i64 (f a)) z r), (1, .clo g caps), (4, c), (5, d), (7, .int .i64 xs.length), (8, .int .i64 i), (9, t), (16, e)] h) (fun q => q.2.2 = h /\
   ((q.1 = .exit 0 /\ idxP p ys i = -1) ∨ (q.1 = .ret /\ q.2.1.get 4 = .int .i64 (idxP p ys i)))) := by
 intro ys
 induction ys with
 | nil =>
  intro i hd hi c d t e
  rw [got_loop]
  simp only [l41_0, F41, Tryz.f41, sxAll, cA, arithA, Env.keep, ↓qAe, Nat.reduceBEq, ↓reduceIte, at_end hd]
  exact ⟨trivial, .inl ⟨trivial, rfl⟩⟩
 | cons y r ih =>
  intro i hd hi c d t e
  obtain ⟨hlt, hget, hd'⟩ := at_drop hd
  obtain ⟨_, hx, _⟩ := at_drop (drop_map (f := fun a => AV.int .i64 (f a)) hd)
  have hmem : y ∈ xs := qBj hget
  have hw := wrap_succ (i := i) (by omega)
  have hc := hg y hmem
  have hsz := hs y hmem
  rw [got_loop]
  cases he : p y with
  | true =>
   rw [he] at hc
   simp only [l41_0, F41, Tryz.f41, sxAll, cA, arithA, Env.keep, qt_eq, indexAddrA, loadA, Rv.part, cellsAt, TD.isAgg, mapO, ↓qAe, Nat.reduceBEq, Nat.reduceAdd, ↓reduceIte, hlt, indexAddrA, ty27, ty3, hx, hc]
   exact ⟨trivial, .inr ⟨trivial, by simp [idxP, he]⟩⟩
  | false =>
   rw [he] at hc
   have := ih (i + 1) hd' (by simp at hlt; omega)
   simp only [l41_0] at this ⊢
   simp only [F41, Tryz.f41, sxAll, cA, arithA, Env.keep, qt_eq, indexAddrA, loadA, Rv.part, cellsAt, TD.isAgg, mapO, ↓qAe, Nat.reduceBEq, Nat.reduceAdd, ↓reduceIte, hlt, indexAddrA, ty27, ty3, hx, hw, hc, idxP, he] at this ⊢
   exact this _ _ _ _
theorem indexFI_eq {α : Type} (xs : List α) (f : α -> Int) (p : α -> Bool) (g : Nat) (caps : List AV) (z : Nat) (r : Room) (h : Heap) (hn : xs.length < 1000000000) (hs : ∀ a ∈ xs, True)
  (hg : ∀ a ∈ xs, call cfg g (.int .i64 (f a) :: caps) h = some (.ret (.bool (p a)), h)) : call cfg 41 [.lst (xs.map fun a => .int .i64 (f a)) z r, .clo g caps] h = some (.ret (.int .i64 (idxP p xs 0)), h) := by
 obtain ⟨⟨o, e', h'⟩, hx, hh, hq⟩ := indexFI_loop xs f p g caps z r h hn hs hg xs 0 (by simp) (by omega) (.int .i64 0) .junk .junk .junk
 simp only [qBo] at hx hh hq
 subst hh
 rw [call41]
 rcases hq with ⟨rfl, h1⟩ | ⟨rfl, h1⟩
 ·simp only [F41, k41, Tryz.f41, sxAll, cA, Env.keep, resultsA, packA, lenA, ↓qAe, Nat.reduceBEq, ↓reduceIte, ty27, qBn, hx, h1]
  exact leave_kept rfl rfl
 ·simp only [F41, k41, Tryz.f41, sxAll, cA, Env.keep, resultsA, packA, lenA, ↓qAe, Nat.reduceBEq, ↓reduceIte, ty27, qBn, hx, h1]
  exact leave_kept rfl rfl
theorem containsFI_eq {α : Type} (xs : List α) (f : α -> Int) (p : α -> Bool) (g : Nat) (caps : List AV) (z : Nat) (r : Room) (h : Heap) (hn : xs.length < 1000000000) (hs : ∀ a ∈ xs, True)
  (hg : ∀ a ∈ xs, call cfg g (.int .i64 (f a) :: caps) h = some (.ret (.bool (p a)), h)) : call cfg 42 [.lst (xs.map fun a => .int .i64 (f a)) z r, .clo g caps] h = some (.ret (.bool (xs.any p)), h) := by
 rw [call42]
 simp only [F42, k42, Tryz.f42, sxAll, cA, arithA, Env.keep, qt_eq, resultsA, packA, mapO, ↓qAe, Nat.reduceBEq, ↓reduceIte, indexFI_eq xs f p g caps z r h hn hs hg, pu41, idxP_any]
 exact leave_kept rfl rfl
theorem pu86 : cfg.pure 86 = true := rfl
instance t86 {d : Option Nat} : TightD cfg 86 d := ⟨fun _ _ => rfl⟩
def B86 (p : List Bool) := cA p Tryz.f86.body
def R86 (p : List Bool) (i : Nat) := Code.region i (cA p Tryz.f86.body) false
theorem F86 : (∀ p i, XR cfg 86 (R86 p i) (B86 p) (cA p Tryz.f86.body).toList i false) /\ RE cfg 86 [0, 1, 4, 5, 7, 8, 9, 16] /\ cfg.pure 86 = true := ⟨fun _ _ => xr rfl rfl, rE fun _ => rfl, rfl⟩
def l86_0 : Code := (.seq (R86 [tt, ff, tt, ff, ff, ff] 2) (.seq (.cond (.tmp 9) .skip (.exit 0)) (.seq (.block 1 (.seq (R86 [tt, ff, tt, ff, ff, tt, tt, ff, ff, ff] 3) (.seq (R86 [tt, ff, tt, ff, ff, tt, tt, ff, ff, tt, ff] 4) (.cond (.tmp 16) (.seq (R86 [tt, ff, tt, ff, ff, tt, tt, ff, ff, tt, tt, ff, ff] 5) .ret) .skip)))) (R86 [tt, ff, tt, ff, ff, tt, tt, tt] 6))))
def k86 : Code := (.seq (R86 [ff] 0) (.seq (.seq (R86 [tt, ff, ff] 1) (.block 0 (.loop l86_0))) (.seq (R86 [tt, tt, ff] 7) .ret)))
theorem call86 (x0 x1 : AV) (h : Heap) : call cfg 86 [x0, x1] h = (exec cfg 86 k86 [(0, x0), (1, x1)] h).bind (callEnd cfg 86 h [.tmp 4]) := call_at2 (fnat Tryz.func86 (b := k86) (by kernel_rfl) (by kernel_rfl)) rfl rfl
theorem pu58 : cfg.pure 58 = true := rfl
instance t58 {d : Option Nat} : TightD cfg 58 d := ⟨fun _ _ => rfl⟩
def B58 (p : List Bool) := cA p Tryz.f58.body
def R58 (p : List Bool) (i : Nat) := Code.region i (cA p Tryz.f58.body) false
theorem F58 : (∀ p i, XR cfg 58 (R58 p i) (B58 p) (cA p Tryz.f58.body).toList i false) /\ RE cfg 58 [0, 1, 4] /\ cfg.pure 58 = true := ⟨fun _ _ => xr rfl rfl, rE fun _ => rfl, rfl⟩
def k58 : Code := (.seq (R58 [ff] 0) (.seq (R58 [tt, ff] 1) .ret))
theorem call58 (x0 x1 : AV) (h : Heap) : call cfg 58 [x0, x1] h = (exec cfg 58 k58 [(0, x0), (1, x1)] h).bind (callEnd cfg 58 h [.tmp 4]) := call_at2 (fnat Tryz.func58 (b := k58) (by kernel_rfl) (by kernel_rfl)) rfl rfl
theorem pu61 : cfg.pure 61 = true := rfl
instance t61 {d : Option Nat} : TightD cfg 61 d := ⟨fun _ _ => rfl⟩
def B61 (p : List Bool) := cA p Tryz.f61.body
def R61 (p : List Bool) (i : Nat) := Code.region i (cA p Tryz.f61.body) false
theorem F61 : (∀ p i, XR cfg 61 (R61 p i) (B61 p) (cA p Tryz.f61.body).toList i false) /\ RE cfg 61 [0, 1, 4, 5, 7, 8, 9, 16] /\ cfg.pure 61 = true := ⟨fun _ _ => xr rfl rfl, rE fun _ => rfl, rfl⟩
def l61_0 : Code := (.seq (R61 [tt, ff, tt, ff, ff, ff] 2) (.seq (.cond (.tmp 9) .skip (.exit 0)) (.seq (.block 1 (.seq (R61 [tt, ff, tt, ff, ff, tt, tt, ff, ff, ff] 3) (.seq (R61 [tt, ff, tt, ff, ff, tt, tt, ff, ff, tt, ff] 4) (.cond (.tmp 16) (.seq (R61 [tt, ff, tt, ff, ff, tt, tt, ff, ff, tt, tt, ff, ff] 5) .ret) .skip)))) (R61 [tt, ff, tt, ff, ff, tt, tt, tt] 6))))
def k61 : Code := (.seq (R61 [ff] 0) (.seq (.seq (R61 [tt, ff, ff] 1) (.block 0 (.loop l61_0))) (.seq (R61 [tt, tt, ff] 7) .ret)))
theorem call61 (x0 x1 : AV) (h : Heap) : call cfg 61 [x0, x1] h = (exec cfg 61 k61 [(0, x0), (1, x1)] h).bind (callEnd cfg 61 h [.tmp 4]) := call_at2 (fnat Tryz.func61 (b := k61) (by kernel_rfl) (by kernel_rfl)) rfl rfl
theorem pu33 : cfg.pure 33 = true := rfl
instance t33 {d : Option Nat} : TightD cfg 33 d := ⟨fun _ _ => rfl⟩
def B33 (p : List Bool) := cA p Tryz.f33.body
def R33 (p : List Bool) (i : Nat) := Code.region i (cA p Tryz.f33.body) false
theorem F33 : (∀ p i, XR cfg 33 (R33 p i) (B33 p) (cA p Tryz.f33.body).toList i false) /\ RE cfg 33 [0, 1, 4] /\ cfg.pure 33 = true := ⟨fun _ _ => xr rfl rfl, rE fun _ => rfl, rfl⟩
def k33 : Code := (.seq (R33 [ff] 0) (.seq (R33 [tt, ff] 1) .ret))
theorem call33 (x0 x1 : AV) (h : Heap) : call cfg 33 [x0, x1] h = (exec cfg 33 k33 [(0, x0), (1, x1)] h).bind (callEnd cfg 33 h [.tmp 4]) := call_at2 (fnat Tryz.func33 (b := k33) (by kernel_rfl) (by kernel_rfl)) rfl rfl
theorem indexFMem_loop {α : Type} (xs : List α) (f : α -> List AV) (p : α -> Bool) (g : Nat) (caps : List AV) (z : Nat) (r : Room) (h : Heap) (hn : xs.length < 1000000000) (hs : ∀ a ∈ xs, (f a).length = 3)
  (hg : ∀ a ∈ xs, call cfg g (.agg (f a) :: caps) h = some (.ret (.bool (p a)), h)) : ∀ (ys : List α) (i : Nat), xs.drop i = ys -> i <= xs.length -> ∀ c d t e,
  Got (exec cfg 61 (.loop l61_0) [(0, .lst (xs.map fun a => .agg (f a)) z r), (1, .clo g caps), (4, c), (5, d), (7, .int .i64 xs.length), (8, .int .i64 i), (9, t), (16, e)] h) (fun q => q.2.2 = h /\
   ((q.1 = .exit 0 /\ idxP p ys i = -1) ∨ (q.1 = .ret /\ q.2.1.get 4 = .int .i64 (idxP p ys i)))) := by
 intro ys
 induction ys with
 | nil =>
  intro i hd hi c d t e
  rw [got_loop]
  simp only [l61_0, F61, Tryz.f61, sxAll, cA, arithA, Env.keep, ↓qAe, Nat.reduceBEq, ↓reduceIte, at_end hd]
  exact ⟨trivial, .inl ⟨trivial, rfl⟩⟩
 | cons y r ih =>
  intro i hd hi c d t e
  obtain ⟨hlt, hget, hd'⟩ := at_drop hd
  obtain ⟨_, hx, _⟩ := at_drop (drop_map (f := fun a => AV.agg (f a)) hd)
  have hmem : y ∈ xs := qBj hget
  have hw := wrap_succ (i := i) (by omega)
  have hc := hg y hmem
  have hsz := hs y hmem
  have hle : ((3 : Nat) <= (f y).length) = True := by simp [hsz]
  have htk : (f y).take 3 = f y := qBi (by omega)
  have hbq : ((f y).length == 3) = true := by simp [hsz]
  rw [got_loop]
  cases he : p y with
  | true =>
   rw [he] at hc
   simp only [l61_0, F61, Tryz.f61, sxAll, cA, arithA, Env.keep, qt_eq, indexAddrA, loadA, Rv.part, cellsAt, TD.isAgg, mapO, ↓qAe, Nat.reduceBEq, ↓reduceIte, hlt, indexAddrA, ty22, ty81, hx, hc, hle, htk, hbq]
   exact ⟨trivial, .inr ⟨trivial, by simp [idxP, he]⟩⟩
  | false =>
   rw [he] at hc
   have := ih (i + 1) hd' (by simp at hlt; omega)
   simp only [l61_0] at this ⊢
   simp only [F61, Tryz.f61, sxAll, cA, arithA, Env.keep, qt_eq, indexAddrA, loadA, Rv.part, cellsAt, TD.isAgg, mapO, ↓qAe, Nat.reduceBEq, ↓reduceIte, hlt, indexAddrA, ty22, ty81, hx, hw, hc, idxP, he, hle, htk, hbq] at this ⊢
   exact this _ _ _ _
theorem indexFMem_eq {α : Type} (xs : List α) (f : α -> List AV) (p : α -> Bool) (g : Nat) (caps : List AV) (z : Nat) (r : Room) (h : Heap) (hn : xs.length < 1000000000) (hs : ∀ a ∈ xs, (f a).length = 3)
  (hg : ∀ a ∈ xs, call cfg g (.agg (f a) :: caps) h = some (.ret (.bool (p a)), h)) : call cfg 61 [.lst (xs.map fun a => .agg (f a)) z r, .clo g caps] h = some (.ret (.int .i64 (idxP p xs 0)), h) := by
 obtain ⟨⟨o, e', h'⟩, hx, hh, hq⟩ := indexFMem_loop xs f p g caps z r h hn hs hg xs 0 (by simp) (by omega) (.int .i64 0) .junk .junk .junk
 simp only [qBo] at hx hh hq
 subst hh
 rw [call61]
 rcases hq with ⟨rfl, h1⟩ | ⟨rfl, h1⟩
 ·simp only [F61, k61, Tryz.f61, sxAll, cA, Env.keep, resultsA, packA, lenA, ↓qAe, Nat.reduceBEq, ↓reduceIte, ty22, qBn, hx, h1]
  exact leave_kept rfl rfl
 ·simp only [F61, k61, Tryz.f61, sxAll, cA, Env.keep, resultsA, packA, lenA, ↓qAe, Nat.reduceBEq, ↓reduceIte, ty22, qBn, hx, h1]
  exact leave_kept rfl rfl
theorem containsFMem_eq {α : Type} (xs : List α) (f : α -> List AV) (p : α -> Bool) (g : Nat) (caps : List AV) (z : Nat) (r : Room) (h : Heap) (hn : xs.length < 1000000000) (hs : ∀ a ∈ xs, (f a).length = 3)
  (hg : ∀ a ∈ xs, call cfg g (.agg (f a) :: caps) h = some (.ret (.bool (p a)), h)) : call cfg 33 [.lst (xs.map fun a => .agg (f a)) z r, .clo g caps] h = some (.ret (.bool (xs.any p)), h) := by
 rw [call33]
 simp only [F33, k33, Tryz.f33, sxAll, cA, arithA, Env.keep, qt_eq, resultsA, packA, mapO, ↓qAe, Nat.reduceBEq, ↓reduceIte, indexFMem_eq xs f p g caps z r h hn hs hg, pu61, idxP_any]
 exact leave_kept rfl rfl
theorem pu62 : cfg.pure 62 = true := rfl
instance t62 {d : Option Nat} : TightD cfg 62 d := ⟨fun _ _ => rfl⟩
def B62 (p : List Bool) := cA p Tryz.f62.body
def R62 (p : List Bool) (i : Nat) := Code.region i (cA p Tryz.f62.body) false
theorem F62 : (∀ p i, XR cfg 62 (R62 p i) (B62 p) (cA p Tryz.f62.body).toList i false) /\ RE cfg 62 [0, 1, 4, 5, 7, 8, 9, 16] /\ cfg.pure 62 = true := ⟨fun _ _ => xr rfl rfl, rE fun _ => rfl, rfl⟩
def l62_0 : Code := (.seq (R62 [tt, ff, tt, ff, ff, ff] 2) (.seq (.cond (.tmp 9) .skip (.exit 0)) (.seq (.block 1 (.seq (R62 [tt, ff, tt, ff, ff, tt, tt, ff, ff, ff] 3) (.seq (R62 [tt, ff, tt, ff, ff, tt, tt, ff, ff, tt, ff] 4) (.cond (.tmp 16) (.seq (R62 [tt, ff, tt, ff, ff, tt, tt, ff, ff, tt, tt, ff, ff] 5) .ret) .skip)))) (R62 [tt, ff, tt, ff, ff, tt, tt, tt] 6))))
def k62 : Code := (.seq (R62 [ff] 0) (.seq (.seq (R62 [tt, ff, ff] 1) (.block 0 (.loop l62_0))) (.seq (R62 [tt, tt, ff] 7) .ret)))
theorem call62 (x0 x1 : AV) (h : Heap) : call cfg 62 [x0, x1] h = (exec cfg 62 k62 [(0, x0), (1, x1)] h).bind (callEnd cfg 62 h [.tmp 4]) := call_at2 (fnat Tryz.func62 (b := k62) (by kernel_rfl) (by kernel_rfl)) rfl rfl
theorem pu35 : cfg.pure 35 = true := rfl
instance t35 {d : Option Nat} : TightD cfg 35 d := ⟨fun _ _ => rfl⟩
def B35 (p : List Bool) := cA p Tryz.f35.body
def R35 (p : List Bool) (i : Nat) := Code.region i (cA p Tryz.f35.body) false
theorem F35 : (∀ p i, XR cfg 35 (R35 p i) (B35 p) (cA p Tryz.f35.body).toList i false) /\ RE cfg 35 [0, 1, 4] /\ cfg.pure 35 = true := ⟨fun _ _ => xr rfl rfl, rE fun _ => rfl, rfl⟩
def k35 : Code := (.seq (R35 [ff] 0) (.seq (R35 [tt, ff] 1) .ret))
theorem call35 (x0 x1 : AV) (h : Heap) : call cfg 35 [x0, x1] h = (exec cfg 35 k35 [(0, x0), (1, x1)] h).bind (callEnd cfg 35 h [.tmp 4]) := call_at2 (fnat Tryz.func35 (b := k35) (by kernel_rfl) (by kernel_rfl)) rfl rfl
theorem indexFFun_loop {α : Type} (xs : List α) (f : α -> List AV) (p : α -> Bool) (g : Nat) (caps : List AV) (z : Nat) (r : Room) (h : Heap) (hn : xs.length < 1000000000) (hs : ∀ a ∈ xs, (f a).length = 5)
  (hg : ∀ a ∈ xs, call cfg g (.agg (f a) :: caps) h = some (.ret (.bool (p a)), h)) : ∀ (ys : List α) (i : Nat), xs.drop i = ys -> i <= xs.length -> ∀ c d t e,
  Got (exec cfg 62 (.loop l62_0) [(0, .lst (xs.map fun a => .agg (f a)) z r), (1, .clo g caps), (4, c), (5, d), (7, .int .i64 xs.length), (8, .int .i64 i), (9, t), (16, e)] h) (fun q => q.2.2 = h /\
   ((q.1 = .exit 0 /\ idxP p ys i = -1) ∨ (q.1 = .ret /\ q.2.1.get 4 = .int .i64 (idxP p ys i)))) := by
 intro ys
 induction ys with
 | nil =>
  intro i hd hi c d t e
  rw [got_loop]
  simp only [l62_0, F62, Tryz.f62, sxAll, cA, arithA, Env.keep, ↓qAe, Nat.reduceBEq, ↓reduceIte, at_end hd]
  exact ⟨trivial, .inl ⟨trivial, rfl⟩⟩
 | cons y r ih =>
  intro i hd hi c d t e
  obtain ⟨hlt, hget, hd'⟩ := at_drop hd
  obtain ⟨_, hx, _⟩ := at_drop (drop_map (f := fun a => AV.agg (f a)) hd)
  have hmem : y ∈ xs := qBj hget
  have hw := wrap_succ (i := i) (by omega)
  have hc := hg y hmem
  have hsz := hs y hmem
  have hle : ((5 : Nat) <= (f y).length) = True := by simp [hsz]
  have htk : (f y).take 5 = f y := qBi (by omega)
  have hbq : ((f y).length == 5) = true := by simp [hsz]
  rw [got_loop]
  cases he : p y with
  | true =>
   rw [he] at hc
   simp only [l62_0, F62, Tryz.f62, sxAll, cA, arithA, Env.keep, qt_eq, indexAddrA, loadA, Rv.part, cellsAt, TD.isAgg, mapO, ↓qAe, Nat.reduceBEq, ↓reduceIte, hlt, indexAddrA, ty24, ty39, hx, hc, hle, htk, hbq]
   exact ⟨trivial, .inr ⟨trivial, by simp [idxP, he]⟩⟩
  | false =>
   rw [he] at hc
   have := ih (i + 1) hd' (by simp at hlt; omega)
   simp only [l62_0] at this ⊢
   simp only [F62, Tryz.f62, sxAll, cA, arithA, Env.keep, qt_eq, indexAddrA, loadA, Rv.part, cellsAt, TD.isAgg, mapO, ↓qAe, Nat.reduceBEq, ↓reduceIte, hlt, indexAddrA, ty24, ty39, hx, hw, hc, idxP, he, hle, htk, hbq] at this ⊢
   exact this _ _ _ _
theorem indexFFun_eq {α : Type} (xs : List α) (f : α -> List AV) (p : α -> Bool) (g : Nat) (caps : List AV) (z : Nat) (r : Room) (h : Heap) (hn : xs.length < 1000000000) (hs : ∀ a ∈ xs, (f a).length = 5)
  (hg : ∀ a ∈ xs, call cfg g (.agg (f a) :: caps) h = some (.ret (.bool (p a)), h)) : call cfg 62 [.lst (xs.map fun a => .agg (f a)) z r, .clo g caps] h = some (.ret (.int .i64 (idxP p xs 0)), h) := by
 obtain ⟨⟨o, e', h'⟩, hx, hh, hq⟩ := indexFFun_loop xs f p g caps z r h hn hs hg xs 0 (by simp) (by omega) (.int .i64 0) .junk .junk .junk
 simp only [qBo] at hx hh hq
 subst hh
 rw [call62]
 rcases hq with ⟨rfl, h1⟩ | ⟨rfl, h1⟩
 ·simp only [F62, k62, Tryz.f62, sxAll, cA, Env.keep, resultsA, packA, lenA, ↓qAe, Nat.reduceBEq, ↓reduceIte, ty24, qBn, hx, h1]
  exact leave_kept rfl rfl
 ·simp only [F62, k62, Tryz.f62, sxAll, cA, Env.keep, resultsA, packA, lenA, ↓qAe, Nat.reduceBEq, ↓reduceIte, ty24, qBn, hx, h1]
  exact leave_kept rfl rfl
theorem containsFFun_eq {α : Type} (xs : List α) (f : α -> List AV) (p : α -> Bool) (g : Nat) (caps : List AV) (z : Nat) (r : Room) (h : Heap) (hn : xs.length < 1000000000) (hs : ∀ a ∈ xs, (f a).length = 5)
  (hg : ∀ a ∈ xs, call cfg g (.agg (f a) :: caps) h = some (.ret (.bool (p a)), h)) : call cfg 35 [.lst (xs.map fun a => .agg (f a)) z r, .clo g caps] h = some (.ret (.bool (xs.any p)), h) := by
 rw [call35]
 simp only [F35, k35, Tryz.f35, sxAll, cA, arithA, Env.keep, qt_eq, resultsA, packA, mapO, ↓qAe, Nat.reduceBEq, ↓reduceIte, indexFFun_eq xs f p g caps z r h hn hs hg, pu62, idxP_any]
 exact leave_kept rfl rfl
theorem pu89 : cfg.pure 89 = true := rfl
instance t89 {d : Option Nat} : TightD cfg 89 d := ⟨fun _ _ => rfl⟩
def B89 (p : List Bool) := cA p Tryz.f89.body
def R89 (p : List Bool) (i : Nat) := Code.region i (cA p Tryz.f89.body) false
theorem F89 : (∀ p i, XR cfg 89 (R89 p i) (B89 p) (cA p Tryz.f89.body).toList i false) /\ RE cfg 89 [0, 1, 4, 5, 7, 8, 9, 16] /\ cfg.pure 89 = true := ⟨fun _ _ => xr rfl rfl, rE fun _ => rfl, rfl⟩
def l89_0 : Code := (.seq (R89 [tt, ff, tt, ff, ff, ff] 2) (.seq (.cond (.tmp 9) .skip (.exit 0)) (.seq (.block 1 (.seq (R89 [tt, ff, tt, ff, ff, tt, tt, ff, ff, ff] 3) (.seq (R89 [tt, ff, tt, ff, ff, tt, tt, ff, ff, tt, ff] 4) (.cond (.tmp 16) (.seq (R89 [tt, ff, tt, ff, ff, tt, tt, ff, ff, tt, tt, ff, ff] 5) .ret) .skip)))) (R89 [tt, ff, tt, ff, ff, tt, tt, tt] 6))))
def k89 : Code := (.seq (R89 [ff] 0) (.seq (.seq (R89 [tt, ff, ff] 1) (.block 0 (.loop l89_0))) (.seq (R89 [tt, tt, ff] 7) .ret)))
theorem call89 (x0 x1 : AV) (h : Heap) : call cfg 89 [x0, x1] h = (exec cfg 89 k89 [(0, x0), (1, x1)] h).bind (callEnd cfg 89 h [.tmp 4]) := call_at2 (fnat Tryz.func89 (b := k89) (by kernel_rfl) (by kernel_rfl)) rfl rfl
theorem pu63 : cfg.pure 63 = true := rfl
instance t63 {d : Option Nat} : TightD cfg 63 d := ⟨fun _ _ => rfl⟩
def B63 (p : List Bool) := cA p Tryz.f63.body
def R63 (p : List Bool) (i : Nat) := Code.region i (cA p Tryz.f63.body) false
theorem F63 : (∀ p i, XR cfg 63 (R63 p i) (B63 p) (cA p Tryz.f63.body).toList i false) /\ RE cfg 63 [0, 1, 4] /\ cfg.pure 63 = true := ⟨fun _ _ => xr rfl rfl, rE fun _ => rfl, rfl⟩
def k63 : Code := (.seq (R63 [ff] 0) (.seq (R63 [tt, ff] 1) .ret))
theorem call63 (x0 x1 : AV) (h : Heap) : call cfg 63 [x0, x1] h = (exec cfg 63 k63 [(0, x0), (1, x1)] h).bind (callEnd cfg 63 h [.tmp 4]) := call_at2 (fnat Tryz.func63 (b := k63) (by kernel_rfl) (by kernel_rfl)) rfl rfl
theorem indexFIns_loop {α : Type} (xs : List α) (f : α -> List AV) (p : α -> Bool) (g : Nat) (caps : List AV) (z : Nat) (r : Room) (h : Heap) (hn : xs.length < 1000000000) (hs : ∀ a ∈ xs, (f a).length = 6)
  (hg : ∀ a ∈ xs, call cfg g (.agg (f a) :: caps) h = some (.ret (.bool (p a)), h)) : ∀ (ys : List α) (i : Nat), xs.drop i = ys -> i <= xs.length -> ∀ c d t e,
  Got (exec cfg 89 (.loop l89_0) [(0, .lst (xs.map fun a => .agg (f a)) z r), (1, .clo g caps), (4, c), (5, d), (7, .int .i64 xs.length), (8, .int .i64 i), (9, t), (16, e)] h) (fun q => q.2.2 = h /\
   ((q.1 = .exit 0 /\ idxP p ys i = -1) ∨ (q.1 = .ret /\ q.2.1.get 4 = .int .i64 (idxP p ys i)))) := by
 intro ys
 induction ys with
 | nil =>
  intro i hd hi c d t e
  rw [got_loop]
  simp only [l89_0, F89, Tryz.f89, sxAll, cA, arithA, Env.keep, ↓qAe, Nat.reduceBEq, ↓reduceIte, at_end hd]
  exact ⟨trivial, .inl ⟨trivial, rfl⟩⟩
 | cons y r ih =>
  intro i hd hi c d t e
  obtain ⟨hlt, hget, hd'⟩ := at_drop hd
  obtain ⟨_, hx, _⟩ := at_drop (drop_map (f := fun a => AV.agg (f a)) hd)
  have hmem : y ∈ xs := qBj hget
  have hw := wrap_succ (i := i) (by omega)
  have hc := hg y hmem
  have hsz := hs y hmem
  have hle : ((6 : Nat) <= (f y).length) = True := by simp [hsz]
  have htk : (f y).take 6 = f y := qBi (by omega)
  have hbq : ((f y).length == 6) = true := by simp [hsz]
  rw [got_loop]
  cases he : p y with
  | true =>
   rw [he] at hc
   simp only [l89_0, F89, Tryz.f89, sxAll, cA, arithA, Env.keep, qt_eq, indexAddrA, loadA, Rv.part, cellsAt, TD.isAgg, mapO, ↓qAe, Nat.reduceBEq, ↓reduceIte, hlt, indexAddrA, ty37, ty41, hx, hc, hle, htk, hbq]
   exact ⟨trivial, .inr ⟨trivial, by simp [idxP, he]⟩⟩
  | false =>
   rw [he] at hc
   have := ih (i + 1) hd' (by simp at hlt; omega)
   simp only [l89_0] at this ⊢
   simp only [F89, Tryz.f89, sxAll, cA, arithA, Env.keep, qt_eq, indexAddrA, loadA, Rv.part, cellsAt, TD.isAgg, mapO, ↓qAe, Nat.reduceBEq, ↓reduceIte, hlt, indexAddrA, ty37, ty41, hx, hw, hc, idxP, he, hle, htk, hbq] at this ⊢
   exact this _ _ _ _
theorem indexFIns_eq {α : Type} (xs : List α) (f : α -> List AV) (p : α -> Bool) (g : Nat) (caps : List AV) (z : Nat) (r : Room) (h : Heap) (hn : xs.length < 1000000000) (hs : ∀ a ∈ xs, (f a).length = 6)
  (hg : ∀ a ∈ xs, call cfg g (.agg (f a) :: caps) h = some (.ret (.bool (p a)), h)) : call cfg 89 [.lst (xs.map fun a => .agg (f a)) z r, .clo g caps] h = some (.ret (.int .i64 (idxP p xs 0)), h) := by
 obtain ⟨⟨o, e', h'⟩, hx, hh, hq⟩ := indexFIns_loop xs f p g caps z r h hn hs hg xs 0 (by simp) (by omega) (.int .i64 0) .junk .junk .junk
 simp only [qBo] at hx hh hq
 subst hh
 rw [call89]
 rcases hq with ⟨rfl, h1⟩ | ⟨rfl, h1⟩
 ·simp only [F89, k89, Tryz.f89, sxAll, cA, Env.keep, resultsA, packA, lenA, ↓qAe, Nat.reduceBEq, ↓reduceIte, ty37, qBn, hx, h1]
  exact leave_kept rfl rfl
 ·simp only [F89, k89, Tryz.f89, sxAll, cA, Env.keep, resultsA, packA, lenA, ↓qAe, Nat.reduceBEq, ↓reduceIte, ty37, qBn, hx, h1]
  exact leave_kept rfl rfl
theorem containsFIns_eq {α : Type} (xs : List α) (f : α -> List AV) (p : α -> Bool) (g : Nat) (caps : List AV) (z : Nat) (r : Room) (h : Heap) (hn : xs.length < 1000000000) (hs : ∀ a ∈ xs, (f a).length = 6)
  (hg : ∀ a ∈ xs, call cfg g (.agg (f a) :: caps) h = some (.ret (.bool (p a)), h)) : call cfg 63 [.lst (xs.map fun a => .agg (f a)) z r, .clo g caps] h = some (.ret (.bool (xs.any p)), h) := by
 rw [call63]
 simp only [F63, k63, Tryz.f63, sxAll, cA, arithA, Env.keep, qt_eq, resultsA, packA, mapO, ↓qAe, Nat.reduceBEq, ↓reduceIte, indexFIns_eq xs f p g caps z r h hn hs hg, pu89, idxP_any]
 exact leave_kept rfl rfl
end
end Go.Proofs.Sx
namespace Go.Proofs.Sx
open Go.Rv Go.Proofs
attribute [local congr] bind_left got_left guardK_left
noncomputable section
structure SIns where
 op : Int
 r : Int
 a : Int
 b : Int
 n : Int
 args : List Int
 z : Nat
 room : Room
def SIns.cells (i : SIns) : List AV := [.int .u8 i.op, .int .i64 i.r, .int .i64 i.a, .int .i64 i.b, .int .i64 i.n, .lst (intL i.args) i.z i.room]
theorem freeze_ints (h : Heap) (n d : Nat) (xs : List Int) : mapO (freezeV h n (d + 1)) (intL xs) = some (intL xs) := freeze_deads h n d (by simp [intL, AV.dead])
theorem freeze_lint (h : Heap) (n d : Nat) (xs : List Int) (z : Nat) (r : Room) : freezeV h n (d + 2) (.lst (intL xs) z r) = some (.lst (intL xs) z r) := by
 show (mapO (freezeV h n (d + 1)) (intL xs)).map _ = _
 rw [freeze_ints]; rfl
abbrev Row := Bool × Bool × Bool × Bool × Int
def rowCells (q : Row) : List AV := [.bool q.1, .bool q.2.1, .bool q.2.2.1, .bool q.2.2.2.1, .int .i64 q.2.2.2.2]
def rowOf (op : Int) : Row := if op < 1 then (false, false, false, false, 0) else opRows.getD op.toNat (false, false, false, false, 0)
def legal (op : Int) : Bool := decide (1 <= op) && decide (op < 14)
theorem glob_ops : cfg.glob 1 = some (.ref opCells) := rfl
theorem evalA_glob {C : Cfg} (e : Env) (g : Nat) : evalA C e (.global g) = C.glob g := rfl
theorem pu90 : cfg.pure 90 = true := rfl
instance t90 {d : Option Nat} : TightD cfg 90 d := ⟨fun _ _ => rfl⟩
def B90 (p : List Bool) := cA p Tryz.f90.body
def R90 (p : List Bool) (i : Nat) := Code.region i (cA p Tryz.f90.body) false
theorem F90 : (∀ p i, XR cfg 90 (R90 p i) (B90 p) (cA p Tryz.f90.body).toList i false) /\ cfg.imm 90 1 = true /\ GO cfg 90 (B90 [tt, ff, ff]) 3 7 /\ RE cfg 90 [0, 1, 2, 3, 12] /\ cfg.pure 90 = true := ⟨fun _ _ => xr rfl rfl, by kernel_rfl, gO (by kernel_rfl), rE fun _ => rfl, rfl⟩
def k90 : Code := (.seq (R90 [ff] 0) (.seq (.seq (R90 [tt, ff, ff] 1) (.cond (.tmp 12) (.seq (R90 [tt, ff, tt, ff, ff] 2) .ret) .skip)) (.seq (R90 [tt, tt, ff] 3) .ret)))
theorem call90 (x0 : AV) (h : Heap) : call cfg 90 [x0] h = (exec cfg 90 k90 [(0, x0)] h).bind (callEnd cfg 90 h [.cell 2 136, .tmp 3]) := call_at2 (fnat Tryz.func90 (b := k90) (by kernel_rfl) (by kernel_rfl)) rfl rfl
theorem op_cases {op : Int} (h1 : 1 <= op) (h2 : op < 14) : op = 1 ∨ op = 2 ∨ op = 3 ∨ op = 4 ∨ op = 5 ∨ op = 6 ∨ op = 7 ∨ op = 8 ∨ op = 9 ∨ op = 10 ∨ op = 11 ∨ op = 12 ∨ op = 13 := by omega
theorem op_row {op : Int} (h1 : 1 <= op) (h2 : op < 14) : (op.toNat < 14) = True /\ (5 <= (opCells.drop (op.toNat * 5)).length) = True /\ (opCells.drop (op.toNat * 5)).take 5 = rowCells (rowOf op) := by
 rcases op_cases h1 h2 with rfl | rfl | rfl | rfl | rfl | rfl | rfl | rfl | rfl | rfl | rfl | rfl | rfl <;> exact ⟨eq_true (by decide), eq_true (by decide), rfl⟩
theorem ofI_eq (i : SIns) (h : Heap) (h0 : 0 <= i.op) (h1 : i.op < 256) : call cfg 90 [.agg i.cells] h = some (.ret (.tup [.agg (rowCells (rowOf i.op)), .bool (legal i.op)]), h) := by
 rw [call90]
 have hw : IntKind.i64.wrap i.op = i.op := wrap_id (by omega) (by omega)
 by_cases ha : i.op < 1
 ·have e1 : rowOf i.op = (false, false, false, false, 0) := by simp [rowOf, ha]
  have e2 : legal i.op = false := by simp [legal]; omega
  rw [e1, e2]
  simp only [SIns.cells, F90, k90, Tryz.f90, sxAll, cA, arithA, Env.keep, qt_eq, resultsA, packA, storeA, fieldAddrA, loadA, Rv.part, cellsAt, TD.isAgg, buildA, fillA, setCells, ↓qAe, Nat.reduceBEq, Nat.reduceAdd, Nat.reduceLeDiff, ↓reduceIte, ty41, ty5, ty136, ha]
  exact leave_pure rfl (by simp) rfl
 ·by_cases hb : i.op < 14
  ·have e2 : legal i.op = true := by simp [legal]; omega
   have hge : (i.op >= 14) = False := by simp; omega
   have hneg : (i.op < 0) = False := by simp; omega
   rw [e2]
   simp only [SIns.cells, F90, k90, Tryz.f90, sxAll, cA, arithA, Env.keep, qt_eq, resultsA, packA, storeA, indexAddrA, fieldAddrA, loadA, Rv.part, cellsAt, TD.isAgg, convH, convA, setCells, ↓qAe, Nat.reduceBEq, Nat.reduceAdd, Nat.reduceLeDiff, ↓reduceIte, ty41, ty5, ty136, ty3, ty179, ha, hw, hge, evalA_glob, glob_ops, hneg, (op_row (by omega) hb).1, (op_row (by omega) hb).2.1, (op_row (by omega) hb).2.2, rowCells]
   exact leave_pure rfl (by simp) rfl
  ·have e1 : rowOf i.op = (false, false, false, false, 0) := by
    unfold rowOf
    rw [if_neg ha]
    have : opRows.length <= i.op.toNat := by simp [opRows]; omega
    rw [qBp, qAt this]; rfl
   have e2 : legal i.op = false := by simp [legal]; omega
   have hge : (i.op >= 14) = True := by simp; omega
   rw [e1, e2]
   simp only [SIns.cells, F90, k90, Tryz.f90, sxAll, cA, arithA, Env.keep, qt_eq, resultsA, packA, storeA, fieldAddrA, loadA, Rv.part, cellsAt, TD.isAgg, convH, convA, buildA, fillA, setCells, ↓qAe, Nat.reduceBEq, Nat.reduceAdd, Nat.reduceLeDiff, ↓reduceIte, ty41, ty5, ty136, ty3, ha, hw, hge]
   exact leave_pure rfl (by simp) rfl
theorem pu95 : cfg.pure 95 = true := rfl
instance t95 {d : Option Nat} : TightD cfg 95 d := ⟨fun _ _ => rfl⟩
def B95 (p : List Bool) := cA p Tryz.f95.body
def R95 (p : List Bool) (i : Nat) := Code.region i (cA p Tryz.f95.body) false
theorem F95 : (∀ p i, XR cfg 95 (R95 p i) (B95 p) (cA p Tryz.f95.body).toList i false) /\ cfg.imm 95 1 = true /\ GO cfg 95 (B95 [tt, ff, tt, ff]) 1 12 /\ RE cfg 95 [0, 1, 2, 3, 4, 5, 15] /\ cfg.pure 95 = true := ⟨fun _ _ => xr rfl rfl, by kernel_rfl, gO (by kernel_rfl), rE fun _ => rfl, rfl⟩
def k95 : Code := (.seq (R95 [ff] 0) (.seq (.seq (R95 [tt, ff, ff] 1) (.seq (R95 [tt, ff, tt, ff] 2) (.cond (.tmp 15) (.seq (R95 [tt, ff, tt, tt, ff, ff] 3) .ret) .skip))) (.seq (R95 [tt, tt, ff] 4) .ret)))
theorem call95 (x0 : AV) (h : Heap) : call cfg 95 [x0] h = (exec cfg 95 k95 [(0, x0)] h).bind (callEnd cfg 95 h [.tmp 2, .tmp 3]) := call_at2 (fnat Tryz.func95 (b := k95) (by kernel_rfl) (by kernel_rfl)) rfl rfl
def writesOf (i : SIns) : Int × Bool := if legal i.op && (rowOf i.op).1 then (i.r, true) else (0, false)
theorem writes_eq (i : SIns) (h : Heap) (h0 : 0 <= i.op) (h1 : i.op < 256) : call cfg 95 [.agg i.cells] h = some (.ret (.tup [.int .i64 (writesOf i).1, .bool (writesOf i).2]), h) := by
 rw [call95]
 have hc := fun h => ofI_eq i h h0 h1
 unfold writesOf
 generalize hq : rowOf i.op = q at hc
 generalize legal i.op = l at hc
 obtain ⟨q1, q2, q3, q4, q5⟩ := q
 simp only [SIns.cells] at hc
 cases l <;> cases q1 <;> simp only [SIns.cells, rowCells, F95, k95, Tryz.f95, sxAll, cA, Env.keep, qt_eq, resultsA, packA, storeA, fieldAddrA, loadA, Rv.part, cellsAt, TD.isAgg, setCells, mapO, ↓qAe, Nat.reduceBEq, Nat.reduceAdd, Nat.reduceLeDiff, ↓reduceIte, ty41, ty136, ty3, ty4, pu90, hc] <;> exact leave_pure rfl (by simp) rfl
end
end Go.Proofs.Sx
namespace Go.Proofs.Sx
open Go.Rv Go.Proofs
attribute [local congr] bind_left got_left guardK_left
noncomputable section
theorem pu130 : cfg.pure 130 = true := rfl
instance t130 {d : Option Nat} : TightD cfg 130 d := ⟨fun _ _ => rfl⟩
def B130 (p : List Bool) := cA p Tryz.f130.body
def R130 (p : List Bool) (i : Nat) := Code.region i (cA p Tryz.f130.body) false
def D130 (p : List Bool) (i : Nat) := Code.region i (cA p Tryz.f130.body) true
theorem F130 : (∀ p i, XR cfg 130 (R130 p i) (B130 p) (cA p Tryz.f130.body).toList i false) /\ XR cfg 130 (D130 [tt, tt, ff, tt, ff, ff, tt, tt, ff, ff, tt, ff] 6) (B130 [tt, tt, ff, tt, ff, ff, tt, tt, ff, ff, tt, ff]) ((cA [tt, tt, ff, tt, ff, ff, tt, tt, ff, ff, tt, ff] Tryz.f130.body).toList) 6 true /\ RE cfg 130 [0, 1, 4, 5, 10, 12, 13, 14, 24] /\ cfg.pure 130 = true := ⟨fun _ _ => xr rfl rfl, xd (by kernel_rfl) rfl rfl, rE fun _ => rfl, rfl⟩
def l130_0 : Code := (.seq (R130 [tt, tt, ff, tt, ff, ff, ff] 4) (.seq (.cond (.tmp 14) .skip (.exit 0)) (.seq (.block 1 (.seq (R130 [tt, tt, ff, tt, ff, ff, tt, tt, ff, ff, ff] 5) (.seq (D130 [tt, tt, ff, tt, ff, ff, tt, tt, ff, ff, tt, ff] 6) (.cond (.tmp 24) (.seq (R130 [tt, tt, ff, tt, ff, ff, tt, tt, ff, ff, tt, tt, ff, ff] 7) .ret) .skip)))) (R130 [tt, tt, ff, tt, ff, ff, tt, tt, tt] 8))))
def k130 : Code := (.seq (R130 [ff] 0) (.seq (.seq (R130 [tt, ff, ff] 1) (.cond (.tmp 10) (.seq (R130 [tt, ff, tt, ff, ff] 2) .ret) .skip)) (.seq (.seq (R130 [tt, tt, ff, ff] 3) (.block 0 (.loop l130_0))) (.seq (R130 [tt, tt, tt, ff] 9) .ret))))
theorem call130 (x0 x1 : AV) (h : Heap) : call cfg 130 [x0, x1] h = (exec cfg 130 k130 [(0, x0), (1, x1)] h).bind (callEnd cfg 130 h [.tmp 4]) := call_at2 (fnat Tryz.func130 (b := k130) (by kernel_rfl) (by kernel_rfl)) rfl rfl
theorem equalI_loop (xs ys : List Int) (z z' : Nat) (r r' : Room) (h : Heap) (hn : xs.length < 1000000000) (hl : ys.length = xs.length) : ∀ (us vs : List Int) (i : Nat), xs.drop i = us -> ys.drop i = vs -> i <= xs.length -> ∀ c d t e b,
  Got (exec cfg 130 (.loop l130_0) [(0, .lst (intL xs) z r), (1, .lst (intL ys) z' r'), (4, c), (5, d), (10, b), (12, .int .i64 xs.length), (13, .int .i64 i), (14, t), (24, e)] h) (fun q => q.2.2 = h /\
   ((q.1 = .exit 0 /\ us = vs) ∨ (q.1 = .ret /\ q.2.1.get 4 = .bool false /\ us ≠ vs))) := by
 intro us
 induction us with
 | nil =>
  intro vs i hd hd2 hi c d t e b
  have : vs = [] := by
   rw [← hd2]; apply List.drop_of_length_le
   have := List.drop_eq_nil_iff.1 hd; omega
  subst this
  rw [got_loop]
  simp only [l130_0, F130, Tryz.f130, sxAll, cA, arithA, Env.keep, ↓qAe, Nat.reduceBEq, ↓reduceIte, at_end hd]
  exact ⟨trivial, .inl ⟨trivial, trivial⟩⟩
 | cons y r ih =>
  intro vs i hd hd2 hi c d t e b
  obtain ⟨hlt, _, hd'⟩ := at_drop hd
  obtain ⟨_, hx, _⟩ := at_drop (intL_drop hd)
  cases vs with
  | nil =>
   have := List.drop_eq_nil_iff.1 hd2
   simp at hlt; omega
  | cons w s =>
   obtain ⟨_, _, hd2'⟩ := at_drop hd2
   obtain ⟨_, hx2, _⟩ := at_drop (intL_drop hd2)
   have hw := wrap_succ (i := i) (by omega)
   rw [got_loop]
   by_cases he : y = w
   ·subst he
    have := ih s (i + 1) hd' hd2' (by simp at hlt; omega)
    simp only [l130_0] at this ⊢
    simp only [F130, Tryz.f130, sxAll, cA, arithA, Env.keep, qt_eq, indexAddrA, loadA, Rv.part, cellsAt, TD.isAgg, ↓qAe, Nat.reduceBEq, Nat.reduceAdd, bne, ↓reduceIte, hlt, indexAddrA, ty27, ty3, hx, hx2, hw, List.cons.injEq, true_and, ne_eq] at this ⊢
    exact this _ _ _ _ _
   ·have hne : (y == w) = false := by simp [he]
    simp only [l130_0, F130, Tryz.f130, sxAll, cA, arithA, Env.keep, qt_eq, indexAddrA, loadA, Rv.part, cellsAt, TD.isAgg, ↓qAe, Nat.reduceBEq, Nat.reduceAdd, bne, ↓reduceIte, hlt, indexAddrA, ty27, ty3, hx, hx2, hne]
    exact ⟨trivial, .inr ⟨trivial, trivial, by simp [he]⟩⟩
theorem equalI_eq (xs ys : List Int) (z z' : Nat) (r r' : Room) (h : Heap) (hn : xs.length < 1000000000) : call cfg 130 [.lst (intL xs) z r, .lst (intL ys) z' r'] h = some (.ret (.bool (decide (xs = ys))), h) := by
 rw [call130]
 by_cases hl : ys.length = xs.length
 ·obtain ⟨⟨o, e', h'⟩, hx, hh, hq⟩ := equalI_loop xs ys z z' r r' h hn hl xs ys 0 (by simp) (by simp) (by omega) (.bool false) .junk .junk .junk (.bool false)
  simp only [qBo] at hx hh hq
  subst hh
  have hlen : (((xs.length : Int) != (ys.length : Int))) = false := by simp [hl]
  rcases hq with ⟨rfl, h1⟩ | ⟨rfl, h1, h2⟩
  ·have hd : decide (xs = ys) = true := by simp [h1]
   simp only [F130, k130, Tryz.f130, sxAll, cA, arithA, Env.keep, resultsA, packA, lenA, ↓qAe, Nat.reduceBEq, bne, ↓reduceIte, ty27, intL_len, hl, hx, hd]
   exact leave_kept rfl rfl
  ·have hd : decide (xs = ys) = false := by simp [h2]
   simp only [F130, k130, Tryz.f130, sxAll, cA, arithA, Env.keep, resultsA, packA, lenA, ↓qAe, Nat.reduceBEq, bne, ↓reduceIte, ty27, intL_len, hl, hx, h1, hd]
   exact leave_kept rfl rfl
 ·have hlen : (((xs.length : Int) == (ys.length : Int))) = false := by simp; omega
  have hne : (xs = ys) = False := by simp; intro hc; exact hl (by rw [hc])
  simp only [F130, k130, Tryz.f130, sxAll, cA, arithA, Env.keep, resultsA, packA, lenA, ↓qAe, Nat.reduceBEq, bne, ↓reduceIte, ty27, intL_len, hlen, hne]
  exact leave_kept rfl rfl
theorem pu91 : cfg.pure 91 = true := rfl
instance t91 {d : Option Nat} : TightD cfg 91 d := ⟨fun _ _ => rfl⟩
def B91 (p : List Bool) := cA p Tryz.f91.body
def R91 (p : List Bool) (i : Nat) := Code.region i (cA p Tryz.f91.body) false
theorem F91 : (∀ p i, XR cfg 91 (R91 p i) (B91 p) (cA p Tryz.f91.body).toList i false) /\ cfg.imm 91 2 = true /\ cfg.imm 91 3 = true /\ GO cfg 91 (B91 [tt, ff]) 5 10 /\ GO cfg 91 (B91 [tt, ff]) 12 17 /\ GO cfg 91 (B91 [tt, ff]) 19 24 /\ GO cfg 91 (B91 [tt, ff]) 26 31 /\ GO cfg 91 (B91 [tt, ff]) 33 38 /\ RE cfg 91 [0, 1, 2, 3, 4] /\ cfg.pure 91 = true := ⟨fun _ _ => xr rfl rfl, by kernel_rfl, by kernel_rfl, gO (by kernel_rfl), gO (by kernel_rfl), gO (by kernel_rfl), gO (by kernel_rfl), gO (by kernel_rfl), rE fun _ => rfl, rfl⟩
def k91 : Code := (.seq (R91 [ff] 0) (.seq (R91 [tt, ff] 1) .ret))
theorem call91 (x0 x1 : AV) (h : Heap) : call cfg 91 [x0, x1] h = (exec cfg 91 k91 [(0, x0), (1, x1)] h).bind (callEnd cfg 91 h [.tmp 4]) := call_at2 (fnat Tryz.func91 (b := k91) (by kernel_rfl) (by kernel_rfl)) rfl rfl
def sameB (i j : SIns) : Bool := i.op == j.op && i.r == j.r && i.a == j.a && i.b == j.b && i.n == j.n && decide (i.args = j.args)
theorem sameIns_eq (i j : SIns) (h : Heap) (hn : i.args.length < 1000000000) : call cfg 91 [.agg i.cells, .agg j.cells] h = some (.ret (.bool (sameB i j)), h) := by
 rw [call91]
 have hq := equalI_eq i.args j.args i.z j.z i.room j.room h hn
 unfold sameB
 cases h1 : i.op == j.op
 ·simp only [SIns.cells, F91, k91, Tryz.f91, sxAll, cA, arithA, Env.keep, qt_eq, resultsA, packA, fieldAddrA, loadA, Rv.part, cellsAt, TD.isAgg, ↓qAe, Nat.reduceBEq, Nat.reduceAdd, ↓reduceIte, ty41, ty5, h1]
  exact leave_kept rfl rfl
 cases h2 : i.r == j.r
 ·simp only [SIns.cells, F91, k91, Tryz.f91, sxAll, cA, arithA, Env.keep, qt_eq, resultsA, packA, fieldAddrA, loadA, Rv.part, cellsAt, TD.isAgg, ↓qAe, Nat.reduceBEq, Nat.reduceAdd, ↓reduceIte, ty41, ty5, ty3, h1, h2]
  exact leave_kept rfl rfl
 cases h3 : i.a == j.a
 ·simp only [SIns.cells, F91, k91, Tryz.f91, sxAll, cA, arithA, Env.keep, qt_eq, resultsA, packA, fieldAddrA, loadA, Rv.part, cellsAt, TD.isAgg, ↓qAe, Nat.reduceBEq, Nat.reduceAdd, ↓reduceIte, ty41, ty5, ty3, h1, h2, h3]
  exact leave_kept rfl rfl
 cases h4 : i.b == j.b
 ·simp only [SIns.cells, F91, k91, Tryz.f91, sxAll, cA, arithA, Env.keep, qt_eq, resultsA, packA, fieldAddrA, loadA, Rv.part, cellsAt, TD.isAgg, ↓qAe, Nat.reduceBEq, Nat.reduceAdd, ↓reduceIte, ty41, ty5, ty3, h1, h2, h3, h4]
  exact leave_kept rfl rfl
 cases h5 : i.n == j.n
 ·simp only [SIns.cells, F91, k91, Tryz.f91, sxAll, cA, arithA, Env.keep, qt_eq, resultsA, packA, fieldAddrA, loadA, Rv.part, cellsAt, TD.isAgg, ↓qAe, Nat.reduceBEq, Nat.reduceAdd, ↓reduceIte, ty41, ty5, ty3, ty2, h1, h2, h3, h4, h5]
  exact leave_kept rfl rfl
 ·simp only [SIns.cells, F91, k91, Tryz.f91, sxAll, cA, arithA, Env.keep, qt_eq, resultsA, packA, fieldAddrA, loadA, Rv.part, cellsAt, TD.isAgg, mapO, ↓qAe, Nat.reduceBEq, Nat.reduceAdd, ↓reduceIte, ty41, ty5, ty3, ty2, ty27, pu130, h1, h2, h3, h4, h5, hq]
  exact leave_kept rfl rfl
end
end Go.Proofs.Sx
