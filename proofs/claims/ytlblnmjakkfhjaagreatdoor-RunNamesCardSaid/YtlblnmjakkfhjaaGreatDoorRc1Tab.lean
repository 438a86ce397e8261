/-
  What the interpreter is told at this program; the variables that the rows list; slices.Sorted as one step.
-/
import Derived.Test.YtlblnmjakkfhjaaGreatDoorRows
import Derived.Test.YtlblnmjakkfhjaaGreatDoorRc1Sorted
import Derived.Test.YtlblnmjakkfhjaaGreatDoorRvGlob
import Derived.Test.YtlblnmjakkfhjaaGreatDoorRvCut
import Derived.LaidMore
set_option linter.unusedVariables false
set_option linter.unusedSimpArgs false
namespace Go.Proofs.YtlblnmjakkfhjaaGreatDoor
open Go.Rv
noncomputable section
def im (f t : Nat) : Bool := match f with
  | 7 => match t with | 43 => true | 49 => true | 55 => true | _ => false
  | 8 => match t with | 24 => true | 43 => true | _ => false
  | 18 => match t with | 56 => true | _ => false
  | 19 => match t with | 41 => true | _ => false
  | 20 => match t with | 73 => true | _ => false
  | 24 => match t with | 31 => true | _ => false
  | 29 => match t with | 32 => true | _ => false
  | 33 => match t with | 45 => true | _ => false
  | 36 => match t with | 33 => true | _ => false
  | 39 => match t with | 68 => true | _ => false
  | 41 => match t with | 38 => true | _ => false
  | 53 => match t with | 18 => true | 35 => true | _ => false
  | 54 => match t with | 18 => true | _ => false
  | 66 => match t with | 15 => true | _ => false
  | 67 => match t with | 36 => true | 40 => true | _ => false
  | 81 => match t with | 25 => true | 40 => true | _ => false
  | 83 => match t with | 18 => true | _ => false
  | 84 => match t with | 42 => true | 70 => true | _ => false
  | 115 => match t with | 20 => true | _ => false
  | 124 => match t with | 20 => true | _ => false
  | 125 => match t with | 20 => true | 50 => true | _ => false
  | 131 => match t with | 37 => true | _ => false
  | 168 => match t with | 27 => true | 34 => true | _ => false
  | 217 => match t with | 10 => true | _ => false
  | _ => false
def lo (f t : Nat) : List Nat := match f with
  | 8 => match t with | 23 => [0, 1] | 42 => [0, 1] | 74 => [0, 1] | _ => []
  | 19 => match t with | 42 => [1, 2] | _ => []
  | 33 => match t with | 43 => [2, 3, 4] | 44 => [2, 3, 4] | _ => []
  | 37 => match t with | 16 => [0, 2, 3] | _ => []
  | 67 => match t with | 36 => [2, 3, 4] | 39 => [2, 3, 4] | _ => []
  | 68 => match t with | 11 => [6, 7, 9] | 14 => [9] | 33 => [0, 1] | 57 => [0, 1, 3, 4, 5] | _ => []
  | 81 => match t with | 24 => [0] | _ => []
  | 84 => match t with | 30 => [1, 2, 3, 4, 5, 9, 10] | 33 => [1, 2, 3, 4, 5] | 35 => [1, 2, 3, 4, 5] | 52 => [8, 9, 10, 11, 12] | _ => []
  | 118 => match t with | 15 => [2, 3, 4, 5] | _ => []
  | 119 => match t with | 15 => [2, 3, 4, 5] | 22 => [2, 3, 4, 5] | _ => []
  | 120 => match t with | 18 => [1, 2, 3, 4, 5, 6, 8, 9, 10, 11] | _ => []
  | 121 => match t with | 16 => [2, 3, 4, 5, 6, 7, 9, 10, 11, 12] | 23 => [2, 3, 4, 5, 6, 7, 9, 10, 11, 12] | _ => []
  | 124 => match t with | 19 => [1, 2, 3, 5, 6, 7, 8, 9, 10] | 21 => [1, 2, 3] | _ => []
  | 125 => match t with | 49 => [2, 3] | _ => []
  | 128 => match t with | 55 => [1, 2, 3] | _ => []
  | 133 => match t with | 9 => [5, 6, 7, 8, 10, 11, 12, 13, 15, 16, 17, 18, 20, 21, 22, 23] | 14 => [10, 11, 12, 13, 15, 16, 17, 18, 20, 21, 22, 23] | 19 => [15, 16, 17, 18, 20, 21, 22, 23] | 24 => [20, 21, 22, 23] | _ => []
  | 137 => match t with | 13 => [3, 4] | _ => []
  | _ => []
def pu (f : Nat) : Bool := match f with
  | 8 => true | 45 => true | 46 => true | 78 => true | 108 => true | 129 => true | 175 => true
  | _ => false
def qt (f t : Nat) : Bool := false
def lv (f r : Nat) : Option (List Nat) := match f with
  | 3 => some [0, 1, 2, 3, 4, 5, 7, 9, 11, 12, 13, 19, 75, 76, 77, 78, 79, 80, 81, 82, 83, 84, 85, 86, 87, 88, 89, 90, 91, 92, 93, 94, 95, 96, 97, 98, 99, 100, 101, 102, 103, 104, 105, 106, 107, 108, 109, 110, 111, 112, 113, 114, 115, 116, 117, 118, 119, 120, 121, 122, 123, 124, 125, 126, 127, 128, 129, 130, 131, 132, 133, 134, 135, 136, 137, 138, 139, 140, 141, 142, 143, 144, 145, 146, 147, 148, 149, 150, 151, 152, 153, 154]
  | 4 => some [0, 1, 3, 5, 7, 9, 11, 13, 14, 15, 16, 17, 18, 19, 20, 21, 83, 84, 85, 86, 87, 88, 89, 90, 91, 92, 93, 94, 95, 96, 97, 98, 99, 100, 101, 102, 103, 104, 105, 106, 107, 108, 109, 110, 111, 112, 113, 114, 115, 116, 117, 118, 119, 120, 121, 122, 123, 124, 125, 126, 127, 128, 129, 130, 131, 132, 133, 134, 135, 136, 137, 138, 139, 140, 141, 142, 143, 144, 145, 146, 147, 148, 149, 150, 151, 152, 153, 154, 155, 156, 157, 158, 159, 160, 161, 162, 163, 164, 165, 166, 167, 168, 169, 170, 171]
  | 5 => some [0, 2, 4, 6, 8, 10, 11, 12]
  | 6 => some [0, 1, 2, 4]
  | 7 => some [0, 2, 3, 4, 5, 6, 10, 30]
  | 8 => some [0, 1, 2, 3, 4, 6, 7, 8, 11, 14, 15, 16, 17, 34, 35, 36, 52, 61, 62, 63, 81]
  | 9 => some [0, 1, 4, 5, 10, 14, 26]
  | 10 => some [0, 1, 4, 5, 10, 14, 25]
  | 11 => some [0, 1, 2, 3, 4, 5]
  | 12 => some [0, 1, 2, 4, 5, 6, 7, 13, 18]
  | 13 => some [0, 1, 2, 3, 4, 5]
  | 14 => some [0, 1, 2, 4, 5, 6, 7, 8, 10, 17, 21, 22, 23, 28, 33, 44]
  | 15 => some [0]
  | 16 => some [0, 2]
  | 17 => some [0, 1, 2]
  | 18 => some [0, 1, 2, 3, 4, 5, 6, 7, 8, 9, 10, 12, 19, 22, 23, 24, 25, 30, 31, 32, 33, 39, 43, 44, 45, 46]
  | 19 => some [0, 1, 3, 4, 5, 6, 7, 9, 10, 22, 25, 26, 27, 28, 46, 47, 48]
  | 20 => some [0, 1, 2, 3, 6, 7, 8, 9, 10, 11, 13, 24, 32, 47, 48, 49, 50, 53, 57]
  | 21 => some [0, 1, 2, 3, 4, 5]
  | 22 => some [0, 1, 2, 16]
  | 23 => some [0, 1, 2, 3, 5, 8, 9, 10, 11, 16]
  | 24 => some [0, 2, 3, 4, 5, 7, 11, 12, 13, 14, 18, 19, 20, 21]
  | 25 => some [0, 1, 2, 4, 5, 6]
  | 26 => some [0, 1, 4]
  | 27 => some [0, 1, 4, 5, 6, 7, 12, 19, 29]
  | 28 => some [0, 1, 3]
  | 29 => some [0, 1, 2, 3, 4, 5, 11, 13, 14, 15, 16, 29]
  | 30 => some [0, 1, 2, 5, 6]
  | 31 => some [0, 1, 4, 5, 6, 7, 9, 14]
  | 32 => some [0, 1, 2, 3, 4, 5, 6, 7, 14]
  | 33 => some [0, 1, 2, 3, 4, 5, 6, 8, 11, 22, 30, 31, 32, 33]
  | 34 => some [0, 4, 5]
  | 35 => some [0, 2, 3, 4, 5, 7, 12, 13, 14, 31]
  | 36 => some [0, 1, 2, 4, 5, 6, 7, 8, 10, 11, 12, 28, 30]
  | 37 => some [0, 1, 2, 5, 6]
  | 38 => some [0, 1, 4, 5, 6, 7, 10, 22, 54]
  | 39 => some [0, 2, 3, 4, 5, 6, 7, 8, 9, 11, 12, 13, 32, 63]
  | 40 => some [0, 1, 4]
  | 41 => some [0, 1, 2, 3, 4, 5, 6, 7, 8, 10, 13, 20, 28, 29, 30, 44, 47, 48, 49, 64, 65, 66, 67]
  | 42 => some [0, 1, 2, 6, 11]
  | 43 => some [0, 1, 4]
  | 44 => some [0, 1, 2, 3, 4]
  | 45 => some [0, 2, 3, 5, 6, 7, 8, 9, 14]
  | 46 => some [0, 1, 4, 5, 6, 11, 12, 13, 16, 19]
  | 47 => some [0, 1, 3]
  | 48 => some [0, 1, 4]
  | 49 => some [0, 1, 2, 3]
  | 50 => some [0, 2]
  | 51 => some [0, 2, 3, 4, 5, 8, 13, 25, 32, 44]
  | 52 => some [0, 1, 3]
  | 53 => some [0, 1, 2, 3, 5, 7, 9, 10, 11, 12, 26, 27, 28, 29]
  | 54 => some [0, 1, 2, 3, 4, 5, 7, 8, 9, 10, 15]
  | 55 => some [0, 1, 4]
  | 56 => some [0, 1, 2]
  | 57 => some [0, 1, 4]
  | 58 => some [0, 1, 2, 3]
  | 59 => some [0, 1, 2, 3, 4, 5, 6, 46, 59]
  | 60 => some [0, 2]
  | 61 => some [0, 1, 2, 3, 6, 11, 12, 13, 14, 24]
  | 62 => some [0, 1, 4, 5, 7, 8, 9, 16]
  | 63 => some [0, 1, 4, 5, 7, 8, 9, 16]
  | 64 => some [0, 1, 4]
  | 65 => some [0, 1, 3]
  | 66 => some [0, 2, 3, 4, 6, 7, 8, 12]
  | 67 => some [0, 1, 4, 5, 6, 8, 9, 12, 23, 24, 25, 26]
  | 68 => some [0, 1, 2, 3, 4, 5, 20, 21, 22, 41, 42, 43, 44]
  | 69 => some [0, 1, 2, 6, 7]
  | 70 => some [0, 2, 8, 18]
  | 71 => some [0, 1, 4, 5, 6, 8, 20]
  | 72 => some [0, 2, 4]
  | 73 => some [0, 2, 4]
  | 74 => some [0, 2, 4]
  | 75 => some [0, 2, 4]
  | 76 => some [0, 1, 4, 30]
  | 77 => some [0, 1, 4]
  | 78 => some [0]
  | 79 => some [0, 2, 4]
  | 80 => some [0, 1, 4, 5, 6, 7, 8, 10, 14, 40, 59]
  | 81 => some [0, 1, 2, 3, 4, 6, 7, 8, 9, 10, 11, 14, 16, 17, 18, 19, 29, 30, 31]
  | 82 => some [0, 1, 4, 5, 6, 7, 27, 29, 63]
  | 83 => some [0, 1, 2, 3, 4, 5, 7, 8, 9, 10, 15]
  | 84 => some [0, 1, 2, 4, 5, 6, 7, 8, 9, 21, 63]
  | 85 => some [0, 1, 2, 4, 5, 6, 7, 8, 9, 15, 66, 88, 89]
  | 86 => some [0, 1, 2, 6, 8, 10]
  | 87 => some [0, 2]
  | 88 => some [0, 1, 2, 3, 4, 10, 11, 12, 13, 14, 15, 16, 17, 18, 19, 20, 25, 32, 39, 56, 75, 80, 97, 125]
  | 89 => some [0, 2]
  | 90 => some [0, 2]
  | 91 => some [0, 1, 4, 5, 7, 8, 9, 16]
  | 92 => some [0, 1, 2, 3, 8, 9, 10, 11, 12, 13, 14, 15, 16, 17, 18, 23, 29, 35, 50, 68, 72, 87, 113]
  | 93 => some [0, 2]
  | 94 => some [0, 2, 3, 4, 5, 8, 13, 25, 32, 44]
  | 95 => some [0, 2, 4]
  | 96 => some [0, 1, 4]
  | 97 => some [0, 2]
  | 98 => some [0, 2, 24]
  | 99 => some [0, 1, 4, 5, 7, 8, 9, 16]
  | 100 => some [0, 1, 4, 5, 7, 8, 9, 16]
  | 101 => some [0, 1, 4]
  | 102 => some [0, 1, 2, 3, 4]
  | 103 => some [0, 1, 2, 3, 4, 5, 6, 7, 8, 9, 10, 11, 34, 36, 37, 45]
  | 104 => some [0, 2, 3]
  | 105 => some [0, 1, 2]
  | 106 => some [0, 1, 2]
  | 107 => some [0, 1, 4, 5, 6, 7, 8, 10, 26, 37]
  | 108 => some [0, 2, 4]
  | 109 => some [0, 2, 4]
  | 110 => some [0, 2, 4]
  | 111 => some [0, 1, 4]
  | 112 => some [0, 2]
  | 113 => some [0, 1, 4, 5, 6, 7, 9]
  | 114 => some [0, 2, 4]
  | 115 => some [0, 2, 3, 5, 7, 11, 12, 13, 14]
  | 116 => some [0]
  | 117 => some [0]
  | 118 => some [0]
  | 119 => some [0]
  | 120 => some [0, 2, 3]
  | 121 => some [0]
  | 122 => some [0]
  | 123 => some [0]
  | 124 => some [0]
  | 125 => some [0, 2, 4, 5, 10, 11, 12, 13]
  | 126 => some [0]
  | 127 => some [0, 9]
  | 128 => some [0, 2, 3, 4, 45]
  | 129 => some [0, 2, 8]
  | 130 => some [0, 1, 2, 6, 7, 8, 9, 18]
  | 131 => some [0, 1, 2, 3, 4, 6, 7, 8, 17, 18, 19, 20, 30]
  | 132 => some [0, 1, 2, 3, 4, 7, 11, 26, 27, 28, 29]
  | 133 => some [0, 1, 2, 3, 4]
  | 134 => some [0, 1, 4, 5]
  | 135 => some [0, 2, 4]
  | 136 => some [0, 1, 3, 4, 5]
  | 137 => some [0, 1, 2, 4, 5, 6, 7, 8, 10, 21, 22, 30, 38, 47, 48, 49, 50]
  | 138 => some [0, 1, 2, 3, 4]
  | 139 => some [0, 1, 2]
  | 140 => some [0, 1, 2, 3, 8, 9, 14, 34]
  | 141 => some [0, 1, 2, 3, 8, 9, 10, 11, 12, 21, 33]
  | 142 => some [0, 1, 2, 8, 9, 10, 11, 12, 17, 35, 45]
  | 143 => some [0, 1, 2, 3, 8, 9, 10, 11, 12, 13, 14, 34, 36, 55, 57, 60]
  | 144 => some [0, 1, 2, 8, 9, 15]
  | 145 => some [0, 1, 2, 3, 8, 9, 10, 11, 12, 16, 36, 41, 45, 65, 69, 84, 104, 109, 124]
  | 146 => some [0, 1, 2, 3, 4, 10, 11, 12, 47, 65, 70]
  | 147 => some [0, 1, 2, 3, 4, 10, 11, 12, 13, 47, 66, 71, 120, 139, 144]
  | 148 => some [0, 2, 4, 8]
  | 149 => some [0, 2, 4, 8, 14]
  | 150 => some [0, 1, 2, 6, 7, 12, 30]
  | 151 => some [0, 1, 2, 6, 7, 8, 9, 10, 19, 30]
  | 152 => some [0, 1, 2, 6, 7, 8, 9, 10, 15, 33, 43]
  | 153 => some [0, 1, 2, 6, 7, 8, 9, 10, 11, 12, 32, 34, 49, 51, 54]
  | 154 => some [0, 1, 2, 6, 7, 13]
  | 155 => some [0, 1, 2, 6, 7, 8, 9, 10, 14, 32, 37, 41, 61, 65, 78, 98, 103, 116]
  | 156 => some [0, 1, 4]
  | 157 => some [0, 1, 2, 3, 8, 9, 10, 43, 59, 64]
  | 158 => some [0, 1, 2, 3, 8, 9, 10, 11, 43, 60, 65, 112, 129, 134]
  | 159 => some [0, 1, 2, 3, 8, 9, 10, 11, 12, 13, 14, 15, 16, 17, 18, 23, 29, 35, 50, 68, 72, 87, 113]
  | 160 => some [0, 1, 4, 5, 7, 8, 9, 16]
  | 161 => some [0, 1, 4]
  | 162 => some [0, 1, 4, 5, 6, 12, 21, 34]
  | 163 => some [0, 1, 4, 5, 7, 8, 9, 16]
  | 164 => some [0, 1, 2, 3, 12]
  | 165 => some [0, 1, 2, 3, 4]
  | 166 => some [0, 1, 2, 3, 4, 7, 10, 13, 17, 21]
  | 167 => some [0, 1, 2, 3, 4, 5, 6, 7, 8, 9, 13, 14, 22, 30, 41, 52, 63]
  | 168 => some [0, 1, 2, 3, 5, 23, 30, 38]
  | 169 => some [0, 1, 2, 3, 4, 5, 15]
  | 170 => some [0, 2]
  | 171 => some [0, 1, 3, 5, 7, 13]
  | 172 => some [0, 1, 4, 5, 6, 7, 8, 9]
  | 173 => some [0, 1, 4, 5, 7, 8, 9, 16]
  | 174 => some [0, 1, 2, 7]
  | 175 => some [0, 1, 4]
  | 176 => some [0, 1, 4, 5, 6, 7, 11]
  | 177 => some [0, 1, 2, 6, 7, 8, 9, 29]
  | 178 => some [0, 1, 5]
  | 179 => some [0, 1, 2, 3, 8, 9, 10, 19]
  | 180 => some [0, 1, 2, 6, 7, 9, 14, 25]
  | 181 => some [0, 1, 2, 6, 7, 8, 9, 14, 31]
  | 182 => some [0, 1, 2, 6, 7, 8, 11, 23]
  | 183 => some [0, 1, 4, 5]
  | 184 => some [0, 1, 4, 5, 7, 9]
  | 186 => some [0, 1, 4, 5, 7, 9, 16]
  | 187 => some [0, 2, 5]
  | 188 => some [0, 1, 2, 4, 23, 31]
  | 189 => some [0, 1, 3, 5, 7, 13]
  | 190 => some [0, 1, 2, 3, 4, 10, 11, 18, 40, 58]
  | 191 => some [0, 2]
  | 192 => some [0, 2]
  | 193 => some [0, 1, 2, 3, 8]
  | 194 => some [0, 1, 2, 3, 4, 5, 12]
  | 195 => some [0, 1, 2, 3, 8, 9, 16, 36, 52]
  | 196 => some [0, 1, 2, 6]
  | 197 => some [0, 1, 2, 3, 4, 10]
  | 198 => some [0, 1, 2, 6, 7, 12, 30]
  | 199 => some [0, 1, 2, 6, 7, 8, 9, 10, 19, 30]
  | 200 => some [0, 1, 2, 6, 7, 8, 9, 10, 15, 33, 43]
  | 201 => some [0, 1, 2, 6, 7, 8, 9, 10, 11, 12, 32, 34, 49, 51, 54]
  | 202 => some [0, 1, 2, 6, 7, 13]
  | 203 => some [0, 1, 2, 6, 7, 8, 9, 10, 14, 32, 37, 41, 61, 65, 78, 98, 103, 116]
  | 204 => some [0, 1, 4]
  | 205 => some [0, 1, 2, 3, 8, 9, 10, 43, 59, 64]
  | 206 => some [0, 1, 2, 3, 8, 9, 10, 11, 43, 60, 65, 112, 129, 134]
  | 207 => some [0, 1, 4, 5, 7, 8, 9, 16]
  | 208 => some [0, 1, 4, 13]
  | 209 => some [0, 1, 4, 16]
  | 210 => some [0, 2, 3, 4, 5, 9, 16]
  | 211 => some [0, 1, 4, 7, 12]
  | 212 => some [0, 1, 4, 7, 15]
  | 213 => some [0, 1, 4, 5, 6, 9, 18]
  | 214 => some [0, 1, 4, 5, 6, 9, 17, 26]
  | 215 => some [0, 1, 4, 5, 10, 12, 13, 14, 24]
  | 216 => some [0, 1, 2]
  | 217 => some [0, 1, 2, 4, 5, 6, 7]
  | 218 => some [0, 1, 4, 5, 6]
  | 219 => some [0, 1, 4, 5, 6, 7, 8, 9, 10, 11, 12, 13]
  | 220 => some [0, 2, 3]
  | 221 => some [0, 1]
  | 222 => some [0, 1, 4, 5, 8]
  | 223 => some [0, 2, 3, 5, 6, 8, 9, 10, 11, 12, 20, 25, 26, 27, 28]
  | 224 => some [0, 1, 2, 3, 4, 10, 11, 22]
  | 225 => some [0, 1, 2, 3, 8, 9, 18]
  | 226 => some [0, 1, 2, 3, 8, 9, 16, 36, 52]
  | 227 => some [0, 1, 2, 6]
  | 228 => some [0, 1, 2, 3, 4, 10]
  | 229 => some [0, 2]
  | 230 => some [0, 1, 4]
  | 231 => some [0, 2, 3, 10]
  | 232 => some [0, 1, 4]
  | 233 => some [0, 2, 3, 4, 5, 6, 10, 18, 27, 33, 35, 48]
  | 234 => some [0, 1, 4, 5, 6, 7, 8, 14]
  | 235 => some [0, 1, 2]
  | 236 => some [0, 1, 2, 5]
  | 237 => some [0, 1, 4]
  | 238 => some [0, 1, 4]
  | 239 => some [0, 1, 4]
  | 240 => some [0, 1, 4]
  | 241 => some [0, 1, 4]
  | 242 => some [0, 1, 4]
  | 243 => some [0, 1, 4]
  | 244 => some [0, 1, 4]
  | 245 => some [0, 1, 4]
  | 246 => some [0, 1, 4]
  | 247 => some [0, 1, 4]
  | 248 => some [0, 1, 4, 6, 16]
  | 249 => some [0, 1, 2, 3, 8, 9, 18]
  | 250 => some [0, 2, 3, 4, 5, 6, 7, 8, 9, 10, 11, 12, 16, 23, 45, 57, 59, 75, 77, 98]
  | 251 => some [0, 1, 4, 5, 6, 7, 8, 9, 10, 11, 12, 13, 14, 15, 16, 26, 33, 43, 51, 64, 98, 108, 124, 139, 143, 156, 160, 171, 175, 176, 177, 181, 183]
  | 252 => some [0, 2]
  | 253 => some [0, 1, 4]
  | 254 => some [0, 2, 3, 10]
  | 255 => some [0, 2]
  | 257 => some [0, 1, 4]
  | 283 => some []
  | _ => none

def litAV : Nat → DataW Unit → List AV
  | 0, _ => []
  | _ + 1, .lit (.bool b) => [.bool b]
  | _ + 1, .lit (.int k n) => [.int k n]
  | _ + 1, .lit (.string l) => [.str l]
  | n + 1, .agg ds => (ds.map (litAV n)).flatten
  | _, _ => []
def glb (g : Nat) : Option AV := match g with
  | 0 => some (.ref (litAV 5 Rows.laid_bobbin_tree_reserved))
  | 1 => some (.ref (litAV 5 Rows.laid_bobbin_code_ops))
  | _ => none
def prm (f : Nat) : Option (List AV → Heap → Option (CRes × Heap)) := match f with
  | 104 => some (sortedKeys 171)
  | _ => none
def alo (f : Nat) : Bool := match f with
  | 22 => true
  | 98 => true
  | 26 => true
  | 62 => true
  | 9 => true
  | 10 => true
  | 103 => true
  | 165 => true
  | 17 => true
  | 14 => true
  | _ => false
def namesTold : RvTold := { pure := pu, imm := im, quiet := qt, loose := lo, glob := glb, live := lv, prim := prm, alone := alo }
def namesCfg : Cfg := namesTold.cfg Tryz.prog
def namesLaid : List (String × DataW Unit) := Rows.runNamesRow.laid
theorem namesOwn : ownKnob Tryz.prog.godebug = none := by kernel_rfl

theorem sortedKeys_heap {clo : Nat} {args : List AV} {h : Heap} {v : AV} {h' : Heap} (hc : sortedKeys clo args h = some (.ret v, h')) : h' = h := by
  unfold sortedKeys at hc
  split at hc <;> first | cases hc | skip
  split at hc <;> first | cases hc | skip
  obtain ⟨cs, _, hc⟩ := Option.bind_eq_some_iff.1 hc
  split at hc <;> first | cases hc | skip
  obtain ⟨es, _, hc⟩ := Option.bind_eq_some_iff.1 hc
  obtain ⟨ks, _, hc⟩ := Option.bind_eq_some_iff.1 hc
  split at hc <;> cases hc
  rfl

theorem names_prim : PrimOk Tryz.prog namesCfg := fun f p hp => by
  have hp : prm f = some p := hp
  unfold prm at hp
  split at hp
  · injection hp with hp; subst hp
    refine ⟨⟨_, _, Tryz.func104, rfl, by kernel_rfl⟩, fun _ args h v h' hc => ?_, fun args h res h' hc s w vs R G H => (sortedKeys_ok Tryz.sortedSays (by kernel_rfl) hc R H).2⟩
    exact sortedKeys_heap hc
  · cases hp

theorem names_close : ∀ g v, namesTold.glob g = some v → ∀ h, freezeV h 0 40 v = some v := fun g v hg h => by
  have hg : glb g = some v := hg
  unfold glb at hg
  split at hg
  · injection hg with hg; subst hg; exact congrFun (show (fun h => freezeV h 0 40 (.ref (litAV 5 Rows.laid_bobbin_tree_reserved))) = (fun h => some (.ref (litAV 5 Rows.laid_bobbin_tree_reserved))) by kernel_rfl) h
  · injection hg with hg; subst hg; exact congrFun (show (fun h => freezeV h 0 40 (.ref (litAV 5 Rows.laid_bobbin_code_ops))) = (fun h => some (.ref (litAV 5 Rows.laid_bobbin_code_ops))) by kernel_rfl) h
  · cases hg

theorem names_glob {w : World} (hL : laidMetH Tryz.prog namesLaid w) : ∀ g v, namesTold.glob g = some v → v ≠ .junk ∧ VR (old w) [] w v (.pointer (some ⟨g, 0, none⟩)) := fun g v hg => by
  have hg : glb g = some v := hg
  rw [MakeChecks.laidMetH_plain _ _ _ (by kernel_rfl)] at hL
  obtain ⟨ps, ⟨_, _, _, _, _, _, _, _, _, _, ⟨g1, t1, cs1, fuel1, p1, q1, hg1, ht1, hv1, hd1, ⟨g2, t2, cs2, fuel2, p2, q2, hg2, ht2, hv2, hd2, _, _⟩, _⟩, _⟩, _, _⟩ := hL
  unfold glb at hg
  split at hg
  · injection hg with hg; subst hg
    obtain rfl := Option.some.inj ((show Tryz.prog.globalNamed (namesLaid.getD 1 default).1 = some 0 by kernel_rfl).symm.trans hg1)
    exact glob_rel hg1 hv1 hd1 (by obtain rfl := Option.some.inj (ht1.symm.trans (show (Tryz.prog.globals[0]?).map (·.type) = some 221 by kernel_rfl)); kernel_rfl)
  · injection hg with hg; subst hg
    obtain rfl := Option.some.inj ((show Tryz.prog.globalNamed (namesLaid.getD 2 default).1 = some 1 by kernel_rfl).symm.trans hg2)
    exact glob_rel hg2 hv2 hd2 (by obtain rfl := Option.some.inj (ht2.symm.trans (show (Tryz.prog.globals[1]?).map (·.type) = some 277 by kernel_rfl)); kernel_rfl)
  · cases hg

theorem names_no_args {H : Type} {enc : TypeId × Value → H} {W : World} {vs : List Value} {ds : List (DataW H)} {p : List MemPlace} (h : DataW.TrodAll enc Tryz.prog W 0 (fun _ => true) true [] vs ds p) : vs = [] ∧ ds = [] ∧ p = [] := by
  cases vs with
  | nil => cases ds with
    | nil => exact ⟨rfl, rfl, by simpa [DataW.TrodAll] using h⟩
    | cons => simp [DataW.TrodAll] at h
  | cons => simp [DataW.TrodAll] at h
end
end Go.Proofs.YtlblnmjakkfhjaaGreatDoor
