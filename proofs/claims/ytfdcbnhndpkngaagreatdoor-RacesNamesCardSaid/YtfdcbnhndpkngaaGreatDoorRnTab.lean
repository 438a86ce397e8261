/-
  What the interpreter is told at this program; the variables that the rows list; calls that are taken at one step, layer by layer.
-/
import Derived.Test.YtfdcbnhndpkngaaGreatDoorRows
import Derived.Test.YtfdcbnhndpkngaaGreatDoorPtJ
import Derived.Test.YtfdcbnhndpkngaaGreatDoorPtI
import Derived.Test.YtfdcbnhndpkngaaGreatDoorRvSel
import Derived.LaidMore
import Derived.KernelRfl
set_option linter.unusedSimpArgs false
set_option linter.unusedVariables false
namespace Go.Proofs.YtfdcbnhndpkngaaGreatDoor
open Go.Rv
noncomputable section
def im (f t : Nat) : Bool := match f with
  | 9 => match t with | 1 => true | _ => false
  | 11 => match t with | 2 => true | _ => false
  | 12 => match t with | 2 => true | _ => false
  | 13 => match t with | 2 => true | _ => false
  | 15 => match t with | 1 => true | 73 => true | _ => false
  | 18 => match t with | 1 => true | 63 => true | _ => false
  | 19 => match t with | 2 => true | 3 => true | _ => false
  | 23 => match t with | 31 => true | _ => false
  | 25 => match t with | 54 => true | _ => false
  | 26 => match t with | 68 => true | 84 => true | 118 => true | _ => false
  | 27 => match t with | 1 => true | 25 => true | 40 => true | _ => false
  | 28 => match t with | 39 => true | _ => false
  | 29 => match t with | 1 => true | 18 => true | _ => false
  | 30 => match t with | 2 => true | _ => false
  | 32 => match t with | 3 => true | _ => false
  | 33 => match t with | 2 => true | _ => false
  | 36 => match t with | 1 => true | 56 => true | _ => false
  | 37 => match t with | 3 => true | 41 => true | _ => false
  | 39 => match t with | 3 => true | _ => false
  | 40 => match t with | 3 => true | 73 => true | _ => false
  | 42 => match t with | 2 => true | 3 => true | _ => false
  | 44 => match t with | 1 => true | 24 => true | 43 => true | _ => false
  | 45 => match t with | 1 => true | 38 => true | _ => false
  | 46 => match t with | 3 => true | 4 => true | 60 => true | _ => false
  | 47 => match t with | 2 => true | 3 => true | _ => false
  | 48 => match t with | 2 => true | 3 => true | _ => false
  | 49 => match t with | 127 => true | _ => false
  | 51 => match t with | 48 => true | _ => false
  | 56 => match t with | 2 => true | 3 => true | _ => false
  | 57 => match t with | 1 => true | _ => false
  | 58 => match t with | 1 => true | 37 => true | _ => false
  | 60 => match t with | 2 => true | 3 => true | _ => false
  | 64 => match t with | 2 => true | 3 => true | _ => false
  | 69 => match t with | 2 => true | _ => false
  | 75 => match t with | 1 => true | _ => false
  | 76 => match t with | 31 => true | _ => false
  | 77 => match t with | 2 => true | _ => false
  | 80 => match t with | 1 => true | 32 => true | _ => false
  | 82 => match t with | 1 => true | 18 => true | _ => false
  | 83 => match t with | 4 => true | 5 => true | 35 => true | 42 => true | 70 => true | _ => false
  | 84 => match t with | 2 => true | _ => false
  | 88 => match t with | 3 => true | _ => false
  | 90 => match t with | 1 => true | _ => false
  | 94 => match t with | 3 => true | 14 => true | _ => false
  | 95 => match t with | 4 => true | 6 => true | 7 => true | _ => false
  | 97 => match t with | 1 => true | _ => false
  | 104 => match t with | 3 => true | _ => false
  | 105 => match t with | 1 => true | _ => false
  | 110 => match t with | 1 => true | _ => false
  | 111 => match t with | 3 => true | 12 => true | _ => false
  | 113 => match t with | 1 => true | 18 => true | 35 => true | _ => false
  | 115 => match t with | 1 => true | _ => false
  | 117 => match t with | 2 => true | _ => false
  | 118 => match t with | 2 => true | 3 => true | _ => false
  | 141 => match t with | 4 => true | 5 => true | _ => false
  | 142 => match t with | 2 => true | 3 => true | _ => false
  | 143 => match t with | 2 => true | _ => false
  | 148 => match t with | 5 => true | _ => false
  | 163 => match t with | 19 => true | _ => false
  | 164 => match t with | 12 => true | _ => false
  | 166 => match t with | 2 => true | _ => false
  | 168 => match t with | 3 => true | _ => false
  | 169 => match t with | 3 => true | _ => false
  | 170 => match t with | 1 => true | _ => false
  | 171 => match t with | 2 => true | 3 => true | _ => false
  | 173 => match t with | 3 => true | _ => false
  | 174 => match t with | 3 => true | _ => false
  | 175 => match t with | 3 => true | _ => false
  | 176 => match t with | 3 => true | _ => false
  | 177 => match t with | 3 => true | _ => false
  | 178 => match t with | 3 => true | _ => false
  | 179 => match t with | 3 => true | _ => false
  | 180 => match t with | 3 => true | 19 => true | _ => false
  | 181 => match t with | 3 => true | _ => false
  | 191 => match t with | 3 => true | _ => false
  | 192 => match t with | 3 => true | 4 => true | 5 => true | _ => false
  | 231 => match t with | 36 => true | 47 => true | _ => false
  | 236 => match t with | 2 => true | _ => false
  | 238 => match t with | 3 => true | _ => false
  | 239 => match t with | 1 => true | _ => false
  | 240 => match t with | 4 => true | 5 => true | 6 => true | _ => false
  | 241 => match t with | 4 => true | _ => false
  | 242 => match t with | 4 => true | _ => false
  | 243 => match t with | 4 => true | _ => false
  | 244 => match t with | 3 => true | 21 => true | _ => false
  | 249 => match t with | 1 => true | _ => false
  | 250 => match t with | 2 => true | 3 => true | _ => false
  | 251 => match t with | 2 => true | _ => false
  | 252 => match t with | 4 => true | 5 => true | 6 => true | 7 => true | _ => false
  | 253 => match t with | 1 => true | 27 => true | 34 => true | _ => false
  | 254 => match t with | 1 => true | _ => false
  | 266 => match t with | 5 => true | _ => false
  | 267 => match t with | 5 => true | _ => false
  | 268 => match t with | 5 => true | _ => false
  | 269 => match t with | 5 => true | _ => false
  | 270 => match t with | 5 => true | _ => false
  | 271 => match t with | 5 => true | _ => false
  | 272 => match t with | 5 => true | _ => false
  | 288 => match t with | 2 => true | _ => false
  | 300 => match t with | 1 => true | _ => false
  | 301 => match t with | 10 => true | _ => false
  | 304 => match t with | 5 => true | _ => false
  | 310 => match t with | 10 => true | _ => false
  | 311 => match t with | 10 => true | _ => false
  | 312 => match t with | 15 => true | _ => false
  | 313 => match t with | 15 => true | _ => false
  | 338 => match t with | 5 => true | _ => false
  | 340 => match t with | 19 => true | _ => false
  | _ => false
def lo (f t : Nat) : List Nat := match f with
  | 9 => match t with | 23 => [7, 8, 9, 10, 13, 14, 15] | 29 => [13, 14, 15] | _ => []
  | 15 => match t with | 2062 => [7, 8, 9] | 3068 => [2, 3, 4, 7, 8, 9] | _ => []
  | 25 => match t with | 35 => [1, 2] | 53 => [0] | 2018 => [1] | 3002 => [0, 1] | _ => []
  | 27 => match t with | 24 => [0] | _ => []
  | 37 => match t with | 42 => [1, 2] | _ => []
  | 44 => match t with | 23 => [0, 1] | 42 => [0, 1] | 74 => [0, 1] | _ => []
  | 46 => match t with | 58 => [1, 2, 5, 6, 8, 9, 11, 12] | _ => []
  | 48 => match t with | 8 => [2] | _ => []
  | 50 => match t with | 80 => [5, 6, 7, 8, 12, 13] | 81 => [12, 13] | _ => []
  | 52 => match t with | 3000 => [0, 1] | _ => []
  | 60 => match t with | 9 => [5, 6, 7, 8, 10, 11, 12, 13, 15, 16, 17, 18, 20, 21, 22, 23] | 14 => [10, 11, 12, 13, 15, 16, 17, 18, 20, 21, 22, 23] | 19 => [15, 16, 17, 18, 20, 21, 22, 23] | 24 => [20, 21, 22, 23] | _ => []
  | 64 => match t with | 9 => [5, 6, 7, 8, 10, 11, 12, 13, 15, 16, 17, 18] | 14 => [10, 11, 12, 13, 15, 16, 17, 18] | 19 => [15, 16, 17, 18] | _ => []
  | 83 => match t with | 30 => [1, 2, 3, 4, 5, 9, 10] | 33 => [1, 2, 3, 4, 5] | 52 => [8, 9, 10, 11, 12] | _ => []
  | 92 => match t with | 2011 => [2, 3] | _ => []
  | 107 => match t with | 11 => [1, 2, 3] | _ => []
  | 141 => match t with | 13 => [3, 4] | 1025 => [3, 4] | _ => []
  | 146 => match t with | 34 => [1, 2, 6] | _ => []
  | 231 => match t with | 13 => [1, 2] | 35 => [0, 1] | 46 => [0, 1] | _ => []
  | 266 => match t with | 16 => [2, 3, 11, 12] | _ => []
  | 267 => match t with | 14 => [9, 10] | _ => []
  | 272 => match t with | 49 => [15, 16] | _ => []
  | 304 => match t with | 40 => [5, 6] | _ => []
  | 305 => match t with | 19 => [6, 7] | _ => []
  | 310 => match t with | 7 => [3] | _ => []
  | 311 => match t with | 7 => [3] | _ => []
  | 321 => match t with | 35 => [1, 5, 6] | 36 => [5, 6] | _ => []
  | 359 => match t with | 24 => [4, 5] | 25 => [4, 5] | _ => []
  | 365 => match t with | 13 => [2, 3] | 38 => [2, 3] | _ => []
  | _ => []
def pu (f : Nat) : Bool := false
def qt (f t : Nat) : Bool := false
def lv (f r : Nat) : Option (List Nat) := match f with
  | 81 => match r with | 6 => some [0, 1, 5, 27] | _ => none
  | _ => none

def litAV : Nat → DataW Unit → List AV
  | 0, _ => []
  | _ + 1, .lit (.bool b) => [.bool b]
  | _ + 1, .lit (.int k n) => [.int k n]
  | _ + 1, .lit (.string l) => [.str l]
  | n + 1, .agg ds => (ds.map (litAV n)).flatten
  | _, _ => []
def glb (g : Nat) : Option AV := match g with
  | 0 => some (.ref (litAV 5 Rows.laid_bobbin_lex_signs))
  | 1 => some (.ref (litAV 5 Rows.laid_bobbin_tree_reserved))
  | 2 => some (.ref (litAV 5 Rows.laid_bobbin_tree_stmts))
  | 3 => some (.ref (litAV 5 Rows.laid_bobbin_tree_exprs))
  | 4 => some (.ref (litAV 5 Rows.laid_bobbin_code_ops))
  | _ => none
def rnd (f : Nat) : Bool := match f with
  | 81 => true
  | _ => false
noncomputable def stepsA : Taken := fun f => match f with
  | 194 => some (selF 257 (sortedMF 257) (sortedMF 265), selP 257 (sortedKeysM 257) (sortedKeysM 265))
  | 183 => some (sortStrF, sortStr)
  | 139 => some (cloneF, cloneMap)
  | 224 => some (cloneF, cloneMap)
  | 289 => some (cloneF, cloneMap)
  | 219 => some (copyF, copyMap)
  | 221 => some (strikeF 222, strikeMap 222)
  | _ => none
noncomputable def told0 : RvTold := { pure := pu, imm := im, quiet := qt, loose := lo, glob := glb, live := lv, rounds := rnd, prim := stepsA.p }
/-- What tree.Name answers at the names that the runs meet. -/
def nameRows : Tab := [([.str [109]], .bool true), ([.str [107]], .bool true), ([.str [108]], .bool true), ([.str [120]], .bool true), ([.str [121]], .bool true), ([.str [116]], .bool true), ([.str [117]], .bool true), ([.str [118]], .bool true), ([.str [102]], .bool true), ([.str [103]], .bool true), ([.str []], .bool false)]
noncomputable def stepsB : Taken := fun f => match f with
  | 167 => some (tabF nameRows, tabP nameRows)
  | f => stepsA f
noncomputable def toldB : RvTold := { told0 with prim := stepsB.p }
/-- Functions whose orders are looked at. -/
def okl : List Nat := [5, 17, 18, 19, 20, 25, 26, 27, 29, 31, 41, 44, 45, 46, 47, 48, 49, 50, 51, 52, 53, 54, 55, 56, 57, 58, 59, 60, 61, 66, 70, 71, 73, 74, 75, 76, 77, 78, 79, 80, 81, 82, 83, 84, 85, 86, 87, 88, 89, 90, 91, 92, 93, 94, 95, 96, 97, 98, 99, 100, 101, 102, 103, 104, 105, 106, 107, 108, 109, 110, 111, 112, 113, 114, 115, 116, 117, 118, 119, 120, 122, 123, 124, 125, 126, 127, 128, 129, 130, 131, 132, 133, 134, 135, 136, 137, 138, 140, 141, 142, 143, 144, 145, 146, 147, 148, 149, 150, 151, 152, 153, 154, 155, 156, 157, 158, 159, 160, 161, 162, 163, 164, 165, 166, 167, 168, 169, 170, 171, 172, 173, 174, 175, 176, 177, 178, 179, 180, 181, 182, 184, 185, 186, 187, 188, 189, 190, 191, 192, 193, 195, 204, 205, 206, 207, 208, 209, 210, 211, 212, 213, 214, 215, 216, 217, 218, 222, 223, 225, 226, 227, 228, 229, 230, 231, 232, 233, 234, 235, 236, 237, 238, 239, 240, 241, 242, 243, 244, 245, 246, 248, 249, 250, 251, 252, 253, 254, 255, 257, 261, 262, 263, 264, 265, 266, 267, 268, 269, 270, 271, 272, 273, 274, 275, 276, 277, 278, 279, 280, 281, 282, 283, 284, 285, 286, 287, 288, 299, 300, 303, 304, 305, 306, 307, 308, 309, 310, 311, 312, 313, 314, 315, 316, 317, 318, 319, 320, 321, 322, 323, 324, 325, 326, 327, 332, 333, 334, 335, 336, 337, 338, 339, 340, 341, 342, 343, 344, 346, 347, 348, 349, 350, 352, 353, 354, 355, 356, 357, 358, 359, 361, 362, 363, 364, 365, 366, 367]
noncomputable def wholesC : Wholes := fun f => match f with
  | 25 => some (dfrW Tryz.prog toldB stepsB okl 25 4)
  | 50 => some (dfrW Tryz.prog toldB stepsB okl 50 12)
  | _ => none
noncomputable def toldC : RvTold := { told0 with prim := layPrim stepsB wholesC }
def text0 : List UInt8 := [103, 108, 111, 98, 97, 108, 32, 120, 32, 61, 32, 49, 59, 32, 116, 104, 114, 101, 97, 100, 32, 116, 32, 123, 32, 120, 32, 61, 32, 120, 32, 43, 32, 50, 59, 32, 125, 32, 116, 104, 114, 101, 97, 100, 32, 117, 32, 123, 32, 112, 114, 105, 110, 116, 32, 120, 59, 32, 125]
def tree0 : AV := .tup [.lst [.agg [.int .u8 (1), .str [120], .int .i64 (1), .lst [] 0 .nil, .lst [] 0 .nil, .int .i64 (0)], .agg [.int .u8 (5), .str [116], .int .i64 (0), .lst [] 0 .nil, .lst [.agg [.int .u8 (2), .str [120], .str [], .bool false, .lst [.agg [.int .u8 (7), .str [], .int .i64 (0), .lst [.agg [.int .u8 (3), .str [120], .int .i64 (0), .lst [] 0 .nil, .int .i64 (29)], .agg [.int .u8 (1), .str [], .int .i64 (2), .lst [] 0 .nil, .int .i64 (33)]] 5 .open, .int .i64 (31)]] 5 .open, .lst [] 0 .nil, .lst [] 0 .nil, .int .i64 (25)]] 8 .open, .int .i64 (14)], .agg [.int .u8 (5), .str [117], .int .i64 (0), .lst [] 0 .nil, .lst [.agg [.int .u8 (7), .str [], .str [], .bool false, .lst [.agg [.int .u8 (3), .str [120], .int .i64 (0), .lst [] 0 .nil, .int .i64 (55)]] 5 .open, .lst [] 0 .nil, .lst [] 0 .nil, .int .i64 (49)]] 8 .open, .int .i64 (38)]] 6 .open, .int .i64 (0), .int .i64 (0)]
def text1 : List UInt8 := [103, 108, 111, 98, 97, 108, 32, 120, 32, 61, 32, 49, 59, 32, 108, 111, 99, 107, 32, 108, 59, 32, 116, 104, 114, 101, 97, 100, 32, 116, 32, 123, 32, 119, 105, 116, 104, 32, 108, 32, 123, 32, 120, 32, 61, 32, 120, 32, 43, 32, 50, 59, 32, 125, 32, 125, 32, 116, 104, 114, 101, 97, 100, 32, 117, 32, 123, 32, 119, 105, 116, 104, 32, 108, 32, 123, 32, 112, 114, 105, 110, 116, 32, 120, 59, 32, 125, 32, 125]
def tree1 : AV := .tup [.lst [.agg [.int .u8 (1), .str [120], .int .i64 (1), .lst [] 0 .nil, .lst [] 0 .nil, .int .i64 (0)], .agg [.int .u8 (3), .str [108], .int .i64 (0), .lst [] 0 .nil, .lst [] 0 .nil, .int .i64 (14)], .agg [.int .u8 (5), .str [116], .int .i64 (0), .lst [] 0 .nil, .lst [.agg [.int .u8 (6), .str [108], .str [], .bool false, .lst [] 0 .nil, .lst [.agg [.int .u8 (2), .str [120], .str [], .bool false, .lst [.agg [.int .u8 (7), .str [], .int .i64 (0), .lst [.agg [.int .u8 (3), .str [120], .int .i64 (0), .lst [] 0 .nil, .int .i64 (46)], .agg [.int .u8 (1), .str [], .int .i64 (2), .lst [] 0 .nil, .int .i64 (50)]] 5 .open, .int .i64 (48)]] 5 .open, .lst [] 0 .nil, .lst [] 0 .nil, .int .i64 (42)]] 8 .open, .lst [] 0 .nil, .int .i64 (33)]] 8 .open, .int .i64 (22)], .agg [.int .u8 (5), .str [117], .int .i64 (0), .lst [] 0 .nil, .lst [.agg [.int .u8 (6), .str [108], .str [], .bool false, .lst [] 0 .nil, .lst [.agg [.int .u8 (7), .str [], .str [], .bool false, .lst [.agg [.int .u8 (3), .str [120], .int .i64 (0), .lst [] 0 .nil, .int .i64 (83)]] 5 .open, .lst [] 0 .nil, .lst [] 0 .nil, .int .i64 (77)]] 8 .open, .lst [] 0 .nil, .int .i64 (68)]] 8 .open, .int .i64 (57)]] 6 .open, .int .i64 (0), .int .i64 (0)]
def text2 : List UInt8 := [103, 108, 111, 98, 97, 108, 32, 120, 32, 61, 32, 49, 59, 32, 102, 117, 110, 99, 32, 102, 40, 41, 32, 123, 32, 120, 32, 61, 32, 49, 59, 32, 125, 32, 116, 104, 114, 101, 97, 100, 32, 116, 32, 123, 32, 99, 97, 108, 108, 32, 102, 40, 41, 59, 32, 125, 32, 116, 104, 114, 101, 97, 100, 32, 117, 32, 123, 32, 99, 97, 108, 108, 32, 102, 40, 41, 59, 32, 125]
def tree2 : AV := .tup [.lst [.agg [.int .u8 (1), .str [120], .int .i64 (1), .lst [] 0 .nil, .lst [] 0 .nil, .int .i64 (0)], .agg [.int .u8 (4), .str [102], .int .i64 (0), .lst [] 0 .nil, .lst [.agg [.int .u8 (2), .str [120], .str [], .bool false, .lst [.agg [.int .u8 (1), .str [], .int .i64 (1), .lst [] 0 .nil, .int .i64 (29)]] 5 .open, .lst [] 0 .nil, .lst [] 0 .nil, .int .i64 (25)]] 8 .open, .int .i64 (14)], .agg [.int .u8 (5), .str [116], .int .i64 (0), .lst [] 0 .nil, .lst [.agg [.int .u8 (8), .str [102], .str [], .bool false, .lst [] 0 .nil, .lst [] 0 .nil, .lst [] 0 .nil, .int .i64 (45)]] 8 .open, .int .i64 (34)], .agg [.int .u8 (5), .str [117], .int .i64 (0), .lst [] 0 .nil, .lst [.agg [.int .u8 (8), .str [102], .str [], .bool false, .lst [] 0 .nil, .lst [] 0 .nil, .lst [] 0 .nil, .int .i64 (68)]] 8 .open, .int .i64 (57)]] 6 .open, .int .i64 (0), .int .i64 (0)]
def text3 : List UInt8 := [103, 108, 111, 98, 97, 108, 32, 120, 32, 61, 32, 49, 59, 32, 103, 108, 111, 98, 97, 108, 32, 121, 32, 61, 32, 49, 59, 32, 97, 114, 114, 97, 121, 32, 109, 91, 50, 93, 59, 32, 108, 111, 99, 107, 32, 107, 59, 32, 108, 111, 99, 107, 32, 108, 59, 32]
def tree3 : AV := .tup [.lst [.agg [.int .u8 (1), .str [120], .int .i64 (1), .lst [] 0 .nil, .lst [] 0 .nil, .int .i64 (0)], .agg [.int .u8 (1), .str [121], .int .i64 (1), .lst [] 0 .nil, .lst [] 0 .nil, .int .i64 (14)], .agg [.int .u8 (2), .str [109], .int .i64 (2), .lst [] 0 .nil, .lst [] 0 .nil, .int .i64 (28)], .agg [.int .u8 (3), .str [107], .int .i64 (0), .lst [] 0 .nil, .lst [] 0 .nil, .int .i64 (40)], .agg [.int .u8 (3), .str [108], .int .i64 (0), .lst [] 0 .nil, .lst [] 0 .nil, .int .i64 (48)]] 6 .open, .int .i64 (0), .int .i64 (0)]
def text4 : List UInt8 := [103, 108, 111, 98, 97, 108, 32, 120, 32, 61, 32, 49, 59, 32, 103, 108, 111, 98, 97, 108, 32, 121, 32, 61, 32, 49, 59, 32, 97, 114, 114, 97, 121, 32, 109, 91, 50, 93, 59, 32, 108, 111, 99, 107, 32, 107, 59, 32, 108, 111, 99, 107, 32, 108, 59, 32, 116, 104, 114, 101, 97, 100, 32, 116, 32, 123, 32, 120, 32, 61, 32, 120, 59, 32, 121, 32, 61, 32, 120, 59, 32, 109, 91, 48, 93, 32, 61, 32, 121, 59, 32, 125]
def tree4 : AV := .tup [.lst [.agg [.int .u8 (1), .str [120], .int .i64 (1), .lst [] 0 .nil, .lst [] 0 .nil, .int .i64 (0)], .agg [.int .u8 (1), .str [121], .int .i64 (1), .lst [] 0 .nil, .lst [] 0 .nil, .int .i64 (14)], .agg [.int .u8 (2), .str [109], .int .i64 (2), .lst [] 0 .nil, .lst [] 0 .nil, .int .i64 (28)], .agg [.int .u8 (3), .str [107], .int .i64 (0), .lst [] 0 .nil, .lst [] 0 .nil, .int .i64 (40)], .agg [.int .u8 (3), .str [108], .int .i64 (0), .lst [] 0 .nil, .lst [] 0 .nil, .int .i64 (48)], .agg [.int .u8 (5), .str [116], .int .i64 (0), .lst [] 0 .nil, .lst [.agg [.int .u8 (2), .str [120], .str [], .bool false, .lst [.agg [.int .u8 (3), .str [120], .int .i64 (0), .lst [] 0 .nil, .int .i64 (71)]] 5 .open, .lst [] 0 .nil, .lst [] 0 .nil, .int .i64 (67)], .agg [.int .u8 (2), .str [121], .str [], .bool false, .lst [.agg [.int .u8 (3), .str [120], .int .i64 (0), .lst [] 0 .nil, .int .i64 (78)]] 5 .open, .lst [] 0 .nil, .lst [] 0 .nil, .int .i64 (74)], .agg [.int .u8 (3), .str [109], .str [], .bool false, .lst [.agg [.int .u8 (1), .str [], .int .i64 (0), .lst [] 0 .nil, .int .i64 (83)], .agg [.int .u8 (3), .str [121], .int .i64 (0), .lst [] 0 .nil, .int .i64 (88)]] 5 .open, .lst [] 0 .nil, .lst [] 0 .nil, .int .i64 (81)]] 8 .open, .int .i64 (56)]] 6 .open, .int .i64 (0), .int .i64 (0)]
def text5 : List UInt8 := [103, 108, 111, 98, 97, 108, 32, 120, 32, 61, 32, 49, 59, 32, 103, 108, 111, 98, 97, 108, 32, 121, 32, 61, 32, 49, 59, 32, 97, 114, 114, 97, 121, 32, 109, 91, 50, 93, 59, 32, 108, 111, 99, 107, 32, 107, 59, 32, 108, 111, 99, 107, 32, 108, 59, 32, 116, 104, 114, 101, 97, 100, 32, 116, 32, 123, 32, 112, 114, 105, 110, 116, 32, 120, 59, 32, 125, 32, 116, 104, 114, 101, 97, 100, 32, 117, 32, 123, 32, 112, 114, 105, 110, 116, 32, 120, 59, 32, 125]
def tree5 : AV := .tup [.lst [.agg [.int .u8 (1), .str [120], .int .i64 (1), .lst [] 0 .nil, .lst [] 0 .nil, .int .i64 (0)], .agg [.int .u8 (1), .str [121], .int .i64 (1), .lst [] 0 .nil, .lst [] 0 .nil, .int .i64 (14)], .agg [.int .u8 (2), .str [109], .int .i64 (2), .lst [] 0 .nil, .lst [] 0 .nil, .int .i64 (28)], .agg [.int .u8 (3), .str [107], .int .i64 (0), .lst [] 0 .nil, .lst [] 0 .nil, .int .i64 (40)], .agg [.int .u8 (3), .str [108], .int .i64 (0), .lst [] 0 .nil, .lst [] 0 .nil, .int .i64 (48)], .agg [.int .u8 (5), .str [116], .int .i64 (0), .lst [] 0 .nil, .lst [.agg [.int .u8 (7), .str [], .str [], .bool false, .lst [.agg [.int .u8 (3), .str [120], .int .i64 (0), .lst [] 0 .nil, .int .i64 (73)]] 5 .open, .lst [] 0 .nil, .lst [] 0 .nil, .int .i64 (67)]] 8 .open, .int .i64 (56)], .agg [.int .u8 (5), .str [117], .int .i64 (0), .lst [] 0 .nil, .lst [.agg [.int .u8 (7), .str [], .str [], .bool false, .lst [.agg [.int .u8 (3), .str [120], .int .i64 (0), .lst [] 0 .nil, .int .i64 (95)]] 5 .open, .lst [] 0 .nil, .lst [] 0 .nil, .int .i64 (89)]] 8 .open, .int .i64 (78)]] 6 .open, .int .i64 (0), .int .i64 (0)]
def text6 : List UInt8 := [103, 108, 111, 98, 97, 108, 32, 120, 32, 61, 32, 49, 59, 32, 103, 108, 111, 98, 97, 108, 32, 121, 32, 61, 32, 49, 59, 32, 97, 114, 114, 97, 121, 32, 109, 91, 50, 93, 59, 32, 108, 111, 99, 107, 32, 107, 59, 32, 108, 111, 99, 107, 32, 108, 59, 32, 116, 104, 114, 101, 97, 100, 32, 116, 32, 123, 32, 120, 32, 61, 32, 49, 59, 32, 125, 32, 116, 104, 114, 101, 97, 100, 32, 117, 32, 123, 32, 120, 32, 61, 32, 50, 59, 32, 125]
def tree6 : AV := .tup [.lst [.agg [.int .u8 (1), .str [120], .int .i64 (1), .lst [] 0 .nil, .lst [] 0 .nil, .int .i64 (0)], .agg [.int .u8 (1), .str [121], .int .i64 (1), .lst [] 0 .nil, .lst [] 0 .nil, .int .i64 (14)], .agg [.int .u8 (2), .str [109], .int .i64 (2), .lst [] 0 .nil, .lst [] 0 .nil, .int .i64 (28)], .agg [.int .u8 (3), .str [107], .int .i64 (0), .lst [] 0 .nil, .lst [] 0 .nil, .int .i64 (40)], .agg [.int .u8 (3), .str [108], .int .i64 (0), .lst [] 0 .nil, .lst [] 0 .nil, .int .i64 (48)], .agg [.int .u8 (5), .str [116], .int .i64 (0), .lst [] 0 .nil, .lst [.agg [.int .u8 (2), .str [120], .str [], .bool false, .lst [.agg [.int .u8 (1), .str [], .int .i64 (1), .lst [] 0 .nil, .int .i64 (71)]] 5 .open, .lst [] 0 .nil, .lst [] 0 .nil, .int .i64 (67)]] 8 .open, .int .i64 (56)], .agg [.int .u8 (5), .str [117], .int .i64 (0), .lst [] 0 .nil, .lst [.agg [.int .u8 (2), .str [120], .str [], .bool false, .lst [.agg [.int .u8 (1), .str [], .int .i64 (2), .lst [] 0 .nil, .int .i64 (91)]] 5 .open, .lst [] 0 .nil, .lst [] 0 .nil, .int .i64 (87)]] 8 .open, .int .i64 (76)]] 6 .open, .int .i64 (0), .int .i64 (0)]
def text7 : List UInt8 := [103, 108, 111, 98, 97, 108, 32, 120, 32, 61, 32, 49, 59, 32, 103, 108, 111, 98, 97, 108, 32, 121, 32, 61, 32, 49, 59, 32, 97, 114, 114, 97, 121, 32, 109, 91, 50, 93, 59, 32, 108, 111, 99, 107, 32, 107, 59, 32, 108, 111, 99, 107, 32, 108, 59, 32, 116, 104, 114, 101, 97, 100, 32, 116, 32, 123, 32, 119, 105, 116, 104, 32, 107, 32, 123, 32, 120, 32, 61, 32, 49, 59, 32, 125, 32, 125, 32, 116, 104, 114, 101, 97, 100, 32, 117, 32, 123, 32, 119, 105, 116, 104, 32, 108, 32, 123, 32, 120, 32, 61, 32, 50, 59, 32, 125, 32, 125]
def tree7 : AV := .tup [.lst [.agg [.int .u8 (1), .str [120], .int .i64 (1), .lst [] 0 .nil, .lst [] 0 .nil, .int .i64 (0)], .agg [.int .u8 (1), .str [121], .int .i64 (1), .lst [] 0 .nil, .lst [] 0 .nil, .int .i64 (14)], .agg [.int .u8 (2), .str [109], .int .i64 (2), .lst [] 0 .nil, .lst [] 0 .nil, .int .i64 (28)], .agg [.int .u8 (3), .str [107], .int .i64 (0), .lst [] 0 .nil, .lst [] 0 .nil, .int .i64 (40)], .agg [.int .u8 (3), .str [108], .int .i64 (0), .lst [] 0 .nil, .lst [] 0 .nil, .int .i64 (48)], .agg [.int .u8 (5), .str [116], .int .i64 (0), .lst [] 0 .nil, .lst [.agg [.int .u8 (6), .str [107], .str [], .bool false, .lst [] 0 .nil, .lst [.agg [.int .u8 (2), .str [120], .str [], .bool false, .lst [.agg [.int .u8 (1), .str [], .int .i64 (1), .lst [] 0 .nil, .int .i64 (80)]] 5 .open, .lst [] 0 .nil, .lst [] 0 .nil, .int .i64 (76)]] 8 .open, .lst [] 0 .nil, .int .i64 (67)]] 8 .open, .int .i64 (56)], .agg [.int .u8 (5), .str [117], .int .i64 (0), .lst [] 0 .nil, .lst [.agg [.int .u8 (6), .str [108], .str [], .bool false, .lst [] 0 .nil, .lst [.agg [.int .u8 (2), .str [120], .str [], .bool false, .lst [.agg [.int .u8 (1), .str [], .int .i64 (2), .lst [] 0 .nil, .int .i64 (111)]] 5 .open, .lst [] 0 .nil, .lst [] 0 .nil, .int .i64 (107)]] 8 .open, .lst [] 0 .nil, .int .i64 (98)]] 8 .open, .int .i64 (87)]] 6 .open, .int .i64 (0), .int .i64 (0)]
def text8 : List UInt8 := [103, 108, 111, 98, 97, 108, 32, 120, 32, 61, 32, 49, 59, 32, 103, 108, 111, 98, 97, 108, 32, 121, 32, 61, 32, 49, 59, 32, 97, 114, 114, 97, 121, 32, 109, 91, 50, 93, 59, 32, 108, 111, 99, 107, 32, 107, 59, 32, 108, 111, 99, 107, 32, 108, 59, 32, 116, 104, 114, 101, 97, 100, 32, 116, 32, 123, 32, 119, 105, 116, 104, 32, 107, 32, 123, 32, 119, 105, 116, 104, 32, 108, 32, 123, 32, 120, 32, 61, 32, 49, 59, 32, 125, 32, 125, 32, 125, 32, 116, 104, 114, 101, 97, 100, 32, 117, 32, 123, 32, 119, 105, 116, 104, 32, 108, 32, 123, 32, 120, 32, 61, 32, 50, 59, 32, 125, 32, 125]
def tree8 : AV := .tup [.lst [.agg [.int .u8 (1), .str [120], .int .i64 (1), .lst [] 0 .nil, .lst [] 0 .nil, .int .i64 (0)], .agg [.int .u8 (1), .str [121], .int .i64 (1), .lst [] 0 .nil, .lst [] 0 .nil, .int .i64 (14)], .agg [.int .u8 (2), .str [109], .int .i64 (2), .lst [] 0 .nil, .lst [] 0 .nil, .int .i64 (28)], .agg [.int .u8 (3), .str [107], .int .i64 (0), .lst [] 0 .nil, .lst [] 0 .nil, .int .i64 (40)], .agg [.int .u8 (3), .str [108], .int .i64 (0), .lst [] 0 .nil, .lst [] 0 .nil, .int .i64 (48)], .agg [.int .u8 (5), .str [116], .int .i64 (0), .lst [] 0 .nil, .lst [.agg [.int .u8 (6), .str [107], .str [], .bool false, .lst [] 0 .nil, .lst [.agg [.int .u8 (6), .str [108], .str [], .bool false, .lst [] 0 .nil, .lst [.agg [.int .u8 (2), .str [120], .str [], .bool false, .lst [.agg [.int .u8 (1), .str [], .int .i64 (1), .lst [] 0 .nil, .int .i64 (89)]] 5 .open, .lst [] 0 .nil, .lst [] 0 .nil, .int .i64 (85)]] 8 .open, .lst [] 0 .nil, .int .i64 (76)]] 8 .open, .lst [] 0 .nil, .int .i64 (67)]] 8 .open, .int .i64 (56)], .agg [.int .u8 (5), .str [117], .int .i64 (0), .lst [] 0 .nil, .lst [.agg [.int .u8 (6), .str [108], .str [], .bool false, .lst [] 0 .nil, .lst [.agg [.int .u8 (2), .str [120], .str [], .bool false, .lst [.agg [.int .u8 (1), .str [], .int .i64 (2), .lst [] 0 .nil, .int .i64 (122)]] 5 .open, .lst [] 0 .nil, .lst [] 0 .nil, .int .i64 (118)]] 8 .open, .lst [] 0 .nil, .int .i64 (109)]] 8 .open, .int .i64 (98)]] 6 .open, .int .i64 (0), .int .i64 (0)]
def text9 : List UInt8 := [103, 108, 111, 98, 97, 108, 32, 120, 32, 61, 32, 49, 59, 32, 103, 108, 111, 98, 97, 108, 32, 121, 32, 61, 32, 49, 59, 32, 97, 114, 114, 97, 121, 32, 109, 91, 50, 93, 59, 32, 108, 111, 99, 107, 32, 107, 59, 32, 108, 111, 99, 107, 32, 108, 59, 32, 116, 104, 114, 101, 97, 100, 32, 116, 32, 123, 32, 119, 105, 116, 104, 32, 107, 32, 123, 32, 125, 32, 120, 32, 61, 32, 49, 59, 32, 125, 32, 116, 104, 114, 101, 97, 100, 32, 117, 32, 123, 32, 119, 105, 116, 104, 32, 107, 32, 123, 32, 120, 32, 61, 32, 50, 59, 32, 125, 32, 125]
def tree9 : AV := .tup [.lst [.agg [.int .u8 (1), .str [120], .int .i64 (1), .lst [] 0 .nil, .lst [] 0 .nil, .int .i64 (0)], .agg [.int .u8 (1), .str [121], .int .i64 (1), .lst [] 0 .nil, .lst [] 0 .nil, .int .i64 (14)], .agg [.int .u8 (2), .str [109], .int .i64 (2), .lst [] 0 .nil, .lst [] 0 .nil, .int .i64 (28)], .agg [.int .u8 (3), .str [107], .int .i64 (0), .lst [] 0 .nil, .lst [] 0 .nil, .int .i64 (40)], .agg [.int .u8 (3), .str [108], .int .i64 (0), .lst [] 0 .nil, .lst [] 0 .nil, .int .i64 (48)], .agg [.int .u8 (5), .str [116], .int .i64 (0), .lst [] 0 .nil, .lst [.agg [.int .u8 (6), .str [107], .str [], .bool false, .lst [] 0 .nil, .lst [] 0 .nil, .lst [] 0 .nil, .int .i64 (67)], .agg [.int .u8 (2), .str [120], .str [], .bool false, .lst [.agg [.int .u8 (1), .str [], .int .i64 (1), .lst [] 0 .nil, .int .i64 (82)]] 5 .open, .lst [] 0 .nil, .lst [] 0 .nil, .int .i64 (78)]] 8 .open, .int .i64 (56)], .agg [.int .u8 (5), .str [117], .int .i64 (0), .lst [] 0 .nil, .lst [.agg [.int .u8 (6), .str [107], .str [], .bool false, .lst [] 0 .nil, .lst [.agg [.int .u8 (2), .str [120], .str [], .bool false, .lst [.agg [.int .u8 (1), .str [], .int .i64 (2), .lst [] 0 .nil, .int .i64 (111)]] 5 .open, .lst [] 0 .nil, .lst [] 0 .nil, .int .i64 (107)]] 8 .open, .lst [] 0 .nil, .int .i64 (98)]] 8 .open, .int .i64 (87)]] 6 .open, .int .i64 (0), .int .i64 (0)]
def text10 : List UInt8 := [103, 108, 111, 98, 97, 108, 32, 120, 32, 61, 32, 49, 59, 32, 103, 108, 111, 98, 97, 108, 32, 121, 32, 61, 32, 49, 59, 32, 97, 114, 114, 97, 121, 32, 109, 91, 50, 93, 59, 32, 108, 111, 99, 107, 32, 107, 59, 32, 108, 111, 99, 107, 32, 108, 59, 32, 116, 104, 114, 101, 97, 100, 32, 116, 32, 123, 32, 109, 91, 48, 93, 32, 61, 32, 49, 59, 32, 125, 32, 116, 104, 114, 101, 97, 100, 32, 117, 32, 123, 32, 112, 114, 105, 110, 116, 32, 109, 91, 49, 93, 59, 32, 125]
def tree10 : AV := .tup [.lst [.agg [.int .u8 (1), .str [120], .int .i64 (1), .lst [] 0 .nil, .lst [] 0 .nil, .int .i64 (0)], .agg [.int .u8 (1), .str [121], .int .i64 (1), .lst [] 0 .nil, .lst [] 0 .nil, .int .i64 (14)], .agg [.int .u8 (2), .str [109], .int .i64 (2), .lst [] 0 .nil, .lst [] 0 .nil, .int .i64 (28)], .agg [.int .u8 (3), .str [107], .int .i64 (0), .lst [] 0 .nil, .lst [] 0 .nil, .int .i64 (40)], .agg [.int .u8 (3), .str [108], .int .i64 (0), .lst [] 0 .nil, .lst [] 0 .nil, .int .i64 (48)], .agg [.int .u8 (5), .str [116], .int .i64 (0), .lst [] 0 .nil, .lst [.agg [.int .u8 (3), .str [109], .str [], .bool false, .lst [.agg [.int .u8 (1), .str [], .int .i64 (0), .lst [] 0 .nil, .int .i64 (69)], .agg [.int .u8 (1), .str [], .int .i64 (1), .lst [] 0 .nil, .int .i64 (74)]] 5 .open, .lst [] 0 .nil, .lst [] 0 .nil, .int .i64 (67)]] 8 .open, .int .i64 (56)], .agg [.int .u8 (5), .str [117], .int .i64 (0), .lst [] 0 .nil, .lst [.agg [.int .u8 (7), .str [], .str [], .bool false, .lst [.agg [.int .u8 (4), .str [109], .int .i64 (0), .lst [.agg [.int .u8 (1), .str [], .int .i64 (1), .lst [] 0 .nil, .int .i64 (98)]] 5 .open, .int .i64 (96)]] 5 .open, .lst [] 0 .nil, .lst [] 0 .nil, .int .i64 (90)]] 8 .open, .int .i64 (79)]] 6 .open, .int .i64 (0), .int .i64 (0)]
def text11 : List UInt8 := [103, 108, 111, 98, 97, 108, 32, 120, 32, 61, 32, 49, 59, 32, 103, 108, 111, 98, 97, 108, 32, 121, 32, 61, 32, 49, 59, 32, 97, 114, 114, 97, 121, 32, 109, 91, 50, 93, 59, 32, 108, 111, 99, 107, 32, 107, 59, 32, 108, 111, 99, 107, 32, 108, 59, 32, 102, 117, 110, 99, 32, 102, 40, 41, 32, 123, 32, 120, 32, 61, 32, 49, 59, 32, 125, 32, 116, 104, 114, 101, 97, 100, 32, 116, 32, 123, 32, 119, 105, 116, 104, 32, 107, 32, 123, 32, 99, 97, 108, 108, 32, 102, 40, 41, 59, 32, 125, 32, 125, 32, 116, 104, 114, 101, 97, 100, 32, 117, 32, 123, 32, 119, 105, 116, 104, 32, 107, 32, 123, 32, 99, 97, 108, 108, 32, 102, 40, 41, 59, 32, 125, 32, 125]
def tree11 : AV := .tup [.lst [.agg [.int .u8 (1), .str [120], .int .i64 (1), .lst [] 0 .nil, .lst [] 0 .nil, .int .i64 (0)], .agg [.int .u8 (1), .str [121], .int .i64 (1), .lst [] 0 .nil, .lst [] 0 .nil, .int .i64 (14)], .agg [.int .u8 (2), .str [109], .int .i64 (2), .lst [] 0 .nil, .lst [] 0 .nil, .int .i64 (28)], .agg [.int .u8 (3), .str [107], .int .i64 (0), .lst [] 0 .nil, .lst [] 0 .nil, .int .i64 (40)], .agg [.int .u8 (3), .str [108], .int .i64 (0), .lst [] 0 .nil, .lst [] 0 .nil, .int .i64 (48)], .agg [.int .u8 (4), .str [102], .int .i64 (0), .lst [] 0 .nil, .lst [.agg [.int .u8 (2), .str [120], .str [], .bool false, .lst [.agg [.int .u8 (1), .str [], .int .i64 (1), .lst [] 0 .nil, .int .i64 (71)]] 5 .open, .lst [] 0 .nil, .lst [] 0 .nil, .int .i64 (67)]] 8 .open, .int .i64 (56)], .agg [.int .u8 (5), .str [116], .int .i64 (0), .lst [] 0 .nil, .lst [.agg [.int .u8 (6), .str [107], .str [], .bool false, .lst [] 0 .nil, .lst [.agg [.int .u8 (8), .str [102], .str [], .bool false, .lst [] 0 .nil, .lst [] 0 .nil, .lst [] 0 .nil, .int .i64 (96)]] 8 .open, .lst [] 0 .nil, .int .i64 (87)]] 8 .open, .int .i64 (76)], .agg [.int .u8 (5), .str [117], .int .i64 (0), .lst [] 0 .nil, .lst [.agg [.int .u8 (6), .str [107], .str [], .bool false, .lst [] 0 .nil, .lst [.agg [.int .u8 (8), .str [102], .str [], .bool false, .lst [] 0 .nil, .lst [] 0 .nil, .lst [] 0 .nil, .int .i64 (130)]] 8 .open, .lst [] 0 .nil, .int .i64 (121)]] 8 .open, .int .i64 (110)]] 6 .open, .int .i64 (0), .int .i64 (0)]
def text12 : List UInt8 := [103, 108, 111, 98, 97, 108, 32, 120, 32, 61, 32, 49, 59, 32, 103, 108, 111, 98, 97, 108, 32, 121, 32, 61, 32, 49, 59, 32, 97, 114, 114, 97, 121, 32, 109, 91, 50, 93, 59, 32, 108, 111, 99, 107, 32, 107, 59, 32, 108, 111, 99, 107, 32, 108, 59, 32, 102, 117, 110, 99, 32, 102, 40, 41, 32, 123, 32, 120, 32, 61, 32, 49, 59, 32, 125, 32, 116, 104, 114, 101, 97, 100, 32, 116, 32, 123, 32, 119, 105, 116, 104, 32, 107, 32, 123, 32, 99, 97, 108, 108, 32, 102, 40, 41, 59, 32, 125, 32, 125, 32, 116, 104, 114, 101, 97, 100, 32, 117, 32, 123, 32, 99, 97, 108, 108, 32, 102, 40, 41, 59, 32, 125]
def tree12 : AV := .tup [.lst [.agg [.int .u8 (1), .str [120], .int .i64 (1), .lst [] 0 .nil, .lst [] 0 .nil, .int .i64 (0)], .agg [.int .u8 (1), .str [121], .int .i64 (1), .lst [] 0 .nil, .lst [] 0 .nil, .int .i64 (14)], .agg [.int .u8 (2), .str [109], .int .i64 (2), .lst [] 0 .nil, .lst [] 0 .nil, .int .i64 (28)], .agg [.int .u8 (3), .str [107], .int .i64 (0), .lst [] 0 .nil, .lst [] 0 .nil, .int .i64 (40)], .agg [.int .u8 (3), .str [108], .int .i64 (0), .lst [] 0 .nil, .lst [] 0 .nil, .int .i64 (48)], .agg [.int .u8 (4), .str [102], .int .i64 (0), .lst [] 0 .nil, .lst [.agg [.int .u8 (2), .str [120], .str [], .bool false, .lst [.agg [.int .u8 (1), .str [], .int .i64 (1), .lst [] 0 .nil, .int .i64 (71)]] 5 .open, .lst [] 0 .nil, .lst [] 0 .nil, .int .i64 (67)]] 8 .open, .int .i64 (56)], .agg [.int .u8 (5), .str [116], .int .i64 (0), .lst [] 0 .nil, .lst [.agg [.int .u8 (6), .str [107], .str [], .bool false, .lst [] 0 .nil, .lst [.agg [.int .u8 (8), .str [102], .str [], .bool false, .lst [] 0 .nil, .lst [] 0 .nil, .lst [] 0 .nil, .int .i64 (96)]] 8 .open, .lst [] 0 .nil, .int .i64 (87)]] 8 .open, .int .i64 (76)], .agg [.int .u8 (5), .str [117], .int .i64 (0), .lst [] 0 .nil, .lst [.agg [.int .u8 (8), .str [102], .str [], .bool false, .lst [] 0 .nil, .lst [] 0 .nil, .lst [] 0 .nil, .int .i64 (121)]] 8 .open, .int .i64 (110)]] 6 .open, .int .i64 (0), .int .i64 (0)]
def text13 : List UInt8 := [103, 108, 111, 98, 97, 108, 32, 120, 32, 61, 32, 49, 59, 32, 103, 108, 111, 98, 97, 108, 32, 121, 32, 61, 32, 49, 59, 32, 97, 114, 114, 97, 121, 32, 109, 91, 50, 93, 59, 32, 108, 111, 99, 107, 32, 107, 59, 32, 108, 111, 99, 107, 32, 108, 59, 32, 102, 117, 110, 99, 32, 102, 40, 41, 32, 123, 32, 120, 32, 61, 32, 49, 59, 32, 125, 32, 102, 117, 110, 99, 32, 103, 40, 41, 32, 123, 32, 112, 114, 105, 110, 116, 32, 120, 59, 32, 125, 32, 116, 104, 114, 101, 97, 100, 32, 116, 32, 123, 32, 99, 97, 108, 108, 32, 102, 40, 41, 59, 32, 125]
def tree13 : AV := .tup [.lst [.agg [.int .u8 (1), .str [120], .int .i64 (1), .lst [] 0 .nil, .lst [] 0 .nil, .int .i64 (0)], .agg [.int .u8 (1), .str [121], .int .i64 (1), .lst [] 0 .nil, .lst [] 0 .nil, .int .i64 (14)], .agg [.int .u8 (2), .str [109], .int .i64 (2), .lst [] 0 .nil, .lst [] 0 .nil, .int .i64 (28)], .agg [.int .u8 (3), .str [107], .int .i64 (0), .lst [] 0 .nil, .lst [] 0 .nil, .int .i64 (40)], .agg [.int .u8 (3), .str [108], .int .i64 (0), .lst [] 0 .nil, .lst [] 0 .nil, .int .i64 (48)], .agg [.int .u8 (4), .str [102], .int .i64 (0), .lst [] 0 .nil, .lst [.agg [.int .u8 (2), .str [120], .str [], .bool false, .lst [.agg [.int .u8 (1), .str [], .int .i64 (1), .lst [] 0 .nil, .int .i64 (71)]] 5 .open, .lst [] 0 .nil, .lst [] 0 .nil, .int .i64 (67)]] 8 .open, .int .i64 (56)], .agg [.int .u8 (4), .str [103], .int .i64 (0), .lst [] 0 .nil, .lst [.agg [.int .u8 (7), .str [], .str [], .bool false, .lst [.agg [.int .u8 (3), .str [120], .int .i64 (0), .lst [] 0 .nil, .int .i64 (93)]] 5 .open, .lst [] 0 .nil, .lst [] 0 .nil, .int .i64 (87)]] 8 .open, .int .i64 (76)], .agg [.int .u8 (5), .str [116], .int .i64 (0), .lst [] 0 .nil, .lst [.agg [.int .u8 (8), .str [102], .str [], .bool false, .lst [] 0 .nil, .lst [] 0 .nil, .lst [] 0 .nil, .int .i64 (109)]] 8 .open, .int .i64 (98)]] 6 .open, .int .i64 (0), .int .i64 (0)]
def text14 : List UInt8 := [103, 108, 111, 98, 97, 108, 32, 120, 32, 61, 32, 49, 59, 32, 103, 108, 111, 98, 97, 108, 32, 121, 32, 61, 32, 49, 59, 32, 97, 114, 114, 97, 121, 32, 109, 91, 50, 93, 59, 32, 108, 111, 99, 107, 32, 107, 59, 32, 108, 111, 99, 107, 32, 108, 59, 32, 102, 117, 110, 99, 32, 102, 40, 41, 32, 123, 32, 120, 32, 61, 32, 49, 59, 32, 125, 32, 102, 117, 110, 99, 32, 103, 40, 41, 32, 123, 32, 112, 114, 105, 110, 116, 32, 120, 59, 32, 125, 32, 116, 104, 114, 101, 97, 100, 32, 116, 32, 123, 32, 99, 97, 108, 108, 32, 102, 40, 41, 59, 32, 125, 32, 116, 104, 114, 101, 97, 100, 32, 117, 32, 123, 32, 99, 97, 108, 108, 32, 103, 40, 41, 59, 32, 125]
def tree14 : AV := .tup [.lst [.agg [.int .u8 (1), .str [120], .int .i64 (1), .lst [] 0 .nil, .lst [] 0 .nil, .int .i64 (0)], .agg [.int .u8 (1), .str [121], .int .i64 (1), .lst [] 0 .nil, .lst [] 0 .nil, .int .i64 (14)], .agg [.int .u8 (2), .str [109], .int .i64 (2), .lst [] 0 .nil, .lst [] 0 .nil, .int .i64 (28)], .agg [.int .u8 (3), .str [107], .int .i64 (0), .lst [] 0 .nil, .lst [] 0 .nil, .int .i64 (40)], .agg [.int .u8 (3), .str [108], .int .i64 (0), .lst [] 0 .nil, .lst [] 0 .nil, .int .i64 (48)], .agg [.int .u8 (4), .str [102], .int .i64 (0), .lst [] 0 .nil, .lst [.agg [.int .u8 (2), .str [120], .str [], .bool false, .lst [.agg [.int .u8 (1), .str [], .int .i64 (1), .lst [] 0 .nil, .int .i64 (71)]] 5 .open, .lst [] 0 .nil, .lst [] 0 .nil, .int .i64 (67)]] 8 .open, .int .i64 (56)], .agg [.int .u8 (4), .str [103], .int .i64 (0), .lst [] 0 .nil, .lst [.agg [.int .u8 (7), .str [], .str [], .bool false, .lst [.agg [.int .u8 (3), .str [120], .int .i64 (0), .lst [] 0 .nil, .int .i64 (93)]] 5 .open, .lst [] 0 .nil, .lst [] 0 .nil, .int .i64 (87)]] 8 .open, .int .i64 (76)], .agg [.int .u8 (5), .str [116], .int .i64 (0), .lst [] 0 .nil, .lst [.agg [.int .u8 (8), .str [102], .str [], .bool false, .lst [] 0 .nil, .lst [] 0 .nil, .lst [] 0 .nil, .int .i64 (109)]] 8 .open, .int .i64 (98)], .agg [.int .u8 (5), .str [117], .int .i64 (0), .lst [] 0 .nil, .lst [.agg [.int .u8 (8), .str [103], .str [], .bool false, .lst [] 0 .nil, .lst [] 0 .nil, .lst [] 0 .nil, .int .i64 (132)]] 8 .open, .int .i64 (121)]] 6 .open, .int .i64 (0), .int .i64 (0)]
def text15 : List UInt8 := [103, 108, 111, 98, 97, 108, 32, 120, 32, 61, 32, 49, 59, 32, 103, 108, 111, 98, 97, 108, 32, 121, 32, 61, 32, 49, 59, 32, 97, 114, 114, 97, 121, 32, 109, 91, 50, 93, 59, 32, 108, 111, 99, 107, 32, 107, 59, 32, 108, 111, 99, 107, 32, 108, 59, 32, 102, 117, 110, 99, 32, 102, 40, 41, 32, 123, 32, 120, 32, 61, 32, 49, 59, 32, 125, 32, 116, 104, 114, 101, 97, 100, 32, 116, 32, 123, 32, 99, 97, 108, 108, 32, 102, 40, 41, 59, 32, 120, 32, 61, 32, 50, 59, 32, 125]
def tree15 : AV := .tup [.lst [.agg [.int .u8 (1), .str [120], .int .i64 (1), .lst [] 0 .nil, .lst [] 0 .nil, .int .i64 (0)], .agg [.int .u8 (1), .str [121], .int .i64 (1), .lst [] 0 .nil, .lst [] 0 .nil, .int .i64 (14)], .agg [.int .u8 (2), .str [109], .int .i64 (2), .lst [] 0 .nil, .lst [] 0 .nil, .int .i64 (28)], .agg [.int .u8 (3), .str [107], .int .i64 (0), .lst [] 0 .nil, .lst [] 0 .nil, .int .i64 (40)], .agg [.int .u8 (3), .str [108], .int .i64 (0), .lst [] 0 .nil, .lst [] 0 .nil, .int .i64 (48)], .agg [.int .u8 (4), .str [102], .int .i64 (0), .lst [] 0 .nil, .lst [.agg [.int .u8 (2), .str [120], .str [], .bool false, .lst [.agg [.int .u8 (1), .str [], .int .i64 (1), .lst [] 0 .nil, .int .i64 (71)]] 5 .open, .lst [] 0 .nil, .lst [] 0 .nil, .int .i64 (67)]] 8 .open, .int .i64 (56)], .agg [.int .u8 (5), .str [116], .int .i64 (0), .lst [] 0 .nil, .lst [.agg [.int .u8 (8), .str [102], .str [], .bool false, .lst [] 0 .nil, .lst [] 0 .nil, .lst [] 0 .nil, .int .i64 (87)], .agg [.int .u8 (2), .str [120], .str [], .bool false, .lst [.agg [.int .u8 (1), .str [], .int .i64 (2), .lst [] 0 .nil, .int .i64 (101)]] 5 .open, .lst [] 0 .nil, .lst [] 0 .nil, .int .i64 (97)]] 8 .open, .int .i64 (76)]] 6 .open, .int .i64 (0), .int .i64 (0)]
def text16 : List UInt8 := [103, 108, 111, 98, 97, 108, 32, 120, 32, 61, 32, 49, 59, 32, 103, 108, 111, 98, 97, 108, 32, 121, 32, 61, 32, 49, 59, 32, 97, 114, 114, 97, 121, 32, 109, 91, 50, 93, 59, 32, 108, 111, 99, 107, 32, 107, 59, 32, 108, 111, 99, 107, 32, 108, 59, 32, 116, 104, 114, 101, 97, 100, 32, 116, 32, 123, 32, 120, 32, 61, 32, 49, 59, 32, 125, 32, 116, 104, 114, 101, 97, 100, 32, 117, 32, 123, 32, 120, 32, 61, 32, 50, 59, 32, 125, 32, 116, 104, 114, 101, 97, 100, 32, 118, 32, 123, 32, 112, 114, 105, 110, 116, 32, 120, 59, 32, 125]
def tree16 : AV := .tup [.lst [.agg [.int .u8 (1), .str [120], .int .i64 (1), .lst [] 0 .nil, .lst [] 0 .nil, .int .i64 (0)], .agg [.int .u8 (1), .str [121], .int .i64 (1), .lst [] 0 .nil, .lst [] 0 .nil, .int .i64 (14)], .agg [.int .u8 (2), .str [109], .int .i64 (2), .lst [] 0 .nil, .lst [] 0 .nil, .int .i64 (28)], .agg [.int .u8 (3), .str [107], .int .i64 (0), .lst [] 0 .nil, .lst [] 0 .nil, .int .i64 (40)], .agg [.int .u8 (3), .str [108], .int .i64 (0), .lst [] 0 .nil, .lst [] 0 .nil, .int .i64 (48)], .agg [.int .u8 (5), .str [116], .int .i64 (0), .lst [] 0 .nil, .lst [.agg [.int .u8 (2), .str [120], .str [], .bool false, .lst [.agg [.int .u8 (1), .str [], .int .i64 (1), .lst [] 0 .nil, .int .i64 (71)]] 5 .open, .lst [] 0 .nil, .lst [] 0 .nil, .int .i64 (67)]] 8 .open, .int .i64 (56)], .agg [.int .u8 (5), .str [117], .int .i64 (0), .lst [] 0 .nil, .lst [.agg [.int .u8 (2), .str [120], .str [], .bool false, .lst [.agg [.int .u8 (1), .str [], .int .i64 (2), .lst [] 0 .nil, .int .i64 (91)]] 5 .open, .lst [] 0 .nil, .lst [] 0 .nil, .int .i64 (87)]] 8 .open, .int .i64 (76)], .agg [.int .u8 (5), .str [118], .int .i64 (0), .lst [] 0 .nil, .lst [.agg [.int .u8 (7), .str [], .str [], .bool false, .lst [.agg [.int .u8 (3), .str [120], .int .i64 (0), .lst [] 0 .nil, .int .i64 (113)]] 5 .open, .lst [] 0 .nil, .lst [] 0 .nil, .int .i64 (107)]] 8 .open, .int .i64 (96)]] 6 .open, .int .i64 (0), .int .i64 (0)]
def text17 : List UInt8 := [103, 108, 111, 98, 97, 108, 32, 120, 32, 61, 32, 49, 59, 32, 103, 108, 111, 98, 97, 108, 32, 121, 32, 61, 32, 49, 59, 32, 97, 114, 114, 97, 121, 32, 109, 91, 50, 93, 59, 32, 108, 111, 99, 107, 32, 107, 59, 32, 108, 111, 99, 107, 32, 108, 59, 32, 116, 104, 114, 101, 97, 100, 32, 116, 32, 123, 32, 121, 32, 61, 32, 120, 59, 32, 125, 32, 116, 104, 114, 101, 97, 100, 32, 117, 32, 123, 32, 120, 32, 61, 32, 121, 59, 32, 125]
def tree17 : AV := .tup [.lst [.agg [.int .u8 (1), .str [120], .int .i64 (1), .lst [] 0 .nil, .lst [] 0 .nil, .int .i64 (0)], .agg [.int .u8 (1), .str [121], .int .i64 (1), .lst [] 0 .nil, .lst [] 0 .nil, .int .i64 (14)], .agg [.int .u8 (2), .str [109], .int .i64 (2), .lst [] 0 .nil, .lst [] 0 .nil, .int .i64 (28)], .agg [.int .u8 (3), .str [107], .int .i64 (0), .lst [] 0 .nil, .lst [] 0 .nil, .int .i64 (40)], .agg [.int .u8 (3), .str [108], .int .i64 (0), .lst [] 0 .nil, .lst [] 0 .nil, .int .i64 (48)], .agg [.int .u8 (5), .str [116], .int .i64 (0), .lst [] 0 .nil, .lst [.agg [.int .u8 (2), .str [121], .str [], .bool false, .lst [.agg [.int .u8 (3), .str [120], .int .i64 (0), .lst [] 0 .nil, .int .i64 (71)]] 5 .open, .lst [] 0 .nil, .lst [] 0 .nil, .int .i64 (67)]] 8 .open, .int .i64 (56)], .agg [.int .u8 (5), .str [117], .int .i64 (0), .lst [] 0 .nil, .lst [.agg [.int .u8 (2), .str [120], .str [], .bool false, .lst [.agg [.int .u8 (3), .str [121], .int .i64 (0), .lst [] 0 .nil, .int .i64 (91)]] 5 .open, .lst [] 0 .nil, .lst [] 0 .nil, .int .i64 (87)]] 8 .open, .int .i64 (76)]] 6 .open, .int .i64 (0), .int .i64 (0)]
def text18 : List UInt8 := [103, 108, 111, 98, 97, 108, 32, 120, 32, 61, 32, 49, 59, 32, 103, 108, 111, 98, 97, 108, 32, 121, 32, 61, 32, 49, 59, 32, 97, 114, 114, 97, 121, 32, 109, 91, 50, 93, 59, 32, 108, 111, 99, 107, 32, 107, 59, 32, 108, 111, 99, 107, 32, 108, 59, 32, 116, 104, 114, 101, 97, 100, 32, 116, 32, 123, 32, 105, 102, 32, 120, 32, 60, 32, 49, 32, 123, 32, 119, 105, 116, 104, 32, 108, 32, 123, 32, 121, 32, 61, 32, 49, 59, 32, 125, 32, 125, 32, 125, 32, 116, 104, 114, 101, 97, 100, 32, 117, 32, 123, 32, 119, 105, 116, 104, 32, 108, 32, 123, 32, 112, 114, 105, 110, 116, 32, 121, 59, 32, 125, 32, 125]
def tree18 : AV := .tup [.lst [.agg [.int .u8 (1), .str [120], .int .i64 (1), .lst [] 0 .nil, .lst [] 0 .nil, .int .i64 (0)], .agg [.int .u8 (1), .str [121], .int .i64 (1), .lst [] 0 .nil, .lst [] 0 .nil, .int .i64 (14)], .agg [.int .u8 (2), .str [109], .int .i64 (2), .lst [] 0 .nil, .lst [] 0 .nil, .int .i64 (28)], .agg [.int .u8 (3), .str [107], .int .i64 (0), .lst [] 0 .nil, .lst [] 0 .nil, .int .i64 (40)], .agg [.int .u8 (3), .str [108], .int .i64 (0), .lst [] 0 .nil, .lst [] 0 .nil, .int .i64 (48)], .agg [.int .u8 (5), .str [116], .int .i64 (0), .lst [] 0 .nil, .lst [.agg [.int .u8 (4), .str [], .str [], .bool false, .lst [.agg [.int .u8 (12), .str [], .int .i64 (0), .lst [.agg [.int .u8 (3), .str [120], .int .i64 (0), .lst [] 0 .nil, .int .i64 (70)], .agg [.int .u8 (1), .str [], .int .i64 (1), .lst [] 0 .nil, .int .i64 (74)]] 5 .open, .int .i64 (72)]] 5 .open, .lst [.agg [.int .u8 (6), .str [108], .str [], .bool false, .lst [] 0 .nil, .lst [.agg [.int .u8 (2), .str [121], .str [], .bool false, .lst [.agg [.int .u8 (1), .str [], .int .i64 (1), .lst [] 0 .nil, .int .i64 (91)]] 5 .open, .lst [] 0 .nil, .lst [] 0 .nil, .int .i64 (87)]] 8 .open, .lst [] 0 .nil, .int .i64 (78)]] 8 .open, .lst [] 0 .nil, .int .i64 (67)]] 8 .open, .int .i64 (56)], .agg [.int .u8 (5), .str [117], .int .i64 (0), .lst [] 0 .nil, .lst [.agg [.int .u8 (6), .str [108], .str [], .bool false, .lst [] 0 .nil, .lst [.agg [.int .u8 (7), .str [], .str [], .bool false, .lst [.agg [.int .u8 (3), .str [121], .int .i64 (0), .lst [] 0 .nil, .int .i64 (126)]] 5 .open, .lst [] 0 .nil, .lst [] 0 .nil, .int .i64 (120)]] 8 .open, .lst [] 0 .nil, .int .i64 (111)]] 8 .open, .int .i64 (100)]] 6 .open, .int .i64 (0), .int .i64 (0)]
def parseRows : Tab := [([.str text0], tree0), ([.str text1], tree1), ([.str text2], tree2), ([.str text3], tree3), ([.str text4], tree4), ([.str text5], tree5), ([.str text6], tree6), ([.str text7], tree7), ([.str text8], tree8), ([.str text9], tree9), ([.str text10], tree10), ([.str text11], tree11), ([.str text12], tree12), ([.str text13], tree13), ([.str text14], tree14), ([.str text15], tree15), ([.str text16], tree16), ([.str text17], tree17), ([.str text18], tree18)]
noncomputable def stepsD : Taken := fun f => match f with
  | 25 => some (tabF parseRows, tabP parseRows)
  | f => stepsB f
noncomputable def wholesD : Wholes := fun f => match f with
  | 50 => some (dfrW Tryz.prog toldB stepsB okl 50 12)
  | _ => none
noncomputable def toldD : RvTold := { told0 with prim := layPrim stepsD wholesD }
def tellRows : Tab := [([.str [103, 108, 111, 98, 97, 108, 32, 120, 32, 61, 32, 49, 59, 32, 116, 104, 114, 101, 97, 100, 32, 116, 32, 123, 32, 120, 32, 61, 32, 120, 32, 43, 32, 50, 59, 32, 125, 32, 116, 104, 114, 101, 97, 100, 32, 117, 32, 123, 32, 112, 114, 105, 110, 116, 32, 120, 59, 32, 125], .lst [.int .i64 (0), .int .i64 (0), .int .i64 (1)] 1 .open], .bool true), ([.str [103, 108, 111, 98, 97, 108, 32, 120, 32, 61, 32, 49, 59, 32, 108, 111, 99, 107, 32, 108, 59, 32, 116, 104, 114, 101, 97, 100, 32, 116, 32, 123, 32, 119, 105, 116, 104, 32, 108, 32, 123, 32, 120, 32, 61, 32, 120, 32, 43, 32, 50, 59, 32, 125, 32, 125, 32, 116, 104, 114, 101, 97, 100, 32, 117, 32, 123, 32, 119, 105, 116, 104, 32, 108, 32, 123, 32, 112, 114, 105, 110, 116, 32, 120, 59, 32, 125, 32, 125], .lst [] 0 .nil], .bool true), ([.str [103, 108, 111, 98, 97, 108, 32, 120, 32, 61, 32, 49, 59, 32, 102, 117, 110, 99, 32, 102, 40, 41, 32, 123, 32, 120, 32, 61, 32, 49, 59, 32, 125, 32, 116, 104, 114, 101, 97, 100, 32, 116, 32, 123, 32, 99, 97, 108, 108, 32, 102, 40, 41, 59, 32, 125, 32, 116, 104, 114, 101, 97, 100, 32, 117, 32, 123, 32, 99, 97, 108, 108, 32, 102, 40, 41, 59, 32, 125], .lst [.int .i64 (0), .int .i64 (0), .int .i64 (0)] 1 .open], .bool true), ([.str [103, 108, 111, 98, 97, 108, 32, 120, 32, 61, 32, 49, 59, 32, 103, 108, 111, 98, 97, 108, 32, 121, 32, 61, 32, 49, 59, 32, 97, 114, 114, 97, 121, 32, 109, 91, 50, 93, 59, 32, 108, 111, 99, 107, 32, 107, 59, 32, 108, 111, 99, 107, 32, 108, 59, 32], .lst [] 0 .nil], .bool true), ([.str [103, 108, 111, 98, 97, 108, 32, 120, 32, 61, 32, 49, 59, 32, 103, 108, 111, 98, 97, 108, 32, 121, 32, 61, 32, 49, 59, 32, 97, 114, 114, 97, 121, 32, 109, 91, 50, 93, 59, 32, 108, 111, 99, 107, 32, 107, 59, 32, 108, 111, 99, 107, 32, 108, 59, 32, 116, 104, 114, 101, 97, 100, 32, 116, 32, 123, 32, 120, 32, 61, 32, 120, 59, 32, 121, 32, 61, 32, 120, 59, 32, 109, 91, 48, 93, 32, 61, 32, 121, 59, 32, 125], .lst [] 0 .nil], .bool true), ([.str [103, 108, 111, 98, 97, 108, 32, 120, 32, 61, 32, 49, 59, 32, 103, 108, 111, 98, 97, 108, 32, 121, 32, 61, 32, 49, 59, 32, 97, 114, 114, 97, 121, 32, 109, 91, 50, 93, 59, 32, 108, 111, 99, 107, 32, 107, 59, 32, 108, 111, 99, 107, 32, 108, 59, 32, 116, 104, 114, 101, 97, 100, 32, 116, 32, 123, 32, 112, 114, 105, 110, 116, 32, 120, 59, 32, 125, 32, 116, 104, 114, 101, 97, 100, 32, 117, 32, 123, 32, 112, 114, 105, 110, 116, 32, 120, 59, 32, 125], .lst [] 0 .nil], .bool true), ([.str [103, 108, 111, 98, 97, 108, 32, 120, 32, 61, 32, 49, 59, 32, 103, 108, 111, 98, 97, 108, 32, 121, 32, 61, 32, 49, 59, 32, 97, 114, 114, 97, 121, 32, 109, 91, 50, 93, 59, 32, 108, 111, 99, 107, 32, 107, 59, 32, 108, 111, 99, 107, 32, 108, 59, 32, 116, 104, 114, 101, 97, 100, 32, 116, 32, 123, 32, 120, 32, 61, 32, 49, 59, 32, 125, 32, 116, 104, 114, 101, 97, 100, 32, 117, 32, 123, 32, 120, 32, 61, 32, 50, 59, 32, 125], .lst [.int .i64 (0), .int .i64 (0), .int .i64 (1)] 1 .open], .bool true), ([.str [103, 108, 111, 98, 97, 108, 32, 120, 32, 61, 32, 49, 59, 32, 103, 108, 111, 98, 97, 108, 32, 121, 32, 61, 32, 49, 59, 32, 97, 114, 114, 97, 121, 32, 109, 91, 50, 93, 59, 32, 108, 111, 99, 107, 32, 107, 59, 32, 108, 111, 99, 107, 32, 108, 59, 32, 116, 104, 114, 101, 97, 100, 32, 116, 32, 123, 32, 119, 105, 116, 104, 32, 107, 32, 123, 32, 120, 32, 61, 32, 49, 59, 32, 125, 32, 125, 32, 116, 104, 114, 101, 97, 100, 32, 117, 32, 123, 32, 119, 105, 116, 104, 32, 108, 32, 123, 32, 120, 32, 61, 32, 50, 59, 32, 125, 32, 125], .lst [.int .i64 (0), .int .i64 (0), .int .i64 (1)] 1 .open], .bool true), ([.str [103, 108, 111, 98, 97, 108, 32, 120, 32, 61, 32, 49, 59, 32, 103, 108, 111, 98, 97, 108, 32, 121, 32, 61, 32, 49, 59, 32, 97, 114, 114, 97, 121, 32, 109, 91, 50, 93, 59, 32, 108, 111, 99, 107, 32, 107, 59, 32, 108, 111, 99, 107, 32, 108, 59, 32, 116, 104, 114, 101, 97, 100, 32, 116, 32, 123, 32, 119, 105, 116, 104, 32, 107, 32, 123, 32, 119, 105, 116, 104, 32, 108, 32, 123, 32, 120, 32, 61, 32, 49, 59, 32, 125, 32, 125, 32, 125, 32, 116, 104, 114, 101, 97, 100, 32, 117, 32, 123, 32, 119, 105, 116, 104, 32, 108, 32, 123, 32, 120, 32, 61, 32, 50, 59, 32, 125, 32, 125], .lst [] 0 .nil], .bool true), ([.str [103, 108, 111, 98, 97, 108, 32, 120, 32, 61, 32, 49, 59, 32, 103, 108, 111, 98, 97, 108, 32, 121, 32, 61, 32, 49, 59, 32, 97, 114, 114, 97, 121, 32, 109, 91, 50, 93, 59, 32, 108, 111, 99, 107, 32, 107, 59, 32, 108, 111, 99, 107, 32, 108, 59, 32, 116, 104, 114, 101, 97, 100, 32, 116, 32, 123, 32, 119, 105, 116, 104, 32, 107, 32, 123, 32, 125, 32, 120, 32, 61, 32, 49, 59, 32, 125, 32, 116, 104, 114, 101, 97, 100, 32, 117, 32, 123, 32, 119, 105, 116, 104, 32, 107, 32, 123, 32, 120, 32, 61, 32, 50, 59, 32, 125, 32, 125], .lst [.int .i64 (0), .int .i64 (0), .int .i64 (1)] 1 .open], .bool true), ([.str [103, 108, 111, 98, 97, 108, 32, 120, 32, 61, 32, 49, 59, 32, 103, 108, 111, 98, 97, 108, 32, 121, 32, 61, 32, 49, 59, 32, 97, 114, 114, 97, 121, 32, 109, 91, 50, 93, 59, 32, 108, 111, 99, 107, 32, 107, 59, 32, 108, 111, 99, 107, 32, 108, 59, 32, 116, 104, 114, 101, 97, 100, 32, 116, 32, 123, 32, 109, 91, 48, 93, 32, 61, 32, 49, 59, 32, 125, 32, 116, 104, 114, 101, 97, 100, 32, 117, 32, 123, 32, 112, 114, 105, 110, 116, 32, 109, 91, 49, 93, 59, 32, 125], .lst [.int .i64 (2), .int .i64 (0), .int .i64 (1)] 1 .open], .bool true), ([.str [103, 108, 111, 98, 97, 108, 32, 120, 32, 61, 32, 49, 59, 32, 103, 108, 111, 98, 97, 108, 32, 121, 32, 61, 32, 49, 59, 32, 97, 114, 114, 97, 121, 32, 109, 91, 50, 93, 59, 32, 108, 111, 99, 107, 32, 107, 59, 32, 108, 111, 99, 107, 32, 108, 59, 32, 102, 117, 110, 99, 32, 102, 40, 41, 32, 123, 32, 120, 32, 61, 32, 49, 59, 32, 125, 32, 116, 104, 114, 101, 97, 100, 32, 116, 32, 123, 32, 119, 105, 116, 104, 32, 107, 32, 123, 32, 99, 97, 108, 108, 32, 102, 40, 41, 59, 32, 125, 32, 125, 32, 116, 104, 114, 101, 97, 100, 32, 117, 32, 123, 32, 119, 105, 116, 104, 32, 107, 32, 123, 32, 99, 97, 108, 108, 32, 102, 40, 41, 59, 32, 125, 32, 125], .lst [] 0 .nil], .bool true), ([.str [103, 108, 111, 98, 97, 108, 32, 120, 32, 61, 32, 49, 59, 32, 103, 108, 111, 98, 97, 108, 32, 121, 32, 61, 32, 49, 59, 32, 97, 114, 114, 97, 121, 32, 109, 91, 50, 93, 59, 32, 108, 111, 99, 107, 32, 107, 59, 32, 108, 111, 99, 107, 32, 108, 59, 32, 102, 117, 110, 99, 32, 102, 40, 41, 32, 123, 32, 120, 32, 61, 32, 49, 59, 32, 125, 32, 116, 104, 114, 101, 97, 100, 32, 116, 32, 123, 32, 119, 105, 116, 104, 32, 107, 32, 123, 32, 99, 97, 108, 108, 32, 102, 40, 41, 59, 32, 125, 32, 125, 32, 116, 104, 114, 101, 97, 100, 32, 117, 32, 123, 32, 99, 97, 108, 108, 32, 102, 40, 41, 59, 32, 125], .lst [.int .i64 (0), .int .i64 (0), .int .i64 (0)] 1 .open], .bool true), ([.str [103, 108, 111, 98, 97, 108, 32, 120, 32, 61, 32, 49, 59, 32, 103, 108, 111, 98, 97, 108, 32, 121, 32, 61, 32, 49, 59, 32, 97, 114, 114, 97, 121, 32, 109, 91, 50, 93, 59, 32, 108, 111, 99, 107, 32, 107, 59, 32, 108, 111, 99, 107, 32, 108, 59, 32, 102, 117, 110, 99, 32, 102, 40, 41, 32, 123, 32, 120, 32, 61, 32, 49, 59, 32, 125, 32, 102, 117, 110, 99, 32, 103, 40, 41, 32, 123, 32, 112, 114, 105, 110, 116, 32, 120, 59, 32, 125, 32, 116, 104, 114, 101, 97, 100, 32, 116, 32, 123, 32, 99, 97, 108, 108, 32, 102, 40, 41, 59, 32, 125], .lst [] 0 .nil], .bool true), ([.str [103, 108, 111, 98, 97, 108, 32, 120, 32, 61, 32, 49, 59, 32, 103, 108, 111, 98, 97, 108, 32, 121, 32, 61, 32, 49, 59, 32, 97, 114, 114, 97, 121, 32, 109, 91, 50, 93, 59, 32, 108, 111, 99, 107, 32, 107, 59, 32, 108, 111, 99, 107, 32, 108, 59, 32, 102, 117, 110, 99, 32, 102, 40, 41, 32, 123, 32, 120, 32, 61, 32, 49, 59, 32, 125, 32, 102, 117, 110, 99, 32, 103, 40, 41, 32, 123, 32, 112, 114, 105, 110, 116, 32, 120, 59, 32, 125, 32, 116, 104, 114, 101, 97, 100, 32, 116, 32, 123, 32, 99, 97, 108, 108, 32, 102, 40, 41, 59, 32, 125, 32, 116, 104, 114, 101, 97, 100, 32, 117, 32, 123, 32, 99, 97, 108, 108, 32, 103, 40, 41, 59, 32, 125], .lst [.int .i64 (0), .int .i64 (0), .int .i64 (1)] 1 .open], .bool true), ([.str [103, 108, 111, 98, 97, 108, 32, 120, 32, 61, 32, 49, 59, 32, 103, 108, 111, 98, 97, 108, 32, 121, 32, 61, 32, 49, 59, 32, 97, 114, 114, 97, 121, 32, 109, 91, 50, 93, 59, 32, 108, 111, 99, 107, 32, 107, 59, 32, 108, 111, 99, 107, 32, 108, 59, 32, 102, 117, 110, 99, 32, 102, 40, 41, 32, 123, 32, 120, 32, 61, 32, 49, 59, 32, 125, 32, 116, 104, 114, 101, 97, 100, 32, 116, 32, 123, 32, 99, 97, 108, 108, 32, 102, 40, 41, 59, 32, 120, 32, 61, 32, 50, 59, 32, 125], .lst [] 0 .nil], .bool true), ([.str [103, 108, 111, 98, 97, 108, 32, 120, 32, 61, 32, 49, 59, 32, 103, 108, 111, 98, 97, 108, 32, 121, 32, 61, 32, 49, 59, 32, 97, 114, 114, 97, 121, 32, 109, 91, 50, 93, 59, 32, 108, 111, 99, 107, 32, 107, 59, 32, 108, 111, 99, 107, 32, 108, 59, 32, 116, 104, 114, 101, 97, 100, 32, 116, 32, 123, 32, 120, 32, 61, 32, 49, 59, 32, 125, 32, 116, 104, 114, 101, 97, 100, 32, 117, 32, 123, 32, 120, 32, 61, 32, 50, 59, 32, 125, 32, 116, 104, 114, 101, 97, 100, 32, 118, 32, 123, 32, 112, 114, 105, 110, 116, 32, 120, 59, 32, 125], .lst [.int .i64 (0), .int .i64 (0), .int .i64 (1), .int .i64 (0), .int .i64 (0), .int .i64 (2), .int .i64 (0), .int .i64 (1), .int .i64 (2)] 1 .open], .bool true), ([.str [103, 108, 111, 98, 97, 108, 32, 120, 32, 61, 32, 49, 59, 32, 103, 108, 111, 98, 97, 108, 32, 121, 32, 61, 32, 49, 59, 32, 97, 114, 114, 97, 121, 32, 109, 91, 50, 93, 59, 32, 108, 111, 99, 107, 32, 107, 59, 32, 108, 111, 99, 107, 32, 108, 59, 32, 116, 104, 114, 101, 97, 100, 32, 116, 32, 123, 32, 121, 32, 61, 32, 120, 59, 32, 125, 32, 116, 104, 114, 101, 97, 100, 32, 117, 32, 123, 32, 120, 32, 61, 32, 121, 59, 32, 125], .lst [.int .i64 (0), .int .i64 (0), .int .i64 (1), .int .i64 (1), .int .i64 (0), .int .i64 (1)] 1 .open], .bool true), ([.str [103, 108, 111, 98, 97, 108, 32, 120, 32, 61, 32, 49, 59, 32, 103, 108, 111, 98, 97, 108, 32, 121, 32, 61, 32, 49, 59, 32, 97, 114, 114, 97, 121, 32, 109, 91, 50, 93, 59, 32, 108, 111, 99, 107, 32, 107, 59, 32, 108, 111, 99, 107, 32, 108, 59, 32, 116, 104, 114, 101, 97, 100, 32, 116, 32, 123, 32, 105, 102, 32, 120, 32, 60, 32, 49, 32, 123, 32, 119, 105, 116, 104, 32, 108, 32, 123, 32, 121, 32, 61, 32, 49, 59, 32, 125, 32, 125, 32, 125, 32, 116, 104, 114, 101, 97, 100, 32, 117, 32, 123, 32, 119, 105, 116, 104, 32, 108, 32, 123, 32, 112, 114, 105, 110, 116, 32, 121, 59, 32, 125, 32, 125], .lst [] 0 .nil], .bool true)]
noncomputable def stepsE : Taken := fun f => match f with
  | 20 => some (tabRF tellRows, tabR tellRows)
  | f => stepsB f
noncomputable def toldE : RvTold := { told0 with prim := layPrim stepsE wholesD }
theorem plainlyE : Plainly (toldE.cfg Tryz.prog) := ⟨fun _ => rfl, fun _ => rfl, fun _ _ => rfl⟩
def lawLaid : List (String × DataW Unit) := Rows.racesNamesRow.laid
theorem ownKnob0 : ownKnob Tryz.prog.godebug = none := by kernel_rfl
theorem mixed0 : Tryz.prog.follows .mixedOrders = true := by kernel_rfl
theorem stepsA_twins : ∀ f q p, stepsA f = some (q, p) → TwinP q p := fun f q p h => by
  unfold stepsA at h
  split at h <;> first | (cases h; done) | skip
  · injection h with h; injection h with h1 h2; subst h1 h2; exact sel_twin (sortedM_twin _) (sortedM_twin _)
  · injection h with h; injection h with h1 h2; subst h1 h2; exact sortStr_twin
  · injection h with h; injection h with h1 h2; subst h1 h2; exact clone_twin
  · injection h with h; injection h with h1 h2; subst h1 h2; exact clone_twin
  · injection h with h; injection h with h1 h2; subst h1 h2; exact clone_twin
  · injection h with h; injection h with h1 h2; subst h1 h2; exact copy_twin
  · injection h with h; injection h with h1 h2; subst h1 h2; exact strike_twin _
theorem stepsA_ok {C : Cfg} : ∀ f q p, stepsA f = some (q, p) → Known Tryz.prog f ∧ ∀ args h res h', p args h = some (res, h') → ∀ s w vs, Rel s h w → Glob C s h w → VRs s h w args vs → CallOk Tryz.prog f vs s h w res h' := fun f q p h => by
  unfold stepsA at h
  split at h <;> first | (cases h; done) | skip
  · injection h with h; injection h with h1 h2; subst h1 h2
    exact ⟨⟨_, _, Tryz.func194, rfl, by kernel_rfl⟩, fun args h res h' hc s w vs R _ H => (sel_of hc).elim (fun hc => sortedKeysM_ok Tryz.sortedSays (by kernel_rfl) hc R H) (fun hc => sortedKeysM_ok Tryz.sortedSaysC (by kernel_rfl) hc R H)⟩
  · injection h with h; injection h with h1 h2; subst h1 h2
    exact ⟨⟨_, _, Tryz.func183, rfl, by kernel_rfl⟩, fun args h res h' hc s w vs R _ H => sortStr_ok Tryz.strSays hc R H⟩
  · injection h with h; injection h with h1 h2; subst h1 h2
    exact ⟨⟨_, _, Tryz.func139, rfl, by kernel_rfl⟩, fun args h res h' hc s w vs R _ H => cloneMap_ok Tryz.cloneSays hc R H⟩
  · injection h with h; injection h with h1 h2; subst h1 h2
    exact ⟨⟨_, _, Tryz.func224, rfl, by kernel_rfl⟩, fun args h res h' hc s w vs R _ H => cloneMap_ok Tryz.cloneSaysB hc R H⟩
  · injection h with h; injection h with h1 h2; subst h1 h2
    exact ⟨⟨_, _, Tryz.func289, rfl, by kernel_rfl⟩, fun args h res h' hc s w vs R _ H => cloneMap_ok Tryz.cloneSaysC hc R H⟩
  · injection h with h; injection h with h1 h2; subst h1 h2
    exact ⟨⟨_, _, Tryz.func219, rfl, by kernel_rfl⟩, fun args h res h' hc s w vs R _ H => copyMap_ok Tryz.copySays (by kernel_rfl) hc R H⟩
  · injection h with h; injection h with h1 h2; subst h1 h2
    exact ⟨⟨_, _, Tryz.func221, rfl, by kernel_rfl⟩, fun args h res h' hc s w vs R _ H => strikeMap_ok Tryz.strikeSays (by kernel_rfl) hc R H⟩
theorem prims0 : PrimOk Tryz.prog (told0.cfg Tryz.prog) := prims_of (S := stepsA) rfl (fun _ => rfl) stepsA_ok
theorem plainly0 : Plainly (told0.cfg Tryz.prog) := ⟨fun _ => rfl, fun _ => rfl, fun _ _ => rfl⟩
theorem plainlyB : Plainly (toldB.cfg Tryz.prog) := ⟨fun _ => rfl, fun _ => rfl, fun _ _ => rfl⟩
theorem plainlyC : Plainly (toldC.cfg Tryz.prog) := ⟨fun _ => rfl, fun _ => rfl, fun _ _ => rfl⟩
theorem plainlyD : Plainly (toldD.cfg Tryz.prog) := ⟨fun _ => rfl, fun _ => rfl, fun _ _ => rfl⟩
theorem glb_close : ∀ g v, glb g = some v → ∀ h, freezeV h 0 40 v = some v := fun g v hg h => by
  unfold glb at hg
  split at hg <;> first | (cases hg; done) | skip
  · injection hg with hg; subst hg; exact congrFun (show (fun h => freezeV h 0 40 (.ref (litAV 5 Rows.laid_bobbin_lex_signs))) = (fun h => some (.ref (litAV 5 Rows.laid_bobbin_lex_signs))) by kernel_rfl) h
  · injection hg with hg; subst hg; exact congrFun (show (fun h => freezeV h 0 40 (.ref (litAV 5 Rows.laid_bobbin_tree_reserved))) = (fun h => some (.ref (litAV 5 Rows.laid_bobbin_tree_reserved))) by kernel_rfl) h
  · injection hg with hg; subst hg; exact congrFun (show (fun h => freezeV h 0 40 (.ref (litAV 5 Rows.laid_bobbin_tree_stmts))) = (fun h => some (.ref (litAV 5 Rows.laid_bobbin_tree_stmts))) by kernel_rfl) h
  · injection hg with hg; subst hg; exact congrFun (show (fun h => freezeV h 0 40 (.ref (litAV 5 Rows.laid_bobbin_tree_exprs))) = (fun h => some (.ref (litAV 5 Rows.laid_bobbin_tree_exprs))) by kernel_rfl) h
  · injection hg with hg; subst hg; exact congrFun (show (fun h => freezeV h 0 40 (.ref (litAV 5 Rows.laid_bobbin_code_ops))) = (fun h => some (.ref (litAV 5 Rows.laid_bobbin_code_ops))) by kernel_rfl) h
theorem glb_still : ∀ g v, glb g = some v → v.still = true := fun g v hg => by
  unfold glb at hg
  split at hg <;> first | (cases hg; done) | skip
  · injection hg with hg; subst hg; exact (show (AV.ref (litAV 5 Rows.laid_bobbin_lex_signs)).still = true by kernel_rfl)
  · injection hg with hg; subst hg; exact (show (AV.ref (litAV 5 Rows.laid_bobbin_tree_reserved)).still = true by kernel_rfl)
  · injection hg with hg; subst hg; exact (show (AV.ref (litAV 5 Rows.laid_bobbin_tree_stmts)).still = true by kernel_rfl)
  · injection hg with hg; subst hg; exact (show (AV.ref (litAV 5 Rows.laid_bobbin_tree_exprs)).still = true by kernel_rfl)
  · injection hg with hg; subst hg; exact (show (AV.ref (litAV 5 Rows.laid_bobbin_code_ops)).still = true by kernel_rfl)
theorem glb_ne : ∀ g v, glb g = some v → v ≠ .junk := fun g v hg => by
  unfold glb at hg
  split at hg <;> first | (cases hg; done) | skip
  · injection hg with hg; subst hg; intro h; cases h
  · injection hg with hg; subst hg; intro h; cases h
  · injection hg with hg; subst hg; intro h; cases h
  · injection hg with hg; subst hg; intro h; cases h
  · injection hg with hg; subst hg; intro h; cases h
theorem glb_laid {w : World} (hL : laidMetH Tryz.prog lawLaid w) : ∀ g v, glb g = some v → v ≠ .junk ∧ VR (old w) [] w v (.pointer (some ⟨g, 0, none⟩)) := fun g v hg => by
  rw [MakeChecks.laidMetH_plain _ _ _ (by kernel_rfl)] at hL
  obtain ⟨ps, ⟨_, _, _, _, _, _, _, _, _, _, ⟨_, _, _, _, _, _, _, _, _, _, ⟨_, _, _, _, _, _, _, _, _, _, ⟨_, _, _, _, _, _, _, _, _, _, ⟨_, _, _, _, _, _, _, _, _, _, ⟨_, _, _, _, _, _, _, _, _, _, ⟨g0, t0, cs0, fuel0, p0, q0, hg0, ht0, hv0, hd0, ⟨g1, t1, cs1, fuel1, p1, q1, hg1, ht1, hv1, hd1, ⟨g3, t3, cs3, fuel3, p3, q3, hg3, ht3, hv3, hd3, ⟨g2, t2, cs2, fuel2, p2, q2, hg2, ht2, hv2, hd2, ⟨g4, t4, cs4, fuel4, p4, q4, hg4, ht4, hv4, hd4, _, _⟩, _⟩, _⟩, _⟩, _⟩, _⟩, _⟩, _⟩, _⟩, _⟩, _⟩, _, _⟩ := hL
  unfold glb at hg
  split at hg <;> first | (cases hg; done) | skip
  · injection hg with hg; subst hg
    obtain rfl := Option.some.inj ((show Tryz.prog.globalNamed (lawLaid.getD 6 default).1 = some 0 by kernel_rfl).symm.trans hg0)
    exact glob_rel hg0 hv0 hd0 (by obtain rfl := Option.some.inj (ht0.symm.trans (show (Tryz.prog.globals[0]?).map (·.type) = some 242 by kernel_rfl)); kernel_rfl)
  · injection hg with hg; subst hg
    obtain rfl := Option.some.inj ((show Tryz.prog.globalNamed (lawLaid.getD 7 default).1 = some 1 by kernel_rfl).symm.trans hg1)
    exact glob_rel hg1 hv1 hd1 (by obtain rfl := Option.some.inj (ht1.symm.trans (show (Tryz.prog.globals[1]?).map (·.type) = some 296 by kernel_rfl)); kernel_rfl)
  · injection hg with hg; subst hg
    obtain rfl := Option.some.inj ((show Tryz.prog.globalNamed (lawLaid.getD 9 default).1 = some 2 by kernel_rfl).symm.trans hg2)
    exact glob_rel hg2 hv2 hd2 (by obtain rfl := Option.some.inj (ht2.symm.trans (show (Tryz.prog.globals[2]?).map (·.type) = some 300 by kernel_rfl)); kernel_rfl)
  · injection hg with hg; subst hg
    obtain rfl := Option.some.inj ((show Tryz.prog.globalNamed (lawLaid.getD 8 default).1 = some 3 by kernel_rfl).symm.trans hg3)
    exact glob_rel hg3 hv3 hd3 (by obtain rfl := Option.some.inj (ht3.symm.trans (show (Tryz.prog.globals[3]?).map (·.type) = some 344 by kernel_rfl)); kernel_rfl)
  · injection hg with hg; subst hg
    obtain rfl := Option.some.inj ((show Tryz.prog.globalNamed (lawLaid.getD 10 default).1 = some 4 by kernel_rfl).symm.trans hg4)
    exact glob_rel hg4 hv4 hd4 (by obtain rfl := Option.some.inj (ht4.symm.trans (show (Tryz.prog.globals[4]?).map (·.type) = some 351 by kernel_rfl)); kernel_rfl)
theorem law_no_args {H : Type} {enc : TypeId × Value → H} {W : World} {vs : List Value} {ds : List (DataW H)} {p : List MemPlace} (h : DataW.TrodAll enc Tryz.prog W 0 (fun _ => true) true [] vs ds p) : vs = [] ∧ ds = [] ∧ p = [] := by
  cases vs with
  | nil => cases ds with
    | nil => exact ⟨rfl, rfl, by simpa [DataW.TrodAll] using h⟩
    | cons => simp [DataW.TrodAll] at h
  | cons => simp [DataW.TrodAll] at h
end
end Go.Proofs.YtfdcbnhndpkngaaGreatDoor
