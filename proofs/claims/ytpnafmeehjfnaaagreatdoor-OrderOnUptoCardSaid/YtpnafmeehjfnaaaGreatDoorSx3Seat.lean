/-
  What the interpreter is told at this program, for going through its code with open values: types, functions.
-/
import Derived.Test.YtpnafmeehjfnaaaGreatDoorSxCore
import Derived.Test.YtpnafmeehjfnaaaGreatDoorHdTab
import Derived.Test.YtpnafmeehjfnaaaGreatDoorProg
import Derived.KernelRfl
set_option linter.unusedSectionVars false
set_option linter.defProp false
set_option linter.unusedSimpArgs false
set_option linter.unusedVariables false
set_option maxRecDepth 100000
namespace Go.Proofs.Sx
open Go.Rv Go.Proofs
noncomputable section
def im (f t : Nat) : Bool := match f with
  | 5 => match t with | 60 => true | 69 => true | _ => false
  | 6 => match t with | 33 => true | _ => false
  | 7 => match t with | 39 => true | _ => false
  | 8 => match t with | 1 => true | 38 => true | _ => false
  | 15 => match t with | 1 => true | 56 => true | _ => false
  | 16 => match t with | 3 => true | 41 => true | _ => false
  | 18 => match t with | 3 => true | 73 => true | _ => false
  | 22 => match t with | 79 => true | _ => false
  | 23 => match t with | 1 => true | _ => false
  | 24 => match t with | 1 => true | 25 => true | 40 => true | _ => false
  | 26 => match t with | 1 => true | 18 => true | _ => false
  | 27 => match t with | 4 => true | 5 => true | 35 => true | 42 => true | 70 => true | _ => false
  | 28 => match t with | 2 => true | _ => false
  | 31 => match t with | 2 => true | 3 => true | _ => false
  | 36 => match t with | 2 => true | _ => false
  | 40 => match t with | 41 => true | _ => false
  | 41 => match t with | 1 => true | 18 => true | 35 => true | _ => false
  | 42 => match t with | 1 => true | 18 => true | _ => false
  | 44 => match t with | 1 => true | _ => false
  | 46 => match t with | 2 => true | _ => false
  | 47 => match t with | 2 => true | 3 => true | _ => false
  | 48 => match t with | 1 => true | 37 => true | _ => false
  | 50 => match t with | 2 => true | 3 => true | _ => false
  | 54 => match t with | 4 => true | 5 => true | _ => false
  | 55 => match t with | 2 => true | 3 => true | _ => false
  | 72 => match t with | 3 => true | _ => false
  | 73 => match t with | 3 => true | 4 => true | 5 => true | _ => false
  | 106 => match t with | 1 => true | _ => false
  | 107 => match t with | 2 => true | 3 => true | _ => false
  | 108 => match t with | 2 => true | _ => false
  | 109 => match t with | 4 => true | 5 => true | 6 => true | 7 => true | _ => false
  | 110 => match t with | 1 => true | 27 => true | 34 => true | _ => false
  | 111 => match t with | 1 => true | _ => false
  | 113 => match t with | 10 => true | _ => false
  | 140 => match t with | 1 => true | _ => false
  | _ => false
def pu (f : Nat) : Bool := match f with
  | 8 => false
  | 25 => false
  | 27 => false
  | 28 => false
  | 30 => false
  | 37 => false
  | 38 => false
  | 49 => false
  | 51 => false
  | 52 => false
  | 53 => false
  | 54 => false
  | 57 => false
  | 63 => false
  | 64 => false
  | 65 => false
  | 75 => false
  | 77 => false
  | 81 => false
  | 113 => false
  | 134 => false
  | 141 => false
  | 152 => false
  | _ => true
def lv (f r : Nat) : Option (List Nat) := match f with
  | 2 => some []
  | 3 => some [0, 1, 3, 4, 5, 6, 7, 8, 9, 49]
  | 4 => some [0, 2, 4, 6, 8, 10, 11, 12]
  | 5 => some [0, 1, 2, 3, 4, 5, 12, 13, 14, 20, 38, 46, 50]
  | 6 => some [0, 1, 4, 5, 6, 7, 8, 9, 10, 11, 12, 19, 25, 58, 60, 67, 79, 83, 98]
  | 7 => some [0, 1, 2, 3, 4, 10, 11, 12, 13, 14, 15, 16, 17, 18, 19, 26, 31, 42, 66, 70, 82, 89]
  | 8 => some [0, 1, 2, 3, 4, 5, 6, 7, 8, 10, 13, 20, 28, 29, 30, 44, 47, 48, 49, 64, 65, 66, 67]
  | 9 => some [0, 1, 2, 6, 8, 10]
  | 10 => some [0, 1, 2, 6, 11]
  | 11 => some [0, 1, 2, 6, 11]
  | 12 => some [0, 1, 4, 19]
  | 13 => some [0, 1, 4, 5, 6, 13]
  | 14 => some [0, 1, 2, 3]
  | 15 => some [0, 1, 2, 3, 4, 5, 6, 7, 8, 9, 10, 12, 19, 22, 23, 24, 25, 30, 31, 32, 33, 39, 43, 44, 45, 46]
  | 16 => some [0, 1, 3, 4, 5, 6, 7, 9, 10, 22, 25, 26, 27, 28, 46, 47, 48]
  | 17 => some [0, 1, 4, 5, 10, 14, 25]
  | 18 => some [0, 1, 2, 3, 6, 7, 8, 9, 10, 11, 13, 24, 32, 47, 48, 49, 50, 53, 57]
  | 19 => some [0, 1, 2, 3, 4, 5]
  | 20 => some [0, 2, 3, 6, 10, 18]
  | 21 => some [0, 1, 4, 5, 6, 7, 13, 19, 53]
  | 22 => some [0, 1, 2, 6, 7, 8, 9, 10, 11, 29, 37, 49, 73]
  | 23 => some [0, 1, 2, 16]
  | 24 => some [0, 1, 2, 3, 4, 6, 7, 8, 9, 10, 11, 14, 16, 17, 18, 19, 29, 30, 31]
  | 25 => some [0, 1, 4, 5, 6, 7, 27, 29, 63]
  | 26 => some [0, 1, 2, 3, 4, 5, 7, 8, 9, 10, 15]
  | 27 => some [0, 1, 2, 4, 5, 6, 7, 8, 9, 21, 63]
  | 28 => some [0, 1, 2, 4, 5, 6, 7, 8, 9, 15, 66, 88, 89]
  | 29 => some [0, 2]
  | 30 => some [0, 1, 4]
  | 31 => some [0, 1, 2, 3, 4]
  | 32 => some [0, 2, 3, 5, 6, 7, 8, 9, 14]
  | 33 => some [0, 1, 4, 5, 6, 11, 12, 13, 16, 19]
  | 34 => some [0, 1, 3]
  | 35 => some [0, 1, 4]
  | 36 => some [0, 1, 2, 3]
  | 37 => some [0, 2]
  | 38 => some [0, 2, 3, 4, 5, 8, 13, 25, 32, 44]
  | 39 => some [0, 1, 3]
  | 40 => some [0, 1, 4, 5, 6, 18, 32]
  | 41 => some [0, 1, 2, 3, 5, 7, 9, 10, 11, 12, 26, 27, 28, 29]
  | 42 => some [0, 1, 2, 3, 4, 5, 7, 8, 9, 10, 15]
  | 43 => some [0, 1, 4]
  | 44 => some [0, 1, 2]
  | 45 => some [0, 1, 4]
  | 46 => some [0, 1, 2, 3]
  | 47 => some [0, 1, 2, 3, 4, 5, 6, 46, 59]
  | 48 => some [0, 1, 2, 3, 4, 6, 7, 8, 17, 18, 19, 20, 30]
  | 49 => some [0, 1, 2, 3, 4, 7, 11, 26, 27, 28, 29]
  | 50 => some [0, 1, 2, 3, 4]
  | 51 => some [0, 1, 4, 5]
  | 52 => some [0, 2, 4]
  | 53 => some [0, 1, 3, 4, 5]
  | 54 => some [0, 1, 2, 4, 5, 6, 7, 8, 10, 21, 22, 30, 38, 47, 48, 49, 50]
  | 55 => some [0, 1, 2, 3, 4]
  | 56 => some [0, 2, 3]
  | 57 => some [0, 1, 2]
  | 58 => some [0, 1, 2, 3, 4, 10, 11, 12, 13, 14, 15, 16, 17, 18, 19, 20, 25, 32, 39, 56, 75, 80, 97, 125]
  | 59 => some [0, 2]
  | 60 => some [0, 2]
  | 61 => some [0, 1, 4, 5, 7, 8, 9, 16]
  | 62 => some [0, 1, 2, 3, 8, 9, 10, 11, 12, 13, 14, 15, 16, 17, 18, 23, 29, 35, 50, 68, 72, 87, 113]
  | 63 => some [0, 2]
  | 64 => some [0, 2, 3, 4, 5, 8, 13, 25, 32, 44]
  | 65 => some [0, 2, 4]
  | 66 => some [0, 1, 4]
  | 67 => some [0, 2]
  | 68 => some [0, 2, 24]
  | 69 => some [0, 1, 4, 5, 7, 8, 9, 16]
  | 70 => some [0, 1, 4, 5, 7, 8, 9, 16]
  | 71 => some [0, 1, 4]
  | 72 => some [0, 1, 2, 3, 4]
  | 73 => some [0, 1, 2, 3, 4, 5, 6, 7, 8, 9, 10, 11, 34, 36, 37, 45]
  | 74 => some [0, 1, 4, 5]
  | 75 => some [0, 1, 4, 5, 7, 9]
  | 77 => some [0, 1, 4, 5, 7, 9, 16]
  | 78 => some [0, 2, 5]
  | 79 => some [0, 1, 2, 4, 23, 31]
  | 80 => some [0, 2]
  | 81 => some [0, 1, 3, 5, 7, 13]
  | 82 => some [0, 1, 2, 3, 8, 9, 14, 34]
  | 83 => some [0, 1, 2, 3, 8, 9, 10, 11, 12, 21, 33]
  | 84 => some [0, 1, 2, 8, 9, 10, 11, 12, 17, 35, 45]
  | 85 => some [0, 1, 2, 3, 8, 9, 10, 11, 12, 13, 14, 34, 36, 55, 57, 60]
  | 86 => some [0, 1, 2, 8, 9, 15]
  | 87 => some [0, 1, 2, 3, 8, 9, 10, 11, 12, 16, 36, 41, 45, 65, 69, 84, 104, 109, 124]
  | 88 => some [0, 1, 2, 3, 4, 10, 11, 12, 47, 65, 70]
  | 89 => some [0, 1, 2, 3, 4, 10, 11, 12, 13, 47, 66, 71, 120, 139, 144]
  | 90 => some [0, 2, 4, 8]
  | 91 => some [0, 2, 4, 8, 14]
  | 92 => some [0, 1, 2, 6, 7, 12, 30]
  | 93 => some [0, 1, 2, 6, 7, 8, 9, 10, 19, 30]
  | 94 => some [0, 1, 2, 6, 7, 8, 9, 10, 15, 33, 43]
  | 95 => some [0, 1, 2, 6, 7, 8, 9, 10, 11, 12, 32, 34, 49, 51, 54]
  | 96 => some [0, 1, 2, 6, 7, 13]
  | 97 => some [0, 1, 2, 6, 7, 8, 9, 10, 14, 32, 37, 41, 61, 65, 78, 98, 103, 116]
  | 98 => some [0, 1, 4]
  | 99 => some [0, 1, 2, 3, 8, 9, 10, 43, 59, 64]
  | 100 => some [0, 1, 2, 3, 8, 9, 10, 11, 43, 60, 65, 112, 129, 134]
  | 101 => some [0, 1, 2, 3, 8, 9, 10, 11, 12, 13, 14, 15, 16, 17, 18, 23, 29, 35, 50, 68, 72, 87, 113]
  | 102 => some [0, 1, 4, 5, 7, 8, 9, 16]
  | 103 => some [0, 1, 4]
  | 104 => some [0, 1, 4, 5, 6, 12, 21, 34]
  | 105 => some [0, 1, 4, 5, 7, 8, 9, 16]
  | 106 => some [0, 1, 2, 3, 12]
  | 107 => some [0, 1, 2, 3, 4]
  | 108 => some [0, 1, 2, 3, 4, 7, 10, 13, 17, 21]
  | 109 => some [0, 1, 2, 3, 4, 5, 6, 7, 8, 9, 13, 14, 22, 30, 41, 52, 63]
  | 110 => some [0, 1, 2, 3, 5, 23, 30, 38]
  | 111 => some [0, 1, 2, 3, 4, 5, 15]
  | 112 => some [0, 2, 3, 5, 6, 8, 9, 10, 11, 12, 20, 25, 26, 27, 28]
  | 113 => some [0, 1, 2, 4, 5, 6, 7]
  | 114 => some [0, 1, 2, 3, 4, 10, 11, 18, 40, 58]
  | 115 => some [0, 2]
  | 116 => some [0, 2]
  | 117 => some [0, 1, 2, 3, 8]
  | 118 => some [0, 1, 2, 3, 4, 5, 12]
  | 119 => some [0, 1, 2, 3, 8, 9, 16, 36, 52]
  | 120 => some [0, 1, 2, 6]
  | 121 => some [0, 1, 2, 3, 4, 10]
  | 122 => some [0, 1, 2, 6, 7, 12, 30]
  | 123 => some [0, 1, 2, 6, 7, 8, 9, 10, 19, 30]
  | 124 => some [0, 1, 2, 6, 7, 8, 9, 10, 15, 33, 43]
  | 125 => some [0, 1, 2, 6, 7, 8, 9, 10, 11, 12, 32, 34, 49, 51, 54]
  | 126 => some [0, 1, 2, 6, 7, 13]
  | 127 => some [0, 1, 2, 6, 7, 8, 9, 10, 14, 32, 37, 41, 61, 65, 78, 98, 103, 116]
  | 128 => some [0, 1, 4]
  | 129 => some [0, 1, 2, 3, 8, 9, 10, 43, 59, 64]
  | 130 => some [0, 1, 2, 3, 8, 9, 10, 11, 43, 60, 65, 112, 129, 134]
  | 131 => some [0, 1, 4, 5, 7, 8, 9, 16]
  | 132 => some [0, 1, 4, 13]
  | 133 => some [0, 1, 4, 16]
  | 134 => some [0, 2, 3, 4, 5, 9, 16]
  | 135 => some [0, 1, 4, 7, 12]
  | 136 => some [0, 1, 4, 7, 15]
  | 137 => some [0, 1, 4, 5, 6, 9, 18]
  | 138 => some [0, 1, 4, 5, 6, 9, 17, 26]
  | 139 => some [0, 1, 4, 5, 10, 12, 13, 14, 24]
  | 140 => some [0, 1, 2]
  | 141 => some [0, 1, 4, 6, 16]
  | 142 => some [0, 1, 2, 3, 4, 10, 11, 22]
  | 143 => some [0, 1, 2, 3, 8, 9, 18]
  | 144 => some [0, 1, 2, 3, 8, 9, 16, 36, 52]
  | 145 => some [0, 1, 2, 6]
  | 146 => some [0, 1, 2, 3, 4, 10]
  | 147 => some [0, 2]
  | 148 => some [0, 1, 4]
  | 149 => some [0, 2, 3, 10]
  | 150 => some [0, 1, 4]
  | 151 => some [0, 2, 3, 4, 5, 6, 10, 18, 27, 33, 35, 48]
  | 152 => some [0, 1, 4, 5, 6, 7, 8, 14]
  | 153 => some [0, 1, 2, 3, 8, 9, 18]
  | 154 => some [0, 2, 3, 4, 5, 6, 7, 8, 9, 10, 11, 12, 16, 23, 45, 57, 59, 75, 77, 98]
  | 155 => some [0, 1, 4, 5, 6, 7, 8, 9, 10, 11, 12, 13, 14, 15, 16, 26, 33, 43, 51, 64, 98, 108, 124, 139, 143, 156, 160, 171, 175, 176, 177, 181, 183]
  | 156 => some [0, 2]
  | 157 => some [0, 1, 4]
  | 158 => some [0, 2, 3, 10]
  | 159 => some [0, 2]
  | 161 => some [0, 1, 4]
  | 187 => some []
  | _ => none
def lo (f t : Nat) : List Nat := match f with
  | _ => []

/-- The variables that the rows list, as the closed texts tell them. -/
@[reducible] noncomputable def glb : Nat → Option AV := Go.Proofs.YtpnafmeehjfnaaaGreatDoor.glb
def prm (f : Nat) : Option (List AV → Heap → Option (CRes × Heap)) := none

def told : RvTold := { pure := pu, imm := im, live := lv, glob := glb, prim := prm, loose := lo }
def cfg : Cfg := told.cfg Tryz.prog
def cfg0 : Cfg := told.bare Tryz.prog
instance : NoAlone cfg := ⟨fun _ => rfl⟩
instance : NoRounds cfg := ⟨fun _ => rfl⟩
theorem qt_eq (f t : Nat) : cfg.quiet f t = false := rfl
theorem fnat {f : Nat} {fn : Func} {b : Code} (h1 : Tryz.prog.funcs[f]? = some fn) (h2 : fn.body = some b) (h3 : okB cfg0 f fn b = true) : cfg.fn f = some ⟨fn.params.size + fn.nfree, fn.results.toList, b⟩ := fn_of (T := told) h1 h2 h3
theorem ty1 : cfg.ty 1 = some ⟨.func, 1, 8, [.nilFunc]⟩ := by kernel_rfl
theorem ty2 : cfg.ty 2 = some ⟨.int .i64, 1, 8, [.int .i64 0]⟩ := by kernel_rfl
theorem ty3 : cfg.ty 3 = some ⟨.int .i64, 1, 8, [.int .i64 0]⟩ := by kernel_rfl
theorem ty4 : cfg.ty 4 = some ⟨.bool, 1, 1, [.bool false]⟩ := by kernel_rfl
theorem ty5 : cfg.ty 5 = some ⟨.int .u8, 1, 1, [.int .u8 0]⟩ := by kernel_rfl
theorem ty6 : cfg.ty 6 = some ⟨.int .u8, 1, 1, [.int .u8 0]⟩ := by kernel_rfl
theorem ty7 : cfg.ty 7 = some ⟨.struct [(2, 0), (3, 1), (4, 2), (6, 3)], 4, 24, [.int .i64 0, .int .i64 0, .bool false, .int .u8 0]⟩ := by kernel_rfl
theorem ty8 : cfg.ty 8 = some ⟨.struct [(2, 0), (3, 1), (4, 2), (6, 3)], 4, 24, [.int .i64 0, .int .i64 0, .bool false, .int .u8 0]⟩ := by kernel_rfl
theorem ty9 : cfg.ty 9 = some ⟨.str, 1, 16, [.str []]⟩ := by kernel_rfl
theorem ty10 : cfg.ty 10 = some ⟨.str, 1, 16, [.str []]⟩ := by kernel_rfl
theorem ty11 : cfg.ty 11 = some ⟨.str, 1, 16, [.str []]⟩ := by kernel_rfl
theorem ty12 : cfg.ty 12 = some ⟨.int .u64, 1, 8, [.int .u64 0]⟩ := by kernel_rfl
theorem ty13 : cfg.ty 13 = some ⟨.struct [(9, 0), (12, 1)], 2, 24, [.str [], .int .u64 0]⟩ := by kernel_rfl
theorem ty14 : cfg.ty 14 = some ⟨.struct [(9, 0), (12, 1)], 2, 24, [.str [], .int .u64 0]⟩ := by kernel_rfl
theorem ty15 : cfg.ty 15 = some ⟨.ptr, 1, 8, [.nilPtr]⟩ := by kernel_rfl
theorem ty16 : cfg.ty 16 = some ⟨.ptr, 1, 8, [.nilPtr]⟩ := by kernel_rfl
theorem ty17 : cfg.ty 17 = some ⟨.ptr, 1, 8, [.nilPtr]⟩ := by kernel_rfl
theorem ty18 : cfg.ty 18 = some ⟨.struct [(17, 0)], 1, 8, [.nilPtr]⟩ := by kernel_rfl
theorem ty19 : cfg.ty 19 = some ⟨.struct [(17, 0)], 1, 8, [.nilPtr]⟩ := by kernel_rfl
theorem ty20 : cfg.ty 20 = some ⟨.iface, 1, 16, [.nilIface]⟩ := by kernel_rfl
theorem ty21 : cfg.ty 21 = some ⟨.int .i32, 1, 4, [.int .i32 0]⟩ := by kernel_rfl
theorem ty22 : cfg.ty 22 = some ⟨.ptr, 1, 8, [.nilPtr]⟩ := by kernel_rfl
theorem ty23 : cfg.ty 23 = some ⟨.int .i64, 1, 8, [.int .i64 0]⟩ := by kernel_rfl
theorem ty25 : cfg.ty 25 = some ⟨.func, 1, 8, [.nilFunc]⟩ := by kernel_rfl
theorem ty26 : cfg.ty 26 = some ⟨.slice 36, 1, 24, [.lst [] 0 .nil]⟩ := by kernel_rfl
theorem ty27 : cfg.ty 27 = some ⟨.struct [(9, 0), (4, 1), (3, 2), (3, 3), (26, 4)], 5, 64, [.str [], .bool false, .int .i64 0, .int .i64 0, .lst [] 0 .nil]⟩ := by kernel_rfl
theorem ty28 : cfg.ty 28 = some ⟨.struct [(9, 0), (4, 1), (3, 2), (3, 3), (26, 4)], 5, 64, [.str [], .bool false, .int .i64 0, .int .i64 0, .lst [] 0 .nil]⟩ := by kernel_rfl
theorem ty29 : cfg.ty 29 = some ⟨.slice 28, 1, 24, [.lst [] 0 .nil]⟩ := by kernel_rfl
theorem ty30 : cfg.ty 30 = some ⟨.slice 95, 1, 24, [.lst [] 0 .nil]⟩ := by kernel_rfl
theorem ty31 : cfg.ty 31 = some ⟨.slice 9, 1, 24, [.lst [] 0 .nil]⟩ := by kernel_rfl
theorem ty32 : cfg.ty 32 = some ⟨.struct [(30, 0), (31, 1), (29, 2)], 3, 72, [.lst [] 0 .nil, .lst [] 0 .nil, .lst [] 0 .nil]⟩ := by kernel_rfl
theorem ty33 : cfg.ty 33 = some ⟨.struct [(30, 0), (31, 1), (29, 2)], 3, 72, [.lst [] 0 .nil, .lst [] 0 .nil, .lst [] 0 .nil]⟩ := by kernel_rfl
theorem ty34 : cfg.ty 34 = some ⟨.slice 3, 1, 24, [.lst [] 0 .nil]⟩ := by kernel_rfl
theorem ty35 : cfg.ty 35 = some ⟨.struct [(5, 0), (3, 1), (3, 2), (3, 3), (2, 4), (34, 5)], 6, 64, [.int .u8 0, .int .i64 0, .int .i64 0, .int .i64 0, .int .i64 0, .lst [] 0 .nil]⟩ := by kernel_rfl
theorem ty36 : cfg.ty 36 = some ⟨.struct [(5, 0), (3, 1), (3, 2), (3, 3), (2, 4), (34, 5)], 6, 64, [.int .u8 0, .int .i64 0, .int .i64 0, .int .i64 0, .int .i64 0, .lst [] 0 .nil]⟩ := by kernel_rfl
theorem ty37 : cfg.ty 37 = some ⟨.func, 1, 8, [.nilFunc]⟩ := by kernel_rfl
theorem ty38 : cfg.ty 38 = some ⟨.func, 1, 8, [.nilFunc]⟩ := by kernel_rfl
theorem ty39 : cfg.ty 39 = some ⟨.func, 1, 8, [.nilFunc]⟩ := by kernel_rfl
theorem ty40 : cfg.ty 40 = some ⟨.func, 1, 8, [.nilFunc]⟩ := by kernel_rfl
theorem ty41 : cfg.ty 41 = some ⟨.func, 1, 8, [.nilFunc]⟩ := by kernel_rfl
theorem ty42 : cfg.ty 42 = some ⟨.slice 49, 1, 24, [.lst [] 0 .nil]⟩ := by kernel_rfl
theorem ty44 : cfg.ty 44 = some ⟨.func, 1, 8, [.nilFunc]⟩ := by kernel_rfl
theorem ty45 : cfg.ty 45 = some ⟨.slice 34, 1, 24, [.lst [] 0 .nil]⟩ := by kernel_rfl
theorem ty47 : cfg.ty 47 = some ⟨.func, 1, 8, [.nilFunc]⟩ := by kernel_rfl
theorem ty48 : cfg.ty 48 = some ⟨.struct [(3, 0), (3, 1), (3, 2), (3, 3)], 4, 32, [.int .i64 0, .int .i64 0, .int .i64 0, .int .i64 0]⟩ := by kernel_rfl
theorem ty49 : cfg.ty 49 = some ⟨.struct [(3, 0), (3, 1), (3, 2), (3, 3)], 4, 32, [.int .i64 0, .int .i64 0, .int .i64 0, .int .i64 0]⟩ := by kernel_rfl
theorem ty50 : cfg.ty 50 = some ⟨.func, 1, 8, [.nilFunc]⟩ := by kernel_rfl
theorem ty51 : cfg.ty 51 = some ⟨.func, 1, 8, [.nilFunc]⟩ := by kernel_rfl
theorem ty52 : cfg.ty 52 = some ⟨.func, 1, 8, [.nilFunc]⟩ := by kernel_rfl
theorem ty53 : cfg.ty 53 = some ⟨.func, 1, 8, [.nilFunc]⟩ := by kernel_rfl
theorem ty54 : cfg.ty 54 = some ⟨.slice 55, 1, 24, [.lst [] 0 .nil]⟩ := by kernel_rfl
theorem ty55 : cfg.ty 55 = some ⟨.struct [(3, 0), (3, 1), (3, 2), (3, 3)], 4, 32, [.int .i64 0, .int .i64 0, .int .i64 0, .int .i64 0]⟩ := by kernel_rfl
theorem ty56 : cfg.ty 56 = some ⟨.func, 1, 8, [.nilFunc]⟩ := by kernel_rfl
theorem ty57 : cfg.ty 57 = some ⟨.func, 1, 8, [.nilFunc]⟩ := by kernel_rfl
theorem ty58 : cfg.ty 58 = some ⟨.func, 1, 8, [.nilFunc]⟩ := by kernel_rfl
theorem ty59 : cfg.ty 59 = some ⟨.slice 101, 1, 24, [.lst [] 0 .nil]⟩ := by kernel_rfl
theorem ty61 : cfg.ty 61 = some ⟨.func, 1, 8, [.nilFunc]⟩ := by kernel_rfl
theorem ty62 : cfg.ty 62 = some ⟨.ptr, 1, 8, [.nilPtr]⟩ := by kernel_rfl
theorem ty63 : cfg.ty 63 = some ⟨.map 76 80, 1, 8, [.nilMap]⟩ := by kernel_rfl
theorem ty64 : cfg.ty 64 = some ⟨.slice 71, 1, 24, [.lst [] 0 .nil]⟩ := by kernel_rfl
theorem ty65 : cfg.ty 65 = some ⟨.struct [(63, 0), (64, 1)], 2, 32, [.nilMap, .lst [] 0 .nil]⟩ := by kernel_rfl
theorem ty66 : cfg.ty 66 = some ⟨.struct [(63, 0), (64, 1)], 2, 32, [.nilMap, .lst [] 0 .nil]⟩ := by kernel_rfl
theorem ty67 : cfg.ty 67 = some ⟨.slice 76, 1, 24, [.lst [] 0 .nil]⟩ := by kernel_rfl
theorem ty68 : cfg.ty 68 = some ⟨.struct [(33, 0), (59, 3), (66, 4), (67, 6)], 7, 152, [.lst [] 0 .nil, .lst [] 0 .nil, .lst [] 0 .nil, .lst [] 0 .nil, .nilMap, .lst [] 0 .nil, .lst [] 0 .nil]⟩ := by kernel_rfl
theorem ty69 : cfg.ty 69 = some ⟨.struct [(33, 0), (59, 3), (66, 4), (67, 6)], 7, 152, [.lst [] 0 .nil, .lst [] 0 .nil, .lst [] 0 .nil, .lst [] 0 .nil, .nilMap, .lst [] 0 .nil, .lst [] 0 .nil]⟩ := by kernel_rfl
theorem ty70 : cfg.ty 70 = some ⟨.map 3 3, 1, 8, [.nilMap]⟩ := by kernel_rfl
theorem ty71 : cfg.ty 71 = some ⟨.map 3 3, 1, 8, [.nilMap]⟩ := by kernel_rfl
theorem ty72 : cfg.ty 72 = some ⟨.func, 1, 8, [.nilFunc]⟩ := by kernel_rfl
theorem ty73 : cfg.ty 73 = some ⟨.func, 1, 8, [.nilFunc]⟩ := by kernel_rfl
theorem ty74 : cfg.ty 74 = some ⟨.func, 1, 8, [.nilFunc]⟩ := by kernel_rfl
theorem ty75 : cfg.ty 75 = some ⟨.struct [(3, 0), (3, 1)], 2, 16, [.int .i64 0, .int .i64 0]⟩ := by kernel_rfl
theorem ty76 : cfg.ty 76 = some ⟨.struct [(3, 0), (3, 1)], 2, 16, [.int .i64 0, .int .i64 0]⟩ := by kernel_rfl
theorem ty77 : cfg.ty 77 = some ⟨.struct [(71, 0), (71, 1)], 2, 16, [.nilMap, .nilMap]⟩ := by kernel_rfl
theorem ty78 : cfg.ty 78 = some ⟨.struct [(71, 0), (71, 1)], 2, 16, [.nilMap, .nilMap]⟩ := by kernel_rfl
theorem ty79 : cfg.ty 79 = some ⟨.func, 1, 8, [.nilFunc]⟩ := by kernel_rfl
theorem ty80 : cfg.ty 80 = some ⟨.ptr, 1, 8, [.nilPtr]⟩ := by kernel_rfl
theorem ty82 : cfg.ty 82 = some ⟨.func, 1, 8, [.nilFunc]⟩ := by kernel_rfl
theorem ty83 : cfg.ty 83 = some ⟨.func, 1, 8, [.nilFunc]⟩ := by kernel_rfl
theorem ty84 : cfg.ty 84 = some ⟨.func, 1, 8, [.nilFunc]⟩ := by kernel_rfl
theorem ty85 : cfg.ty 85 = some ⟨.func, 1, 8, [.nilFunc]⟩ := by kernel_rfl
theorem ty86 : cfg.ty 86 = some ⟨.func, 1, 8, [.nilFunc]⟩ := by kernel_rfl
theorem ty87 : cfg.ty 87 = some ⟨.func, 1, 8, [.nilFunc]⟩ := by kernel_rfl
theorem ty88 : cfg.ty 88 = some ⟨.func, 1, 8, [.nilFunc]⟩ := by kernel_rfl
theorem ty89 : cfg.ty 89 = some ⟨.func, 1, 8, [.nilFunc]⟩ := by kernel_rfl
theorem ty90 : cfg.ty 90 = some ⟨.func, 1, 8, [.nilFunc]⟩ := by kernel_rfl
theorem ty91 : cfg.ty 91 = some ⟨.slice 4, 1, 24, [.lst [] 0 .nil]⟩ := by kernel_rfl
theorem ty92 : cfg.ty 92 = some ⟨.func, 1, 8, [.nilFunc]⟩ := by kernel_rfl
theorem ty93 : cfg.ty 93 = some ⟨.func, 1, 8, [.nilFunc]⟩ := by kernel_rfl
theorem ty94 : cfg.ty 94 = some ⟨.struct [(9, 0), (3, 1), (2, 2)], 3, 32, [.str [], .int .i64 0, .int .i64 0]⟩ := by kernel_rfl
theorem ty95 : cfg.ty 95 = some ⟨.struct [(9, 0), (3, 1), (2, 2)], 3, 32, [.str [], .int .i64 0, .int .i64 0]⟩ := by kernel_rfl
theorem ty96 : cfg.ty 96 = some ⟨.func, 1, 8, [.nilFunc]⟩ := by kernel_rfl
theorem ty97 : cfg.ty 97 = some ⟨.func, 1, 8, [.nilFunc]⟩ := by kernel_rfl
theorem ty98 : cfg.ty 98 = some ⟨.func, 1, 8, [.nilFunc]⟩ := by kernel_rfl
theorem ty99 : cfg.ty 99 = some ⟨.func, 1, 8, [.nilFunc]⟩ := by kernel_rfl
theorem ty100 : cfg.ty 100 = some ⟨.struct [(34, 0), (34, 1), (34, 2), (34, 3), (34, 4)], 5, 120, [.lst [] 0 .nil, .lst [] 0 .nil, .lst [] 0 .nil, .lst [] 0 .nil, .lst [] 0 .nil]⟩ := by kernel_rfl
theorem ty101 : cfg.ty 101 = some ⟨.struct [(34, 0), (34, 1), (34, 2), (34, 3), (34, 4)], 5, 120, [.lst [] 0 .nil, .lst [] 0 .nil, .lst [] 0 .nil, .lst [] 0 .nil, .lst [] 0 .nil]⟩ := by kernel_rfl
theorem ty102 : cfg.ty 102 = some ⟨.func, 1, 8, [.nilFunc]⟩ := by kernel_rfl
theorem ty103 : cfg.ty 103 = some ⟨.func, 1, 8, [.nilFunc]⟩ := by kernel_rfl
theorem ty104 : cfg.ty 104 = some ⟨.func, 1, 8, [.nilFunc]⟩ := by kernel_rfl
theorem ty105 : cfg.ty 105 = some ⟨.func, 1, 8, [.nilFunc]⟩ := by kernel_rfl
theorem ty106 : cfg.ty 106 = some ⟨.func, 1, 8, [.nilFunc]⟩ := by kernel_rfl
theorem ty107 : cfg.ty 107 = some ⟨.func, 1, 8, [.nilFunc]⟩ := by kernel_rfl
theorem ty108 : cfg.ty 108 = some ⟨.func, 1, 8, [.nilFunc]⟩ := by kernel_rfl
theorem ty109 : cfg.ty 109 = some ⟨.func, 1, 8, [.nilFunc]⟩ := by kernel_rfl
theorem ty110 : cfg.ty 110 = some ⟨.func, 1, 8, [.nilFunc]⟩ := by kernel_rfl
theorem ty111 : cfg.ty 111 = some ⟨.func, 1, 8, [.nilFunc]⟩ := by kernel_rfl
theorem ty112 : cfg.ty 112 = some ⟨.func, 1, 8, [.nilFunc]⟩ := by kernel_rfl
theorem ty113 : cfg.ty 113 = some ⟨.func, 1, 8, [.nilFunc]⟩ := by kernel_rfl
theorem ty114 : cfg.ty 114 = some ⟨.func, 1, 8, [.nilFunc]⟩ := by kernel_rfl
theorem ty115 : cfg.ty 115 = some ⟨.int .u64, 1, 8, [.int .u64 0]⟩ := by kernel_rfl
theorem ty116 : cfg.ty 116 = some ⟨.func, 1, 8, [.nilFunc]⟩ := by kernel_rfl
theorem ty117 : cfg.ty 117 = some ⟨.func, 1, 8, [.nilFunc]⟩ := by kernel_rfl
theorem ty118 : cfg.ty 118 = some ⟨.func, 1, 8, [.nilFunc]⟩ := by kernel_rfl
theorem ty119 : cfg.ty 119 = some ⟨.func, 1, 8, [.nilFunc]⟩ := by kernel_rfl
theorem ty120 : cfg.ty 120 = some ⟨.func, 1, 8, [.nilFunc]⟩ := by kernel_rfl
theorem ty121 : cfg.ty 121 = some ⟨.func, 1, 8, [.nilFunc]⟩ := by kernel_rfl
theorem ty122 : cfg.ty 122 = some ⟨.func, 1, 8, [.nilFunc]⟩ := by kernel_rfl
theorem ty123 : cfg.ty 123 = some ⟨.func, 1, 8, [.nilFunc]⟩ := by kernel_rfl
theorem ty124 : cfg.ty 124 = some ⟨.func, 1, 8, [.nilFunc]⟩ := by kernel_rfl
theorem ty125 : cfg.ty 125 = some ⟨.func, 1, 8, [.nilFunc]⟩ := by kernel_rfl
theorem ty126 : cfg.ty 126 = some ⟨.func, 1, 8, [.nilFunc]⟩ := by kernel_rfl
theorem ty127 : cfg.ty 127 = some ⟨.ptr, 1, 8, [.nilPtr]⟩ := by kernel_rfl
theorem ty128 : cfg.ty 128 = some ⟨.map 5 127, 1, 8, [.nilMap]⟩ := by kernel_rfl
theorem ty130 : cfg.ty 130 = some ⟨.func, 1, 8, [.nilFunc]⟩ := by kernel_rfl
theorem ty131 : cfg.ty 131 = some ⟨.func, 1, 8, [.nilFunc]⟩ := by kernel_rfl
theorem ty132 : cfg.ty 132 = some ⟨.func, 1, 8, [.nilFunc]⟩ := by kernel_rfl
theorem ty133 : cfg.ty 133 = some ⟨.func, 1, 8, [.nilFunc]⟩ := by kernel_rfl
theorem ty134 : cfg.ty 134 = some ⟨.func, 1, 8, [.nilFunc]⟩ := by kernel_rfl
theorem ty135 : cfg.ty 135 = some ⟨.int .i64, 1, 8, [.int .i64 0]⟩ := by kernel_rfl
theorem ty137 : cfg.ty 137 = some ⟨.func, 1, 8, [.nilFunc]⟩ := by kernel_rfl
theorem ty138 : cfg.ty 138 = some ⟨.func, 1, 8, [.nilFunc]⟩ := by kernel_rfl
theorem ty139 : cfg.ty 139 = some ⟨.func, 1, 8, [.nilFunc]⟩ := by kernel_rfl
theorem ty141 : cfg.ty 141 = some ⟨.func, 1, 8, [.nilFunc]⟩ := by kernel_rfl
theorem ty142 : cfg.ty 142 = some ⟨.func, 1, 8, [.nilFunc]⟩ := by kernel_rfl
theorem ty143 : cfg.ty 143 = some ⟨.int .u32, 1, 4, [.int .u32 0]⟩ := by kernel_rfl
theorem ty144 : cfg.ty 144 = some ⟨.func, 1, 8, [.nilFunc]⟩ := by kernel_rfl
theorem ty145 : cfg.ty 145 = some ⟨.int .u64, 1, 8, [.int .u64 0]⟩ := by kernel_rfl
theorem ty146 : cfg.ty 146 = some ⟨.func, 1, 8, [.nilFunc]⟩ := by kernel_rfl
theorem ty147 : cfg.ty 147 = some ⟨.func, 1, 8, [.nilFunc]⟩ := by kernel_rfl
theorem ty148 : cfg.ty 148 = some ⟨.func, 1, 8, [.nilFunc]⟩ := by kernel_rfl
theorem ty149 : cfg.ty 149 = some ⟨.func, 1, 8, [.nilFunc]⟩ := by kernel_rfl
theorem ty150 : cfg.ty 150 = some ⟨.func, 1, 8, [.nilFunc]⟩ := by kernel_rfl
theorem ty151 : cfg.ty 151 = some ⟨.func, 1, 8, [.nilFunc]⟩ := by kernel_rfl
theorem ty152 : cfg.ty 152 = some ⟨.func, 1, 8, [.nilFunc]⟩ := by kernel_rfl
theorem ty153 : cfg.ty 153 = some ⟨.func, 1, 8, [.nilFunc]⟩ := by kernel_rfl
theorem ty154 : cfg.ty 154 = some ⟨.array 15 9, 15, 240, [.str [], .str [], .str [], .str [], .str [], .str [], .str [], .str [], .str [], .str [], .str [], .str [], .str [], .str [], .str []]⟩ := by kernel_rfl
theorem ty155 : cfg.ty 155 = some ⟨.func, 1, 8, [.nilFunc]⟩ := by kernel_rfl
theorem ty156 : cfg.ty 156 = some ⟨.func, 1, 8, [.nilFunc]⟩ := by kernel_rfl
theorem ty157 : cfg.ty 157 = some ⟨.struct [(4, 0), (4, 1), (4, 2), (4, 3), (3, 4)], 5, 16, [.bool false, .bool false, .bool false, .bool false, .int .i64 0]⟩ := by kernel_rfl
theorem ty158 : cfg.ty 158 = some ⟨.struct [(4, 0), (4, 1), (4, 2), (4, 3), (3, 4)], 5, 16, [.bool false, .bool false, .bool false, .bool false, .int .i64 0]⟩ := by kernel_rfl
theorem ty160 : cfg.ty 160 = some ⟨.func, 1, 8, [.nilFunc]⟩ := by kernel_rfl
theorem ty161 : cfg.ty 161 = some ⟨.func, 1, 8, [.nilFunc]⟩ := by kernel_rfl
theorem ty162 : cfg.ty 162 = some ⟨.func, 1, 8, [.nilFunc]⟩ := by kernel_rfl
theorem ty163 : cfg.ty 163 = some ⟨.func, 1, 8, [.nilFunc]⟩ := by kernel_rfl
theorem ty164 : cfg.ty 164 = some ⟨.func, 1, 8, [.nilFunc]⟩ := by kernel_rfl
theorem ty165 : cfg.ty 165 = some ⟨.func, 1, 8, [.nilFunc]⟩ := by kernel_rfl
theorem ty166 : cfg.ty 166 = some ⟨.func, 1, 8, [.nilFunc]⟩ := by kernel_rfl
theorem ty167 : cfg.ty 167 = some ⟨.func, 1, 8, [.nilFunc]⟩ := by kernel_rfl
theorem ty168 : cfg.ty 168 = some ⟨.int .u64, 1, 8, [.int .u64 0]⟩ := by kernel_rfl
theorem ty169 : cfg.ty 169 = some ⟨.func, 1, 8, [.nilFunc]⟩ := by kernel_rfl
theorem ty170 : cfg.ty 170 = some ⟨.func, 1, 8, [.nilFunc]⟩ := by kernel_rfl
theorem ty171 : cfg.ty 171 = some ⟨.func, 1, 8, [.nilFunc]⟩ := by kernel_rfl
theorem ty172 : cfg.ty 172 = some ⟨.ptr, 1, 8, [.nilPtr]⟩ := by kernel_rfl
theorem ty173 : cfg.ty 173 = some ⟨.func, 1, 8, [.nilFunc]⟩ := by kernel_rfl
theorem ty174 : cfg.ty 174 = some ⟨.func, 1, 8, [.nilFunc]⟩ := by kernel_rfl
theorem ty175 : cfg.ty 175 = some ⟨.func, 1, 8, [.nilFunc]⟩ := by kernel_rfl
theorem ty176 : cfg.ty 176 = some ⟨.func, 1, 8, [.nilFunc]⟩ := by kernel_rfl
theorem ty177 : cfg.ty 177 = some ⟨.func, 1, 8, [.nilFunc]⟩ := by kernel_rfl
theorem ty178 : cfg.ty 178 = some ⟨.func, 1, 8, [.nilFunc]⟩ := by kernel_rfl
theorem ty179 : cfg.ty 179 = some ⟨.func, 1, 8, [.nilFunc]⟩ := by kernel_rfl
theorem ty180 : cfg.ty 180 = some ⟨.func, 1, 8, [.nilFunc]⟩ := by kernel_rfl
theorem ty181 : cfg.ty 181 = some ⟨.func, 1, 8, [.nilFunc]⟩ := by kernel_rfl
theorem ty182 : cfg.ty 182 = some ⟨.func, 1, 8, [.nilFunc]⟩ := by kernel_rfl
theorem ty183 : cfg.ty 183 = some ⟨.func, 1, 8, [.nilFunc]⟩ := by kernel_rfl
theorem ty184 : cfg.ty 184 = some ⟨.array 256 4, 256, 256, copies 256 [.bool false]⟩ := by kernel_rfl
theorem ty185 : cfg.ty 185 = some ⟨.array 256 4, 256, 256, copies 256 [.bool false]⟩ := by kernel_rfl
theorem ty187 : cfg.ty 187 = some ⟨.func, 1, 8, [.nilFunc]⟩ := by kernel_rfl
theorem ty188 : cfg.ty 188 = some ⟨.func, 1, 8, [.nilFunc]⟩ := by kernel_rfl
theorem ty189 : cfg.ty 189 = some ⟨.ptr, 1, 8, [.nilPtr]⟩ := by kernel_rfl
theorem ty190 : cfg.ty 190 = some ⟨.array 14 158, 70, 224, [.bool false, .bool false, .bool false, .bool false, .int .i64 0, .bool false, .bool false, .bool false, .bool false, .int .i64 0, .bool false, .bool false, .bool false, .bool false, .int .i64 0, .bool false, .bool false, .bool false, .bool false, .int .i64 0, .bool false, .bool false, .bool false, .bool false, .int .i64 0, .bool false, .bool false, .bool false, .bool false, .int .i64 0, .bool false, .bool false, .bool false, .bool false, .int .i64 0, .bool false, .bool false, .bool false, .bool false, .int .i64 0, .bool false, .bool false, .bool false, .bool false, .int .i64 0, .bool false, .bool false, .bool false, .bool false, .int .i64 0, .bool false, .bool false, .bool false, .bool false, .int .i64 0, .bool false, .bool false, .bool false, .bool false, .int .i64 0, .bool false, .bool false, .bool false, .bool false, .int .i64 0, .bool false, .bool false, .bool false, .bool false, .int .i64 0]⟩ := by kernel_rfl
theorem ty191 : cfg.ty 191 = some ⟨.func, 1, 8, [.nilFunc]⟩ := by kernel_rfl
theorem ty192 : cfg.ty 192 = some ⟨.ptr, 1, 8, [.nilPtr]⟩ := by kernel_rfl
theorem ty194 : cfg.ty 194 = some ⟨.func, 1, 8, [.nilFunc]⟩ := by kernel_rfl
theorem ty195 : cfg.ty 195 = some ⟨.func, 1, 8, [.nilFunc]⟩ := by kernel_rfl
theorem ty196 : cfg.ty 196 = some ⟨.func, 1, 8, [.nilFunc]⟩ := by kernel_rfl
theorem ty197 : cfg.ty 197 = some ⟨.func, 1, 8, [.nilFunc]⟩ := by kernel_rfl
theorem ty198 : cfg.ty 198 = some ⟨.func, 1, 8, [.nilFunc]⟩ := by kernel_rfl
theorem ty200 : cfg.ty 200 = some ⟨.func, 1, 8, [.nilFunc]⟩ := by kernel_rfl
theorem ty201 : cfg.ty 201 = some ⟨.func, 1, 8, [.nilFunc]⟩ := by kernel_rfl
theorem ty202 : cfg.ty 202 = some ⟨.func, 1, 8, [.nilFunc]⟩ := by kernel_rfl
theorem ty203 : cfg.ty 203 = some ⟨.func, 1, 8, [.nilFunc]⟩ := by kernel_rfl
theorem ty204 : cfg.ty 204 = some ⟨.array 256 5, 256, 256, copies 256 [.int .u8 0]⟩ := by kernel_rfl
theorem ty205 : cfg.ty 205 = some ⟨.struct [(5, 0), (5, 1)], 2, 2, [.int .u8 0, .int .u8 0]⟩ := by kernel_rfl
theorem ty206 : cfg.ty 206 = some ⟨.struct [(5, 0), (5, 1)], 2, 2, [.int .u8 0, .int .u8 0]⟩ := by kernel_rfl
theorem ty207 : cfg.ty 207 = some ⟨.array 16 206, 32, 32, [.int .u8 0, .int .u8 0, .int .u8 0, .int .u8 0, .int .u8 0, .int .u8 0, .int .u8 0, .int .u8 0, .int .u8 0, .int .u8 0, .int .u8 0, .int .u8 0, .int .u8 0, .int .u8 0, .int .u8 0, .int .u8 0, .int .u8 0, .int .u8 0, .int .u8 0, .int .u8 0, .int .u8 0, .int .u8 0, .int .u8 0, .int .u8 0, .int .u8 0, .int .u8 0, .int .u8 0, .int .u8 0, .int .u8 0, .int .u8 0, .int .u8 0, .int .u8 0]⟩ := by kernel_rfl
theorem ty208 : cfg.ty 208 = some ⟨.func, 1, 8, [.nilFunc]⟩ := by kernel_rfl
theorem ty209 : cfg.ty 209 = some ⟨.func, 1, 8, [.nilFunc]⟩ := by kernel_rfl
theorem ty210 : cfg.ty 210 = some ⟨.func, 1, 8, [.nilFunc]⟩ := by kernel_rfl
theorem ty211 : cfg.ty 211 = some ⟨.func, 1, 8, [.nilFunc]⟩ := by kernel_rfl
theorem ty212 : cfg.ty 212 = some ⟨.func, 1, 8, [.nilFunc]⟩ := by kernel_rfl
theorem ty213 : cfg.ty 213 = some ⟨.struct [(17, 0), (17, 1), (17, 2), (9, 3)], 4, 40, [.nilPtr, .nilPtr, .nilPtr, .str []]⟩ := by kernel_rfl
theorem ty214 : cfg.ty 214 = some ⟨.struct [(17, 0), (17, 1), (17, 2), (9, 3)], 4, 40, [.nilPtr, .nilPtr, .nilPtr, .str []]⟩ := by kernel_rfl
theorem ty215 : cfg.ty 215 = some ⟨.array 0 16, 0, 0, []⟩ := by kernel_rfl
theorem ty216 : cfg.ty 216 = some ⟨.struct [(215, 0)], 0, 0, []⟩ := by kernel_rfl
theorem ty217 : cfg.ty 217 = some ⟨.struct [(215, 0)], 0, 0, []⟩ := by kernel_rfl
theorem ty218 : cfg.ty 218 = some ⟨.func, 1, 8, [.nilFunc]⟩ := by kernel_rfl
theorem ty219 : cfg.ty 219 = some ⟨.int .u8, 1, 1, [.int .u8 0]⟩ := by kernel_rfl
theorem ty220 : cfg.ty 220 = some ⟨.int .u8, 1, 1, [.int .u8 0]⟩ := by kernel_rfl
theorem ty221 : cfg.ty 221 = some ⟨.func, 1, 8, [.nilFunc]⟩ := by kernel_rfl
theorem ty222 : cfg.ty 222 = some ⟨.ptr, 1, 8, [.nilPtr]⟩ := by kernel_rfl
theorem ty223 : cfg.ty 223 = some ⟨.int .i32, 1, 4, [.int .i32 0]⟩ := by kernel_rfl
theorem ty224 : cfg.ty 224 = some ⟨.int .i32, 1, 4, [.int .i32 0]⟩ := by kernel_rfl
theorem ty225 : cfg.ty 225 = some ⟨.struct [(12, 0), (12, 1), (143, 2), (219, 3), (5, 4), (5, 5), (220, 6), (221, 7), (222, 8), (223, 9), (224, 10)], 11, 48, [.int .u64 0, .int .u64 0, .int .u32 0, .int .u8 0, .int .u8 0, .int .u8 0, .int .u8 0, .nilFunc, .nilPtr, .int .i32 0, .int .i32 0]⟩ := by kernel_rfl
theorem ty226 : cfg.ty 226 = some ⟨.struct [(12, 0), (12, 1), (143, 2), (219, 3), (5, 4), (5, 5), (220, 6), (221, 7), (222, 8), (223, 9), (224, 10)], 11, 48, [.int .u64 0, .int .u64 0, .int .u32 0, .int .u8 0, .int .u8 0, .int .u8 0, .int .u8 0, .nilFunc, .nilPtr, .int .i32 0, .int .i32 0]⟩ := by kernel_rfl
end
end Go.Proofs.Sx
