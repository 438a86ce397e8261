/-
  DERIVED: THE SHELF's CONTRACTS AT THIS DUMP, IN PLAIN WORDS (tools/lay-plain.mjs out of 'CbPlain.lean', which tools/lay-shelf.mjs wrote): THE SAME DECLARATIONS UNDER THE SAME NAMES: 'import', 'namespace', 'open', 'def', 'theorem' AND NOTHING ELSE: no command of the shelf's: FOR A HAND-IN. Each laying: the table of numbers ('.._ren') and one theorem, a field a fact of the dump's own or the kernel's comparison; each contract: ONE APPLICATION.
-/
import Derived.Shelf.SortM.Plain
import Derived.Shelf.SortM.SortNone
import Derived.Shelf.SlMaps.Clone
import Derived.Ground.SlgmProg
import Derived.Test.YtiigpcapieeljaaGreatDoorChecked
import Derived.Test.YtiigpcapieeljaaGreatDoorPtF
import Derived.WalkKit
import Derived.Maps.OwnOps
import Derived.Maps.AppendAt
set_option linter.unusedSectionVars false
set_option linter.unusedSimpArgs false
set_option linter.unusedVariables false
set_option linter.defProp false
namespace Go.Proofs
open Go.Shelf
def Tryz.sortT_ren : Go.Shelf.Ren := ⟨fun | 6 => 176 | 8 => 219 | 9 => 218 | 19 => 273 | 20 => 274 | 21 => 264 | 22 => 265 | 23 => 266 | 24 => 267 | 25 => 268 | 26 => 269 | 27 => 270 | 28 => 271 | 29 => 272 | 36 => 298 | 31 => 299 | 32 => 300 | 37 => 301 | 38 => 302 | 39 => 303 | 41 => 315 | n => n, fun | 27 => 41 | 29 => 9 | 3 => 3 | 32 => 239 | 26 => 41 | 0 => 0 | 44 => 279 | 46 => 147 | 4 => 4 | 36 => 311 | 35 => 310 | 41 => 71 | 5 => 5 | 9 => 9 | 53 => 334 | 57 => 338 | 63 => 348 | 64 => 349 | n => n, fun | n => n⟩
theorem Tryz.sortT : Go.Proofs.SlLaysM.n6 Tryz.prog Tryz.sortT_ren := {
  mixed := by kernel_rfl
  f6 := ⟨Tryz.f176.name, by decide, Tryz.func176.trans (congrArg some (by kernel_rfl))⟩
  f8 := Tryz.func219.trans (congrArg some (by kernel_rfl))
  f9 := ⟨Tryz.f218.name, by decide, Tryz.func218.trans (congrArg some (by kernel_rfl))⟩
  f19 := Tryz.func273.trans (congrArg some (by kernel_rfl))
  f20 := Tryz.func274.trans (congrArg some (by kernel_rfl))
  f21 := ⟨Tryz.f264.name, by decide, Tryz.func264.trans (congrArg some (by kernel_rfl))⟩
  f22 := ⟨Tryz.f265.name, by decide, Tryz.func265.trans (congrArg some (by kernel_rfl))⟩
  f23 := ⟨Tryz.f266.name, by decide, Tryz.func266.trans (congrArg some (by kernel_rfl))⟩
  f24 := ⟨Tryz.f267.name, by decide, Tryz.func267.trans (congrArg some (by kernel_rfl))⟩
  f25 := ⟨Tryz.f268.name, by decide, Tryz.func268.trans (congrArg some (by kernel_rfl))⟩
  f26 := ⟨Tryz.f269.name, by decide, Tryz.func269.trans (congrArg some (by kernel_rfl))⟩
  f27 := ⟨Tryz.f270.name, by decide, Tryz.func270.trans (congrArg some (by kernel_rfl))⟩
  f28 := ⟨Tryz.f271.name, by decide, Tryz.func271.trans (congrArg some (by kernel_rfl))⟩
  f29 := ⟨Tryz.f272.name, by decide, Tryz.func272.trans (congrArg some (by kernel_rfl))⟩
  f31 := Tryz.func299.trans (congrArg some (by kernel_rfl))
  f32 := Tryz.func300.trans (congrArg some (by kernel_rfl))
  f36 := ⟨Tryz.f298.name, by decide, Tryz.func298.trans (congrArg some (by kernel_rfl))⟩
  f37 := ⟨Tryz.f301.name, by decide, Tryz.func301.trans (congrArg some (by kernel_rfl))⟩
  f38 := ⟨Tryz.f302.name, by decide, Tryz.func302.trans (congrArg some (by kernel_rfl))⟩
  f39 := ⟨Tryz.f303.name, by decide, Tryz.func303.trans (congrArg some (by kernel_rfl))⟩
  f41 := ⟨Tryz.f315.name, by decide, Tryz.func315.trans (congrArg some (by kernel_rfl))⟩
  t0 := Tryz.underlying0
  a0 := Tryz.isAgg0
  z0 := Tryz.sizeOf0
  v0 := Tryz.zeroValue0
  t3 := Tryz.underlying3
  a3 := Tryz.isAgg3
  z3 := Tryz.sizeOf3
  v3 := Tryz.zeroValue3
  t4 := Tryz.underlying4
  a4 := Tryz.isAgg4
  z4 := Tryz.sizeOf4
  v4 := Tryz.zeroValue4
  t5 := Tryz.underlying5
  a5 := Tryz.isAgg5
  z5 := Tryz.sizeOf5
  v5 := Tryz.zeroValue5
  t9 := Tryz.underlying9
  a9 := Tryz.isAgg9
  z9 := Tryz.sizeOf9
  v9 := Tryz.zeroValue9
  t26 := Tryz.underlying41
  a26 := Tryz.isAgg41
  z26 := Tryz.sizeOf41
  v26 := Tryz.zeroValue41
  t27 := Tryz.underlying41
  a27 := Tryz.isAgg41
  z27 := Tryz.sizeOf41
  v27 := Tryz.zeroValue41
  t29 := Tryz.underlying9
  a29 := Tryz.isAgg9
  z29 := Tryz.sizeOf9
  v29 := Tryz.zeroValue9
  t32 := Tryz.underlying239
  a32 := Tryz.isAgg239
  z32 := Tryz.sizeOf239
  v32 := Tryz.zeroValue239
  t35 := Tryz.underlying310
  a35 := Tryz.isAgg310
  z35 := Tryz.sizeOf310
  v35 := Tryz.zeroValue310
  t36 := Tryz.underlying311
  a36 := Tryz.isAgg311
  z36 := Tryz.sizeOf311
  v36 := Tryz.zeroValue311
  t41 := Tryz.underlying71
  a41 := Tryz.isAgg71
  z41 := Tryz.sizeOf71
  v41 := Tryz.zeroValue71
  t44 := Tryz.underlying279
  a44 := Tryz.isAgg279
  z44 := Tryz.sizeOf279
  v44 := Tryz.zeroValue279
  t46 := Tryz.underlying147
  a46 := Tryz.isAgg147
  z46 := Tryz.sizeOf147
  v46 := Tryz.zeroValue147
  t53 := Tryz.underlying334
  a53 := Tryz.isAgg334
  z53 := Tryz.sizeOf334
  v53 := Tryz.zeroValue334
  t57 := Tryz.underlying338
  a57 := Tryz.isAgg338
  z57 := Tryz.sizeOf338
  v57 := Tryz.zeroValue338
  t63 := Tryz.underlying348
  a63 := Tryz.isAgg348
  z63 := Tryz.sizeOf348
  v63 := Tryz.zeroValue348
  t64 := Tryz.underlying349
  a64 := Tryz.isAgg349
  z64 := Tryz.sizeOf349
  v64 := Tryz.zeroValue349 }
def Tryz.cloneA_ren : Go.Shelf.Ren := ⟨fun | 5 => 127 | 7 => 186 | n => n, fun | 23 => 185 | 25 => 3 | 3 => 3 | 4 => 4 | 20 => 20 | n => n, fun | n => n⟩
theorem Tryz.cloneA : Go.Proofs.SlLaysW.n5 Tryz.prog Tryz.cloneA_ren := {
  mixed := by kernel_rfl
  f5 := ⟨Tryz.f127.name, by decide, Tryz.func127.trans (congrArg some (by kernel_rfl))⟩
  f7 := Tryz.func186.trans (congrArg some (by kernel_rfl))
  t4 := Tryz.underlying4
  a4 := Tryz.isAgg4
  z4 := Tryz.sizeOf4
  v4 := Tryz.zeroValue4
  t20 := Tryz.underlying20
  a20 := Tryz.isAgg20
  z20 := Tryz.sizeOf20
  v20 := Tryz.zeroValue20
  t23 := Tryz.underlying185
  a23 := Tryz.isAgg185
  z23 := Tryz.sizeOf185
  v23 := Tryz.zeroValue185 }
def Tryz.cloneB_ren : Go.Shelf.Ren := ⟨fun | 5 => 155 | 7 => 186 | n => n, fun | 23 => 166 | 25 => 9 | 3 => 5 | 4 => 4 | 20 => 20 | n => n, fun | n => n⟩
theorem Tryz.cloneB : Go.Proofs.SlLaysW.n5 Tryz.prog Tryz.cloneB_ren := {
  mixed := by kernel_rfl
  f5 := ⟨Tryz.f155.name, by decide, Tryz.func155.trans (congrArg some (by kernel_rfl))⟩
  f7 := Tryz.func186.trans (congrArg some (by kernel_rfl))
  t4 := Tryz.underlying4
  a4 := Tryz.isAgg4
  z4 := Tryz.sizeOf4
  v4 := Tryz.zeroValue4
  t20 := Tryz.underlying20
  a20 := Tryz.isAgg20
  z20 := Tryz.sizeOf20
  v20 := Tryz.zeroValue20
  t23 := Tryz.underlying166
  a23 := Tryz.isAgg166
  z23 := Tryz.sizeOf166
  v23 := Tryz.zeroValue166 }
def Tryz.cloneC_ren : Go.Shelf.Ren := ⟨fun | 5 => 263 | 7 => 186 | n => n, fun | 23 => 116 | 25 => 9 | 3 => 3 | 4 => 4 | 20 => 20 | n => n, fun | n => n⟩
theorem Tryz.cloneC : Go.Proofs.SlLaysW.n5 Tryz.prog Tryz.cloneC_ren := {
  mixed := by kernel_rfl
  f5 := ⟨Tryz.f263.name, by decide, Tryz.func263.trans (congrArg some (by kernel_rfl))⟩
  f7 := Tryz.func186.trans (congrArg some (by kernel_rfl))
  t4 := Tryz.underlying4
  a4 := Tryz.isAgg4
  z4 := Tryz.sizeOf4
  v4 := Tryz.zeroValue4
  t20 := Tryz.underlying20
  a20 := Tryz.isAgg20
  z20 := Tryz.sizeOf20
  v20 := Tryz.zeroValue20
  t23 := Tryz.underlying116
  a23 := Tryz.isAgg116
  z23 := Tryz.sizeOf116
  v23 := Tryz.zeroValue116 }
end Go.Proofs

/-
  slices.Sort of texts and maps.Clone at this program: the kit's contracts laid, in the interpreter's words.
-/
set_option linter.unusedSimpArgs false
set_option linter.unusedVariables false
namespace Go.Proofs
open Go.RowKit Go.Maps Go.Sort Go.Shelf

theorem Tryz.strSays : Go.Rv.StrSortSays Tryz.prog 176 :=
  ⟨fun blk off cap ss w hH hb hs => AnyM.slices_Sort_string Tryz.sortT blk off cap ss w hH hb hs, fun p cap w => AnyM.slices_Sort_string_none Tryz.sortT p cap w⟩
theorem Tryz.cloneSaysA : Go.Rv.CloneSays Tryz.prog 127 := fun w b en cl hb => AnyW.maps_Clone Tryz.cloneA b en cl w hb
theorem Tryz.cloneSaysB : Go.Rv.CloneSays Tryz.prog 155 := fun w b en cl hb => AnyW.maps_Clone Tryz.cloneB b en cl w hb
theorem Tryz.cloneSaysC : Go.Rv.CloneSays Tryz.prog 263 := fun w b en cl hb => AnyW.maps_Clone Tryz.cloneC b en cl w hb
end Go.Proofs
