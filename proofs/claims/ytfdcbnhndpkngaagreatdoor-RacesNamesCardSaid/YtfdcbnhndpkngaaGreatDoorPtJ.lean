/-
  DERIVED: THE SHELF's CONTRACTS AT THIS DUMP, IN PLAIN WORDS (tools/lay-plain.mjs out of 'RnPlain.lean', which tools/lay-shelf.mjs wrote): THE SAME DECLARATIONS UNDER THE SAME NAMES: 'import', 'namespace', 'open', 'def', 'theorem' AND NOTHING ELSE: no command of the shelf's: FOR A HAND-IN. Each laying: the table of numbers ('.._ren') and one theorem, a field a fact of the dump's own or the kernel's comparison; each contract: ONE APPLICATION.
-/
import Derived.Shelf.SlIterI.Nil
import Derived.Shelf.SortM.Plain
import Derived.Shelf.SortM.SortNone
import Derived.Shelf.SlMaps.Clone
import Derived.Shelf.SlMaps.Copy
import Derived.Shelf.SlMaps.DeleteFunc
import Derived.Ground.GgzProg
import Derived.Ground.SlgmProg
import Derived.Test.YtfdcbnhndpkngaaGreatDoorChecked
import Derived.Test.YtfdcbnhndpkngaaGreatDoorPtG
import Derived.Test.YtfdcbnhndpkngaaGreatDoorPtF
import Derived.WalkKit
import Derived.Maps.OwnOps
import Derived.Maps.AppendAt
set_option linter.unusedSectionVars false
set_option linter.unusedSimpArgs false
set_option linter.unusedVariables false
set_option linter.defProp false
namespace Go.Proofs
open Go.Shelf
def Tryz.keysA_ren : Go.Shelf.Ren := ⟨fun | 7 => 195 | 10 => 257 | n => n, fun | 23 => 162 | 26 => 3 | 3 => 3 | 28 => 227 | 0 => 0 | 27 => 226 | 33 => 38 | 4 => 4 | n => n, fun | n => n⟩
theorem Tryz.keysA : Go.Proofs.SlLaysZI.n7 Tryz.prog Tryz.keysA_ren := {
  mixed := by kernel_rfl
  f7 := ⟨Tryz.f195.name, by decide, Tryz.func195.trans (congrArg some (by kernel_rfl))⟩
  f10 := ⟨Tryz.f257.name, by decide, Tryz.func257.trans (congrArg some (by kernel_rfl))⟩
  t0 := Tryz.underlying0
  a0 := Tryz.isAgg0
  z0 := Tryz.sizeOf0
  v0 := Tryz.zeroValue0
  t4 := Tryz.underlying4
  a4 := Tryz.isAgg4
  z4 := Tryz.sizeOf4
  v4 := Tryz.zeroValue4
  t23 := Tryz.underlying162
  a23 := Tryz.isAgg162
  z23 := Tryz.sizeOf162
  v23 := Tryz.zeroValue162
  t26 := Tryz.underlying3
  a26 := Tryz.isAgg3
  z26 := Tryz.sizeOf3
  v26 := Tryz.zeroValue3
  t27 := Tryz.underlying226
  a27 := Tryz.isAgg226
  z27 := Tryz.sizeOf226
  v27 := Tryz.zeroValue226
  t28 := Tryz.underlying227
  a28 := Tryz.isAgg227
  z28 := Tryz.sizeOf227
  v28 := Tryz.zeroValue227
  t33 := Tryz.underlying38
  a33 := Tryz.isAgg38
  z33 := Tryz.sizeOf38
  v33 := Tryz.zeroValue38 }
def Tryz.sortedA_ren : Go.Shelf.Ren := ⟨fun | 6 => 194 | 8 => 256 | 9 => 70 | 11 => 301 | 13 => 74 | 12 => 123 | 23 => 132 | 24 => 133 | 14 => 204 | 15 => 205 | 16 => 206 | 17 => 207 | 18 => 208 | 19 => 209 | 20 => 210 | 21 => 211 | 22 => 212 | 25 => 261 | 26 => 214 | 27 => 215 | 28 => 262 | 29 => 263 | 30 => 122 | 31 => 303 | n => n, fun | 26 => 3 | 28 => 227 | 24 => 37 | 0 => 0 | 3 => 3 | 37 => 148 | 48 => 217 | 50 => 219 | 4 => 4 | 40 => 210 | 39 => 209 | 45 => 214 | 5 => 5 | 9 => 9 | 51 => 275 | 55 => 279 | 57 => 323 | 58 => 324 | 33 => 38 | n => n, fun | n => n⟩
theorem Tryz.sortedA : Go.Proofs.SlLaysZI.n6 Tryz.prog Tryz.sortedA_ren := {
  mixed := by kernel_rfl
  f6 := ⟨Tryz.f194.name, by decide, Tryz.func194.trans (congrArg some (by kernel_rfl))⟩
  f8 := ⟨Tryz.f256.name, by decide, Tryz.func256.trans (congrArg some (by kernel_rfl))⟩
  f11 := ⟨Tryz.f301.name, by decide, Tryz.func301.trans (congrArg some (by kernel_rfl))⟩
  t0 := Tryz.underlying0
  a0 := Tryz.isAgg0
  z0 := Tryz.sizeOf0
  v0 := Tryz.zeroValue0
  t24 := Tryz.underlying37
  a24 := Tryz.isAgg37
  z24 := Tryz.sizeOf37
  v24 := Tryz.zeroValue37
  t26 := Tryz.underlying3
  a26 := Tryz.isAgg3
  z26 := Tryz.sizeOf3
  v26 := Tryz.zeroValue3
  t28 := Tryz.underlying227
  a28 := Tryz.isAgg227
  z28 := Tryz.sizeOf227
  v28 := Tryz.zeroValue227
  i26 := by kernel_rfl }
def Tryz.sortA_ren : Go.Shelf.Ren := ⟨fun | 5 => 70 | 8 => 74 | 7 => 123 | 19 => 132 | 20 => 133 | 10 => 204 | 11 => 205 | 12 => 206 | 13 => 207 | 14 => 208 | 15 => 209 | 16 => 210 | 17 => 211 | 18 => 212 | 30 => 261 | 31 => 214 | 32 => 215 | 33 => 262 | 34 => 263 | 35 => 122 | 40 => 303 | n => n, fun | 23 => 37 | 25 => 3 | 3 => 3 | 32 => 148 | 22 => 37 | 0 => 0 | 44 => 217 | 46 => 219 | 4 => 4 | 36 => 210 | 35 => 209 | 41 => 214 | 5 => 5 | 9 => 9 | 53 => 275 | 57 => 279 | 63 => 323 | 64 => 324 | n => n, fun | n => n⟩
theorem Tryz.sortA : Go.Proofs.SlLaysM.n5 Tryz.prog Tryz.sortA_ren := {
  mixed := by kernel_rfl
  f5 := ⟨Tryz.f70.name, by decide, Tryz.func70.trans (congrArg some (by kernel_rfl))⟩
  f7 := ⟨Tryz.f123.name, by decide, Tryz.func123.trans (congrArg some (by kernel_rfl))⟩
  f8 := Tryz.func74.trans (congrArg some (by kernel_rfl))
  f10 := ⟨Tryz.f204.name, by decide, Tryz.func204.trans (congrArg some (by kernel_rfl))⟩
  f11 := ⟨Tryz.f205.name, by decide, Tryz.func205.trans (congrArg some (by kernel_rfl))⟩
  f12 := ⟨Tryz.f206.name, by decide, Tryz.func206.trans (congrArg some (by kernel_rfl))⟩
  f13 := ⟨Tryz.f207.name, by decide, Tryz.func207.trans (congrArg some (by kernel_rfl))⟩
  f14 := ⟨Tryz.f208.name, by decide, Tryz.func208.trans (congrArg some (by kernel_rfl))⟩
  f15 := ⟨Tryz.f209.name, by decide, Tryz.func209.trans (congrArg some (by kernel_rfl))⟩
  f16 := ⟨Tryz.f210.name, by decide, Tryz.func210.trans (congrArg some (by kernel_rfl))⟩
  f17 := ⟨Tryz.f211.name, by decide, Tryz.func211.trans (congrArg some (by kernel_rfl))⟩
  f18 := ⟨Tryz.f212.name, by decide, Tryz.func212.trans (congrArg some (by kernel_rfl))⟩
  f19 := Tryz.func132.trans (congrArg some (by kernel_rfl))
  f20 := Tryz.func133.trans (congrArg some (by kernel_rfl))
  f30 := ⟨Tryz.f261.name, by decide, Tryz.func261.trans (congrArg some (by kernel_rfl))⟩
  f31 := Tryz.func214.trans (congrArg some (by kernel_rfl))
  f32 := Tryz.func215.trans (congrArg some (by kernel_rfl))
  f33 := ⟨Tryz.f262.name, by decide, Tryz.func262.trans (congrArg some (by kernel_rfl))⟩
  f34 := ⟨Tryz.f263.name, by decide, Tryz.func263.trans (congrArg some (by kernel_rfl))⟩
  f35 := ⟨Tryz.f122.name, by decide, Tryz.func122.trans (congrArg some (by kernel_rfl))⟩
  f40 := ⟨Tryz.f303.name, by decide, Tryz.func303.trans (congrArg some (by kernel_rfl))⟩
  t0 := Tryz.underlying0
  a0 := Tryz.isAgg0
  z0 := Tryz.sizeOf0
  v0 := Tryz.zeroValue0
  t3 := Tryz.underlying3
  a3 := Tryz.isAgg3
  z3 := Tryz.sizeOf3
  v3 := Tryz.zeroValue3
  t4 := Tryz.underlying4
  a4 := Tryz.isAgg4
  z4 := Tryz.sizeOf4
  v4 := Tryz.zeroValue4
  t5 := Tryz.underlying5
  a5 := Tryz.isAgg5
  z5 := Tryz.sizeOf5
  v5 := Tryz.zeroValue5
  t9 := Tryz.underlying9
  a9 := Tryz.isAgg9
  z9 := Tryz.sizeOf9
  v9 := Tryz.zeroValue9
  t22 := Tryz.underlying37
  a22 := Tryz.isAgg37
  z22 := Tryz.sizeOf37
  v22 := Tryz.zeroValue37
  t23 := Tryz.underlying37
  a23 := Tryz.isAgg37
  z23 := Tryz.sizeOf37
  v23 := Tryz.zeroValue37
  t25 := Tryz.underlying3
  a25 := Tryz.isAgg3
  z25 := Tryz.sizeOf3
  v25 := Tryz.zeroValue3
  t32 := Tryz.underlying148
  a32 := Tryz.isAgg148
  z32 := Tryz.sizeOf148
  v32 := Tryz.zeroValue148
  t35 := Tryz.underlying209
  a35 := Tryz.isAgg209
  z35 := Tryz.sizeOf209
  v35 := Tryz.zeroValue209
  t36 := Tryz.underlying210
  a36 := Tryz.isAgg210
  z36 := Tryz.sizeOf210
  v36 := Tryz.zeroValue210
  t41 := Tryz.underlying214
  a41 := Tryz.isAgg214
  z41 := Tryz.sizeOf214
  v41 := Tryz.zeroValue214
  t44 := Tryz.underlying217
  a44 := Tryz.isAgg217
  z44 := Tryz.sizeOf217
  v44 := Tryz.zeroValue217
  t46 := Tryz.underlying219
  a46 := Tryz.isAgg219
  z46 := Tryz.sizeOf219
  v46 := Tryz.zeroValue219
  t53 := Tryz.underlying275
  a53 := Tryz.isAgg275
  z53 := Tryz.sizeOf275
  v53 := Tryz.zeroValue275
  t57 := Tryz.underlying279
  a57 := Tryz.isAgg279
  z57 := Tryz.sizeOf279
  v57 := Tryz.zeroValue279
  t63 := Tryz.underlying323
  a63 := Tryz.isAgg323
  z63 := Tryz.sizeOf323
  v63 := Tryz.zeroValue323
  t64 := Tryz.underlying324
  a64 := Tryz.isAgg324
  z64 := Tryz.sizeOf324
  v64 := Tryz.zeroValue324 }
def Tryz.sortT_ren : Go.Shelf.Ren := ⟨fun | 6 => 183 | 8 => 74 | 9 => 247 | 19 => 132 | 20 => 133 | 21 => 290 | 22 => 291 | 23 => 292 | 24 => 293 | 25 => 294 | 26 => 295 | 27 => 296 | 28 => 297 | 29 => 298 | 36 => 328 | 31 => 214 | 32 => 215 | 37 => 329 | 38 => 330 | 39 => 331 | 41 => 345 | n => n, fun | 27 => 31 | 29 => 9 | 3 => 3 | 32 => 148 | 26 => 31 | 0 => 0 | 44 => 217 | 46 => 219 | 4 => 4 | 36 => 210 | 35 => 209 | 41 => 214 | 5 => 5 | 9 => 9 | 53 => 275 | 57 => 279 | 63 => 323 | 64 => 324 | n => n, fun | n => n⟩
theorem Tryz.sortT : Go.Proofs.SlLaysM.n6 Tryz.prog Tryz.sortT_ren := {
  mixed := by kernel_rfl
  f6 := ⟨Tryz.f183.name, by decide, Tryz.func183.trans (congrArg some (by kernel_rfl))⟩
  f8 := Tryz.func74.trans (congrArg some (by kernel_rfl))
  f9 := ⟨Tryz.f247.name, by decide, Tryz.func247.trans (congrArg some (by kernel_rfl))⟩
  f19 := Tryz.func132.trans (congrArg some (by kernel_rfl))
  f20 := Tryz.func133.trans (congrArg some (by kernel_rfl))
  f21 := ⟨Tryz.f290.name, by decide, Tryz.func290.trans (congrArg some (by kernel_rfl))⟩
  f22 := ⟨Tryz.f291.name, by decide, Tryz.func291.trans (congrArg some (by kernel_rfl))⟩
  f23 := ⟨Tryz.f292.name, by decide, Tryz.func292.trans (congrArg some (by kernel_rfl))⟩
  f24 := ⟨Tryz.f293.name, by decide, Tryz.func293.trans (congrArg some (by kernel_rfl))⟩
  f25 := ⟨Tryz.f294.name, by decide, Tryz.func294.trans (congrArg some (by kernel_rfl))⟩
  f26 := ⟨Tryz.f295.name, by decide, Tryz.func295.trans (congrArg some (by kernel_rfl))⟩
  f27 := ⟨Tryz.f296.name, by decide, Tryz.func296.trans (congrArg some (by kernel_rfl))⟩
  f28 := ⟨Tryz.f297.name, by decide, Tryz.func297.trans (congrArg some (by kernel_rfl))⟩
  f29 := ⟨Tryz.f298.name, by decide, Tryz.func298.trans (congrArg some (by kernel_rfl))⟩
  f31 := Tryz.func214.trans (congrArg some (by kernel_rfl))
  f32 := Tryz.func215.trans (congrArg some (by kernel_rfl))
  f36 := ⟨Tryz.f328.name, by decide, Tryz.func328.trans (congrArg some (by kernel_rfl))⟩
  f37 := ⟨Tryz.f329.name, by decide, Tryz.func329.trans (congrArg some (by kernel_rfl))⟩
  f38 := ⟨Tryz.f330.name, by decide, Tryz.func330.trans (congrArg some (by kernel_rfl))⟩
  f39 := ⟨Tryz.f331.name, by decide, Tryz.func331.trans (congrArg some (by kernel_rfl))⟩
  f41 := ⟨Tryz.f345.name, by decide, Tryz.func345.trans (congrArg some (by kernel_rfl))⟩
  t0 := Tryz.underlying0
  a0 := Tryz.isAgg0
  z0 := Tryz.sizeOf0
  v0 := Tryz.zeroValue0
  t3 := Tryz.underlying3
  a3 := Tryz.isAgg3
  z3 := Tryz.sizeOf3
  v3 := Tryz.zeroValue3
  t4 := Tryz.underlying4
  a4 := Tryz.isAgg4
  z4 := Tryz.sizeOf4
  v4 := Tryz.zeroValue4
  t5 := Tryz.underlying5
  a5 := Tryz.isAgg5
  z5 := Tryz.sizeOf5
  v5 := Tryz.zeroValue5
  t9 := Tryz.underlying9
  a9 := Tryz.isAgg9
  z9 := Tryz.sizeOf9
  v9 := Tryz.zeroValue9
  t26 := Tryz.underlying31
  a26 := Tryz.isAgg31
  z26 := Tryz.sizeOf31
  v26 := Tryz.zeroValue31
  t27 := Tryz.underlying31
  a27 := Tryz.isAgg31
  z27 := Tryz.sizeOf31
  v27 := Tryz.zeroValue31
  t29 := Tryz.underlying9
  a29 := Tryz.isAgg9
  z29 := Tryz.sizeOf9
  v29 := Tryz.zeroValue9
  t32 := Tryz.underlying148
  a32 := Tryz.isAgg148
  z32 := Tryz.sizeOf148
  v32 := Tryz.zeroValue148
  t35 := Tryz.underlying209
  a35 := Tryz.isAgg209
  z35 := Tryz.sizeOf209
  v35 := Tryz.zeroValue209
  t36 := Tryz.underlying210
  a36 := Tryz.isAgg210
  z36 := Tryz.sizeOf210
  v36 := Tryz.zeroValue210
  t41 := Tryz.underlying214
  a41 := Tryz.isAgg214
  z41 := Tryz.sizeOf214
  v41 := Tryz.zeroValue214
  t44 := Tryz.underlying217
  a44 := Tryz.isAgg217
  z44 := Tryz.sizeOf217
  v44 := Tryz.zeroValue217
  t46 := Tryz.underlying219
  a46 := Tryz.isAgg219
  z46 := Tryz.sizeOf219
  v46 := Tryz.zeroValue219
  t53 := Tryz.underlying275
  a53 := Tryz.isAgg275
  z53 := Tryz.sizeOf275
  v53 := Tryz.zeroValue275
  t57 := Tryz.underlying279
  a57 := Tryz.isAgg279
  z57 := Tryz.sizeOf279
  v57 := Tryz.zeroValue279
  t63 := Tryz.underlying323
  a63 := Tryz.isAgg323
  z63 := Tryz.sizeOf323
  v63 := Tryz.zeroValue323
  t64 := Tryz.underlying324
  a64 := Tryz.isAgg324
  z64 := Tryz.sizeOf324
  v64 := Tryz.zeroValue324 }
def Tryz.cloneA_ren : Go.Shelf.Ren := ⟨fun | 5 => 139 | 7 => 220 | n => n, fun | 23 => 162 | 25 => 3 | 3 => 3 | 4 => 4 | 20 => 20 | n => n, fun | n => n⟩
theorem Tryz.cloneA : Go.Proofs.SlLaysW.n5 Tryz.prog Tryz.cloneA_ren := {
  mixed := by kernel_rfl
  f5 := ⟨Tryz.f139.name, by decide, Tryz.func139.trans (congrArg some (by kernel_rfl))⟩
  f7 := Tryz.func220.trans (congrArg some (by kernel_rfl))
  t4 := Tryz.underlying4
  a4 := Tryz.isAgg4
  z4 := Tryz.sizeOf4
  v4 := Tryz.zeroValue4
  t20 := Tryz.underlying20
  a20 := Tryz.isAgg20
  z20 := Tryz.sizeOf20
  v20 := Tryz.zeroValue20
  t23 := Tryz.underlying162
  a23 := Tryz.isAgg162
  z23 := Tryz.sizeOf162
  v23 := Tryz.zeroValue162 }
def Tryz.copyA_ren : Go.Shelf.Ren := ⟨fun | 5 => 219 | n => n, fun | 23 => 162 | 24 => 162 | 26 => 3 | 27 => 3 | 0 => 0 | 4 => 4 | n => n, fun | n => n⟩
theorem Tryz.copyA : Go.Proofs.SlLaysX.n5 Tryz.prog Tryz.copyA_ren := {
  mixed := by kernel_rfl
  f5 := ⟨Tryz.f219.name, by decide, Tryz.func219.trans (congrArg some (by kernel_rfl))⟩
  t0 := Tryz.underlying0
  a0 := Tryz.isAgg0
  z0 := Tryz.sizeOf0
  v0 := Tryz.zeroValue0
  t4 := Tryz.underlying4
  a4 := Tryz.isAgg4
  z4 := Tryz.sizeOf4
  v4 := Tryz.zeroValue4
  t23 := Tryz.underlying162
  a23 := Tryz.isAgg162
  z23 := Tryz.sizeOf162
  v23 := Tryz.zeroValue162
  t24 := Tryz.underlying162
  a24 := Tryz.isAgg162
  z24 := Tryz.sizeOf162
  v24 := Tryz.zeroValue162
  a26 := Tryz.isAgg3
  z26 := Tryz.sizeOf3
  a27 := Tryz.isAgg3
  z27 := Tryz.sizeOf3 }
def Tryz.delA_ren : Go.Shelf.Ren := ⟨fun | 5 => 221 | n => n, fun | 23 => 162 | 26 => 3 | 24 => 3 | 27 => 169 | 0 => 0 | 4 => 4 | n => n, fun | n => n⟩
theorem Tryz.delA : Go.Proofs.SlLaysDf.n5 Tryz.prog Tryz.delA_ren := {
  mixed := by kernel_rfl
  f5 := ⟨Tryz.f221.name, by decide, Tryz.func221.trans (congrArg some (by kernel_rfl))⟩
  t0 := Tryz.underlying0
  a0 := Tryz.isAgg0
  z0 := Tryz.sizeOf0
  v0 := Tryz.zeroValue0
  t4 := Tryz.underlying4
  a4 := Tryz.isAgg4
  z4 := Tryz.sizeOf4
  v4 := Tryz.zeroValue4
  t23 := Tryz.underlying162
  a23 := Tryz.isAgg162
  z23 := Tryz.sizeOf162
  v23 := Tryz.zeroValue162
  a24 := Tryz.isAgg3
  z24 := Tryz.sizeOf3
  a26 := Tryz.isAgg3
  z26 := Tryz.sizeOf3
  t27 := Tryz.underlying169
  a27 := Tryz.isAgg169
  z27 := Tryz.sizeOf169
  v27 := Tryz.zeroValue169 }
def Tryz.cloneB_ren : Go.Shelf.Ren := ⟨fun | 5 => 224 | 7 => 220 | n => n, fun | 23 => 233 | 25 => 9 | 3 => 5 | 4 => 4 | 20 => 20 | n => n, fun | n => n⟩
theorem Tryz.cloneB : Go.Proofs.SlLaysW.n5 Tryz.prog Tryz.cloneB_ren := {
  mixed := by kernel_rfl
  f5 := ⟨Tryz.f224.name, by decide, Tryz.func224.trans (congrArg some (by kernel_rfl))⟩
  f7 := Tryz.func220.trans (congrArg some (by kernel_rfl))
  t4 := Tryz.underlying4
  a4 := Tryz.isAgg4
  z4 := Tryz.sizeOf4
  v4 := Tryz.zeroValue4
  t20 := Tryz.underlying20
  a20 := Tryz.isAgg20
  z20 := Tryz.sizeOf20
  v20 := Tryz.zeroValue20
  t23 := Tryz.underlying233
  a23 := Tryz.isAgg233
  z23 := Tryz.sizeOf233
  v23 := Tryz.zeroValue233 }
def Tryz.cloneC_ren : Go.Shelf.Ren := ⟨fun | 5 => 289 | 7 => 220 | n => n, fun | 23 => 181 | 25 => 9 | 3 => 3 | 4 => 4 | 20 => 20 | n => n, fun | n => n⟩
theorem Tryz.cloneC : Go.Proofs.SlLaysW.n5 Tryz.prog Tryz.cloneC_ren := {
  mixed := by kernel_rfl
  f5 := ⟨Tryz.f289.name, by decide, Tryz.func289.trans (congrArg some (by kernel_rfl))⟩
  f7 := Tryz.func220.trans (congrArg some (by kernel_rfl))
  t4 := Tryz.underlying4
  a4 := Tryz.isAgg4
  z4 := Tryz.sizeOf4
  v4 := Tryz.zeroValue4
  t20 := Tryz.underlying20
  a20 := Tryz.isAgg20
  z20 := Tryz.sizeOf20
  v20 := Tryz.zeroValue20
  t23 := Tryz.underlying181
  a23 := Tryz.isAgg181
  z23 := Tryz.sizeOf181
  v23 := Tryz.zeroValue181 }
def Tryz.keysB_ren : Go.Shelf.Ren := ⟨fun | 7 => 218 | 10 => 265 | n => n, fun | 23 => 220 | 26 => 3 | 3 => 3 | 28 => 227 | 0 => 0 | 27 => 226 | 33 => 38 | 4 => 4 | n => n, fun | n => n⟩
theorem Tryz.keysB : Go.Proofs.SlLaysZI.n7 Tryz.prog Tryz.keysB_ren := {
  mixed := by kernel_rfl
  f7 := ⟨Tryz.f218.name, by decide, Tryz.func218.trans (congrArg some (by kernel_rfl))⟩
  f10 := ⟨Tryz.f265.name, by decide, Tryz.func265.trans (congrArg some (by kernel_rfl))⟩
  t0 := Tryz.underlying0
  a0 := Tryz.isAgg0
  z0 := Tryz.sizeOf0
  v0 := Tryz.zeroValue0
  t4 := Tryz.underlying4
  a4 := Tryz.isAgg4
  z4 := Tryz.sizeOf4
  v4 := Tryz.zeroValue4
  t23 := Tryz.underlying220
  a23 := Tryz.isAgg220
  z23 := Tryz.sizeOf220
  v23 := Tryz.zeroValue220
  t26 := Tryz.underlying3
  a26 := Tryz.isAgg3
  z26 := Tryz.sizeOf3
  v26 := Tryz.zeroValue3
  t27 := Tryz.underlying226
  a27 := Tryz.isAgg226
  z27 := Tryz.sizeOf226
  v27 := Tryz.zeroValue226
  t28 := Tryz.underlying227
  a28 := Tryz.isAgg227
  z28 := Tryz.sizeOf227
  v28 := Tryz.zeroValue227
  t33 := Tryz.underlying38
  a33 := Tryz.isAgg38
  z33 := Tryz.sizeOf38
  v33 := Tryz.zeroValue38 }
end Go.Proofs

/-
  slices.Sort of texts, slices.Sorted at what maps.Keys hands back, maps.Clone, maps.Copy, maps.DeleteFunc at this program: the kit's contracts laid, in the interpreter's words.
-/
set_option linter.unusedSimpArgs false
set_option linter.unusedVariables false
namespace Go.Proofs
open Go.RowKit Go.Maps Go.Sort Go.Shelf

theorem Tryz.sortsA (m : Nat) : AnyZI.SortsIn Tryz.prog Tryz.sortedA_ren Fence.wide m :=
  ⟨fun blk off cap ss W hH hblk hsz => callsIn_wide.2 (AnyM.slices_Sort_int Tryz.sortA blk off cap ss W hH hblk hsz),
   fun p cap W => callsIn_wide.2 (AnyM.slices_Sort_int_none Tryz.sortA p cap W)⟩

theorem Tryz.sortedSays : Go.Rv.SortedSays Tryz.prog 194 257 3 := fun w Bm b nn D0 hBm hm hown hmax hbytes => by
  have hseq : SeqGives Fence.wide 2 Tryz.prog 257 #[.pointer (some ⟨Bm, 0, none⟩)] encZ (fun ss => ss.Perm (intKeys D0)) (Maps.size D0) w :=
    AnyZI.keys_gives (ρ := Tryz.keysA_ren) { Tryz.keysA with } Fence.wide _ trivial rfl (by omega) Bm b nn D0 w hBm hm hown
  have cS := AnyZI.sorted_in Tryz.sortedA Fence.wide 5 trivial trivial trivial trivial rfl (by omega) (Tryz.sortsA _) (enters_of Tryz.func70 (by kernel_rfl) rfl) 257 #[.pointer (some ⟨Bm, 0, none⟩)] trivial (enters_of Tryz.func257 (by kernel_rfl) rfl) (fun ss => ss.Perm (intKeys D0)) (Maps.size D0) hmax hbytes w hseq
  exact (callsIn_wide (n := 5)).1 cS

theorem Tryz.sortedSaysC : Go.Rv.SortedSays Tryz.prog 194 265 3 := fun w Bm b nn D0 hBm hm hown hmax hbytes => by
  have hseq : SeqGives Fence.wide 2 Tryz.prog 265 #[.pointer (some ⟨Bm, 0, none⟩)] encZ (fun ss => ss.Perm (intKeys D0)) (Maps.size D0) w :=
    AnyZI.keys_gives (ρ := Tryz.keysB_ren) { Tryz.keysB with } Fence.wide _ trivial rfl (by omega) Bm b nn D0 w hBm hm hown
  have cS := AnyZI.sorted_in Tryz.sortedA Fence.wide 5 trivial trivial trivial trivial rfl (by omega) (Tryz.sortsA _) (enters_of Tryz.func70 (by kernel_rfl) rfl) 265 #[.pointer (some ⟨Bm, 0, none⟩)] trivial (enters_of Tryz.func265 (by kernel_rfl) rfl) (fun ss => ss.Perm (intKeys D0)) (Maps.size D0) hmax hbytes w hseq
  exact (callsIn_wide (n := 5)).1 cS

theorem Tryz.strSays : Go.Rv.StrSortSays Tryz.prog 183 :=
  ⟨fun blk off cap ss w hH hb hs => AnyM.slices_Sort_string Tryz.sortT blk off cap ss w hH hb hs, fun p cap w => AnyM.slices_Sort_string_none Tryz.sortT p cap w⟩

theorem Tryz.cloneSays : Go.Rv.CloneSays Tryz.prog 139 := fun w b en cl hb => AnyW.maps_Clone Tryz.cloneA b en cl w hb

theorem Tryz.law3 : Keyed Tryz.prog 3 := int_keyed Tryz.underlying3

theorem Tryz.copySays : Go.Rv.CopySays Tryz.prog 219 3 := fun w bd bs nd ns Dd Ds hd hs hne hroom =>
  (AnyX.maps_Copy Tryz.copyA Tryz.law3 _ bd bs nd ns Dd Ds w hd hs hne hroom).mono fun e w' ⟨he, h1, _, h3⟩ => ⟨he, h1, h3⟩

theorem Tryz.intPlain : (Go.Rv.intR : Value → Option (DataW Unit × List MemPlace)) = plainElem Tryz.prog 3 := by
  funext v
  unfold plainElem
  rw [Tryz.underlying3]
  cases v <;> first | rfl | skip
  rename_i k n
  cases k <;> simp [Go.Rv.intR]

set_option maxHeartbeats 1000000 in
set_option maxRecDepth 100000 in
theorem Tryz.cut_any (W : World) (key val : Value) (kl : Lit) (bm bt nt : Nat) (Dt : DataW Unit) (hcell : W.cell? ⟨bm, 0, none⟩ = some (.map (some bt))) (hown : W.ownsMap Tryz.prog 3 (plainElem Tryz.prog 3) bt nt Dt) (hkey : keyOf Tryz.prog 3 key = some kl) :
    Calls Tryz.prog 222 (#[key, val] ++ #[.pointer (some ⟨bm, 0, none⟩)]) W fun e w' => e = .returned (.bool (match Dt.atKey kl (.lit (.int .i64 0)) with | .lit (.int _ z) => z == 0 | _ => false)) ∧ w' = W := by
  go_enter Tryz.func222, Tryz.ntmps222
  go_wp2_with (first
    | (at_lookup; refine wpList_lookup_own_int _ rfl _ _ 162 rfl 3 3 .i64 Tryz.law3 Tryz.underlying162 Tryz.underlying3 (Tryz.zeroValue3 _) bt nt Dt rfl hown _ _ rfl hkey ?_; intro c hat hwc)
    | go_in)
  go_ret
  · rename_i q z hq
    refine ⟨(?_ : Ending.returned (.bool (c == 0)) = _), rfl⟩
    rw [hat] at hq
    injection hq with hq
    injection hq with _ hq
    rw [hq]
  · rename_i hno
    exact absurd hat (hno _ _)

theorem Tryz.strikeSays : Go.Rv.StrikeSays Tryz.prog 221 222 3 := fun w b n nt bm bt D Dt hown hbm hbt hcell hownt => by
  have eg : ∀ args w, (callFunc 222 args).run Tryz.prog w = .ok (.enter 222 args) w := enters_of Tryz.func222 (by kernel_rfl) rfl
  refine AnyDf.maps_DeleteFunc Tryz.delA Tryz.law3 _ _ 222 _ b n D w eg hown fun W key val kl yd yp hg hkey hv => ?_
  have h1 : W.cell? ⟨bm, 0, none⟩ = some (.map (some bt)) := hg.cell hcell (fun e => hbm (Option.some.inj e).symm)
  have h2 := hownt.kept hg (fun e => hbt (Option.some.inj e).symm)
  rw [Tryz.intPlain] at h2
  exact (Tryz.cut_any W key val kl bm bt nt Dt h1 h2 hkey).mono fun e w' ⟨he, hw⟩ => ⟨he, hw ▸ World.grownBy.refl _ _⟩
theorem Tryz.cloneSaysB : Go.Rv.CloneSays Tryz.prog 224 := fun w b en cl hb => AnyW.maps_Clone Tryz.cloneB b en cl w hb
theorem Tryz.cloneSaysC : Go.Rv.CloneSays Tryz.prog 289 := fun w b en cl hb => AnyW.maps_Clone Tryz.cloneC b en cl w hb
end Go.Proofs
