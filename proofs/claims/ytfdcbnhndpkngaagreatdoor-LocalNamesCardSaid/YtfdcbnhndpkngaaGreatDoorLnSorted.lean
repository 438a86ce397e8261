/-
  slices.Sort of texts and maps.Clone at this program: the kit's contracts laid, in the interpreter's words.
-/
import Derived.Test.YtfdcbnhndpkngaaGreatDoorLnPlain
import Derived.Test.YtfdcbnhndpkngaaGreatDoorPtF
import Derived.Test.YtfdcbnhndpkngaaGreatDoorPtF
import Derived.WalkKit
import Derived.Maps.OwnOps
import Derived.Maps.AppendAt
set_option linter.unusedSimpArgs false
set_option linter.unusedVariables false
namespace Go.Proofs
open Go.RowKit Go.Maps Go.Sort Go.Shelf

theorem Tryz.strSays : Go.Rv.StrSortSays Tryz.prog 183 :=
  ⟨fun blk off cap ss w hH hb hs => AnyM.slices_Sort_string Tryz.sortT blk off cap ss w hH hb hs, fun p cap w => AnyM.slices_Sort_string_none Tryz.sortT p cap w⟩
theorem Tryz.cloneSaysA : Go.Rv.CloneSays Tryz.prog 139 := fun w b en cl hb => AnyW.maps_Clone Tryz.cloneA b en cl w hb
theorem Tryz.cloneSaysB : Go.Rv.CloneSays Tryz.prog 224 := fun w b en cl hb => AnyW.maps_Clone Tryz.cloneB b en cl w hb
theorem Tryz.cloneSaysC : Go.Rv.CloneSays Tryz.prog 289 := fun w b en cl hb => AnyW.maps_Clone Tryz.cloneC b en cl w hb
end Go.Proofs
