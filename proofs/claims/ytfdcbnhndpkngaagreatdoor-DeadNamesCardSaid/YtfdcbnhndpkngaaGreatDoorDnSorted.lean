/-
  slices.Sort of texts, slices.Sorted at what maps.Keys hands back, maps.Clone, maps.Copy, maps.DeleteFunc at this program: the kit's contracts laid, in the interpreter's words.
-/
import Derived.Test.YtfdcbnhndpkngaaGreatDoorDnPlain
import Derived.Test.YtfdcbnhndpkngaaGreatDoorPtG
import Derived.Test.YtfdcbnhndpkngaaGreatDoorPtF
import Derived.Test.YtfdcbnhndpkngaaGreatDoorPtF
import Derived.WalkKit
import Derived.Maps.OwnOps
import Derived.Maps.AppendAt
set_option linter.unusedSimpArgs false
set_option linter.unusedVariables false
namespace Go.Proofs
open Go.RowKit Go.Maps Go.Sort Go.Shelf

theorem Tryz.sortsA (m : Nat) : AnyZI.SortsIn Tryz.prog Tryz.sortedA_ren Fence.wide m :=
  ⟨fun blk off cap ss W hH hblk hsz => callsIn_wide.2 (AnyM.slices_Sort_int Tryz.sortA blk off cap ss W hH hblk hsz),
   fun p cap W => callsIn_wide.2 (AnyM.slices_Sort_int_none Tryz.sortA p cap W)⟩

theorem Tryz.sortedSays : Go.Rv.SortedSays Tryz.prog 194 257 3 := fun w Bm b nn D0 hBm hm hown hmax hbytes => by
  have hseq : SeqGives Fence.wide 2 Tryz.prog 257 #[.pointer (some ⟨Bm, 0, none⟩)] encZ (fun ss => ss.Perm (intKeys D0)) (Maps.size D0) w :=
    AnyZI.keys_gives (ρ := Tryz.keysA_ren) { Tryz.keysA with } Fence.wide _ trivial rfl (by omega) Bm b nn D0 w hBm hm hown
  have cS := AnyZI.sorted_in Tryz.sortedA Fence.wide 5 trivial trivial trivial trivial rfl (by omega) (Tryz.sortsA _) (enters_of Tryz.func70 (by kernel_rfl) rfl) 257 #[.pointer (some ⟨Bm, 0, none⟩)] trivial (enters_of Tryz.func257 (by kernel_rfl) rfl) (fun ss => ss.Perm (intKeys D0)) (Maps.size D0) hmax hbytes w hseq
  exact (callsIn_wide (n := 5)).1 cS

theorem Tryz.strSays : Go.Rv.StrSortSays Tryz.prog 183 :=
  ⟨fun blk off cap ss w hH hb hs => AnyM.slices_Sort_string Tryz.sortT blk off cap ss w hH hb hs, fun p cap w => AnyM.slices_Sort_string_none Tryz.sortT p cap w⟩

theorem Tryz.cloneSays : Go.Rv.CloneSays Tryz.prog 139 := fun w b en cl hb => AnyW.maps_Clone Tryz.cloneA b en cl w hb

theorem Tryz.law3 : Keyed Tryz.prog 3 := int_keyed Tryz.underlying3

theorem Tryz.copySays : Go.Rv.CopySays Tryz.prog 219 3 := fun w bd bs nd ns Dd Ds hd hs hne hroom =>
  (AnyX.maps_Copy Tryz.copyA Tryz.law3 _ bd bs nd ns Dd Ds w hd hs hne hroom).mono fun e w' ⟨he, h1, _, h3⟩ => ⟨he, h1, h3⟩

theorem Tryz.intPlain : (Go.Rv.intR : Value → Option (DataW Unit × List MemPlace)) = plainElem Tryz.prog 3 := by
  funext v
  unfold plainElem
  rw [Tryz.underlying3]
  cases v <;> first | rfl | skip
  rename_i k n
  cases k <;> simp [Go.Rv.intR]

set_option maxHeartbeats 1000000 in
set_option maxRecDepth 100000 in
theorem Tryz.cut_any (W : World) (key val : Value) (kl : Lit) (bm bt nt : Nat) (Dt : DataW Unit) (hcell : W.cell? ⟨bm, 0, none⟩ = some (.map (some bt))) (hown : W.ownsMap Tryz.prog 3 (plainElem Tryz.prog 3) bt nt Dt) (hkey : keyOf Tryz.prog 3 key = some kl) :
    Calls Tryz.prog 222 (#[key, val] ++ #[.pointer (some ⟨bm, 0, none⟩)]) W fun e w' => e = .returned (.bool (match Dt.atKey kl (.lit (.int .i64 0)) with | .lit (.int _ z) => z == 0 | _ => false)) ∧ w' = W := by
  go_enter Tryz.func222, Tryz.ntmps222
  go_wp2_with (first
    | (at_lookup; refine wpList_lookup_own_int _ rfl _ _ 162 rfl 3 3 .i64 Tryz.law3 Tryz.underlying162 Tryz.underlying3 (Tryz.zeroValue3 _) bt nt Dt rfl hown _ _ rfl hkey ?_; intro c hat hwc)
    | go_in)
  go_ret
  · rename_i q z hq
    refine ⟨(?_ : Ending.returned (.bool (c == 0)) = _), rfl⟩
    rw [hat] at hq
    injection hq with hq
    injection hq with _ hq
    rw [hq]
  · rename_i hno
    exact absurd hat (hno _ _)

theorem Tryz.strikeSays : Go.Rv.StrikeSays Tryz.prog 221 222 3 := fun w b n nt bm bt D Dt hown hbm hbt hcell hownt => by
  have eg : ∀ args w, (callFunc 222 args).run Tryz.prog w = .ok (.enter 222 args) w := enters_of Tryz.func222 (by kernel_rfl) rfl
  refine AnyDf.maps_DeleteFunc Tryz.delA Tryz.law3 _ _ 222 _ b n D w eg hown fun W key val kl yd yp hg hkey hv => ?_
  have h1 : W.cell? ⟨bm, 0, none⟩ = some (.map (some bt)) := hg.cell hcell (fun e => hbm (Option.some.inj e).symm)
  have h2 := hownt.kept hg (fun e => hbt (Option.some.inj e).symm)
  rw [Tryz.intPlain] at h2
  exact (Tryz.cut_any W key val kl bm bt nt Dt h1 h2 hkey).mono fun e w' ⟨he, hw⟩ => ⟨he, hw ▸ World.grownBy.refl _ _⟩
theorem Tryz.cloneSaysB : Go.Rv.CloneSays Tryz.prog 224 := fun w b en cl hb => AnyW.maps_Clone Tryz.cloneB b en cl w hb
theorem Tryz.cloneSaysC : Go.Rv.CloneSays Tryz.prog 289 := fun w b en cl hb => AnyW.maps_Clone Tryz.cloneC b en cl w hb
end Go.Proofs
