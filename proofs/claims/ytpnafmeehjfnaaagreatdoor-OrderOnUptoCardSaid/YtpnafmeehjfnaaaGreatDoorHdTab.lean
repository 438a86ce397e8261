/-
  What the interpreter is told at this program; the variables that the rows list; library functions taken at one step.
-/
import Derived.Test.YtpnafmeehjfnaaaGreatDoorRows
import Derived.Test.YtpnafmeehjfnaaaGreatDoorHeldSorted
import Derived.Test.YtpnafmeehjfnaaaGreatDoorRvBox
import Derived.LaidMore
import Derived.KernelRfl
set_option linter.unusedSimpArgs false
set_option linter.unusedVariables false
namespace Go.Proofs.YtpnafmeehjfnaaaGreatDoor
open Go.Rv
noncomputable section
def im (f t : Nat) : Bool := match f with
  | 5 => match t with | 60 => true | 69 => true | _ => false
  | 6 => match t with | 33 => true | _ => false
  | 7 => match t with | 39 => true | _ => false
  | 8 => match t with | 1 => true | 38 => true | _ => false
  | 15 => match t with | 1 => true | 56 => true | _ => false
  | 16 => match t with | 3 => true | 41 => true | _ => false
  | 18 => match t with | 3 => true | 73 => true | _ => false
  | 22 => match t with | 79 => true | _ => false
  | 23 => match t with | 1 => true | _ => false
  | 24 => match t with | 1 => true | 25 => true | 40 => true | _ => false
  | 26 => match t with | 1 => true | 18 => true | _ => false
  | 27 => match t with | 4 => true | 5 => true | 35 => true | 42 => true | 70 => true | _ => false
  | 28 => match t with | 2 => true | _ => false
  | 31 => match t with | 2 => true | 3 => true | _ => false
  | 36 => match t with | 2 => true | _ => false
  | 40 => match t with | 41 => true | _ => false
  | 41 => match t with | 1 => true | 18 => true | 35 => true | _ => false
  | 42 => match t with | 1 => true | 18 => true | _ => false
  | 44 => match t with | 1 => true | _ => false
  | 46 => match t with | 2 => true | _ => false
  | 47 => match t with | 2 => true | 3 => true | _ => false
  | 48 => match t with | 1 => true | 37 => true | _ => false
  | 50 => match t with | 2 => true | 3 => true | _ => false
  | 54 => match t with | 4 => true | 5 => true | _ => false
  | 55 => match t with | 2 => true | 3 => true | _ => false
  | 72 => match t with | 3 => true | _ => false
  | 73 => match t with | 3 => true | 4 => true | 5 => true | _ => false
  | 106 => match t with | 1 => true | _ => false
  | 107 => match t with | 2 => true | 3 => true | _ => false
  | 108 => match t with | 2 => true | _ => false
  | 109 => match t with | 4 => true | 5 => true | 6 => true | 7 => true | _ => false
  | 110 => match t with | 1 => true | 27 => true | 34 => true | _ => false
  | 111 => match t with | 1 => true | _ => false
  | 113 => match t with | 10 => true | _ => false
  | 140 => match t with | 1 => true | _ => false
  | _ => false
def lo (f t : Nat) : List Nat := match f with
  | 16 => match t with | 42 => [1, 2] | _ => []
  | 21 => match t with | 73 => [3, 4, 5] | _ => []
  | 24 => match t with | 24 => [0] | _ => []
  | 27 => match t with | 30 => [1, 2, 3, 4, 5, 9, 10] | 33 => [1, 2, 3, 4, 5] | 52 => [8, 9, 10, 11, 12] | _ => []
  | 31 => match t with | 9 => [5, 6, 7, 8, 10, 11, 12, 13, 15, 16, 17, 18] | 14 => [10, 11, 12, 13, 15, 16, 17, 18] | 19 => [15, 16, 17, 18] | _ => []
  | 50 => match t with | 9 => [5, 6, 7, 8, 10, 11, 12, 13, 15, 16, 17, 18, 20, 21, 22, 23] | 14 => [10, 11, 12, 13, 15, 16, 17, 18, 20, 21, 22, 23] | 19 => [15, 16, 17, 18, 20, 21, 22, 23] | 24 => [20, 21, 22, 23] | _ => []
  | 54 => match t with | 13 => [3, 4] | 1025 => [3, 4] | _ => []
  | _ => []
def pu (f : Nat) : Bool := false
def qt (f t : Nat) : Bool := false
def lv (f r : Nat) : Option (List Nat) := match f with
  | 25 => match r with | 6 => some [0, 1, 5, 27] | _ => none
  | _ => none

def litAV : Nat → DataW Unit → List AV
  | 0, _ => []
  | _ + 1, .lit (.bool b) => [.bool b]
  | _ + 1, .lit (.int k n) => [.int k n]
  | _ + 1, .lit (.string l) => [.str l]
  | n + 1, .agg ds => (ds.map (litAV n)).flatten
  | _, _ => []
def glb (g : Nat) : Option AV := match g with
  | 0 => some (.ref (litAV 5 Rows.laid_bobbin_tree_reserved))
  | 1 => some (.ref (litAV 5 Rows.laid_bobbin_code_ops))
  | _ => none
def rnd (f : Nat) : Bool := match f with
  | 25 => true
  | _ => false
noncomputable def steps : Taken := fun f => match f with
  | 52 => some (cloneF, cloneMap)
  | 56 => some (sortedMF 81, sortedKeysM 81)
  | 63 => some (sortStrF, sortStr)
  | 75 => some (copyF, copyMap)
  | 77 => some (strikeF 78, strikeMap 78)
  | _ => none
noncomputable def told0 : RvTold := { pure := pu, imm := im, quiet := qt, loose := lo, glob := glb, live := lv, rounds := rnd, prim := steps.p }
noncomputable def cfg0 : Cfg := told0.cfg Tryz.prog
def lawLaid : List (String × DataW Unit) := Rows.heldNamesRow.laid
theorem ownKnob0 : ownKnob Tryz.prog.godebug = none := by kernel_rfl
theorem mixed0 : Tryz.prog.follows .mixedOrders = true := by kernel_rfl
theorem steps_twins : ∀ f q p, steps f = some (q, p) → TwinP q p := fun f q p h => by
  unfold steps at h
  split at h <;> first | (cases h; done) | skip
  · injection h with h; injection h with h1 h2; subst h1 h2; exact clone_twin
  · injection h with h; injection h with h1 h2; subst h1 h2; exact sortedM_twin _
  · injection h with h; injection h with h1 h2; subst h1 h2; exact sortStr_twin
  · injection h with h; injection h with h1 h2; subst h1 h2; exact copy_twin
  · injection h with h; injection h with h1 h2; subst h1 h2; exact strike_twin _
theorem steps_ok {C : Cfg} : ∀ f q p, steps f = some (q, p) → Known Tryz.prog f ∧ ∀ args h res h', p args h = some (res, h') → ∀ s w vs, Rel s h w → Glob C s h w → VRs s h w args vs → CallOk Tryz.prog f vs s h w res h' := fun f q p h => by
  unfold steps at h
  split at h <;> first | (cases h; done) | skip
  · injection h with h; injection h with h1 h2; subst h1 h2
    exact ⟨⟨_, _, Tryz.func52, rfl, by kernel_rfl⟩, fun args h res h' hc s w vs R _ H => cloneMap_ok Tryz.cloneSays hc R H⟩
  · injection h with h; injection h with h1 h2; subst h1 h2
    exact ⟨⟨_, _, Tryz.func56, rfl, by kernel_rfl⟩, fun args h res h' hc s w vs R _ H => sortedKeysM_ok Tryz.sortedSays (by kernel_rfl) hc R H⟩
  · injection h with h; injection h with h1 h2; subst h1 h2
    exact ⟨⟨_, _, Tryz.func63, rfl, by kernel_rfl⟩, fun args h res h' hc s w vs R _ H => sortStr_ok Tryz.strSays hc R H⟩
  · injection h with h; injection h with h1 h2; subst h1 h2
    exact ⟨⟨_, _, Tryz.func75, rfl, by kernel_rfl⟩, fun args h res h' hc s w vs R _ H => copyMap_ok Tryz.copySays (by kernel_rfl) hc R H⟩
  · injection h with h; injection h with h1 h2; subst h1 h2
    exact ⟨⟨_, _, Tryz.func77, rfl, by kernel_rfl⟩, fun args h res h' hc s w vs R _ H => strikeMap_ok Tryz.strikeSays (by kernel_rfl) hc R H⟩
theorem prims0 : PrimOk Tryz.prog cfg0 := prims_of (S := steps) rfl (fun _ => rfl) steps_ok
theorem plainly0 : Plainly cfg0 := ⟨fun _ => rfl, fun _ => rfl, fun _ _ => rfl⟩
theorem glb_close : ∀ g v, glb g = some v → ∀ h, freezeV h 0 40 v = some v := fun g v hg h => by
  unfold glb at hg
  split at hg
  · injection hg with hg; subst hg; exact congrFun (show (fun h => freezeV h 0 40 (.ref (litAV 5 Rows.laid_bobbin_tree_reserved))) = (fun h => some (.ref (litAV 5 Rows.laid_bobbin_tree_reserved))) by kernel_rfl) h
  · injection hg with hg; subst hg; exact congrFun (show (fun h => freezeV h 0 40 (.ref (litAV 5 Rows.laid_bobbin_code_ops))) = (fun h => some (.ref (litAV 5 Rows.laid_bobbin_code_ops))) by kernel_rfl) h
  · cases hg
theorem glb_ne : ∀ g v, glb g = some v → v ≠ .junk := fun g v hg => by
  unfold glb at hg
  split at hg <;> first | (cases hg; done) | skip
  · injection hg with hg; subst hg; intro h; cases h
  · injection hg with hg; subst hg; intro h; cases h
theorem glb_laid {w : World} (hL : laidMetH Tryz.prog lawLaid w) : ∀ g v, glb g = some v → v ≠ .junk ∧ VR (old w) [] w v (.pointer (some ⟨g, 0, none⟩)) := fun g v hg => by
  rw [MakeChecks.laidMetH_plain _ _ _ (by kernel_rfl)] at hL
  obtain ⟨ps, ⟨_, _, _, _, _, _, _, _, _, _, ⟨g1, t1, cs1, fuel1, p1, q1, hg1, ht1, hv1, hd1, ⟨g2, t2, cs2, fuel2, p2, q2, hg2, ht2, hv2, hd2, _, _⟩, _⟩, _⟩, _, _⟩ := hL
  unfold glb at hg
  split at hg
  · injection hg with hg; subst hg
    obtain rfl := Option.some.inj ((show Tryz.prog.globalNamed (lawLaid.getD 1 default).1 = some 0 by kernel_rfl).symm.trans hg1)
    exact glob_rel hg1 hv1 hd1 (by obtain rfl := Option.some.inj (ht1.symm.trans (show (Tryz.prog.globals[0]?).map (·.type) = some 154 by kernel_rfl)); kernel_rfl)
  · injection hg with hg; subst hg
    obtain rfl := Option.some.inj ((show Tryz.prog.globalNamed (lawLaid.getD 2 default).1 = some 1 by kernel_rfl).symm.trans hg2)
    exact glob_rel hg2 hv2 hd2 (by obtain rfl := Option.some.inj (ht2.symm.trans (show (Tryz.prog.globals[1]?).map (·.type) = some 190 by kernel_rfl)); kernel_rfl)
  · cases hg
theorem law_no_args {H : Type} {enc : TypeId × Value → H} {W : World} {vs : List Value} {ds : List (DataW H)} {p : List MemPlace} (h : DataW.TrodAll enc Tryz.prog W 0 (fun _ => true) true [] vs ds p) : vs = [] ∧ ds = [] ∧ p = [] := by
  cases vs with
  | nil => cases ds with
    | nil => exact ⟨rfl, rfl, by simpa [DataW.TrodAll] using h⟩
    | cons => simp [DataW.TrodAll] at h
  | cons => simp [DataW.TrodAll] at h
/-- Functions whose orders are looked at. -/
def okl : List Nat := [3, 4, 8, 9, 10, 11, 12, 13, 14, 15, 16, 17, 18, 19, 23, 24, 25, 26, 27, 28, 29, 30, 31, 32, 33, 34, 35, 36, 37, 38, 39, 41, 42, 43, 44, 45, 46, 47, 48, 49, 50, 51, 53, 54, 55, 57, 58, 59, 60, 61, 62, 64, 65, 66, 67, 68, 69, 70, 71, 72, 73, 74, 78, 79, 81, 82, 83, 84, 85, 86, 87, 88, 89, 90, 91, 92, 93, 94, 95, 96, 97, 98, 99, 100, 102, 103, 104, 105, 106, 107, 108, 109, 110, 111, 112, 114, 115, 116, 117, 118, 119, 120, 121, 131, 132, 133, 134, 135, 136, 137, 138, 139, 140, 141, 142, 143, 148, 149, 150, 151, 152, 154, 155, 156, 157, 158, 159, 161]
end
end Go.Proofs.YtpnafmeehjfnaaaGreatDoor
