/-
  What closes a card of this family: the listed variables, the witness's world, an argument that reads as it did.
-/
import Derived.Test.YtlimadookjcbmaaGreatDoorPtQ
import Derived.Test.YtlimadookjcbmaaGreatDoorPtH
import Derived.Test.YtlimadookjcbmaaGreatDoorTie
import Derived.Test.YtlimadookjcbmaaGreatDoorCards
import Derived.ProofKit
import Derived.LaidMore
import Derived.Lay
import Derived.SevenTiedAt
import Derived.Stop.Joined
import Derived.Deep.DeepHandedRow
set_option linter.unusedSectionVars false
set_option linter.unusedSimpArgs false
set_option linter.unusedVariables false
set_option linter.defProp false
set_option maxRecDepth 100000
namespace Go.Proofs.Sx
open Go.Rv Go.Proofs Go.Proofs.YtlimadookjcbmaaGreatDoor Go.ChangeShapes Go.WideShapes Go.ChangeAt Go.RowKit
noncomputable section
def lawLaid : List (String × DataW Unit) := Rows.runOnUptoRow.laid
theorem lawOwn : ownKnob Tryz.prog.godebug = none := by kernel_rfl
theorem sx_close : ∀ g v, told.glob g = some v → ∀ h, freezeV h 0 40 v = some v := fun g v hg h => by
  have hg : glb g = some v := hg
  unfold glb at hg
  split at hg
  · injection hg with hg; subst hg; exact congrFun (show (fun h => freezeV h 0 40 (.ref wordCells)) = (fun h => some (.ref wordCells)) by kernel_rfl) h
  · injection hg with hg; subst hg; exact congrFun (show (fun h => freezeV h 0 40 (.ref opCells)) = (fun h => some (.ref opCells)) by kernel_rfl) h
  · cases hg
theorem sx_glob {w : World} (hL : laidMetH Tryz.prog lawLaid w) : ∀ g v, told.glob g = some v → v ≠ .junk ∧ VR (old w) [] w v (.pointer (some ⟨g, 0, none⟩)) := fun g v hg => by
  have hg : glb g = some v := hg
  rw [MakeChecks.laidMetH_plain _ _ _ (by kernel_rfl)] at hL
  obtain ⟨ps, ⟨_, _, _, _, _, _, _, _, _, _, ⟨g1, t1, cs1, fuel1, p1, q1, hg1, ht1, hv1, hd1, ⟨g2, t2, cs2, fuel2, p2, q2, hg2, ht2, hv2, hd2, _, _⟩, _⟩, _⟩, _, _⟩ := hL
  unfold glb at hg
  split at hg
  · injection hg with hg; subst hg
    obtain rfl := Option.some.inj ((show Tryz.prog.globalNamed (lawLaid.getD 1 default).1 = some 0 by kernel_rfl).symm.trans hg1)
    have := ht1
    exact glob_rel hg1 hv1 hd1 (by obtain rfl := Option.some.inj (ht1.symm.trans (show (Tryz.prog.globals[0]?).map (·.type) = some 148 by kernel_rfl)); kernel_rfl)
  · injection hg with hg; subst hg
    obtain rfl := Option.some.inj ((show Tryz.prog.globalNamed (lawLaid.getD 2 default).1 = some 1 by kernel_rfl).symm.trans hg2)
    exact glob_rel hg2 hv2 hd2 (by obtain rfl := Option.some.inj (ht2.symm.trans (show (Tryz.prog.globals[1]?).map (·.type) = some 190 by kernel_rfl)); kernel_rfl)
  · cases hg
def lawWorld (os : Os) : World := World.laidAll Tryz.prog os lawLaid
theorem law_met (os : Os) (args : Array Value) : laidMet Tryz.prog lawLaid ((lawWorld os).forCall (fun _ _ => 0) ⟨#[], args, []⟩).memory := laidMet_laidAll args (by kernel_rfl) (by kernel_rfl)
def noProg : Value := .agg #[.slice none 0 0, .slice none 0 0, .slice none 0 0]
theorem stays {H : Type} {enc : TypeId × Value → H} {W W' : World} {v : Value} {d : DataW H} {ps : List MemPlace} {sp : Nat → Bool} (h : DataW.Trod enc Tryz.prog W 0 (fun _ => true) true 26 v d ps) (hb : Below W.heap.size W W') (hlt : ∀ x ∈ ps, x.block < W.heap.size) (hsp : ∀ x ∈ ps, sp x.block = true) :
    DataW.Trod enc Tryz.prog W' 0 sp true 26 v d ps := WideElems.Trod_stays (by kernel_rfl) (by kernel_rfl) (by show 26 < Tryz.prog.types.size; decide +kernel) h (fun x hx => hb.same (hlt x hx)) hsp
end
end Go.Proofs.Sx
namespace Go.Proofs.Sx
open Go.Rv Go.Proofs
noncomputable section
theorem able_end {p : SProg} {σ : SSt} (h : σ.ending ≠ 0) : ableL p σ = [] := by
  unfold ableL
  rw [List.filter_eq_nil_iff]
  intro t _
  rw [canB_end h]; simp
def OutP (σ : SSt) (x : SSt × Bool) : Prop := σ.out <+: x.1.out
theorem out_becomes (σ : SSt) (t : Nat) (rest : List SFrame) (f : SFrame) (r : Int) : ∀ o, OutP σ (becomesS σ t rest f r o)
  | none => List.prefix_rfl
  | some _ => List.prefix_rfl
theorem exe_out (p : SProg) (σ : SSt) (t : Nat) (rest : List SFrame) (f : SFrame) (i : SIns) : OutP σ (exeS p σ t rest f i) := by
  unfold exeS
  repeat' refine ite_p ?_ ?_
  all_goals first | exact out_becomes .. | exact (List.prefix_rfl : σ.out <+: σ.out) | exact (List.prefix_append .. : σ.out <+: σ.out ++ _) | skip
  cases rest.getLast? <;> exact (List.prefix_rfl : σ.out <+: σ.out)
theorem endS_out (p : SProg) (σ : SSt) : (endS p σ).out = σ.out := by
  unfold endS
  by_cases h1 : σ.ending ≠ 0
  · rw [if_pos h1]
  · rw [if_neg h1]
    by_cases h2 : (σ.thr.all fun x => x.isEmpty) = true
    · rw [if_pos h2]
    · rw [if_neg h2]
      by_cases h3 : ableL p σ = []
      · rw [if_pos h3]
      · rw [if_neg h3]
theorem step_out (p : SProg) (σ : SSt) (t : Nat) : σ.out <+: (stepS p σ t).out := by
  unfold stepS
  cases ht : σ.top t with
  | none => exact List.prefix_rfl
  | some f =>
    simp only
    cases hi : insAt p f with
    | none => exact List.prefix_rfl
    | some i =>
      simp only [endS_out]
      exact exe_out ..
theorem pick_none {p : SProg} {σ : SSt} {l : List Int} (h : ableL p σ = []) (row : List Int) : ∀ (d i : Nat), runGo (goPick p l) false d i σ row = (σ, row)
  | 0, _ => rfl
  | d + 1, i => by
    conv => lhs; unfold runGo goPick
    rw [if_pos h]
    rfl
theorem pick_some {p : SProg} {σ : SSt} {l : List Int} (h : ableL p σ ≠ []) (d i : Nat) (row : List Int) : runGo (goPick p l) false (d + 1) i σ row = runGo (goPick p l) false d (i + 1) (stepS p σ (pickN p σ (l.getD i 0))) (row ++ [(pickN p σ (l.getD i 0) : Int)]) := by
  conv => lhs; unfold runGo
  simp only [show goPick p l σ i = ((pickN p σ (l.getD i 0) : Int), 0, stepS p σ (pickN p σ (l.getD i 0))) by unfold goPick; rw [if_neg h]]
  rfl
theorem pick_congr {p : SProg} {l l' : List Int} : ∀ (d i : Nat) (σ : SSt) (row : List Int), (∀ j, i ≤ j → j < i + d → l.getD j 0 = l'.getD j 0) → runGo (goPick p l) false d i σ row = runGo (goPick p l') false d i σ row
  | 0, _, _, _, _ => rfl
  | d + 1, i, σ, row, h => by
    by_cases ha : ableL p σ = []
    · rw [pick_none ha, pick_none ha]
    · rw [pick_some ha, pick_some ha, h i (Nat.le_refl _) (by omega)]
      exact pick_congr d (i + 1) _ _ fun j h1 h2 => h j (by omega) (by omega)
theorem pick_pre {p : SProg} {l : List Int} : ∀ (d i : Nat) (σ : SSt) (row : List Int), ∃ r, (runGo (goPick p l) false d i σ row).2 = row ++ r ∧ r.length ≤ d ∧ σ.out <+: (runGo (goPick p l) false d i σ row).1.out
  | 0, _, σ, row => ⟨[], by simp [runGo], Nat.le_refl _, List.prefix_rfl⟩
  | d + 1, i, σ, row => by
    by_cases ha : ableL p σ = []
    · rw [pick_none ha]; exact ⟨[], by simp, by simp, List.prefix_rfl⟩
    · rw [pick_some ha]
      obtain ⟨r, h1, h2, h3⟩ := pick_pre d (i + 1) (stepS p σ (pickN p σ (l.getD i 0))) (row ++ [(pickN p σ (l.getD i 0) : Int)])
      exact ⟨(pickN p σ (l.getD i 0) : Int) :: r, by rw [h1]; simp, by simp; omega, (step_out p σ _).trans h3⟩
theorem pick_add {p : SProg} {l : List Int} (m : Nat) : ∀ (k i : Nat) (σ : SSt) (row : List Int),
    ((runGo (goPick p l) false k i σ row).2.length = row.length + k ∧ runGo (goPick p l) false (k + m) i σ row = runGo (goPick p l) false m (i + k) (runGo (goPick p l) false k i σ row).1 (runGo (goPick p l) false k i σ row).2) ∨
    runGo (goPick p l) false (k + m) i σ row = runGo (goPick p l) false k i σ row
  | 0, i, σ, row => .inl ⟨rfl, by rw [Nat.zero_add]; rfl⟩
  | k + 1, i, σ, row => by
    by_cases ha : ableL p σ = []
    · rw [pick_none ha, pick_none ha]; exact .inr rfl
    · rw [show k + 1 + m = k + m + 1 by omega, pick_some ha, pick_some ha]
      rcases pick_add m k (i + 1) (stepS p σ (pickN p σ (l.getD i 0))) (row ++ [(pickN p σ (l.getD i 0) : Int)]) with ⟨h1, h2⟩ | h
      · refine .inl ⟨by rw [h1]; simp; omega, ?_⟩
        rw [h2, show i + 1 + k = i + (k + 1) by omega]
      · exact .inr h
theorem pick_ok {p : SProg} (P : ProgOk p) {l : List Int} : ∀ (d i K : Nat) (σ : SSt) (row : List Int), SOk p K σ → Good σ → SOk p (K + d) (runGo (goPick p l) false d i σ row).1 ∧ Good (runGo (goPick p l) false d i σ row).1
  | 0, _, _, _, _, W, G => ⟨W, G⟩
  | d + 1, i, K, σ, row, W, G => by
    by_cases ha : ableL p σ = []
    · rw [pick_none ha]; exact ⟨W.up (by omega), G⟩
    · rw [pick_some ha]
      obtain ⟨a, b⟩ := pick_ok P (l := l) d (i + 1) (K + 1) (stepS p σ (pickN p σ (l.getD i 0))) (row ++ [(pickN p σ (l.getD i 0) : Int)]) (step_ok P W _) (G.step W _)
      rw [show K + 1 + d = K + (d + 1) by omega] at a
      exact ⟨a, b⟩
theorem like_of {p : SProg} {l : List Int} : ∀ (k i : Nat) (σ : SSt) (row r : List Int), (runGo (goPick p l) false k i σ row).2 = row ++ r → ∀ (L : List Int) (j : Nat), L.drop j = r → runGo (goLike p L) true r.length j σ row = runGo (goPick p l) false k i σ row
  | 0, i, σ, row, r, h, L, j, hj => by
    have : r = [] := by simpa [runGo] using h
    subst this; rfl
  | k + 1, i, σ, row, r, h, L, j, hj => by
    by_cases ha : ableL p σ = []
    · rw [pick_none ha] at h ⊢
      have : r = [] := by simpa using h
      subst this; rfl
    · rw [pick_some ha] at h ⊢
      obtain ⟨q1, q2, q3⟩ := pickN_mem (n := l.getD i 0) ha
      generalize pickN p σ (l.getD i 0) = t at h q3 ⊢
      obtain ⟨r', h1, _, _⟩ := pick_pre (p := p) (l := l) k (i + 1) (stepS p σ t) (row ++ [(t : Int)])
      have hr : r = (t : Int) :: r' := by
        rw [h1, List.append_assoc] at h
        have := List.append_cancel_left h
        simpa using this.symm
      subst hr
      have hg : L.getD j 0 = (t : Int) := by
        have := congrArg (·[0]?) hj
        simp only [List.getElem?_drop, Nat.add_zero, List.getElem?_cons_zero] at this
        rw [List.getD_eq_getElem?_getD, this]; rfl
      have hd : L.drop (j + 1) = r' := by rw [← List.drop_drop, hj]; rfl
      have hgo : goLike p L σ j = ((t : Int), 0, stepS p σ t) := by
        unfold goLike
        rw [hg, stepErr_can (able_iff.1 q3), if_pos rfl, Int.toNat_natCast]
      rw [List.length_cons]
      conv => lhs; unfold runGo
      simp only [hgo, if_true]
      exact like_of k (i + 1) (stepS p σ t) (row ++ [(t : Int)]) r' h1 L (j + 1) hd
def playR (p : SProg) (l : List Int) : SSt × List Int := runR p (goPick (ownP p) l) false l.length
theorem play_take {p : SProg} {l : List Int} {k : Nat} (hk : k ≤ l.length) : playR p (l.take k) = runR p (goPick (ownP p) l) false k := by
  unfold playR runR
  rw [List.length_take, Nat.min_eq_left hk]
  refine pick_congr _ _ _ _ fun j _ h => ?_
  rw [List.getD_eq_getElem?_getD, List.getD_eq_getElem?_getD, List.getElem?_take_of_lt (by omega)]
structure Begins (a b : SSt × List Int) (k : Nat) : Prop where
  row : b.2 <+: a.2
  out : b.1.out <+: a.1.out
  same : b.1.ending ≠ 0 → a = b
  most : b.2.length ≤ k
  few : min k a.2.length ≤ b.2.length
theorem play_begins {p : SProg} {l : List Int} {k : Nat} (hk : k ≤ l.length) : Begins (playR p l) (playR p (l.take k)) k := by
  rw [play_take hk]
  unfold playR runR
  obtain ⟨r, e1, e2, e3⟩ := pick_pre (p := ownP p) (l := l) k 0 (startS (ownP p)) []
  have hadd := pick_add (p := ownP p) (l := l) (l.length - k) k 0 (startS (ownP p)) []
  rw [show k + (l.length - k) = l.length by omega] at hadd
  rw [List.nil_append] at e1
  generalize hb : runGo (goPick (ownP p) l) false k 0 (startS (ownP p)) [] = b at *
  generalize ha : runGo (goPick (ownP p) l) false l.length 0 (startS (ownP p)) [] = a at *
  rcases hadd with ⟨h1, h2⟩ | h
  · obtain ⟨r', f1, f2, f3⟩ := pick_pre (p := ownP p) (l := l) (l.length - k) (0 + k) b.1 b.2
    rw [← h2] at f1 f3
    simp only [List.length_nil, Nat.zero_add] at h1
    refine ⟨⟨r', f1.symm⟩, f3, fun he => ?_, by omega, by omega⟩
    rw [h2, pick_none (able_end he)]
  · subst h
    refine ⟨List.prefix_rfl, List.prefix_rfl, fun _ => rfl, ?_, by omega⟩
    rw [e1]; exact e2
theorem play_len {p : SProg} {l : List Int} : (playR p l).2.length ≤ l.length := by
  obtain ⟨r, e1, e2, _⟩ := pick_pre (p := ownP p) (l := l) l.length 0 (startS (ownP p)) []
  unfold playR runR
  rw [e1]; simpa using e2
theorem play_good {p : SProg} (hm : mayP p = true) (l : List Int) : SOk (ownP p) (1 + l.length) (playR p l).1 ∧ Good (playR p l).1 := by
  obtain ⟨W0, G0⟩ := start_good hm
  exact pick_ok (prog_ok hm).own l.length 0 1 _ [] W0 G0
theorem like_play (p : SProg) (l : List Int) : runR p (goLike (ownP p) (playR p l).2) true (playR p l).2.length = playR p l := by
  unfold runR
  exact like_of l.length 0 (startS (ownP p)) [] (playR p l).2 (by rw [List.nil_append]; rfl) (playR p l).2 0 (by simp)
theorem prefix_take {α : Type} {b a : List α} (h : b <+: a) : a.take b.length = b := (List.prefix_iff_eq_take.1 h).symm
end
end Go.Proofs.Sx
