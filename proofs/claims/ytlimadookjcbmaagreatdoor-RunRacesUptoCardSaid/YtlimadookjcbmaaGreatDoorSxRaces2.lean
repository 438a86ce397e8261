/-
  package step: 'Races', whole.
-/
import Derived.Test.YtlimadookjcbmaaGreatDoorSxRaces
set_option linter.unusedSectionVars false
set_option linter.unusedSimpArgs false
set_option linter.unusedVariables false
set_option linter.defProp false
set_option maxHeartbeats 8000000
set_option maxRecDepth 100000
namespace Go.Proofs.Sx
open Go.Rv Go.Proofs
attribute [local congr] bind_left got_left
noncomputable section
section
variable {p : SProg} {H0 : Heap} {ρ : Nat → Role} {s : Nat} {σ : SSt} (A : At p H0 ρ s σ) (P : ProgOk p) {K : Nat} (W : SOk p K σ) (hK : K < 10000000)
include A P W hK
theorem races_outer : ∀ (d i : Nat), i + d = σ.thr.length → ∀ (H : Heap) (v : AV) (acc : List (Nat × Nat)), OwnQ H0.length H0 H v acc → acc.length ≤ 16 * i → ∀ t2 t4 t5 t6 t7 t8 t9 t13 t32 t63,
    Got (exec cfg 24 (.loop l24_0) [(0, .ptr s 0 0), (2, t2), (3, v), (4, t4), (5, t5), (6, t6), (7, t7), (8, t8), (9, t9), (11, .int .i64 σ.thr.length), (12, .int .i64 i), (13, t13), (32, t32), (63, t63)] H) (fun q =>
      ∃ H' v' t4 t5 t6 t7 t8 t9 t12 t13 t32 t63, q = (.exit 0, [(0, .ptr s 0 0), (2, t2), (3, v'), (4, t4), (5, t5), (6, t6), (7, t7), (8, t8), (9, t9), (11, .int .i64 σ.thr.length), (12, t12), (13, t13), (32, t32), (63, t63)], H') ∧ OwnQ H0.length H0 H' v' (allR p σ d i acc)) := by
  have few := W.few
  intro d
  induction d with
  | zero =>
    intro i hi H v acc O hl t2 t4 t5 t6 t7 t8 t9 t13 t32 t63
    obtain rfl : i = σ.thr.length := by omega
    rw [got_loop]
    simp only [l24_0, F24, Tryz.f24, sxAll, cA, arithA, Env.keep, ↓Option.bind_some, Nat.reduceBEq, ↓reduceIte, Nat.lt_irrefl]
    exact ⟨_, _, _, _, _, _, _, _, _, _, _, _, rfl, O⟩
  | succ d ih =>
    intro i hi H v acc O hl t2 t4 t5 t6 t7 t8 t9 t13 t32 t63
    have A' := at_old A O.old
    have hcell := stCell_eq A' P W hK i
    rw [accA_eq] at hcell
    have hlt : (i < σ.thr.length) = True := by simp; omega
    have hw := wrap_succ (i := i) (by omega)
    have O1 := O.app [.cells [.int .i64 (acc1 (cellS p σ i)), .int .i64 (acc2 (cellS p σ i)), .bool (acc3 (cellS p σ i))] 0]
    have h5 : (H ++ [AObj.cells [.int .i64 (acc1 (cellS p σ i)), .int .i64 (acc2 (cellS p σ i)), .bool (acc3 (cellS p σ i))] 0]).obj H.length 0 = some [.int .i64 (acc1 (cellS p σ i)), .int .i64 (acc2 (cellS p σ i)), .bool (acc3 (cellS p σ i))] := by rw [obj_app0, obj_zero]
    have hv : objOf v ≠ some H.length := fun hc => by have := built_lt O.b hc; omega
    have kv := known_built O1.b
    rw [got_loop]
    unfold allR
    cases hb : (cellS p σ i).isSome with
    | false =>
      rw [hb] at hcell
      have hr : rowR p σ i (if false = true then d else 0) (i + 1) acc = acc := rfl
      rw [hr]
      have := ih (i + 1) (by omega) _ v acc O1 (by omega)
      have hin : ∀ t2 t8 t9 t11 t12 t13 t32 t63, exec cfg 24 (.loop l24_1) [(0, .ptr s 0 0), (2, t2), (3, v), (4, .int .i64 i), (5, .ptr H.length 0 0), (6, .bool false), (7, .int .i64 ((i + 1 : Nat) : Int)), (8, t8), (9, t9), (11, t11), (12, t12), (13, t13), (32, t32), (63, t63)] (H ++ [.cells [.int .i64 (acc1 (cellS p σ i)), .int .i64 (acc2 (cellS p σ i)), .bool (acc3 (cellS p σ i))] 0]) =
          some (.exit 2, [(0, .ptr s 0 0), (2, t2), (3, v), (4, .int .i64 i), (5, .ptr H.length 0 0), (6, .bool false), (7, .int .i64 ((i + 1 : Nat) : Int)), (8, t8), (9, t9), (11, t11), (12, t12), (13, t13), (32, .bool false), (63, t63)], H ++ [.cells [.int .i64 (acc1 (cellS p σ i)), .int .i64 (acc2 (cellS p σ i)), .bool (acc3 (cellS p σ i))] 0]) := fun t2 t8 t9 t11 t12 t13 t32 t63 => by
        rw [exec_loop]
        simp only [l24_1, F24, Tryz.f24, sxAll, cA, Env.keep, ↓Option.bind_some, Nat.reduceBEq, ↓reduceIte]
      simp only [l24_0] at this ⊢
      simp only [F24, Tryz.f24, sxAll, cA, arithA, Env.keep, qt_eq, mapO, ↓Option.bind_some, Nat.reduceBEq, Nat.reduceAdd, ↓reduceIte, hlt, hcell, store_acc, hin, hw, pu42, ty95] at this ⊢
      exact this _ _ _ _ _ _ _ _ _ _
    | true =>
      rw [hb] at hcell
      have hrl := rowR_len p σ i d (i + 1) acc
      obtain ⟨⟨o, e', h'⟩, hx, H1, v1, t7', t8', t9', t32', t63', hq, O2⟩ := races_inner A P W hK i H.length hb d (i + 1) (by omega) _ v acc O1 (by omega) h5 hv t2 t8 t9 (.int .i64 σ.thr.length) (.int .i64 i) (.bool true) t32 t63
      simp only [Prod.mk.injEq] at hq
      obtain ⟨rfl, rfl, rfl⟩ := hq
      have hr : rowR p σ i (if true = true then d else 0) (i + 1) acc = rowR p σ i d (i + 1) acc := rfl
      rw [hr]
      have := ih (i + 1) (by omega) _ v1 _ O2 (by omega)
      simp only [l24_0] at this ⊢
      simp only [F24, Tryz.f24, sxAll, cA, arithA, Env.keep, qt_eq, mapO, ↓Option.bind_some, Nat.reduceBEq, Nat.reduceAdd, ↓reduceIte, hlt, hcell, store_acc, hx, hw, pu42, ty95] at this ⊢
      exact this _ _ _ _ _ _ _ _ _ _
theorem races_eq : ∃ z r, call cfg 24 [.ptr s 0 0] H0 = some (.ret (.lst (pairsL (racesL p σ)) z r), H0) := by
  have few := W.few
  have hthr : call cfg 41 [.ptr s 0 0] H0 = some (.ret (.int .i64 σ.thr.length), H0) := by
    obtain ⟨m, mp, cv, tv, ov, cs, ts, R⟩ := A
    exact threads_eq R
  have O0 : OwnQ H0.length H0 H0 (.lst [] 0 .nil) [] := ⟨.inl ⟨rfl, rfl⟩, fun _ h => (by cases h), Nat.le_refl _, rfl⟩
  obtain ⟨⟨o, e', h'⟩, hx, H1, v1, t4, t5, t6, t7, t8, t9, t12, t13, t32, t63, hq, O2⟩ := races_outer A P W hK σ.thr.length 0 (by omega) H0 (.lst [] 0 .nil) [] O0 (by simp) (.lst [] 0 .nil) .junk .junk .junk .junk .junk .junk .junk .junk .junk
  simp only [Prod.mk.injEq] at hq
  obtain ⟨rfl, rfl, rfl⟩ := hq
  simp only [Int.natCast_zero] at hx
  obtain ⟨z, r, hf⟩ := O2.freeze (d := 38)
  refine ⟨z, r, ?_⟩
  have kv := known_built O2.b
  have hold : h'.take H0.length = H0 := by rw [O2.old]; simp
  rw [call24]
  simp only [F24, k24, Tryz.f24, sxAll, cA, Env.keep, qt_eq, resultsA, packA, mapO, ↓Option.bind_some, Nat.reduceBEq, ↓reduceIte, hthr, hx, kv, pu41]
  exact leave_pure pu24 hold hf
end
end
end Go.Proofs.Sx
