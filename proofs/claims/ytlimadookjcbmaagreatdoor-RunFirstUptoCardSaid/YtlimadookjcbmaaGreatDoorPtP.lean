/-
  package step: 'Pick', 'Next'.
-/
import Derived.Test.YtlimadookjcbmaaGreatDoorPtO
import Derived.Test.YtlimadookjcbmaaGreatDoorPtN
set_option linter.unusedSectionVars false
set_option linter.unusedSimpArgs false
set_option linter.unusedVariables false
set_option linter.defProp false
set_option maxHeartbeats 8000000
set_option maxRecDepth 100000
namespace Go.Proofs.Sx
open Go.Rv Go.Proofs
attribute [local congr] bind_left got_left
noncomputable section
theorem pu20 : cfg.pure 20 = false := rfl
instance t20 {d : Option Nat} : TightD cfg 20 d := ⟨fun _ _ => rfl⟩
def B20 (p : List Bool) := cA p Tryz.f20.body
def R20 (p : List Bool) (i : Nat) := Code.region i (cA p Tryz.f20.body) false
theorem F20 : (∀ p i, XR cfg 20 (R20 p i) (B20 p) (cA p Tryz.f20.body).toList i false) ∧ RE cfg 20 [0, 1, 4, 5, 6, 7, 9, 14] ∧ cfg.pure 20 = false := ⟨fun _ _ => xr rfl rfl, rE fun _ => rfl, rfl⟩
def k20 : Code := (.seq (R20 [ff] 0) (.seq (.seq (R20 [tt, ff, ff] 1) (.cond (.tmp 9) (.seq (R20 [tt, ff, tt, ff, ff] 2) .ret) .skip)) (.seq (R20 [tt, tt, ff] 3) (.seq (.seq (R20 [tt, tt, tt, ff, ff] 4) (.cond (.tmp 14) (.seq (R20 [tt, tt, tt, ff, tt, ff, ff] 5) .ret) .skip)) (.seq (R20 [tt, tt, tt, tt, ff] 6) (.seq (R20 [tt, tt, tt, tt, tt, ff] 7) .ret))))))
theorem call20 (x0 x1 : AV) (h : Heap) : call cfg 20 [x0, x1] h = (exec cfg 20 k20 [(0, x0), (1, x1)] h).bind (callEnd cfg 20 h [.tmp 4, .tmp 5]) := call_at2 (fnat Tryz.func20 (b := k20) (by kernel_rfl) (by kernel_rfl)) rfl rfl
theorem pu17 : cfg.pure 17 = false := rfl
instance t17 {d : Option Nat} : TightD cfg 17 d := ⟨fun _ _ => rfl⟩
def B17 (p : List Bool) := cA p Tryz.f17.body
def R17 (p : List Bool) (i : Nat) := Code.region i (cA p Tryz.f17.body) false
def D17 (p : List Bool) (i : Nat) := Code.region i (cA p Tryz.f17.body) true
theorem F17 : (∀ p i, XR cfg 17 (R17 p i) (B17 p) (cA p Tryz.f17.body).toList i false) ∧ XR cfg 17 (D17 [tt, tt, ff, tt, ff, ff, tt, tt, ff, ff, tt, ff] 6) (B17 [tt, tt, ff, tt, ff, ff, tt, tt, ff, ff, tt, ff]) ((cA [tt, tt, ff, tt, ff, ff, tt, tt, ff, ff, tt, ff] Tryz.f17.body).toList) 6 true ∧ RE cfg 17 [0, 2, 3, 4, 5, 7, 12, 13, 14, 31] ∧ cfg.pure 17 = false := ⟨fun _ _ => xr rfl rfl, xd (by kernel_rfl) rfl rfl, rE fun _ => rfl, rfl⟩
def l17_0 : Code := (.seq (R17 [tt, tt, ff, tt, ff, ff, ff] 4) (.seq (.cond (.tmp 14) .skip (.exit 0)) (.seq (.block 1 (.seq (R17 [tt, tt, ff, tt, ff, ff, tt, tt, ff, ff, ff] 5) (.seq (D17 [tt, tt, ff, tt, ff, ff, tt, tt, ff, ff, tt, ff] 6) (.seq (R17 [tt, tt, ff, tt, ff, ff, tt, tt, ff, ff, tt, tt, ff] 7) (.cond (.tmp 31) (.seq (R17 [tt, tt, ff, tt, ff, ff, tt, tt, ff, ff, tt, tt, tt, ff, ff] 8) .ret) .skip))))) (R17 [tt, tt, ff, tt, ff, ff, tt, tt, tt] 9))))
def k17 : Code := (.seq (R17 [ff] 0) (.seq (.seq (R17 [tt, ff, ff] 1) (.cond (.tmp 7) (.seq (R17 [tt, ff, tt, ff, ff] 2) .ret) .skip)) (.seq (.seq (R17 [tt, tt, ff, ff] 3) (.block 0 (.loop l17_0))) (.seq (R17 [tt, tt, tt, ff] 10) .ret))))
theorem call17 (x0 : AV) (h : Heap) : call cfg 17 [x0] h = (exec cfg 17 k17 [(0, x0)] h).bind (callEnd cfg 17 h [.tmp 2, .tmp 3]) := call_at2 (fnat Tryz.func17 (b := k17) (by kernel_rfl) (by kernel_rfl)) rfl rfl
def pickN (p : SProg) (σ : SSt) (n : Int) : Nat := (ableL p σ).getD ((IntKind.u64.wrap n).tmod ((ableL p σ).length : Int)).toNat 0
theorem u64_wrap (n : Int) : IntKind.u64.wrap n = n % 18446744073709551616 := by simp [IntKind.wrap, IntKind.bits, IntKind.signed]
theorem u64_pos (n : Int) : 0 ≤ IntKind.u64.wrap n := by
  rw [u64_wrap]; omega
theorem pickN_mem {p : SProg} {σ : SSt} {n : Int} (h : ableL p σ ≠ []) : ((IntKind.u64.wrap n).tmod ((ableL p σ).length : Int)).toNat < (ableL p σ).length ∧ 0 ≤ (IntKind.u64.wrap n).tmod ((ableL p σ).length : Int) ∧ pickN p σ n ∈ ableL p σ := by
  have hl := List.length_pos_iff.2 h
  have h0 := Int.tmod_nonneg ((ableL p σ).length : Int) (u64_pos n)
  have h1 := Int.tmod_lt_of_pos (IntKind.u64.wrap n) (show (0 : Int) < ((ableL p σ).length : Int) by omega)
  have h2 : ((IntKind.u64.wrap n).tmod ((ableL p σ).length : Int)).toNat < (ableL p σ).length := by omega
  refine ⟨h2, h0, ?_⟩
  unfold pickN
  rw [List.getD_eq_getElem?_getD, List.getElem?_eq_getElem h2]
  exact List.getElem_mem _
theorem able_iff {p : SProg} {σ : SSt} {t : Nat} : t ∈ ableL p σ ↔ canB p σ t = true := by
  unfold ableL
  rw [List.mem_filter, List.mem_range]
  refine ⟨fun h => h.2, fun h => ⟨?_, h⟩⟩
  unfold canB at h
  by_cases ht : t < σ.thr.length
  · exact ht
  · rw [top_no (.inl (by omega))] at h; cases h
theorem stepErr_can {p : SProg} {σ : SSt} {t : Nat} (h : canB p σ t = true) : stepErr p σ t = 0 := by
  have : t < σ.thr.length := by
    have := able_iff.2 h
    simp [ableL] at this; exact this.1
  unfold stepErr
  rw [if_neg (by omega), Int.toNat_natCast, h]; rfl
section
variable {p : SProg} {H : Heap} {ρ : Nat → Role} {s : Nat} {σ : SSt} (A : At p H ρ s σ) (P : ProgOk p) {K : Nat} (W : SOk p K σ) (hK : K < 10000000)
include A P W hK
theorem pick_yes (n : Int) (h : ableL p σ ≠ []) : ∃ H' ρ', call cfg 20 [.ptr s 0 0, .int .i64 n] H = some (.ret (.tup [.int .i64 (pickN p σ n), .int .i64 0]), H') ∧ At p H' ρ' s (stepS p σ (pickN p σ n)) ∧ Frm H ρ H' ρ' := by
  obtain ⟨q1, q2, q3⟩ := pickN_mem (n := n) h
  obtain ⟨H', ρ', hst, hA, hF⟩ := step_yes A P W hK (able_iff.1 q3)
  refine ⟨H', ρ', ?_, hA, hF⟩
  obtain ⟨m, mp, cv, tv, ov, cs, ts, R⟩ := A
  have hls := live_of R.st
  have e0 := ptr_eq_nil (H := H) (k := 0) ty51 hls
  obtain ⟨z, r, hab⟩ := able_eq R W (by omega)
  have hl := List.length_pos_iff.2 h
  have hll : ((intL (natL (ableL p σ))).length : Int) = ((ableL p σ).length : Int) := by simp [intL, natL]
  have hl0 : (((ableL p σ).length : Int) == 0) = false := by simp; exact h
  have hlen : (ableL p σ).length ≤ 16 := by
    have := List.length_filter_le (canB p σ) (List.range σ.thr.length)
    have := W.few
    simp [ableL] at *; omega
  have hwl : IntKind.u64.wrap ((ableL p σ).length : Int) = ((ableL p σ).length : Int) := by rw [u64_wrap]; omega
  have hget : (intL (natL (ableL p σ)))[((IntKind.u64.wrap n).tmod ((ableL p σ).length : Int)).toNat]? = some (.int .i64 (pickN p σ n)) := by
    unfold pickN
    rw [List.getD_eq_getElem?_getD, List.getElem?_eq_getElem q1]
    simp [intL, natL, q1]
  have hix : indexAddrA cfg H 31 (.lst (intL (natL (ableL p σ))) z r) (.int .u64 ((IntKind.u64.wrap n).tmod ((ableL p σ).length : Int))) = some (.ref [.int .i64 (pickN p σ n)]) := by
    have : ¬ (IntKind.u64.wrap n).tmod ((ableL p σ).length : Int) < 0 := by omega
    simp [indexAddrA, ty31, ty3, this, hget, AV.cells]
  rw [call20]
  simp only [F20, k20, Tryz.f20, sxAll, cA, arithA, Env.keep, qt_eq, resultsA, packA, Rv.part, TD.isAgg, convH, convA, mapO, ↓Option.bind_some, Nat.reduceBEq, ↓reduceIte, e0, hab, lenA_lst, hll, hl0, hwl, hix, load_ref, hst, pu37, pu23, ty31, ty3, ty83]
  exact leave_impure pu20
theorem pick_no (n : Int) (h : ableL p σ = []) : call cfg 20 [.ptr s 0 0, .int .i64 n] H = some (.ret (.tup [.int .i64 0, .int .i64 69]), H) := by
  obtain ⟨m, mp, cv, tv, ov, cs, ts, R⟩ := A
  have hls := live_of R.st
  have e0 := ptr_eq_nil (H := H) (k := 0) ty51 hls
  obtain ⟨z, r, hab⟩ := able_eq R W (by omega)
  rw [h] at hab
  have hl0 : (((intL (natL [])).length : Int) == 0) = true := rfl
  rw [call20]
  simp only [F20, k20, Tryz.f20, sxAll, cA, arithA, Env.keep, qt_eq, resultsA, packA, mapO, ↓Option.bind_some, Nat.reduceBEq, ↓reduceIte, e0, hab, lenA_lst, hl0, pu37, ty31]
  exact leave_impure pu20
end
def turnAt (σ : SSt) (i : Nat) : Nat := ((σ.last + 1 + (i : Int)) % (σ.thr.length : Int)).toNat
def nextGo (p : SProg) (σ : SSt) : Nat → Nat → Option Nat
  | 0, _ => none
  | d + 1, i => if canB p σ (turnAt σ i) then some (turnAt σ i) else nextGo p σ d (i + 1)
def nextN (p : SProg) (σ : SSt) : Option Nat := nextGo p σ σ.thr.length 0
def LastOk (σ : SSt) : Prop := -1 ≤ σ.last ∧ σ.last < 16
section
variable {p : SProg} {H : Heap} {ρ : Nat → Role} {s : Nat} {σ : SSt} (A : At p H ρ s σ) (P : ProgOk p) {K : Nat} (W : SOk p K σ) (hK : K < 10000000) (hL : LastOk σ)
include A P W hK hL
theorem next_loop : ∀ (d i : Nat), i + d = σ.thr.length → ∀ t2 t3 t4 t5 t14 t31,
    Got (exec cfg 17 (.loop l17_0) [(0, .ptr s 0 0), (2, t2), (3, t3), (4, t4), (5, t5), (7, .bool false), (12, .int .i64 σ.thr.length), (13, .int .i64 i), (14, t14), (31, t31)] H) (fun q =>
      match nextGo p σ d i with
      | none => ∃ t4 t5 t14 t31, q = (.exit 0, [(0, .ptr s 0 0), (2, t2), (3, t3), (4, t4), (5, t5), (7, .bool false), (12, .int .i64 σ.thr.length), (13, .int .i64 σ.thr.length), (14, t14), (31, t31)], H)
      | some t => q.1 = .ret ∧ q.2.1.get 2 = .int .i64 t ∧ q.2.1.get 3 = .int .i64 0 ∧ ∃ ρ', At p q.2.2 ρ' s (stepS p σ t) ∧ Frm H ρ q.2.2 ρ') := by
  intro d
  have A' := A
  obtain ⟨m, mp, cv, tv, ov, cs, ts, R⟩ := A'
  have hs := R.st
  have hls := live_of hs
  have kt := R.tArr.known
  have lt := R.tArr.len 76
  rw [R.tLen] at lt
  simp only [SProg.cells, List.cons_append, List.nil_append] at hs
  induction d with
  | zero =>
    intro i hi t2 t3 t4 t5 t14 t31
    obtain rfl : i = σ.thr.length := by omega
    rw [got_loop]
    simp only [l17_0, F17, Tryz.f17, sxAll, cA, arithA, Env.keep, ↓Option.bind_some, Nat.reduceBEq, ↓reduceIte, Nat.lt_irrefl, nextGo]
    exact ⟨_, _, _, _, rfl⟩
  | succ d ih =>
    intro i hi t2 t3 t4 t5 t14 t31
    have hlt : (i < σ.thr.length) = True := by simp; omega
    have hf := W.few
    have hw := wrap_succ (i := i) (by omega)
    have w1 : IntKind.i64.wrap (σ.last + 1) = σ.last + 1 := wrap_id (by have := hL.1; omega) (by have := hL.2; omega)
    have w2 : IntKind.i64.wrap (σ.last + 1 + (i : Int)) = σ.last + 1 + (i : Int) := wrap_id (by have := hL.1; omega) (by have := hL.2; omega)
    have hz : (((σ.thr.length : Nat) : Int) == 0) = false := by simp; intro hc; rw [hc] at hi; simp at hi
    have hm : (σ.last + 1 + (i : Int)).tmod (σ.thr.length : Int) = ((turnAt σ i : Nat) : Int) := by
      unfold turnAt
      rw [Int.tmod_eq_emod_of_nonneg (by have := hL.1; omega)]
      have := Int.emod_nonneg (σ.last + 1 + (i : Int)) (show (σ.thr.length : Int) ≠ 0 by omega)
      omega
    have hc := can_eq R W (by omega) ((turnAt σ i : Nat) : Int)
    simp only [Int.toNat_natCast, show decide (0 ≤ ((turnAt σ i : Nat) : Int)) = true by simp, Bool.true_and] at hc
    rw [got_loop]
    unfold nextGo
    cases hb : canB p σ (turnAt σ i) with
    | true =>
      rw [hb] at hc
      obtain ⟨H', ρ', hst, hA, hF⟩ := step_yes A P W hK hb
      simp only [l17_0, F17, Tryz.f17, sxAll, cA, arithA, Env.keep, qt_eq, fieldAddrA, Rv.part, TD.isAgg, mapO, ↓Option.bind_some, Nat.reduceBEq, Nat.reduceAdd, ↓reduceIte, load_ptr, hs, hls, kt, lt, hlt, w1, w2, hz, hm, hc, hst, pu32, pu23, ty71, ty69, ty3]
      exact ⟨trivial, by simp [], by simp [], ρ', hA, hF⟩
    | false =>
      rw [hb] at hc
      have := ih (i + 1) (by omega)
      simp only [l17_0] at this ⊢
      simp only [F17, Tryz.f17, sxAll, cA, arithA, Env.keep, qt_eq, fieldAddrA, Rv.part, TD.isAgg, mapO, ↓Option.bind_some, Nat.reduceBEq, Nat.reduceAdd, ↓reduceIte, load_ptr, hs, hls, kt, lt, hlt, w1, w2, hz, hm, hc, hw, pu32, ty71, ty69, ty3] at this ⊢
      exact this _ _ _ _ _ _
theorem next_eq : match nextN p σ with
    | none => call cfg 17 [.ptr s 0 0] H = some (.ret (.tup [.int .i64 0, .int .i64 69]), H)
    | some t => ∃ H' ρ', call cfg 17 [.ptr s 0 0] H = some (.ret (.tup [.int .i64 t, .int .i64 0]), H') ∧ At p H' ρ' s (stepS p σ t) ∧ Frm H ρ H' ρ' := by
  obtain ⟨⟨o, e', H'⟩, hx, hq⟩ := next_loop A P W hK hL σ.thr.length 0 (by omega) (.int .i64 0) (.int .i64 0) .junk .junk .junk .junk
  obtain ⟨m, mp, cv, tv, ov, cs, ts, R⟩ := A
  have hs := R.st
  have hls := live_of hs
  have e0 := ptr_eq_nil (H := H) (k := 0) ty51 hls
  have kt := R.tArr.known
  have lt := R.tArr.len 76
  rw [R.tLen] at lt
  simp only [SProg.cells, List.cons_append, List.nil_append] at hs
  simp only [Int.natCast_zero] at hx
  unfold nextN
  cases hn : nextGo p σ σ.thr.length 0 with
  | none =>
    rw [hn] at hq
    obtain ⟨t4, t5, t14, t31, hq⟩ := hq
    simp only [Prod.mk.injEq] at hq
    obtain ⟨rfl, rfl, rfl⟩ := hq
    simp only
    rw [call17]
    simp only [F17, k17, Tryz.f17, sxAll, cA, Env.keep, qt_eq, resultsA, packA, fieldAddrA, Rv.part, TD.isAgg, ↓Option.bind_some, Nat.reduceBEq, Nat.reduceAdd, ↓reduceIte, load_ptr, hs, hls, e0, kt, lt, hx, ty71, ty69]
    exact leave_impure pu17
  | some t =>
    rw [hn] at hq
    obtain ⟨h1, h2, h3, ρ', hA, hF⟩ := hq
    simp only at h1 h2 h3 hA hF
    subst h1
    refine ⟨H', ρ', ?_, hA, hF⟩
    rw [call17]
    simp only [F17, k17, Tryz.f17, sxAll, cA, Env.keep, qt_eq, resultsA, packA, fieldAddrA, Rv.part, TD.isAgg, ↓Option.bind_some, Nat.reduceBEq, Nat.reduceAdd, ↓reduceIte, load_ptr, hs, hls, e0, kt, lt, hx, h2, h3, ty71, ty69]
    exact leave_impure pu17
end
end
end Go.Proofs.Sx
namespace Go.Proofs.Sx
open Go.Rv Go.Proofs
attribute [local congr] bind_left got_left
noncomputable section
theorem pu15 : cfg.pure 15 = false := rfl
instance t15_1 : TightD cfg 15 (some 1) := tgS rfl
instance t15_2 : TightD cfg 15 (some 2) := tgS rfl
instance t15_3 : TightD cfg 15 (some 3) := tgS rfl
instance t15_4 : TightD cfg 15 (some 4) := tgS rfl
instance t15_5 : TightD cfg 15 (some 5) := tgS rfl
instance t15_6 : TightD cfg 15 (some 6) := tgS rfl
instance t15_8 : TightD cfg 15 (some 8) := tgS rfl
instance t15_9 : TightD cfg 15 (some 9) := tgS rfl
instance t15_10 : TightD cfg 15 (some 10) := tgS rfl
instance t15_11 : TightD cfg 15 (some 11) := tgS rfl
instance t15_12 : TightD cfg 15 (some 12) := tgS rfl
instance t15_13 : TightD cfg 15 (some 13) := tgS rfl
instance t15_14 : TightD cfg 15 (some 14) := tgS rfl
instance t15_15 : TightD cfg 15 (some 15) := tgS rfl
instance t15_16 : TightD cfg 15 (some 16) := tgS rfl
instance t15_17 : TightD cfg 15 (some 17) := tgS rfl
instance t15_18 : TightD cfg 15 (some 18) := tgS rfl
instance t15_19 : TightD cfg 15 (some 19) := tgS rfl
instance t15_20 : TightD cfg 15 (some 20) := tgS rfl
instance t15_21 : TightD cfg 15 (some 21) := tgS rfl
instance t15_22 : TightD cfg 15 (some 22) := tgS rfl
instance t15_23 : TightD cfg 15 (some 23) := tgS rfl
instance t15_24 : TightD cfg 15 (some 24) := tgS rfl
instance t15_25 : TightD cfg 15 (some 25) := tgS rfl
instance t15_26 : TightD cfg 15 (some 26) := tgS rfl
instance t15_27 : TightD cfg 15 (some 27) := tgS rfl
instance t15_28 : TightD cfg 15 (some 28) := tgS rfl
instance t15_29 : TightD cfg 15 (some 29) := tgS rfl
instance t15_30 : TightD cfg 15 (some 30) := tgS rfl
instance t15_31 : TightD cfg 15 (some 31) := tgS rfl
instance t15_32 : TightD cfg 15 (some 32) := tgS rfl
instance t15_33 : TightD cfg 15 (some 33) := tgS rfl
instance t15_34 : TightD cfg 15 (some 34) := tgS rfl
instance t15_35 : TightD cfg 15 (some 35) := tgS rfl
instance t15_36 : TightD cfg 15 (some 36) := tgS rfl
instance t15_37 : TightD cfg 15 (some 37) := tgS rfl
instance t15_38 : TightD cfg 15 (some 38) := tgS rfl
instance t15_39 : TightD cfg 15 (some 39) := tgS rfl
instance t15_40 : TightD cfg 15 (some 40) := tgS rfl
instance t15_41 : TightD cfg 15 (some 41) := tgS rfl
instance t15_42 : TightD cfg 15 (some 42) := tgS rfl
instance t15_45 : TightD cfg 15 (some 45) := tgS rfl
instance t15_46 : TightD cfg 15 (some 46) := tgS rfl
instance t15_47 : TightD cfg 15 (some 47) := tgS rfl
instance t15_48 : TightD cfg 15 (some 48) := tgS rfl
instance t15_49 : TightD cfg 15 (some 49) := tgS rfl
instance t15_50 : TightD cfg 15 (some 50) := tgS rfl
instance t15_51 : TightD cfg 15 (some 51) := tgS rfl
instance t15_52 : TightD cfg 15 (some 52) := tgS rfl
instance t15_2000_46 : TightD cfg 15 (some (2000 + 46)) := tgS rfl
instance t15_n : TightD cfg 15 none := tgN
def B15 (p : List Bool) := cA p Tryz.f15.body
def R15 (p : List Bool) (i : Nat) := Code.region i (cA p Tryz.f15.body) false
def D15 (p : List Bool) (i : Nat) := Code.region i (cA p Tryz.f15.body) true
theorem F15 : (∀ p i, XR cfg 15 (R15 p i) (B15 p) (cA p Tryz.f15.body).toList i false) ∧ cfg.imm 15 1 = true ∧ cfg.imm 15 28 = false ∧ XR cfg 15 (D15 [tt, tt, tt, tt, tt, ff, tt, ff, ff, tt, tt, ff, ff, tt] 10) (B15 [tt, tt, tt, tt, tt, ff, tt, ff, ff, tt, tt, ff, ff, tt]) ((cA [tt, tt, tt, tt, tt, ff, tt, ff, ff, tt, tt, ff, ff, tt] Tryz.f15.body).toList) 10 true ∧ cfg.imm 15 44 = false ∧ cfg.imm 15 45 = true ∧ RE cfg 15 [0, 1, 2, 3, 4, 5, 6, 8, 11, 22, 30, 31, 32, 33] ∧ cfg.pure 15 = false := ⟨fun _ _ => xr rfl rfl, by kernel_rfl, by kernel_rfl, xd (by kernel_rfl) rfl rfl, by kernel_rfl, by kernel_rfl, rE fun _ => rfl, rfl⟩
theorem lo15_43 : cfg.loose 15 43 = lo 15 43 := rfl
theorem lo15_44 : cfg.loose 15 44 = lo 15 44 := rfl
theorem lb15_10_43_2 (e : Env) (h : Heap) : looseB cfg 15 (B15 [tt, tt, tt, tt, tt, ff, tt, ff, ff, tt, tt, ff, ff, tt]) e h 2 = (((known (e.get 37)).bind fun x => nilA h x).map fun v => AV.eqb v (e.get 38)).getD false := lb_nilCheck rfl
theorem lb15_10_43_3 (e : Env) (h : Heap) : looseB cfg 15 (B15 [tt, tt, tt, tt, tt, ff, tt, ff, ff, tt, tt, ff, ff, tt]) e h 3 = (((known (e.get 38)).bind fun x => fieldAddrA cfg h 71 x 2).map fun v => AV.eqb v (e.get 39)).getD false := lb_fieldAddr rfl
theorem lb15_10_43_4 (e : Env) (h : Heap) : looseB cfg 15 (B15 [tt, tt, tt, tt, tt, ff, tt, ff, ff, tt, tt, ff, ff, tt]) e h 4 = (((known (e.get 39)).bind fun x => loadA cfg h 69 x).map fun v => AV.eqb v (e.get 40)).getD false := lb_load rfl rfl
theorem la15_43 (e : Env) (h : Heap) : looseAll cfg 15 (B15 [tt, tt, tt, tt, tt, ff, tt, ff, ff, tt, tt, ff, ff, tt]) (some 43) e h = (((((known (e.get 37)).bind fun x => nilA h x).map fun v => AV.eqb v (e.get 38)).getD false) && (((((known (e.get 38)).bind fun x => fieldAddrA cfg h 71 x 2).map fun v => AV.eqb v (e.get 39)).getD false) && (((((known (e.get 39)).bind fun x => loadA cfg h 69 x).map fun v => AV.eqb v (e.get 40)).getD false)))) := by simp only [looseAll, lo15_43, lo, List.all_cons, List.all_nil, Bool.and_true, lb15_10_43_2, lb15_10_43_3, lb15_10_43_4]
theorem lb15_10_44_2 (e : Env) (h : Heap) : looseB cfg 15 (B15 [tt, tt, tt, tt, tt, ff, tt, ff, ff, tt, tt, ff, ff, tt]) e h 2 = (((known (e.get 37)).bind fun x => nilA h x).map fun v => AV.eqb v (e.get 38)).getD false := lb_nilCheck rfl
theorem lb15_10_44_3 (e : Env) (h : Heap) : looseB cfg 15 (B15 [tt, tt, tt, tt, tt, ff, tt, ff, ff, tt, tt, ff, ff, tt]) e h 3 = (((known (e.get 38)).bind fun x => fieldAddrA cfg h 71 x 2).map fun v => AV.eqb v (e.get 39)).getD false := lb_fieldAddr rfl
theorem lb15_10_44_4 (e : Env) (h : Heap) : looseB cfg 15 (B15 [tt, tt, tt, tt, tt, ff, tt, ff, ff, tt, tt, ff, ff, tt]) e h 4 = (((known (e.get 39)).bind fun x => loadA cfg h 69 x).map fun v => AV.eqb v (e.get 40)).getD false := lb_load rfl rfl
theorem la15_44 (e : Env) (h : Heap) : looseAll cfg 15 (B15 [tt, tt, tt, tt, tt, ff, tt, ff, ff, tt, tt, ff, ff, tt]) (some 44) e h = (((((known (e.get 37)).bind fun x => nilA h x).map fun v => AV.eqb v (e.get 38)).getD false) && (((((known (e.get 38)).bind fun x => fieldAddrA cfg h 71 x 2).map fun v => AV.eqb v (e.get 39)).getD false) && (((((known (e.get 39)).bind fun x => loadA cfg h 69 x).map fun v => AV.eqb v (e.get 40)).getD false)))) := by simp only [looseAll, lo15_44, lo, List.all_cons, List.all_nil, Bool.and_true, lb15_10_44_2, lb15_10_44_3, lb15_10_44_4]
def l15_0 : Code := (.seq (R15 [tt, tt, tt, tt, tt, ff, tt, ff, ff, ff] 8) (.seq (.cond (.tmp 33) .skip (.exit 0)) (.seq (.block 1 (.seq (R15 [tt, tt, tt, tt, tt, ff, tt, ff, ff, tt, tt, ff, ff, ff] 9) (D15 [tt, tt, tt, tt, tt, ff, tt, ff, ff, tt, tt, ff, ff, tt] 10))) (R15 [tt, tt, tt, tt, tt, ff, tt, ff, ff, tt, tt, tt] 11))))
def k15 : Code := (.seq (R15 [ff] 0) (.seq (.seq (R15 [tt, ff, ff] 1) (.cond (.tmp 11) (.seq (R15 [tt, ff, tt, ff, ff] 2) .ret) .skip)) (.seq (R15 [tt, tt, ff] 3) (.seq (.seq (R15 [tt, tt, tt, ff, ff] 4) (.cond (.tmp 22) (.seq (R15 [tt, tt, tt, ff, tt, ff, ff] 5) .ret) .skip)) (.seq (R15 [tt, tt, tt, tt, ff] 6) (.seq (.seq (R15 [tt, tt, tt, tt, tt, ff, ff] 7) (.block 0 (.loop l15_0))) (.seq (R15 [tt, tt, tt, tt, tt, tt, ff] 12) (.seq (R15 [tt, tt, tt, tt, tt, tt, tt, ff] 13) .ret))))))))
theorem call15 (x0 : AV) (h : Heap) : call cfg 15 [x0] h = (exec cfg 15 k15 [(0, x0)] h).bind (callEnd cfg 15 h [.tmp 2, .tmp 3]) := call_at2 (fnat Tryz.func15 (b := k15) (by kernel_rfl) (by kernel_rfl)) rfl rfl
theorem Rep.grow {p : SProg} {h h' : Heap} {ρ ρ' : Nat → Role} {s : Nat} {σ : SSt} {m mp : Nat} {cv tv ov tv' v : AV} {cs ts : List AV} (R : Rep p h ρ s σ m mp cv tv ov cs ts) (fs : List SFrame)
    (hl : h.length ≤ h'.length) (K : ∀ o, o < h.length → ρ o ≠ .other → ρ o ≠ .work → ρ o ≠ .tArr → h'[o]? = h[o]? ∧ ρ' o = ρ o)
    (A : Arr h' ρ' .tArr tv' (ts ++ [v])) (S : ∃ rvs o g cap c, v = .msl o 0 fs.length 3 g cap ∧ Stk h' ρ' σ.thr.length fs rvs o g cap c) (fr : ∀ o, h'.length ≤ o → ρ' o = .other) :
    Rep p (h'.set s (.cells (p.cells ++ [.ptr m 0 0, tv', .int .i64 σ.last, ov, .int .u8 σ.ending]) 0)) ρ' s { σ with thr := σ.thr ++ [fs] } m mp cv tv' ov cs (ts ++ [v]) := by
  have hs0 := obj_some R.st
  have hs : s < h'.length := Nat.lt_of_lt_of_le hs0 hl
  have hsr : ρ' s = .st := (K s hs0 (by rw [R.stR]; simp) (by rw [R.stR]; simp) (by rw [R.stR]; simp)).2.trans R.stR
  have k : ∀ o, ρ' o ≠ .st → (h'.set s (.cells (p.cells ++ [.ptr m 0 0, tv', .int .i64 σ.last, ov, .int .u8 σ.ending]) 0))[o]? = h'[o]? := fun o ho => by
    rw [List.getElem?_set_ne]; intro hc; exact ho (hc ▸ hsr)
  have kk : ∀ o, o < h.length → ρ o ≠ .other → ρ o ≠ .work → ρ o ≠ .tArr → ρ o ≠ .st → (h'.set s (.cells (p.cells ++ [.ptr m 0 0, tv', .int .i64 σ.last, ov, .int .u8 σ.ending]) 0))[o]? = h[o]? ∧ ρ' o = ρ o := fun o h1 h2 h3 h4 h5 => by
    obtain ⟨a, b⟩ := K o h1 h2 h3 h4
    exact ⟨(k o (b ▸ h5)).trans a, b⟩
  exact {
    st := by simp [Heap.obj, hs]
    stR := hsr
    mem := obj_of R.mem (kk m (obj_some R.mem) (by rw [R.memR]; simp) (by rw [R.memR]; simp) (by rw [R.memR]; simp) (by rw [R.memR]; simp)).1
    memR := (kk m (obj_some R.mem) (by rw [R.memR]; simp) (by rw [R.memR]; simp) (by rw [R.memR]; simp) (by rw [R.memR]; simp)).2.trans R.memR
    held := (kk mp (List.getElem?_eq_some_iff.1 R.held).1 (by rw [R.heldR]; simp) (by rw [R.heldR]; simp) (by rw [R.heldR]; simp) (by rw [R.heldR]; simp)).1.trans R.held
    heldR := (kk mp (List.getElem?_eq_some_iff.1 R.held).1 (by rw [R.heldR]; simp) (by rw [R.heldR]; simp) (by rw [R.heldR]; simp) (by rw [R.heldR]; simp)).2.trans R.heldR
    cArr := R.cArr.mono fun o ho hr => by have := kk o ho (by rw [hr]; simp) (by rw [hr]; simp) (by rw [hr]; simp) (by rw [hr]; simp); exact ⟨this.1, this.2.trans hr⟩
    cLen := R.cLen
    cell := fun i v l hv hl => by
      obtain ⟨o, g, cap, e, ho, hr⟩ := R.cell i v l hv hl
      have := kk o (obj_some ho) (by rw [hr]; simp) (by rw [hr]; simp) (by rw [hr]; simp) (by rw [hr]; simp)
      exact ⟨o, g, cap, e, obj_of ho this.1, this.2.trans hr⟩
    tArr := A.mono fun o ho hr => ⟨k o (by rw [hr]; simp), hr⟩
    tLen := by simp [R.tLen]
    stk := fun t w gs hw hg => by
      by_cases ht : t < σ.thr.length
      · simp only at hg
        rw [List.getElem?_append_left (by rw [R.tLen]; exact ht)] at hw
        rw [List.getElem?_append_left ht] at hg
        obtain ⟨rvs, o, g, cap, c, e, S⟩ := R.stk t w gs hw hg
        exact ⟨rvs, o, g, cap, c, e, S.mono fun o ho hr => kk o ho (by rcases hr with hr | ⟨q, hr⟩ <;> rw [hr] <;> simp) (by rcases hr with hr | ⟨q, hr⟩ <;> rw [hr] <;> simp) (by rcases hr with hr | ⟨q, hr⟩ <;> rw [hr] <;> simp) (by rcases hr with hr | ⟨q, hr⟩ <;> rw [hr] <;> simp)⟩
      · have ht' : t = σ.thr.length := by have := (List.getElem?_eq_some_iff.1 hg).1; simp at this; omega
        subst ht'
        simp only at hg
        rw [List.getElem?_append_right (by rw [R.tLen]; omega)] at hw
        rw [List.getElem?_append_right (by omega)] at hg
        simp only [R.tLen, Nat.sub_self, List.getElem?_cons_zero, Option.some.injEq] at hw hg
        subst hw hg
        obtain ⟨rvs, o, g, cap, c, e, S⟩ := S
        exact ⟨rvs, o, g, cap, c, e, S.mono fun o ho hr => ⟨k o (by rcases hr with hr | ⟨q, hr⟩ <;> rw [hr] <;> simp), rfl⟩⟩
    out := by
      rcases R.out with A | ⟨o, g, cap, e, ho, hr, hc⟩
      · exact .inl A
      · have := kk o (obj_some ho) (by rw [hr]; simp) (by rw [hr]; simp) (by rw [hr]; simp) (by rw [hr]; simp)
        exact .inr ⟨o, g, cap, e, obj_of ho this.1, this.2.trans hr, hc⟩
    fresh := fun o ho => fr o (by simpa using ho) }
def cells0 (p : SProg) : List (List Int) := p.mems.map fun m => List.replicate m.size.toNat m.first
def stacks0 (p : SProg) (l : List Int) : List (List SFrame) := l.map fun n => [newFrame p n.toNat []]
def start0 (p : SProg) (l : List Int) : SSt := ⟨cells0 p, [], stacks0 p l, -1, [], 0⟩
def startS (p : SProg) : SSt := endS p (start0 p (thr p.funs 0))
theorem thr_mem : ∀ (l : List SFun) (i : Nat) (n : Int), n ∈ thr l i → ∃ k : Nat, n = ((i + k : Nat) : Int) ∧ ∃ F, l[k]? = some F
  | [], _, _, h => by simp [thr] at h
  | f :: r, i, n, h => by
    simp only [thr, List.mem_append] at h
    rcases h with h | h
    · split at h
      · simp only [List.mem_singleton] at h
        exact ⟨0, by simpa using h, f, rfl⟩
      · simp at h
    · obtain ⟨k, h1, F, h2⟩ := thr_mem r (i + 1) n h
      exact ⟨k + 1, by rw [h1]; omega, F, by simpa using h2⟩
theorem newFrame_regs {p : SProg} {n : Nat} {F : SFun} (h : p.funs[n]? = some F) : (newFrame p n []).regs = List.replicate F.regs.toNat 0 := by simp [newFrame, h]
theorem start0_ok {p : SProg} (P : ProgOk p) {l : List Int} (hl : ∀ n ∈ l, ∃ k : Nat, n = (k : Int) ∧ ∃ F, p.funs[k]? = some F) (hn : l.length ≤ 16) : SOk p 1 (start0 p l) where
  fr := fun x hx f hf => by
    simp only [start0, stacks0, List.mem_map] at hx
    obtain ⟨n, hn, rfl⟩ := hx
    simp only [List.mem_singleton] at hf
    subst hf
    obtain ⟨k, rfl, F, hF⟩ := hl n hn
    have FO := P.funs F (List.mem_of_getElem? hF)
    refine ⟨F, F.code[0]'(by have := FO.len; omega), by simpa [newFrame] using hF, List.getElem?_eq_getElem _, ?_⟩
    rw [Int.toNat_natCast, newFrame_regs hF]
    have := FO.regs; have := FO.params
    simp; omega
  call := fun x hx f hf => by
    simp only [start0, stacks0, List.mem_map] at hx
    obtain ⟨n, hn, rfl⟩ := hx
    simp at hf
  deep := fun x hx => by
    simp only [start0, stacks0, List.mem_map] at hx
    obtain ⟨n, hn, rfl⟩ := hx
    simp
  outs := by simp [start0]
  few := by simpa [start0, stacks0] using hn
theorem frames_loop (q : SProg) (P : ProgOk q) (l : List Int) (z : Nat) (r : Room) (hl : ∀ n ∈ l, ∃ k : Nat, n = (k : Int) ∧ ∃ F, q.funs[k]? = some F) (hlen : l.length < 1000) (s m mp : Nat) (cv ov : AV) (cs : List AV) : ∀ (ys : List Int) (i : Nat), l.drop i = ys → i ≤ l.length → ∀ (H : Heap) (ρ : Nat → Role) (tv : AV) (ts : List AV), Rep q H ρ s (start0 q (l.take i)) m mp cv tv ov cs ts → ∀ t0 t1 t2 t3 t4 t5 t8 t11 t22 t33,
    Got (exec cfg 15 (.loop l15_0) [(0, t0), (1, t1), (2, t2), (3, t3), (4, t4), (5, t5), (6, .ptr s 0 0), (8, t8), (11, t11), (22, t22), (30, .lst (intL l) z r), (31, .int .i64 l.length), (32, .int .i64 i), (33, t33)] H) (fun x => ∃ (H' : Heap) (ρ' : Nat → Role) (tv' : AV) (ts' : List AV) (t8' t33' : AV), x = (.exit 0, [(0, t0), (1, t1), (2, t2), (3, t3), (4, t4), (5, t5), (6, .ptr s 0 0), (8, t8'), (11, t11), (22, t22), (30, .lst (intL l) z r), (31, .int .i64 l.length), (32, .int .i64 l.length), (33, t33')], H') ∧
      Rep q H' ρ' s (start0 q l) m mp cv tv' ov cs ts' ∧ Frm H ρ H' ρ') := by
  intro ys
  induction ys with
  | nil =>
    intro i hd hi H ρ tv ts R t0 t1 t2 t3 t4 t5 t8 t11 t22 t33
    have hle : l.length ≤ i := by simpa using hd
    obtain rfl : i = l.length := by omega
    rw [List.take_length] at R
    rw [got_loop]
    simp only [l15_0, F15, Tryz.f15, sxAll, cA, arithA, Env.keep, ↓Option.bind_some, Nat.reduceBEq, ↓reduceIte, Nat.lt_irrefl]
    exact ⟨_, _, _, _, _, _, rfl, R, Frm.refl _ _⟩
  | cons y ss ih =>
    intro i hd hi H ρ tv ts R t0 t1 t2 t3 t4 t5 t8 t11 t22 t33
    obtain ⟨hlt, hget, hd'⟩ := at_drop hd
    obtain ⟨_, hx, _⟩ := at_drop (intL_drop hd)
    have hlt' : i < l.length := by simpa using hlt
    have hw := wrap_succ (i := i) (by omega)
    obtain ⟨n, rfl, F, hF⟩ := hl y (List.mem_of_getElem? hget)
    have FO := P.funs F (List.mem_of_getElem? hF)
    have g1 := FO.regs; have g2 := FO.params
    have hixl : ∀ h, indexAddrA cfg h 31 (.lst (intL l) z r) (.int .i64 i) = some (.ref [.int .i64 n]) := fun h => by
      have hh : ¬ (i : Int) < 0 := by omega
      simp [indexAddrA, ty31, ty3, hh, hx, AV.cells]
    have hs := R.st
    have hls := live_of hs
    have kt := R.tArr.known
    obtain ⟨X, oN, f1, f2, f3⟩ := frame_eq (n := n) (args := []) (av := .lst [] 0 .nil) hs hF (by omega) g1.2 (by simp; omega) rfl (fun X => rfl)
    have hoN := obj_some f2
    have hnl : (newFrame q n []).regs.length = F.regs.toNat := by rw [newFrame_regs hF]; simp
    have hs1 := obj_leftS X hs
    have hls1 := live_of hs1
    have hs2 := obj_leftS [AObj.cells [.int .i64 n, .int .i64 0, .msl oN 0 F.regs.toNat 1 0 (some F.regs.toNat)] 0] hs1
    have hls2 := live_of hs2
    have hup : ∀ x, x < H.length → upd (upd ρ oN (.regs i 0)) (H ++ X).length (.stack i) x = ρ x := fun x hx => by
      rw [upd_ne (by simp; omega), upd_ne (by omega)]
    have hthr : (start0 q (l.take i)).thr.length = i := by simp [start0, stacks0]; omega
    have htl : ts.length = i := by rw [R.tLen, hthr]
    have A1 : Arr ((H ++ X) ++ [AObj.cells [.int .i64 n, .int .i64 0, .msl oN 0 F.regs.toNat 1 0 (some F.regs.toNat)] 0]) (upd (upd ρ oN (.regs i 0)) (H ++ X).length (.stack i)) .tArr tv ts := R.tArr.mono fun x hx hr => ⟨by
      rw [List.getElem?_append_left (by simp; omega), List.getElem?_append_left hx], (hup x hx).trans hr⟩
    have hone : ∀ x ∈ ts, x.cells = [x] := fun x hx => by
      obtain ⟨j, hj⟩ := List.mem_iff_getElem?.1 hx
      have hjl := (List.getElem?_eq_some_iff.1 hj).1
      obtain ⟨fs, hfs⟩ : ∃ fs, (start0 q (l.take i)).thr[j]? = some fs := ⟨_, List.getElem?_eq_getElem (by rw [← R.tLen]; exact hjl)⟩
      obtain ⟨rvs, o, g, cap, c, rfl, _⟩ := R.stk j x fs hj hfs
      rfl
    obtain ⟨v', H2, ρ2, q1, q2, q3, q4, q5, q6⟩ := A1.push (y := .msl (H ++ X).length 0 1 3 0 (some 1)) hone rfl rfl (by omega) (fun x hx => by
      simp at hx
      rw [upd_ne (by simp; omega), upd_ne (by simp at hoN; omega)]; exact R.fresh x (by omega)) (by simp)
    have hlen1 : ((H ++ X) ++ [AObj.cells [AV.int .i64 n, .int .i64 0, .msl oN 0 F.regs.toNat 1 0 (some F.regs.toNat)] 0]).length = H.length + X.length + 1 := by simp; omega
    rw [hlen1] at q3 q4 q5
    have hρ2 : ∀ x, x < H.length → ρ2 x = ρ x := fun x hx => (q4 x (by omega)).trans (hup x hx)
    have hk2 : ∀ x, x < H.length → ρ x ≠ .tArr → H2[x]? = H[x]? := fun x hx hr => by
      rw [q5 x (by omega) (by rw [hup x hx]; exact hr), List.getElem?_append_left (by simp; omega), List.getElem?_append_left hx]
    have hsL := obj_some hs
    have hs3 := obj_of hs (hk2 s hsL (by rw [R.stR]; simp))
    have hls3 := live_of hs3
    have kv := q2.known
    have hst : storeA cfg H2 69 (.ptr s 4 0) v' = some (H2.set s (.cells (q.cells ++ [.ptr m 0 0, v', .int .i64 (-1), ov, .int .u8 0]) 0)) := by
      rw [store1 ty69 hs3 (off := 4) (by simp [SProg.cells]) q2.cells q2.leaf]
      rfl
    have hoX : (H ++ X).length = H.length + X.length := by simp
    have S2 : Stk H2 ρ2 i [newFrame q n []] [.msl oN 0 F.regs.toNat 1 0 (some F.regs.toNat)] (H ++ X).length 0 (some 1) [.int .i64 n, .int .i64 0, .msl oN 0 F.regs.toNat 1 0 (some F.regs.toNat)] := by
      have r1 : upd (upd ρ oN (.regs i 0)) (H ++ X).length (.stack i) (H ++ X).length = .stack i := upd_self _ _ _
      have r2 : upd (upd ρ oN (.regs i 0)) (H ++ X).length (.stack i) oN = .regs i 0 := by rw [upd_ne (by omega)]; exact upd_self _ _ _
      have b1 : Heap.obj ((H ++ X) ++ [AObj.cells [AV.int .i64 n, .int .i64 0, .msl oN 0 F.regs.toNat 1 0 (some F.regs.toNat)] 0]) (H ++ X).length 0 = some [.int .i64 n, .int .i64 0, .msl oN 0 F.regs.toNat 1 0 (some F.regs.toNat)] := by rw [obj_app0, obj_zero]
      have b2 : Heap.obj ((H ++ X) ++ [AObj.cells [AV.int .i64 n, .int .i64 0, .msl oN 0 F.regs.toNat 1 0 (some F.regs.toNat)] 0]) oN 0 = some (intL (newFrame q n []).regs) := obj_leftS _ f2
      refine ⟨obj_of b1 (q5 _ (by omega) (by rw [r1]; simp)), (q4 _ (by omega)).trans r1, rfl, ⟨1, rfl, by simp, .inr rfl⟩, rfl, fun k f rv hf hr => ?_⟩
      cases k with
      | zero =>
        simp only [List.getElem?_cons_zero, Option.some.injEq] at hf hr
        subst hf hr
        exact ⟨oN, 0, some F.regs.toNat, by rw [hnl], obj_of b2 (q5 _ (by omega) (by rw [r2]; simp)), (q4 _ (by omega)).trans r2⟩
      | succ k => simp at hf
    have R3 := R.grow [newFrame q n []] (v := .msl (H ++ X).length 0 1 3 0 (some 1)) (by omega) (fun x hx _ _ hr => ⟨hk2 x hx hr, hρ2 x hx⟩) q2 ⟨_, _, _, _, _, rfl, by rw [hthr]; exact S2⟩ q6
    have hnext : ({ start0 q (l.take i) with thr := (start0 q (l.take i)).thr ++ [[newFrame q n []]] } : SSt) = start0 q (l.take (i + 1)) := by
      rw [List.take_add_one, hget]
      simp [start0, stacks0]
    rw [hnext] at R3
    have hF3 : Frm H ρ (H2.set s (.cells (q.cells ++ [.ptr m 0 0, v', .int .i64 (-1), ov, .int .u8 0]) 0)) ρ2 := ⟨by simp; omega, fun x hx hr => ⟨by
      rw [List.getElem?_set_ne (by intro hc; rw [← hc, R.stR] at hr; cases hr)]
      exact hk2 x hx (by rw [hr]; simp), (hρ2 x hx).trans hr⟩⟩
    have := ih (i + 1) hd' (by omega) _ ρ2 v' _ R3
    rw [got_loop]
    simp only [l15_0] at this ⊢
    simp only [start0] at hst hs hs1 hs2 hs3 this
    simp only [SProg.cells, List.cons_append, List.nil_append] at hs hs1 hs2 hs3 hst f1 this
    simp only [List.append_assoc, List.length_append] at hs2 hls2 q1
    simp only [F15, Tryz.f15, sxAll, cA, arithA, Env.keep, qt_eq, fieldAddrA, Rv.part, TD.isAgg, fillA, setCells, copies, mapO, ↓Option.bind_some, Nat.reduceBEq, Nat.reduceAdd, Nat.reduceMul, Nat.reduceLeDiff, Nat.reduceGT, bne, ↓reduceIte, load_ptr, hlt, hixl, hw, hs, hls, kt, f1, sx_callf_l, sx_buildSlice_l, la15_43, la15_44, nilA_ptr, eqb_self, hs1, hls1, hs2, hls2, hls3, q1, kv, hst, group, elems, one_msl, cells_msl, pu30, ty3, ty71, ty69, ty76, ty74, load_ref] at this ⊢
    refine Got.mono (this _ _ _ _ _ _ _ _ _ _) fun x hq => ?_
    obtain ⟨H', ρ', tv', ts', t8', t33', e1, e2, e3⟩ := hq
    exact ⟨H', ρ', tv', ts', t8', t33', e1, e2, hF3.trans e3⟩
end
end Go.Proofs.Sx
namespace Go.Proofs.Sx
open Go.Rv Go.Proofs
attribute [local congr] bind_left got_left
noncomputable section
theorem thr_own : ∀ (l : List SFun) (i : Nat), thr (l.map ownF) i = thr l i
  | [], _ => rfl
  | f :: r, i => by simp only [List.map_cons, thr, thr_own r (i + 1)]; rfl
theorem lastOp_own (F : SFun) : lastOp (ownF F) = lastOp F := by
  unfold lastOp ownF
  simp only [List.getLast?_map]
  cases F.code.getLast? <;> rfl
theorem InsOk.own {p : SProg} {F : SFun} {i : SIns} (h : InsOk p F i) : InsOk (ownP p) (ownF F) (ownI i) where
  op := h.op
  r := h.r
  a := h.a
  bare := h.bare
  b := h.b
  una := h.una
  bin := h.bin
  mem := h.mem
  lock := h.lock
  goal := fun hh => by
    have := h.goal hh
    show 0 ≤ i.n ∧ i.n < ((F.code.map ownI).length : Int)
    rw [List.length_map]; exact this
  call := fun hh => by
    obtain ⟨h1, G, h2, h3, h4⟩ := h.call hh
    exact ⟨h1, ownF G, by show (p.funs.map ownF)[i.n.toNat]? = _; rw [List.getElem?_map, h2]; rfl, h3, h4⟩
  args := h.args
theorem FunOk.own {p : SProg} {F : SFun} (h : FunOk p F) : FunOk (ownP p) (ownF F) where
  params := h.params
  thread := h.thread
  regs := h.regs
  len := by have := h.len; simpa [ownF] using this
  last := by rw [lastOp_own]; exact h.last
  code := fun i hi => by
    simp only [ownF, List.mem_map] at hi
    obtain ⟨j, hj, rfl⟩ := hi
    exact (h.code j hj).own
theorem ProgOk.own {p : SProg} (h : ProgOk p) : ProgOk (ownP p) where
  funs := fun F hF => by
    simp only [ownP, List.mem_map] at hF
    obtain ⟨G, hG, rfl⟩ := hF
    exact (h.funs G hG).own
  few := by show (thr (p.funs.map ownF) 0).length ≤ 16; rw [thr_own]; exact h.few
  count := by have := h.count; simpa [ownP] using this
  size := h.size
theorem new_no (p : SProg) (hw : p.wf) (hm : mayP p = false) (h : Heap) : call cfg 15 [.agg p.cells] h = some (.ret (.tup [.nilPtr, .int .i64 4]), h) := by
  have h1 := may_eq p h hw
  rw [hm] at h1
  rw [call15]
  simp only [SProg.cells] at h1 ⊢
  simp only [F15, k15, Tryz.f15, sxAll, cA, Env.keep, qt_eq, resultsA, packA, unA, loadA, Rv.part, cellsAt, TD.isAgg, mapO, ↓Option.bind_some, Nat.reduceBEq, Nat.reduceAdd, Nat.reduceLeDiff, ↓reduceIte, h1, known_nilPtr, pu26, ty26]
  exact leave_impure pu15
theorem startS_ok {p : SProg} (hm : mayP p = true) : SOk (ownP p) 1 (start0 (ownP p) (thr p.funs 0)) ∧ ∀ n ∈ thr p.funs 0, ∃ k : Nat, n = (k : Int) ∧ ∃ F, (ownP p).funs[k]? = some F := by
  have P := prog_ok hm
  have hl : ∀ n ∈ thr p.funs 0, ∃ k : Nat, n = (k : Int) ∧ ∃ F, (ownP p).funs[k]? = some F := fun n hn => by
    obtain ⟨k, h1, F, h2⟩ := thr_mem p.funs 0 n hn
    exact ⟨k, by rw [h1]; simp, ownF F, by show (p.funs.map ownF)[k]? = _; rw [List.getElem?_map, h2]; rfl⟩
  exact ⟨start0_ok P.own hl P.few, hl⟩
theorem new_yes (p : SProg) (hw : p.wf) (hn : p.nils) (hs : p.small) (hm : mayP p = true) (h : Heap) : ∃ (H' : Heap) (ρ : Nat → Role) (s : Nat), call cfg 15 [.agg p.cells] h = some (.ret (.tup [.ptr s 0 0, .int .i64 0]), H') ∧ At (ownP p) H' ρ s (startS (ownP p)) ∧ h.length ≤ H'.length ∧ ∀ x, x < h.length → H'[x]? = h[x]? ∧ ρ x = .other := by
  have P := prog_ok hm
  have h1 := may_eq p h hw
  rw [hm] at h1
  have hcount := P.count
  obtain ⟨H1, ρ1, cv, cs, m1, C⟩ := memNew_eq p.mems p.mz p.mroom (by omega) P.size p.locks.length (by omega) h
  have o1 := own_eq p hn hs H1
  obtain ⟨z, r, t1⟩ := cthreads_eq p (H1 ++ [AObj.cells ((ownP p).cells ++ [.ptr (h.length + 1) 0 0, .lst [] 0 .nil, .int .i64 (-1), .lst [] 0 .nil, .int .u8 0]) 0]) hw
  have hup : ∀ x, x < H1.length → upd ρ1 H1.length .st x = ρ1 x := fun x hx => upd_ne (by omega)
  have kp : ∀ x, x < H1.length → (H1 ++ [AObj.cells ((ownP p).cells ++ [.ptr (h.length + 1) 0 0, .lst [] 0 .nil, .int .i64 (-1), .lst [] 0 .nil, .int .u8 0]) 0])[x]? = H1[x]? := fun x hx => List.getElem?_append_left hx
  have R0 : Rep (ownP p) (H1 ++ [AObj.cells ((ownP p).cells ++ [.ptr (h.length + 1) 0 0, .lst [] 0 .nil, .int .i64 (-1), .lst [] 0 .nil, .int .u8 0]) 0]) (upd ρ1 H1.length .st) H1.length (start0 (ownP p) ((thr p.funs 0).take 0)) (h.length + 1) h.length cv (.lst [] 0 .nil) (.lst [] 0 .nil) cs [] := {
    st := by rw [obj_app0, obj_zero]; rfl
    stR := upd_self _ _ _
    mem := obj_of C.mem (kp _ (obj_some C.mem))
    memR := (hup _ (obj_some C.mem)).trans C.memR
    held := (kp _ (List.getElem?_eq_some_iff.1 C.held).1).trans C.held
    heldR := (hup _ (List.getElem?_eq_some_iff.1 C.held).1).trans C.heldR
    cArr := C.cArr.mono fun x hx hr => ⟨kp x hx, (hup x hx).trans hr⟩
    cLen := by rw [C.cLen]; simp [start0, cells0, ownP]
    cell := fun i v l hv hl => by
      simp only [start0, cells0, ownP, List.getElem?_map, Option.map_eq_some_iff] at hl
      obtain ⟨mm, hmm, rfl⟩ := hl
      obtain ⟨o, g, cap, e, ho, hr⟩ := C.cell i v mm hv hmm
      exact ⟨o, g, cap, by rw [e]; simp, obj_of ho (kp o (obj_some ho)), (hup o (obj_some ho)).trans hr⟩
    tArr := .inl ⟨rfl, rfl⟩
    tLen := by simp [start0, stacks0]
    stk := fun t v fs hv _ => by simp at hv
    out := .inl ⟨rfl, rfl⟩
    fresh := fun x hx => by
      simp at hx
      rw [upd_ne (by omega)]; exact C.fresh x (by omega) }
  obtain ⟨W, hl⟩ := startS_ok hm
  obtain ⟨⟨o, e', H3⟩, hx, H3', ρ3, tv3, ts3, t8, t33, hq, R3, F3⟩ := frames_loop (ownP p) P.own (thr p.funs 0) z r hl (by have := P.few; omega) H1.length (h.length + 1) h.length cv (.lst [] 0 .nil) cs (thr p.funs 0) 0 (by simp) (by omega) _ _ _ _ R0 (.agg p.cells) (.ref p.cells) .nilPtr (.int .i64 0) (.ptr (h.length + 1) 0 0) (.int .i64 0) .junk (.bool false) (.bool false) .junk
  simp only [Prod.mk.injEq] at hq
  obtain ⟨rfl, rfl, rfl⟩ := hq
  obtain ⟨H4, hend, R4, hl4, hk4⟩ := end_eq R3 W (by omega)
  have hstart : endS (ownP p) (start0 (ownP p) (thr p.funs 0)) = startS (ownP p) := by
    unfold startS
    rw [show thr (ownP p).funs 0 = thr p.funs 0 from thr_own p.funs 0]
  rw [hstart] at R4
  have hle := C.le
  have hle3 := F3.le
  simp only [List.length_append, List.length_singleton] at hle3
  refine ⟨H4, ρ3, H1.length, ?_, ⟨_, _, _, _, _, _, _, R4⟩, by omega, fun x hx => ?_⟩
  · rw [call15]
    simp only [Int.natCast_zero] at hx
    simp only [SProg.cells, List.cons_append, List.nil_append] at h1 m1 o1 t1 hx ⊢
    simp only [F15, k15, Tryz.f15, sxAll, cA, arithA, Env.keep, qt_eq, resultsA, packA, unA, fieldAddrA, loadA, Rv.part, cellsAt, TD.isAgg, buildA, fillA, setCells, lenA, mapO, ↓Option.bind_some, Nat.reduceBEq, Nat.reduceAdd, Nat.reduceLeDiff, bne, ↓reduceIte, h1, m1, o1, t1, hx, hend, intL_len, strL_len, pu26, pu27, pu28, pu29, pu31, ty26, ty22, ty23, ty31, ty71, ty65, ty3]
    exact leave_impure pu15
  · obtain ⟨g1, g2⟩ := C.old x hx
    obtain ⟨g3, g4⟩ := F3.keep x (by simp; omega) ((hup x (by omega)).trans g2)
    exact ⟨by rw [hk4 x (by omega), g3, kp x (by omega), g1], g4⟩
end
end Go.Proofs.Sx
namespace Go.Proofs.Sx
open Go.Rv Go.Proofs
attribute [local congr] bind_left got_left
noncomputable section
theorem pu58 : cfg.pure 58 = false := rfl
instance t58 {d : Option Nat} : TightD cfg 58 d := ⟨fun _ _ => rfl⟩
def B58 (p : List Bool) := cA p Tryz.f58.body
def R58 (p : List Bool) (i : Nat) := Code.region i (cA p Tryz.f58.body) false
theorem F58 : (∀ p i, XR cfg 58 (R58 p i) (B58 p) (cA p Tryz.f58.body).toList i false) ∧ cfg.imm 58 5 = false ∧ RE cfg 58 [0, 2, 4] ∧ cfg.pure 58 = false := ⟨fun _ _ => xr rfl rfl, by kernel_rfl, rE fun _ => rfl, rfl⟩
def k58 : Code := (.seq (R58 [ff] 0) (.seq (.seq (R58 [tt, ff, ff] 1) (.cond (.tmp 4) (.seq (R58 [tt, ff, tt, ff, ff] 2) .ret) .skip)) (.seq (R58 [tt, tt, ff] 3) .ret)))
theorem call58 (x0 : AV) (h : Heap) : call cfg 58 [x0] h = (exec cfg 58 k58 [(0, x0)] h).bind (callEnd cfg 58 h [.tmp 2]) := call_at2 (fnat Tryz.func58 (b := k58) (by kernel_rfl) (by kernel_rfl)) rfl rfl
theorem cloneL_at (H : Heap) (o g : Nat) (cap : Option Nat) (xs : List Int) (hob : H.obj o g = some (intL xs)) (hl : xs.length ≤ mostLen) : ∃ v' H', call cfg 58 [.msl o 0 xs.length 1 g cap] H = some (.ret v', H') ∧ Own H.length H H' v' (intL xs) := by
  have hlen : (intL xs).length = xs.length := by simp [intL]
  have hlive := live_of hob
  have O0 : Own H.length H (H ++ [.cells [] 0]) (.msl H.length 0 0 1 0 (some 0)) [] :=
    ⟨.inr ⟨H.length, 0, some 0, rfl, by simp [Heap.obj, flatC], .inr rfl⟩, fun o ho => by simp only [objOf, Option.some.injEq] at ho; omega, by simp, by simp⟩
  obtain ⟨v', H', ha, O'⟩ := O0.push (fun _ h => by simp at h) (plain_ints xs) (by simpa [intL] using hl)
  refine ⟨v', H', ?_, by simpa [intL] using O'⟩
  have he : elems (H ++ [.cells [] 0]) (.msl o 0 xs.length 1 g cap) = some (intL xs) := by
    have B : Built H (.msl o 0 (intL xs).length 1 g none) (intL xs) 1 := .inr ⟨o, g, none, rfl, by rw [hob, flatC_one (xs := intL xs) fun x hx => (plain_ints _ x hx).1], .inl rfl⟩
    have := elems_built (B.app [.cells [] 0]) (plain_ints xs)
    rw [hlen] at this
    exact this
  rw [call58]
  have ha' : appendA (H ++ [.cells [] 0]) 1 (.msl H.length 0 0 1 0 (some 0)) (intL xs) = some (v', H') := ha
  simp only [F58, k58, Tryz.f58, sxAll, cA, Env.keep, resultsA, packA, fillA, copies, ↓Option.bind_some, Nat.reduceBEq, Nat.reduceAdd, Nat.reduceGT, bne, ↓reduceIte, ty29, ty2, binA, eqC, eqA, hlive, Nat.zero_mul, he, ha', O'.kn]
  exact leave_impure pu58
theorem cloneL_eq (H : Heap) (v : AV) (xs : List Int) (B : Built H v (intL xs) 1) (hl : xs.length ≤ mostLen) : ∃ v' H', call cfg 58 [v] H = some (.ret v', H') ∧ Own H.length H H' v' (intL xs) := by
  rcases B with ⟨rfl, hnil⟩ | ⟨o, g, cap, rfl, hob, hcap⟩
  · refine ⟨.lst [] 0 .nil, H, ?_, by rw [hnil]; exact Own.nil H⟩
    rw [call58]
    simp only [F58, k58, Tryz.f58, sxAll, cA, Env.keep, resultsA, packA, ↓Option.bind_some, Nat.reduceBEq, ↓reduceIte, ty29, binA, eqC, eqA]
    exact leave_impure pu58
  · rw [flatC_one (xs := intL xs) fun x hx => (plain_ints _ x hx).1] at hob
    have hlen : (intL xs).length = xs.length := by simp [intL]
    rw [hlen]
    exact cloneL_at H o g cap xs hob hl
theorem pu34 : cfg.pure 34 = true := rfl
instance t34 {d : Option Nat} : TightD cfg 34 d := ⟨fun _ _ => rfl⟩
def B34 (p : List Bool) := cA p Tryz.f34.body
def R34 (p : List Bool) (i : Nat) := Code.region i (cA p Tryz.f34.body) false
theorem F34 : (∀ p i, XR cfg 34 (R34 p i) (B34 p) (cA p Tryz.f34.body).toList i false) ∧ RE cfg 34 [0, 2, 4] ∧ cfg.pure 34 = true := ⟨fun _ _ => xr rfl rfl, rE fun _ => rfl, rfl⟩
def k34 : Code := (.seq (R34 [ff] 0) (.seq (.seq (R34 [tt, ff, ff] 1) (.cond (.tmp 4) (.seq (R34 [tt, ff, tt, ff, ff] 2) .ret) .skip)) (.seq (R34 [tt, tt, ff] 3) .ret)))
theorem call34 (x0 : AV) (h : Heap) : call cfg 34 [x0] h = (exec cfg 34 k34 [(0, x0)] h).bind (callEnd cfg 34 h [.tmp 2]) := call_at2 (fnat Tryz.func34 (b := k34) (by kernel_rfl) (by kernel_rfl)) rfl rfl
theorem Rep.outB {p : SProg} {H : Heap} {ρ : Nat → Role} {s : Nat} {σ : SSt} {m mp : Nat} {cv tv ov : AV} {cs ts : List AV} (R : Rep p H ρ s σ m mp cv tv ov cs ts) : Built H ov (intL σ.out) 1 := by
  have hl : (intL σ.out).length = σ.out.length := by simp [intL]
  rcases R.out with ⟨h1, h2⟩ | ⟨o, g, cap, h1, h2, h3, h4⟩
  · exact .inl ⟨h1, by rw [h2]; rfl⟩
  · refine .inr ⟨o, g, cap, by rw [h1, hl], ?_, ?_⟩
    · rw [h2, flatC_one (xs := intL σ.out) fun x hx => (plain_ints _ x hx).1]
    · rcases h4 with h4 | h4
      · exact .inl h4
      · exact .inr (by rw [h4, hl])
theorem out_eq {p : SProg} {H : Heap} {ρ : Nat → Role} {s : Nat} {σ : SSt} {m mp : Nat} {cv tv ov : AV} {cs ts : List AV} (R : Rep p H ρ s σ m mp cv tv ov cs ts) (hl : σ.out.length ≤ mostLen) :
    ∃ z r, call cfg 34 [.ptr s 0 0] H = some (.ret (.lst (intL σ.out) z r), H) := by
  have hs := R.st
  have hls := live_of hs
  obtain ⟨v', H', hc, O⟩ := cloneL_eq H ov σ.out (Rep.outB R) hl
  have hk : known ov = some ov := known_built (Rep.outB R)
  simp only [SProg.cells, List.cons_append, List.nil_append] at hs
  rw [call34]
  simp only [F34, k34, Tryz.f34, sxAll, cA, Env.keep, qt_eq, resultsA, packA, fieldAddrA, Rv.part, TD.isAgg, mapO, ↓Option.bind_some, Nat.reduceBEq, Nat.reduceAdd, ↓reduceIte, load_ptr, hs, hls, ptr_eq_nil ty51 hls, hk, hc, O.kn, pu58, ty71, ty29]
  rcases O.leave (plain_ints _) (C := cfg) (f := 34) rfl with ⟨h1, h2⟩ | h2
  · refine ⟨0, .nil, ?_⟩
    have : intL σ.out = [] := h1
    rw [this]; exact h2
  · exact ⟨1, .open, h2⟩
end
end Go.Proofs.Sx
namespace Go.Proofs.Sx
open Go.Rv Go.Proofs
attribute [local congr] bind_left got_left
noncomputable section
structure CL (H H' : Heap) (ls : List (List Int)) (v : AV) (cs : List AV) : Prop where
  b : Built H' v cs 1
  own : ∀ o, objOf v = some o → H.length ≤ o
  len : cs.length = ls.length
  each : ∀ (k : Nat) w l, cs[k]? = some w → ls[k]? = some l → Built H' w (intL l) 1
  eown : ∀ w ∈ cs, ∀ o, objOf w = some o → H.length ≤ o ∧ o < H'.length ∧ objOf v ≠ some o
  one : ∀ w ∈ cs, w.cells = [w] ∧ w.leaf = true
  le : H.length ≤ H'.length
  keep : ∀ x, x < H.length → H'[x]? = H[x]?
theorem CL.nil (H : Heap) : CL H H [] (.lst [] 0 .nil) [] where
  b := .inl ⟨rfl, rfl⟩
  own _ h := by cases h
  len := rfl
  each k w l h := by simp at h
  eown w h := by simp at h
  one w h := by simp at h
  le := Nat.le_refl _
  keep _ _ := rfl
theorem CL.push {H H' H1 : Heap} {ls : List (List Int)} {v w : AV} {cs : List AV} {l : List Int} (C : CL H H' ls v cs) (O : Own H'.length H' H1 w (intL l)) (X : Heap) (hl : cs.length < 1000000) :
    ∃ v' H2, appendA (H1 ++ X) 1 v [w] = some (v', H2) ∧ known v' = some v' ∧ CL H H2 (ls ++ [l]) v' (cs ++ [w]) := by
  have k1 := own_keep O
  have kX : ∀ x, x < H'.length → (H1 ++ X)[x]? = H'[x]? := fun x hx => by
    rw [List.getElem?_append_left (by have := O.le; omega), k1 x hx]
  have B1 : Built (H1 ++ X) v cs 1 := C.b.other fun o ho => kX o (built_lt C.b ho)
  obtain ⟨v', H2, h1, h2, h4, h5, h6⟩ := append_built (ys := [w]) B1 (fun x hx => by rw [(C.one x hx).1]; rfl) (fun y hy => by
    simp only [List.mem_singleton] at hy; subst hy
    rw [built_cells O.b]; simp [built_leaf O.b]) (by omega) (by simp [mostLen]; omega)
  have hXl : H'.length ≤ (H1 ++ X).length := by have := O.le; simp; omega
  have hv' : ∀ o, objOf v' = some o → objOf v = some o ∨ o = (H1 ++ X).length := fun o ho => by
    rcases h6 with h6 | h6
    · exact .inl (h6 ▸ ho)
    · rw [h6] at ho; injection ho with ho; exact .inr ho.symm
  have hw : ∀ o, objOf w = some o → H'.length ≤ o ∧ o < H1.length := fun o ho => ⟨O.own o ho, built_lt O.b ho⟩
  have hvw : ∀ o, objOf w = some o → objOf v ≠ some o := fun o ho hc => by
    have := built_lt C.b hc; have := hw o ho; omega
  refine ⟨v', H2, h1, known_built h2, h2, fun o ho => ?_, by simp [C.len], fun k x ys hx hys => ?_, fun x hx o ho => ?_, fun x hx => ?_, by have := C.le; omega, fun x hx => ?_⟩
  · rcases hv' o ho with h | h
    · exact C.own o h
    · have := C.le; omega
  · by_cases hk : k < cs.length
    · rw [List.getElem?_append_left hk] at hx
      rw [List.getElem?_append_left (by rw [← C.len]; exact hk)] at hys
      refine ((C.each k x ys hx hys).other fun o ho => ?_)
      obtain ⟨e1, e2, e3⟩ := C.eown x (List.mem_of_getElem? hx) o ho
      rw [h5 o (by omega) e3, kX o e2]
    · have hk2 := (List.getElem?_eq_some_iff.1 hx).1
      simp only [List.length_append, List.length_singleton] at hk2
      have hkl : k = cs.length := by omega
      rw [List.getElem?_append_right (by omega), hkl, Nat.sub_self] at hx
      rw [List.getElem?_append_right (by rw [← C.len]; omega), ← C.len, hkl, Nat.sub_self] at hys
      simp only [List.getElem?_cons_zero, Option.some.injEq] at hx hys
      subst hx hys
      refine (O.b.app X).other fun o ho => h5 o ?_ (hvw o ho)
      have := hw o ho; simp; omega
  · rcases List.mem_append.1 hx with hx | hx
    · obtain ⟨e1, e2, e3⟩ := C.eown x hx o ho
      refine ⟨e1, by omega, fun hc => ?_⟩
      rcases hv' o hc with h | h
      · exact e3 h
      · omega
    · simp only [List.mem_singleton] at hx; subst hx
      have := hw o ho
      have hlt : o < (H1 ++ X).length := by simp; omega
      refine ⟨by have := C.le; omega, by omega, fun hc => ?_⟩
      rcases hv' o hc with h | h
      · exact hvw o ho h
      · omega
  · rcases List.mem_append.1 hx with hx | hx
    · exact C.one x hx
    · simp only [List.mem_singleton] at hx; subst hx
      exact ⟨built_cells O.b, built_leaf O.b⟩
  · rw [h5 x (by have := C.le; omega) (fun hc => by have := C.own x hc; omega), kX x (by have := C.le; omega), C.keep x hx]
def IsRows (a : AV) (ls : List (List Int)) : Prop := ∃ es z r, a = .lst es z r ∧ es.length = ls.length ∧ ∀ (k : Nat) xs, ls[k]? = some xs → ∃ z r, es[k]? = some (.lst (intL xs) z r)
theorem mapO_each {α β : Type} {f : α → Option β} (P : Nat → β → Prop) : ∀ {l : List α}, (∀ (k : Nat) a, l[k]? = some a → ∃ b, f a = some b ∧ P k b) → ∃ m, mapO f l = some m ∧ m.length = l.length ∧ ∀ (k : Nat) b, m[k]? = some b → P k b
  | [], _ => ⟨[], rfl, rfl, fun k b h => by simp at h⟩
  | a :: r, h => by
    obtain ⟨b, hb, hp⟩ := h 0 a rfl
    obtain ⟨bs, h1, h2, h3⟩ := mapO_each (fun k b => P (k + 1) b) (l := r) (fun k x hx => h (k + 1) x (by simpa using hx))
    refine ⟨b :: bs, by rw [mapO_cons, hb, h1]; rfl, by simp [h2], fun k y hy => ?_⟩
    cases k with
    | zero => simp at hy; subst hy; exact hp
    | succ k => exact h3 k y (by simpa using hy)
theorem group_one : ∀ {es : List AV}, (∀ e ∈ es, Rv.one e = e) → group es.length es 1 = es
  | [], _ => rfl
  | e :: r, h => by
    have := group_one (es := r) fun x hx => h x (List.mem_cons_of_mem _ hx)
    simp only [List.length_cons, group, beq_self_eq_true, if_true, List.headD_cons, List.drop_succ_cons, List.drop_zero, this, h e (List.mem_cons_self ..)]
theorem CL.freeze {H H' : Heap} {ls : List (List Int)} {v : AV} {cs : List AV} (C : CL H H' ls v cs) (d : Nat) : ∃ a, freezeV H' H.length (d + 3) v = some a ∧ IsRows a ls := by
  have hfl : flatC cs = cs := flatC_one fun x hx => (C.one x hx).1
  rcases C.b with ⟨rfl, hn⟩ | ⟨o, g, cap, rfl, hob, _⟩
  · have : ls = [] := List.eq_nil_of_length_eq_zero (by rw [← C.len, hn]; rfl)
    subst this
    exact ⟨.lst [] 0 .nil, rfl, [], 0, .nil, rfl, rfl, fun k xs h => by simp at h⟩
  · have hno := C.own o rfl
    obtain ⟨es, h1, h2, h3⟩ := mapO_each (f := freezeV H' H.length (d + 2)) (l := cs) (fun k b => ∀ xs, ls[k]? = some xs → ∃ z r, b = .lst (intL xs) z r) (fun k w hw => by
      have hk : k < ls.length := by rw [← C.len]; exact (List.getElem?_eq_some_iff.1 hw).1
      have hB := C.each k w _ hw (List.getElem?_eq_getElem hk)
      have hz : ∃ z r, freezeV H' H.length (d + 2) w = some (.lst (intL ls[k]) z r) := by
        rcases freeze_built (n := H.length) (d := d) hB (plain_ints _) (fun o ho => (C.eown w (List.mem_of_getElem? hw) o ho).1) with ⟨_, h5, h6⟩ | h6
        · exact ⟨0, .nil, by rw [h6, h5]⟩
        · exact ⟨1, .open, h6⟩
      obtain ⟨z, r, h⟩ := hz
      refine ⟨_, h, fun xs hx => ?_⟩
      rw [List.getElem?_eq_getElem hk] at hx
      injection hx with hx
      subst hx
      exact ⟨z, r, rfl⟩)
    refine ⟨.lst es 1 .open, ?_, es, 1, .open, rfl, by rw [h2, C.len], fun k xs hx => ?_⟩
    · rw [hfl] at hob
      have hg : group cs.length es 1 = es := by
        rw [← h2]
        refine group_one fun e hm => ?_
        obtain ⟨k, hk, rfl⟩ := List.getElem_of_mem hm
        obtain ⟨z, r, h⟩ := h3 k _ (List.getElem?_eq_getElem hk) _ (List.getElem?_eq_getElem (by rw [← C.len, ← h2]; exact hk))
        rw [h]; rfl
      unfold freezeV
      simp only
      rw [if_neg (by omega), hob]
      simp only [Option.bind_eq_bind, Option.bind_some, Nat.zero_add, Nat.mul_one, List.drop_zero, Nat.le_refl, if_true, List.take_length, h1, hg]
    · have hk : k < es.length := by have := (List.getElem?_eq_some_iff.1 hx).1; rw [h2, C.len]; exact this
      obtain ⟨z, r, h⟩ := h3 k _ (List.getElem?_eq_getElem hk) xs hx
      exact ⟨z, r, by rw [List.getElem?_eq_getElem hk, h]⟩
theorem IsRows.still {a : AV} {ls : List (List Int)} (hI : IsRows a ls) (h : Heap) (n d : Nat) : freezeV h n (d + 3) a = some a := by
  obtain ⟨es, z, r, rfl, hl, he⟩ := hI
  show (mapO (freezeV h n (d + 2)) es).map _ = _
  rw [mapO_id fun y hy => ?_]
  · rfl
  · obtain ⟨k, hk, rfl⟩ := List.getElem_of_mem hy
    obtain ⟨z', r', h'⟩ := he k _ (List.getElem?_eq_getElem (by omega))
    rw [List.getElem?_eq_getElem hk] at h'
    injection h' with h'
    rw [h', freeze_lint]
theorem pu59 : cfg.pure 59 = true := rfl
instance t59 {d : Option Nat} : TightD cfg 59 d := ⟨fun _ _ => rfl⟩
def B59 (p : List Bool) := cA p Tryz.f59.body
def R59 (p : List Bool) (i : Nat) := Code.region i (cA p Tryz.f59.body) false
theorem F59 : (∀ p i, XR cfg 59 (R59 p i) (B59 p) (cA p Tryz.f59.body).toList i false) ∧ cfg.imm 59 20 = true ∧ RE cfg 59 [0, 2, 3, 5, 7, 11, 12, 13, 14] ∧ cfg.pure 59 = true := ⟨fun _ _ => xr rfl rfl, by kernel_rfl, rE fun _ => rfl, rfl⟩
def l59_0 : Code := (.seq (R59 [tt, tt, tt, ff, tt, ff, ff, ff] 5) (.seq (.cond (.tmp 14) .skip (.exit 0)) (.seq (.block 1 (.seq (R59 [tt, tt, tt, ff, tt, ff, ff, tt, tt, ff, ff, ff] 6) (R59 [tt, tt, tt, ff, tt, ff, ff, tt, tt, ff, ff, tt] 7))) (R59 [tt, tt, tt, ff, tt, ff, ff, tt, tt, tt] 8))))
def k59 : Code := (.seq (R59 [ff] 0) (.seq (.seq (R59 [tt, ff, ff] 1) (.cond (.tmp 7) (.seq (R59 [tt, ff, tt, ff, ff] 2) .ret) .skip)) (.seq (R59 [tt, tt, ff] 3) (.seq (.seq (R59 [tt, tt, tt, ff, ff] 4) (.block 0 (.loop l59_0))) (.seq (R59 [tt, tt, tt, tt, ff] 9) .ret)))))
theorem call59 (x0 : AV) (h : Heap) : call cfg 59 [x0] h = (exec cfg 59 k59 [(0, x0)] h).bind (callEnd cfg 59 h [.tmp 2]) := call_at2 (fnat Tryz.func59 (b := k59) (by kernel_rfl) (by kernel_rfl)) rfl rfl
section
variable {p : SProg} {H : Heap} {ρ : Nat → Role} {s : Nat} {σ : SSt} {m mp : Nat} {cv tv ov : AV} {cs ts : List AV} (R : Rep p H ρ s σ m mp cv tv ov cs ts)
include R
theorem memCells_loop (hl : ∀ l ∈ σ.cells, l.length ≤ mostLen) (hn : σ.cells.length < 1000000) : ∀ (d i : Nat), i + d = σ.cells.length → ∀ (H' : Heap) v ds, CL H H' (σ.cells.take i) v ds → ∀ t2 t5 t7 t14,
    Got (exec cfg 59 (.loop l59_0) [(0, .ptr m 0 0), (2, t2), (3, v), (5, t5), (7, t7), (11, cv), (12, .int .i64 σ.cells.length), (13, .int .i64 i), (14, t14)] H') (fun q => ∃ v' H'' t5' t13' t14', q = (.exit 0, [(0, .ptr m 0 0), (2, t2), (3, v'), (5, t5'), (7, t7), (11, cv), (12, .int .i64 σ.cells.length), (13, t13'), (14, t14')], H'') ∧ ∃ ds', CL H H'' σ.cells v' ds') := by
  intro d
  induction d with
  | zero =>
    intro i hi H' v ds C t2 t5 t7 t14
    obtain rfl : i = σ.cells.length := by omega
    rw [List.take_length] at C
    rw [got_loop]
    simp only [l59_0, F59, Tryz.f59, sxAll, cA, arithA, Env.keep, ↓Option.bind_some, Nat.reduceBEq, ↓reduceIte, Nat.lt_irrefl]
    exact ⟨_, _, _, _, _, rfl, _, C⟩
  | succ d ih =>
    intro i hi H' v ds C t2 t5 t7 t14
    have hlt : (i < σ.cells.length) = True := by simp; omega
    have hw := wrap_succ (i := i) (by omega)
    have R' := R.kept C.le C.keep
    have hic : i < cs.length := by rw [R.cLen]; omega
    have hget : σ.cells[i]? = some σ.cells[i] := List.getElem?_eq_getElem (by omega)
    obtain ⟨o, g, cap, e, ho, hr⟩ := R'.cell i cs[i] _ (List.getElem?_eq_getElem hic) hget
    obtain ⟨o1, g1, i1, i2, i3, i4⟩ := R'.cArr.at (i := i) (by omega) (List.getElem?_eq_getElem hic) ty30 ty29
    rw [e] at i4
    simp only [Int.toNat_natCast] at i1 i4
    have hlo := live_of ho
    have hlo1 := live_of i2
    have kcs : known cs[i] = some cs[i] := by rw [e]; rfl
    obtain ⟨w, H1, hc, O⟩ := cloneL_at H' o g cap _ ho (hl _ (List.getElem_mem _))
    obtain ⟨v', H2, ha, kv, C'⟩ := C.push O [] (by rw [C.len]; simp; omega)
    rw [List.append_nil] at ha
    have kcv := R.cArr.known
    have hv0 := known_built C.b
    have hwk := O.kn
    have hwc := built_cells O.b
    have hwl := built_leaf O.b
    have hwo : Rv.one w = w := by rcases O.b with ⟨rfl, _⟩ | ⟨o, g, cap, rfl, _⟩ <;> rfl
    have htk : σ.cells.take i ++ [σ.cells[i]] = σ.cells.take (i + 1) := by rw [List.take_add_one, hget]; rfl
    rw [htk] at C'
    have := ih (i + 1) (by omega) H2 v' _ C'
    rw [got_loop]
    simp only [l59_0] at this ⊢
    simp only [F59, Tryz.f59, sxAll, cA, arithA, Env.keep, qt_eq, Rv.part, TD.isAgg, fillA, setCells, copies, mapO, ↓Option.bind_some, Nat.reduceBEq, Nat.reduceAdd, Nat.reduceMul, Nat.reduceLeDiff, Nat.reduceGT, bne, ↓reduceIte, load_ptr, hlt, hw, i1, i2, i4, kcv, hv0, hwk, hwc, hwo, hc, ha, kv, group, elems, pu58, ty30, ty29] at this ⊢
    exact this _ _ _ _
theorem memCells_eq (hl : ∀ l ∈ σ.cells, l.length ≤ mostLen) (hn : σ.cells.length < 1000000) : ∃ a, call cfg 59 [.ptr m 0 0] H = some (.ret a, H) ∧ IsRows a σ.cells := by
  have hs := R.mem
  have hls := live_of hs
  obtain ⟨⟨o, e', H'⟩, hx, v', H'', t5', t13', t14', hq, ds', C⟩ := memCells_loop R hl hn σ.cells.length 0 (by omega) H _ _ (by simpa using CL.nil H) (.lst [] 0 .nil) .junk (.bool false) .junk
  simp only [Prod.mk.injEq] at hq
  obtain ⟨rfl, rfl, rfl⟩ := hq
  obtain ⟨a, hf, hI⟩ := C.freeze 37
  refine ⟨a, ?_, hI⟩
  have kcv := R.cArr.known
  have hlen := R.cArr.len 29
  rw [R.cLen] at hlen
  have kv := known_built C.b
  simp only [Int.natCast_zero] at hx
  rw [call59]
  simp only [F59, k59, Tryz.f59, sxAll, cA, Env.keep, qt_eq, resultsA, packA, fieldAddrA, Rv.part, TD.isAgg, ↓Option.bind_some, Nat.reduceBEq, Nat.reduceAdd, ↓reduceIte, load_ptr, hs, hls, ptr_eq_nil ty65 hls, kcv, hlen, hx, kv, ty108, ty30]
  refine leave_pure pu59 ?_ hf
  apply List.ext_getElem?
  intro j
  by_cases hj : j < H.length
  · rw [List.getElem?_take_of_lt hj, C.keep j hj]
  · rw [List.getElem?_eq_none (by simp; omega), List.getElem?_eq_none (by omega)]
end
theorem pu35 : cfg.pure 35 = true := rfl
instance t35 {d : Option Nat} : TightD cfg 35 d := ⟨fun _ _ => rfl⟩
def B35 (p : List Bool) := cA p Tryz.f35.body
def R35 (p : List Bool) (i : Nat) := Code.region i (cA p Tryz.f35.body) false
theorem F35 : (∀ p i, XR cfg 35 (R35 p i) (B35 p) (cA p Tryz.f35.body).toList i false) ∧ RE cfg 35 [0, 2, 4] ∧ cfg.pure 35 = true := ⟨fun _ _ => xr rfl rfl, rE fun _ => rfl, rfl⟩
def k35 : Code := (.seq (R35 [ff] 0) (.seq (.seq (R35 [tt, ff, ff] 1) (.cond (.tmp 4) (.seq (R35 [tt, ff, tt, ff, ff] 2) .ret) .skip)) (.seq (R35 [tt, tt, ff] 3) .ret)))
theorem call35 (x0 : AV) (h : Heap) : call cfg 35 [x0] h = (exec cfg 35 k35 [(0, x0)] h).bind (callEnd cfg 35 h [.tmp 2]) := call_at2 (fnat Tryz.func35 (b := k35) (by kernel_rfl) (by kernel_rfl)) rfl rfl
theorem cells_eq {p : SProg} {H : Heap} {ρ : Nat → Role} {s : Nat} {σ : SSt} (A : At p H ρ s σ) (hl : ∀ l ∈ σ.cells, l.length ≤ mostLen) (hn : σ.cells.length < 1000000) : ∃ a, call cfg 35 [.ptr s 0 0] H = some (.ret a, H) ∧ IsRows a σ.cells := by
  obtain ⟨m, mp, cv, tv, ov, cs, ts, R⟩ := A
  obtain ⟨a, hc, hI⟩ := memCells_eq R hl hn
  refine ⟨a, ?_, hI⟩
  have hs := R.st
  have hls := live_of hs
  have ka : known a = some a := by obtain ⟨es, z, r, rfl, _⟩ := hI; rfl
  simp only [SProg.cells, List.cons_append, List.nil_append] at hs
  rw [call35]
  simp only [F35, k35, Tryz.f35, sxAll, cA, Env.keep, qt_eq, resultsA, packA, fieldAddrA, Rv.part, TD.isAgg, mapO, ↓Option.bind_some, Nat.reduceBEq, Nat.reduceAdd, ↓reduceIte, load_ptr, hs, hls, ptr_eq_nil ty51 hls, hc, ka, pu59, ty71, ty65]
  exact leave_kept pu35 (hI.still _ _ 37)
end
end Go.Proofs.Sx
namespace Go.Proofs.Sx
open Go.Rv Go.Proofs
attribute [local congr] bind_left got_left
noncomputable section
def runGo (go : SSt → Nat → Int × Int × SSt) (b : Bool) : Nat → Nat → SSt → List Int → SSt × List Int
  | 0, _, σ, row => (σ, row)
  | d + 1, i, σ, row =>
    if (go σ i).2.1 = 0 then runGo go b d (i + 1) (go σ i).2.2 (row ++ [(go σ i).1])
    else if b then runGo go b d (i + 1) (go σ i).2.2 row else ((go σ i).2.2, row)
def Good (σ : SSt) : Prop := LastOk σ ∧ σ.cells.length < 1000000 ∧ ∀ n ∈ σ.cells.map List.length, n < 1000000
theorem becomes_cells (σ : SSt) (t : Nat) (rest : List SFrame) (f : SFrame) (r : Int) : ∀ o, (becomesS σ t rest f r o).1.cells = σ.cells
  | none => rfl
  | some _ => rfl
theorem setCell_shape (σ : SSt) (m pl v : Int) : (setCell σ m pl v).cells.map List.length = σ.cells.map List.length := by
  apply List.ext_getElem?
  intro i
  simp only [setCell, List.getElem?_map]
  by_cases hi : i = m.toNat
  · subst hi
    by_cases hl : m.toNat < σ.cells.length
    · rw [List.getElem?_set_self hl]
      simp [List.getD_eq_getElem?_getD, List.getElem?_eq_getElem hl]
    · rw [List.getElem?_eq_none (by simp; omega), List.getElem?_eq_none (by omega)]
  · rw [List.getElem?_set_ne (Ne.symm hi)]
theorem ite_p {c : Prop} [Decidable c] {P : SSt × Bool → Prop} {a b : SSt × Bool} (ha : P a) (hb : P b) : P (if c then a else b) := by
  by_cases h : c
  · rw [if_pos h]; exact ha
  · rw [if_neg h]; exact hb
def ShapeP (σ : SSt) (x : SSt × Bool) : Prop := x.1.cells.map List.length = σ.cells.map List.length
theorem shape_becomes (σ : SSt) (t : Nat) (rest : List SFrame) (f : SFrame) (r : Int) (o : Option Int) : ShapeP σ (becomesS σ t rest f r o) := by
  unfold ShapeP; rw [becomes_cells]
theorem exe_shape (p : SProg) (σ : SSt) (t : Nat) (rest : List SFrame) (f : SFrame) (i : SIns) : ShapeP σ (exeS p σ t rest f i) := by
  unfold exeS
  repeat' refine ite_p ?_ ?_
  all_goals first | exact shape_becomes .. | exact (rfl : _) | exact setCell_shape .. | skip
  cases rest.getLast? <;> exact (rfl : _)
theorem endS_cells (p : SProg) (σ : SSt) : (endS p σ).cells = σ.cells := by
  unfold endS
  by_cases h1 : σ.ending ≠ 0
  · rw [if_pos h1]
  · rw [if_neg h1]
    by_cases h2 : (σ.thr.all fun x => x.isEmpty) = true
    · rw [if_pos h2]
    · rw [if_neg h2]
      by_cases h3 : ableL p σ = []
      · rw [if_pos h3]
      · rw [if_neg h3]
theorem endS_last (p : SProg) (σ : SSt) : (endS p σ).last = σ.last := by
  unfold endS
  by_cases h1 : σ.ending ≠ 0
  · rw [if_pos h1]
  · rw [if_neg h1]
    by_cases h2 : (σ.thr.all fun x => x.isEmpty) = true
    · rw [if_pos h2]
    · rw [if_neg h2]
      by_cases h3 : ableL p σ = []
      · rw [if_pos h3]
      · rw [if_neg h3]
theorem step_shape (p : SProg) (σ : SSt) (t : Nat) : (stepS p σ t).cells.map List.length = σ.cells.map List.length := by
  unfold stepS
  cases ht : σ.top t with
  | none => rfl
  | some f =>
    simp only
    cases hi : insAt p f with
    | none => rfl
    | some i =>
      simp only [endS_cells]
      exact exe_shape ..
theorem step_last (p : SProg) (σ : SSt) (t : Nat) (hs : σ.thr.length ≤ 16) (hL : LastOk σ) : LastOk (stepS p σ t) := by
  unfold stepS
  cases ht : σ.top t with
  | none => exact hL
  | some f =>
    have htl : t < σ.thr.length := by
      unfold SSt.top at ht
      cases hg : σ.thr[t]? with
      | none => rw [hg] at ht; cases ht
      | some _ => exact (List.getElem?_eq_some_iff.1 hg).1
    simp only
    cases hi : insAt p f with
    | none => exact hL
    | some i =>
      simp only [LastOk, endS_last]
      omega
theorem Good.step {p : SProg} {σ : SSt} {K : Nat} (W : SOk p K σ) (h : Good σ) (t : Nat) : Good (stepS p σ t) := by
  have hs := step_shape p σ t
  have hl := congrArg List.length hs
  simp only [List.length_map] at hl
  exact ⟨step_last p σ t W.few h.1, by rw [hl]; exact h.2.1, by rw [hs]; exact h.2.2⟩
structure Goes (p : SProg) (c : AV) (go : SSt → Nat → Int × Int × SSt) (N : Nat) : Prop where
  kn : known c = some c
  call : ∀ {H : Heap} {ρ : Nat → Role} {s : Nat} {σ : SSt} {K i : Nat}, At p H ρ s σ → SOk p K σ → K < 10000000 → Good σ → i < N →
    ∃ H' ρ', callv cfg c [.ptr s 0 0, .int .i64 i] H = some (.ret (.tup [.int .i64 (go σ i).1, .int .i64 (go σ i).2.1]), H') ∧ At p H' ρ' s (go σ i).2.2 ∧ Frm H ρ H' ρ' ∧ SOk p (K + 1) (go σ i).2.2 ∧ Good (go σ i).2.2
structure RowR (n : Nat) (H : Heap) (ρ : Nat → Role) (v : AV) (xs : List Int) : Prop where
  b : Built H v (intL xs) 1
  own : ∀ o, objOf v = some o → n ≤ o ∧ ρ o = .other
structure Frm0 (n : Nat) (h : Heap) (ρ : Nat → Role) (h' : Heap) (ρ' : Nat → Role) : Prop where
  le : h.length ≤ h'.length
  keep : ∀ o, o < n → ρ o = .other → h'[o]? = h[o]? ∧ ρ' o = .other
theorem Frm0.refl (n : Nat) (h : Heap) (ρ : Nat → Role) : Frm0 n h ρ h ρ := ⟨Nat.le_refl _, fun _ _ h => ⟨rfl, h⟩⟩
theorem Frm0.trans {n : Nat} {h h' h'' : Heap} {ρ ρ' ρ'' : Nat → Role} (a : Frm0 n h ρ h' ρ') (b : Frm0 n h' ρ' h'' ρ'') : Frm0 n h ρ h'' ρ'' :=
  ⟨Nat.le_trans a.le b.le, fun o ho hr => by
    obtain ⟨a1, a2⟩ := a.keep o ho hr
    obtain ⟨b1, b2⟩ := b.keep o ho a2
    exact ⟨b1.trans a1, b2⟩⟩
theorem Frm.low {n : Nat} {h h' : Heap} {ρ ρ' : Nat → Role} (a : Frm h ρ h' ρ') (hn : n ≤ h.length) : Frm0 n h ρ h' ρ' := ⟨a.le, fun o ho hr => a.keep o (by omega) hr⟩
theorem RowR.frm {n : Nat} {h h' : Heap} {ρ ρ' : Nat → Role} {v : AV} {xs : List Int} (R : RowR n h ρ v xs) (a : Frm h ρ h' ρ') : RowR n h' ρ' v xs where
  b := R.b.other fun o ho => (a.keep o (built_lt R.b ho) (R.own o ho).2).1
  own o ho := ⟨(R.own o ho).1, (a.keep o (built_lt R.b ho) (R.own o ho).2).2⟩
theorem RowR.push {n : Nat} {p : SProg} {H : Heap} {ρ : Nat → Role} {s : Nat} {σ : SSt} {v : AV} {xs : List Int} (R : RowR n H ρ v xs) (A : At p H ρ s σ) (hn : n ≤ H.length) (x : Int) (hl : xs.length < 1000000) :
    ∃ v' H', appendA H 1 v [.int .i64 x] = some (v', H') ∧ known v' = some v' ∧ RowR n H' ρ v' (xs ++ [x]) ∧ At p H' ρ s σ ∧ Frm0 n H ρ H' ρ := by
  obtain ⟨v', H', h1, h2, h4, h5, h6⟩ := append_built (ys := [AV.int .i64 x]) R.b (plain_ints xs).size (fun y hy => (plain_ints [x]).leafs y hy) (by omega) (by simp [intL, mostLen]; omega)
  obtain ⟨m, mp, cv, tv, ov, cs, ts, Rp⟩ := A
  refine ⟨v', H', h1, known_built h2, ⟨by simpa [intL] using h2, fun o ho => ?_⟩, ⟨m, mp, cv, tv, ov, cs, ts, Rp.mono h4 (fun o ho hr _ => ⟨h5 o ho fun hc => hr (R.own o hc).2, rfl⟩) fun o ho => Rp.fresh o (by omega)⟩, ⟨h4, fun o ho hr => ⟨h5 o (by omega) fun hc => ?_, hr⟩⟩⟩
  · rcases h6 with h6 | h6
    · exact R.own o (h6 ▸ ho)
    · rw [h6] at ho; injection ho with ho; subst ho
      exact ⟨hn, Rp.fresh _ (Nat.le_refl _)⟩
  · have := (R.own o hc).1; omega
theorem cloneI_eq (H : Heap) (v : AV) (xs : List Int) (B : Built H v (intL xs) 1) (hl : xs.length ≤ mostLen) : ∃ z r, call cfg 36 [v] H = some (.ret (.lst (intL xs) z r), H) ∧ (z = 1 ∨ xs = []) := by
  rcases B with ⟨rfl, hnil⟩ | ⟨o, g, cap, rfl, hob, hcap⟩
  · have hx : intL xs = [] := hnil
    refine ⟨0, .nil, ?_, .inr (by simpa [intL] using hx)⟩
    rw [call36, hx]
    simp only [F36, k36, Tryz.f36, sxAll, cA, Env.keep, resultsA, packA, ↓Option.bind_some, Nat.reduceBEq, ↓reduceIte, ty31, binA, eqC, eqA]
    exact leave_kept rfl rfl
  · have hlive := live_of hob
    have O0 : Own H.length H (H ++ [.cells [] 0]) (.msl H.length 0 0 1 0 (some 0)) [] :=
      ⟨.inr ⟨H.length, 0, some 0, rfl, by simp [Heap.obj, flatC], .inr rfl⟩, fun o ho => by simp only [objOf, Option.some.injEq] at ho; omega, by simp, by simp⟩
    obtain ⟨v', H', ha, O'⟩ := O0.push (fun _ h => by simp at h) (plain_ints xs) (by simpa [intL] using hl)
    have he : elems (H ++ [.cells [] 0]) (.msl o 0 (intL xs).length 1 g cap) = some (intL xs) := elems_built (Built.app (.inr ⟨o, g, cap, rfl, hob, hcap⟩) _) (plain_ints xs)
    have ha' : appendA (H ++ [.cells [] 0]) 1 (.msl H.length 0 0 1 0 (some 0)) (intL xs) = some (v', H') := ha
    rw [call36]
    simp only [F36, k36, Tryz.f36, sxAll, cA, Env.keep, resultsA, packA, fillA, copies, ↓Option.bind_some, Nat.reduceBEq, Nat.reduceAdd, Nat.reduceGT, bne, ↓reduceIte, ty31, ty3, binA, eqC, eqA, hlive, Nat.zero_mul, he, ha', O'.kn]
    rcases O'.leave (by simpa using plain_ints xs) (C := cfg) (f := 36) rfl with ⟨h1, h2⟩ | h2
    · have : intL xs = [] := by simpa [intL] using h1
      refine ⟨0, .nil, ?_, .inr (by simpa [intL] using this)⟩
      rw [this]; exact h2
    · refine ⟨1, .open, ?_, .inl rfl⟩
      rw [List.nil_append] at h2
      exact h2
def IsRowsC (a : AV) (ls : List (List Int)) (c : Prop) : Prop := ∃ es z r, a = .lst es z r ∧ es.length = ls.length ∧ (∀ (k : Nat) xs, ls[k]? = some xs → ∃ z r, es[k]? = some (.lst (intL xs) z r)) ∧ c
theorem IsRowsC.rows {a : AV} {ls : List (List Int)} {c : Prop} (h : IsRowsC a ls c) : IsRows a ls := by
  obtain ⟨es, z, r, h1, h2, h3, _⟩ := h
  exact ⟨es, z, r, h1, h2, h3⟩
theorem IsRows.and {a : AV} {ls : List (List Int)} {c : Prop} (h : IsRows a ls) (hc : c) : IsRowsC a ls c := by
  obtain ⟨es, z, r, h1, h2, h3⟩ := h
  exact ⟨es, z, r, h1, h2, h3, hc⟩
theorem pu18 : cfg.pure 18 = false := rfl
instance t18 {d : Option Nat} : TightD cfg 18 d := ⟨fun _ _ => rfl⟩
def B18 (p : List Bool) := cA p Tryz.f18.body
def R18 (p : List Bool) (i : Nat) := Code.region i (cA p Tryz.f18.body) false
theorem F18 : (∀ p i, XR cfg 18 (R18 p i) (B18 p) (cA p Tryz.f18.body).toList i false) ∧ cfg.imm 18 2 = true ∧ GO cfg 18 (B18 [tt, tt, ff, tt, ff, ff, tt, tt, ff, ff, tt, tt, ff, ff]) 2 24 ∧ cfg.imm 18 33 = true ∧ RE cfg 18 [0, 1, 2, 4, 5, 6, 7, 8, 10, 11, 12, 28, 30] ∧ cfg.pure 18 = false := ⟨fun _ _ => xr rfl rfl, by kernel_rfl, gO (by kernel_rfl), by kernel_rfl, rE fun _ => rfl, rfl⟩
def l18_0 : Code := (.seq (R18 [tt, tt, ff, tt, ff, ff, ff] 3) (.seq (.cond (.tmp 12) .skip (.exit 0)) (.seq (.block 1 (.seq (R18 [tt, tt, ff, tt, ff, ff, tt, tt, ff, ff, ff] 4) (.seq (R18 [tt, tt, ff, tt, ff, ff, tt, tt, ff, ff, tt, ff] 5) (.seq (.seq (R18 [tt, tt, ff, tt, ff, ff, tt, tt, ff, ff, tt, tt, ff, ff] 6) (.cond (.tmp 28) (.exit 0) .skip)) (.seq (R18 [tt, tt, ff, tt, ff, ff, tt, tt, ff, ff, tt, tt, tt, ff] 7) (.cond (.tmp 30) (R18 [tt, tt, ff, tt, ff, ff, tt, tt, ff, ff, tt, tt, tt, tt, ff] 8) .skip)))))) (R18 [tt, tt, ff, tt, ff, ff, tt, tt, tt] 9))))
def k18 : Code := (.seq (R18 [ff] 0) (.seq (R18 [tt, ff] 1) (.seq (.seq (R18 [tt, tt, ff, ff] 2) (.block 0 (.loop l18_0))) (.seq (R18 [tt, tt, tt, ff] 10) .ret))))
theorem call18 (x0 x1 : AV) (h : Heap) : call cfg 18 [x0, x1] h = (exec cfg 18 k18 [(0, x0), (1, x1)] h).bind (callEnd cfg 18 h [.cell 4 33]) := call_at2 (fnat Tryz.func18 (b := k18) (by kernel_rfl) (by kernel_rfl)) rfl rfl
section
variable {p : SProg} {c : AV} {go : SSt → Nat → Int × Int × SSt} {N : Nat} (G : Goes p c go N) (hN : N ≤ 1000000) (b : Bool)
include G hN
theorem way_loop (s o4 n : Nat) (H0 : Heap) (ρ0 : Nat → Role) : ∀ (d i : Nat), i + d = N → ∀ (H : Heap) (ρ : Nat → Role) (σ : SSt) (K : Nat) (v : AV) (row : List Int), At p H ρ s σ → SOk p K σ → K + d < 10000000 → Good σ → RowR n H ρ v row → row.length ≤ i → n ≤ H.length → Frm0 n H0 ρ0 H ρ → ∀ t0 t6 t7 t8 t12 t28 t30,
    Got (exec cfg 18 (.loop l18_0) [(0, t0), (1, .ptr s 0 0), (2, .ref [c, .int .i64 N, .bool b]), (4, .ptr o4 0 0), (5, v), (6, t6), (7, t7), (8, t8), (10, .int .i64 N), (11, .int .i64 i), (12, t12), (28, t28), (30, t30)] H) (fun q =>
      ∃ v' H' t6 t7 t8 t11 t12 t28 t30, q = (.exit 0, [(0, t0), (1, .ptr s 0 0), (2, .ref [c, .int .i64 N, .bool b]), (4, .ptr o4 0 0), (5, v'), (6, t6), (7, t7), (8, t8), (10, .int .i64 N), (11, t11), (12, t12), (28, t28), (30, t30)], H') ∧
        ∃ ρ', At p H' ρ' s (runGo go b d i σ row).1 ∧ SOk p (K + d) (runGo go b d i σ row).1 ∧ Good (runGo go b d i σ row).1 ∧ RowR n H' ρ' v' (runGo go b d i σ row).2 ∧ (runGo go b d i σ row).2.length ≤ N ∧ Frm0 n H0 ρ0 H' ρ') := by
  intro d
  induction d with
  | zero =>
    intro i hi H ρ σ K v row A W hK hL R hr hn F t0 t6 t7 t8 t12 t28 t30
    obtain rfl : i = N := by omega
    rw [got_loop]
    simp only [l18_0, F18, Tryz.f18, sxAll, cA, arithA, Env.keep, ↓Option.bind_some, Nat.reduceBEq, ↓reduceIte, Nat.lt_irrefl, runGo]
    exact ⟨_, _, _, _, _, _, _, _, _, rfl, ρ, A, W, hL, R, hr, F⟩
  | succ d ih =>
    intro i hi H ρ σ K v row A W hK hL R hr hn F t0 t6 t7 t8 t12 t28 t30
    have hlt : (i < N) = True := by simp; omega
    have hw := wrap_succ (i := i) (by omega)
    obtain ⟨H1, ρ1, hc, A1, F1, W1, L1⟩ := G.call A W (by omega) hL (show i < N by omega)
    have R1 := R.frm F1
    have hkc := G.kn
    have hkv := known_built R1.b
    have hle1 := F1.le
    rw [got_loop]
    unfold runGo
    generalize go σ i = r at hc A1 W1 L1 ⊢
    obtain ⟨t, e, σ1⟩ := r
    simp only at hc A1 W1 L1 ⊢
    by_cases he : e = 0
    · subst he
      obtain ⟨v2, H2, ha, kv2, R2, A2, F2⟩ := R1.push A1 (by omega) t (by omega)
      have hle2 := F2.le
      have := ih (i + 1) (by omega) H2 ρ1 σ1 (K + 1) v2 (row ++ [t]) A2 W1 (by omega) L1 R2 (by simp; omega) (by omega) ((F.trans (F1.low hn)).trans F2)
      simp only [l18_0, show K + 1 + d = K + (d + 1) by omega] at this
      simp only [F18, Tryz.f18, sxAll, cA, arithA, Env.keep, qt_eq, fieldAddrA, loadA, Rv.part, cellsAt, TD.isAgg, fillA, setCells, copies, mapO, ↓Option.bind_some, Nat.reduceBEq, Nat.reduceAdd, Nat.reduceMul, Nat.reduceLeDiff, Nat.reduceGT, bne, ↓reduceIte, l18_0, hlt, hc, hw, hkc, hkv, ha, kv2, elems, group, ty55, ty57, ty31, ty3] at this ⊢
      exact this _ _ _ _ _ _ _
    · have he' : (e == 0) = false := by simp [he]
      rw [if_neg he]
      cases b with
      | true =>
        have := ih (i + 1) (by omega) H1 ρ1 σ1 (K + 1) v row A1 W1 (by omega) L1 R1 (by omega) (by omega) (F.trans (F1.low hn))
        simp only [l18_0, show K + 1 + d = K + (d + 1) by omega] at this
        simp only [F18, Tryz.f18, sxAll, cA, arithA, Env.keep, qt_eq, unA, fieldAddrA, loadA, Rv.part, cellsAt, TD.isAgg, mapO, ↓Option.bind_some, Nat.reduceBEq, bne, ↓reduceIte, l18_0, hlt, hc, hw, hkc, he', ty55, ty4, ty57] at this ⊢
        exact this _ _ _ _ _ _ _
      | false =>
        simp only [F18, Tryz.f18, sxAll, cA, arithA, Env.keep, qt_eq, unA, fieldAddrA, loadA, Rv.part, cellsAt, TD.isAgg, mapO, ↓Option.bind_some, Nat.reduceBEq, bne, ↓reduceIte, l18_0, hlt, hc, hkc, he', ty55, ty4, ty57]
        exact ⟨_, _, _, _, _, _, _, _, _, rfl, ρ1, A1, W1.up (by omega), L1, R1, by omega, F.trans (F1.low hn)⟩
def ResA (x : SSt × List Int) (v : AV) : Prop := ∃ z r a z' r', v = .agg [.int .u8 x.1.ending, .lst (intL x.1.out) z r, a, .int .i64 x.2.length, .lst (intL x.2) z' r'] ∧ IsRowsC a x.1.cells (z' = 1 ∨ x.2 = [])
end
end
end Go.Proofs.Sx
namespace Go.Proofs.Sx
open Go.Rv Go.Proofs
attribute [local congr] bind_left got_left
noncomputable section
section
variable {p : SProg} {c : AV} {go : SSt → Nat → Int × Int × SSt} {N : Nat} (G : Goes p c go N) (hN : N ≤ 1000000) (b : Bool)
include G hN
theorem wayRun_eq {H : Heap} {ρ : Nat → Role} {s : Nat} {σ : SSt} {K : Nat} (A : At p H ρ s σ) (W : SOk p K σ) (hK : K + N < 10000000) (hL : Good σ) :
    ∃ H' v, call cfg 18 [.agg [c, .int .i64 N, .bool b], .ptr s 0 0] H = some (.ret v, H') ∧ ResA (runGo go b N 0 σ []) v ∧ H.length ≤ H'.length ∧ ∀ x, x < H.length → ρ x = .other → H'[x]? = H[x]? := by
  have hkc := G.kn
  have A0 : At p (H ++ [.cells [.int .u8 0, .lst [] 0 .nil, .lst [] 0 .nil, .int .i64 0, .lst [] 0 .nil] 0]) ρ s σ := by
    obtain ⟨m, mp, cv, tv, ov, cs, ts, R⟩ := A
    exact ⟨m, mp, cv, tv, ov, cs, ts, R.app _⟩
  have R0 : RowR (H.length + 1) (H ++ [.cells [.int .u8 0, .lst [] 0 .nil, .lst [] 0 .nil, .int .i64 0, .lst [] 0 .nil] 0]) ρ (.lst [] 0 .nil) [] := ⟨.inl ⟨rfl, rfl⟩, fun o h => by cases h⟩
  have hoth : ρ H.length = .other := by
    obtain ⟨m, mp, cv, tv, ov, cs, ts, R⟩ := A
    exact R.fresh _ (Nat.le_refl _)
  obtain ⟨⟨o, e', H'⟩, hx, v', H'', t6, t7, t8, t11, t12, t28, t30, hq, ρ', A1, W1, L1, R1, hr1, F1⟩ := way_loop G hN b s H.length (H.length + 1) _ ρ N 0 (by omega) _ ρ σ K (.lst [] 0 .nil) [] A0 W hK hL R0 (Nat.zero_le _) (by simp) (Frm0.refl _ _ _) (.agg [c, .int .i64 N, .bool b]) .junk .junk .junk .junk .junk .junk
  simp only [Prod.mk.injEq] at hq
  obtain ⟨rfl, rfl, rfl⟩ := hq
  generalize hr : runGo go b N 0 σ [] = r at *
  obtain ⟨σ', row⟩ := r
  simp only at A1 W1 L1 R1 hr1
  have ho : H'.obj H.length 0 = some [.int .u8 0, .lst [] 0 .nil, .lst [] 0 .nil, .int .i64 0, .lst [] 0 .nil] := by
    have := (F1.keep H.length (by omega) hoth).1
    have hz : (H ++ [AObj.cells [.int .u8 0, .lst [] 0 .nil, .lst [] 0 .nil, .int .i64 0, .lst [] 0 .nil] 0]).obj H.length 0 = some [.int .u8 0, .lst [] 0 .nil, .lst [] 0 .nil, .int .i64 0, .lst [] 0 .nil] := by rw [obj_app0, obj_zero]
    exact obj_of hz this
  have hlo := live_of ho
  have h3 := cells_eq A1 (fun l hl => by have := L1.2.2 _ (List.mem_map_of_mem hl); simp only [mostLen]; omega) L1.2.1
  obtain ⟨a, h3, hI⟩ := h3
  have hI' := hI
  obtain ⟨es, za, ra, rfl, _⟩ := hI'
  obtain ⟨m, mp, cv, tv, ov, cs, ts, R⟩ := A1
  have h1 := ending_eq R
  have hout := W1.outs
  obtain ⟨z, rm, h2⟩ := out_eq R (by simp [mostLen]; omega)
  have hlen := len_built (e := 3) R1.b
  have hll : (intL row).length = row.length := by simp [intL]
  rw [hll] at hlen
  obtain ⟨z', rm', h4, hz4⟩ := cloneI_eq H' v' row R1.b (by simp [mostLen]; omega)
  have kv := known_built R1.b
  refine ⟨H'.set H.length (.cells [.int .u8 σ'.ending, .lst (intL σ'.out) z rm, .lst es za ra, .int .i64 row.length, .lst (intL row) z' rm'] 0), .agg [.int .u8 σ'.ending, .lst (intL σ'.out) z rm, .lst es za ra, .int .i64 row.length, .lst (intL row) z' rm'], ?_, ⟨z, rm, .lst es za ra, z', rm', rfl, hI.and hz4⟩, ?_, ?_⟩
  · have hst : ∀ vs : List AV, vs = [.int .u8 σ'.ending, .lst (intL σ'.out) z rm, .lst es za ra, .int .i64 row.length, .lst (intL row) z' rm'] → storeA cfg H' 33 (.ptr H.length 0 0) (.agg vs) = some (H'.set H.length (.cells vs 0)) := fun vs hv => by
      subst hv
      simp [storeA, ty33, ho, AV.cells, AV.leaf, setCells]
    have hst' := hst _ rfl
    have hob := obj_sets (cs' := [.int .u8 σ'.ending, .lst (intL σ'.out) z rm, .lst es za ra, .int .i64 row.length, .lst (intL row) z' rm']) ho 0
    have hlob := live_of hob
    rw [call18]
    simp only [Int.natCast_zero] at hx
    simp only [F18, k18, Tryz.f18, sxAll, cA, Env.keep, qt_eq, resultsA, packA, fieldAddrA, Rv.part, TD.isAgg, buildA, fillA, setCells, mapO, ↓Option.bind_some, Nat.reduceBEq, Nat.reduceAdd, Nat.reduceLeDiff, ↓reduceIte, load_ptr, load_ref, hx, kv, h1, h2, h3, h4, hlen, hst', hob, pu33, pu34, pu35, pu36, ty57, ty33, ty31, ty3, ty5, ty29, ty30]
    exact leave_impure pu18
  · have := F1.le
    simp at this ⊢; omega
  · intro x hx hr
    rw [List.getElem?_set_ne (by omega), (F1.keep x (by omega) hr).1, List.getElem?_append_left hx]
end
end
end Go.Proofs.Sx
