/-
  package step: 'Cell': which cell a thread is about to read or write.
-/
import Derived.Test.YtlimadookjcbmaaGreatDoorPtR
set_option linter.unusedSectionVars false
set_option linter.unusedSimpArgs false
set_option linter.unusedVariables false
set_option linter.defProp false
set_option maxHeartbeats 8000000
set_option maxRecDepth 100000
namespace Go.Proofs.Sx
open Go.Rv Go.Proofs
attribute [local congr] bind_left got_left
noncomputable section
theorem pu42 : cfg.pure 42 = true := rfl
instance t42 {d : Option Nat} : TightD cfg 42 d := ⟨fun _ _ => rfl⟩
def B42 (p : List Bool) := cA p Tryz.f42.body
def R42 (p : List Bool) (i : Nat) := Code.region i (cA p Tryz.f42.body) false
def D42 (p : List Bool) (i : Nat) := Code.region i (cA p Tryz.f42.body) true
theorem F42 : (∀ p i, XR cfg 42 (R42 p i) (B42 p) (cA p Tryz.f42.body).toList i false) ∧ cfg.imm 42 26 = true ∧ GO cfg 42 (B42 [tt, tt, tt, tt, ff, ff]) 6 33 ∧ XR cfg 42 (D42 [tt, tt, tt, tt, tt, tt, ff, ff] 8) (B42 [tt, tt, tt, tt, tt, tt, ff, ff]) ((cA [tt, tt, tt, tt, tt, tt, ff, ff] Tryz.f42.body).toList) 8 true ∧ XR cfg 42 (D42 [tt, tt, tt, tt, tt, tt, tt, ff] 11) (B42 [tt, tt, tt, tt, tt, tt, tt, ff]) ((cA [tt, tt, tt, tt, tt, tt, tt, ff] Tryz.f42.body).toList) 11 true ∧ RE cfg 42 [0, 1, 4, 5, 6, 7, 8, 10, 14, 40, 59] ∧ cfg.pure 42 = true := ⟨fun _ _ => xr rfl rfl, by kernel_rfl, gO (by kernel_rfl), xd (by kernel_rfl) rfl rfl, xd (by kernel_rfl) rfl rfl, rE fun _ => rfl, rfl⟩
def k42 : Code := (.seq (R42 [ff] 0) (.seq (.seq (R42 [tt, ff, ff] 1) (.cond (.tmp 14) (.seq (R42 [tt, ff, tt, ff, ff] 2) .ret) .skip)) (.seq (R42 [tt, tt, ff] 3) (.seq (R42 [tt, tt, tt, ff] 4) (.seq (.seq (R42 [tt, tt, tt, tt, ff, ff] 5) (.cond (.tmp 40) (.seq (R42 [tt, tt, tt, tt, ff, tt, ff, ff] 6) .ret) .skip)) (.seq (R42 [tt, tt, tt, tt, tt, ff] 7) (.seq (.seq (D42 [tt, tt, tt, tt, tt, tt, ff, ff] 8) (.seq (R42 [tt, tt, tt, tt, tt, tt, ff, tt, ff] 9) (.cond (.tmp 59) (.seq (R42 [tt, tt, tt, tt, tt, tt, ff, tt, tt, ff, ff] 10) .ret) .skip))) (.seq (D42 [tt, tt, tt, tt, tt, tt, tt, ff] 11) .ret))))))))
theorem call42 (x0 x1 : AV) (h : Heap) : call cfg 42 [x0, x1] h = (exec cfg 42 k42 [(0, x0), (1, x1)] h).bind (callEnd cfg 42 h [.cell 4 95, .tmp 5]) := call_at2 (fnat Tryz.func42 (b := k42) (by kernel_rfl) (by kernel_rfl)) rfl rfl
def cellS (p : SProg) (σ : SSt) (t : Nat) : Option (Int × Int × Bool) :=
  if canB p σ t then (match σ.top t with
    | none => none
    | some f => match insAt p f with
      | none => none
      | some i => if (i.op == 5 || i.op == 6) && (cellOf σ i.n (placeOf f i)).isSome then some (i.n, placeOf f i, i.op == 6) else none)
  else none
def accA : Option (Int × Int × Bool) → AV
  | none => .agg [.int .i64 0, .int .i64 0, .bool false]
  | some x => .agg [.int .i64 x.1, .int .i64 x.2.1, .bool x.2.2]
theorem store_acc (h : Heap) (a b c : AV) (x y : Int) (w : Bool) : storeA cfg (h ++ [.cells [a, b, c] 0]) 95 (.ptr h.length 0 0) (.agg [.int .i64 x, .int .i64 y, .bool w]) = some (h ++ [.cells [.int .i64 x, .int .i64 y, .bool w] 0]) := by
  simp [storeA, ty95, obj_app0, obj_zero, AV.cells, AV.leaf, setCells]
section
variable {H : Heap} {s t : Nat} {f : SFrame} {i : SIns} {o k g oR gR : Nat} {cp : Option Nat} {c : List AV} (ho : H.obj o g = some c) (d2 : c.drop (k + 2) = .msl oR 0 f.regs.length 1 gR cp :: c.drop (k + 3)) (hr : H.obj oR gR = some (intL f.regs))
include ho d2 hr
theorem reg_ref {a : Int} (h0 : 0 ≤ a) (h1 : a < f.regs.length) : call cfg 88 [.ref (workC s t o k g i false), .int .i64 a] H = some (.ret (.int .i64 (regV f a)), H) := by
  rw [call88]
  have hlo := live_of ho
  simp only [workC]
  simp only [F88, k88, Tryz.f88, sxAll, cA, Env.keep, qt_eq, resultsA, packA, fieldAddrA, Rv.part, TD.isAgg, ↓Option.bind_some, ↓Option.bind_none, Nat.reduceBEq, ↓reduceIte, load_ptr, load_ref, hlo, ho, d2, hr, regs_idx hr h0 h1, regs_drop h0 h1, ty89, ty74, ty84, ty29, ty2]
  exact leave_kept rfl rfl
theorem place_ref (h0 : i.a = -1 ∨ 0 ≤ i.a ∧ i.a < f.regs.length) : call cfg 73 [.ref (workC s t o k g i false)] H = some (.ret (.int .i64 (placeOf f i)), H) := by
  rw [call73]
  by_cases h1 : i.a = -1
  · have e1 : (i.a == -1) = true := by simp [h1]
    simp only [workC]
    simp only [F73, k73, Tryz.f73, sxAll, cA, arithA, Env.keep, qt_eq, resultsA, packA, fieldAddrA, Rv.part, TD.isAgg, ↓Option.bind_some, Nat.reduceBEq, ↓reduceIte, load_ref, ty89, ty49, ty3, placeOf, h1]
    exact leave_kept rfl rfl
  · obtain ⟨h2, h3⟩ := h0.resolve_left h1
    have e1 : (i.a == -1) = false := by simp [h1]
    have hreg := reg_ref (s := s) (t := t) (i := i) ho d2 hr h2 h3
    simp only [workC] at hreg ⊢
    simp only [F73, k73, Tryz.f73, sxAll, cA, arithA, Env.keep, qt_eq, resultsA, packA, fieldAddrA, Rv.part, TD.isAgg, mapO, ↓Option.bind_some, Nat.reduceBEq, ↓reduceIte, load_ref, e1, ty89, ty49, ty3, placeOf, h1, hreg, pu88]
    exact leave_kept rfl rfl
end
section
variable {p : SProg} {H : Heap} {ρ : Nat → Role} {s : Nat} {σ : SSt} (A : At p H ρ s σ) (P : ProgOk p) {K : Nat} (W : SOk p K σ) (hK : K < 10000000)
include A P W hK
theorem stCell_eq (t : Nat) : call cfg 42 [.ptr s 0 0, .int .i64 t] H = some (.ret (.tup [accA (cellS p σ t), .bool (cellS p σ t).isSome]), H) := by
  obtain ⟨m, mp, cv, tv, ov, cs, ts, R0⟩ := A
  have R : Rep p (H ++ [.cells [.int .i64 0, .int .i64 0, .bool false] 0]) ρ s σ m mp cv tv ov cs ts := R0.app _
  have hs := R.st
  have hls := live_of hs
  have hcan := can_eq R W (by omega) (t : Int)
  rw [Int.toNat_natCast, show (decide (0 ≤ (t : Int))) = true by simp, Bool.true_and] at hcan
  rw [call42]
  unfold cellS
  cases hb : canB p σ t with
  | false =>
    rw [hb] at hcan
    simp only [F42, k42, Tryz.f42, sxAll, cA, Env.keep, qt_eq, resultsA, packA, unA, Rv.part, TD.isAgg, buildA, fillA, mapO, ↓Option.bind_some, Nat.reduceBEq, Nat.reduceAdd, Nat.reduceLeDiff, ↓reduceIte, load_ptr, hcan, store_acc, pu32, ty95]
    exact leave_pure pu42 (by simp) rfl
  | true =>
    rw [hb] at hcan
    obtain ⟨rest, f, i, hf, htop, hia⟩ : ∃ (rest : List SFrame) (f : SFrame) (i : SIns), σ.thr[t]? = some (rest ++ [f]) ∧ σ.top t = some f ∧ insAt p f = some i := by
      rcases top_cases σ (t : Int) with hn | ⟨n, rest, f, hn, hf, htop⟩
      · exfalso
        unfold canB at hb
        have htn : σ.top t = none := by
          rcases hn with h | h | h
          · omega
          · exact top_no (.inl h)
          · exact top_no (.inr (by simpa using h.2))
        rw [htn] at hb
        cases hb
      · have : t = n := by omega
        subst this
        obtain ⟨_, i, _, _, h, _⟩ := W.at hf
        exact ⟨rest, f, i, hf, htop, h⟩
    have hd := W.depth hf
    obtain ⟨F, hF, hc, FO, IO⟩ := P.at hia
    obtain ⟨F', i', hF', _, hreg⟩ := W.fr _ (List.mem_of_getElem? hf) f (by simp)
    rw [hF] at hF'; injection hF' with hF'; subst hF'
    obtain ⟨o, g, cap, rvs, c, hv, S, ht, ho, d0, d1⟩ := topv R hf (by omega)
    obtain ⟨rr, rv, rfl, hrr, ⟨oR, gR, cp, rfl, hR, hRr⟩, hcl, k0, k1, k2, hd2⟩ := S.last
    have d2 : c.drop (rest.length * 3 + 2) = .msl oR 0 f.regs.length 1 gR cp :: c.drop (rest.length * 3 + 3) := by
      have := congrArg (List.drop 2) hd2
      simp only [List.drop_drop, List.drop_succ_cons, List.drop_zero] at this
      exact this
    have hins := ins_eq hs ho d0 d1 hia
    simp only [if_true, htop, hia]
    cases hm : (i.op == 5 || i.op == 6) with
    | false =>
      rw [Bool.or_eq_false_iff] at hm
      obtain ⟨h5, h6⟩ := hm
      simp only [SProg.cells, SIns.cells, List.cons_append, List.nil_append] at hs hins
      simp only [F42, k42, Tryz.f42, sxAll, cA, arithA, Env.keep, qt_eq, resultsA, packA, unA, fieldAddrA, Rv.part, TD.isAgg, buildA, fillA, setCells, mapO, ↓Option.bind_some, Nat.reduceBEq, Nat.reduceAdd, Nat.reduceLeDiff, bne, ↓reduceIte, load_ptr, load_ref, hcan, ht, hins, h5, h6, store_acc, pu32, pu38, pu39, ty95, ty89, ty49, ty51, ty84, ty5, ty3]
      exact leave_pure pu42 (by simp) rfl
    | true =>
      have hop : i.op = 5 ∨ i.op = 6 := by simpa using hm
      have hp := place_ref (s := s) (t := t) (i := i) ho d2 hR (by rw [hreg]; exact IO.bare hop)
      obtain ⟨e, hg, hE⟩ := memGet_eq R.mem R.cArr R.cLen R.cell i.n (placeOf f i) (σ := σ) rfl
      have hlm := live_of R.mem
      have e5 : (i.op == 6) = !(i.op == 5) := by rcases hop with h | h <;> simp [h]
      simp only [SProg.cells, SIns.cells, workC, List.cons_append, List.nil_append] at hs hins hp
      cases hcell : cellOf σ i.n (placeOf f i) with
      | none =>
        rw [hcell] at hE hg
        have he : (e == 0) = false := by
          have : ¬ e = 0 := fun h => by have := hE.1 h; simp at this
          simp [this]
        simp only [Option.getD_none] at hg
        cases h5 : i.op == 5 <;> rw [h5] at e5 <;>
          simp only [F42, k42, Tryz.f42, sxAll, cA, arithA, Env.keep, qt_eq, resultsA, packA, unA, fieldAddrA, Rv.part, TD.isAgg, buildA, fillA, setCells, mapO, ↓Option.bind_some, Nat.reduceBEq, Nat.reduceAdd, Nat.reduceLeDiff, bne, ↓reduceIte, load_ptr, load_ref, hs, hls, hcan, ht, hins, hp, hg, he, h5, e5, store_acc, pu32, pu38, pu39, pu73, pu74, ty95, ty89, ty49, ty71, ty51, ty84, ty65, ty5, ty3, ty2] <;>
          exact leave_pure pu42 (by simp) rfl
      | some v =>
        rw [hcell] at hE hg
        have he : (e == 0) = true := by simp [hE.2 rfl]
        simp only [Option.getD_some] at hg
        cases h5 : i.op == 5 <;> rw [h5] at e5 <;>
          simp only [F42, k42, Tryz.f42, sxAll, cA, arithA, Env.keep, qt_eq, resultsA, packA, unA, fieldAddrA, Rv.part, TD.isAgg, buildA, fillA, setCells, mapO, ↓Option.bind_some, Nat.reduceBEq, Nat.reduceAdd, Nat.reduceLeDiff, bne, ↓reduceIte, load_ptr, load_ref, hs, hls, hcan, ht, hins, hp, hg, he, h5, e5, store_acc, pu32, pu38, pu39, pu73, pu74, ty95, ty89, ty49, ty71, ty51, ty84, ty65, ty5, ty3, ty2, ty4] <;>
          exact leave_pure pu42 (by simp) rfl
end
end
end Go.Proofs.Sx
