/-
  package step: 'Threads', 'Ending', 'Can', 'able', 'end', 'At'.
-/
import Derived.Test.YthljjckomhnhoaaGreatDoorPtO
import Derived.Test.YthljjckomhnhoaaGreatDoorPtL
set_option linter.unusedSectionVars false
set_option linter.unusedSimpArgs false
set_option linter.unusedVariables false
set_option linter.defProp false
set_option maxHeartbeats 4000000
set_option maxHeartbeats 8000000
set_option maxRecDepth 100000
namespace Go.Proofs.Sx
open Go.Rv Go.Proofs
attribute [local congr] bind_left got_left
noncomputable section
theorem pu9 : cfg.pure 9 = true := rfl
instance t9 {d : Option Nat} : TightD cfg 9 d := ⟨fun _ _ => rfl⟩
def B9 (p : List Bool) := cA p Tryz.f9.body
def R9 (p : List Bool) (i : Nat) := Code.region i (cA p Tryz.f9.body) false
theorem F9 : (∀ p i, XR cfg 9 (R9 p i) (B9 p) (cA p Tryz.f9.body).toList i false) /\ RE cfg 9 [0, 2, 4] /\ cfg.pure 9 = true := ⟨fun _ _ => xr rfl rfl, rE fun _ => rfl, rfl⟩
def k9 : Code := (.seq (R9 [ff] 0) (.seq (.seq (R9 [tt, ff, ff] 1) (.cond (.tmp 4) (.seq (R9 [tt, ff, tt, ff, ff] 2) .ret) .skip)) (.seq (R9 [tt, tt, ff] 3) .ret)))
theorem call9 (x0 : AV) (h : Heap) : call cfg 9 [x0] h = (exec cfg 9 k9 [(0, x0)] h).bind (callEnd cfg 9 h [.tmp 2]) := call_at2 (fnat Tryz.func9 (b := k9) (by kernel_rfl) (by kernel_rfl)) rfl rfl
theorem pu11 : cfg.pure 11 = true := rfl
instance t11 {d : Option Nat} : TightD cfg 11 d := ⟨fun _ _ => rfl⟩
def B11 (p : List Bool) := cA p Tryz.f11.body
def R11 (p : List Bool) (i : Nat) := Code.region i (cA p Tryz.f11.body) false
theorem F11 : (∀ p i, XR cfg 11 (R11 p i) (B11 p) (cA p Tryz.f11.body).toList i false) /\ RE cfg 11 [0, 2, 4] /\ cfg.pure 11 = true := ⟨fun _ _ => xr rfl rfl, rE fun _ => rfl, rfl⟩
def k11 : Code := (.seq (R11 [ff] 0) (.seq (.seq (R11 [tt, ff, ff] 1) (.cond (.tmp 4) (.seq (R11 [tt, ff, tt, ff, ff] 2) .ret) .skip)) (.seq (R11 [tt, tt, ff] 3) .ret)))
theorem call11 (x0 : AV) (h : Heap) : call cfg 11 [x0] h = (exec cfg 11 k11 [(0, x0)] h).bind (callEnd cfg 11 h [.tmp 2]) := call_at2 (fnat Tryz.func11 (b := k11) (by kernel_rfl) (by kernel_rfl)) rfl rfl
theorem pu53 : cfg.pure 53 = true := rfl
instance t53 {d : Option Nat} : TightD cfg 53 d := ⟨fun _ _ => rfl⟩
def B53 (p : List Bool) := cA p Tryz.f53.body
def R53 (p : List Bool) (i : Nat) := Code.region i (cA p Tryz.f53.body) false
def D53 (p : List Bool) (i : Nat) := Code.region i (cA p Tryz.f53.body) true
theorem F53 : (∀ p i, XR cfg 53 (R53 p i) (B53 p) (cA p Tryz.f53.body).toList i false) /\ GO cfg 53 (B53 [tt, tt, ff, ff]) 2 14 /\ XR cfg 53 (D53 [tt, tt, tt, tt, ff] 5) (B53 [tt, tt, tt, tt, ff]) ((cA [tt, tt, tt, tt, ff] Tryz.f53.body).toList) 5 true /\ GO cfg 53 (B53 [tt, tt, tt, tt, tt, ff]) 3 37 /\ RE cfg 53 [0, 1, 4, 5, 6, 8, 20] /\ cfg.pure 53 = true := ⟨fun _ _ => xr rfl rfl, gO (by kernel_rfl), xd (by kernel_rfl) rfl rfl, gO (by kernel_rfl), rE fun _ => rfl, rfl⟩
def k53 : Code := (.seq (R53 [ff] 0) (.seq (R53 [tt, ff] 1) (.seq (.seq (R53 [tt, tt, ff, ff] 2) (.cond (.tmp 20) (.seq (R53 [tt, tt, ff, tt, ff, ff] 3) .ret) .skip)) (.seq (R53 [tt, tt, tt, ff] 4) (.seq (D53 [tt, tt, tt, tt, ff] 5) (.seq (R53 [tt, tt, tt, tt, tt, ff] 6) .ret))))))
theorem call53 (x0 x1 : AV) (h : Heap) : call cfg 53 [x0, x1] h = (exec cfg 53 k53 [(0, x0), (1, x1)] h).bind (callEnd cfg 53 h [.tmp 4]) := call_at2 (fnat Tryz.func53 (b := k53) (by kernel_rfl) (by kernel_rfl)) rfl rfl
theorem pu30 : cfg.pure 30 = true := rfl
instance t30 {d : Option Nat} : TightD cfg 30 d := ⟨fun _ _ => rfl⟩
def B30 (p : List Bool) := cA p Tryz.f30.body
def R30 (p : List Bool) (i : Nat) := Code.region i (cA p Tryz.f30.body) false
theorem F30 : (∀ p i, XR cfg 30 (R30 p i) (B30 p) (cA p Tryz.f30.body).toList i false) /\ cfg.imm 30 15 = true /\ RE cfg 30 [0, 2, 3, 4, 6, 7, 8, 12] /\ cfg.pure 30 = true := ⟨fun _ _ => xr rfl rfl, by kernel_rfl, rE fun _ => rfl, rfl⟩
def l30_0 : Code := (.seq (R30 [tt, tt, ff, tt, ff, ff, ff] 3) (.seq (.cond (.tmp 8) .skip (.exit 0)) (.seq (.block 1 (.seq (R30 [tt, tt, ff, tt, ff, ff, tt, tt, ff, ff, ff] 4) (.seq (R30 [tt, tt, ff, tt, ff, ff, tt, tt, ff, ff, tt, ff] 5) (.cond (.tmp 12) (R30 [tt, tt, ff, tt, ff, ff, tt, tt, ff, ff, tt, tt, ff] 6) .skip)))) (R30 [tt, tt, ff, tt, ff, ff, tt, tt, tt] 7))))
def k30 : Code := (.seq (R30 [ff] 0) (.seq (R30 [tt, ff] 1) (.seq (.seq (R30 [tt, tt, ff, ff] 2) (.block 0 (.loop l30_0))) (.seq (R30 [tt, tt, tt, ff] 8) .ret))))
theorem call30 (x0 : AV) (h : Heap) : call cfg 30 [x0] h = (exec cfg 30 k30 [(0, x0)] h).bind (callEnd cfg 30 h [.tmp 2]) := call_at2 (fnat Tryz.func30 (b := k30) (by kernel_rfl) (by kernel_rfl)) rfl rfl
instance t52 {d : Option Nat} : TightD cfg 52 d := ⟨fun _ _ => rfl⟩
def B52 (p : List Bool) := cA p Tryz.f52.body
def R52 (p : List Bool) (i : Nat) := Code.region i (cA p Tryz.f52.body) false
theorem F52 : (∀ p i, XR cfg 52 (R52 p i) (B52 p) (cA p Tryz.f52.body).toList i false) /\ RE cfg 52 [0, 2] /\ cfg.pure 52 = true := ⟨fun _ _ => xr rfl rfl, rE fun _ => rfl, rfl⟩
def k52 : Code := (.seq (R52 [ff] 0) (.seq (R52 [tt, ff] 1) .ret))
theorem call52 (x0 : AV) (h : Heap) : call cfg 52 [x0] h = (exec cfg 52 k52 [(0, x0)] h).bind (callEnd cfg 52 h [.tmp 2]) := call_at2 (fnat Tryz.func52 (b := k52) (by kernel_rfl) (by kernel_rfl)) rfl rfl
theorem pu69 : cfg.pure 69 = true := rfl
instance t69 {d : Option Nat} : TightD cfg 69 d := ⟨fun _ _ => rfl⟩
def B69 (p : List Bool) := cA p Tryz.f69.body
def R69 (p : List Bool) (i : Nat) := Code.region i (cA p Tryz.f69.body) false
theorem F69 : (∀ p i, XR cfg 69 (R69 p i) (B69 p) (cA p Tryz.f69.body).toList i false) /\ RE cfg 69 [0, 1, 4, 5, 7, 8, 9, 16] /\ cfg.pure 69 = true := ⟨fun _ _ => xr rfl rfl, rE fun _ => rfl, rfl⟩
def l69_0 : Code := (.seq (R69 [tt, ff, tt, ff, ff, ff] 2) (.seq (.cond (.tmp 9) .skip (.exit 0)) (.seq (.block 1 (.seq (R69 [tt, ff, tt, ff, ff, tt, tt, ff, ff, ff] 3) (.seq (R69 [tt, ff, tt, ff, ff, tt, tt, ff, ff, tt, ff] 4) (.cond (.tmp 16) (.seq (R69 [tt, ff, tt, ff, ff, tt, tt, ff, ff, tt, tt, ff, ff] 5) .ret) .skip)))) (R69 [tt, ff, tt, ff, ff, tt, tt, tt] 6))))
def k69 : Code := (.seq (R69 [ff] 0) (.seq (.seq (R69 [tt, ff, ff] 1) (.block 0 (.loop l69_0))) (.seq (R69 [tt, tt, ff] 7) .ret)))
theorem call69 (x0 x1 : AV) (h : Heap) : call cfg 69 [x0, x1] h = (exec cfg 69 k69 [(0, x0), (1, x1)] h).bind (callEnd cfg 69 h [.tmp 4]) := call_at2 (fnat Tryz.func69 (b := k69) (by kernel_rfl) (by kernel_rfl)) rfl rfl
theorem pu51 : cfg.pure 51 = true := rfl
instance t51 {d : Option Nat} : TightD cfg 51 d := ⟨fun _ _ => rfl⟩
def B51 (p : List Bool) := cA p Tryz.f51.body
def R51 (p : List Bool) (i : Nat) := Code.region i (cA p Tryz.f51.body) false
theorem F51 : (∀ p i, XR cfg 51 (R51 p i) (B51 p) (cA p Tryz.f51.body).toList i false) /\ RE cfg 51 [0, 1, 4] /\ cfg.pure 51 = true := ⟨fun _ _ => xr rfl rfl, rE fun _ => rfl, rfl⟩
def k51 : Code := (.seq (R51 [ff] 0) (.seq (R51 [tt, ff] 1) .ret))
theorem call51 (x0 x1 : AV) (h : Heap) : call cfg 51 [x0, x1] h = (exec cfg 51 k51 [(0, x0), (1, x1)] h).bind (callEnd cfg 51 h [.tmp 4]) := call_at2 (fnat Tryz.func51 (b := k51) (by kernel_rfl) (by kernel_rfl)) rfl rfl
theorem pu28 : cfg.pure 28 = false := rfl
instance t28 {d : Option Nat} : TightD cfg 28 d := ⟨fun _ _ => rfl⟩
def B28 (p : List Bool) := cA p Tryz.f28.body
def R28 (p : List Bool) (i : Nat) := Code.region i (cA p Tryz.f28.body) false
theorem F28 : (∀ p i, XR cfg 28 (R28 p i) (B28 p) (cA p Tryz.f28.body).toList i false) /\ RE cfg 28 [0, 2, 8, 18] /\ cfg.pure 28 = false := ⟨fun _ _ => xr rfl rfl, rE fun _ => rfl, rfl⟩
def k28 : Code := (.block 0 (.seq (R28 [ff, ff] 0) (.cond (.tmp 2) .skip (.seq (R28 [ff, tt, tt, ff] 1) (.cond (.tmp 8) (R28 [ff, tt, tt, tt, ff] 2) (.seq (R28 [ff, tt, tt, tt, tt, ff] 3) (.cond (.tmp 18) (R28 [ff, tt, tt, tt, tt, tt, ff] 4) .skip)))))))
theorem call28 (x0 : AV) (h : Heap) : call cfg 28 [x0] h = (exec cfg 28 k28 [(0, x0)] h).bind (callEnd cfg 28 h []) := call_at2 (fnat Tryz.func28 (b := k28) (by kernel_rfl) (by kernel_rfl)) rfl rfl
theorem pu10 : cfg.pure 10 = true := rfl
instance t10 {d : Option Nat} : TightD cfg 10 d := ⟨fun _ _ => rfl⟩
def B10 (p : List Bool) := cA p Tryz.f10.body
def R10 (p : List Bool) (i : Nat) := Code.region i (cA p Tryz.f10.body) false
def D10 (p : List Bool) (i : Nat) := Code.region i (cA p Tryz.f10.body) true
theorem F10 : (∀ p i, XR cfg 10 (R10 p i) (B10 p) (cA p Tryz.f10.body).toList i false) /\ XR cfg 10 (D10 [tt, tt, tt, ff] 4) (B10 [tt, tt, tt, ff]) ((cA [tt, tt, tt, ff] Tryz.f10.body).toList) 4 true /\ RE cfg 10 [0, 1, 4, 5, 6, 7, 12] /\ cfg.pure 10 = true := ⟨fun _ _ => xr rfl rfl, xd (by kernel_rfl) rfl rfl, rE fun _ => rfl, rfl⟩
def k10 : Code := (.seq (R10 [ff] 0) (.seq (R10 [tt, ff] 1) (.seq (.seq (R10 [tt, tt, ff, ff] 2) (.cond (.tmp 12) (.seq (R10 [tt, tt, ff, tt, ff, ff] 3) .ret) .skip)) (.seq (D10 [tt, tt, tt, ff] 4) .ret))))
theorem call10 (x0 x1 : AV) (h : Heap) : call cfg 10 [x0, x1] h = (exec cfg 10 k10 [(0, x0), (1, x1)] h).bind (callEnd cfg 10 h [.tmp 4, .tmp 5, .tmp 6]) := call_at2 (fnat Tryz.func10 (b := k10) (by kernel_rfl) (by kernel_rfl)) rfl rfl
theorem top_cases (σ : SSt) (t : Int) : (t < 0 ∨ (σ.thr.length : Int) <= t ∨ (0 <= t /\ σ.thr[t.toNat]? = some [])) ∨ ∃ (n : Nat) (rest : List SFrame) (f : SFrame), t = n /\ σ.thr[n]? = some (rest ++ [f]) /\ σ.top n = some f := by
 by_cases h1 : t < 0
 ·exact .inl (.inl h1)
 by_cases h2 : (σ.thr.length : Int) <= t
 ·exact .inl (.inr (.inl h2))
 obtain ⟨l, hl⟩ : ∃ l, σ.thr[t.toNat]? = some l := ⟨_, qAs (by omega)⟩
 rcases List.eq_nil_or_concat l with rfl | ⟨rest, f, rfl⟩
 ·exact .inl (.inr (.inr ⟨by omega, hl⟩))
 ·simp only [List.concat_eq_append] at hl
  exact .inr ⟨t.toNat, rest, f, by omega, hl, by simp [SSt.top, hl]⟩
theorem top_no {σ : SSt} {n : Nat} (h : (σ.thr.length : Int) <= n ∨ σ.thr[n]? = some []) : σ.top n = none := by
 rcases h with h | h
 ·unfold SSt.top; rw [qAt (by omega)]; rfl
 ·unfold SSt.top; rw [h]; rfl
theorem SOk.at {p : SProg} {K : Nat} {σ : SSt} (W : SOk p K σ) {n : Nat} {rest : List SFrame} {f : SFrame} (h : σ.thr[n]? = some (rest ++ [f])) : ∃ F i, p.funs[f.fn]? = some F /\ F.code[f.pc]? = some i /\ insAt p f = some i /\ (f.regs.length : Int) = F.regs := by
 obtain ⟨F, i, h1, h2, h3⟩ := W.fr _ (qBj h) f (by simp)
 exact ⟨F, i, h1, h2, by simp [insAt, h1, h2], h3⟩
theorem SOk.depth {p : SProg} {K : Nat} {σ : SSt} (W : SOk p K σ) {n : Nat} {rest : List SFrame} {f : SFrame} (h : σ.thr[n]? = some (rest ++ [f])) : rest.length < K := by
 have := W.deep _ (qBj h)
 simp at this; omega
section
variable {p : SProg} {H : Heap} {ρ : Nat -> Role} {s : Nat} {σ : SSt} {m mp : Nat} {cv tv ov : AV} {cs ts : List AV} (R : Rep p H ρ s σ m mp cv tv ov cs ts) {K : Nat} (W : SOk p K σ) (hK : K < 100000000)
include R
theorem threads_eq : call cfg 9 [.ptr s 0 0] H = some (.ret (.int .i64 σ.thr.length), H) := by
 have hs := R.st
 have hls := live_of hs
 have e0 := ptr_eq_nil (H := H) (k := 0) ty42 hls
 have kt := R.tArr.known
 have lt := R.tArr.len 73
 simp only [SProg.cells, qBr, qBq] at hs
 rw [call9, ← R.tLen]
 simp only [F9, k9, Tryz.f9, sxAll, cA, Env.keep, qt_eq, resultsA, packA, fieldAddrA, Rv.part, TD.isAgg, ↓qAe, Nat.reduceBEq, Nat.reduceAdd, ↓reduceIte, load_ptr, hs, hls, e0, kt, lt, ty68, ty65]
 exact leave_kept rfl rfl
theorem ending_eq : call cfg 11 [.ptr s 0 0] H = some (.ret (.int .u8 σ.ending), H) := by
 have hs := R.st
 have hls := live_of hs
 have e0 := ptr_eq_nil (H := H) (k := 0) ty42 hls
 simp only [SProg.cells, qBr, qBq] at hs
 rw [call11]
 simp only [F11, k11, Tryz.f11, sxAll, cA, Env.keep, qt_eq, resultsA, packA, fieldAddrA, Rv.part, TD.isAgg, ↓qAe, Nat.reduceBEq, Nat.reduceAdd, ↓reduceIte, load_ptr, hs, hls, e0, ty68, ty5]
 exact leave_kept rfl rfl
theorem topv {n : Nat} {rest : List SFrame} {f : SFrame} (h : σ.thr[n]? = some (rest ++ [f])) (hd : rest.length < 1000000000) : ∃ o g cap rvs c, ts[n]? = some (.msl o 0 (rest ++ [f]).length 3 g cap) /\ Stk H ρ n (rest ++ [f]) rvs o g cap c /\
  call cfg 29 [.ptr s 0 0, .int .i64 n] H = some (.ret (.ptr o (rest.length * 3) g), H) /\ H.obj o g = some c /\ c.drop (rest.length * 3) = .int .i64 f.fn :: c.drop (rest.length * 3 + 1) /\ c.drop (rest.length * 3 + 1) = .int .i64 f.pc :: c.drop (rest.length * 3 + 2) := by
 obtain ⟨v, hv⟩ : ∃ v, ts[n]? = some v := ⟨_, qAs (by rw [R.tLen]; exact (qAu.1 h).1)⟩
 obtain ⟨rvs, o, g, cap, c, rfl, S⟩ := R.stk n v _ hv h
 obtain ⟨rr, rv, rfl, hrr, _, hcl, k0, k1, k2, hd2⟩ := S.last
 refine ⟨o, g, cap, _, c, hv, S, top_some R hv S hd, S.obj, ?_, ?_⟩
 ·have := congrArg (List.drop 1) hd2
  simp only [List.drop_drop, List.drop_succ_cons, qBf] at this
  rw [this, hd2]
 ·have h1 := congrArg (List.drop 1) hd2
  have h2 := congrArg (List.drop 2) hd2
  simp only [List.drop_drop, List.drop_succ_cons, qBf] at h1 h2
  rw [h1, h2]
include W hK
theorem can_eq (t : Int) : call cfg 53 [.ptr s 0 0, .int .i64 t] H = some (.ret (.bool (decide (0 <= t) && canB p σ t.toNat)), H) := by
 have hs := R.st
 have hls := live_of hs
 rw [call53]
 rcases top_cases σ t with hn | ⟨n, rest, f, rfl, hf, htop⟩
 ·have ht := top_none R hn
  have e0 := nil_eq_nil (H := H) ty74
  have hB : (decide (0 <= t) && canB p σ t.toNat) = false := by
   rcases hn with h | h | h
   ·simp; omega
   ·rw [Bool.and_eq_false_iff]; right
    unfold canB; rw [top_no (.inl (by omega))]
   ·rw [Bool.and_eq_false_iff]; right
    unfold canB; rw [top_no (.inr h.2)]
  rw [hB]
  simp only [F53, k53, Tryz.f53, sxAll, cA, Env.keep, qt_eq, resultsA, packA, mapO, ↓qAe, Nat.reduceBEq, ↓reduceIte, ht, e0, known_nilPtr, pu29]
  exact leave_kept rfl rfl
 ·have hd := W.depth hf
  obtain ⟨o, g, cap, rvs, c, hv, S, ht, ho, d0, d1⟩ := topv R hf (by omega)
  obtain ⟨F, i, hF, hi, hia, _⟩ := W.at hf
  have hlo := live_of ho
  have e0 := ptr_eq_nil (H := H) (k := rest.length * 3) ty74 hlo
  have hB : (decide (0 <= (n : Int)) && canB p σ (n : Int).toNat) = (σ.ending == 0 && canI σ i) := by
   unfold canB
   simp [htop, hia]
  rw [hB]
  have hins := ins_eq hs ho d0 d1 hia
  by_cases hz : σ.ending = 0
  ·have hz' : (σ.ending == 0) = true := by simp [hz]
   have hm := memHolder_eq (obj_leftS [.cells i.cells 0] R.mem) ((qAx (qAu.1 R.held).1).trans R.held) i.n
   have hs1 := obj_leftS [.cells i.cells 0] hs
   have hls1 := live_of hs1
   simp only [SProg.cells, qBr, qBq] at hs hs1
   simp only [SIns.cells] at hins hm hs1 hls1
   rw [hz', Bool.true_and]
   unfold canI
   cases h7 : i.op == 7 with
   | true =>
    simp only [F53, k53, Tryz.f53, sxAll, cA, arithA, Env.keep, qt_eq, resultsA, packA, storeA, unA, fieldAddrA, Rv.part, TD.isAgg, setCells, mapO, ↓qAe, Nat.reduceBEq, Nat.reduceAdd, Nat.reduceLeDiff, bne, ↓reduceIte, load_ptr, hs, hls, ht, e0, hz, hins, hs1, hls1, hm, h7, pu29, pu54, pu70, ty68, ty5, ty41, ty61, ty2]
    have : (whoHas σ.held i.n).isNone = !(whoHas σ.held i.n).isSome := by cases whoHas σ.held i.n <;> rfl
    rw [this]
    exact leave_pure rfl (take_one _ _) rfl
   | false =>
    simp only [F53, k53, Tryz.f53, sxAll, cA, arithA, Env.keep, qt_eq, resultsA, packA, storeA, fieldAddrA, Rv.part, TD.isAgg, setCells, mapO, ↓qAe, Nat.reduceBEq, Nat.reduceAdd, Nat.reduceLeDiff, bne, ↓reduceIte, load_ptr, hs, hls, ht, e0, hz, hins, hs1, hls1, hm, h7, pu29, pu54, pu70, ty68, ty5, ty41, ty61, ty2]
    exact leave_pure rfl (take_one _ _) rfl
  ·have hz' : (σ.ending == 0) = false := by simp [hz]
   simp only [SProg.cells, qBr, qBq] at hs
   rw [hz', Bool.false_and]
   simp only [F53, k53, Tryz.f53, sxAll, cA, arithA, Env.keep, qt_eq, resultsA, packA, fieldAddrA, Rv.part, TD.isAgg, mapO, ↓qAe, Nat.reduceBEq, Nat.reduceAdd, bne, ↓reduceIte, load_ptr, hs, hls, ht, e0, hz', pu29, ty68, ty5]
   exact leave_kept rfl rfl
end
def natL (l : List Nat) : List Int := l.map fun n : Nat => (n : Int)
theorem Rep.kept {p : SProg} {H H' : Heap} {ρ : Nat -> Role} {s : Nat} {σ : SSt} {m mp : Nat} {cv tv ov : AV} {cs ts : List AV} (R : Rep p H ρ s σ m mp cv tv ov cs ts) (hl : H.length <= H'.length) (K : ∀ x, x < H.length -> H'[x]? = H[x]?) : Rep p H' ρ s σ m mp cv tv ov cs ts :=
 R.mono hl (fun o ho _ _ => ⟨K o ho, rfl⟩) fun o ho => R.fresh o (by omega)
section
variable {p : SProg} {H : Heap} {ρ : Nat -> Role} {s : Nat} {σ : SSt} {m mp : Nat} {cv tv ov : AV} {cs ts : List AV} (R : Rep p H ρ s σ m mp cv tv ov cs ts) {K : Nat} (W : SOk p K σ) (hK : K < 100000000)
include R W hK
theorem able_loop : ∀ (d j : Nat), j + d = σ.thr.length -> ∀ (H' : Heap) v, Own H.length H H' v (intL (natL ((List.range j).filter (canB p σ)))) -> ∀ a b e f,
  Got (exec cfg 30 (.loop l30_0) [(0, .ptr s 0 0), (2, a), (3, v), (4, b), (6, .int .i64 σ.thr.length), (7, .int .i64 j), (8, e), (12, f)] H') (fun q => ∃ v' H'' b' e' f', q = (.exit 0, [(0, .ptr s 0 0), (2, a), (3, v'), (4, b'), (6, .int .i64 σ.thr.length), (7, .int .i64 σ.thr.length), (8, e'), (12, f')], H'') /\ Own H.length H H'' v' (intL (natL (ableL p σ)))) := by
 intro d
 induction d with
 | zero =>
  intro j hj H' v O a b e f
  have hlt : ((j : Int) < (σ.thr.length : Int)) = False := by simp; omega
  obtain rfl : j = σ.thr.length := by omega
  rw [got_loop]
  simp only [l30_0, F30, Tryz.f30, sxAll, cA, arithA, Env.keep, ↓qAe, Nat.reduceBEq, ↓reduceIte, Nat.lt_irrefl]
  exact ⟨_, _, _, _, _, rfl, O⟩
 | succ d ih =>
  intro j hj H' v O a b e f
  have hlt : (j < σ.thr.length) = True := by simp; omega
  have hf := W.few
  have hw := wrap_succ (i := j) (by omega)
  have R' := R.kept O.le (own_keep O)
  have hc := can_eq R' W hK (j : Int)
  simp only [Int.toNat_natCast, show decide (0 <= (j : Int)) = true by simp, Bool.true_and] at hc
  rw [got_loop]
  cases hb : canB p σ j with
  | true =>
   rw [hb] at hc
   have hl0 : ((List.range j).filter (canB p σ)).length <= j := by
    have := List.length_filter_le (canB p σ) (List.range j); simpa using this
   obtain ⟨v', H'', ha, O'⟩ := O.push (plain_ints _) (ys := [.int .i64 j]) (plain_ints [(j : Int)]) (by simp [mostLen, intL, natL]; omega)
   have hO' : intL (natL ((List.range (j + 1)).filter (canB p σ))) = intL (natL ((List.range j).filter (canB p σ))) ++ [.int .i64 j] := by
    rw [List.range_succ, List.filter_append]; simp [hb, natL, intL]
   have := ih (j + 1) (by omega) H'' v' (by rw [hO']; exact O')
   simp only [l30_0] at this ⊢
   simp only [F30, Tryz.f30, sxAll, cA, arithA, Env.keep, qt_eq, fillA, setCells, copies, mapO, ↓qAe, Nat.reduceBEq, Nat.reduceAdd, Nat.reduceMul, Nat.reduceLeDiff, Nat.reduceGT, bne, ↓reduceIte, hlt, hc, hw, O.kn, O'.kn, ha, elems, group, pu53, ty27, ty3] at this ⊢
   exact this _ _ _ _
  | false =>
   rw [hb] at hc
   have hO' : intL (natL ((List.range (j + 1)).filter (canB p σ))) = intL (natL ((List.range j).filter (canB p σ))) := by
    rw [List.range_succ, List.filter_append]; simp [hb, natL, intL]
   have := ih (j + 1) (by omega) H' v (by rw [hO']; exact O)
   simp only [l30_0] at this ⊢
   simp only [F30, Tryz.f30, sxAll, cA, arithA, Env.keep, qt_eq, mapO, ↓qAe, Nat.reduceBEq, ↓reduceIte, hlt, hc, hw, pu53] at this ⊢
   exact this _ _ _ _
theorem able_eq : ∃ z r, call cfg 30 [.ptr s 0 0] H = some (.ret (.lst (intL (natL (ableL p σ))) z r), H) := by
 obtain ⟨⟨o, e', H'⟩, hx, v', H'', b', e1, f', hq, O⟩ := able_loop R W hK σ.thr.length 0 (by omega) H (.lst [] 0 .nil) (by simpa [intL, natL] using Own.nil H) (.lst [] 0 .nil) .junk .junk .junk
 simp only [qAg] at hq
 obtain ⟨rfl, rfl, rfl⟩ := hq
 simp only [qBo] at hx
 rw [call30]
 have ht := threads_eq R
 simp only [F30, k30, Tryz.f30, sxAll, cA, Env.keep, qt_eq, resultsA, packA, mapO, ↓qAe, Nat.reduceBEq, ↓reduceIte, ht, hx, O.kn, pu9]
 rcases O.leave (plain_ints _) (C := cfg) (f := 30) rfl with ⟨h1, h2⟩ | h2
 ·refine ⟨0, .nil, ?_⟩
  have : intL (natL (ableL p σ)) = [] := h1
  rw [this]; exact h2
 ·exact ⟨1, .open, h2⟩
end
theorem endx_eq {H : Heap} {o g n : Nat} {cap : Option Nat} {c : List AV} (ho : H.obj o g = some c) : call cfg 52 [.msl o 0 n 3 g cap] H = some (.ret (.bool (decide (0 < n))), H) := by
 have hl : lenA H (.slice 71) (.msl o 0 n 3 g cap) = some n := by simp [lenA, live_of ho]
 rw [call52]
 simp only [F52, k52, Tryz.f52, sxAll, cA, arithA, Env.keep, resultsA, packA, ↓qAe, Nat.reduceBEq, ↓reduceIte, hl, ty73]
 rw [show decide ((n : Int) > 0) = decide (0 < n) by simp]
 exact leave_kept rfl rfl
section
variable {p : SProg} {H : Heap} {ρ : Nat -> Role} {s : Nat} {σ : SSt} {m mp : Nat} {cv tv ov : AV} {cs ts : List AV} (R : Rep p H ρ s σ m mp cv tv ov cs ts) {K : Nat} (W : SOk p K σ) (hK : K < 100000000)
include R W
theorem indexFFr_loop : ∀ (ys : List (List SFrame)) (i : Nat), σ.thr.drop i = ys -> i <= σ.thr.length -> ∀ c d t e,
  Got (exec cfg 69 (.loop l69_0) [(0, tv), (1, .clo 52 []), (4, c), (5, d), (7, .int .i64 σ.thr.length), (8, .int .i64 i), (9, t), (16, e)] H) (fun q => q.2.2 = H /\
   ((q.1 = .exit 0 /\ idxP (fun l : List SFrame => !l.isEmpty) ys i = -1) ∨ (q.1 = .ret /\ q.2.1.get 4 = .int .i64 (idxP (fun l : List SFrame => !l.isEmpty) ys i)))) := by
 intro ys
 have kt := R.tArr.known
 induction ys with
 | nil =>
  intro i hd hi c d t e
  rw [got_loop]
  simp only [l69_0, F69, Tryz.f69, sxAll, cA, arithA, Env.keep, ↓qAe, Nat.reduceBEq, ↓reduceIte, at_end hd]
  exact ⟨trivial, .inl ⟨trivial, rfl⟩⟩
 | cons y r ih =>
  intro i hd hi c d t e
  obtain ⟨hlt, hget, hd'⟩ := at_drop hd
  have hlt' : i < σ.thr.length := by simpa using hlt
  have hf := W.few
  have hw := wrap_succ (i := i) (by omega)
  obtain ⟨v, hv⟩ : ∃ v, ts[i]? = some v := ⟨_, qAs (by rw [R.tLen]; exact hlt')⟩
  obtain ⟨rvs, o, g, cap, cc, rfl, S⟩ := R.stk i v y hv hget
  obtain ⟨oT, gT, i1, i2, i3, i4⟩ := R.tArr.at (i := (i : Int)) (by omega) hv ty65 ty73
  simp only [Int.toNat_natCast] at i1 i4
  have hx := endx_eq (n := y.length) (cap := cap) S.obj
  have hb : decide (0 < y.length) = !y.isEmpty := by cases y <;> simp
  rw [hb] at hx
  rw [got_loop]
  cases he : !y.isEmpty with
  | true =>
   rw [he] at hx
   simp only [l69_0, F69, Tryz.f69, sxAll, cA, arithA, Env.keep, qt_eq, Rv.part, TD.isAgg, mapO, ↓qAe, Nat.reduceBEq, ↓reduceIte, load_ptr, hlt, kt, i1, i2, i4, hx, ty73]
   exact ⟨trivial, .inr ⟨trivial, by simp [idxP, he]⟩⟩
  | false =>
   rw [he] at hx
   have := ih (i + 1) hd' (by omega)
   simp only [l69_0] at this ⊢
   simp only [F69, Tryz.f69, sxAll, cA, arithA, Env.keep, qt_eq, Rv.part, TD.isAgg, mapO, ↓qAe, Nat.reduceBEq, ↓reduceIte, load_ptr, hlt, kt, i1, i2, i4, hx, hw, idxP, he, ty73] at this ⊢
   exact this _ _ _ _
theorem containsFFr_eq : call cfg 51 [tv, .clo 52 []] H = some (.ret (.bool (!σ.thr.all (·.isEmpty))), H) := by
 have kt := R.tArr.known
 have lt := R.tArr.len 73
 rw [R.tLen] at lt
 have h1 : call cfg 69 [tv, .clo 52 []] H = some (.ret (.int .i64 (idxP (fun l : List SFrame => !l.isEmpty) σ.thr 0)), H) := by
  obtain ⟨⟨o, e', h'⟩, hx, hh, hq⟩ := indexFFr_loop R W σ.thr 0 (by simp) (by omega) (.int .i64 0) .junk .junk .junk
  simp only [qBo] at hx hh hq
  subst hh
  rw [call69]
  rcases hq with ⟨rfl, h1⟩ | ⟨rfl, h1⟩
  ·simp only [F69, k69, Tryz.f69, sxAll, cA, Env.keep, resultsA, packA, ↓qAe, Nat.reduceBEq, ↓reduceIte, kt, lt, hx, h1, ty65]
   exact leave_kept rfl rfl
  ·simp only [F69, k69, Tryz.f69, sxAll, cA, Env.keep, resultsA, packA, ↓qAe, Nat.reduceBEq, ↓reduceIte, kt, lt, hx, h1, ty65]
   exact leave_kept rfl rfl
 have hb : (!σ.thr.all (·.isEmpty)) = σ.thr.any fun l => !l.isEmpty := by
  simp [List.not_all_eq_any_not]
 rw [call51, hb]
 simp only [F51, k51, Tryz.f51, sxAll, cA, arithA, Env.keep, qt_eq, resultsA, packA, mapO, ↓qAe, Nat.reduceBEq, ↓reduceIte, kt, h1, pu69, idxP_any]
 exact leave_kept rfl rfl
include hK
theorem end_eq : ∃ H', call cfg 28 [.ptr s 0 0] H = some (.ret (.tup []), H') /\ Rep p H' ρ s (endS p σ) m mp cv tv ov cs ts /\ H'.length = H.length /\ ∀ x, x ≠ s -> H'[x]? = H[x]? := by
 have hs := R.st
 have hls := live_of hs
 have kt := R.tArr.known
 have hcf := containsFFr_eq R W
 have hst : ∀ e : Int, storeA cfg H 5 (.ptr s 7 0) (.int .u8 e) = some (H.set s (.cells (p.cells ++ [.ptr m 0 0, tv, .int .i64 σ.last, ov, .int .u8 e]) 0)) := fun e => by
  rw [store1 (v := .int .u8 e) ty5 hs (off := 7) (by simp [SProg.cells]) rfl rfl]
  rfl
 have hne : ∀ e : Int, ∀ x, x ≠ s -> (H.set s (.cells (p.cells ++ [.ptr m 0 0, tv, .int .i64 σ.last, ov, .int .u8 e]) 0))[x]? = H[x]? := fun e x hx => qAw (Ne.symm hx)
 rw [call28]
 unfold endS
 by_cases hz : σ.ending = 0
 ·rw [if_neg (by simp [hz])]
  cases ha : σ.thr.all (·.isEmpty) with
  | true =>
   rw [ha] at hcf
   have hO := R.own σ.last 1
   refine ⟨_, ?_, by simpa using hO, by simp, hne 1⟩
   have h1 := hst 1
   simp only [SProg.cells, qBr, qBq] at hs h1 ⊢
   simp only [F28, k28, Tryz.f28, sxAll, cA, arithA, Env.keep, qt_eq, resultsA, packA, unA, fieldAddrA, Rv.part, TD.isAgg, mapO, ↓qAe, Nat.reduceBEq, Nat.reduceAdd, bne, ↓reduceIte, load_ptr, hs, hls, hz, kt, hcf, h1, pu51, ty68, ty5, ty65]
   exact leave_impure pu28
  | false =>
   rw [ha] at hcf
   obtain ⟨z, r, hab⟩ := able_eq R W hK
   by_cases hl : ableL p σ = []
   ·have hO := R.own σ.last 3
    refine ⟨_, ?_, by simpa [hl] using hO, by simp, hne 3⟩
    have h1 := hst 3
    have hl0 : (((intL (natL (ableL p σ))).length : Int) == 0) = true := by rw [hl]; rfl
    simp only [SProg.cells, qBr, qBq] at hs h1 ⊢
    simp only [F28, k28, Tryz.f28, sxAll, cA, arithA, Env.keep, qt_eq, resultsA, packA, unA, fieldAddrA, Rv.part, TD.isAgg, mapO, ↓qAe, Nat.reduceBEq, Nat.reduceAdd, bne, ↓reduceIte, load_ptr, hs, hls, hz, kt, hcf, hab, lenA_lst, hl0, h1, pu51, pu30, ty68, ty5, ty65, ty27]
    exact leave_impure pu28
   ·refine ⟨H, ?_, by simpa [hl] using R, rfl, fun _ _ => rfl⟩
    have hl0 : (((intL (natL (ableL p σ))).length : Int) == 0) = false := by
     have := List.length_pos_iff.2 hl
     simp [intL, natL]; omega
    simp only [SProg.cells, qBr, qBq] at hs ⊢
    simp only [F28, k28, Tryz.f28, sxAll, cA, arithA, Env.keep, qt_eq, resultsA, packA, unA, fieldAddrA, Rv.part, TD.isAgg, mapO, ↓qAe, Nat.reduceBEq, Nat.reduceAdd, bne, ↓reduceIte, load_ptr, hs, hls, hz, kt, hcf, hab, lenA_lst, hl0, pu51, pu30, ty68, ty5, ty65, ty27]
    exact leave_impure pu28
 ·rw [if_pos hz]
  have hz' : (σ.ending == 0) = false := by simp [hz]
  refine ⟨H, ?_, R, rfl, fun _ _ => rfl⟩
  simp only [SProg.cells, qBr, qBq] at hs ⊢
  simp only [F28, k28, Tryz.f28, sxAll, cA, arithA, Env.keep, qt_eq, resultsA, packA, fieldAddrA, Rv.part, TD.isAgg, ↓qAe, Nat.reduceBEq, Nat.reduceAdd, bne, ↓reduceIte, load_ptr, hs, hls, hz', ty68, ty5]
  exact leave_impure pu28
theorem at_eq (t : Int) : call cfg 10 [.ptr s 0 0, .int .i64 t] H = some (.ret (match (if 0 <= t then σ.top t.toNat else none) with
  | none => .tup [.int .i64 0, .int .i64 0, .bool false]
  | some f => .tup [.int .i64 f.fn, .int .i64 f.pc, .bool true]), H) := by
 rw [call10]
 rcases top_cases σ t with hn | ⟨n, rest, f, rfl, hf, htop⟩
 ·have ht := top_none R hn
  have e0 := nil_eq_nil (H := H) ty74
  have hB : (if 0 <= t then σ.top t.toNat else none) = none := by
   rcases hn with h | h | h
   ·rw [if_neg (by omega)]
   ·split
    ·rw [top_no (.inl (by omega))]
    ·rfl
   ·rw [if_pos h.1, top_no (.inr h.2)]
  rw [hB]
  simp only [F10, k10, Tryz.f10, sxAll, cA, Env.keep, qt_eq, resultsA, packA, mapO, ↓qAe, Nat.reduceBEq, ↓reduceIte, ht, e0, known_nilPtr, pu29]
  exact leave_kept rfl rfl
 ·have hd := W.depth hf
  obtain ⟨o, g, cap, rvs, c, hv, S, ht, ho, d0, d1⟩ := topv R hf (by omega)
  have hlo := live_of ho
  have e0 := ptr_eq_nil (H := H) (k := rest.length * 3) ty74 hlo
  rw [if_pos (by omega), Int.toNat_natCast, htop]
  simp only [F10, k10, Tryz.f10, sxAll, cA, Env.keep, qt_eq, resultsA, packA, fieldAddrA, Rv.part, TD.isAgg, mapO, ↓qAe, Nat.reduceBEq, ↓reduceIte, load_ptr, ht, e0, hlo, ho, d0, d1, Nat.add_zero, pu29, ty71, ty3]
  exact leave_kept rfl rfl
end
end
end Go.Proofs.Sx
namespace Go.Proofs.Sx
open Go.Rv Go.Proofs
noncomputable section
structure InsOk (p : SProg) (F : SFun) (i : SIns) : Prop where
 op : 1 <= i.op /\ i.op <= 13
 r : (i.op = 1 ∨ i.op = 2 ∨ i.op = 3 ∨ i.op = 4 ∨ i.op = 5 ∨ i.op = 10) -> 0 <= i.r /\ i.r < F.regs
 a : (i.op = 2 ∨ i.op = 3 ∨ i.op = 4 ∨ i.op = 9 ∨ i.op = 12 ∨ i.op = 13) -> 0 <= i.a /\ i.a < F.regs
 bare : (i.op = 5 ∨ i.op = 6) -> i.a = -1 ∨ 0 <= i.a /\ i.a < F.regs
 b : (i.op = 4 ∨ i.op = 6) -> 0 <= i.b /\ i.b < F.regs
 una : i.op = 3 -> i.n = 5 ∨ i.n = 6
 bin : i.op = 4 -> 7 <= i.n /\ i.n <= 17
 mem : (i.op = 5 ∨ i.op = 6) -> 0 <= i.n /\ i.n < p.mems.length
 lock : (i.op = 7 ∨ i.op = 8) -> 0 <= i.n /\ i.n < p.locks.length
 goal : (i.op = 11 ∨ i.op = 12) -> 0 <= i.n /\ i.n < F.code.length
 call : i.op = 10 -> 0 <= i.n /\ ∃ G, p.funs[i.n.toNat]? = some G /\ G.thread = false /\ (i.args.length : Int) = G.params
 args : i.op = 10 -> ∀ r ∈ i.args, 0 <= r /\ r < F.regs
theorem inB_iff {n r : Int} : inB n r = true ↔ 0 <= r /\ r < n := by simp [inB]
theorem num_call {p : SProg} {F : SFun} {i : SIns} (h : numberB p F (true, false, false, false, 6) i = true) : 0 <= i.n /\ ∃ G, p.funs[i.n.toNat]? = some G /\ G.thread = false /\ (i.args.length : Int) = G.params := by
 have h3' : (decide (0 <= i.n) && (match p.funs[i.n.toNat]? with
  | some g => !g.thread && decide ((i.args.length : Int) = g.params)
  | none => false)) = true := h
 rw [qAa, decide_eq_true_eq] at h3'
 obtain ⟨q1, q2⟩ := h3'
 cases hg : p.funs[i.n.toNat]? with
 | none => rw [hg] at q2; cases q2
 | some g =>
  rw [hg] at q2
  simp only [qAa, qBh, decide_eq_true_eq] at q2
  exact ⟨q1, g, rfl, q2.1, q2.2⟩
theorem args_call {i : SIns} {n : Int} (h : (readsOf (true, false, false, false, 6) i).all (inB n) = true) : ∀ r ∈ i.args, 0 <= r /\ r < n := fun r hr => by
 have : r ∈ readsOf (true, false, false, false, 6) i := by simp [readsOf, optL, hr]
 exact inB_iff.1 (qBd.1 h r this)
theorem ins_ok {p : SProg} {F : SFun} {i : SIns} (h : mayInsB p F i = true) : InsOk p F i := by
  unfold mayInsB at h
  simp only [qAa] at h
  obtain ⟨⟨⟨h1, _⟩, h3⟩, h4, h5⟩ := h
  unfold legal at h1
  simp only [qAa, decide_eq_true_eq] at h1
  have hk : i.op = 1 ∨ i.op = 2 ∨ i.op = 3 ∨ i.op = 4 ∨ i.op = 5 ∨ i.op = 6 ∨ i.op = 7 ∨ i.op = 8 ∨ i.op = 9 ∨ i.op = 10 ∨ i.op = 11 ∨ i.op = 12 ∨ i.op = 13 := by omega
  have hw : (legal i.op && (rowOf i.op).1) = true -> 0 <= i.r /\ i.r < F.regs := fun hl => by
    unfold writesOf at h5
    rw [if_pos hl] at h5
    simpa [inB_iff] using h5
  rcases hk with hk | hk | hk | hk | hk | hk | hk | hk | hk | hk | hk | hk | hk <;> rw [hk] at h3 h4 hw <;>
    simp (config := { decide := true }) only [rowOf, opRows, numberB, readsOf, optL, wantA', if_true, if_false] at h3 h4 hw <;>
    exact {
      op := by omega
      r := fun h => by first | exact hw (by decide) | omega
      a := fun h => by first | (exfalso; omega) | (simp [inB_iff] at h4 <;> omega)
      bare := fun h => by
        first
          | (exfalso; omega)
          | (by_cases ha : i.a = -1
             · exact .inl ha
             · right
               simp [inB_iff, ha] at h4 <;> omega)
      b := fun h => by
        first
          | (exfalso; omega)
          | (by_cases ha : i.a = -1 <;> simp [inB_iff, ha] at h4 <;> omega)
      una := fun h => by first | (exfalso; omega) | simpa [rowOf, opRows, numberB] using h3
      bin := fun h => by first | (exfalso; omega) | simpa [rowOf, opRows, numberB] using h3
      mem := fun h => by first | (exfalso; omega) | simpa [rowOf, opRows, numberB] using h3
      lock := fun h => by first | (exfalso; omega) | simpa [rowOf, opRows, numberB] using h3
      goal := fun h => by first | (exfalso; omega) | simpa [rowOf, opRows, numberB] using h3
      call := fun h => by first | (exfalso; omega) | exact num_call (F := F) h3
      args := fun h => by
        first | (exfalso; omega) | exact args_call h4 }
structure FunOk (p : SProg) (F : SFun) : Prop where
 params : 0 <= F.params /\ F.params <= 8
 thread : F.thread = true -> F.params <= 0
 regs : F.params <= F.regs /\ F.regs <= 4096
 len : 1 <= F.code.length /\ F.code.length <= 16384
 last : lastOp F = 11 ∨ lastOp F = 13
 code : ∀ i ∈ F.code, InsOk p F i
theorem fun_ok {p : SProg} {F : SFun} (h : mayFunB p F = true) : FunOk p F := by
 unfold mayFunB at h
 simp only [qAa, qBh, decide_eq_false_iff_not, qBd, Bool.or_eq_true, beq_iff_eq] at h
 obtain ⟨h1, h2, h3, h4, h5, h6, h7, h8, h9⟩ := h
 refine ⟨by omega, fun ht => ?_, by omega, by omega, h8, fun i hi => ins_ok (h9 i hi)⟩
 rw [ht] at h3
 simpa using h3
structure ProgOk (p : SProg) : Prop where
 funs : ∀ F ∈ p.funs, FunOk p F
 few : (thr p.funs 0).length <= 16
 count : p.mems.length + p.locks.length + p.funs.length <= 256
 size : ∀ m ∈ p.mems, 1 <= m.size /\ m.size <= 1024
theorem prog_ok {p : SProg} (h : mayP p = true) : ProgOk p := by
 unfold mayP at h
 simp only [qAa, qBd, qBh, decide_eq_false_iff_not] at h
 obtain ⟨h1, h2, h3, h4⟩ := h
 refine ⟨fun F hF => fun_ok (h4 F hF), by omega, ?_, fun m hm => ?_⟩
 ·unfold namedB at h1
  simp only [qAa, decide_eq_true_eq] at h1
  have := h1.1
  simp only [namesOf, qBb, qBn] at this
  omega
 ·have := List.any_eq_false.1 h3 m hm
  simp [badSize] at this
  omega
theorem ProgOk.at {p : SProg} (P : ProgOk p) {f : SFrame} {i : SIns} (h : insAt p f = some i) : ∃ F, p.funs[f.fn]? = some F /\ F.code[f.pc]? = some i /\ FunOk p F /\ InsOk p F i := by
 obtain ⟨F, h1, h2⟩ := qAc.1 h
 have hF := P.funs F (qBj h1)
 exact ⟨F, h1, h2, hF, hF.code i (qBj h2)⟩
theorem FunOk.next {p : SProg} {F : SFun} (P : FunOk p F) {pc : Nat} {i : SIns} (h : F.code[pc]? = some i) (h1 : i.op ≠ 11) (h2 : i.op ≠ 13) : ∃ j, F.code[pc + 1]? = some j := by
 have hlt := (qAu.1 h).1
 by_cases hl : pc + 1 < F.code.length
 ·exact ⟨_, qAs hl⟩
 ·have hlast : F.code.getLast? = some i := by
   rw [List.getLast?_eq_getElem?, show F.code.length - 1 = pc by omega, h]
  have := P.last
  unfold lastOp at this
  rw [hlast] at this
  simp only [qAo, Option.getD_some] at this
  omega
theorem SOk.up {p : SProg} {K K' : Nat} {σ : SSt} (W : SOk p K σ) (h : K <= K') : SOk p K' σ :=
 ⟨W.fr, W.call, fun l hl => Nat.le_trans (W.deep l hl) h, Nat.le_trans W.outs h, W.few⟩
theorem SOk.stk {p : SProg} {K : Nat} {σ : SSt} (W : SOk p K σ) {t : Nat} {l : List SFrame} (h1 : ∀ f ∈ l, FrOk p f) (h2 : ∀ f ∈ l.dropLast, Calling p f) (h3 : l.length <= K) : SOk p K (setStk σ t l) where
 fr := fun x hx f hf => by
  rcases List.mem_or_eq_of_mem_set hx with h | rfl
  ·exact W.fr x h f hf
  ·exact h1 f hf
 call := fun x hx f hf => by
  rcases List.mem_or_eq_of_mem_set hx with h | rfl
  ·exact W.call x h f hf
  ·exact h2 f hf
 deep := fun x hx => by
  rcases List.mem_or_eq_of_mem_set hx with h | rfl
  ·exact W.deep x h
  ·exact h3
 outs := W.outs
 few := by simpa [setStk] using W.few
theorem SOk.same {p : SProg} {K : Nat} {σ σ' : SSt} (W : SOk p K σ) (h1 : σ'.thr = σ.thr) (h2 : σ'.out = σ.out) : SOk p K σ' :=
 ⟨by rw [h1]; exact W.fr, by rw [h1]; exact W.call, by rw [h1]; exact W.deep, by rw [h2]; exact W.outs, by rw [h1]; exact W.few⟩
theorem SOk.printed {p : SProg} {K : Nat} {σ : SSt} (W : SOk p K σ) (v : Int) : SOk p (K + 1) { σ with out := σ.out ++ [v] } :=
 ⟨W.fr, W.call, fun l hl => Nat.le_succ_of_le (W.deep l hl), by have := W.outs; simp; omega, W.few⟩
theorem endS_cases (p : SProg) (σ : SSt) : (endS p σ).cells = σ.cells /\ (endS p σ).held = σ.held /\ (endS p σ).thr = σ.thr /\ (endS p σ).last = σ.last /\ (endS p σ).out = σ.out := by
 unfold endS
 split
 ·exact ⟨rfl, rfl, rfl, rfl, rfl⟩
 ·split
  ·exact ⟨rfl, rfl, rfl, rfl, rfl⟩
  ·split <;> exact ⟨rfl, rfl, rfl, rfl, rfl⟩
theorem exe_ok {p : SProg} (P : ProgOk p) {K : Nat} {σ : SSt} (W : SOk p K σ) {t : Nat} {rest : List SFrame} {f : SFrame} {i : SIns} (hf : σ.thr[t]? = some (rest ++ [f])) (hi : insAt p f = some i) : SOk p (K + 1) (exeS p σ t rest f i).1 := by
 obtain ⟨F, hF, hc, FO, IO⟩ := P.at hi
 have hmem := qBj hf
 have W1 := W.up (Nat.le_succ K)
 have hfr := W.fr _ hmem
 have hcl := W.call _ hmem
 have hdp := W.deep _ hmem
 simp only [qBb, List.length_singleton] at hdp
 rw [List.dropLast_concat] at hcl
 obtain ⟨F', i', hF', _, hreg⟩ := hfr f (by simp)
 rw [hF] at hF'; injection hF' with hF'; subst hF'
 have top : ∀ {σ' : SSt} (pc' : Nat) (regs' : List Int), SOk p (K + 1) σ' -> regs'.length = f.regs.length -> (∃ j, F.code[pc']? = some j) -> SOk p (K + 1) (setStk σ' t (rest ++ [⟨f.fn, pc', regs'⟩])) := fun pc' regs' W' hr ⟨j, hj⟩ =>
  W'.stk (fun x hx => by
   rcases qAp.1 hx with h | h
   ·exact hfr x (by simp [h])
   ·simp only [qAn] at h
    subst h
    exact ⟨F, j, hF, hj, by rw [hr]; exact hreg⟩) (by rw [List.dropLast_concat]; exact hcl) (by simp; omega)
 have bec : ∀ (v : Option Int), i.op ≠ 11 -> i.op ≠ 13 -> SOk p (K + 1) (becomesS σ t rest f i.r v).1 := fun v h1 h2 => by
  cases v with
  | none => exact W1
  | some v => exact top (f.pc + 1) _ W1 (by simp) (FO.next hc h1 h2)
 have hop := IO.op
 have hk : i.op = 1 ∨ i.op = 2 ∨ i.op = 3 ∨ i.op = 4 ∨ i.op = 5 ∨ i.op = 6 ∨ i.op = 7 ∨ i.op = 8 ∨ i.op = 9 ∨ i.op = 10 ∨ i.op = 11 ∨ i.op = 12 ∨ i.op = 13 := by omega
 have on : ∀ {σ' : SSt}, SOk p (K + 1) σ' -> i.op ≠ 11 -> i.op ≠ 13 -> SOk p (K + 1) (setStk σ' t (rest ++ [onward f])) := fun W' h1 h2 => top (f.pc + 1) f.regs W' rfl (FO.next hc h1 h2)
 rcases hk with h | h | h | h | h | h | h | h | h | h | h | h | h
 ·rw [exeS]; simp only [h]; exact bec (some i.n) (by omega) (by omega)
 ·rw [exeS]; simp only [h]; exact bec (some (regV f i.a)) (by omega) (by omega)
 ·rw [exeS]; simp only [h]; exact bec (unaryF i.n (regV f i.a)) (by omega) (by omega)
 ·rw [exeS]; simp only [h]; exact bec (binaryF i.n (regV f i.a) (regV f i.b)) (by omega) (by omega)
 ·rw [exeS]; simp only [h]; exact bec (cellOf σ i.n (placeOf f i)) (by omega) (by omega)
 ·rw [exeS]; simp only [h]
  show SOk p (K + 1) (if (cellOf σ i.n (placeOf f i)).isSome = true then (setStk (setCell σ i.n (placeOf f i) (regV f i.b)) t (rest ++ [onward f]), false) else (σ, true)).1
  split
  ·exact on (W1.same rfl rfl) (by omega) (by omega)
  ·exact W1
 ·rw [exeS]; simp only [h]
  show SOk p (K + 1) (if (whoHas σ.held i.n).isNone = true then (setStk { σ with held := σ.held ++ [(i.n, (t : Int))] } t (rest ++ [onward f]), false) else (σ, true)).1
  split
  ·exact on (W1.same rfl rfl) (by omega) (by omega)
  ·exact W1
 ·rw [exeS]; simp only [h]
  show SOk p (K + 1) (if whoHas σ.held i.n = some (t : Int) then (setStk { σ with held := letGo σ.held i.n } t (rest ++ [onward f]), false) else (σ, true)).1
  split
  ·exact on (W1.same rfl rfl) (by omega) (by omega)
  ·exact W1
 ·rw [exeS]; simp only [h]; exact on (W.printed _) (by omega) (by omega)
 ·rw [exeS]; simp only [h]
  show SOk p (K + 1) (setStk σ t (rest ++ [f] ++ [newFrame p i.n.toNat (i.args.map (regV f))]))
  obtain ⟨_, G, hG, _, hGp⟩ := IO.call h
  have GO := P.funs G (qBj hG)
  refine W1.stk (fun x hx => ?_) ?_ (by simp; omega)
  ·rcases qAp.1 hx with h' | h'
   ·exact hfr x h'
   ·simp only [qAn] at h'
    subst h'
    refine ⟨G, G.code[0]'(by have := GO.len; omega), hG, qAs _, ?_⟩
    have := GO.regs; have := GO.params
    simp [newFrame, hG]
    omega
  ·rw [List.dropLast_concat]
   intro x hx
   rcases qAp.1 hx with h' | h'
   ·exact hcl x h'
   ·simp only [qAn] at h'
    subst h'
    exact ⟨i, hi, h⟩
 ·rw [exeS]; simp only [h]
  have := IO.goal (.inl h)
  exact top i.n.toNat f.regs W1 rfl ⟨_, qAs (by omega)⟩
 ·rw [exeS]; simp only [h]
  show SOk p (K + 1) (setStk σ t (rest ++ [if regV f i.a = 0 then { f with pc := i.n.toNat } else onward f]))
  have := IO.goal (.inr h)
  split
  ·exact top i.n.toNat f.regs W1 rfl ⟨_, qAs (by omega)⟩
  ·exact on W1 (by omega) (by omega)
 ·rw [exeS]; simp only [h]
  show SOk p (K + 1) (match rest.getLast? with
   | none => (setStk σ t rest, false)
   | some c => (setStk σ t (rest.dropLast ++ [setR c (((insAt p c).map SIns.r).getD 0) (regV f i.a)]), false)).1
  rcases List.eq_nil_or_concat rest with rfl | ⟨r2, f2, rfl⟩
  ·exact W1.stk (fun x hx => by cases hx) (fun x hx => by cases hx) (by simp)
  ·simp only [List.concat_eq_append] at *
   simp only [List.getLast?_append, List.getLast?_singleton, Option.some_or, List.dropLast_concat]
   obtain ⟨i2, hi2, hop2⟩ := hcl f2 (by simp)
   obtain ⟨F2, hF2, hc2, FO2, IO2⟩ := P.at hi2
   obtain ⟨F3, _, hF3, _, hreg2⟩ := hfr f2 (by simp)
   rw [hF2] at hF3; injection hF3 with hF3; subst hF3
   obtain ⟨j, hj⟩ := FO2.next hc2 (by omega) (by omega)
   refine W1.stk (fun x hx => ?_) ?_ (by simp at hdp ⊢; omega)
   ·rcases qAp.1 hx with h' | h'
    ·exact hfr x (by simp [h'])
    ·simp only [qAn] at h'
     subst h'
     exact ⟨F2, j, hF2, hj, by simp [setR]; exact hreg2⟩
   ·rw [List.dropLast_concat]
    exact fun x hx => hcl x (by simp [hx])
theorem step_ok {p : SProg} (P : ProgOk p) {K : Nat} {σ : SSt} (W : SOk p K σ) (t : Nat) : SOk p (K + 1) (stepS p σ t) := by
 unfold stepS
 cases ht : σ.top t with
 | none => exact W.up (Nat.le_succ K)
 | some f =>
  simp only
  cases hi : insAt p f with
  | none => exact W.up (Nat.le_succ K)
  | some i =>
   simp only
   obtain ⟨l, hl, hl2⟩ := qAc.1 ht
   rcases List.eq_nil_or_concat l with rfl | ⟨rest, f', rfl⟩
   ·cases hl2
   ·simp only [List.concat_eq_append, List.getLast?_append, List.getLast?_singleton, Option.some_or, qAf] at hl2 hl
    subst hl2
    have hg : σ.thr.getD t [] = rest ++ [f'] := by rw [qBp, hl]; rfl
    rw [hg, List.dropLast_concat]
    have E := exe_ok P W hl hi
    obtain ⟨_, _, e3, _, e5⟩ := endS_cases p { (exeS p σ t rest f' i).1 with last := (t : Int), ending := if (exeS p σ t rest f' i).2 then 2 else (exeS p σ t rest f' i).1.ending }
    exact E.same e3 e5
end
end Go.Proofs.Sx
namespace Go.Proofs.Sx
open Go.Rv Go.Proofs
attribute [local congr] bind_left got_left
noncomputable section
theorem pu55 : cfg.pure 55 = true := rfl
instance t55 {d : Option Nat} : TightD cfg 55 d := ⟨fun _ _ => rfl⟩
def B55 (p : List Bool) := cA p Tryz.f55.body
def R55 (p : List Bool) (i : Nat) := Code.region i (cA p Tryz.f55.body) false
theorem F55 : (∀ p i, XR cfg 55 (R55 p i) (B55 p) (cA p Tryz.f55.body).toList i false) /\ RE cfg 55 [0] /\ cfg.pure 55 = true := ⟨fun _ _ => xr rfl rfl, rE fun _ => rfl, rfl⟩
def k55 : Code := (.seq (R55 [ff] 0) (.seq (R55 [tt, ff] 1) .ret))
theorem call55 (h : Heap) : call cfg 55 [] h = (exec cfg 55 k55 [] h).bind (callEnd cfg 55 h [.cell 0 108]) := call_at2 (fnat Tryz.func55 (b := k55) (by kernel_rfl) (by kernel_rfl)) rfl rfl
theorem pu31 : cfg.pure 31 = false := rfl
instance t31 {d : Option Nat} : TightD cfg 31 d := ⟨fun _ _ => rfl⟩
def B31 (p : List Bool) := cA p Tryz.f31.body
def R31 (p : List Bool) (i : Nat) := Code.region i (cA p Tryz.f31.body) false
def D31 (p : List Bool) (i : Nat) := Code.region i (cA p Tryz.f31.body) true
theorem F31 : (∀ p i, XR cfg 31 (R31 p i) (B31 p) (cA p Tryz.f31.body).toList i false) /\ GO cfg 31 (B31 [tt, ff, ff, tt, tt, ff]) 2 13 /\ cfg.imm 31 37 = false /\ XR cfg 31 (D31 [tt, tt, tt, tt, ff] 9) (B31 [tt, tt, tt, tt, ff]) (pickL (cA [tt, tt, tt, tt, ff] Tryz.f31.body).toList [1, 2, 3, 4, 5, 7, 0, 6, 8]) 9 true /\ RE cfg 31 [0, 1, 4, 5, 6, 7, 10, 22, 54] /\ cfg.pure 31 = false := ⟨fun _ _ => xr rfl rfl, gO (by kernel_rfl), by kernel_rfl, xd (by kernel_rfl) rfl rfl, rE fun _ => rfl, rfl⟩
def k31 : Code := (.seq (R31 [ff] 0) (.seq (.block 0 (.seq (R31 [tt, ff, ff, ff] 1) (.cond (.tmp 7) (.seq (R31 [tt, ff, ff, tt, ff, ff] 2) .ret) (.seq (R31 [tt, ff, ff, tt, tt, ff] 3) (.cond (.tmp 10) (.seq (R31 [tt, ff, ff, tt, tt, tt, ff, ff] 4) .ret) (.seq (R31 [tt, ff, ff, tt, tt, tt, tt, ff] 5) (.cond (.tmp 22) (.seq (R31 [tt, ff, ff, tt, tt, tt, tt, tt, ff, ff] 6) .ret) .skip))))))) (.seq (R31 [tt, tt, ff] 7) (.seq (R31 [tt, tt, tt, ff] 8) (.seq (D31 [tt, tt, tt, tt, ff] 9) (.seq (R31 [tt, tt, tt, tt, tt, ff] 10) (.seq (.seq (R31 [tt, tt, tt, tt, tt, tt, ff, ff] 11) (.cond (.tmp 54) (R31 [tt, tt, tt, tt, tt, tt, ff, tt, ff] 12) .skip)) (.seq (R31 [tt, tt, tt, tt, tt, tt, tt, ff] 13) (.seq (R31 [tt, tt, tt, tt, tt, tt, tt, tt, ff] 14) .ret)))))))))
theorem call31 (x0 x1 : AV) (h : Heap) : call cfg 31 [x0, x1] h = (exec cfg 31 k31 [(0, x0), (1, x1)] h).bind (callEnd cfg 31 h [.tmp 4]) := call_at2 (fnat Tryz.func31 (b := k31) (by kernel_rfl) (by kernel_rfl)) rfl rfl
def doesL : List AV := [.nilFunc, .clo 71 [], .clo 72 [], .clo 73 [], .clo 74 [], .clo 75 [], .clo 76 [], .clo 77 [], .clo 78 [], .clo 79 [], .clo 80 [], .clo 81 [], .clo 82 [], .clo 83 []]
theorem does_eq (H : Heap) : call cfg 55 [] H = some (.ret (.agg doesL), H) := by
 rw [call55]
 unfold doesL
 simp only [F55, k55, Tryz.f55, sxAll, cA, Env.keep, resultsA, packA, storeA, loadA, Rv.part, cellsAt, TD.isAgg, buildA, fillA, setCells, ↓qAe, Nat.reduceBEq, Nat.reduceAdd, Nat.reduceMul, Nat.reduceLeDiff, ↓reduceIte, cells_clo, leaf_clo, cells_nilFunc, leaf_nilFunc, ty108, ty107]
 exact leave_pure rfl (take_one _ _) rfl
section
variable {p : SProg} {H : Heap} {ρ : Nat -> Role} {s : Nat} {σ : SSt} {t : Nat} {rest : List SFrame} {f : SFrame} {i : SIns} {w m mp : Nat} {cv tv ov : AV} {cs ts : List AV} {o g : Nat} {cap : Option Nat} {rvs c : List AV} (X : Ctx p H ρ s σ t rest f i w m mp cv tv ov cs ts o g cap rvs c)
include X
theorem op_does (P : ProgOk p) {K : Nat} (W : SOk p K σ) (hK : K < 100000000) (hi : insAt p f = some i) : ∃ gn H', indexA cfg 108 (.agg doesL) (.int .u8 i.op) = some (.clo gn []) /\ call cfg gn [.ptr w 0 0] H = some (.ret (.tup []), H') /\ Did p H ρ s t w i (exeS p σ t rest f i) H' := by
 obtain ⟨F, hF, hc, FO, IO⟩ := P.at hi
 have hmem := qBj X.hf
 obtain ⟨F', i', hF', _, hreg⟩ := W.fr _ hmem f (by simp)
 rw [hF] at hF'; injection hF' with hF'; subst hF'
 have hpc : f.pc < 1000000 := by have := (qAu.1 hc).1; have := FO.len; omega
 have hd := W.deep _ hmem
 simp only [qBb, List.length_singleton] at hd
 have hcl := W.call _ hmem
 rw [List.dropLast_concat] at hcl
 have rg : ∀ {n : Int}, 0 <= n /\ n < F.regs -> RegOk f n := fun h => ⟨h.1, by rw [hreg]; exact h.2⟩
 have bare : ∀ {n : Int}, (n = -1 ∨ 0 <= n /\ n < F.regs) -> n = -1 ∨ RegOk f n := fun h => h.imp id rg
 have hop := IO.op
 have hk : i.op = 1 ∨ i.op = 2 ∨ i.op = 3 ∨ i.op = 4 ∨ i.op = 5 ∨ i.op = 6 ∨ i.op = 7 ∨ i.op = 8 ∨ i.op = 9 ∨ i.op = 10 ∨ i.op = 11 ∨ i.op = 12 ∨ i.op = 13 := by omega
 have hx : ∀ (k : Nat) (v : AV), i.op = (k : Int) -> k < 14 -> doesL.drop k = v :: doesL.drop (k + 1) -> indexA cfg 108 (.agg doesL) (.int .u8 i.op) = some v := fun k v hk hk14 hd => by
  have : ¬ (k : Int) < 0 := by omega
  have hg := congrArg List.head? hd
  rw [List.head?_drop] at hg
  simp only [List.head?_cons] at hg
  simp [indexA, hk, ty108, ty107, Rv.part, TD.isAgg, this, hk14, hg]
 rcases hk with h | h | h | h | h | h | h | h | h | h | h | h | h
 ·obtain ⟨H', h1, h2⟩ := constant_eq X hpc (rg (IO.r (by omega))) h
  exact ⟨_, H', hx 1 _ h (by omega) rfl, h1, h2⟩
 ·obtain ⟨H', h1, h2⟩ := move_eq X hpc (rg (IO.r (by omega))) (rg (IO.a (by omega))) h
  exact ⟨_, H', hx 2 _ h (by omega) rfl, h1, h2⟩
 ·obtain ⟨H', h1, h2⟩ := unaryW_eq X hpc (rg (IO.r (by omega))) (rg (IO.a (by omega))) (IO.una h) h
  exact ⟨_, H', hx 3 _ h (by omega) rfl, h1, h2⟩
 ·obtain ⟨H', h1, h2⟩ := binaryW_eq X hpc (rg (IO.r (by omega))) (rg (IO.a (by omega))) (rg (IO.b (by omega))) (IO.bin h).1 (IO.bin h).2 h
  exact ⟨_, H', hx 4 _ h (by omega) rfl, h1, h2⟩
 ·obtain ⟨H', h1, h2⟩ := load_eq X hpc (rg (IO.r (by omega))) (bare (IO.bare (by omega))) h
  exact ⟨_, H', hx 5 _ h (by omega) rfl, h1, h2⟩
 ·obtain ⟨H', h1, h2⟩ := store_eq X hpc (bare (IO.bare (by omega))) (rg (IO.b (by omega))) h
  exact ⟨_, H', hx 6 _ h (by omega) rfl, h1, h2⟩
 ·obtain ⟨H', h1, h2⟩ := acquire_eq X hpc (IO.lock (by omega)).1 (IO.lock (by omega)).2 h
  exact ⟨_, H', hx 7 _ h (by omega) rfl, h1, h2⟩
 ·obtain ⟨H', h1, h2⟩ := release_eq X hpc (IO.lock (by omega)).1 (IO.lock (by omega)).2 h
  exact ⟨_, H', hx 8 _ h (by omega) rfl, h1, h2⟩
 ·obtain ⟨H', h1, h2⟩ := print_eq X hpc (rg (IO.a (by omega))) (by have := W.outs; omega) h
  exact ⟨_, H', hx 9 _ h (by omega) rfl, h1, h2⟩
 ·obtain ⟨hn, G, hG, _, hGp⟩ := IO.call h
  have GO := P.funs G (qBj hG)
  have g1 := GO.regs; have g2 := GO.params
  obtain ⟨H', h1, h2⟩ := callW_eq X hn hG (by omega) g1.2 (by omega) (fun r hr => rg (IO.args h r hr)) (by omega) h
  exact ⟨_, H', hx 10 _ h (by omega) rfl, h1, h2⟩
 ·obtain ⟨H', h1, h2⟩ := jump_eq X hpc (IO.goal (by omega)).1 h
  exact ⟨_, H', hx 11 _ h (by omega) rfl, h1, h2⟩
 ·obtain ⟨H', h1, h2⟩ := branch_eq X hpc (IO.goal (by omega)).1 (rg (IO.a (by omega))) h
  exact ⟨_, H', hx 12 _ h (by omega) rfl, h1, h2⟩
 ·obtain ⟨H', h1, h2⟩ := back_eq X hpc (rg (IO.a (by omega))) (fun x hx => by
   have hfx := W.fr _ hmem x (by simp [hx])
   refine ⟨hcl x hx, hfx, fun j hj => ?_⟩
   obtain ⟨i2, hi2, hop2⟩ := hcl x hx
   rw [hj] at hi2; injection hi2 with hi2; subst hi2
   obtain ⟨F2, hF2, _, _, IO2⟩ := P.at hj
   obtain ⟨F3, _, hF3, _, hr3⟩ := hfx
   rw [hF2] at hF3; injection hF3 with hF3; subst hF3
   have := IO2.r (by omega)
   exact ⟨this.1, by rw [hr3]; exact this.2⟩) (by omega) (fun x hx => by
   obtain ⟨F2, i2, hF2, hc2, _⟩ := W.fr _ hmem x (by simp [hx])
   have := (qAu.1 hc2).1
   have := (P.funs F2 (qBj hF2)).len
   omega) h
  exact ⟨_, H', hx 13 _ h (by omega) rfl, h1, h2⟩
end
section
variable {p : SProg} {H : Heap} {ρ : Nat -> Role} {s : Nat} {σ : SSt} (A : At p H ρ s σ) (P : ProgOk p) {K : Nat} (W : SOk p K σ) (hK : K < 10000000)
include A P W hK
theorem step_yes {t : Nat} (hb : canB p σ t = true) : ∃ H' ρ', call cfg 31 [.ptr s 0 0, .int .i64 t] H = some (.ret (.int .i64 0), H') /\ At p H' ρ' s (stepS p σ t) /\ Frm H ρ H' ρ' := by
 obtain ⟨m, mp, cv, tv, ov, cs, ts, R⟩ := A
 have hs := R.st
 have hls := live_of hs
 have e0 := ptr_eq_nil (H := H) (k := 0) ty42 hls
 have kt := R.tArr.known
 have lt := R.tArr.len 73
 rw [R.tLen] at lt
 obtain ⟨n, rest, f, i, hn, hf, htop, hia⟩ : ∃ (n : Nat) (rest : List SFrame) (f : SFrame) (i : SIns), (t : Int) = n /\ σ.thr[n]? = some (rest ++ [f]) /\ σ.top n = some f /\ insAt p f = some i := by
  rcases top_cases σ (t : Int) with hn | ⟨n, rest, f, hn, hf, htop⟩
  ·exfalso
   unfold canB at hb
   have htn : σ.top t = none := by
    rcases hn with h | h | h
    ·omega
    ·exact top_no (.inl h)
    ·exact top_no (.inr (by simpa using h.2))
   rw [htn] at hb
   cases hb
  ·have : t = n := by omega
   subst this
   obtain ⟨_, i, _, _, h, _⟩ := W.at hf
   exact ⟨t, rest, f, i, rfl, hf, htop, h⟩
 obtain rfl : t = n := by omega
 have htl : t < σ.thr.length := (qAu.1 hf).1
 have h1 : ((t : Int) >= (σ.thr.length : Int)) = False := by simp; omega
 have hd := W.depth hf
 have hcan := can_eq R W (by omega) (t : Int)
 rw [Int.toNat_natCast, hb, show (decide (0 <= (t : Int)) && true) = true by simp] at hcan
 obtain ⟨o, g, cap, rvs, c, hv, S, ht, ho, d0, d1⟩ := topv R hf (by omega)
 have hins := ins_eq hs ho d0 d1 hia
 have hup : ∀ x, x < H.length -> upd ρ H.length .work x = ρ x := fun x hx => upd_ne (by omega)
 have R1 : Rep p (H ++ [.cells (workC s t o (rest.length * 3) g i false) 0]) (upd ρ H.length .work) s σ m mp cv tv ov cs ts :=
  R.mono (by simp) (fun x hx _ _ => ⟨qAx hx, hup x hx⟩) fun x hx => by
   simp only [qBb, List.length_singleton] at hx
   rw [upd_ne (by omega)]; exact R.fresh x (by omega)
 have X : Ctx p (H ++ [.cells (workC s t o (rest.length * 3) g i false) 0]) (upd ρ H.length .work) s σ t rest f i H.length m mp cv tv ov cs ts o g cap rvs c :=
  ⟨R1, hv, hf, S.mono fun x hx _ => ⟨qAx hx, hup x hx⟩, by rw [obj_app0, obj_zero], upd_self _ _ _⟩
 have hF1 : Frm H ρ (H ++ [.cells (workC s t o (rest.length * 3) g i false) 0]) (upd ρ H.length .work) := ⟨by simp, fun x hx hr => ⟨qAx hx, (hup x hx).trans hr⟩⟩
 obtain ⟨gn, H2, hidx, hcall, ρ2, o2, k2, g2, ⟨m2, mp2, cv2, tv2, ov2, cs2, ts2, R2⟩, hw2, hwr2, F2⟩ := op_does X P W (by omega) hia
 have hws : H.length ≠ s := fun hc => by have := R2.stR; rw [← hc, hwr2] at this; cases this
 have hs2 := R2.st
 have hls2 := live_of hs2
 have hst1 : storeA cfg H2 3 (.ptr s 5 0) (.int .i64 t) = some (H2.set s (.cells (p.cells ++ [.ptr m2 0 0, tv2, .int .i64 (t : Int), ov2, .int .u8 (exeS p σ t rest f i).1.ending]) 0)) := by
  rw [store1 (v := .int .i64 (t : Int)) ty3 hs2 (off := 5) (by simp [SProg.cells]) rfl rfl]
  rfl
 have R3 := R2.own (t : Int) (exeS p σ t rest f i).1.ending
 have hw3 := (obj_setn (H := H2) (g := 0) (.cells (p.cells ++ [.ptr m2 0 0, tv2, .int .i64 (t : Int), ov2, .int .u8 (exeS p σ t rest f i).1.ending]) 0) hws).trans hw2
 have hlw3 := live_of hw3
 have hs3 := R3.st
 have hls3 := live_of hs3
 have hg : σ.thr.getD t [] = rest ++ [f] := by rw [qBp, hf]; rfl
 have hstep : stepS p σ t = endS p { (exeS p σ t rest f i).1 with last := (t : Int), ending := if (exeS p σ t rest f i).2 then 2 else (exeS p σ t rest f i).1.ending } := by
  unfold stepS
  simp only [htop, hia, hg, List.dropLast_concat]
 have E := exe_ok P W hf hia
 have F3 : Frm H2 ρ2 (H2.set s (.cells (p.cells ++ [.ptr m2 0 0, tv2, .int .i64 (t : Int), ov2, .int .u8 (exeS p σ t rest f i).1.ending]) 0)) ρ2 := ⟨by simp, fun x hx hr => ⟨qAw (by intro hc; rw [← hc, R2.stR] at hr; cases hr), hr⟩⟩
 have hl1 : ∀ X, Heap.live (H ++ X) H.length 0 = Heap.live X 0 0 := fun X => live_app0 H X 0
 rw [hstep]
 have hdoes := does_eq (H ++ [.cells (workC s t o (rest.length * 3) g i false) 0])
 cases htr : (exeS p σ t rest f i).2 with
 | true =>
  rw [htr] at hw3
  have hst2 : storeA cfg (H2.set s (.cells (p.cells ++ [.ptr m2 0 0, tv2, .int .i64 (t : Int), ov2, .int .u8 (exeS p σ t rest f i).1.ending]) 0)) 5 (.ptr s 7 0) (.int .u8 2) = some ((H2.set s (.cells (p.cells ++ [.ptr m2 0 0, tv2, .int .i64 (t : Int), ov2, .int .u8 (exeS p σ t rest f i).1.ending]) 0)).set s (.cells (p.cells ++ [.ptr m2 0 0, tv2, .int .i64 (t : Int), ov2, .int .u8 2]) 0)) := by
   rw [store1 (v := .int .u8 2) ty5 hs3 (off := 7) (by simp [SProg.cells]) rfl rfl]
   rfl
  have R4 := R3.own (t : Int) 2
  have W4 : SOk p (K + 1) { { (exeS p σ t rest f i).1 with last := (t : Int), ending := (exeS p σ t rest f i).1.ending } with last := (t : Int), ending := 2 } := E.same rfl rfl
  obtain ⟨H5, hend, R5, hl5, hk5⟩ := end_eq R4 W4 (by omega)
  refine ⟨H5, ρ2, ?_, ⟨_, _, _, _, _, _, _, R5⟩, hF1.trans (F2.trans (F3.trans ⟨by rw [hl5]; simp, fun x hx hr => ⟨?_, hr⟩⟩))⟩
  ·rw [call31]
   simp only [workC, SProg.cells, SIns.cells, qBr, qBq] at hs hs2 hs3 hst1 hst2 hw3 hls3 hlw3 hend hcall hins hdoes
   simp only [F31, k31, Tryz.f31, sxAll, cA, arithA, Env.keep, qt_eq, resultsA, packA, unA, fieldAddrA, Rv.part, TD.isAgg, buildA, fillA, setCells, mapO, ↓qAe, Nat.reduceBEq, Nat.reduceAdd, Nat.reduceLeDiff, ↓reduceIte, load_ptr, hs, hls, e0, kt, lt, h1, hcan, ht, hins, hl1, hdoes, hidx, hcall, hls2, hst1, hw3, hlw3, hls3, hst2, hend, pu53, pu29, pu54, pu55, ty68, ty42, ty74, ty65, ty106, ty41, ty5, ty3, ty4]
   exact leave_impure pu31
  ·by_cases hx2 : x = s
   ·subst hx2; rw [R2.stR] at hr; cases hr
   ·rw [hk5 x hx2, qAw (Ne.symm hx2)]
 | false =>
  rw [htr] at hw3
  have W4 : SOk p (K + 1) { (exeS p σ t rest f i).1 with last := (t : Int), ending := (exeS p σ t rest f i).1.ending } := E.same rfl rfl
  obtain ⟨H5, hend, R5, hl5, hk5⟩ := end_eq R3 W4 (by omega)
  refine ⟨H5, ρ2, ?_, ⟨_, _, _, _, _, _, _, R5⟩, hF1.trans (F2.trans (F3.trans ⟨by rw [hl5]; exact qAr _, fun x hx hr => ⟨?_, hr⟩⟩))⟩
  ·rw [call31]
   simp only [workC, SProg.cells, SIns.cells, qBr, qBq] at hs hs2 hs3 hst1 hw3 hls3 hlw3 hend hcall hins hdoes
   simp only [F31, k31, Tryz.f31, sxAll, cA, arithA, Env.keep, qt_eq, resultsA, packA, unA, fieldAddrA, Rv.part, TD.isAgg, buildA, fillA, setCells, mapO, ↓qAe, Nat.reduceBEq, Nat.reduceAdd, Nat.reduceLeDiff, ↓reduceIte, load_ptr, hs, hls, e0, kt, lt, h1, hcan, ht, hins, hl1, hdoes, hidx, hcall, hls2, hst1, hw3, hlw3, hend, pu53, pu29, pu54, pu55, ty68, ty42, ty74, ty65, ty106, ty41, ty5, ty3, ty4]
   exact leave_impure pu31
  ·by_cases hx2 : x = s
   ·subst hx2; rw [R2.stR] at hr; cases hr
   ·exact hk5 x hx2
end
end
end Go.Proofs.Sx
namespace Go.Proofs.Sx
open Go.Rv Go.Proofs
attribute [local congr] bind_left got_left
noncomputable section
theorem pu12 : cfg.pure 12 = false := rfl
instance t12 {d : Option Nat} : TightD cfg 12 d := ⟨fun _ _ => rfl⟩
def B12 (p : List Bool) := cA p Tryz.f12.body
def R12 (p : List Bool) (i : Nat) := Code.region i (cA p Tryz.f12.body) false
theorem F12 : (∀ p i, XR cfg 12 (R12 p i) (B12 p) (cA p Tryz.f12.body).toList i false) /\ RE cfg 12 [0, 1, 4, 5, 6, 7, 9, 14] /\ cfg.pure 12 = false := ⟨fun _ _ => xr rfl rfl, rE fun _ => rfl, rfl⟩
def k12 : Code := (.seq (R12 [ff] 0) (.seq (.seq (R12 [tt, ff, ff] 1) (.cond (.tmp 9) (.seq (R12 [tt, ff, tt, ff, ff] 2) .ret) .skip)) (.seq (R12 [tt, tt, ff] 3) (.seq (.seq (R12 [tt, tt, tt, ff, ff] 4) (.cond (.tmp 14) (.seq (R12 [tt, tt, tt, ff, tt, ff, ff] 5) .ret) .skip)) (.seq (R12 [tt, tt, tt, tt, ff] 6) (.seq (R12 [tt, tt, tt, tt, tt, ff] 7) .ret))))))
theorem call12 (x0 x1 : AV) (h : Heap) : call cfg 12 [x0, x1] h = (exec cfg 12 k12 [(0, x0), (1, x1)] h).bind (callEnd cfg 12 h [.tmp 4, .tmp 5]) := call_at2 (fnat Tryz.func12 (b := k12) (by kernel_rfl) (by kernel_rfl)) rfl rfl
def pickN (p : SProg) (σ : SSt) (n : Int) : Nat := (ableL p σ).getD ((IntKind.u64.wrap n).tmod ((ableL p σ).length : Int)).toNat 0
theorem u64_wrap (n : Int) : IntKind.u64.wrap n = n % 18446744073709551616 := by simp [IntKind.wrap, IntKind.bits, IntKind.signed]
theorem u64_pos (n : Int) : 0 <= IntKind.u64.wrap n := by
 rw [u64_wrap]; omega
theorem pickN_mem {p : SProg} {σ : SSt} {n : Int} (h : ableL p σ ≠ []) : ((IntKind.u64.wrap n).tmod ((ableL p σ).length : Int)).toNat < (ableL p σ).length /\ 0 <= (IntKind.u64.wrap n).tmod ((ableL p σ).length : Int) /\ pickN p σ n ∈ ableL p σ := by
 have hl := List.length_pos_iff.2 h
 have h0 := Int.tmod_nonneg ((ableL p σ).length : Int) (u64_pos n)
 have h1 := Int.tmod_lt_of_pos (IntKind.u64.wrap n) (show (0 : Int) < ((ableL p σ).length : Int) by omega)
 have h2 : ((IntKind.u64.wrap n).tmod ((ableL p σ).length : Int)).toNat < (ableL p σ).length := by omega
 refine ⟨h2, h0, ?_⟩
 unfold pickN
 rw [qBp, qAs h2]
 exact List.getElem_mem _
theorem able_iff {p : SProg} {σ : SSt} {t : Nat} : t ∈ ableL p σ ↔ canB p σ t = true := by
 unfold ableL
 rw [List.mem_filter, List.mem_range]
 refine ⟨fun h => h.2, fun h => ⟨?_, h⟩⟩
 unfold canB at h
 by_cases ht : t < σ.thr.length
 ·exact ht
 ·rw [top_no (.inl (by omega))] at h; cases h
section
variable {p : SProg} {H : Heap} {ρ : Nat -> Role} {s : Nat} {σ : SSt} (A : At p H ρ s σ) (P : ProgOk p) {K : Nat} (W : SOk p K σ) (hK : K < 10000000)
include A P W hK
theorem pick_yes (n : Int) (h : ableL p σ ≠ []) : ∃ H' ρ', call cfg 12 [.ptr s 0 0, .int .i64 n] H = some (.ret (.tup [.int .i64 (pickN p σ n), .int .i64 0]), H') /\ At p H' ρ' s (stepS p σ (pickN p σ n)) /\ Frm H ρ H' ρ' := by
 obtain ⟨q1, q2, q3⟩ := pickN_mem (n := n) h
 obtain ⟨H', ρ', hst, hA, hF⟩ := step_yes A P W hK (able_iff.1 q3)
 refine ⟨H', ρ', ?_, hA, hF⟩
 obtain ⟨m, mp, cv, tv, ov, cs, ts, R⟩ := A
 have hls := live_of R.st
 have e0 := ptr_eq_nil (H := H) (k := 0) ty42 hls
 obtain ⟨z, r, hab⟩ := able_eq R W (by omega)
 have hl := List.length_pos_iff.2 h
 have hll : ((intL (natL (ableL p σ))).length : Int) = ((ableL p σ).length : Int) := by simp [intL, natL]
 have hl0 : (((ableL p σ).length : Int) == 0) = false := by simp; exact h
 have hlen : (ableL p σ).length <= 16 := by
  have := List.length_filter_le (canB p σ) (List.range σ.thr.length)
  have := W.few
  simp [ableL] at *; omega
 have hwl : IntKind.u64.wrap ((ableL p σ).length : Int) = ((ableL p σ).length : Int) := by rw [u64_wrap]; omega
 have hget : (intL (natL (ableL p σ)))[((IntKind.u64.wrap n).tmod ((ableL p σ).length : Int)).toNat]? = some (.int .i64 (pickN p σ n)) := by
  unfold pickN
  rw [qBp, qAs q1]
  simp [intL, natL, q1]
 have hix : indexAddrA cfg H 27 (.lst (intL (natL (ableL p σ))) z r) (.int .u64 ((IntKind.u64.wrap n).tmod ((ableL p σ).length : Int))) = some (.ref [.int .i64 (pickN p σ n)]) := by
  have : ¬ (IntKind.u64.wrap n).tmod ((ableL p σ).length : Int) < 0 := by omega
  simp [indexAddrA, ty27, ty3, this, hget, AV.cells]
 rw [call12]
 simp only [F12, k12, Tryz.f12, sxAll, cA, arithA, Env.keep, qt_eq, resultsA, packA, Rv.part, TD.isAgg, convH, convA, mapO, ↓qAe, Nat.reduceBEq, ↓reduceIte, e0, hab, lenA_lst, hll, hl0, hwl, hix, load_ref, hst, pu30, pu31, ty27, ty3, ty76]
 exact leave_impure pu12
end
end
end Go.Proofs.Sx
namespace Go.Proofs.Sx
open Go.Rv Go.Proofs
attribute [local congr] bind_left got_left
noncomputable section
theorem pu8 : cfg.pure 8 = false := rfl
instance t8_1 : Tg cfg 8 1 := tgS rfl
instance t8_2 : Tg cfg 8 2 := tgS rfl
instance t8_3 : Tg cfg 8 3 := tgS rfl
instance t8_4 : Tg cfg 8 4 := tgS rfl
instance t8_5 : Tg cfg 8 5 := tgS rfl
instance t8_6 : Tg cfg 8 6 := tgS rfl
instance t8_8 : Tg cfg 8 8 := tgS rfl
instance t8_9 : Tg cfg 8 9 := tgS rfl
instance t8_10 : Tg cfg 8 10 := tgS rfl
instance t8_11 : Tg cfg 8 11 := tgS rfl
instance t8_12 : Tg cfg 8 12 := tgS rfl
instance t8_13 : Tg cfg 8 13 := tgS rfl
instance t8_14 : Tg cfg 8 14 := tgS rfl
instance t8_15 : Tg cfg 8 15 := tgS rfl
instance t8_16 : Tg cfg 8 16 := tgS rfl
instance t8_17 : Tg cfg 8 17 := tgS rfl
instance t8_18 : Tg cfg 8 18 := tgS rfl
instance t8_19 : Tg cfg 8 19 := tgS rfl
instance t8_20 : Tg cfg 8 20 := tgS rfl
instance t8_21 : Tg cfg 8 21 := tgS rfl
instance t8_22 : Tg cfg 8 22 := tgS rfl
instance t8_23 : Tg cfg 8 23 := tgS rfl
instance t8_24 : Tg cfg 8 24 := tgS rfl
instance t8_25 : Tg cfg 8 25 := tgS rfl
instance t8_26 : Tg cfg 8 26 := tgS rfl
instance t8_27 : Tg cfg 8 27 := tgS rfl
instance t8_28 : Tg cfg 8 28 := tgS rfl
instance t8_29 : Tg cfg 8 29 := tgS rfl
instance t8_30 : Tg cfg 8 30 := tgS rfl
instance t8_31 : Tg cfg 8 31 := tgS rfl
instance t8_32 : Tg cfg 8 32 := tgS rfl
instance t8_33 : Tg cfg 8 33 := tgS rfl
instance t8_34 : Tg cfg 8 34 := tgS rfl
instance t8_35 : Tg cfg 8 35 := tgS rfl
instance t8_36 : Tg cfg 8 36 := tgS rfl
instance t8_37 : Tg cfg 8 37 := tgS rfl
instance t8_38 : Tg cfg 8 38 := tgS rfl
instance t8_39 : Tg cfg 8 39 := tgS rfl
instance t8_40 : Tg cfg 8 40 := tgS rfl
instance t8_41 : Tg cfg 8 41 := tgS rfl
instance t8_42 : Tg cfg 8 42 := tgS rfl
instance t8_45 : Tg cfg 8 45 := tgS rfl
instance t8_46 : Tg cfg 8 46 := tgS rfl
instance t8_47 : Tg cfg 8 47 := tgS rfl
instance t8_48 : Tg cfg 8 48 := tgS rfl
instance t8_49 : Tg cfg 8 49 := tgS rfl
instance t8_50 : Tg cfg 8 50 := tgS rfl
instance t8_51 : Tg cfg 8 51 := tgS rfl
instance t8_52 : Tg cfg 8 52 := tgS rfl
instance t8_2000_46 : TightD cfg 8 (some (2000 + 46)) := tgS rfl
instance t8_n : TightD cfg 8 none := tgN
def B8 (p : List Bool) := cA p Tryz.f8.body
def R8 (p : List Bool) (i : Nat) := Code.region i (cA p Tryz.f8.body) false
def D8 (p : List Bool) (i : Nat) := Code.region i (cA p Tryz.f8.body) true
theorem F8 : (∀ p i, XR cfg 8 (R8 p i) (B8 p) (cA p Tryz.f8.body).toList i false) /\ cfg.imm 8 1 = true /\ cfg.imm 8 28 = false /\ XR cfg 8 (D8 [tt, tt, tt, tt, tt, ff, tt, ff, ff, tt, tt, ff, ff, tt] 10) (B8 [tt, tt, tt, tt, tt, ff, tt, ff, ff, tt, tt, ff, ff, tt]) ((cA [tt, tt, tt, tt, tt, ff, tt, ff, ff, tt, tt, ff, ff, tt] Tryz.f8.body).toList) 10 true /\ cfg.imm 8 44 = false /\ cfg.imm 8 45 = true /\ RE cfg 8 [0, 1, 2, 3, 4, 5, 6, 8, 11, 22, 30, 31, 32, 33] /\ cfg.pure 8 = false := ⟨fun _ _ => xr rfl rfl, by kernel_rfl, by kernel_rfl, xd (by kernel_rfl) rfl rfl, by kernel_rfl, by kernel_rfl, rE fun _ => rfl, rfl⟩
theorem lo8_43 : cfg.loose 8 43 = lo 8 43 := rfl
theorem lo8_44 : cfg.loose 8 44 = lo 8 44 := rfl
theorem lb8_10_43_2 (e : Env) (h : Heap) : looseB cfg 8 (B8 [tt, tt, tt, tt, tt, ff, tt, ff, ff, tt, tt, ff, ff, tt]) e h 2 = (((known (e.get 37)).bind fun x => nilA h x).map fun v => AV.eqb v (e.get 38)).getD false := lb_nilCheck rfl
theorem lb8_10_43_3 (e : Env) (h : Heap) : looseB cfg 8 (B8 [tt, tt, tt, tt, tt, ff, tt, ff, ff, tt, tt, ff, ff, tt]) e h 3 = (((known (e.get 38)).bind fun x => fieldAddrA cfg h 68 x 2).map fun v => AV.eqb v (e.get 39)).getD false := lb_fieldAddr rfl
theorem lb8_10_43_4 (e : Env) (h : Heap) : looseB cfg 8 (B8 [tt, tt, tt, tt, tt, ff, tt, ff, ff, tt, tt, ff, ff, tt]) e h 4 = (((known (e.get 39)).bind fun x => loadA cfg h 65 x).map fun v => AV.eqb v (e.get 40)).getD false := lb_load rfl rfl
theorem la8_43 (e : Env) (h : Heap) : looseAll cfg 8 (B8 [tt, tt, tt, tt, tt, ff, tt, ff, ff, tt, tt, ff, ff, tt]) (some 43) e h = (((((known (e.get 37)).bind fun x => nilA h x).map fun v => AV.eqb v (e.get 38)).getD false) && (((((known (e.get 38)).bind fun x => fieldAddrA cfg h 68 x 2).map fun v => AV.eqb v (e.get 39)).getD false) && (((((known (e.get 39)).bind fun x => loadA cfg h 65 x).map fun v => AV.eqb v (e.get 40)).getD false)))) := by simp only [looseAll, lo8_43, lo, List.all_cons, List.all_nil, Bool.and_true, lb8_10_43_2, lb8_10_43_3, lb8_10_43_4]
theorem lb8_10_44_2 (e : Env) (h : Heap) : looseB cfg 8 (B8 [tt, tt, tt, tt, tt, ff, tt, ff, ff, tt, tt, ff, ff, tt]) e h 2 = (((known (e.get 37)).bind fun x => nilA h x).map fun v => AV.eqb v (e.get 38)).getD false := lb_nilCheck rfl
theorem lb8_10_44_3 (e : Env) (h : Heap) : looseB cfg 8 (B8 [tt, tt, tt, tt, tt, ff, tt, ff, ff, tt, tt, ff, ff, tt]) e h 3 = (((known (e.get 38)).bind fun x => fieldAddrA cfg h 68 x 2).map fun v => AV.eqb v (e.get 39)).getD false := lb_fieldAddr rfl
theorem lb8_10_44_4 (e : Env) (h : Heap) : looseB cfg 8 (B8 [tt, tt, tt, tt, tt, ff, tt, ff, ff, tt, tt, ff, ff, tt]) e h 4 = (((known (e.get 39)).bind fun x => loadA cfg h 65 x).map fun v => AV.eqb v (e.get 40)).getD false := lb_load rfl rfl
theorem la8_44 (e : Env) (h : Heap) : looseAll cfg 8 (B8 [tt, tt, tt, tt, tt, ff, tt, ff, ff, tt, tt, ff, ff, tt]) (some 44) e h = (((((known (e.get 37)).bind fun x => nilA h x).map fun v => AV.eqb v (e.get 38)).getD false) && (((((known (e.get 38)).bind fun x => fieldAddrA cfg h 68 x 2).map fun v => AV.eqb v (e.get 39)).getD false) && (((((known (e.get 39)).bind fun x => loadA cfg h 65 x).map fun v => AV.eqb v (e.get 40)).getD false)))) := by simp only [looseAll, lo8_44, lo, List.all_cons, List.all_nil, Bool.and_true, lb8_10_44_2, lb8_10_44_3, lb8_10_44_4]
def l8_0 : Code := (.seq (R8 [tt, tt, tt, tt, tt, ff, tt, ff, ff, ff] 8) (.seq (.cond (.tmp 33) .skip (.exit 0)) (.seq (.block 1 (.seq (R8 [tt, tt, tt, tt, tt, ff, tt, ff, ff, tt, tt, ff, ff, ff] 9) (D8 [tt, tt, tt, tt, tt, ff, tt, ff, ff, tt, tt, ff, ff, tt] 10))) (R8 [tt, tt, tt, tt, tt, ff, tt, ff, ff, tt, tt, tt] 11))))
def k8 : Code := (.seq (R8 [ff] 0) (.seq (.seq (R8 [tt, ff, ff] 1) (.cond (.tmp 11) (.seq (R8 [tt, ff, tt, ff, ff] 2) .ret) .skip)) (.seq (R8 [tt, tt, ff] 3) (.seq (.seq (R8 [tt, tt, tt, ff, ff] 4) (.cond (.tmp 22) (.seq (R8 [tt, tt, tt, ff, tt, ff, ff] 5) .ret) .skip)) (.seq (R8 [tt, tt, tt, tt, ff] 6) (.seq (.seq (R8 [tt, tt, tt, tt, tt, ff, ff] 7) (.block 0 (.loop l8_0))) (.seq (R8 [tt, tt, tt, tt, tt, tt, ff] 12) (.seq (R8 [tt, tt, tt, tt, tt, tt, tt, ff] 13) .ret))))))))
theorem call8 (x0 : AV) (h : Heap) : call cfg 8 [x0] h = (exec cfg 8 k8 [(0, x0)] h).bind (callEnd cfg 8 h [.tmp 2, .tmp 3]) := call_at2 (fnat Tryz.func8 (b := k8) (by kernel_rfl) (by kernel_rfl)) rfl rfl
theorem Rep.grow {p : SProg} {h h' : Heap} {ρ ρ' : Nat -> Role} {s : Nat} {σ : SSt} {m mp : Nat} {cv tv ov tv' v : AV} {cs ts : List AV} (R : Rep p h ρ s σ m mp cv tv ov cs ts) (fs : List SFrame)
    (hl : h.length <= h'.length) (K : ∀ o, o < h.length -> ρ o ≠ .other -> ρ o ≠ .work -> ρ o ≠ .tArr -> h'[o]? = h[o]? /\ ρ' o = ρ o)
    (A : Arr h' ρ' .tArr tv' (ts ++ [v])) (S : ∃ rvs o g cap c, v = .msl o 0 fs.length 3 g cap /\ Stk h' ρ' σ.thr.length fs rvs o g cap c) (fr : ∀ o, h'.length <= o -> ρ' o = .other) :
    Rep p (h'.set s (.cells (p.cells ++ [.ptr m 0 0, tv', .int .i64 σ.last, ov, .int .u8 σ.ending]) 0)) ρ' s { σ with thr := σ.thr ++ [fs] } m mp cv tv' ov cs (ts ++ [v]) := by
  have hs0 := obj_some R.st
  have hs : s < h'.length := Nat.lt_of_lt_of_le hs0 hl
  have hsr : ρ' s = .st := (K s hs0 (by rw [R.stR]; simp) (by rw [R.stR]; simp) (by rw [R.stR]; simp)).2.trans R.stR
  have k : ∀ o, ρ' o ≠ .st -> (h'.set s (.cells (p.cells ++ [.ptr m 0 0, tv', .int .i64 σ.last, ov, .int .u8 σ.ending]) 0))[o]? = h'[o]? := fun o ho => by
    rw [qAw]; intro hc; exact ho (hc ▸ hsr)
  have kk : ∀ o, o < h.length -> ρ o ≠ .other -> ρ o ≠ .work -> ρ o ≠ .tArr -> ρ o ≠ .st -> (h'.set s (.cells (p.cells ++ [.ptr m 0 0, tv', .int .i64 σ.last, ov, .int .u8 σ.ending]) 0))[o]? = h[o]? /\ ρ' o = ρ o := fun o h1 h2 h3 h4 h5 => by
    obtain ⟨a, b⟩ := K o h1 h2 h3 h4
    exact ⟨(k o (b ▸ h5)).trans a, b⟩
  exact {
    st := by simp [Heap.obj, hs]
    stR := hsr
    mem := obj_of R.mem (kk m (obj_some R.mem) (by rw [R.memR]; simp) (by rw [R.memR]; simp) (by rw [R.memR]; simp) (by rw [R.memR]; simp)).1
    memR := (kk m (obj_some R.mem) (by rw [R.memR]; simp) (by rw [R.memR]; simp) (by rw [R.memR]; simp) (by rw [R.memR]; simp)).2.trans R.memR
    held := (kk mp (qAu.1 R.held).1 (by rw [R.heldR]; simp) (by rw [R.heldR]; simp) (by rw [R.heldR]; simp) (by rw [R.heldR]; simp)).1.trans R.held
    heldR := (kk mp (qAu.1 R.held).1 (by rw [R.heldR]; simp) (by rw [R.heldR]; simp) (by rw [R.heldR]; simp) (by rw [R.heldR]; simp)).2.trans R.heldR
    cArr := R.cArr.mono fun o ho hr => by have := kk o ho (by rw [hr]; simp) (by rw [hr]; simp) (by rw [hr]; simp) (by rw [hr]; simp); exact ⟨this.1, this.2.trans hr⟩
    cLen := R.cLen
    cell := fun i v l hv hl => by
      obtain ⟨o, g, cap, e, ho, hr⟩ := R.cell i v l hv hl
      have := kk o (obj_some ho) (by rw [hr]; simp) (by rw [hr]; simp) (by rw [hr]; simp) (by rw [hr]; simp)
      exact ⟨o, g, cap, e, obj_of ho this.1, this.2.trans hr⟩
    tArr := A.mono fun o ho hr => ⟨k o (by rw [hr]; simp), hr⟩
    tLen := by simp [R.tLen]
    stk := fun t w gs hw hg => by
      by_cases ht : t < σ.thr.length
      · simp only at hg
        rw [qAx (by rw [R.tLen]; exact ht)] at hw
        rw [qAx ht] at hg
        obtain ⟨rvs, o, g, cap, c, e, S⟩ := R.stk t w gs hw hg
        exact ⟨rvs, o, g, cap, c, e, S.mono fun o ho hr => kk o ho (by rcases hr with hr | ⟨q, hr⟩ <;> rw [hr] <;> simp) (by rcases hr with hr | ⟨q, hr⟩ <;> rw [hr] <;> simp) (by rcases hr with hr | ⟨q, hr⟩ <;> rw [hr] <;> simp) (by rcases hr with hr | ⟨q, hr⟩ <;> rw [hr] <;> simp)⟩
      · have ht' : t = σ.thr.length := by have := (qAu.1 hg).1; simp at this; omega
        subst ht'
        simp only at hg
        rw [qAy (by rw [R.tLen]; omega)] at hw
        rw [qAy (by omega)] at hg
        simp only [R.tLen, Nat.sub_self, qBe, qAf] at hw hg
        subst hw hg
        obtain ⟨rvs, o, g, cap, c, e, S⟩ := S
        exact ⟨rvs, o, g, cap, c, e, S.mono fun o ho hr => ⟨k o (by rcases hr with hr | ⟨q, hr⟩ <;> rw [hr] <;> simp), rfl⟩⟩
    out := by
      rcases R.out with A | ⟨o, g, cap, e, ho, hr, hc⟩
      · exact .inl A
      · have := kk o (obj_some ho) (by rw [hr]; simp) (by rw [hr]; simp) (by rw [hr]; simp) (by rw [hr]; simp)
        exact .inr ⟨o, g, cap, e, obj_of ho this.1, this.2.trans hr, hc⟩
    fresh := fun o ho => fr o (by simpa using ho) }
def cells0 (p : SProg) : List (List Int) := p.mems.map fun m => List.replicate m.size.toNat m.first
def stacks0 (p : SProg) (l : List Int) : List (List SFrame) := l.map fun n => [newFrame p n.toNat []]
def start0 (p : SProg) (l : List Int) : SSt := ⟨cells0 p, [], stacks0 p l, -1, [], 0⟩
def startS (p : SProg) : SSt := endS p (start0 p (thr p.funs 0))
theorem thr_mem : ∀ (l : List SFun) (i : Nat) (n : Int), n ∈ thr l i -> ∃ k : Nat, n = ((i + k : Nat) : Int) /\ ∃ F, l[k]? = some F
 | [], _, _, h => by simp [thr] at h
 | f :: r, i, n, h => by
  simp only [thr, qAp] at h
  rcases h with h | h
  ·split at h
   ·simp only [qAn] at h
    exact ⟨0, by simpa using h, f, rfl⟩
   ·simp at h
  ·obtain ⟨k, h1, F, h2⟩ := thr_mem r (i + 1) n h
   exact ⟨k + 1, by rw [h1]; omega, F, by simpa using h2⟩
theorem newFrame_regs {p : SProg} {n : Nat} {F : SFun} (h : p.funs[n]? = some F) : (newFrame p n []).regs = List.replicate F.regs.toNat 0 := by simp [newFrame, h]
theorem start0_ok {p : SProg} (P : ProgOk p) {l : List Int} (hl : ∀ n ∈ l, ∃ k : Nat, n = (k : Int) /\ ∃ F, p.funs[k]? = some F) (hn : l.length <= 16) : SOk p 1 (start0 p l) where
 fr := fun x hx f hf => by
  simp only [start0, stacks0, qBl] at hx
  obtain ⟨n, hn, rfl⟩ := hx
  simp only [qAn] at hf
  subst hf
  obtain ⟨k, rfl, F, hF⟩ := hl n hn
  have FO := P.funs F (qBj hF)
  refine ⟨F, F.code[0]'(by have := FO.len; omega), by simpa [newFrame] using hF, qAs _, ?_⟩
  rw [Int.toNat_natCast, newFrame_regs hF]
  have := FO.regs; have := FO.params
  simp; omega
 call := fun x hx f hf => by
  simp only [start0, stacks0, qBl] at hx
  obtain ⟨n, hn, rfl⟩ := hx
  simp at hf
 deep := fun x hx => by
  simp only [start0, stacks0, qBl] at hx
  obtain ⟨n, hn, rfl⟩ := hx
  simp
 outs := by simp [start0]
 few := by simpa [start0, stacks0] using hn
theorem frames_loop (q : SProg) (P : ProgOk q) (l : List Int) (z : Nat) (r : Room) (hl : ∀ n ∈ l, ∃ k : Nat, n = (k : Int) /\ ∃ F, q.funs[k]? = some F) (hlen : l.length < 1000) (s m mp : Nat) (cv ov : AV) (cs : List AV) : ∀ (ys : List Int) (i : Nat), l.drop i = ys -> i <= l.length -> ∀ (H : Heap) (ρ : Nat -> Role) (tv : AV) (ts : List AV), Rep q H ρ s (start0 q (l.take i)) m mp cv tv ov cs ts -> ∀ t0 t1 t2 t3 t4 t5 t8 t11 t22 t33,
  Got (exec cfg 8 (.loop l8_0) [(0, t0), (1, t1), (2, t2), (3, t3), (4, t4), (5, t5), (6, .ptr s 0 0), (8, t8), (11, t11), (22, t22), (30, .lst (intL l) z r), (31, .int .i64 l.length), (32, .int .i64 i), (33, t33)] H) (fun x => ∃ (H' : Heap) (ρ' : Nat -> Role) (tv' : AV) (ts' : List AV) (t8' t33' : AV), x = (.exit 0, [(0, t0), (1, t1), (2, t2), (3, t3), (4, t4), (5, t5), (6, .ptr s 0 0), (8, t8'), (11, t11), (22, t22), (30, .lst (intL l) z r), (31, .int .i64 l.length), (32, .int .i64 l.length), (33, t33')], H') /\
   Rep q H' ρ' s (start0 q l) m mp cv tv' ov cs ts' /\ Frm H ρ H' ρ') := by
 intro ys
 induction ys with
 | nil =>
  intro i hd hi H ρ tv ts R t0 t1 t2 t3 t4 t5 t8 t11 t22 t33
  have hle : l.length <= i := by simpa using hd
  obtain rfl : i = l.length := by omega
  rw [List.take_length] at R
  rw [got_loop]
  simp only [l8_0, F8, Tryz.f8, sxAll, cA, arithA, Env.keep, ↓qAe, Nat.reduceBEq, ↓reduceIte, Nat.lt_irrefl]
  exact ⟨_, _, _, _, _, _, rfl, R, Frm.refl _ _⟩
 | cons y ss ih =>
  intro i hd hi H ρ tv ts R t0 t1 t2 t3 t4 t5 t8 t11 t22 t33
  obtain ⟨hlt, hget, hd'⟩ := at_drop hd
  obtain ⟨_, hx, _⟩ := at_drop (intL_drop hd)
  have hlt' : i < l.length := by simpa using hlt
  have hw := wrap_succ (i := i) (by omega)
  obtain ⟨n, rfl, F, hF⟩ := hl y (qBj hget)
  have FO := P.funs F (qBj hF)
  have g1 := FO.regs; have g2 := FO.params
  have hixl : ∀ h, indexAddrA cfg h 27 (.lst (intL l) z r) (.int .i64 i) = some (.ref [.int .i64 n]) := fun h => by
   have hh : ¬ (i : Int) < 0 := by omega
   simp [indexAddrA, ty27, ty3, hh, hx, AV.cells]
  have hs := R.st
  have hls := live_of hs
  have kt := R.tArr.known
  obtain ⟨X, oN, f1, f2, f3⟩ := frame_eq (n := n) (args := []) (av := .lst [] 0 .nil) hs hF (by omega) g1.2 (by simp; omega) rfl (fun X => rfl)
  have hoN := obj_some f2
  have hnl : (newFrame q n []).regs.length = F.regs.toNat := by rw [newFrame_regs hF]; simp
  have hs1 := obj_leftS X hs
  have hls1 := live_of hs1
  have hs2 := obj_leftS [AObj.cells [.int .i64 n, .int .i64 0, .msl oN 0 F.regs.toNat 1 0 (some F.regs.toNat)] 0] hs1
  have hls2 := live_of hs2
  have hup : ∀ x, x < H.length -> upd (upd ρ oN (.regs i 0)) (H ++ X).length (.stack i) x = ρ x := fun x hx => by
   rw [upd_ne (by simp; omega), upd_ne (by omega)]
  have hthr : (start0 q (l.take i)).thr.length = i := by simp [start0, stacks0]; omega
  have htl : ts.length = i := by rw [R.tLen, hthr]
  have A1 : Arr ((H ++ X) ++ [AObj.cells [.int .i64 n, .int .i64 0, .msl oN 0 F.regs.toNat 1 0 (some F.regs.toNat)] 0]) (upd (upd ρ oN (.regs i 0)) (H ++ X).length (.stack i)) .tArr tv ts := R.tArr.mono fun x hx hr => ⟨by
   rw [qAx (by simp; omega), qAx hx], (hup x hx).trans hr⟩
  have hone : ∀ x ∈ ts, x.cells = [x] := fun x hx => by
   obtain ⟨j, hj⟩ := List.mem_iff_getElem?.1 hx
   have hjl := (qAu.1 hj).1
   obtain ⟨fs, hfs⟩ : ∃ fs, (start0 q (l.take i)).thr[j]? = some fs := ⟨_, qAs (by rw [← R.tLen]; exact hjl)⟩
   obtain ⟨rvs, o, g, cap, c, rfl, _⟩ := R.stk j x fs hj hfs
   rfl
  obtain ⟨v', H2, ρ2, q1, q2, q3, q4, q5, q6⟩ := A1.push (y := .msl (H ++ X).length 0 1 3 0 (some 1)) hone rfl rfl (by omega) (fun x hx => by
   simp at hx
   rw [upd_ne (by simp; omega), upd_ne (by simp at hoN; omega)]; exact R.fresh x (by omega)) (by simp)
  have hlen1 : ((H ++ X) ++ [AObj.cells [AV.int .i64 n, .int .i64 0, .msl oN 0 F.regs.toNat 1 0 (some F.regs.toNat)] 0]).length = H.length + X.length + 1 := by simp; omega
  rw [hlen1] at q3 q4 q5
  have hρ2 : ∀ x, x < H.length -> ρ2 x = ρ x := fun x hx => (q4 x (by omega)).trans (hup x hx)
  have hk2 : ∀ x, x < H.length -> ρ x ≠ .tArr -> H2[x]? = H[x]? := fun x hx hr => by
   rw [q5 x (by omega) (by rw [hup x hx]; exact hr), qAx (by simp; omega), qAx hx]
  have hsL := obj_some hs
  have hs3 := obj_of hs (hk2 s hsL (by rw [R.stR]; simp))
  have hls3 := live_of hs3
  have kv := q2.known
  have hst : storeA cfg H2 65 (.ptr s 4 0) v' = some (H2.set s (.cells (q.cells ++ [.ptr m 0 0, v', .int .i64 (-1), ov, .int .u8 0]) 0)) := by
   rw [store1 ty65 hs3 (off := 4) (by simp [SProg.cells]) q2.cells q2.leaf]
   rfl
  have hoX : (H ++ X).length = H.length + X.length := by simp
  have S2 : Stk H2 ρ2 i [newFrame q n []] [.msl oN 0 F.regs.toNat 1 0 (some F.regs.toNat)] (H ++ X).length 0 (some 1) [.int .i64 n, .int .i64 0, .msl oN 0 F.regs.toNat 1 0 (some F.regs.toNat)] := by
   have r1 : upd (upd ρ oN (.regs i 0)) (H ++ X).length (.stack i) (H ++ X).length = .stack i := upd_self _ _ _
   have r2 : upd (upd ρ oN (.regs i 0)) (H ++ X).length (.stack i) oN = .regs i 0 := by rw [upd_ne (by omega)]; exact upd_self _ _ _
   have b1 : Heap.obj ((H ++ X) ++ [AObj.cells [AV.int .i64 n, .int .i64 0, .msl oN 0 F.regs.toNat 1 0 (some F.regs.toNat)] 0]) (H ++ X).length 0 = some [.int .i64 n, .int .i64 0, .msl oN 0 F.regs.toNat 1 0 (some F.regs.toNat)] := by rw [obj_app0, obj_zero]
   have b2 : Heap.obj ((H ++ X) ++ [AObj.cells [AV.int .i64 n, .int .i64 0, .msl oN 0 F.regs.toNat 1 0 (some F.regs.toNat)] 0]) oN 0 = some (intL (newFrame q n []).regs) := obj_leftS _ f2
   refine ⟨obj_of b1 (q5 _ (by omega) (by rw [r1]; simp)), (q4 _ (by omega)).trans r1, rfl, ⟨1, rfl, by simp, .inr rfl⟩, rfl, fun k f rv hf hr => ?_⟩
   cases k with
   | zero =>
    simp only [qBe, qAf] at hf hr
    subst hf hr
    exact ⟨oN, 0, some F.regs.toNat, by rw [hnl], obj_of b2 (q5 _ (by omega) (by rw [r2]; simp)), (q4 _ (by omega)).trans r2⟩
   | succ k => simp at hf
  have R3 := R.grow [newFrame q n []] (v := .msl (H ++ X).length 0 1 3 0 (some 1)) (by omega) (fun x hx _ _ hr => ⟨hk2 x hx hr, hρ2 x hx⟩) q2 ⟨_, _, _, _, _, rfl, by rw [hthr]; exact S2⟩ q6
  have hnext : ({ start0 q (l.take i) with thr := (start0 q (l.take i)).thr ++ [[newFrame q n []]] } : SSt) = start0 q (l.take (i + 1)) := by
   rw [List.take_add_one, hget]
   simp [start0, stacks0]
  rw [hnext] at R3
  have hF3 : Frm H ρ (H2.set s (.cells (q.cells ++ [.ptr m 0 0, v', .int .i64 (-1), ov, .int .u8 0]) 0)) ρ2 := ⟨by simp; omega, fun x hx hr => ⟨by
   rw [qAw (by intro hc; rw [← hc, R.stR] at hr; cases hr)]
   exact hk2 x hx (by rw [hr]; simp), (hρ2 x hx).trans hr⟩⟩
  have := ih (i + 1) hd' (by omega) _ ρ2 v' _ R3
  rw [got_loop]
  simp only [l8_0] at this ⊢
  simp only [start0] at hst hs hs1 hs2 hs3 this
  simp only [SProg.cells, qBr, qBq] at hs hs1 hs2 hs3 hst f1 this
  simp only [List.append_assoc, qBb] at hs2 hls2 q1
  simp only [F8, Tryz.f8, sxAll, cA, arithA, Env.keep, qt_eq, fieldAddrA, Rv.part, TD.isAgg, fillA, setCells, copies, mapO, ↓qAe, Nat.reduceBEq, Nat.reduceAdd, Nat.reduceMul, Nat.reduceLeDiff, Nat.reduceGT, bne, ↓reduceIte, load_ptr, hlt, hixl, hw, hs, hls, kt, f1, sx_callf_l, sx_buildSlice_l, la8_43, la8_44, nilA_ptr, eqb_self, hs1, hls1, hs2, hls2, hls3, q1, kv, hst, group, elems, one_msl, cells_msl, pu27, ty3, ty68, ty65, ty73, ty71, load_ref] at this ⊢
  refine Got.mono (this _ _ _ _ _ _ _ _ _ _) fun x hq => ?_
  obtain ⟨H', ρ', tv', ts', t8', t33', e1, e2, e3⟩ := hq
  exact ⟨H', ρ', tv', ts', t8', t33', e1, e2, hF3.trans e3⟩
end
end Go.Proofs.Sx
namespace Go.Proofs.Sx
open Go.Rv Go.Proofs
attribute [local congr] bind_left got_left
noncomputable section
theorem thr_own : ∀ (l : List SFun) (i : Nat), thr (l.map ownF) i = thr l i
 | [], _ => rfl
 | f :: r, i => by simp only [qAm, thr, thr_own r (i + 1)]; rfl
theorem lastOp_own (F : SFun) : lastOp (ownF F) = lastOp F := by
 unfold lastOp ownF
 simp only [List.getLast?_map]
 cases F.code.getLast? <;> rfl
theorem InsOk.own {p : SProg} {F : SFun} {i : SIns} (h : InsOk p F i) : InsOk (ownP p) (ownF F) (ownI i) where
 op := h.op
 r := h.r
 a := h.a
 bare := h.bare
 b := h.b
 una := h.una
 bin := h.bin
 mem := h.mem
 lock := h.lock
 goal := fun hh => by
  have := h.goal hh
  show 0 <= i.n /\ i.n < ((F.code.map ownI).length : Int)
  rw [qBn]; exact this
 call := fun hh => by
  obtain ⟨h1, G, h2, h3, h4⟩ := h.call hh
  exact ⟨h1, ownF G, by show (p.funs.map ownF)[i.n.toNat]? = _; rw [qBc, h2]; rfl, h3, h4⟩
 args := h.args
theorem FunOk.own {p : SProg} {F : SFun} (h : FunOk p F) : FunOk (ownP p) (ownF F) where
 params := h.params
 thread := h.thread
 regs := h.regs
 len := by have := h.len; simpa [ownF] using this
 last := by rw [lastOp_own]; exact h.last
 code := fun i hi => by
  simp only [ownF, qBl] at hi
  obtain ⟨j, hj, rfl⟩ := hi
  exact (h.code j hj).own
theorem ProgOk.own {p : SProg} (h : ProgOk p) : ProgOk (ownP p) where
 funs := fun F hF => by
  simp only [ownP, qBl] at hF
  obtain ⟨G, hG, rfl⟩ := hF
  exact (h.funs G hG).own
 few := by show (thr (p.funs.map ownF) 0).length <= 16; rw [thr_own]; exact h.few
 count := by have := h.count; simpa [ownP] using this
 size := h.size
theorem startS_ok {p : SProg} (hm : mayP p = true) : SOk (ownP p) 1 (start0 (ownP p) (thr p.funs 0)) /\ ∀ n ∈ thr p.funs 0, ∃ k : Nat, n = (k : Int) /\ ∃ F, (ownP p).funs[k]? = some F := by
 have P := prog_ok hm
 have hl : ∀ n ∈ thr p.funs 0, ∃ k : Nat, n = (k : Int) /\ ∃ F, (ownP p).funs[k]? = some F := fun n hn => by
  obtain ⟨k, h1, F, h2⟩ := thr_mem p.funs 0 n hn
  exact ⟨k, by rw [h1]; simp, ownF F, by show (p.funs.map ownF)[k]? = _; rw [qBc, h2]; rfl⟩
 exact ⟨start0_ok P.own hl P.few, hl⟩
theorem new_yes (p : SProg) (hw : p.wf) (hn : p.nils) (hs : p.small) (hm : mayP p = true) (h : Heap) : ∃ (H' : Heap) (ρ : Nat -> Role) (s : Nat), call cfg 8 [.agg p.cells] h = some (.ret (.tup [.ptr s 0 0, .int .i64 0]), H') /\ At (ownP p) H' ρ s (startS (ownP p)) /\ h.length <= H'.length /\ ∀ x, x < h.length -> H'[x]? = h[x]? /\ ρ x = .other := by
  have P := prog_ok hm
  have h1 := may_eq p h hw
  rw [hm] at h1
  have hcount := P.count
  obtain ⟨H1, ρ1, cv, cs, m1, C⟩ := memNew_eq p.mems p.mz p.mroom (by omega) P.size p.locks.length (by omega) h
  have o1 := own_eq p hn hs H1
  obtain ⟨z, r, t1⟩ := cthreads_eq p (H1 ++ [AObj.cells ((ownP p).cells ++ [.ptr (h.length + 1) 0 0, .lst [] 0 .nil, .int .i64 (-1), .lst [] 0 .nil, .int .u8 0]) 0]) hw
  have hup : ∀ x, x < H1.length -> upd ρ1 H1.length .st x = ρ1 x := fun x hx => upd_ne (by omega)
  have kp : ∀ x, x < H1.length -> (H1 ++ [AObj.cells ((ownP p).cells ++ [.ptr (h.length + 1) 0 0, .lst [] 0 .nil, .int .i64 (-1), .lst [] 0 .nil, .int .u8 0]) 0])[x]? = H1[x]? := fun x hx => qAx hx
  have R0 : Rep (ownP p) (H1 ++ [AObj.cells ((ownP p).cells ++ [.ptr (h.length + 1) 0 0, .lst [] 0 .nil, .int .i64 (-1), .lst [] 0 .nil, .int .u8 0]) 0]) (upd ρ1 H1.length .st) H1.length (start0 (ownP p) ((thr p.funs 0).take 0)) (h.length + 1) h.length cv (.lst [] 0 .nil) (.lst [] 0 .nil) cs [] := {
    st := by rw [obj_app0, obj_zero]; rfl
    stR := upd_self _ _ _
    mem := obj_of C.mem (kp _ (obj_some C.mem))
    memR := (hup _ (obj_some C.mem)).trans C.memR
    held := (kp _ (qAu.1 C.held).1).trans C.held
    heldR := (hup _ (qAu.1 C.held).1).trans C.heldR
    cArr := C.cArr.mono fun x hx hr => ⟨kp x hx, (hup x hx).trans hr⟩
    cLen := by rw [C.cLen]; simp [start0, cells0, ownP]
    cell := fun i v l hv hl => by
      simp only [start0, cells0, ownP, qBc, qAl] at hl
      obtain ⟨mm, hmm, rfl⟩ := hl
      obtain ⟨o, g, cap, e, ho, hr⟩ := C.cell i v mm hv hmm
      exact ⟨o, g, cap, by rw [e]; simp, obj_of ho (kp o (obj_some ho)), (hup o (obj_some ho)).trans hr⟩
    tArr := .inl ⟨rfl, rfl⟩
    tLen := by simp [start0, stacks0]
    stk := fun t v fs hv _ => by simp at hv
    out := .inl ⟨rfl, rfl⟩
    fresh := fun x hx => by
      simp at hx
      rw [upd_ne (by omega)]; exact C.fresh x (by omega) }
  obtain ⟨W, hl⟩ := startS_ok hm
  obtain ⟨⟨o, e', H3⟩, hx, H3', ρ3, tv3, ts3, t8, t33, hq, R3, F3⟩ := frames_loop (ownP p) P.own (thr p.funs 0) z r hl (by have := P.few; omega) H1.length (h.length + 1) h.length cv (.lst [] 0 .nil) cs (thr p.funs 0) 0 (by simp) (by omega) _ _ _ _ R0 (.agg p.cells) (.ref p.cells) .nilPtr (.int .i64 0) (.ptr (h.length + 1) 0 0) (.int .i64 0) .junk (.bool false) (.bool false) .junk
  simp only [qAg] at hq
  obtain ⟨rfl, rfl, rfl⟩ := hq
  obtain ⟨H4, hend, R4, hl4, hk4⟩ := end_eq R3 W (by omega)
  have hstart : endS (ownP p) (start0 (ownP p) (thr p.funs 0)) = startS (ownP p) := by
    unfold startS
    rw [show thr (ownP p).funs 0 = thr p.funs 0 from thr_own p.funs 0]
  rw [hstart] at R4
  have hle := C.le
  have hle3 := F3.le
  simp only [qBb, List.length_singleton] at hle3
  refine ⟨H4, ρ3, H1.length, ?_, ⟨_, _, _, _, _, _, _, R4⟩, by omega, fun x hx => ?_⟩
  · rw [call8]
    simp only [qBo] at hx
    simp only [SProg.cells, qBr, qBq] at h1 m1 o1 t1 hx ⊢
    simp only [F8, k8, Tryz.f8, sxAll, cA, arithA, Env.keep, qt_eq, resultsA, packA, unA, fieldAddrA, loadA, Rv.part, cellsAt, TD.isAgg, buildA, fillA, setCells, lenA, mapO, ↓qAe, Nat.reduceBEq, Nat.reduceAdd, Nat.reduceLeDiff, bne, ↓reduceIte, h1, m1, o1, t1, hx, hend, intL_len, strL_len, pu16, pu24, pu25, pu26, pu28, ty26, ty22, ty23, ty27, ty68, ty61, ty3]
    exact leave_impure pu8
  · obtain ⟨g1, g2⟩ := C.old x hx
    obtain ⟨g3, g4⟩ := F3.keep x (by simp; omega) ((hup x (by omega)).trans g2)
    exact ⟨by rw [hk4 x (by omega), g3, kp x (by omega), g1], g4⟩
end
end Go.Proofs.Sx
