/-
  package step: calls and returns.
-/
import Derived.Test.YtlimadookjcbmaaGreatDoorPtM
import Derived.Test.YtlimadookjcbmaaGreatDoorPtK
set_option linter.unusedSectionVars false
set_option linter.unusedSimpArgs false
set_option linter.unusedVariables false
set_option linter.defProp false
set_option maxHeartbeats 4000000
set_option maxHeartbeats 8000000
set_option maxRecDepth 100000
namespace Go.Proofs.Sx
open Go.Rv Go.Proofs
attribute [local congr] bind_left got_left
noncomputable section
theorem pu69 : cfg.pure 69 = false := rfl
instance t69_2 : TightD cfg 69 (some 2) := tgS rfl
instance t69_4 : TightD cfg 69 (some 4) := tgS rfl
instance t69_5 : TightD cfg 69 (some 5) := tgS rfl
instance t69_6 : TightD cfg 69 (some 6) := tgS rfl
instance t69_7 : TightD cfg 69 (some 7) := tgS rfl
instance t69_8 : TightD cfg 69 (some 8) := tgS rfl
instance t69_9 : TightD cfg 69 (some 9) := tgS rfl
instance t69_10 : TightD cfg 69 (some 10) := tgS rfl
instance t69_11 : TightD cfg 69 (some 11) := tgS rfl
instance t69_12 : TightD cfg 69 (some 12) := tgS rfl
instance t69_13 : TightD cfg 69 (some 13) := tgS rfl
instance t69_14 : TightD cfg 69 (some 14) := tgS rfl
instance t69_15 : TightD cfg 69 (some 15) := tgS rfl
instance t69_16 : TightD cfg 69 (some 16) := tgS rfl
instance t69_17 : TightD cfg 69 (some 17) := tgS rfl
instance t69_18 : TightD cfg 69 (some 18) := tgS rfl
instance t69_19 : TightD cfg 69 (some 19) := tgS rfl
instance t69_20 : TightD cfg 69 (some 20) := tgS rfl
instance t69_21 : TightD cfg 69 (some 21) := tgS rfl
instance t69_22 : TightD cfg 69 (some 22) := tgS rfl
instance t69_23 : TightD cfg 69 (some 23) := tgS rfl
instance t69_24 : TightD cfg 69 (some 24) := tgS rfl
instance t69_25 : TightD cfg 69 (some 25) := tgS rfl
instance t69_26 : TightD cfg 69 (some 26) := tgS rfl
instance t69_27 : TightD cfg 69 (some 27) := tgS rfl
instance t69_28 : TightD cfg 69 (some 28) := tgS rfl
instance t69_29 : TightD cfg 69 (some 29) := tgS rfl
instance t69_30 : TightD cfg 69 (some 30) := tgS rfl
instance t69_31 : TightD cfg 69 (some 31) := tgS rfl
instance t69_32 : TightD cfg 69 (some 32) := tgS rfl
instance t69_33 : TightD cfg 69 (some 33) := tgS rfl
instance t69_34 : TightD cfg 69 (some 34) := tgS rfl
instance t69_35 : TightD cfg 69 (some 35) := tgS rfl
instance t69_36 : TightD cfg 69 (some 36) := tgS rfl
instance t69_37 : TightD cfg 69 (some 37) := tgS rfl
instance t69_38 : TightD cfg 69 (some 38) := tgS rfl
instance t69_39 : TightD cfg 69 (some 39) := tgS rfl
instance t69_40 : TightD cfg 69 (some 40) := tgS rfl
instance t69_41 : TightD cfg 69 (some 41) := tgS rfl
instance t69_42 : TightD cfg 69 (some 42) := tgS rfl
instance t69_43 : TightD cfg 69 (some 43) := tgS rfl
instance t69_44 : TightD cfg 69 (some 44) := tgS rfl
instance t69_45 : TightD cfg 69 (some 45) := tgS rfl
instance t69_46 : TightD cfg 69 (some 46) := tgS rfl
instance t69_47 : TightD cfg 69 (some 47) := tgS rfl
instance t69_48 : TightD cfg 69 (some 48) := tgS rfl
instance t69_50 : TightD cfg 69 (some 50) := tgS rfl
instance t69_51 : TightD cfg 69 (some 51) := tgS rfl
instance t69_52 : TightD cfg 69 (some 52) := tgS rfl
instance t69_2000_51 : TightD cfg 69 (some (2000 + 51)) := tgS rfl
instance t69_n : TightD cfg 69 none := tgN
def B69 (p : List Bool) := cA p Tryz.f69.body
def R69 (p : List Bool) (i : Nat) := Code.region i (cA p Tryz.f69.body) false
def D69 (p : List Bool) (i : Nat) := Code.region i (cA p Tryz.f69.body) true
theorem F69 : (∀ p i, XR cfg 69 (R69 p i) (B69 p) (cA p Tryz.f69.body).toList i false) ∧ cfg.imm 69 20 = true ∧ XR cfg 69 (D69 [tt, tt, ff] 6) (B69 [tt, tt, ff]) ((cA [tt, tt, ff] Tryz.f69.body).toList) 6 true ∧ XR cfg 69 (D69 [tt, tt, tt] 7) (B69 [tt, tt, tt]) ((cA [tt, tt, tt] Tryz.f69.body).toList) 7 true ∧ cfg.imm 69 50 = true ∧ RE cfg 69 [0, 2, 4, 5, 10, 11, 12, 13] ∧ cfg.pure 69 = false := ⟨fun _ _ => xr rfl rfl, by kernel_rfl, xd (by kernel_rfl) rfl rfl, xd (by kernel_rfl) rfl rfl, by kernel_rfl, rE fun _ => rfl, rfl⟩
theorem lo69_49 : cfg.loose 69 49 = lo 69 49 := rfl
theorem lb69_7_49_2 (e : Env) (h : Heap) : looseB cfg 69 (B69 [tt, tt, tt]) e h 2 = (((known (e.get 36)).bind fun x => nilA h x).map fun v => AV.eqb v (e.get 37)).getD false := lb_nilCheck rfl
theorem lb69_7_49_3 (e : Env) (h : Heap) : looseB cfg 69 (B69 [tt, tt, tt]) e h 3 = (((known (e.get 37)).bind fun x => loadA cfg h 76 x).map fun v => AV.eqb v (e.get 38)).getD false := lb_load rfl rfl
theorem la69_49 (e : Env) (h : Heap) : looseAll cfg 69 (B69 [tt, tt, tt]) (some 49) e h = (((((known (e.get 36)).bind fun x => nilA h x).map fun v => AV.eqb v (e.get 37)).getD false) && (((((known (e.get 37)).bind fun x => loadA cfg h 76 x).map fun v => AV.eqb v (e.get 38)).getD false))) := by simp only [looseAll, lo69_49, lo, List.all_cons, List.all_nil, Bool.and_true, lb69_7_49_2, lb69_7_49_3]
def l69_0 : Code := (.seq (R69 [tt, ff, tt, ff, ff, ff] 2) (.seq (.cond (.tmp 13) .skip (.exit 0)) (.seq (.block 1 (.seq (R69 [tt, ff, tt, ff, ff, tt, tt, ff, ff, ff] 3) (R69 [tt, ff, tt, ff, ff, tt, tt, ff, ff, tt] 4))) (R69 [tt, ff, tt, ff, ff, tt, tt, tt] 5))))
def k69 : Code := (.seq (R69 [ff] 0) (.seq (.seq (R69 [tt, ff, ff] 1) (.block 0 (.loop l69_0))) (.seq (D69 [tt, tt, ff] 6) (D69 [tt, tt, tt] 7))))
theorem call69 (x0 : AV) (h : Heap) : call cfg 69 [x0] h = (exec cfg 69 k69 [(0, x0)] h).bind (callEnd cfg 69 h []) := call_at2 (fnat Tryz.func69 (b := k69) (by kernel_rfl) (by kernel_rfl)) rfl rfl
theorem pu72 : cfg.pure 72 = false := rfl
instance t72 {d : Option Nat} : TightD cfg 72 d := ⟨fun _ _ => rfl⟩
def B72 (p : List Bool) := cA p Tryz.f72.body
def R72 (p : List Bool) (i : Nat) := Code.region i (cA p Tryz.f72.body) false
def D72 (p : List Bool) (i : Nat) := Code.region i (cA p Tryz.f72.body) true
theorem F72 : (∀ p i, XR cfg 72 (R72 p i) (B72 p) (cA p Tryz.f72.body).toList i false) ∧ XR cfg 72 (D72 [tt, ff] 1) (B72 [tt, ff]) ((cA [tt, ff] Tryz.f72.body).toList) 1 true ∧ XR cfg 72 (D72 [tt, tt, ff] 2) (B72 [tt, tt, ff]) ((cA [tt, tt, ff] Tryz.f72.body).toList) 2 true ∧ XR cfg 72 (D72 [tt, tt, tt, ff] 3) (B72 [tt, tt, tt, ff]) ((cA [tt, tt, tt, ff] Tryz.f72.body).toList) 3 true ∧ XR cfg 72 (D72 [tt, tt, tt, tt, tt, ff, ff] 5) (B72 [tt, tt, tt, tt, tt, ff, ff]) (pickL (cA [tt, tt, tt, tt, tt, ff, ff] Tryz.f72.body).toList [0, 1, 2, 3, 4, 5, 6, 7, 8, 11, 9, 10, 12, 13]) 5 true ∧ RE cfg 72 [0, 2, 3, 4, 45] ∧ cfg.pure 72 = false := ⟨fun _ _ => xr rfl rfl, xd (by kernel_rfl) rfl rfl, xd (by kernel_rfl) rfl rfl, xd (by kernel_rfl) rfl rfl, xd (by kernel_rfl) rfl rfl, rE fun _ => rfl, rfl⟩
def k72 : Code := (.seq (R72 [ff] 0) (.seq (D72 [tt, ff] 1) (.seq (D72 [tt, tt, ff] 2) (.seq (D72 [tt, tt, tt, ff] 3) (.seq (R72 [tt, tt, tt, tt, ff] 4) (.cond (.tmp 45) (.seq (D72 [tt, tt, tt, tt, tt, ff, ff] 5) (R72 [tt, tt, tt, tt, tt, ff, tt] 6)) .skip))))))
theorem call72 (x0 : AV) (h : Heap) : call cfg 72 [x0] h = (exec cfg 72 k72 [(0, x0)] h).bind (callEnd cfg 72 h []) := call_at2 (fnat Tryz.func72 (b := k72) (by kernel_rfl) (by kernel_rfl)) rfl rfl
theorem Arr.store {H : Heap} {ρ : Nat → Role} {r : Role} {v x y : AV} {xs : List AV} (A : Arr H ρ r v xs) {i : Nat} (hx : xs[i]? = some x) (hy : y.cells = [y]) (hl : y.leaf = true) {st et a b b' : Nat} {z z' : List AV} {td : TD} (hs : cfg.ty st = some ⟨.slice et, a, b, z⟩) (he : cfg.ty et = some ⟨td, 1, b', z'⟩) :
    ∃ o g, indexAddrA cfg H st v (.int .i64 i) = some (.ptr o i g) ∧ H.obj o g = some xs ∧ ρ o = r ∧ xs.drop i = x :: xs.drop (i + 1) ∧
      ∀ {H' : Heap} {ρ' : Nat → Role}, H'[o]? = H[o]? → ρ' o = r → storeA cfg H' et (.ptr o i g) y = some (H'.set o (.cells (xs.set i y) g)) ∧ Arr (H'.set o (.cells (xs.set i y) g)) ρ' r v (xs.set i y) := by
  rcases A with ⟨rfl, rfl⟩ | ⟨o, g, cap, rfl, ho, hr, hcap⟩
  · simp at hx
  · obtain ⟨hi, hx'⟩ := List.getElem?_eq_some_iff.1 hx
    refine ⟨o, g, ?_, ho, hr, ?_, fun {H' ρ'} k k2 => ?_⟩
    · have : ¬ (i : Int) < 0 := by omega
      simp [indexAddrA, hs, he, live_of ho, this, hi]
    · rw [List.drop_eq_getElem_cons hi, hx']
    · have ho' := obj_of ho k
      refine ⟨store1 he ho' hi hy hl, .inr ⟨o, g, cap, by simp, obj_sets ho' g, k2, by simpa using hcap⟩⟩
section
variable {p : SProg} {H : Heap} {ρ : Nat → Role} {s : Nat} {σ : SSt} {t : Nat} {rest : List SFrame} {f : SFrame} {i : SIns} {w m mp : Nat} {cv tv ov : AV} {cs ts : List AV} {o g : Nat} {cap : Option Nat} {rvs c : List AV} (X : Ctx p H ρ s σ t rest f i w m mp cv tv ov cs ts o g cap rvs c) (hpc : f.pc < 1000000)
include X
theorem setStk_set (σ : SSt) (t : Nat) (a b : List SFrame) : setStk (setStk σ t a) t b = setStk σ t b := by simp [setStk]
include hpc
theorem back_eq (ha : RegOk f i.a) (hcl : ∀ x ∈ rest, Calling p x ∧ FrOk p x ∧ ∀ j, insAt p x = some j → RegOk x j.r) (hd : rest.length < 1000000000) (hp : ∀ x ∈ rest, x.pc < 1000000) (h1 : i.op = 13) : ∃ H', call cfg 72 [.ptr w 0 0] H = some (.ret (.tup []), H') ∧ Did p H ρ s t w i (exeS p σ t rest f i) H' := by
  obtain ⟨oR, gR, cp, V, hRr, k2⟩ := X.view
  have hw := V.hw
  have hlw := V.lw
  have hs := X.rep.st
  have hls := live_of hs
  have hg := reg_eq V ha.1 ha.2
  have hlo := V.lo
  obtain ⟨oT, gT, i1, i2, i3, i4, i5⟩ := X.rep.tArr.store (y := .msl o 0 rest.length 3 g cap) X.hv rfl rfl ty69 ty76
  obtain ⟨j1, j2⟩ := i5 rfl i3
  have hlT := live_of i2
  have kt := X.rep.tArr.known
  have l2 : lenA H (.slice 74) (.msl o 0 (rest ++ [f]).length 3 g cap) = some (rest ++ [f]).length := by simp [lenA, hlo]
  have h2 : (((rest ++ [f]).length : Nat) : Int) = (rest.length : Int) + 1 := by simp
  have h4 : IntKind.i64.wrap ((rest.length : Int) + 1 - 1) = rest.length := by rw [wrap_id (by omega) (by omega)]; omega
  obtain ⟨q, q1, q2, q3⟩ := X.stk.room
  have hsl : sliceA cfg H 76 (.msl o 0 (rest ++ [f]).length 3 g cap) none (some (.int .i64 rest.length)) none = some (.msl o 0 rest.length 3 g cap) := by
    simp only [List.length_append, List.length_singleton] at q2
    rcases q3 with rfl | rfl
    · have : rest.length ≤ c.length / 3 := by rw [q1]; simp; omega
      simp [sliceA, ty76, ty74, X.stk.obj, boundA, this]
    · have : rest.length ≤ q := by omega
      simp [sliceA, ty76, ty74, X.stk.obj, boundA, this]
  have htl := (List.getElem?_eq_some_iff.1 X.hv).1
  have S1 : Stk (H.set oT (.cells (ts.set t (.msl o 0 rest.length 3 g cap)) gT)) ρ t rest rvs.dropLast o g cap c := X.stk.pop.mono fun x _ hr => ⟨by
    rw [List.getElem?_set_ne (by intro hc; rw [← hc, i3] at hr; rcases hr with hr | ⟨q, hr⟩ <;> cases hr)], rfl⟩
  have R1 := X.rep.thr t rest (.msl o 0 rest.length 3 g cap) htl (h' := H.set oT (.cells (ts.set t (.msl o 0 rest.length 3 g cap)) gT)) (ρ' := ρ)
    (fun x _ _ _ _ _ hr => ⟨by rw [List.getElem?_set_ne (by intro hc; rw [← hc] at hr; exact hr i3)], rfl⟩) j2 ⟨_, o, g, cap, c, rfl, S1⟩ (fun x hx => X.rep.fresh x (by simpa using hx))
  have hwT : w ≠ oT := fun hc => by have := X.wR; rw [hc, i3] at this; cases this
  have hsT : s ≠ oT := fun hc => by have := X.rep.stR; rw [hc, i3] at this; cases this
  have hw1 := (obj_setn (.cells (ts.set t (.msl o 0 rest.length 3 g cap)) gT) hwT).trans V.hw
  have hlw1 := live_of hw1
  have hs1 := R1.st
  simp only [setStk] at hs1
  have hls1 := live_of hs1
  have hFrm : Frm H ρ (H.set oT (.cells (ts.set t (.msl o 0 rest.length 3 g cap)) gT)) ρ := ⟨by simp, fun x hx hr => ⟨by rw [List.getElem?_set_ne (by intro hc; rw [← hc, i3] at hr; cases hr)], hr⟩⟩
  have hx : exeS p σ t rest f i = (match rest.getLast? with
    | none => (setStk σ t rest, false)
    | some c => (setStk σ t (rest.dropLast ++ [setR c (((insAt p c).map (·.r)).getD 0) (regV f i.a)]), false)) := by rw [exeS]; simp only [h1]; rfl
  rw [hx]
  simp only [workC] at hw hw1
  rcases List.eq_nil_or_concat rest with rfl | ⟨r2, f2, hr2⟩
  · have ht1 := top_none R1 (t := (t : Int)) (.inr (.inr ⟨by omega, by
      simp only [setStk, Int.toNat_natCast]
      rw [List.getElem?_set_self (by rw [← X.rep.tLen]; exact htl)]⟩))
    have e0 := nil_ne_nil (H := H.set oT (.cells (ts.set t (.msl o 0 ([] : List SFrame).length 3 g cap)) gT)) ty84
    refine ⟨_, ?_, ρ, o, 0, g, ⟨_, _, _, _, _, _, _, R1⟩, hw1, X.wR, hFrm⟩
    rw [call72]
    simp only [SProg.cells, List.cons_append, List.nil_append] at hs hs1
    generalize hN : ([] ++ [f] : List SFrame).length = N at *
    generalize hM : ([] : List SFrame).length = M at *
    simp only [F72, k72, Tryz.f72, sxAll, cA, arithA, Env.keep, qt_eq, resultsA, packA, fieldAddrA, Rv.part, TD.isAgg, optA, mapO, ↓Option.bind_some, ↓Option.bind_none, Nat.reduceBEq, Nat.reduceAdd, ↓reduceIte, load_ptr, hw, hlw, hs, hls, hg, kt, i1, i2, i4, hlT, l2, h2, h4, hsl, j1, hw1, hlw1, ht1, e0, known_nilPtr, pu88, pu38, ty89, ty49, ty51, ty71, ty69, ty76, ty3]
    exact leave_impure pu72
  · subst hr2
    have hc2 : (ts.set t (.msl o 0 (r2 ++ [f2]).length 3 g cap))[t]? = some (.msl o 0 (r2 ++ [f2]).length 3 g cap) := List.getElem?_set_self htl
    have hf2 : (setStk σ t (r2 ++ [f2])).thr[t]? = some (r2 ++ [f2]) := by
      simp only [setStk]
      rw [List.getElem?_set_self (by rw [← X.rep.tLen]; exact htl)]
    simp only [List.concat_eq_append] at *
    have ht1 := top_some R1 hc2 S1 (by simp at hd; omega)
    obtain ⟨⟨i2', hi2, hop2⟩, _, hrg⟩ := hcl f2 (by simp)
    have hpc2 := hp f2 (by simp)
    have hr2 := hrg i2' hi2
    obtain ⟨rr, rv, hrv, hrr, ⟨oR2, gR2, cp2, rfl, hR2, hRr2⟩, hcl2, e0, e1, e2, hd2⟩ := S1.last
    have d0 : c.drop (r2.length * 3) = .int .i64 f2.fn :: c.drop (r2.length * 3 + 1) := by
      have := congrArg (List.drop 1) hd2
      simp only [List.drop_drop, List.drop_succ_cons, List.drop_zero] at this
      rw [this, hd2]
    have d1 : c.drop (r2.length * 3 + 1) = .int .i64 f2.pc :: c.drop (r2.length * 3 + 2) := by
      have h1 := congrArg (List.drop 1) hd2
      have h2 := congrArg (List.drop 2) hd2
      simp only [List.drop_drop, List.drop_succ_cons, List.drop_zero] at h1 h2
      rw [h1, h2]
    have d2 : c.drop (r2.length * 3 + 2) = .msl oR2 0 f2.regs.length 1 gR2 cp2 :: c.drop (r2.length * 3 + 3) := by
      have h2 := congrArg (List.drop 2) hd2
      simp only [List.drop_drop, List.drop_succ_cons, List.drop_zero] at h2
      exact h2
    have hins := ins_eq hs1 S1.obj d0 d1 hi2
    have hlo1 := live_of S1.obj
    have hoRo : oR2 ≠ o := fun hc => by rw [hc, X.stk.role] at hRr2; cases hRr2
    have hst := store1 (v := .int .i64 (regV f i.a)) ty2 hR2 (off := i2'.r.toNat) (by have := hr2.2; have := hr2.1; simp [intL]; omega) rfl rfl
    rw [show (intL f2.regs).set i2'.r.toNat (.int .i64 (regV f i.a)) = intL (f2.regs.set i2'.r.toNat (regV f i.a)) by simp [intL]] at hst
    have hix := regs_idx (cp := cp2) hR2 hr2.1 hr2.2
    have ho2 := (obj_setn (.cells (intL (f2.regs.set i2'.r.toNat (regV f i.a))) gR2) (Ne.symm hoRo)).trans S1.obj
    have hlo2 := live_of ho2
    have hst2 := store1 (v := .int .i64 ((f2.pc + 1 : Nat) : Int)) ty3 ho2 (off := r2.length * 3 + 1) (by omega) rfl rfl
    have hwr := wrap_succ (i := f2.pc) (by omega)
    have ne0 := ptr_ne_nil (H := H.set oT (.cells (ts.set t (.msl o 0 (r2 ++ [f2]).length 3 g cap)) gT)) (k := r2.length * 3) ty84 hlo1
    have R2 := R1.top hc2 hf2 rfl S1 ⟨_, hR2⟩ hRr2 ⟨_, e2⟩ (regs' := f2.regs.set i2'.r.toNat (regV f i.a)) (by simp) (f2.pc + 1)
    rw [setStk_set X] at R2
    simp only [List.getLast?_append, List.getLast?_singleton, Option.some_or, List.dropLast_concat, hi2, Option.map_some, Option.getD_some]
    have hwR2 : w ≠ oR2 := fun hc => by have := X.wR; rw [hc, hRr2] at this; cases this
    have hwo : w ≠ o := V.wo
    refine ⟨_, ?_, ρ, o, (r2 ++ [f2]).length * 3, g, ⟨_, _, _, _, _, _, _, R2⟩, by rw [obj_setn _ hwo, obj_setn _ hwR2]; exact hw1, X.wR, hFrm.trans ⟨by simp, fun x hx hr => ⟨by
      rw [List.getElem?_set_ne (by intro hc; rw [← hc, X.stk.role] at hr; cases hr), List.getElem?_set_ne (by intro hc; rw [← hc, hRr2] at hr; cases hr)], hr⟩⟩⟩
    rw [call72]
    simp only [SProg.cells, List.cons_append, List.nil_append] at hs hs1
    generalize hN : (r2 ++ [f2] ++ [f]).length = N at *
    generalize hM : (r2 ++ [f2]).length = M at *
    simp only [SIns.cells] at hins
    simp (config := { maxSteps := 2000000 }) only [F72, k72, Tryz.f72, sxAll, cA, arithA, Env.keep, qt_eq, resultsA, packA, fieldA, fieldAddrA, Rv.part, TD.isAgg, optA, mapO, ↓Option.bind_some, ↓Option.bind_none, Nat.reduceBEq, Nat.reduceAdd, ↓reduceIte, load_ptr, hw, hlw, hs, hls, hg, kt, i1, i2, i4, hlT, l2, h2, h4, hsl, j1, hw1, hlw1, ht1, ne0, hlo1, S1.obj, d1, d2, hins, hix, hst, ho2, hlo2, hst2, hwr, pu88, pu38, pu39, ty89, ty49, ty51, ty71, ty74, ty69, ty76, ty29, ty3]
    exact leave_impure pu72
end
end
end Go.Proofs.Sx
namespace Go.Proofs.Sx
open Go.Rv Go.Proofs
attribute [local congr] bind_left got_left
noncomputable section
theorem own_keep {H H' : Heap} {v : AV} {xs : List AV} (O : Own H.length H H' v xs) : ∀ x, x < H.length → H'[x]? = H[x]? := fun x hx => by
  have := congrArg (·[x]?) O.old
  simpa [List.getElem?_take_of_lt hx] using this
theorem WV.mono {H H' : Heap} {w s t : Nat} {f : SFrame} {i : SIns} {o k g oR gR : Nat} {cp : Option Nat} {c : List AV} (V : WV H w s t f i o k g oR gR cp c) (K : ∀ x, x < H.length → H'[x]? = H[x]?) : WV H' w s t f i o k g oR gR cp c :=
  ⟨obj_of V.hw (K _ (obj_some V.hw)), obj_of V.ho (K _ (obj_some V.ho)), V.d1, V.d2, obj_of V.hr (K _ (obj_some V.hr)), V.wo, V.wr, V.ro⟩
theorem call_args {H : Heap} {w s t : Nat} {f : SFrame} {i : SIns} {o k g oR gR : Nat} {cp : Option Nat} {c : List AV} (V : WV H w s t f i o k g oR gR cp c) (hl : i.args.length < 100000000) (hr : ∀ r ∈ i.args, RegOk f r) : ∀ (ys : List Int) (j : Nat), i.args.drop j = ys → j ≤ i.args.length → ∀ (H' : Heap) v, Own H.length H H' v (intL ((i.args.take j).map (regV f))) → ∀ a b d,
    Got (exec cfg 69 (.loop l69_0) [(0, .ptr w 0 0), (2, v), (4, a), (5, b), (10, .lst (intL i.args) i.z i.room), (11, .int .i64 i.args.length), (12, .int .i64 j), (13, d)] H') (fun q => ∃ v' H'' a' d' e', q = (.exit 0, [(0, .ptr w 0 0), (2, v'), (4, a'), (5, b), (10, .lst (intL i.args) i.z i.room), (11, .int .i64 i.args.length), (12, e'), (13, d')], H'') ∧ Own H.length H H'' v' (intL (i.args.map (regV f)))) := by
  intro ys
  induction ys with
  | nil =>
    intro j hd hj H' v O a b d
    have hle : i.args.length ≤ j := by simpa using hd
    rw [List.take_of_length_le hle] at O
    rw [got_loop]
    simp only [l69_0, F69, Tryz.f69, sxAll, cA, arithA, Env.keep, ↓Option.bind_some, Nat.reduceBEq, ↓reduceIte, at_end hd]
    exact ⟨_, _, _, _, _, rfl, O⟩
  | cons y r ih =>
    intro j hd hj H' v O a b d
    obtain ⟨hlt, hget, hd'⟩ := at_drop hd
    obtain ⟨_, hx, _⟩ := at_drop (intL_drop hd)
    have hlt' : j < i.args.length := by simpa using hlt
    have hmem : y ∈ i.args := List.mem_of_getElem? hget
    have hw := wrap_succ (i := j) (by omega)
    have V' := V.mono (own_keep O)
    have hg := reg_eq V' (hr y hmem).1 (hr y hmem).2
    obtain ⟨v', H'', ha, O'⟩ := O.push (plain_ints _) (ys := [.int .i64 (regV f y)]) (plain_ints [regV f y]) (by simp [mostLen, intL]; omega)
    have hO' : intL ((i.args.take (j + 1)).map (regV f)) = intL ((i.args.take j).map (regV f)) ++ [.int .i64 (regV f y)] := by
      rw [List.take_add_one, hget]; simp [intL]
    have := ih (j + 1) hd' (by omega) H'' v' (by rw [hO']; exact O')
    rw [got_loop]
    simp only [l69_0] at this ⊢
    simp only [F69, Tryz.f69, sxAll, cA, arithA, Env.keep, qt_eq, indexAddrA, loadA, Rv.part, cellsAt, TD.isAgg, fillA, setCells, copies, mapO, ↓Option.bind_some, Nat.reduceBEq, Nat.reduceAdd, Nat.reduceMul, Nat.reduceLeDiff, Nat.reduceGT, bne, ↓reduceIte, hlt, hx, hw, hg, O.kn, O'.kn, ha, elems, group, pu88, ty31, ty3, ty29, ty2] at this ⊢
    exact this _ _ _
section
variable {p : SProg} {H : Heap} {ρ : Nat → Role} {s : Nat} {σ : SSt} {t : Nat} {rest : List SFrame} {f : SFrame} {i : SIns} {w m mp : Nat} {cv tv ov : AV} {cs ts : List AV} {o g : Nat} {cap : Option Nat} {rvs c : List AV} (X : Ctx p H ρ s σ t rest f i w m mp cv tv ov cs ts o g cap rvs c)
include X
theorem callW_eq {F : SFun} (h0 : 0 ≤ i.n) (hF : p.funs[i.n.toNat]? = some F) (hR0 : 0 ≤ F.regs) (hR1 : F.regs ≤ 4096) (hla : (i.args.length : Int) ≤ F.regs) (hr : ∀ r ∈ i.args, RegOk f r) (hd : rest.length < 100000000) (h1 : i.op = 10) :
    ∃ H', call cfg 69 [.ptr w 0 0] H = some (.ret (.tup []), H') ∧ Did p H ρ s t w i (exeS p σ t rest f i) H' := by
  obtain ⟨oR, gR, cp, V, hRr, k2⟩ := X.view
  have hlen : i.args.length < 100000000 := by omega
  obtain ⟨⟨o', e', H1⟩, hx, v1, H1', a1, d1, e1, hq, O⟩ := call_args V hlen hr i.args 0 (by simp) (by omega) H (.lst [] 0 .nil) (by simpa [intL] using Own.nil H) .junk .junk .junk
  simp only [Prod.mk.injEq] at hq
  obtain ⟨rfl, rfl, rfl⟩ := hq
  have k1 := own_keep O
  have hs := X.rep.st
  have hs1 := obj_of hs (k1 s (obj_some hs))
  have hls := live_of hs
  have hls1 := live_of hs1
  have hw := V.hw
  have hlw := V.lw
  have hw1 := obj_of V.hw (k1 w X.wL)
  have hlw1 := live_of hw1
  obtain ⟨n, hn⟩ : ∃ n : Nat, i.n = n := ⟨i.n.toNat, by omega⟩
  have hnt : i.n.toNat = n := by omega
  rw [hnt] at hF
  obtain ⟨N, hN⟩ : ∃ N : Nat, F.regs = N := ⟨F.regs.toNat, by omega⟩
  have hNt : F.regs.toNat = N := by omega
  have hle1 := O.le
  obtain ⟨X2, oN, f1, f2, f3⟩ := frame_eq (n := n) (args := i.args.map (regV f)) hs1 hF hR0 hR1 (by simpa using hla) O.kn (fun X => elems_built (O.b.app X) (plain_ints _))
  rw [hNt] at f1
  have hnl : (newFrame p n (i.args.map (regV f))).regs.length = N := by
    simp [newFrame, hF, hNt]; omega
  have hnfn : (newFrame p n (i.args.map (regV f))).fn = n := rfl
  have hnpc : (newFrame p n (i.args.map (regV f))).pc = 0 := rfl
  have k2' : ∀ x, x < H.length → (H1 ++ X2)[x]? = H[x]? := fun x hx => (List.getElem?_append_left (by omega)).trans (k1 x hx)
  have hoN := obj_some f2
  have hup : ∀ x, x < H.length → upd ρ oN (.regs t (rest ++ [f]).length) x = ρ x := fun x hx => upd_ne (by omega)
  have S1 : Stk (H1 ++ X2) (upd ρ oN (.regs t (rest ++ [f]).length)) t (rest ++ [f]) rvs o g cap c := X.stk.mono fun x hx _ => ⟨k2' x hx, hup x hx⟩
  obtain ⟨v2, H2, ρ2, o2, g2, cap2, c2, q1, q2, q3, q4, q5, q6, q7⟩ := S1.push (f := newFrame p n (i.args.map (regV f))) (rv := .msl oN 0 N 1 0 (some N)) ⟨oN, 0, some N, by rw [hnl], f2, upd_self _ _ _⟩ (by simp; omega) (fun x hx => by
    rw [upd_ne (by omega)]; exact X.rep.fresh x (by simp at hx; omega))
  have hle2 : H.length ≤ (H1 ++ X2).length := by simp; omega
  have k3 : ∀ x, x < H.length → ρ x ≠ .stack t → H2[x]? = H[x]? := fun x hx hr => (q6 x (by omega) (by rw [hup x hx]; exact hr)).trans (k2' x hx)
  have kρ : ∀ x, x < H.length → ρ2 x = ρ x := fun x hx => (q5 x (by omega)).trans (hup x hx)
  have hv2c : v2.cells = [v2] := by rw [q2]; rfl
  have hv2l : v2.leaf = true := by rw [q2]; rfl
  have hv2k : known v2 = some v2 := by rw [q2]; rfl
  have htl := (List.getElem?_eq_some_iff.1 X.hv).1
  obtain ⟨oT, gT, i1, i2, i3, i4, i5⟩ := X.rep.tArr.store (y := v2) X.hv hv2c hv2l ty69 ty76
  have hoT := obj_some i2
  obtain ⟨j1, j2⟩ := i5 (H' := H2) (ρ' := ρ2) (k3 oT hoT (by rw [i3]; simp)) ((kρ oT hoT).trans i3)
  have kt := X.rep.tArr.known
  have hT1 := obj_of i2 (k1 oT hoT)
  have hlT1 := live_of hT1
  have hT2 := obj_leftS X2 hT1
  have hlT2 := live_of hT2
  have hlT3 := live_of (obj_of i2 (k3 oT hoT (by rw [i3]; simp)))
  have i1' : indexAddrA cfg H1 69 tv (.int .i64 t) = some (.ptr oT t gT) := by
    have A1 := X.rep.tArr.mono (h' := H1) (ρ' := ρ) fun x hx hr => ⟨k1 x hx, hr⟩
    obtain ⟨oT', gT', w1, w2, w3, w4, w5⟩ := A1.store (y := v2) X.hv hv2c hv2l ty69 ty76
    rcases X.rep.tArr with ⟨rfl, hnil⟩ | ⟨oo, gg, cc, rfl, ho, _, _⟩
    · rw [hnil] at htl; simp at htl
    · rw [w1]
      simp only [indexAddrA, ty69] at w1 i1
      have hh : ¬ (t : Int) < 0 := by omega
      simp [hh, live_of ho, htl] at i1
      simp [hh, live_of (obj_of ho (k1 oo (obj_some ho))), htl] at w1
      obtain ⟨rfl, rfl⟩ := i1
      obtain ⟨rfl, rfl⟩ := w1
      rfl
  have hxe : exeS p σ t rest f i = (setStk σ t (rest ++ [f] ++ [newFrame p n (i.args.map (regV f))]), false) := by rw [exeS]; simp only [h1, hnt]; rfl
  rw [hxe]
  have S2 : Stk (H2.set oT (.cells (ts.set t v2) gT)) ρ2 t (rest ++ [f] ++ [newFrame p n (i.args.map (regV f))]) (rvs ++ [.msl oN 0 N 1 0 (some N)]) o2 g2 cap2 c2 := q3.mono fun x hx hr => ⟨by
    rw [List.getElem?_set_ne (by intro hc; rw [← hc, (kρ oT hoT).trans i3] at hr; rcases hr with hr | ⟨q, hr⟩ <;> cases hr)], rfl⟩
  have R3 := X.rep.thr t (rest ++ [f] ++ [newFrame p n (i.args.map (regV f))]) v2 htl (h' := H2.set oT (.cells (ts.set t v2) gT)) (ρ' := ρ2)
    (fun x hx _ _ hr1 _ hr3 => ⟨by rw [List.getElem?_set_ne (by intro hc; rw [← hc] at hr3; exact hr3 i3)]; exact k3 x hx hr1, kρ x hx⟩) j2 ⟨_, o2, g2, cap2, c2, q2, S2⟩ (fun x hx => q7 x (by simpa using hx))
  have hwT : w ≠ oT := fun hc => by have := X.wR; rw [hc, i3] at this; cases this
  refine ⟨_, ?_, ρ2, o, rest.length * 3, g, ⟨_, _, _, _, _, _, _, R3⟩, (obj_setn _ hwT).trans (obj_of V.hw (k3 w X.wL (by rw [X.wR]; simp))), (kρ w X.wL).trans X.wR, ⟨by simp; omega, fun x hx hr => ⟨by
    rw [List.getElem?_set_ne (by intro hc; rw [← hc, i3] at hr; cases hr)]; exact k3 x hx (by rw [hr]; simp), (kρ x hx).trans hr⟩⟩⟩
  rw [call69]
  rw [hnfn, hnpc] at q1
  simp only [workC, hn] at hw hw1
  simp only [SProg.cells, List.cons_append, List.nil_append] at hs hs1
  simp only [Int.natCast_zero] at hx q1
  generalize hM : (rest ++ [f]).length = M at *
  simp (config := { maxSteps := 2000000 }) only [F69, k69, Tryz.f69, sxAll, cA, Env.keep, qt_eq, resultsA, packA, fieldAddrA, Rv.part, TD.isAgg, fillA, setCells, copies, mapO, ↓Option.bind_some, ↓Option.bind_none, Nat.reduceBEq, Nat.reduceAdd, Nat.reduceMul, Nat.reduceLeDiff, Nat.reduceGT, bne, ↓reduceIte, load_ptr, hw, hlw, lenA_lst, intL_len, hx, hw1, hlw1, hs1, hls1, kt, i1', i4, hT1, hlT1, f1, sx_callf_l, la69_49, nilA_ptr, eqb_self, hT2, hlT2, hlT3, O.kn, q1, elems, group, hv2k, j1, pu30, ty89, ty49, ty51, ty71, ty69, ty76, ty74, ty31, ty3, ty2]
  exact leave_impure pu69
end
end
end Go.Proofs.Sx
namespace Go.Proofs.Sx
open Go.Rv Go.Proofs
attribute [local congr] bind_left got_left
noncomputable section
theorem pu41 : cfg.pure 41 = true := rfl
instance t41 {d : Option Nat} : TightD cfg 41 d := ⟨fun _ _ => rfl⟩
def B41 (p : List Bool) := cA p Tryz.f41.body
def R41 (p : List Bool) (i : Nat) := Code.region i (cA p Tryz.f41.body) false
theorem F41 : (∀ p i, XR cfg 41 (R41 p i) (B41 p) (cA p Tryz.f41.body).toList i false) ∧ RE cfg 41 [0, 2, 4] ∧ cfg.pure 41 = true := ⟨fun _ _ => xr rfl rfl, rE fun _ => rfl, rfl⟩
def k41 : Code := (.seq (R41 [ff] 0) (.seq (.seq (R41 [tt, ff, ff] 1) (.cond (.tmp 4) (.seq (R41 [tt, ff, tt, ff, ff] 2) .ret) .skip)) (.seq (R41 [tt, tt, ff] 3) .ret)))
theorem call41 (x0 : AV) (h : Heap) : call cfg 41 [x0] h = (exec cfg 41 k41 [(0, x0)] h).bind (callEnd cfg 41 h [.tmp 2]) := call_at2 (fnat Tryz.func41 (b := k41) (by kernel_rfl) (by kernel_rfl)) rfl rfl
theorem pu33 : cfg.pure 33 = true := rfl
instance t33 {d : Option Nat} : TightD cfg 33 d := ⟨fun _ _ => rfl⟩
def B33 (p : List Bool) := cA p Tryz.f33.body
def R33 (p : List Bool) (i : Nat) := Code.region i (cA p Tryz.f33.body) false
theorem F33 : (∀ p i, XR cfg 33 (R33 p i) (B33 p) (cA p Tryz.f33.body).toList i false) ∧ RE cfg 33 [0, 2, 4] ∧ cfg.pure 33 = true := ⟨fun _ _ => xr rfl rfl, rE fun _ => rfl, rfl⟩
def k33 : Code := (.seq (R33 [ff] 0) (.seq (.seq (R33 [tt, ff, ff] 1) (.cond (.tmp 4) (.seq (R33 [tt, ff, tt, ff, ff] 2) .ret) .skip)) (.seq (R33 [tt, tt, ff] 3) .ret)))
theorem call33 (x0 : AV) (h : Heap) : call cfg 33 [x0] h = (exec cfg 33 k33 [(0, x0)] h).bind (callEnd cfg 33 h [.tmp 2]) := call_at2 (fnat Tryz.func33 (b := k33) (by kernel_rfl) (by kernel_rfl)) rfl rfl
theorem pu32 : cfg.pure 32 = true := rfl
instance t32 {d : Option Nat} : TightD cfg 32 d := ⟨fun _ _ => rfl⟩
def B32 (p : List Bool) := cA p Tryz.f32.body
def R32 (p : List Bool) (i : Nat) := Code.region i (cA p Tryz.f32.body) false
def D32 (p : List Bool) (i : Nat) := Code.region i (cA p Tryz.f32.body) true
theorem F32 : (∀ p i, XR cfg 32 (R32 p i) (B32 p) (cA p Tryz.f32.body).toList i false) ∧ GO cfg 32 (B32 [tt, tt, ff, ff]) 2 14 ∧ XR cfg 32 (D32 [tt, tt, tt, tt, ff] 5) (B32 [tt, tt, tt, tt, ff]) ((cA [tt, tt, tt, tt, ff] Tryz.f32.body).toList) 5 true ∧ GO cfg 32 (B32 [tt, tt, tt, tt, tt, ff]) 3 37 ∧ RE cfg 32 [0, 1, 4, 5, 6, 8, 20] ∧ cfg.pure 32 = true := ⟨fun _ _ => xr rfl rfl, gO (by kernel_rfl), xd (by kernel_rfl) rfl rfl, gO (by kernel_rfl), rE fun _ => rfl, rfl⟩
def k32 : Code := (.seq (R32 [ff] 0) (.seq (R32 [tt, ff] 1) (.seq (.seq (R32 [tt, tt, ff, ff] 2) (.cond (.tmp 20) (.seq (R32 [tt, tt, ff, tt, ff, ff] 3) .ret) .skip)) (.seq (R32 [tt, tt, tt, ff] 4) (.seq (D32 [tt, tt, tt, tt, ff] 5) (.seq (R32 [tt, tt, tt, tt, tt, ff] 6) .ret))))))
theorem call32 (x0 x1 : AV) (h : Heap) : call cfg 32 [x0, x1] h = (exec cfg 32 k32 [(0, x0), (1, x1)] h).bind (callEnd cfg 32 h [.tmp 4]) := call_at2 (fnat Tryz.func32 (b := k32) (by kernel_rfl) (by kernel_rfl)) rfl rfl
theorem pu37 : cfg.pure 37 = true := rfl
instance t37 {d : Option Nat} : TightD cfg 37 d := ⟨fun _ _ => rfl⟩
def B37 (p : List Bool) := cA p Tryz.f37.body
def R37 (p : List Bool) (i : Nat) := Code.region i (cA p Tryz.f37.body) false
theorem F37 : (∀ p i, XR cfg 37 (R37 p i) (B37 p) (cA p Tryz.f37.body).toList i false) ∧ cfg.imm 37 15 = true ∧ RE cfg 37 [0, 2, 3, 4, 6, 7, 8, 12] ∧ cfg.pure 37 = true := ⟨fun _ _ => xr rfl rfl, by kernel_rfl, rE fun _ => rfl, rfl⟩
def l37_0 : Code := (.seq (R37 [tt, tt, ff, tt, ff, ff, ff] 3) (.seq (.cond (.tmp 8) .skip (.exit 0)) (.seq (.block 1 (.seq (R37 [tt, tt, ff, tt, ff, ff, tt, tt, ff, ff, ff] 4) (.seq (R37 [tt, tt, ff, tt, ff, ff, tt, tt, ff, ff, tt, ff] 5) (.cond (.tmp 12) (R37 [tt, tt, ff, tt, ff, ff, tt, tt, ff, ff, tt, tt, ff] 6) .skip)))) (R37 [tt, tt, ff, tt, ff, ff, tt, tt, tt] 7))))
def k37 : Code := (.seq (R37 [ff] 0) (.seq (R37 [tt, ff] 1) (.seq (.seq (R37 [tt, tt, ff, ff] 2) (.block 0 (.loop l37_0))) (.seq (R37 [tt, tt, tt, ff] 8) .ret))))
theorem call37 (x0 : AV) (h : Heap) : call cfg 37 [x0] h = (exec cfg 37 k37 [(0, x0)] h).bind (callEnd cfg 37 h [.tmp 2]) := call_at2 (fnat Tryz.func37 (b := k37) (by kernel_rfl) (by kernel_rfl)) rfl rfl
instance t56 {d : Option Nat} : TightD cfg 56 d := ⟨fun _ _ => rfl⟩
def B56 (p : List Bool) := cA p Tryz.f56.body
def R56 (p : List Bool) (i : Nat) := Code.region i (cA p Tryz.f56.body) false
theorem F56 : (∀ p i, XR cfg 56 (R56 p i) (B56 p) (cA p Tryz.f56.body).toList i false) ∧ RE cfg 56 [0, 2] ∧ cfg.pure 56 = true := ⟨fun _ _ => xr rfl rfl, rE fun _ => rfl, rfl⟩
def k56 : Code := (.seq (R56 [ff] 0) (.seq (R56 [tt, ff] 1) .ret))
theorem call56 (x0 : AV) (h : Heap) : call cfg 56 [x0] h = (exec cfg 56 k56 [(0, x0)] h).bind (callEnd cfg 56 h [.tmp 2]) := call_at2 (fnat Tryz.func56 (b := k56) (by kernel_rfl) (by kernel_rfl)) rfl rfl
theorem pu86 : cfg.pure 86 = true := rfl
instance t86 {d : Option Nat} : TightD cfg 86 d := ⟨fun _ _ => rfl⟩
def B86 (p : List Bool) := cA p Tryz.f86.body
def R86 (p : List Bool) (i : Nat) := Code.region i (cA p Tryz.f86.body) false
theorem F86 : (∀ p i, XR cfg 86 (R86 p i) (B86 p) (cA p Tryz.f86.body).toList i false) ∧ RE cfg 86 [0, 1, 4, 5, 7, 8, 9, 16] ∧ cfg.pure 86 = true := ⟨fun _ _ => xr rfl rfl, rE fun _ => rfl, rfl⟩
def l86_0 : Code := (.seq (R86 [tt, ff, tt, ff, ff, ff] 2) (.seq (.cond (.tmp 9) .skip (.exit 0)) (.seq (.block 1 (.seq (R86 [tt, ff, tt, ff, ff, tt, tt, ff, ff, ff] 3) (.seq (R86 [tt, ff, tt, ff, ff, tt, tt, ff, ff, tt, ff] 4) (.cond (.tmp 16) (.seq (R86 [tt, ff, tt, ff, ff, tt, tt, ff, ff, tt, tt, ff, ff] 5) .ret) .skip)))) (R86 [tt, ff, tt, ff, ff, tt, tt, tt] 6))))
def k86 : Code := (.seq (R86 [ff] 0) (.seq (.seq (R86 [tt, ff, ff] 1) (.block 0 (.loop l86_0))) (.seq (R86 [tt, tt, ff] 7) .ret)))
theorem call86 (x0 x1 : AV) (h : Heap) : call cfg 86 [x0, x1] h = (exec cfg 86 k86 [(0, x0), (1, x1)] h).bind (callEnd cfg 86 h [.tmp 4]) := call_at2 (fnat Tryz.func86 (b := k86) (by kernel_rfl) (by kernel_rfl)) rfl rfl
theorem pu55 : cfg.pure 55 = true := rfl
instance t55 {d : Option Nat} : TightD cfg 55 d := ⟨fun _ _ => rfl⟩
def B55 (p : List Bool) := cA p Tryz.f55.body
def R55 (p : List Bool) (i : Nat) := Code.region i (cA p Tryz.f55.body) false
theorem F55 : (∀ p i, XR cfg 55 (R55 p i) (B55 p) (cA p Tryz.f55.body).toList i false) ∧ RE cfg 55 [0, 1, 4] ∧ cfg.pure 55 = true := ⟨fun _ _ => xr rfl rfl, rE fun _ => rfl, rfl⟩
def k55 : Code := (.seq (R55 [ff] 0) (.seq (R55 [tt, ff] 1) .ret))
theorem call55 (x0 x1 : AV) (h : Heap) : call cfg 55 [x0, x1] h = (exec cfg 55 k55 [(0, x0), (1, x1)] h).bind (callEnd cfg 55 h [.tmp 4]) := call_at2 (fnat Tryz.func55 (b := k55) (by kernel_rfl) (by kernel_rfl)) rfl rfl
theorem pu31 : cfg.pure 31 = false := rfl
instance t31 {d : Option Nat} : TightD cfg 31 d := ⟨fun _ _ => rfl⟩
def B31 (p : List Bool) := cA p Tryz.f31.body
def R31 (p : List Bool) (i : Nat) := Code.region i (cA p Tryz.f31.body) false
theorem F31 : (∀ p i, XR cfg 31 (R31 p i) (B31 p) (cA p Tryz.f31.body).toList i false) ∧ RE cfg 31 [0, 2, 8, 18] ∧ cfg.pure 31 = false := ⟨fun _ _ => xr rfl rfl, rE fun _ => rfl, rfl⟩
def k31 : Code := (.block 0 (.seq (R31 [ff, ff] 0) (.cond (.tmp 2) .skip (.seq (R31 [ff, tt, tt, ff] 1) (.cond (.tmp 8) (R31 [ff, tt, tt, tt, ff] 2) (.seq (R31 [ff, tt, tt, tt, tt, ff] 3) (.cond (.tmp 18) (R31 [ff, tt, tt, tt, tt, tt, ff] 4) .skip)))))))
theorem call31 (x0 : AV) (h : Heap) : call cfg 31 [x0] h = (exec cfg 31 k31 [(0, x0)] h).bind (callEnd cfg 31 h []) := call_at2 (fnat Tryz.func31 (b := k31) (by kernel_rfl) (by kernel_rfl)) rfl rfl
theorem top_cases (σ : SSt) (t : Int) : (t < 0 ∨ (σ.thr.length : Int) ≤ t ∨ (0 ≤ t ∧ σ.thr[t.toNat]? = some [])) ∨ ∃ (n : Nat) (rest : List SFrame) (f : SFrame), t = n ∧ σ.thr[n]? = some (rest ++ [f]) ∧ σ.top n = some f := by
  by_cases h1 : t < 0
  · exact .inl (.inl h1)
  by_cases h2 : (σ.thr.length : Int) ≤ t
  · exact .inl (.inr (.inl h2))
  obtain ⟨l, hl⟩ : ∃ l, σ.thr[t.toNat]? = some l := ⟨_, List.getElem?_eq_getElem (by omega)⟩
  rcases List.eq_nil_or_concat l with rfl | ⟨rest, f, rfl⟩
  · exact .inl (.inr (.inr ⟨by omega, hl⟩))
  · simp only [List.concat_eq_append] at hl
    exact .inr ⟨t.toNat, rest, f, by omega, hl, by simp [SSt.top, hl]⟩
theorem top_no {σ : SSt} {n : Nat} (h : (σ.thr.length : Int) ≤ n ∨ σ.thr[n]? = some []) : σ.top n = none := by
  rcases h with h | h
  · unfold SSt.top; rw [List.getElem?_eq_none (by omega)]; rfl
  · unfold SSt.top; rw [h]; rfl
theorem SOk.at {p : SProg} {K : Nat} {σ : SSt} (W : SOk p K σ) {n : Nat} {rest : List SFrame} {f : SFrame} (h : σ.thr[n]? = some (rest ++ [f])) : ∃ F i, p.funs[f.fn]? = some F ∧ F.code[f.pc]? = some i ∧ insAt p f = some i ∧ (f.regs.length : Int) = F.regs := by
  obtain ⟨F, i, h1, h2, h3⟩ := W.fr _ (List.mem_of_getElem? h) f (by simp)
  exact ⟨F, i, h1, h2, by simp [insAt, h1, h2], h3⟩
theorem SOk.depth {p : SProg} {K : Nat} {σ : SSt} (W : SOk p K σ) {n : Nat} {rest : List SFrame} {f : SFrame} (h : σ.thr[n]? = some (rest ++ [f])) : rest.length < K := by
  have := W.deep _ (List.mem_of_getElem? h)
  simp at this; omega
section
variable {p : SProg} {H : Heap} {ρ : Nat → Role} {s : Nat} {σ : SSt} {m mp : Nat} {cv tv ov : AV} {cs ts : List AV} (R : Rep p H ρ s σ m mp cv tv ov cs ts) {K : Nat} (W : SOk p K σ) (hK : K < 100000000)
include R
theorem threads_eq : call cfg 41 [.ptr s 0 0] H = some (.ret (.int .i64 σ.thr.length), H) := by
  have hs := R.st
  have hls := live_of hs
  have e0 := ptr_eq_nil (H := H) (k := 0) ty51 hls
  have kt := R.tArr.known
  have lt := R.tArr.len 76
  simp only [SProg.cells, List.cons_append, List.nil_append] at hs
  rw [call41, ← R.tLen]
  simp only [F41, k41, Tryz.f41, sxAll, cA, Env.keep, qt_eq, resultsA, packA, fieldAddrA, Rv.part, TD.isAgg, ↓Option.bind_some, Nat.reduceBEq, Nat.reduceAdd, ↓reduceIte, load_ptr, hs, hls, e0, kt, lt, ty71, ty69]
  exact leave_kept rfl rfl
theorem ending_eq : call cfg 33 [.ptr s 0 0] H = some (.ret (.int .u8 σ.ending), H) := by
  have hs := R.st
  have hls := live_of hs
  have e0 := ptr_eq_nil (H := H) (k := 0) ty51 hls
  simp only [SProg.cells, List.cons_append, List.nil_append] at hs
  rw [call33]
  simp only [F33, k33, Tryz.f33, sxAll, cA, Env.keep, qt_eq, resultsA, packA, fieldAddrA, Rv.part, TD.isAgg, ↓Option.bind_some, Nat.reduceBEq, Nat.reduceAdd, ↓reduceIte, load_ptr, hs, hls, e0, ty71, ty5]
  exact leave_kept rfl rfl
theorem topv {n : Nat} {rest : List SFrame} {f : SFrame} (h : σ.thr[n]? = some (rest ++ [f])) (hd : rest.length < 1000000000) : ∃ o g cap rvs c, ts[n]? = some (.msl o 0 (rest ++ [f]).length 3 g cap) ∧ Stk H ρ n (rest ++ [f]) rvs o g cap c ∧
    call cfg 38 [.ptr s 0 0, .int .i64 n] H = some (.ret (.ptr o (rest.length * 3) g), H) ∧ H.obj o g = some c ∧ c.drop (rest.length * 3) = .int .i64 f.fn :: c.drop (rest.length * 3 + 1) ∧ c.drop (rest.length * 3 + 1) = .int .i64 f.pc :: c.drop (rest.length * 3 + 2) := by
  obtain ⟨v, hv⟩ : ∃ v, ts[n]? = some v := ⟨_, List.getElem?_eq_getElem (by rw [R.tLen]; exact (List.getElem?_eq_some_iff.1 h).1)⟩
  obtain ⟨rvs, o, g, cap, c, rfl, S⟩ := R.stk n v _ hv h
  obtain ⟨rr, rv, rfl, hrr, _, hcl, k0, k1, k2, hd2⟩ := S.last
  refine ⟨o, g, cap, _, c, hv, S, top_some R hv S hd, S.obj, ?_, ?_⟩
  · have := congrArg (List.drop 1) hd2
    simp only [List.drop_drop, List.drop_succ_cons, List.drop_zero] at this
    rw [this, hd2]
  · have h1 := congrArg (List.drop 1) hd2
    have h2 := congrArg (List.drop 2) hd2
    simp only [List.drop_drop, List.drop_succ_cons, List.drop_zero] at h1 h2
    rw [h1, h2]
include W hK
theorem can_eq (t : Int) : call cfg 32 [.ptr s 0 0, .int .i64 t] H = some (.ret (.bool (decide (0 ≤ t) && canB p σ t.toNat)), H) := by
  have hs := R.st
  have hls := live_of hs
  rw [call32]
  rcases top_cases σ t with hn | ⟨n, rest, f, rfl, hf, htop⟩
  · have ht := top_none R hn
    have e0 := nil_eq_nil (H := H) ty84
    have hB : (decide (0 ≤ t) && canB p σ t.toNat) = false := by
      rcases hn with h | h | h
      · simp; omega
      · rw [Bool.and_eq_false_iff]; right
        unfold canB; rw [top_no (.inl (by omega))]
      · rw [Bool.and_eq_false_iff]; right
        unfold canB; rw [top_no (.inr h.2)]
    rw [hB]
    simp only [F32, k32, Tryz.f32, sxAll, cA, Env.keep, qt_eq, resultsA, packA, mapO, ↓Option.bind_some, Nat.reduceBEq, ↓reduceIte, ht, e0, known_nilPtr, pu38]
    exact leave_kept rfl rfl
  · have hd := W.depth hf
    obtain ⟨o, g, cap, rvs, c, hv, S, ht, ho, d0, d1⟩ := topv R hf (by omega)
    obtain ⟨F, i, hF, hi, hia, _⟩ := W.at hf
    have hlo := live_of ho
    have e0 := ptr_eq_nil (H := H) (k := rest.length * 3) ty84 hlo
    have hB : (decide (0 ≤ (n : Int)) && canB p σ (n : Int).toNat) = (σ.ending == 0 && canI σ i) := by
      unfold canB
      simp [htop, hia]
    rw [hB]
    have hins := ins_eq hs ho d0 d1 hia
    by_cases hz : σ.ending = 0
    · have hz' : (σ.ending == 0) = true := by simp [hz]
      have hm := memHolder_eq (obj_leftS [.cells i.cells 0] R.mem) ((List.getElem?_append_left (List.getElem?_eq_some_iff.1 R.held).1).trans R.held) i.n
      have hs1 := obj_leftS [.cells i.cells 0] hs
      have hls1 := live_of hs1
      simp only [SProg.cells, List.cons_append, List.nil_append] at hs hs1
      simp only [SIns.cells] at hins hm hs1 hls1
      rw [hz', Bool.true_and]
      unfold canI
      cases h7 : i.op == 7 with
      | true =>
        simp only [F32, k32, Tryz.f32, sxAll, cA, arithA, Env.keep, qt_eq, resultsA, packA, storeA, unA, fieldAddrA, Rv.part, TD.isAgg, setCells, mapO, ↓Option.bind_some, Nat.reduceBEq, Nat.reduceAdd, Nat.reduceLeDiff, bne, ↓reduceIte, load_ptr, hs, hls, ht, e0, hz, hins, hs1, hls1, hm, h7, pu38, pu39, pu57, ty71, ty5, ty49, ty65, ty2]
        have : (whoHas σ.held i.n).isNone = !(whoHas σ.held i.n).isSome := by cases whoHas σ.held i.n <;> rfl
        rw [this]
        exact leave_pure rfl (take_one _ _) rfl
      | false =>
        simp only [F32, k32, Tryz.f32, sxAll, cA, arithA, Env.keep, qt_eq, resultsA, packA, storeA, fieldAddrA, Rv.part, TD.isAgg, setCells, mapO, ↓Option.bind_some, Nat.reduceBEq, Nat.reduceAdd, Nat.reduceLeDiff, bne, ↓reduceIte, load_ptr, hs, hls, ht, e0, hz, hins, hs1, hls1, hm, h7, pu38, pu39, pu57, ty71, ty5, ty49, ty65, ty2]
        exact leave_pure rfl (take_one _ _) rfl
    · have hz' : (σ.ending == 0) = false := by simp [hz]
      simp only [SProg.cells, List.cons_append, List.nil_append] at hs
      rw [hz', Bool.false_and]
      simp only [F32, k32, Tryz.f32, sxAll, cA, arithA, Env.keep, qt_eq, resultsA, packA, fieldAddrA, Rv.part, TD.isAgg, mapO, ↓Option.bind_some, Nat.reduceBEq, Nat.reduceAdd, bne, ↓reduceIte, load_ptr, hs, hls, ht, e0, hz', pu38, ty71, ty5]
      exact leave_kept rfl rfl
end
def natL (l : List Nat) : List Int := l.map fun n : Nat => (n : Int)
theorem Rep.kept {p : SProg} {H H' : Heap} {ρ : Nat → Role} {s : Nat} {σ : SSt} {m mp : Nat} {cv tv ov : AV} {cs ts : List AV} (R : Rep p H ρ s σ m mp cv tv ov cs ts) (hl : H.length ≤ H'.length) (K : ∀ x, x < H.length → H'[x]? = H[x]?) : Rep p H' ρ s σ m mp cv tv ov cs ts :=
  R.mono hl (fun o ho _ _ => ⟨K o ho, rfl⟩) fun o ho => R.fresh o (by omega)
section
variable {p : SProg} {H : Heap} {ρ : Nat → Role} {s : Nat} {σ : SSt} {m mp : Nat} {cv tv ov : AV} {cs ts : List AV} (R : Rep p H ρ s σ m mp cv tv ov cs ts) {K : Nat} (W : SOk p K σ) (hK : K < 100000000)
include R W hK
theorem able_loop : ∀ (d j : Nat), j + d = σ.thr.length → ∀ (H' : Heap) v, Own H.length H H' v (intL (natL ((List.range j).filter (canB p σ)))) → ∀ a b e f,
    Got (exec cfg 37 (.loop l37_0) [(0, .ptr s 0 0), (2, a), (3, v), (4, b), (6, .int .i64 σ.thr.length), (7, .int .i64 j), (8, e), (12, f)] H') (fun q => ∃ v' H'' b' e' f', q = (.exit 0, [(0, .ptr s 0 0), (2, a), (3, v'), (4, b'), (6, .int .i64 σ.thr.length), (7, .int .i64 σ.thr.length), (8, e'), (12, f')], H'') ∧ Own H.length H H'' v' (intL (natL (ableL p σ)))) := by
  intro d
  induction d with
  | zero =>
    intro j hj H' v O a b e f
    have hlt : ((j : Int) < (σ.thr.length : Int)) = False := by simp; omega
    obtain rfl : j = σ.thr.length := by omega
    rw [got_loop]
    simp only [l37_0, F37, Tryz.f37, sxAll, cA, arithA, Env.keep, ↓Option.bind_some, Nat.reduceBEq, ↓reduceIte, Nat.lt_irrefl]
    exact ⟨_, _, _, _, _, rfl, O⟩
  | succ d ih =>
    intro j hj H' v O a b e f
    have hlt : (j < σ.thr.length) = True := by simp; omega
    have hf := W.few
    have hw := wrap_succ (i := j) (by omega)
    have R' := R.kept O.le (own_keep O)
    have hc := can_eq R' W hK (j : Int)
    simp only [Int.toNat_natCast, show decide (0 ≤ (j : Int)) = true by simp, Bool.true_and] at hc
    rw [got_loop]
    cases hb : canB p σ j with
    | true =>
      rw [hb] at hc
      have hl0 : ((List.range j).filter (canB p σ)).length ≤ j := by
        have := List.length_filter_le (canB p σ) (List.range j); simpa using this
      obtain ⟨v', H'', ha, O'⟩ := O.push (plain_ints _) (ys := [.int .i64 j]) (plain_ints [(j : Int)]) (by simp [mostLen, intL, natL]; omega)
      have hO' : intL (natL ((List.range (j + 1)).filter (canB p σ))) = intL (natL ((List.range j).filter (canB p σ))) ++ [.int .i64 j] := by
        rw [List.range_succ, List.filter_append]; simp [hb, natL, intL]
      have := ih (j + 1) (by omega) H'' v' (by rw [hO']; exact O')
      simp only [l37_0] at this ⊢
      simp only [F37, Tryz.f37, sxAll, cA, arithA, Env.keep, qt_eq, fillA, setCells, copies, mapO, ↓Option.bind_some, Nat.reduceBEq, Nat.reduceAdd, Nat.reduceMul, Nat.reduceLeDiff, Nat.reduceGT, bne, ↓reduceIte, hlt, hc, hw, O.kn, O'.kn, ha, elems, group, pu32, ty31, ty3] at this ⊢
      exact this _ _ _ _
    | false =>
      rw [hb] at hc
      have hO' : intL (natL ((List.range (j + 1)).filter (canB p σ))) = intL (natL ((List.range j).filter (canB p σ))) := by
        rw [List.range_succ, List.filter_append]; simp [hb, natL, intL]
      have := ih (j + 1) (by omega) H' v (by rw [hO']; exact O)
      simp only [l37_0] at this ⊢
      simp only [F37, Tryz.f37, sxAll, cA, arithA, Env.keep, qt_eq, mapO, ↓Option.bind_some, Nat.reduceBEq, ↓reduceIte, hlt, hc, hw, pu32] at this ⊢
      exact this _ _ _ _
theorem able_eq : ∃ z r, call cfg 37 [.ptr s 0 0] H = some (.ret (.lst (intL (natL (ableL p σ))) z r), H) := by
  obtain ⟨⟨o, e', H'⟩, hx, v', H'', b', e1, f', hq, O⟩ := able_loop R W hK σ.thr.length 0 (by omega) H (.lst [] 0 .nil) (by simpa [intL, natL] using Own.nil H) (.lst [] 0 .nil) .junk .junk .junk
  simp only [Prod.mk.injEq] at hq
  obtain ⟨rfl, rfl, rfl⟩ := hq
  simp only [Int.natCast_zero] at hx
  rw [call37]
  have ht := threads_eq R
  simp only [F37, k37, Tryz.f37, sxAll, cA, Env.keep, qt_eq, resultsA, packA, mapO, ↓Option.bind_some, Nat.reduceBEq, ↓reduceIte, ht, hx, O.kn, pu41]
  rcases O.leave (plain_ints _) (C := cfg) (f := 37) rfl with ⟨h1, h2⟩ | h2
  · refine ⟨0, .nil, ?_⟩
    have : intL (natL (ableL p σ)) = [] := h1
    rw [this]; exact h2
  · exact ⟨1, .open, h2⟩
end
theorem endx_eq {H : Heap} {o g n : Nat} {cap : Option Nat} {c : List AV} (ho : H.obj o g = some c) : call cfg 56 [.msl o 0 n 3 g cap] H = some (.ret (.bool (decide (0 < n))), H) := by
  have hl : lenA H (.slice 74) (.msl o 0 n 3 g cap) = some n := by simp [lenA, live_of ho]
  rw [call56]
  simp only [F56, k56, Tryz.f56, sxAll, cA, arithA, Env.keep, resultsA, packA, ↓Option.bind_some, Nat.reduceBEq, ↓reduceIte, hl, ty76]
  rw [show decide ((n : Int) > 0) = decide (0 < n) by simp]
  exact leave_kept rfl rfl
section
variable {p : SProg} {H : Heap} {ρ : Nat → Role} {s : Nat} {σ : SSt} {m mp : Nat} {cv tv ov : AV} {cs ts : List AV} (R : Rep p H ρ s σ m mp cv tv ov cs ts) {K : Nat} (W : SOk p K σ) (hK : K < 100000000)
include R W
theorem indexFFr_loop : ∀ (ys : List (List SFrame)) (i : Nat), σ.thr.drop i = ys → i ≤ σ.thr.length → ∀ c d t e,
    Got (exec cfg 86 (.loop l86_0) [(0, tv), (1, .clo 56 []), (4, c), (5, d), (7, .int .i64 σ.thr.length), (8, .int .i64 i), (9, t), (16, e)] H) (fun q => q.2.2 = H ∧
      ((q.1 = .exit 0 ∧ idxP (fun l : List SFrame => !l.isEmpty) ys i = -1) ∨ (q.1 = .ret ∧ q.2.1.get 4 = .int .i64 (idxP (fun l : List SFrame => !l.isEmpty) ys i)))) := by
  intro ys
  have kt := R.tArr.known
  induction ys with
  | nil =>
    intro i hd hi c d t e
    rw [got_loop]
    simp only [l86_0, F86, Tryz.f86, sxAll, cA, arithA, Env.keep, ↓Option.bind_some, Nat.reduceBEq, ↓reduceIte, at_end hd]
    exact ⟨trivial, .inl ⟨trivial, rfl⟩⟩
  | cons y r ih =>
    intro i hd hi c d t e
    obtain ⟨hlt, hget, hd'⟩ := at_drop hd
    have hlt' : i < σ.thr.length := by simpa using hlt
    have hf := W.few
    have hw := wrap_succ (i := i) (by omega)
    obtain ⟨v, hv⟩ : ∃ v, ts[i]? = some v := ⟨_, List.getElem?_eq_getElem (by rw [R.tLen]; exact hlt')⟩
    obtain ⟨rvs, o, g, cap, cc, rfl, S⟩ := R.stk i v y hv hget
    obtain ⟨oT, gT, i1, i2, i3, i4⟩ := R.tArr.at (i := (i : Int)) (by omega) hv ty69 ty76
    simp only [Int.toNat_natCast] at i1 i4
    have hx := endx_eq (n := y.length) (cap := cap) S.obj
    have hb : decide (0 < y.length) = !y.isEmpty := by cases y <;> simp
    rw [hb] at hx
    rw [got_loop]
    cases he : !y.isEmpty with
    | true =>
      rw [he] at hx
      simp only [l86_0, F86, Tryz.f86, sxAll, cA, arithA, Env.keep, qt_eq, Rv.part, TD.isAgg, mapO, ↓Option.bind_some, Nat.reduceBEq, ↓reduceIte, load_ptr, hlt, kt, i1, i2, i4, hx, ty76]
      exact ⟨trivial, .inr ⟨trivial, by simp [idxP, he]⟩⟩
    | false =>
      rw [he] at hx
      have := ih (i + 1) hd' (by omega)
      simp only [l86_0] at this ⊢
      simp only [F86, Tryz.f86, sxAll, cA, arithA, Env.keep, qt_eq, Rv.part, TD.isAgg, mapO, ↓Option.bind_some, Nat.reduceBEq, ↓reduceIte, load_ptr, hlt, kt, i1, i2, i4, hx, hw, idxP, he, ty76] at this ⊢
      exact this _ _ _ _
theorem containsFFr_eq : call cfg 55 [tv, .clo 56 []] H = some (.ret (.bool (!σ.thr.all (·.isEmpty))), H) := by
  have kt := R.tArr.known
  have lt := R.tArr.len 76
  rw [R.tLen] at lt
  have h1 : call cfg 86 [tv, .clo 56 []] H = some (.ret (.int .i64 (idxP (fun l : List SFrame => !l.isEmpty) σ.thr 0)), H) := by
    obtain ⟨⟨o, e', h'⟩, hx, hh, hq⟩ := indexFFr_loop R W σ.thr 0 (by simp) (by omega) (.int .i64 0) .junk .junk .junk
    simp only [Int.natCast_zero] at hx hh hq
    subst hh
    rw [call86]
    rcases hq with ⟨rfl, h1⟩ | ⟨rfl, h1⟩
    · simp only [F86, k86, Tryz.f86, sxAll, cA, Env.keep, resultsA, packA, ↓Option.bind_some, Nat.reduceBEq, ↓reduceIte, kt, lt, hx, h1, ty69]
      exact leave_kept rfl rfl
    · simp only [F86, k86, Tryz.f86, sxAll, cA, Env.keep, resultsA, packA, ↓Option.bind_some, Nat.reduceBEq, ↓reduceIte, kt, lt, hx, h1, ty69]
      exact leave_kept rfl rfl
  have hb : (!σ.thr.all (·.isEmpty)) = σ.thr.any fun l => !l.isEmpty := by
    simp [List.not_all_eq_any_not]
  rw [call55, hb]
  simp only [F55, k55, Tryz.f55, sxAll, cA, arithA, Env.keep, qt_eq, resultsA, packA, mapO, ↓Option.bind_some, Nat.reduceBEq, ↓reduceIte, kt, h1, pu86, idxP_any]
  exact leave_kept rfl rfl
include hK
theorem end_eq : ∃ H', call cfg 31 [.ptr s 0 0] H = some (.ret (.tup []), H') ∧ Rep p H' ρ s (endS p σ) m mp cv tv ov cs ts ∧ H'.length = H.length ∧ ∀ x, x ≠ s → H'[x]? = H[x]? := by
  have hs := R.st
  have hls := live_of hs
  have kt := R.tArr.known
  have hcf := containsFFr_eq R W
  have hst : ∀ e : Int, storeA cfg H 5 (.ptr s 7 0) (.int .u8 e) = some (H.set s (.cells (p.cells ++ [.ptr m 0 0, tv, .int .i64 σ.last, ov, .int .u8 e]) 0)) := fun e => by
    rw [store1 (v := .int .u8 e) ty5 hs (off := 7) (by simp [SProg.cells]) rfl rfl]
    rfl
  have hne : ∀ e : Int, ∀ x, x ≠ s → (H.set s (.cells (p.cells ++ [.ptr m 0 0, tv, .int .i64 σ.last, ov, .int .u8 e]) 0))[x]? = H[x]? := fun e x hx => List.getElem?_set_ne (Ne.symm hx)
  rw [call31]
  unfold endS
  by_cases hz : σ.ending = 0
  · rw [if_neg (by simp [hz])]
    cases ha : σ.thr.all (·.isEmpty) with
    | true =>
      rw [ha] at hcf
      have hO := R.own σ.last 1
      refine ⟨_, ?_, by simpa using hO, by simp, hne 1⟩
      have h1 := hst 1
      simp only [SProg.cells, List.cons_append, List.nil_append] at hs h1 ⊢
      simp only [F31, k31, Tryz.f31, sxAll, cA, arithA, Env.keep, qt_eq, resultsA, packA, unA, fieldAddrA, Rv.part, TD.isAgg, mapO, ↓Option.bind_some, Nat.reduceBEq, Nat.reduceAdd, bne, ↓reduceIte, load_ptr, hs, hls, hz, kt, hcf, h1, pu55, ty71, ty5, ty69]
      exact leave_impure pu31
    | false =>
      rw [ha] at hcf
      obtain ⟨z, r, hab⟩ := able_eq R W hK
      by_cases hl : ableL p σ = []
      · have hO := R.own σ.last 3
        refine ⟨_, ?_, by simpa [hl] using hO, by simp, hne 3⟩
        have h1 := hst 3
        have hl0 : (((intL (natL (ableL p σ))).length : Int) == 0) = true := by rw [hl]; rfl
        simp only [SProg.cells, List.cons_append, List.nil_append] at hs h1 ⊢
        simp only [F31, k31, Tryz.f31, sxAll, cA, arithA, Env.keep, qt_eq, resultsA, packA, unA, fieldAddrA, Rv.part, TD.isAgg, mapO, ↓Option.bind_some, Nat.reduceBEq, Nat.reduceAdd, bne, ↓reduceIte, load_ptr, hs, hls, hz, kt, hcf, hab, lenA_lst, hl0, h1, pu55, pu37, ty71, ty5, ty69, ty31]
        exact leave_impure pu31
      · refine ⟨H, ?_, by simpa [hl] using R, rfl, fun _ _ => rfl⟩
        have hl0 : (((intL (natL (ableL p σ))).length : Int) == 0) = false := by
          have := List.length_pos_iff.2 hl
          simp [intL, natL]; omega
        simp only [SProg.cells, List.cons_append, List.nil_append] at hs ⊢
        simp only [F31, k31, Tryz.f31, sxAll, cA, arithA, Env.keep, qt_eq, resultsA, packA, unA, fieldAddrA, Rv.part, TD.isAgg, mapO, ↓Option.bind_some, Nat.reduceBEq, Nat.reduceAdd, bne, ↓reduceIte, load_ptr, hs, hls, hz, kt, hcf, hab, lenA_lst, hl0, pu55, pu37, ty71, ty5, ty69, ty31]
        exact leave_impure pu31
  · rw [if_pos hz]
    have hz' : (σ.ending == 0) = false := by simp [hz]
    refine ⟨H, ?_, R, rfl, fun _ _ => rfl⟩
    simp only [SProg.cells, List.cons_append, List.nil_append] at hs ⊢
    simp only [F31, k31, Tryz.f31, sxAll, cA, arithA, Env.keep, qt_eq, resultsA, packA, fieldAddrA, Rv.part, TD.isAgg, ↓Option.bind_some, Nat.reduceBEq, Nat.reduceAdd, bne, ↓reduceIte, load_ptr, hs, hls, hz', ty71, ty5]
    exact leave_impure pu31
end
end
end Go.Proofs.Sx
namespace Go.Proofs.Sx
open Go.Rv Go.Proofs
noncomputable section
structure InsOk (p : SProg) (F : SFun) (i : SIns) : Prop where
  op : 1 ≤ i.op ∧ i.op ≤ 13
  r : (i.op = 1 ∨ i.op = 2 ∨ i.op = 3 ∨ i.op = 4 ∨ i.op = 5 ∨ i.op = 10) → 0 ≤ i.r ∧ i.r < F.regs
  a : (i.op = 2 ∨ i.op = 3 ∨ i.op = 4 ∨ i.op = 9 ∨ i.op = 12 ∨ i.op = 13) → 0 ≤ i.a ∧ i.a < F.regs
  bare : (i.op = 5 ∨ i.op = 6) → i.a = -1 ∨ 0 ≤ i.a ∧ i.a < F.regs
  b : (i.op = 4 ∨ i.op = 6) → 0 ≤ i.b ∧ i.b < F.regs
  una : i.op = 3 → i.n = 5 ∨ i.n = 6
  bin : i.op = 4 → 7 ≤ i.n ∧ i.n ≤ 17
  mem : (i.op = 5 ∨ i.op = 6) → 0 ≤ i.n ∧ i.n < p.mems.length
  lock : (i.op = 7 ∨ i.op = 8) → 0 ≤ i.n ∧ i.n < p.locks.length
  goal : (i.op = 11 ∨ i.op = 12) → 0 ≤ i.n ∧ i.n < F.code.length
  call : i.op = 10 → 0 ≤ i.n ∧ ∃ G, p.funs[i.n.toNat]? = some G ∧ G.thread = false ∧ (i.args.length : Int) = G.params
  args : i.op = 10 → ∀ r ∈ i.args, 0 ≤ r ∧ r < F.regs
theorem inB_iff {n r : Int} : inB n r = true ↔ 0 ≤ r ∧ r < n := by simp [inB]
theorem num_call {p : SProg} {F : SFun} {i : SIns} (h : numberB p F (true, false, false, false, 6) i = true) : 0 ≤ i.n ∧ ∃ G, p.funs[i.n.toNat]? = some G ∧ G.thread = false ∧ (i.args.length : Int) = G.params := by
  have h3' : (decide (0 ≤ i.n) && (match p.funs[i.n.toNat]? with
    | some g => !g.thread && decide ((i.args.length : Int) = g.params)
    | none => false)) = true := h
  rw [Bool.and_eq_true, decide_eq_true_eq] at h3'
  obtain ⟨q1, q2⟩ := h3'
  cases hg : p.funs[i.n.toNat]? with
  | none => rw [hg] at q2; cases q2
  | some g =>
    rw [hg] at q2
    simp only [Bool.and_eq_true, Bool.not_eq_true', decide_eq_true_eq] at q2
    exact ⟨q1, g, rfl, q2.1, q2.2⟩
theorem args_call {i : SIns} {n : Int} (h : (readsOf (true, false, false, false, 6) i).all (inB n) = true) : ∀ r ∈ i.args, 0 ≤ r ∧ r < n := fun r hr => by
  have : r ∈ readsOf (true, false, false, false, 6) i := by simp [readsOf, optL, hr]
  exact inB_iff.1 (List.all_eq_true.1 h r this)
theorem ins_ok {p : SProg} {F : SFun} {i : SIns} (h : mayInsB p F i = true) : InsOk p F i := by
  unfold mayInsB at h
  simp only [Bool.and_eq_true] at h
  obtain ⟨⟨⟨h1, _⟩, h3⟩, h4, h5⟩ := h
  unfold legal at h1
  simp only [Bool.and_eq_true, decide_eq_true_eq] at h1
  have hk : i.op = 1 ∨ i.op = 2 ∨ i.op = 3 ∨ i.op = 4 ∨ i.op = 5 ∨ i.op = 6 ∨ i.op = 7 ∨ i.op = 8 ∨ i.op = 9 ∨ i.op = 10 ∨ i.op = 11 ∨ i.op = 12 ∨ i.op = 13 := by omega
  have hw : (legal i.op && (rowOf i.op).1) = true → 0 ≤ i.r ∧ i.r < F.regs := fun hl => by
    unfold writesOf at h5
    rw [if_pos hl] at h5
    simpa [inB_iff] using h5
  rcases hk with hk | hk | hk | hk | hk | hk | hk | hk | hk | hk | hk | hk | hk <;> rw [hk] at h3 h4 hw <;>
    simp (config := { decide := true }) only [rowOf, opRows, numberB, readsOf, optL, wantA', if_true, if_false] at h3 h4 hw <;>
    exact {
      op := by omega
      r := fun h => by first | exact hw (by decide) | omega
      a := fun h => by first | (exfalso; omega) | (simp [inB_iff] at h4 <;> omega)
      bare := fun h => by
        first
          | (exfalso; omega)
          | (by_cases ha : i.a = -1
             · exact .inl ha
             · right
               simp [inB_iff, ha] at h4 <;> omega)
      b := fun h => by
        first
          | (exfalso; omega)
          | (by_cases ha : i.a = -1 <;> simp [inB_iff, ha] at h4 <;> omega)
      una := fun h => by first | (exfalso; omega) | simpa [rowOf, opRows, numberB] using h3
      bin := fun h => by first | (exfalso; omega) | simpa [rowOf, opRows, numberB] using h3
      mem := fun h => by first | (exfalso; omega) | simpa [rowOf, opRows, numberB] using h3
      lock := fun h => by first | (exfalso; omega) | simpa [rowOf, opRows, numberB] using h3
      goal := fun h => by first | (exfalso; omega) | simpa [rowOf, opRows, numberB] using h3
      call := fun h => by first | (exfalso; omega) | exact num_call (F := F) h3
      args := fun h => by
        first | (exfalso; omega) | exact args_call h4 }
structure FunOk (p : SProg) (F : SFun) : Prop where
  params : 0 ≤ F.params ∧ F.params ≤ 8
  thread : F.thread = true → F.params ≤ 0
  regs : F.params ≤ F.regs ∧ F.regs ≤ 4096
  len : 1 ≤ F.code.length ∧ F.code.length ≤ 16384
  last : lastOp F = 11 ∨ lastOp F = 13
  code : ∀ i ∈ F.code, InsOk p F i
theorem fun_ok {p : SProg} {F : SFun} (h : mayFunB p F = true) : FunOk p F := by
  unfold mayFunB at h
  simp only [Bool.and_eq_true, Bool.not_eq_true', decide_eq_false_iff_not, List.all_eq_true, Bool.or_eq_true, beq_iff_eq] at h
  obtain ⟨h1, h2, h3, h4, h5, h6, h7, h8, h9⟩ := h
  refine ⟨by omega, fun ht => ?_, by omega, by omega, h8, fun i hi => ins_ok (h9 i hi)⟩
  rw [ht] at h3
  simpa using h3
structure ProgOk (p : SProg) : Prop where
  funs : ∀ F ∈ p.funs, FunOk p F
  few : (thr p.funs 0).length ≤ 16
  count : p.mems.length + p.locks.length + p.funs.length ≤ 256
  size : ∀ m ∈ p.mems, 1 ≤ m.size ∧ m.size ≤ 1024
theorem prog_ok {p : SProg} (h : mayP p = true) : ProgOk p := by
  unfold mayP at h
  simp only [Bool.and_eq_true, List.all_eq_true, Bool.not_eq_true', decide_eq_false_iff_not] at h
  obtain ⟨h1, h2, h3, h4⟩ := h
  refine ⟨fun F hF => fun_ok (h4 F hF), by omega, ?_, fun m hm => ?_⟩
  · unfold namedB at h1
    simp only [Bool.and_eq_true, decide_eq_true_eq] at h1
    have := h1.1
    simp only [namesOf, List.length_append, List.length_map] at this
    omega
  · have := List.any_eq_false.1 h3 m hm
    simp [badSize] at this
    omega
theorem ProgOk.at {p : SProg} (P : ProgOk p) {f : SFrame} {i : SIns} (h : insAt p f = some i) : ∃ F, p.funs[f.fn]? = some F ∧ F.code[f.pc]? = some i ∧ FunOk p F ∧ InsOk p F i := by
  obtain ⟨F, h1, h2⟩ := Option.bind_eq_some_iff.1 h
  have hF := P.funs F (List.mem_of_getElem? h1)
  exact ⟨F, h1, h2, hF, hF.code i (List.mem_of_getElem? h2)⟩
theorem FunOk.next {p : SProg} {F : SFun} (P : FunOk p F) {pc : Nat} {i : SIns} (h : F.code[pc]? = some i) (h1 : i.op ≠ 11) (h2 : i.op ≠ 13) : ∃ j, F.code[pc + 1]? = some j := by
  have hlt := (List.getElem?_eq_some_iff.1 h).1
  by_cases hl : pc + 1 < F.code.length
  · exact ⟨_, List.getElem?_eq_getElem hl⟩
  · have hlast : F.code.getLast? = some i := by
      rw [List.getLast?_eq_getElem?, show F.code.length - 1 = pc by omega, h]
    have := P.last
    unfold lastOp at this
    rw [hlast] at this
    simp only [Option.map_some, Option.getD_some] at this
    omega
theorem SOk.up {p : SProg} {K K' : Nat} {σ : SSt} (W : SOk p K σ) (h : K ≤ K') : SOk p K' σ :=
  ⟨W.fr, W.call, fun l hl => Nat.le_trans (W.deep l hl) h, Nat.le_trans W.outs h, W.few⟩
theorem SOk.stk {p : SProg} {K : Nat} {σ : SSt} (W : SOk p K σ) {t : Nat} {l : List SFrame} (h1 : ∀ f ∈ l, FrOk p f) (h2 : ∀ f ∈ l.dropLast, Calling p f) (h3 : l.length ≤ K) : SOk p K (setStk σ t l) where
  fr := fun x hx f hf => by
    rcases List.mem_or_eq_of_mem_set hx with h | rfl
    · exact W.fr x h f hf
    · exact h1 f hf
  call := fun x hx f hf => by
    rcases List.mem_or_eq_of_mem_set hx with h | rfl
    · exact W.call x h f hf
    · exact h2 f hf
  deep := fun x hx => by
    rcases List.mem_or_eq_of_mem_set hx with h | rfl
    · exact W.deep x h
    · exact h3
  outs := W.outs
  few := by simpa [setStk] using W.few
theorem SOk.same {p : SProg} {K : Nat} {σ σ' : SSt} (W : SOk p K σ) (h1 : σ'.thr = σ.thr) (h2 : σ'.out = σ.out) : SOk p K σ' :=
  ⟨by rw [h1]; exact W.fr, by rw [h1]; exact W.call, by rw [h1]; exact W.deep, by rw [h2]; exact W.outs, by rw [h1]; exact W.few⟩
theorem SOk.printed {p : SProg} {K : Nat} {σ : SSt} (W : SOk p K σ) (v : Int) : SOk p (K + 1) { σ with out := σ.out ++ [v] } :=
  ⟨W.fr, W.call, fun l hl => Nat.le_succ_of_le (W.deep l hl), by have := W.outs; simp; omega, W.few⟩
theorem endS_cases (p : SProg) (σ : SSt) : (endS p σ).cells = σ.cells ∧ (endS p σ).held = σ.held ∧ (endS p σ).thr = σ.thr ∧ (endS p σ).last = σ.last ∧ (endS p σ).out = σ.out := by
  unfold endS
  split
  · exact ⟨rfl, rfl, rfl, rfl, rfl⟩
  · split
    · exact ⟨rfl, rfl, rfl, rfl, rfl⟩
    · split <;> exact ⟨rfl, rfl, rfl, rfl, rfl⟩
theorem exe_ok {p : SProg} (P : ProgOk p) {K : Nat} {σ : SSt} (W : SOk p K σ) {t : Nat} {rest : List SFrame} {f : SFrame} {i : SIns} (hf : σ.thr[t]? = some (rest ++ [f])) (hi : insAt p f = some i) : SOk p (K + 1) (exeS p σ t rest f i).1 := by
  obtain ⟨F, hF, hc, FO, IO⟩ := P.at hi
  have hmem := List.mem_of_getElem? hf
  have W1 := W.up (Nat.le_succ K)
  have hfr := W.fr _ hmem
  have hcl := W.call _ hmem
  have hdp := W.deep _ hmem
  simp only [List.length_append, List.length_singleton] at hdp
  rw [List.dropLast_concat] at hcl
  obtain ⟨F', i', hF', _, hreg⟩ := hfr f (by simp)
  rw [hF] at hF'; injection hF' with hF'; subst hF'
  have top : ∀ {σ' : SSt} (pc' : Nat) (regs' : List Int), SOk p (K + 1) σ' → regs'.length = f.regs.length → (∃ j, F.code[pc']? = some j) → SOk p (K + 1) (setStk σ' t (rest ++ [⟨f.fn, pc', regs'⟩])) := fun pc' regs' W' hr ⟨j, hj⟩ =>
    W'.stk (fun x hx => by
      rcases List.mem_append.1 hx with h | h
      · exact hfr x (by simp [h])
      · simp only [List.mem_singleton] at h
        subst h
        exact ⟨F, j, hF, hj, by rw [hr]; exact hreg⟩) (by rw [List.dropLast_concat]; exact hcl) (by simp; omega)
  have bec : ∀ (v : Option Int), i.op ≠ 11 → i.op ≠ 13 → SOk p (K + 1) (becomesS σ t rest f i.r v).1 := fun v h1 h2 => by
    cases v with
    | none => exact W1
    | some v => exact top (f.pc + 1) _ W1 (by simp) (FO.next hc h1 h2)
  have hop := IO.op
  have hk : i.op = 1 ∨ i.op = 2 ∨ i.op = 3 ∨ i.op = 4 ∨ i.op = 5 ∨ i.op = 6 ∨ i.op = 7 ∨ i.op = 8 ∨ i.op = 9 ∨ i.op = 10 ∨ i.op = 11 ∨ i.op = 12 ∨ i.op = 13 := by omega
  have on : ∀ {σ' : SSt}, SOk p (K + 1) σ' → i.op ≠ 11 → i.op ≠ 13 → SOk p (K + 1) (setStk σ' t (rest ++ [onward f])) := fun W' h1 h2 => top (f.pc + 1) f.regs W' rfl (FO.next hc h1 h2)
  rcases hk with h | h | h | h | h | h | h | h | h | h | h | h | h
  · rw [exeS]; simp only [h]; exact bec (some i.n) (by omega) (by omega)
  · rw [exeS]; simp only [h]; exact bec (some (regV f i.a)) (by omega) (by omega)
  · rw [exeS]; simp only [h]; exact bec (unaryF i.n (regV f i.a)) (by omega) (by omega)
  · rw [exeS]; simp only [h]; exact bec (binaryF i.n (regV f i.a) (regV f i.b)) (by omega) (by omega)
  · rw [exeS]; simp only [h]; exact bec (cellOf σ i.n (placeOf f i)) (by omega) (by omega)
  · rw [exeS]; simp only [h]
    show SOk p (K + 1) (if (cellOf σ i.n (placeOf f i)).isSome = true then (setStk (setCell σ i.n (placeOf f i) (regV f i.b)) t (rest ++ [onward f]), false) else (σ, true)).1
    split
    · exact on (W1.same rfl rfl) (by omega) (by omega)
    · exact W1
  · rw [exeS]; simp only [h]
    show SOk p (K + 1) (if (whoHas σ.held i.n).isNone = true then (setStk { σ with held := σ.held ++ [(i.n, (t : Int))] } t (rest ++ [onward f]), false) else (σ, true)).1
    split
    · exact on (W1.same rfl rfl) (by omega) (by omega)
    · exact W1
  · rw [exeS]; simp only [h]
    show SOk p (K + 1) (if whoHas σ.held i.n = some (t : Int) then (setStk { σ with held := letGo σ.held i.n } t (rest ++ [onward f]), false) else (σ, true)).1
    split
    · exact on (W1.same rfl rfl) (by omega) (by omega)
    · exact W1
  · rw [exeS]; simp only [h]; exact on (W.printed _) (by omega) (by omega)
  · rw [exeS]; simp only [h]
    show SOk p (K + 1) (setStk σ t (rest ++ [f] ++ [newFrame p i.n.toNat (i.args.map (regV f))]))
    obtain ⟨_, G, hG, _, hGp⟩ := IO.call h
    have GO := P.funs G (List.mem_of_getElem? hG)
    refine W1.stk (fun x hx => ?_) ?_ (by simp; omega)
    · rcases List.mem_append.1 hx with h' | h'
      · exact hfr x h'
      · simp only [List.mem_singleton] at h'
        subst h'
        refine ⟨G, G.code[0]'(by have := GO.len; omega), hG, List.getElem?_eq_getElem _, ?_⟩
        have := GO.regs; have := GO.params
        simp [newFrame, hG]
        omega
    · rw [List.dropLast_concat]
      intro x hx
      rcases List.mem_append.1 hx with h' | h'
      · exact hcl x h'
      · simp only [List.mem_singleton] at h'
        subst h'
        exact ⟨i, hi, h⟩
  · rw [exeS]; simp only [h]
    have := IO.goal (.inl h)
    exact top i.n.toNat f.regs W1 rfl ⟨_, List.getElem?_eq_getElem (by omega)⟩
  · rw [exeS]; simp only [h]
    show SOk p (K + 1) (setStk σ t (rest ++ [if regV f i.a = 0 then { f with pc := i.n.toNat } else onward f]))
    have := IO.goal (.inr h)
    split
    · exact top i.n.toNat f.regs W1 rfl ⟨_, List.getElem?_eq_getElem (by omega)⟩
    · exact on W1 (by omega) (by omega)
  · rw [exeS]; simp only [h]
    show SOk p (K + 1) (match rest.getLast? with
      | none => (setStk σ t rest, false)
      | some c => (setStk σ t (rest.dropLast ++ [setR c (((insAt p c).map SIns.r).getD 0) (regV f i.a)]), false)).1
    rcases List.eq_nil_or_concat rest with rfl | ⟨r2, f2, rfl⟩
    · exact W1.stk (fun x hx => by cases hx) (fun x hx => by cases hx) (by simp)
    · simp only [List.concat_eq_append] at *
      simp only [List.getLast?_append, List.getLast?_singleton, Option.some_or, List.dropLast_concat]
      obtain ⟨i2, hi2, hop2⟩ := hcl f2 (by simp)
      obtain ⟨F2, hF2, hc2, FO2, IO2⟩ := P.at hi2
      obtain ⟨F3, _, hF3, _, hreg2⟩ := hfr f2 (by simp)
      rw [hF2] at hF3; injection hF3 with hF3; subst hF3
      obtain ⟨j, hj⟩ := FO2.next hc2 (by omega) (by omega)
      refine W1.stk (fun x hx => ?_) ?_ (by simp at hdp ⊢; omega)
      · rcases List.mem_append.1 hx with h' | h'
        · exact hfr x (by simp [h'])
        · simp only [List.mem_singleton] at h'
          subst h'
          exact ⟨F2, j, hF2, hj, by simp [setR]; exact hreg2⟩
      · rw [List.dropLast_concat]
        exact fun x hx => hcl x (by simp [hx])
theorem step_ok {p : SProg} (P : ProgOk p) {K : Nat} {σ : SSt} (W : SOk p K σ) (t : Nat) : SOk p (K + 1) (stepS p σ t) := by
  unfold stepS
  cases ht : σ.top t with
  | none => exact W.up (Nat.le_succ K)
  | some f =>
    simp only
    cases hi : insAt p f with
    | none => exact W.up (Nat.le_succ K)
    | some i =>
      simp only
      obtain ⟨l, hl, hl2⟩ := Option.bind_eq_some_iff.1 ht
      rcases List.eq_nil_or_concat l with rfl | ⟨rest, f', rfl⟩
      · cases hl2
      · simp only [List.concat_eq_append, List.getLast?_append, List.getLast?_singleton, Option.some_or, Option.some.injEq] at hl2 hl
        subst hl2
        have hg : σ.thr.getD t [] = rest ++ [f'] := by rw [List.getD_eq_getElem?_getD, hl]; rfl
        rw [hg, List.dropLast_concat]
        have E := exe_ok P W hl hi
        obtain ⟨_, _, e3, _, e5⟩ := endS_cases p { (exeS p σ t rest f' i).1 with last := (t : Int), ending := if (exeS p σ t rest f' i).2 then 2 else (exeS p σ t rest f' i).1.ending }
        exact E.same e3 e5
end
end Go.Proofs.Sx
namespace Go.Proofs.Sx
open Go.Rv Go.Proofs
attribute [local congr] bind_left got_left
noncomputable section
theorem pu40 : cfg.pure 40 = true := rfl
instance t40 {d : Option Nat} : TightD cfg 40 d := ⟨fun _ _ => rfl⟩
def B40 (p : List Bool) := cA p Tryz.f40.body
def R40 (p : List Bool) (i : Nat) := Code.region i (cA p Tryz.f40.body) false
theorem F40 : (∀ p i, XR cfg 40 (R40 p i) (B40 p) (cA p Tryz.f40.body).toList i false) ∧ RE cfg 40 [0] ∧ cfg.pure 40 = true := ⟨fun _ _ => xr rfl rfl, rE fun _ => rfl, rfl⟩
def k40 : Code := (.seq (R40 [ff] 0) (.seq (R40 [tt, ff] 1) .ret))
theorem call40 (h : Heap) : call cfg 40 [] h = (exec cfg 40 k40 [] h).bind (callEnd cfg 40 h [.cell 0 91]) := call_at2 (fnat Tryz.func40 (b := k40) (by kernel_rfl) (by kernel_rfl)) rfl rfl
theorem pu23 : cfg.pure 23 = false := rfl
instance t23 {d : Option Nat} : TightD cfg 23 d := ⟨fun _ _ => rfl⟩
def B23 (p : List Bool) := cA p Tryz.f23.body
def R23 (p : List Bool) (i : Nat) := Code.region i (cA p Tryz.f23.body) false
def D23 (p : List Bool) (i : Nat) := Code.region i (cA p Tryz.f23.body) true
theorem F23 : (∀ p i, XR cfg 23 (R23 p i) (B23 p) (cA p Tryz.f23.body).toList i false) ∧ GO cfg 23 (B23 [tt, ff, ff, tt, tt, ff]) 2 13 ∧ cfg.imm 23 37 = false ∧ XR cfg 23 (D23 [tt, tt, tt, tt, ff] 9) (B23 [tt, tt, tt, tt, ff]) (pickL (cA [tt, tt, tt, tt, ff] Tryz.f23.body).toList [1, 2, 3, 4, 5, 7, 0, 6, 8]) 9 true ∧ RE cfg 23 [0, 1, 4, 5, 6, 7, 10, 22, 54] ∧ cfg.pure 23 = false := ⟨fun _ _ => xr rfl rfl, gO (by kernel_rfl), by kernel_rfl, xd (by kernel_rfl) rfl rfl, rE fun _ => rfl, rfl⟩
def k23 : Code := (.seq (R23 [ff] 0) (.seq (.block 0 (.seq (R23 [tt, ff, ff, ff] 1) (.cond (.tmp 7) (.seq (R23 [tt, ff, ff, tt, ff, ff] 2) .ret) (.seq (R23 [tt, ff, ff, tt, tt, ff] 3) (.cond (.tmp 10) (.seq (R23 [tt, ff, ff, tt, tt, tt, ff, ff] 4) .ret) (.seq (R23 [tt, ff, ff, tt, tt, tt, tt, ff] 5) (.cond (.tmp 22) (.seq (R23 [tt, ff, ff, tt, tt, tt, tt, tt, ff, ff] 6) .ret) .skip))))))) (.seq (R23 [tt, tt, ff] 7) (.seq (R23 [tt, tt, tt, ff] 8) (.seq (D23 [tt, tt, tt, tt, ff] 9) (.seq (R23 [tt, tt, tt, tt, tt, ff] 10) (.seq (.seq (R23 [tt, tt, tt, tt, tt, tt, ff, ff] 11) (.cond (.tmp 54) (R23 [tt, tt, tt, tt, tt, tt, ff, tt, ff] 12) .skip)) (.seq (R23 [tt, tt, tt, tt, tt, tt, tt, ff] 13) (.seq (R23 [tt, tt, tt, tt, tt, tt, tt, tt, ff] 14) .ret)))))))))
theorem call23 (x0 x1 : AV) (h : Heap) : call cfg 23 [x0, x1] h = (exec cfg 23 k23 [(0, x0), (1, x1)] h).bind (callEnd cfg 23 h [.tmp 4]) := call_at2 (fnat Tryz.func23 (b := k23) (by kernel_rfl) (by kernel_rfl)) rfl rfl
def doesL : List AV := [.nilFunc, .clo 60 [], .clo 61 [], .clo 62 [], .clo 63 [], .clo 64 [], .clo 65 [], .clo 66 [], .clo 67 [], .clo 68 [], .clo 69 [], .clo 70 [], .clo 71 [], .clo 72 []]
theorem does_eq (H : Heap) : call cfg 40 [] H = some (.ret (.agg doesL), H) := by
  rw [call40]
  unfold doesL
  simp only [F40, k40, Tryz.f40, sxAll, cA, Env.keep, resultsA, packA, storeA, loadA, Rv.part, cellsAt, TD.isAgg, buildA, fillA, setCells, ↓Option.bind_some, Nat.reduceBEq, Nat.reduceAdd, Nat.reduceMul, Nat.reduceLeDiff, ↓reduceIte, cells_clo, leaf_clo, cells_nilFunc, leaf_nilFunc, ty91, ty90]
  exact leave_pure rfl (take_one _ _) rfl
section
variable {p : SProg} {H : Heap} {ρ : Nat → Role} {s : Nat} {σ : SSt} {t : Nat} {rest : List SFrame} {f : SFrame} {i : SIns} {w m mp : Nat} {cv tv ov : AV} {cs ts : List AV} {o g : Nat} {cap : Option Nat} {rvs c : List AV} (X : Ctx p H ρ s σ t rest f i w m mp cv tv ov cs ts o g cap rvs c)
include X
theorem op_does (P : ProgOk p) {K : Nat} (W : SOk p K σ) (hK : K < 100000000) (hi : insAt p f = some i) : ∃ gn H', indexA cfg 91 (.agg doesL) (.int .u8 i.op) = some (.clo gn []) ∧ call cfg gn [.ptr w 0 0] H = some (.ret (.tup []), H') ∧ Did p H ρ s t w i (exeS p σ t rest f i) H' := by
  obtain ⟨F, hF, hc, FO, IO⟩ := P.at hi
  have hmem := List.mem_of_getElem? X.hf
  obtain ⟨F', i', hF', _, hreg⟩ := W.fr _ hmem f (by simp)
  rw [hF] at hF'; injection hF' with hF'; subst hF'
  have hpc : f.pc < 1000000 := by have := (List.getElem?_eq_some_iff.1 hc).1; have := FO.len; omega
  have hd := W.deep _ hmem
  simp only [List.length_append, List.length_singleton] at hd
  have hcl := W.call _ hmem
  rw [List.dropLast_concat] at hcl
  have rg : ∀ {n : Int}, 0 ≤ n ∧ n < F.regs → RegOk f n := fun h => ⟨h.1, by rw [hreg]; exact h.2⟩
  have bare : ∀ {n : Int}, (n = -1 ∨ 0 ≤ n ∧ n < F.regs) → n = -1 ∨ RegOk f n := fun h => h.imp id rg
  have hop := IO.op
  have hk : i.op = 1 ∨ i.op = 2 ∨ i.op = 3 ∨ i.op = 4 ∨ i.op = 5 ∨ i.op = 6 ∨ i.op = 7 ∨ i.op = 8 ∨ i.op = 9 ∨ i.op = 10 ∨ i.op = 11 ∨ i.op = 12 ∨ i.op = 13 := by omega
  have hx : ∀ (k : Nat) (v : AV), i.op = (k : Int) → k < 14 → doesL.drop k = v :: doesL.drop (k + 1) → indexA cfg 91 (.agg doesL) (.int .u8 i.op) = some v := fun k v hk hk14 hd => by
    have : ¬ (k : Int) < 0 := by omega
    have hg := congrArg List.head? hd
    rw [List.head?_drop] at hg
    simp only [List.head?_cons] at hg
    simp [indexA, hk, ty91, ty90, Rv.part, TD.isAgg, this, hk14, hg]
  rcases hk with h | h | h | h | h | h | h | h | h | h | h | h | h
  · obtain ⟨H', h1, h2⟩ := constant_eq X hpc (rg (IO.r (by omega))) h
    exact ⟨_, H', hx 1 _ h (by omega) rfl, h1, h2⟩
  · obtain ⟨H', h1, h2⟩ := move_eq X hpc (rg (IO.r (by omega))) (rg (IO.a (by omega))) h
    exact ⟨_, H', hx 2 _ h (by omega) rfl, h1, h2⟩
  · obtain ⟨H', h1, h2⟩ := unaryW_eq X hpc (rg (IO.r (by omega))) (rg (IO.a (by omega))) (IO.una h) h
    exact ⟨_, H', hx 3 _ h (by omega) rfl, h1, h2⟩
  · obtain ⟨H', h1, h2⟩ := binaryW_eq X hpc (rg (IO.r (by omega))) (rg (IO.a (by omega))) (rg (IO.b (by omega))) (IO.bin h).1 (IO.bin h).2 h
    exact ⟨_, H', hx 4 _ h (by omega) rfl, h1, h2⟩
  · obtain ⟨H', h1, h2⟩ := load_eq X hpc (rg (IO.r (by omega))) (bare (IO.bare (by omega))) h
    exact ⟨_, H', hx 5 _ h (by omega) rfl, h1, h2⟩
  · obtain ⟨H', h1, h2⟩ := store_eq X hpc (bare (IO.bare (by omega))) (rg (IO.b (by omega))) h
    exact ⟨_, H', hx 6 _ h (by omega) rfl, h1, h2⟩
  · obtain ⟨H', h1, h2⟩ := acquire_eq X hpc (IO.lock (by omega)).1 (IO.lock (by omega)).2 h
    exact ⟨_, H', hx 7 _ h (by omega) rfl, h1, h2⟩
  · obtain ⟨H', h1, h2⟩ := release_eq X hpc (IO.lock (by omega)).1 (IO.lock (by omega)).2 h
    exact ⟨_, H', hx 8 _ h (by omega) rfl, h1, h2⟩
  · obtain ⟨H', h1, h2⟩ := print_eq X hpc (rg (IO.a (by omega))) (by have := W.outs; omega) h
    exact ⟨_, H', hx 9 _ h (by omega) rfl, h1, h2⟩
  · obtain ⟨hn, G, hG, _, hGp⟩ := IO.call h
    have GO := P.funs G (List.mem_of_getElem? hG)
    have g1 := GO.regs; have g2 := GO.params
    obtain ⟨H', h1, h2⟩ := callW_eq X hn hG (by omega) g1.2 (by omega) (fun r hr => rg (IO.args h r hr)) (by omega) h
    exact ⟨_, H', hx 10 _ h (by omega) rfl, h1, h2⟩
  · obtain ⟨H', h1, h2⟩ := jump_eq X hpc (IO.goal (by omega)).1 h
    exact ⟨_, H', hx 11 _ h (by omega) rfl, h1, h2⟩
  · obtain ⟨H', h1, h2⟩ := branch_eq X hpc (IO.goal (by omega)).1 (rg (IO.a (by omega))) h
    exact ⟨_, H', hx 12 _ h (by omega) rfl, h1, h2⟩
  · obtain ⟨H', h1, h2⟩ := back_eq X hpc (rg (IO.a (by omega))) (fun x hx => by
      have hfx := W.fr _ hmem x (by simp [hx])
      refine ⟨hcl x hx, hfx, fun j hj => ?_⟩
      obtain ⟨i2, hi2, hop2⟩ := hcl x hx
      rw [hj] at hi2; injection hi2 with hi2; subst hi2
      obtain ⟨F2, hF2, _, _, IO2⟩ := P.at hj
      obtain ⟨F3, _, hF3, _, hr3⟩ := hfx
      rw [hF2] at hF3; injection hF3 with hF3; subst hF3
      have := IO2.r (by omega)
      exact ⟨this.1, by rw [hr3]; exact this.2⟩) (by omega) (fun x hx => by
      obtain ⟨F2, i2, hF2, hc2, _⟩ := W.fr _ hmem x (by simp [hx])
      have := (List.getElem?_eq_some_iff.1 hc2).1
      have := (P.funs F2 (List.mem_of_getElem? hF2)).len
      omega) h
    exact ⟨_, H', hx 13 _ h (by omega) rfl, h1, h2⟩
end
def stepErr (p : SProg) (σ : SSt) (t : Int) : Int := if t < 0 ∨ (σ.thr.length : Int) ≤ t then 1 else if canB p σ t.toNat then 0 else 69
section
variable {p : SProg} {H : Heap} {ρ : Nat → Role} {s : Nat} {σ : SSt} (A : At p H ρ s σ) (P : ProgOk p) {K : Nat} (W : SOk p K σ) (hK : K < 10000000)
include A P W hK
theorem step_yes {t : Nat} (hb : canB p σ t = true) : ∃ H' ρ', call cfg 23 [.ptr s 0 0, .int .i64 t] H = some (.ret (.int .i64 0), H') ∧ At p H' ρ' s (stepS p σ t) ∧ Frm H ρ H' ρ' := by
  obtain ⟨m, mp, cv, tv, ov, cs, ts, R⟩ := A
  have hs := R.st
  have hls := live_of hs
  have e0 := ptr_eq_nil (H := H) (k := 0) ty51 hls
  have kt := R.tArr.known
  have lt := R.tArr.len 76
  rw [R.tLen] at lt
  obtain ⟨n, rest, f, i, hn, hf, htop, hia⟩ : ∃ (n : Nat) (rest : List SFrame) (f : SFrame) (i : SIns), (t : Int) = n ∧ σ.thr[n]? = some (rest ++ [f]) ∧ σ.top n = some f ∧ insAt p f = some i := by
    rcases top_cases σ (t : Int) with hn | ⟨n, rest, f, hn, hf, htop⟩
    · exfalso
      unfold canB at hb
      have htn : σ.top t = none := by
        rcases hn with h | h | h
        · omega
        · exact top_no (.inl h)
        · exact top_no (.inr (by simpa using h.2))
      rw [htn] at hb
      cases hb
    · have : t = n := by omega
      subst this
      obtain ⟨_, i, _, _, h, _⟩ := W.at hf
      exact ⟨t, rest, f, i, rfl, hf, htop, h⟩
  obtain rfl : t = n := by omega
  have htl : t < σ.thr.length := (List.getElem?_eq_some_iff.1 hf).1
  have h1 : ((t : Int) ≥ (σ.thr.length : Int)) = False := by simp; omega
  have hd := W.depth hf
  have hcan := can_eq R W (by omega) (t : Int)
  rw [Int.toNat_natCast, hb, show (decide (0 ≤ (t : Int)) && true) = true by simp] at hcan
  obtain ⟨o, g, cap, rvs, c, hv, S, ht, ho, d0, d1⟩ := topv R hf (by omega)
  have hins := ins_eq hs ho d0 d1 hia
  have hup : ∀ x, x < H.length → upd ρ H.length .work x = ρ x := fun x hx => upd_ne (by omega)
  have R1 : Rep p (H ++ [.cells (workC s t o (rest.length * 3) g i false) 0]) (upd ρ H.length .work) s σ m mp cv tv ov cs ts :=
    R.mono (by simp) (fun x hx _ _ => ⟨List.getElem?_append_left hx, hup x hx⟩) fun x hx => by
      simp only [List.length_append, List.length_singleton] at hx
      rw [upd_ne (by omega)]; exact R.fresh x (by omega)
  have X : Ctx p (H ++ [.cells (workC s t o (rest.length * 3) g i false) 0]) (upd ρ H.length .work) s σ t rest f i H.length m mp cv tv ov cs ts o g cap rvs c :=
    ⟨R1, hv, hf, S.mono fun x hx _ => ⟨List.getElem?_append_left hx, hup x hx⟩, by rw [obj_app0, obj_zero], upd_self _ _ _⟩
  have hF1 : Frm H ρ (H ++ [.cells (workC s t o (rest.length * 3) g i false) 0]) (upd ρ H.length .work) := ⟨by simp, fun x hx hr => ⟨List.getElem?_append_left hx, (hup x hx).trans hr⟩⟩
  obtain ⟨gn, H2, hidx, hcall, ρ2, o2, k2, g2, ⟨m2, mp2, cv2, tv2, ov2, cs2, ts2, R2⟩, hw2, hwr2, F2⟩ := op_does X P W (by omega) hia
  have hws : H.length ≠ s := fun hc => by have := R2.stR; rw [← hc, hwr2] at this; cases this
  have hs2 := R2.st
  have hls2 := live_of hs2
  have hst1 : storeA cfg H2 3 (.ptr s 5 0) (.int .i64 t) = some (H2.set s (.cells (p.cells ++ [.ptr m2 0 0, tv2, .int .i64 (t : Int), ov2, .int .u8 (exeS p σ t rest f i).1.ending]) 0)) := by
    rw [store1 (v := .int .i64 (t : Int)) ty3 hs2 (off := 5) (by simp [SProg.cells]) rfl rfl]
    rfl
  have R3 := R2.own (t : Int) (exeS p σ t rest f i).1.ending
  have hw3 := (obj_setn (H := H2) (g := 0) (.cells (p.cells ++ [.ptr m2 0 0, tv2, .int .i64 (t : Int), ov2, .int .u8 (exeS p σ t rest f i).1.ending]) 0) hws).trans hw2
  have hlw3 := live_of hw3
  have hs3 := R3.st
  have hls3 := live_of hs3
  have hg : σ.thr.getD t [] = rest ++ [f] := by rw [List.getD_eq_getElem?_getD, hf]; rfl
  have hstep : stepS p σ t = endS p { (exeS p σ t rest f i).1 with last := (t : Int), ending := if (exeS p σ t rest f i).2 then 2 else (exeS p σ t rest f i).1.ending } := by
    unfold stepS
    simp only [htop, hia, hg, List.dropLast_concat]
  have E := exe_ok P W hf hia
  have F3 : Frm H2 ρ2 (H2.set s (.cells (p.cells ++ [.ptr m2 0 0, tv2, .int .i64 (t : Int), ov2, .int .u8 (exeS p σ t rest f i).1.ending]) 0)) ρ2 := ⟨by simp, fun x hx hr => ⟨List.getElem?_set_ne (by intro hc; rw [← hc, R2.stR] at hr; cases hr), hr⟩⟩
  have hl1 : ∀ X, Heap.live (H ++ X) H.length 0 = Heap.live X 0 0 := fun X => live_app0 H X 0
  rw [hstep]
  have hdoes := does_eq (H ++ [.cells (workC s t o (rest.length * 3) g i false) 0])
  cases htr : (exeS p σ t rest f i).2 with
  | true =>
    rw [htr] at hw3
    have hst2 : storeA cfg (H2.set s (.cells (p.cells ++ [.ptr m2 0 0, tv2, .int .i64 (t : Int), ov2, .int .u8 (exeS p σ t rest f i).1.ending]) 0)) 5 (.ptr s 7 0) (.int .u8 2) = some ((H2.set s (.cells (p.cells ++ [.ptr m2 0 0, tv2, .int .i64 (t : Int), ov2, .int .u8 (exeS p σ t rest f i).1.ending]) 0)).set s (.cells (p.cells ++ [.ptr m2 0 0, tv2, .int .i64 (t : Int), ov2, .int .u8 2]) 0)) := by
      rw [store1 (v := .int .u8 2) ty5 hs3 (off := 7) (by simp [SProg.cells]) rfl rfl]
      rfl
    have R4 := R3.own (t : Int) 2
    have W4 : SOk p (K + 1) { { (exeS p σ t rest f i).1 with last := (t : Int), ending := (exeS p σ t rest f i).1.ending } with last := (t : Int), ending := 2 } := E.same rfl rfl
    obtain ⟨H5, hend, R5, hl5, hk5⟩ := end_eq R4 W4 (by omega)
    refine ⟨H5, ρ2, ?_, ⟨_, _, _, _, _, _, _, R5⟩, hF1.trans (F2.trans (F3.trans ⟨by rw [hl5]; simp, fun x hx hr => ⟨?_, hr⟩⟩))⟩
    · rw [call23]
      simp only [workC, SProg.cells, SIns.cells, List.cons_append, List.nil_append] at hs hs2 hs3 hst1 hst2 hw3 hls3 hlw3 hend hcall hins hdoes
      simp only [F23, k23, Tryz.f23, sxAll, cA, arithA, Env.keep, qt_eq, resultsA, packA, unA, fieldAddrA, Rv.part, TD.isAgg, buildA, fillA, setCells, mapO, ↓Option.bind_some, Nat.reduceBEq, Nat.reduceAdd, Nat.reduceLeDiff, ↓reduceIte, load_ptr, hs, hls, e0, kt, lt, h1, hcan, ht, hins, hl1, hdoes, hidx, hcall, hls2, hst1, hw3, hlw3, hls3, hst2, hend, pu32, pu38, pu39, pu40, ty71, ty51, ty84, ty69, ty89, ty49, ty5, ty3, ty4]
      exact leave_impure pu23
    · by_cases hx2 : x = s
      · subst hx2; rw [R2.stR] at hr; cases hr
      · rw [hk5 x hx2, List.getElem?_set_ne (Ne.symm hx2)]
  | false =>
    rw [htr] at hw3
    have W4 : SOk p (K + 1) { (exeS p σ t rest f i).1 with last := (t : Int), ending := (exeS p σ t rest f i).1.ending } := E.same rfl rfl
    obtain ⟨H5, hend, R5, hl5, hk5⟩ := end_eq R3 W4 (by omega)
    refine ⟨H5, ρ2, ?_, ⟨_, _, _, _, _, _, _, R5⟩, hF1.trans (F2.trans (F3.trans ⟨by rw [hl5]; exact Nat.le_refl _, fun x hx hr => ⟨?_, hr⟩⟩))⟩
    · rw [call23]
      simp only [workC, SProg.cells, SIns.cells, List.cons_append, List.nil_append] at hs hs2 hs3 hst1 hw3 hls3 hlw3 hend hcall hins hdoes
      simp only [F23, k23, Tryz.f23, sxAll, cA, arithA, Env.keep, qt_eq, resultsA, packA, unA, fieldAddrA, Rv.part, TD.isAgg, buildA, fillA, setCells, mapO, ↓Option.bind_some, Nat.reduceBEq, Nat.reduceAdd, Nat.reduceLeDiff, ↓reduceIte, load_ptr, hs, hls, e0, kt, lt, h1, hcan, ht, hins, hl1, hdoes, hidx, hcall, hls2, hst1, hw3, hlw3, hend, pu32, pu38, pu39, pu40, ty71, ty51, ty84, ty69, ty89, ty49, ty5, ty3, ty4]
      exact leave_impure pu23
    · by_cases hx2 : x = s
      · subst hx2; rw [R2.stR] at hr; cases hr
      · exact hk5 x hx2
theorem step_no {t : Int} (hb : stepErr p σ t ≠ 0) : call cfg 23 [.ptr s 0 0, .int .i64 t] H = some (.ret (.int .i64 (stepErr p σ t)), H) := by
  obtain ⟨m, mp, cv, tv, ov, cs, ts, R⟩ := A
  have hs := R.st
  have hls := live_of hs
  have e0 := ptr_eq_nil (H := H) (k := 0) ty51 hls
  have kt := R.tArr.known
  have lt := R.tArr.len 76
  rw [R.tLen] at lt
  have hcan := can_eq R W (by omega) t
  simp only [SProg.cells, List.cons_append, List.nil_append] at hs
  rw [call23]
  unfold stepErr at hb ⊢
  by_cases h1 : t < 0
  · rw [if_pos (.inl h1)]
    simp only [F23, k23, Tryz.f23, sxAll, cA, arithA, Env.keep, resultsA, packA, ↓Option.bind_some, Nat.reduceBEq, ↓reduceIte, e0, h1]
    exact leave_impure pu23
  by_cases h2 : t ≥ (σ.thr.length : Int)
  · rw [if_pos (.inr h2)]
    simp only [F23, k23, Tryz.f23, sxAll, cA, arithA, Env.keep, qt_eq, resultsA, packA, fieldAddrA, Rv.part, TD.isAgg, ↓Option.bind_some, Nat.reduceBEq, Nat.reduceAdd, ↓reduceIte, load_ptr, hs, hls, e0, kt, lt, h1, h2, ty71, ty69]
    exact leave_impure pu23
  rw [if_neg (by omega)] at hb ⊢
  cases hc : canB p σ t.toNat with
  | true => rw [hc] at hb; exact absurd rfl hb
  | false =>
    rw [hc, Bool.and_false] at hcan
    simp only [F23, k23, Tryz.f23, sxAll, cA, arithA, Env.keep, qt_eq, resultsA, packA, unA, fieldAddrA, Rv.part, TD.isAgg, mapO, ↓Option.bind_some, Nat.reduceBEq, Nat.reduceAdd, ↓reduceIte, load_ptr, hs, hls, e0, kt, lt, h1, h2, hcan, pu32, ty71, ty69]
    exact leave_impure pu23
end
end
end Go.Proofs.Sx
