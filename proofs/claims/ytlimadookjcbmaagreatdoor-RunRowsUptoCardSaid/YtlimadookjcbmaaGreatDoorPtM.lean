/-
  package mem: what operations make of numbers.
-/
import Derived.Test.YtlimadookjcbmaaGreatDoorPtL
set_option linter.unusedSectionVars false
set_option linter.unusedSimpArgs false
set_option linter.unusedVariables false
set_option linter.defProp false
set_option maxHeartbeats 8000000
set_option maxRecDepth 100000
namespace Go.Proofs.Sx
open Go.Rv Go.Proofs
attribute [local congr] bind_left got_left
noncomputable section
theorem pu110 : cfg.pure 110 = true := rfl
instance t110 {d : Option Nat} : TightD cfg 110 d := ⟨fun _ _ => rfl⟩
def B110 (p : List Bool) := cA p Tryz.f110.body
def R110 (p : List Bool) (i : Nat) := Code.region i (cA p Tryz.f110.body) false
theorem F110 : (∀ p i, XR cfg 110 (R110 p i) (B110 p) (cA p Tryz.f110.body).toList i false) ∧ RE cfg 110 [0, 2, 3] ∧ cfg.pure 110 = true := ⟨fun _ _ => xr rfl rfl, rE fun _ => rfl, rfl⟩
def k110 : Code := (.seq (R110 [ff] 0) (.seq (.seq (R110 [tt, ff, ff] 1) (.cond (.tmp 3) (.seq (R110 [tt, ff, tt, ff, ff] 2) .ret) .skip)) (.seq (R110 [tt, tt, ff] 3) .ret)))
theorem call110 (x0 : AV) (h : Heap) : call cfg 110 [x0] h = (exec cfg 110 k110 [(0, x0)] h).bind (callEnd cfg 110 h [.tmp 2]) := call_at2 (fnat Tryz.func110 (b := k110) (by kernel_rfl) (by kernel_rfl)) rfl rfl
theorem pu89 : cfg.pure 89 = true := rfl
instance t89 {d : Option Nat} : TightD cfg 89 d := ⟨fun _ _ => rfl⟩
def B89 (p : List Bool) := cA p Tryz.f89.body
def R89 (p : List Bool) (i : Nat) := Code.region i (cA p Tryz.f89.body) false
theorem F89 : (∀ p i, XR cfg 89 (R89 p i) (B89 p) (cA p Tryz.f89.body).toList i false) ∧ RE cfg 89 [0, 1, 4, 5, 6, 7, 11] ∧ cfg.pure 89 = true := ⟨fun _ _ => xr rfl rfl, rE fun _ => rfl, rfl⟩
def k89 : Code := (.seq (R89 [ff] 0) (.seq (.seq (R89 [tt, ff, ff] 1) (.block 0 (.seq (R89 [tt, ff, tt, ff, ff] 2) (.cond (.tmp 7) (.seq (R89 [tt, ff, tt, ff, tt, ff, ff] 3) .ret) (.seq (R89 [tt, ff, tt, ff, tt, tt, ff] 4) (.cond (.tmp 11) (.seq (R89 [tt, ff, tt, ff, tt, tt, tt, ff, ff] 5) .ret) .skip)))))) (.seq (R89 [tt, tt, ff] 6) .ret)))
theorem call89 (x0 x1 : AV) (h : Heap) : call cfg 89 [x0, x1] h = (exec cfg 89 k89 [(0, x0), (1, x1)] h).bind (callEnd cfg 89 h [.tmp 4, .tmp 5]) := call_at2 (fnat Tryz.func89 (b := k89) (by kernel_rfl) (by kernel_rfl)) rfl rfl
theorem pu111 : cfg.pure 111 = false := rfl
instance t111 {d : Option Nat} : TightD cfg 111 d := ⟨fun _ _ => rfl⟩
def B111 (p : List Bool) := cA p Tryz.f111.body
def R111 (p : List Bool) (i : Nat) := Code.region i (cA p Tryz.f111.body) false
theorem F111 : (∀ p i, XR cfg 111 (R111 p i) (B111 p) (cA p Tryz.f111.body).toList i false) ∧ RE cfg 111 [0, 1] ∧ cfg.pure 111 = false := ⟨fun _ _ => xr rfl rfl, rE fun _ => rfl, rfl⟩
def k111 : Code := (.seq (R111 [ff] 0) (.seq (R111 [tt, ff] 1) (.seq (R111 [tt, tt, ff] 2) .ret)))
theorem call111 (h : Heap) : call cfg 111 [] h = (exec cfg 111 k111 [] h).bind (callEnd cfg 111 h [.tmp 0]) := call_at2 (fnat Tryz.func111 (b := k111) (by kernel_rfl) (by kernel_rfl)) rfl rfl
instance t134 {d : Option Nat} : TightD cfg 134 d := ⟨fun _ _ => rfl⟩
def B134 (p : List Bool) := cA p Tryz.f134.body
def R134 (p : List Bool) (i : Nat) := Code.region i (cA p Tryz.f134.body) false
theorem F134 : (∀ p i, XR cfg 134 (R134 p i) (B134 p) (cA p Tryz.f134.body).toList i false) ∧ cfg.imm 134 1 = true ∧ RE cfg 134 [0, 1, 2] ∧ cfg.pure 134 = true := ⟨fun _ _ => xr rfl rfl, by kernel_rfl, rE fun _ => rfl, rfl⟩
def k134 : Code := (.seq (R134 [ff] 0) (.seq (R134 [tt, ff] 1) .ret))
theorem call134 (x0 : AV) (h : Heap) : call cfg 134 [x0] h = (exec cfg 134 k134 [(0, x0)] h).bind (callEnd cfg 134 h [.tmp 2]) := call_at2 (fnat Tryz.func134 (b := k134) (by kernel_rfl) (by kernel_rfl)) rfl rfl
instance t135 {d : Option Nat} : TightD cfg 135 d := ⟨fun _ _ => rfl⟩
def B135 (p : List Bool) := cA p Tryz.f135.body
def R135 (p : List Bool) (i : Nat) := Code.region i (cA p Tryz.f135.body) false
theorem F135 : (∀ p i, XR cfg 135 (R135 p i) (B135 p) (cA p Tryz.f135.body).toList i false) ∧ RE cfg 135 [0, 1, 2, 5] ∧ cfg.pure 135 = true := ⟨fun _ _ => xr rfl rfl, rE fun _ => rfl, rfl⟩
def k135 : Code := (.seq (R135 [ff] 0) (.seq (R135 [tt, ff] 1) .ret))
theorem call135 (x0 x1 x2 : AV) (h : Heap) : call cfg 135 [x0, x1, x2] h = (exec cfg 135 k135 [(0, x0), (1, x1), (2, x2)] h).bind (callEnd cfg 135 h [.tmp 5]) := call_at2 (fnat Tryz.func135 (b := k135) (by kernel_rfl) (by kernel_rfl)) rfl rfl
instance t136 {d : Option Nat} : TightD cfg 136 d := ⟨fun _ _ => rfl⟩
def B136 (p : List Bool) := cA p Tryz.f136.body
def R136 (p : List Bool) (i : Nat) := Code.region i (cA p Tryz.f136.body) false
theorem F136 : (∀ p i, XR cfg 136 (R136 p i) (B136 p) (cA p Tryz.f136.body).toList i false) ∧ RE cfg 136 [0, 1, 4] ∧ cfg.pure 136 = true := ⟨fun _ _ => xr rfl rfl, rE fun _ => rfl, rfl⟩
def k136 : Code := (.seq (R136 [ff] 0) (.seq (R136 [tt, ff] 1) .ret))
theorem call136 (x0 x1 : AV) (h : Heap) : call cfg 136 [x0, x1] h = (exec cfg 136 k136 [(0, x0), (1, x1)] h).bind (callEnd cfg 136 h [.tmp 4]) := call_at2 (fnat Tryz.func136 (b := k136) (by kernel_rfl) (by kernel_rfl)) rfl rfl
instance t137 {d : Option Nat} : TightD cfg 137 d := ⟨fun _ _ => rfl⟩
def B137 (p : List Bool) := cA p Tryz.f137.body
def R137 (p : List Bool) (i : Nat) := Code.region i (cA p Tryz.f137.body) false
theorem F137 : (∀ p i, XR cfg 137 (R137 p i) (B137 p) (cA p Tryz.f137.body).toList i false) ∧ RE cfg 137 [0, 1, 4] ∧ cfg.pure 137 = true := ⟨fun _ _ => xr rfl rfl, rE fun _ => rfl, rfl⟩
def k137 : Code := (.seq (R137 [ff] 0) (.seq (R137 [tt, ff] 1) .ret))
theorem call137 (x0 x1 : AV) (h : Heap) : call cfg 137 [x0, x1] h = (exec cfg 137 k137 [(0, x0), (1, x1)] h).bind (callEnd cfg 137 h [.tmp 4]) := call_at2 (fnat Tryz.func137 (b := k137) (by kernel_rfl) (by kernel_rfl)) rfl rfl
instance t138 {d : Option Nat} : TightD cfg 138 d := ⟨fun _ _ => rfl⟩
def B138 (p : List Bool) := cA p Tryz.f138.body
def R138 (p : List Bool) (i : Nat) := Code.region i (cA p Tryz.f138.body) false
theorem F138 : (∀ p i, XR cfg 138 (R138 p i) (B138 p) (cA p Tryz.f138.body).toList i false) ∧ RE cfg 138 [0, 1, 4] ∧ cfg.pure 138 = true := ⟨fun _ _ => xr rfl rfl, rE fun _ => rfl, rfl⟩
def k138 : Code := (.seq (R138 [ff] 0) (.seq (R138 [tt, ff] 1) .ret))
theorem call138 (x0 x1 : AV) (h : Heap) : call cfg 138 [x0, x1] h = (exec cfg 138 k138 [(0, x0), (1, x1)] h).bind (callEnd cfg 138 h [.tmp 4]) := call_at2 (fnat Tryz.func138 (b := k138) (by kernel_rfl) (by kernel_rfl)) rfl rfl
instance t139 {d : Option Nat} : TightD cfg 139 d := ⟨fun _ _ => rfl⟩
def B139 (p : List Bool) := cA p Tryz.f139.body
def R139 (p : List Bool) (i : Nat) := Code.region i (cA p Tryz.f139.body) false
theorem F139 : (∀ p i, XR cfg 139 (R139 p i) (B139 p) (cA p Tryz.f139.body).toList i false) ∧ RE cfg 139 [0, 1, 4] ∧ cfg.pure 139 = true := ⟨fun _ _ => xr rfl rfl, rE fun _ => rfl, rfl⟩
def k139 : Code := (.seq (R139 [ff] 0) (.seq (R139 [tt, ff] 1) .ret))
theorem call139 (x0 x1 : AV) (h : Heap) : call cfg 139 [x0, x1] h = (exec cfg 139 k139 [(0, x0), (1, x1)] h).bind (callEnd cfg 139 h [.tmp 4]) := call_at2 (fnat Tryz.func139 (b := k139) (by kernel_rfl) (by kernel_rfl)) rfl rfl
instance t140 {d : Option Nat} : TightD cfg 140 d := ⟨fun _ _ => rfl⟩
def B140 (p : List Bool) := cA p Tryz.f140.body
def R140 (p : List Bool) (i : Nat) := Code.region i (cA p Tryz.f140.body) false
theorem F140 : (∀ p i, XR cfg 140 (R140 p i) (B140 p) (cA p Tryz.f140.body).toList i false) ∧ RE cfg 140 [0, 1, 4] ∧ cfg.pure 140 = true := ⟨fun _ _ => xr rfl rfl, rE fun _ => rfl, rfl⟩
def k140 : Code := (.seq (R140 [ff] 0) (.seq (R140 [tt, ff] 1) .ret))
theorem call140 (x0 x1 : AV) (h : Heap) : call cfg 140 [x0, x1] h = (exec cfg 140 k140 [(0, x0), (1, x1)] h).bind (callEnd cfg 140 h [.tmp 4]) := call_at2 (fnat Tryz.func140 (b := k140) (by kernel_rfl) (by kernel_rfl)) rfl rfl
instance t141 {d : Option Nat} : TightD cfg 141 d := ⟨fun _ _ => rfl⟩
def B141 (p : List Bool) := cA p Tryz.f141.body
def R141 (p : List Bool) (i : Nat) := Code.region i (cA p Tryz.f141.body) false
theorem F141 : (∀ p i, XR cfg 141 (R141 p i) (B141 p) (cA p Tryz.f141.body).toList i false) ∧ RE cfg 141 [0, 1, 4] ∧ cfg.pure 141 = true := ⟨fun _ _ => xr rfl rfl, rE fun _ => rfl, rfl⟩
def k141 : Code := (.seq (R141 [ff] 0) (.seq (R141 [tt, ff] 1) .ret))
theorem call141 (x0 x1 : AV) (h : Heap) : call cfg 141 [x0, x1] h = (exec cfg 141 k141 [(0, x0), (1, x1)] h).bind (callEnd cfg 141 h [.tmp 4]) := call_at2 (fnat Tryz.func141 (b := k141) (by kernel_rfl) (by kernel_rfl)) rfl rfl
instance t142 {d : Option Nat} : TightD cfg 142 d := ⟨fun _ _ => rfl⟩
def B142 (p : List Bool) := cA p Tryz.f142.body
def R142 (p : List Bool) (i : Nat) := Code.region i (cA p Tryz.f142.body) false
theorem F142 : (∀ p i, XR cfg 142 (R142 p i) (B142 p) (cA p Tryz.f142.body).toList i false) ∧ RE cfg 142 [0, 1, 4] ∧ cfg.pure 142 = true := ⟨fun _ _ => xr rfl rfl, rE fun _ => rfl, rfl⟩
def k142 : Code := (.seq (R142 [ff] 0) (.seq (R142 [tt, ff] 1) .ret))
theorem call142 (x0 x1 : AV) (h : Heap) : call cfg 142 [x0, x1] h = (exec cfg 142 k142 [(0, x0), (1, x1)] h).bind (callEnd cfg 142 h [.tmp 4]) := call_at2 (fnat Tryz.func142 (b := k142) (by kernel_rfl) (by kernel_rfl)) rfl rfl
instance t143 {d : Option Nat} : TightD cfg 143 d := ⟨fun _ _ => rfl⟩
def B143 (p : List Bool) := cA p Tryz.f143.body
def R143 (p : List Bool) (i : Nat) := Code.region i (cA p Tryz.f143.body) false
theorem F143 : (∀ p i, XR cfg 143 (R143 p i) (B143 p) (cA p Tryz.f143.body).toList i false) ∧ RE cfg 143 [0, 1, 4] ∧ cfg.pure 143 = true := ⟨fun _ _ => xr rfl rfl, rE fun _ => rfl, rfl⟩
def k143 : Code := (.seq (R143 [ff] 0) (.seq (R143 [tt, ff] 1) .ret))
theorem call143 (x0 x1 : AV) (h : Heap) : call cfg 143 [x0, x1] h = (exec cfg 143 k143 [(0, x0), (1, x1)] h).bind (callEnd cfg 143 h [.tmp 4]) := call_at2 (fnat Tryz.func143 (b := k143) (by kernel_rfl) (by kernel_rfl)) rfl rfl
instance t144 {d : Option Nat} : TightD cfg 144 d := ⟨fun _ _ => rfl⟩
def B144 (p : List Bool) := cA p Tryz.f144.body
def R144 (p : List Bool) (i : Nat) := Code.region i (cA p Tryz.f144.body) false
theorem F144 : (∀ p i, XR cfg 144 (R144 p i) (B144 p) (cA p Tryz.f144.body).toList i false) ∧ RE cfg 144 [0, 1, 4] ∧ cfg.pure 144 = true := ⟨fun _ _ => xr rfl rfl, rE fun _ => rfl, rfl⟩
def k144 : Code := (.seq (R144 [ff] 0) (.seq (R144 [tt, ff] 1) .ret))
theorem call144 (x0 x1 : AV) (h : Heap) : call cfg 144 [x0, x1] h = (exec cfg 144 k144 [(0, x0), (1, x1)] h).bind (callEnd cfg 144 h [.tmp 4]) := call_at2 (fnat Tryz.func144 (b := k144) (by kernel_rfl) (by kernel_rfl)) rfl rfl
instance t145 {d : Option Nat} : TightD cfg 145 d := ⟨fun _ _ => rfl⟩
def B145 (p : List Bool) := cA p Tryz.f145.body
def R145 (p : List Bool) (i : Nat) := Code.region i (cA p Tryz.f145.body) false
theorem F145 : (∀ p i, XR cfg 145 (R145 p i) (B145 p) (cA p Tryz.f145.body).toList i false) ∧ GO cfg 145 (B145 [tt, ff]) 2 7 ∧ RE cfg 145 [0, 1, 4] ∧ cfg.pure 145 = true := ⟨fun _ _ => xr rfl rfl, gO (by kernel_rfl), rE fun _ => rfl, rfl⟩
def k145 : Code := (.seq (R145 [ff] 0) (.seq (R145 [tt, ff] 1) .ret))
theorem call145 (x0 x1 : AV) (h : Heap) : call cfg 145 [x0, x1] h = (exec cfg 145 k145 [(0, x0), (1, x1)] h).bind (callEnd cfg 145 h [.tmp 4]) := call_at2 (fnat Tryz.func145 (b := k145) (by kernel_rfl) (by kernel_rfl)) rfl rfl
instance t146 {d : Option Nat} : TightD cfg 146 d := ⟨fun _ _ => rfl⟩
def B146 (p : List Bool) := cA p Tryz.f146.body
def R146 (p : List Bool) (i : Nat) := Code.region i (cA p Tryz.f146.body) false
theorem F146 : (∀ p i, XR cfg 146 (R146 p i) (B146 p) (cA p Tryz.f146.body).toList i false) ∧ GO cfg 146 (B146 [tt, ff]) 2 7 ∧ RE cfg 146 [0, 1, 4] ∧ cfg.pure 146 = true := ⟨fun _ _ => xr rfl rfl, gO (by kernel_rfl), rE fun _ => rfl, rfl⟩
def k146 : Code := (.seq (R146 [ff] 0) (.seq (R146 [tt, ff] 1) .ret))
theorem call146 (x0 x1 : AV) (h : Heap) : call cfg 146 [x0, x1] h = (exec cfg 146 k146 [(0, x0), (1, x1)] h).bind (callEnd cfg 146 h [.tmp 4]) := call_at2 (fnat Tryz.func146 (b := k146) (by kernel_rfl) (by kernel_rfl)) rfl rfl
theorem pu90 : cfg.pure 90 = true := rfl
instance t90 {d : Option Nat} : TightD cfg 90 d := ⟨fun _ _ => rfl⟩
def B90 (p : List Bool) := cA p Tryz.f90.body
def R90 (p : List Bool) (i : Nat) := Code.region i (cA p Tryz.f90.body) false
theorem F90 : (∀ p i, XR cfg 90 (R90 p i) (B90 p) (cA p Tryz.f90.body).toList i false) ∧ GO cfg 90 (B90 [tt, tt, ff, ff]) 2 18 ∧ GO cfg 90 (B90 [tt, tt, ff, ff]) 5 21 ∧ GO cfg 90 (B90 [tt, tt, ff, ff]) 8 24 ∧ RE cfg 90 [0, 1, 2, 6, 7, 8, 9, 29] ∧ cfg.pure 90 = true := ⟨fun _ _ => xr rfl rfl, gO (by kernel_rfl), gO (by kernel_rfl), gO (by kernel_rfl), rE fun _ => rfl, rfl⟩
def k90 : Code := (.seq (R90 [ff] 0) (.seq (R90 [tt, ff] 1) (.seq (.seq (R90 [tt, tt, ff, ff] 2) (.cond (.tmp 29) (.seq (R90 [tt, tt, ff, tt, ff, ff] 3) .ret) .skip)) (.seq (R90 [tt, tt, tt, ff] 4) .ret))))
theorem call90 (x0 x1 x2 : AV) (h : Heap) : call cfg 90 [x0, x1, x2] h = (exec cfg 90 k90 [(0, x0), (1, x1), (2, x2)] h).bind (callEnd cfg 90 h [.tmp 6, .tmp 7]) := call_at2 (fnat Tryz.func90 (b := k90) (by kernel_rfl) (by kernel_rfl)) rfl rfl
theorem truth_eq (b : Bool) (h : Heap) : call cfg 110 [.bool b] h = some (.ret (.int .i64 (truthI b)), h) := by
  rw [call110]
  cases b <;> simp only [F110, k110, Tryz.f110, sxAll, cA, Env.keep, resultsA, packA, ↓Option.bind_some, Nat.reduceBEq, ↓reduceIte, truthI] <;> exact leave_kept rfl rfl
theorem unary_eq (k a : Int) (hk : k = 5 ∨ k = 6) (h : Heap) : call cfg 89 [.int .u8 k, .int .i64 a] h = some (.ret (.tup [.int .i64 ((unaryF k a).getD 0), .bool true]), h) ∧ (unaryF k a).isSome = true := by
  rw [call89]
  rcases hk with rfl | rfl
  · refine ⟨?_, rfl⟩
    simp only [F89, k89, Tryz.f89, sxAll, cA, arithA, Env.keep, resultsA, packA, unA, ↓Option.bind_some, Nat.reduceBEq, ↓reduceIte, unaryF]
    exact leave_kept rfl rfl
  · refine ⟨?_, rfl⟩
    simp only [F89, k89, Tryz.f89, sxAll, cA, arithA, Env.keep, qt_eq, resultsA, packA, mapO, ↓Option.bind_some, Nat.reduceBEq, Int.reduceBEq, ↓reduceIte, unaryF, truth_eq, pu110, show ((6 : Int) = 5) = False by simp]
    exact leave_kept rfl rfl
theorem opB_eq (a b : Int) (h : Heap) : call cfg 136 [.int .i64 a, .int .i64 b] h = some (.ret (.int .i64 (IntKind.i64.wrap (a + b))), h) := by
  rw [call136]; simp only [F136, k136, Tryz.f136, sxAll, cA, arithA, Env.keep, resultsA, packA, ↓Option.bind_some, Nat.reduceBEq, ↓reduceIte]; exact leave_kept rfl rfl
theorem opC_eq (a b : Int) (h : Heap) : call cfg 137 [.int .i64 a, .int .i64 b] h = some (.ret (.int .i64 (IntKind.i64.wrap (a - b))), h) := by
  rw [call137]; simp only [F137, k137, Tryz.f137, sxAll, cA, arithA, Env.keep, resultsA, packA, ↓Option.bind_some, Nat.reduceBEq, ↓reduceIte]; exact leave_kept rfl rfl
theorem opD_eq (a b : Int) (h : Heap) : call cfg 138 [.int .i64 a, .int .i64 b] h = some (.ret (.int .i64 (IntKind.i64.wrap (a * b))), h) := by
  rw [call138]; simp only [F138, k138, Tryz.f138, sxAll, cA, arithA, Env.keep, resultsA, packA, ↓Option.bind_some, Nat.reduceBEq, ↓reduceIte]; exact leave_kept rfl rfl
theorem opE_eq (a b : Int) (hb : (b == 0) = false) (h : Heap) : call cfg 139 [.int .i64 a, .int .i64 b] h = some (.ret (.int .i64 (IntKind.i64.wrap (a.tdiv b))), h) := by
  rw [call139]; simp only [F139, k139, Tryz.f139, sxAll, cA, arithA, Env.keep, resultsA, packA, ↓Option.bind_some, Nat.reduceBEq, ↓reduceIte, hb]; exact leave_kept rfl rfl
theorem opF_eq' (a b : Int) (hb : (b == 0) = false) (h : Heap) : call cfg 140 [.int .i64 a, .int .i64 b] h = some (.ret (.int .i64 (a.tmod b)), h) := by
  rw [call140]; simp only [F140, k140, Tryz.f140, sxAll, cA, arithA, Env.keep, resultsA, packA, ↓Option.bind_some, Nat.reduceBEq, ↓reduceIte, hb]; exact leave_kept rfl rfl
theorem opG_eq (a b : Int) (h : Heap) : call cfg 141 [.int .i64 a, .int .i64 b] h = some (.ret (.bool (decide (a < b))), h) := by
  rw [call141]; simp only [F141, k141, Tryz.f141, sxAll, cA, arithA, Env.keep, resultsA, packA, ↓Option.bind_some, Nat.reduceBEq, ↓reduceIte]; exact leave_kept rfl rfl
theorem opH_eq (a b : Int) (h : Heap) : call cfg 142 [.int .i64 a, .int .i64 b] h = some (.ret (.bool (decide (a ≤ b))), h) := by
  rw [call142]; simp only [F142, k142, Tryz.f142, sxAll, cA, arithA, Env.keep, resultsA, packA, ↓Option.bind_some, Nat.reduceBEq, ↓reduceIte]; exact leave_kept rfl rfl
theorem opI_eq (a b : Int) (h : Heap) : call cfg 143 [.int .i64 a, .int .i64 b] h = some (.ret (.bool (a == b)), h) := by
  rw [call143]; simp only [F143, k143, Tryz.f143, sxAll, cA, arithA, Env.keep, resultsA, packA, ↓Option.bind_some, Nat.reduceBEq, ↓reduceIte]; exact leave_kept rfl rfl
theorem opJ_eq (a b : Int) (h : Heap) : call cfg 144 [.int .i64 a, .int .i64 b] h = some (.ret (.bool (!(a == b))), h) := by
  rw [call144]; simp only [F144, k144, Tryz.f144, sxAll, cA, arithA, Env.keep, resultsA, packA, ↓Option.bind_some, Nat.reduceBEq, bne, ↓reduceIte]; exact leave_kept rfl rfl
theorem opK_eq (a b : Int) (h : Heap) : call cfg 145 [.int .i64 a, .int .i64 b] h = some (.ret (.bool (!(a == 0) && !(b == 0))), h) := by
  rw [call145]
  cases ha : a == 0 <;> simp only [F145, k145, Tryz.f145, sxAll, cA, arithA, Env.keep, resultsA, packA, ↓Option.bind_some, Nat.reduceBEq, bne, ↓reduceIte, ha] <;> exact leave_kept rfl rfl
theorem opL_eq (a b : Int) (h : Heap) : call cfg 146 [.int .i64 a, .int .i64 b] h = some (.ret (.bool (!(a == 0) || !(b == 0))), h) := by
  rw [call146]
  cases ha : a == 0 <;> simp only [F146, k146, Tryz.f146, sxAll, cA, arithA, Env.keep, resultsA, packA, ↓Option.bind_some, Nat.reduceBEq, bne, ↓reduceIte, ha] <;> exact leave_kept rfl rfl
theorem opAA_eq (a b : Int) (g : Nat) (v : Bool) (h : Heap) (hg : call cfg g [.int .i64 a, .int .i64 b] h = some (.ret (.bool v), h)) : call cfg 135 [.int .i64 a, .int .i64 b, .ref [.clo g []]] h = some (.ret (.int .i64 (truthI v)), h) := by
  rw [call135]
  simp only [F135, k135, Tryz.f135, sxAll, cA, Env.keep, qt_eq, resultsA, packA, loadA, Rv.part, cellsAt, TD.isAgg, mapO, ↓Option.bind_some, Nat.reduceBEq, Nat.reduceAdd, ↓reduceIte, hg, truth_eq, pu110, ty193]
  exact leave_kept rfl rfl
theorem opA_eq (g : Nat) (h : Heap) : call cfg 134 [.clo g []] h = some (.ret (.clo 135 [.ref [.clo g []]]), h) := by
  rw [call134]
  simp only [F134, k134, Tryz.f134, sxAll, cA, Env.keep, resultsA, packA, mapO, ↓Option.bind_some, Nat.reduceBEq, Nat.reduceAdd, ↓reduceIte, cells_clo, ty193]
  exact leave_kept rfl rfl
theorem mapAt_app0 (h : Heap) (es : List (AV × AV)) (X : Heap) : Heap.mapAt (h ++ .map es :: X) h.length = some es := by simp [Heap.mapAt]
theorem key_u8 (a : Int) : keyTd cfg 5 (.int .u8) (.int .u8 a) = true := rfl
theorem sameK_u8 (a b : Int) : sameK (.int .u8 a) (.int .u8 b) = some (a == b) := rfl
def opsE : List (AV × AV) := [(.int .u8 7, .clo 136 []), (.int .u8 8, .clo 137 []), (.int .u8 9, .clo 138 []), (.int .u8 10, .clo 139 []), (.int .u8 11, .clo 140 []), (.int .u8 12, .clo 135 [.ref [.clo 141 []]]),
  (.int .u8 13, .clo 135 [.ref [.clo 142 []]]), (.int .u8 14, .clo 135 [.ref [.clo 143 []]]), (.int .u8 15, .clo 135 [.ref [.clo 144 []]]), (.int .u8 16, .clo 135 [.ref [.clo 145 []]]), (.int .u8 17, .clo 135 [.ref [.clo 146 []]])]
theorem ops_eq (h : Heap) : call cfg 111 [] h = some (.ret (.map h.length), h ++ [.map opsE]) := by
  rw [call111]
  simp only [F111, k111, Tryz.f111, sxAll, cA, Env.keep, qt_eq, resultsA, packA, mapO, ↓Option.bind_some, Nat.reduceBEq, Int.reduceBEq, ↓reduceIte, ty170, ty5, known_map, opA_eq, updateA, key_u8, mapAt_app0, sameK_u8, putA, opsE]
  exact leave_impure pu111
theorem take_one (h : Heap) (x : AObj) : (h ++ [x]).take h.length = h := by simp
theorem binary_eq (k a b : Int) (h7 : 7 ≤ k) (h17 : k ≤ 17) (h : Heap) : call cfg 90 [.int .u8 k, .int .i64 a, .int .i64 b] h = some (.ret (.tup [.int .i64 ((binaryF k a b).getD 0), .bool (binaryF k a b).isSome]), h) := by
  rw [call90]
  have hk : k = 7 ∨ k = 8 ∨ k = 9 ∨ k = 10 ∨ k = 11 ∨ k = 12 ∨ k = 13 ∨ k = 14 ∨ k = 15 ∨ k = 16 ∨ k = 17 := by omega
  cases hb : b == 0 with
  | true =>
    have hb' : b = 0 := by simpa using hb
    have e1 : (0 : Int) == 0 := rfl
    rcases hk with rfl | rfl | rfl | rfl | rfl | rfl | rfl | rfl | rfl | rfl | rfl <;>
    (simp only [F90, k90, Tryz.f90, sxAll, cA, arithA, Env.keep, qt_eq, resultsA, packA, unA, Rv.part, TD.isAgg, mapO, ↓Option.bind_some, Nat.reduceBEq, Int.reduceBEq, ↓reduceIte, hb', ops_eq, pu111, lookupA, ty170, ty5, ty168, key_u8, Heap.ents, mapAt_app0, findA, opsE, sameK_u8, known_map, opB_eq, opC_eq, opD_eq, opAA_eq _ _ _ _ _ (opG_eq _ _ _), opAA_eq _ _ _ _ _ (opH_eq _ _ _), opAA_eq _ _ _ _ _ (opI_eq _ _ _), opAA_eq _ _ _ _ _ (opJ_eq _ _ _), opAA_eq _ _ _ _ _ (opK_eq _ _ _), opAA_eq _ _ _ _ _ (opL_eq _ _ _), binaryF, Int.reduceEq]
     exact leave_pure rfl (take_one _ _) rfl)
  | false =>
    have hb' : ¬ b = 0 := by simpa using hb
    rcases hk with rfl | rfl | rfl | rfl | rfl | rfl | rfl | rfl | rfl | rfl | rfl <;>
    (simp only [F90, k90, Tryz.f90, sxAll, cA, arithA, Env.keep, qt_eq, resultsA, packA, unA, Rv.part, TD.isAgg, mapO, ↓Option.bind_some, Nat.reduceBEq, Int.reduceBEq, ↓reduceIte, hb, hb', ops_eq, pu111, lookupA, ty170, ty5, ty168, key_u8, Heap.ents, mapAt_app0, findA, opsE, sameK_u8, known_map, opB_eq, opC_eq, opD_eq, opE_eq _ _ hb, opF_eq' _ _ hb, opAA_eq _ _ _ _ _ (opG_eq _ _ _), opAA_eq _ _ _ _ _ (opH_eq _ _ _), opAA_eq _ _ _ _ _ (opI_eq _ _ _), opAA_eq _ _ _ _ _ (opJ_eq _ _ _), opAA_eq _ _ _ _ _ (opK_eq _ _ _), opAA_eq _ _ _ _ _ (opL_eq _ _ _), binaryF, Int.reduceEq]
     exact leave_pure rfl (take_one _ _) rfl)
end
end Go.Proofs.Sx
namespace Go.Proofs.Sx
open Go.Rv Go.Proofs
attribute [local congr] bind_left got_left
noncomputable section
theorem flatC_intL (xs : List Int) : flatC (intL xs) = intL xs := flatC_plain (plain_ints xs)
theorem storeA_out {H : Heap} {p : SProg} {s m : Nat} {tv ov ov' : AV} {l e : Int} (h : H.obj s 0 = some (p.cells ++ [.ptr m 0 0, tv, .int .i64 l, ov, .int .u8 e])) (hc : ov'.cells = [ov']) (hf : ov'.leaf = true) :
    storeA cfg H 29 (.ptr s 6 0) ov' = some (H.set s (.cells (p.cells ++ [.ptr m 0 0, tv, .int .i64 l, ov', .int .u8 e]) 0)) := by
  have := store1 (v := ov') ty29 h (off := 6) (by simp [SProg.cells]) hc hf
  rw [this]
  rfl
section
variable {p : SProg} {H : Heap} {ρ : Nat → Role} {s : Nat} {σ : SSt} {t : Nat} {rest : List SFrame} {f : SFrame} {i : SIns} {w m mp : Nat} {cv tv ov : AV} {cs ts : List AV} {o g : Nat} {cap : Option Nat} {rvs c : List AV} (X : Ctx p H ρ s σ t rest f i w m mp cv tv ov cs ts o g cap rvs c) (hpc : f.pc < 1000000)
include X
theorem Ctx.other {H' : Heap} {ρ' : Nat → Role} {σ' : SSt} {ov' : AV} (R : Rep p H' ρ' s σ' m mp cv tv ov' cs ts) (ht : σ'.thr = σ.thr) (hl : H.length ≤ H'.length)
    (K : ∀ x, x < H.length → (ρ x = .work ∨ ρ x = .stack t ∨ ∃ k, ρ x = .regs t k) → H'[x]? = H[x]? ∧ ρ' x = ρ x) : Ctx p H' ρ' s σ' t rest f i w m mp cv tv ov' cs ts o g cap rvs c where
  rep := R
  hv := X.hv
  hf := by rw [ht]; exact X.hf
  stk := X.stk.mono fun x hx hr => K x hx (.inr hr)
  hw := obj_of X.hw (K w X.wL (.inl X.wR)).1
  wR := (K w X.wL (.inl X.wR)).2.trans X.wR
theorem Did.of {H' H'' : Heap} {ρ' : Nat → Role} {x : SSt × Bool} (F : Frm H ρ H' ρ') (D : Did p H' ρ' s t w i x H'') : Did p H ρ s t w i x H'' := by
  obtain ⟨ρ2, o2, k2, g2, a, b, d, e⟩ := D
  exact ⟨ρ2, o2, k2, g2, a, b, d, F.trans e⟩
include hpc
theorem unaryW_eq (hr : RegOk f i.r) (ha : RegOk f i.a) (hn : i.n = 5 ∨ i.n = 6) (h1 : i.op = 3) : ∃ H', call cfg 62 [.ptr w 0 0] H = some (.ret (.tup []), H') ∧ Did p H ρ s t w i (exeS p σ t rest f i) H' := by
  obtain ⟨oR, gR, cp, V, hRr, k2⟩ := X.view
  obtain ⟨hu, hs⟩ := unary_eq i.n (regV f i.a) hn H
  obtain ⟨v, hv⟩ := Option.isSome_iff_exists.1 hs
  rw [hv] at hu
  refine ⟨_, ?_, by rw [exeS]; simp only [h1]; rw [show (3 : Int) = 3 from rfl]; simp only [if_pos, hv, Int.reduceEq, if_false]; exact X.topped V hRr k2 (regs' := f.regs.set i.r.toNat v) (by simp) (f.pc + 1)⟩
  rw [call62]
  have hw := V.hw
  have hlw := V.lw
  have hb := becomes_eq V (v := v) hr.1 hr.2 hpc
  have hg := reg_eq V ha.1 ha.2
  have hwr : IntKind.u8.wrap i.n = i.n := by rcases hn with h | h <;> rw [h] <;> rfl
  simp only [workC] at hw
  simp only [Option.getD_some] at hu
  simp only [F62, k62, Tryz.f62, sxAll, cA, Env.keep, qt_eq, resultsA, packA, fieldAddrA, Rv.part, TD.isAgg, convH, convA, mapO, ↓Option.bind_some, Nat.reduceBEq, Nat.reduceAdd, ↓reduceIte, load_ptr, hw, hlw, hb, hg, hu, hwr, pu88, pu89, ty89, ty49, ty3, ty2, ty5]
  exact leave_impure pu62
theorem binaryW_eq (hr : RegOk f i.r) (ha : RegOk f i.a) (hb : RegOk f i.b) (h7 : 7 ≤ i.n) (h17 : i.n ≤ 17) (h1 : i.op = 4) : ∃ H', call cfg 63 [.ptr w 0 0] H = some (.ret (.tup []), H') ∧ Did p H ρ s t w i (exeS p σ t rest f i) H' := by
  obtain ⟨oR, gR, cp, V, hRr, k2⟩ := X.view
  have hu := binary_eq i.n (regV f i.a) (regV f i.b) h7 h17 H
  have hw := V.hw
  have hlw := V.lw
  have hg := reg_eq V ha.1 ha.2
  have hg2 := reg_eq V hb.1 hb.2
  have hwr : IntKind.u8.wrap i.n = i.n := by
    have hk : i.n = 7 ∨ i.n = 8 ∨ i.n = 9 ∨ i.n = 10 ∨ i.n = 11 ∨ i.n = 12 ∨ i.n = 13 ∨ i.n = 14 ∨ i.n = 15 ∨ i.n = 16 ∨ i.n = 17 := by omega
    rcases hk with h | h | h | h | h | h | h | h | h | h | h <;> rw [h] <;> rfl
  simp only [workC] at hw
  have hx : exeS p σ t rest f i = becomesS σ t rest f i.r (binaryF i.n (regV f i.a) (regV f i.b)) := by rw [exeS]; simp only [h1]; rfl
  rw [hx]
  cases hv : binaryF i.n (regV f i.a) (regV f i.b) with
  | none =>
    rw [hv] at hu
    refine ⟨_, ?_, X.trapped⟩
    rw [call63]
    have hbn := becomes_no V (v := 0)
    simp only [Option.getD_none, Option.isSome_none] at hu
    simp only [F63, k63, Tryz.f63, sxAll, cA, Env.keep, qt_eq, resultsA, packA, fieldAddrA, Rv.part, TD.isAgg, convH, convA, mapO, ↓Option.bind_some, Nat.reduceBEq, Nat.reduceAdd, ↓reduceIte, load_ptr, hw, hlw, hbn, hg, hg2, hu, hwr, pu88, pu90, ty89, ty49, ty3, ty2, ty5]
    exact leave_impure pu63
  | some v =>
    rw [hv] at hu
    refine ⟨_, ?_, X.topped V hRr k2 (regs' := f.regs.set i.r.toNat v) (by simp) (f.pc + 1)⟩
    rw [call63]
    have hbn := becomes_eq V (v := v) hr.1 hr.2 hpc
    simp only [Option.getD_some, Option.isSome_some] at hu
    simp only [F63, k63, Tryz.f63, sxAll, cA, Env.keep, qt_eq, resultsA, packA, fieldAddrA, Rv.part, TD.isAgg, convH, convA, mapO, ↓Option.bind_some, Nat.reduceBEq, Nat.reduceAdd, ↓reduceIte, load_ptr, hw, hlw, hbn, hg, hg2, hu, hwr, pu88, pu90, ty89, ty49, ty3, ty2, ty5]
    exact leave_impure pu63
theorem acquire_eq (h0 : 0 ≤ i.n) (hn : i.n < p.locks.length) (h1 : i.op = 7) : ∃ H', call cfg 66 [.ptr w 0 0] H = some (.ret (.tup []), H') ∧ Did p H ρ s t w i (exeS p σ t rest f i) H' := by
  obtain ⟨oR, gR, cp, V, hRr, k2⟩ := X.view
  have hw := V.hw
  have hlw := V.lw
  have hs := X.rep.st
  have hls := live_of hs
  have ht := memTake_eq X.rep.mem X.rep.held h0 hn (t : Int)
  simp only [workC] at hw
  simp only [SProg.cells, List.cons_append, List.nil_append] at hs
  have hx : exeS p σ t rest f i = if (whoHas σ.held i.n).isNone then (setStk { σ with held := σ.held ++ [(i.n, (t : Int))] } t (rest ++ [onward f]), false) else (σ, true) := by rw [exeS]; simp only [h1]; rfl
  rw [hx]
  cases hv : (whoHas σ.held i.n).isNone with
  | true =>
    rw [hv] at ht
    simp only [if_true] at ht ⊢
    have k : ∀ x, ρ x ≠ .held → (H.set mp (.map (heldA (σ.held ++ [(i.n, (t : Int))]))))[x]? = H[x]? := fun x hx => by rw [List.getElem?_set_ne]; intro hc; exact hx (hc ▸ X.rep.heldR)
    have X1 := X.other (X.rep.locks (σ.held ++ [(i.n, (t : Int))])) rfl (by simp) fun x _ hr => ⟨k x (by rcases hr with hr | hr | ⟨q, hr⟩ <;> rw [hr] <;> simp), rfl⟩
    obtain ⟨oR, gR, cp, V1, hRr, k2⟩ := X1.view
    refine ⟨_, ?_, Did.of X ⟨by simp, fun x hx hr => ⟨k x (by rw [hr]; simp), hr⟩⟩ (X1.placed V1 hRr k2 (f.pc + 1))⟩
    have hd := done_eq V1 hpc
    rw [call66]
    simp only [F66, k66, Tryz.f66, sxAll, cA, Env.keep, qt_eq, resultsA, packA, fieldAddrA, Rv.part, TD.isAgg, mapO, ↓Option.bind_some, ↓Option.bind_none, Nat.reduceBEq, Nat.reduceAdd, ↓reduceIte, load_ptr, hw, hlw, hs, hls, ht, hd, pu93, pu91, ty89, ty49, ty51, ty71, ty65, ty3, ty2]
    exact leave_impure pu66
  | false =>
    rw [hv] at ht
    simp only [Bool.false_eq_true, if_false] at ht ⊢
    refine ⟨_, ?_, X.trapped⟩
    have hd := done_no V (e := 6) (by decide)
    rw [call66]
    simp only [F66, k66, Tryz.f66, sxAll, cA, Env.keep, qt_eq, resultsA, packA, fieldAddrA, Rv.part, TD.isAgg, mapO, ↓Option.bind_some, ↓Option.bind_none, Nat.reduceBEq, Nat.reduceAdd, ↓reduceIte, load_ptr, hw, hlw, hs, hls, ht, hd, pu93, pu91, ty89, ty49, ty51, ty71, ty65, ty3, ty2]
    exact leave_impure pu66
theorem release_eq (h0 : 0 ≤ i.n) (hn : i.n < p.locks.length) (h1 : i.op = 8) : ∃ H', call cfg 67 [.ptr w 0 0] H = some (.ret (.tup []), H') ∧ Did p H ρ s t w i (exeS p σ t rest f i) H' := by
  obtain ⟨oR, gR, cp, V, hRr, k2⟩ := X.view
  have hw := V.hw
  have hlw := V.lw
  have hs := X.rep.st
  have hls := live_of hs
  have ht := memGive_eq X.rep.mem X.rep.held h0 hn (t : Int)
  simp only [workC] at hw
  simp only [SProg.cells, List.cons_append, List.nil_append] at hs
  have hx : exeS p σ t rest f i = if whoHas σ.held i.n = some (t : Int) then (setStk { σ with held := letGo σ.held i.n } t (rest ++ [onward f]), false) else (σ, true) := by rw [exeS]; simp only [h1]; rfl
  rw [hx]
  by_cases hv : whoHas σ.held i.n = some (t : Int)
  · rw [if_pos hv] at ht
    rw [if_pos hv]
    have k : ∀ x, ρ x ≠ .held → (H.set mp (.map (heldA (letGo σ.held i.n))))[x]? = H[x]? := fun x hx => by rw [List.getElem?_set_ne]; intro hc; exact hx (hc ▸ X.rep.heldR)
    have X1 := X.other (X.rep.locks (letGo σ.held i.n)) rfl (by simp) fun x _ hr => ⟨k x (by rcases hr with hr | hr | ⟨q, hr⟩ <;> rw [hr] <;> simp), rfl⟩
    obtain ⟨oR, gR, cp, V1, hRr, k2⟩ := X1.view
    refine ⟨_, ?_, Did.of X ⟨by simp, fun x hx hr => ⟨k x (by rw [hr]; simp), hr⟩⟩ (X1.placed V1 hRr k2 (f.pc + 1))⟩
    have hd := done_eq V1 hpc
    rw [call67]
    simp only [F67, k67, Tryz.f67, sxAll, cA, Env.keep, qt_eq, resultsA, packA, fieldAddrA, Rv.part, TD.isAgg, mapO, ↓Option.bind_some, ↓Option.bind_none, Nat.reduceBEq, Nat.reduceAdd, ↓reduceIte, load_ptr, hw, hlw, hs, hls, ht, hd, pu94, pu91, ty89, ty49, ty51, ty71, ty65, ty3, ty2]
    exact leave_impure pu67
  · rw [if_neg hv] at ht
    rw [if_neg hv]
    refine ⟨_, ?_, X.trapped⟩
    have hd := done_no V (e := 69) (by decide)
    rw [call67]
    simp only [F67, k67, Tryz.f67, sxAll, cA, Env.keep, qt_eq, resultsA, packA, fieldAddrA, Rv.part, TD.isAgg, mapO, ↓Option.bind_some, ↓Option.bind_none, Nat.reduceBEq, Nat.reduceAdd, ↓reduceIte, load_ptr, hw, hlw, hs, hls, ht, hd, pu94, pu91, ty89, ty49, ty51, ty71, ty65, ty3, ty2]
    exact leave_impure pu67
theorem store_eq (ha : i.a = -1 ∨ RegOk f i.a) (hb : RegOk f i.b) (h1 : i.op = 6) : ∃ H', call cfg 65 [.ptr w 0 0] H = some (.ret (.tup []), H') ∧ Did p H ρ s t w i (exeS p σ t rest f i) H' := by
  obtain ⟨oR, gR, cp, V, hRr, k2⟩ := X.view
  have hw := V.hw
  have hlw := V.lw
  have hs := X.rep.st
  have hls := live_of hs
  have hp := place_eq V ha
  have hg := reg_eq V hb.1 hb.2
  simp only [workC] at hw
  simp only [SProg.cells, List.cons_append, List.nil_append] at hs
  have hx : exeS p σ t rest f i = if (cellOf σ i.n (placeOf f i)).isSome then (setStk (setCell σ i.n (placeOf f i) (regV f i.b)) t (rest ++ [onward f]), false) else (σ, true) := by rw [exeS]; simp only [h1]; rfl
  rw [hx]
  rcases memSet_eq X.rep.mem X.rep.cArr X.rep.cLen X.rep.cell i.n (placeOf f i) (regV f i.b) (σ := σ) rfl with ⟨hc, e, he, ht⟩ | ⟨hc, l, o2, g2, cap2, hl, hcs, ht⟩
  · rw [hc]
    simp only [Option.isSome_none, Bool.false_eq_true, if_false]
    refine ⟨_, ?_, X.trapped⟩
    have hd := done_no V he
    rw [call65]
    simp only [F65, k65, Tryz.f65, sxAll, cA, Env.keep, qt_eq, resultsA, packA, fieldAddrA, Rv.part, TD.isAgg, mapO, ↓Option.bind_some, ↓Option.bind_none, Nat.reduceBEq, Nat.reduceAdd, ↓reduceIte, load_ptr, hw, hlw, hs, hls, hp, hg, ht, hd, pu92, pu91, pu88, pu73, ty89, ty49, ty51, ty71, ty65, ty3, ty2]
    exact leave_impure pu65
  · rw [hc]
    simp only [if_true]
    obtain ⟨o3, g3, cap3, e3, ho3, hr3⟩ := X.rep.cell _ _ _ hcs hl
    injection e3 with e31 _ _ _ e35; subst e31 e35
    have k : ∀ x, ρ x ≠ .cell i.n.toNat → (H.set o2 (.cells (intL (l.set (placeOf f i).toNat (regV f i.b))) g2))[x]? = H[x]? := fun x hx => by rw [List.getElem?_set_ne]; intro hc; exact hx (hc ▸ hr3)
    have R1 := X.rep.setCell hcs hl (l.set (placeOf f i).toNat (regV f i.b)) (by simp)
    rw [show ({ σ with cells := σ.cells.set i.n.toNat (l.set (placeOf f i).toNat (regV f i.b)) } : SSt) = setCell σ i.n (placeOf f i) (regV f i.b) by
      unfold setCell
      rw [List.getD_eq_getElem?_getD, hl]; rfl] at R1
    have X1 := X.other R1 rfl (by simp) fun x _ hr => ⟨k x (by rcases hr with hr | hr | ⟨q, hr⟩ <;> rw [hr] <;> simp), rfl⟩
    obtain ⟨oR, gR, cp, V1, hRr, k2⟩ := X1.view
    refine ⟨_, ?_, Did.of X ⟨by simp, fun x hx hr => ⟨k x (by rw [hr]; simp), hr⟩⟩ (X1.placed V1 hRr k2 (f.pc + 1))⟩
    have hd := done_eq V1 hpc
    rw [call65]
    simp only [F65, k65, Tryz.f65, sxAll, cA, Env.keep, qt_eq, resultsA, packA, fieldAddrA, Rv.part, TD.isAgg, mapO, ↓Option.bind_some, ↓Option.bind_none, Nat.reduceBEq, Nat.reduceAdd, ↓reduceIte, load_ptr, hw, hlw, hs, hls, hp, hg, ht, hd, pu92, pu91, pu88, pu73, ty89, ty49, ty51, ty71, ty65, ty3, ty2]
    exact leave_impure pu65
theorem out_built (R : Rep p H ρ s σ m mp cv tv ov cs ts) : Built H ov (intL σ.out) 1 := by
  rcases R.out with ⟨h1, h2⟩ | ⟨o, g, cap, h1, h2, _, h4⟩
  · exact .inl ⟨h1, by rw [h2]; rfl⟩
  · exact .inr ⟨o, g, cap, by rw [h1]; simp [intL], by rw [flatC_intL]; exact h2, by simpa [intL] using h4⟩
theorem print_eq (ha : RegOk f i.a) (hl : σ.out.length < 1000000000) (h1 : i.op = 9) : ∃ H', call cfg 68 [.ptr w 0 0] H = some (.ret (.tup []), H') ∧ Did p H ρ s t w i (exeS p σ t rest f i) H' := by
  obtain ⟨oR, gR, cp, V, hRr, k2⟩ := X.view
  have hw := V.hw
  have hlw := V.lw
  have hs := X.rep.st
  have hls := live_of hs
  have hg := reg_eq V ha.1 ha.2
  have hx : exeS p σ t rest f i = (setStk { σ with out := σ.out ++ [regV f i.a] } t (rest ++ [onward f]), false) := by rw [exeS]; simp only [h1]; rfl
  rw [hx]
  have B := out_built X hpc X.rep
  obtain ⟨v', H', q1, q2, q3, q4, q5⟩ := append_built (ys := [AV.int .i64 (regV f i.a)]) B (plain_ints _).size (fun y hy => (plain_ints [regV f i.a]).leafs y hy) (by omega) (by simp [intL, mostLen]; omega)
  have kv := known_built B
  have kv' := known_built q2
  have cv' := built_cells q2
  have lv' := built_leaf q2
  obtain ⟨ρ', hρ, hfr, hnew⟩ : ∃ ρ' : Nat → Role, (∀ x, x < H.length → ρ' x = ρ x) ∧ (∀ o, H'.length ≤ o → ρ' o = .other) ∧ ∀ o, objOf v' = some o → ρ' o = .out := by
    rcases q5 with q5 | q5
    · refine ⟨ρ, fun _ _ => rfl, fun o ho => X.rep.fresh o (by omega), fun o ho => ?_⟩
      rw [q5] at ho
      rcases X.rep.out with ⟨h1, h2⟩ | ⟨o', g', cap', h1, _, h3, _⟩
      · rw [h1] at ho; cases ho
      · rw [h1] at ho; injection ho with ho; subst ho; exact h3
    · refine ⟨upd ρ H.length .out, fun x hx => upd_ne (by omega), fun o ho => ?_, fun o ho => ?_⟩
      · have := built_lt q2 q5
        rw [upd_ne (by omega)]; exact X.rep.fresh o (by omega)
      · rw [q5] at ho; injection ho with ho; subst ho; exact upd_self _ _ _
  have hkeep : ∀ x, x < H.length → ρ x ≠ .out → H'[x]? = H[x]? := fun x hx hr => q4 x hx fun hc => by
    rcases X.rep.out with ⟨h1, h2⟩ | ⟨o', g', cap', h1, _, h3, _⟩
    · rw [h1] at hc; cases hc
    · rw [h1] at hc; injection hc with hc; subst hc; exact hr h3
  have O : (v' = .lst [] 0 .nil ∧ σ.out ++ [regV f i.a] = []) ∨ ∃ o g cap, v' = .msl o 0 (σ.out ++ [regV f i.a]).length 1 g cap ∧ H'.obj o g = some (intL (σ.out ++ [regV f i.a])) ∧ ρ' o = .out ∧ (cap = none ∨ cap = some (σ.out ++ [regV f i.a]).length) := by
    rcases q2 with ⟨_, h2⟩ | ⟨o, g, cap, h1, h2, h3⟩
    · simp [intL] at h2
    · right
      refine ⟨o, g, cap, by rw [h1]; simp [intL], ?_, hnew o (by rw [h1]; rfl), by simpa [intL] using h3⟩
      rw [show intL σ.out ++ [AV.int .i64 (regV f i.a)] = intL (σ.out ++ [regV f i.a]) by simp [intL], flatC_intL] at h2
      exact h2
  have hsL := obj_some hs
  have R1 := X.rep.print (σ.out ++ [regV f i.a]) q3 (fun o ho _ _ h3 => ⟨hkeep o ho h3, hρ o ho⟩) O hfr
  have hs' : H'.obj s 0 = some (p.cells ++ [.ptr m 0 0, tv, .int .i64 σ.last, ov, .int .u8 σ.ending]) := obj_of hs (hkeep s hsL (by rw [X.rep.stR]; simp))
  have hls' := live_of hs'
  have hw' := obj_of V.hw (hkeep w X.wL (by rw [X.wR]; simp))
  have hlw' := live_of hw'
  have X1 := X.other R1 rfl (by simpa using q3) fun x hx hr => ⟨by
    rw [List.getElem?_set_ne (by intro hc; rw [← hc, X.rep.stR] at hr; rcases hr with hr | hr | ⟨q, hr⟩ <;> cases hr)]
    exact hkeep x hx (by rcases hr with hr | hr | ⟨q, hr⟩ <;> rw [hr] <;> simp), hρ x hx⟩
  obtain ⟨oR, gR, cp, V1, hRr, k2⟩ := X1.view
  refine ⟨_, ?_, Did.of X ⟨by simpa using q3, fun x hx hr => ⟨?_, (hρ x hx).trans hr⟩⟩ (X1.placed V1 hRr k2 (f.pc + 1))⟩
  · have hst := storeA_out (ov' := v') hs' cv' lv'
    have hw1 := V1.hw
    have hlw1 := V1.lw
    have hlo1 := V1.lo
    have hL := V1.len
    have hst2 := store1 (v := .int .i64 ((f.pc + 1 : Nat) : Int)) ty3 V1.ho (off := rest.length * 3 + 1) (by omega) rfl rfl
    have hwr := wrap_succ (i := f.pc) (by omega)
    simp only [workC] at hw hw' hw1
    simp only [SProg.cells, List.cons_append, List.nil_append] at hs hs' hst hw1 hlw1 hlo1 hst2
    have d1 := V1.d1
    have ho1 := V1.ho
    simp only [SProg.cells, List.cons_append, List.nil_append] at ho1
    have hgr : elems H (.lst [AV.int .i64 (regV f i.a)] 1 (.exact 1)) = some [AV.int .i64 (regV f i.a)] := rfl
    rw [call68]
    simp (config := { maxSteps := 2000000 }) only [F68, k68, Tryz.f68, sxAll, cA, arithA, Env.keep, qt_eq, resultsA, packA, fieldAddrA, Rv.part, TD.isAgg, fillA, setCells, copies, mapO, ↓Option.bind_some, ↓Option.bind_none, Nat.reduceBEq, Nat.reduceAdd, Nat.reduceMul, Nat.reduceLeDiff, Nat.reduceGT, bne, ↓reduceIte, load_ptr, hw, hlw, hw', hlw', hs, hls, hls', hg, kv, kv', sx_append_l, la68_21, nilA_ptr, eqb_self, group, elems, q1, hst, hw1, hlw1, hlo1, ho1, d1, hst2, hwr, pu88, ty89, ty74, ty84, ty49, ty51, ty71, ty29, ty3, ty2]
    exact leave_impure pu68
  · rw [List.getElem?_set_ne (by intro hc; rw [← hc, X.rep.stR] at hr; cases hr)]
    exact hkeep x hx (by rw [hr]; simp)
end
end
end Go.Proofs.Sx
namespace Go.Proofs.Sx
open Go.Rv Go.Proofs
attribute [local congr] bind_left got_left
noncomputable section
theorem pu39 : cfg.pure 39 = true := rfl
instance t39 {d : Option Nat} : TightD cfg 39 d := ⟨fun _ _ => rfl⟩
def B39 (p : List Bool) := cA p Tryz.f39.body
def R39 (p : List Bool) (i : Nat) := Code.region i (cA p Tryz.f39.body) false
def D39 (p : List Bool) (i : Nat) := Code.region i (cA p Tryz.f39.body) true
theorem F39 : (∀ p i, XR cfg 39 (R39 p i) (B39 p) (cA p Tryz.f39.body).toList i false) ∧ XR cfg 39 (D39 [tt, ff] 1) (B39 [tt, ff]) ((cA [tt, ff] Tryz.f39.body).toList) 1 true ∧ RE cfg 39 [0, 1, 4] ∧ cfg.pure 39 = true := ⟨fun _ _ => xr rfl rfl, xd (by kernel_rfl) rfl rfl, rE fun _ => rfl, rfl⟩
def k39 : Code := (.seq (R39 [ff] 0) (.seq (D39 [tt, ff] 1) .ret))
theorem call39 (x0 x1 : AV) (h : Heap) : call cfg 39 [x0, x1] h = (exec cfg 39 k39 [(0, x0), (1, x1)] h).bind (callEnd cfg 39 h [.cell 4 49]) := call_at2 (fnat Tryz.func39 (b := k39) (by kernel_rfl) (by kernel_rfl)) rfl rfl
theorem pu38 : cfg.pure 38 = true := rfl
instance t38 {d : Option Nat} : TightD cfg 38 d := ⟨fun _ _ => rfl⟩
def B38 (p : List Bool) := cA p Tryz.f38.body
def R38 (p : List Bool) (i : Nat) := Code.region i (cA p Tryz.f38.body) false
def D38 (p : List Bool) (i : Nat) := Code.region i (cA p Tryz.f38.body) true
theorem F38 : (∀ p i, XR cfg 38 (R38 p i) (B38 p) (cA p Tryz.f38.body).toList i false) ∧ GO cfg 38 (B38 [tt, ff, ff]) 2 7 ∧ GO cfg 38 (B38 [tt, ff, ff]) 6 11 ∧ GO cfg 38 (B38 [tt, ff, ff]) 15 20 ∧ XR cfg 38 (D38 [tt, tt, ff] 3) (B38 [tt, tt, ff]) ((cA [tt, tt, ff] Tryz.f38.body).toList) 3 true ∧ RE cfg 38 [0, 1, 4, 30] ∧ cfg.pure 38 = true := ⟨fun _ _ => xr rfl rfl, gO (by kernel_rfl), gO (by kernel_rfl), gO (by kernel_rfl), xd (by kernel_rfl) rfl rfl, rE fun _ => rfl, rfl⟩
def k38 : Code := (.seq (R38 [ff] 0) (.seq (.seq (R38 [tt, ff, ff] 1) (.cond (.tmp 30) (.seq (R38 [tt, ff, tt, ff, ff] 2) .ret) .skip)) (.seq (D38 [tt, tt, ff] 3) .ret)))
theorem call38 (x0 x1 : AV) (h : Heap) : call cfg 38 [x0, x1] h = (exec cfg 38 k38 [(0, x0), (1, x1)] h).bind (callEnd cfg 38 h [.tmp 4]) := call_at2 (fnat Tryz.func38 (b := k38) (by kernel_rfl) (by kernel_rfl)) rfl rfl
theorem pu30 : cfg.pure 30 = false := rfl
instance t30 {d : Option Nat} : TightD cfg 30 d := ⟨fun _ _ => rfl⟩
def B30 (p : List Bool) := cA p Tryz.f30.body
def R30 (p : List Bool) (i : Nat) := Code.region i (cA p Tryz.f30.body) false
theorem F30 : (∀ p i, XR cfg 30 (R30 p i) (B30 p) (cA p Tryz.f30.body).toList i false) ∧ RE cfg 30 [0, 1, 2, 6, 7] ∧ cfg.pure 30 = false := ⟨fun _ _ => xr rfl rfl, rE fun _ => rfl, rfl⟩
def k30 : Code := (.seq (R30 [ff] 0) (.seq (R30 [tt, ff] 1) (.seq (R30 [tt, tt, ff] 2) (.seq (R30 [tt, tt, tt, ff] 3) .ret))))
theorem call30 (x0 x1 x2 : AV) (h : Heap) : call cfg 30 [x0, x1, x2] h = (exec cfg 30 k30 [(0, x0), (1, x1), (2, x2)] h).bind (callEnd cfg 30 h [.cell 6 74]) := call_at2 (fnat Tryz.func30 (b := k30) (by kernel_rfl) (by kernel_rfl)) rfl rfl
theorem insAt_some {p : SProg} {f : SFrame} {i : SIns} (h : insAt p f = some i) : ∃ F, p.funs[f.fn]? = some F ∧ F.code[f.pc]? = some i := by
  unfold insAt at h
  obtain ⟨F, h1, h2⟩ := Option.bind_eq_some_iff.1 h
  exact ⟨F, h1, h2⟩
theorem ins_eq {p : SProg} {H : Heap} {s o g k : Nat} {tl c : List AV} {f : SFrame} {i : SIns} (hs : H.obj s 0 = some (p.cells ++ tl)) (ho : H.obj o g = some c) (d0 : c.drop k = .int .i64 f.fn :: c.drop (k + 1)) (d1 : c.drop (k + 1) = .int .i64 f.pc :: c.drop (k + 2)) (hi : insAt p f = some i) :
    call cfg 39 [.ptr s 0 0, .ptr o k g] H = some (.ret (.agg i.cells), H) := by
  obtain ⟨F, hF, hc⟩ := insAt_some hi
  have hls := live_of hs
  have hlo := live_of ho
  have e1 := funsL_get hF
  have e2 := codeL_get hc
  have os := obj_leftS [AObj.cells [.int .u8 0, .int .i64 0, .int .i64 0, .int .i64 0, .int .i64 0, .lst [] 0 .nil] 0] hs
  have oo := obj_leftS [AObj.cells [.int .u8 0, .int .i64 0, .int .i64 0, .int .i64 0, .int .i64 0, .lst [] 0 .nil] 0] ho
  have ls := live_of os
  have lo := live_of oo
  rw [call39]
  simp only [SProg.cells, List.cons_append, List.nil_append] at os
  simp only [SIns.cells, SFun.cells] at e1 e2 ⊢
  simp only [F39, k39, Tryz.f39, sxAll, cA, Env.keep, qt_eq, resultsA, packA, storeA, indexAddrA, fieldAddrA, loadA, Rv.part, cellsAt, TD.isAgg, setCells, ↓Option.bind_some, Nat.reduceBEq, Nat.reduceAdd, Nat.reduceLeDiff, ↓reduceIte, os, oo, ls, lo, d0, d1, e1, e2, Nat.add_zero, ty71, ty26, ty47, ty24, ty45, ty49, ty74, ty3]
  exact leave_pure rfl (take_one _ _) (freeze_ins _ _ 37 i)
section
variable {p : SProg} {H : Heap} {ρ : Nat → Role} {s : Nat} {σ : SSt} {m mp : Nat} {cv tv ov : AV} {cs ts : List AV} (R : Rep p H ρ s σ m mp cv tv ov cs ts)
include R
theorem top_some {t : Nat} {rest : List SFrame} {f : SFrame} {o g : Nat} {cap : Option Nat} {rvs c : List AV} (hv : ts[t]? = some (.msl o 0 (rest ++ [f]).length 3 g cap)) (S : Stk H ρ t (rest ++ [f]) rvs o g cap c) (hr : rest.length < 1000000000) :
    call cfg 38 [.ptr s 0 0, .int .i64 t] H = some (.ret (.ptr o (rest.length * 3) g), H) := by
  have hs := R.st
  have hls := live_of hs
  have e0 := ptr_eq_nil (H := H) (k := 0) ty51 hls
  have kt := R.tArr.known
  have lt := R.tArr.len 76
  have htl := (List.getElem?_eq_some_iff.1 hv).1
  obtain ⟨oT, gT, i1, i2, i3, i4⟩ := R.tArr.at (i := (t : Int)) (by omega) hv ty69 ty76
  simp only [Int.toNat_natCast] at i1 i4
  have hlo := live_of S.obj
  have h1 : ((t : Int) ≥ (ts.length : Int)) = False := by simp; omega
  have l2 : lenA H (.slice 74) (.msl o 0 (rest ++ [f]).length 3 g cap) = some (rest ++ [f]).length := by simp [lenA, hlo]
  have h2 : (((rest ++ [f]).length : Nat) : Int) = (rest.length : Int) + 1 := by simp
  have h3 : ((rest.length : Int) + 1 == 0) = false := by simp; omega
  have h4 : IntKind.i64.wrap ((rest.length : Int) + 1 - 1) = rest.length := by rw [wrap_id (by omega) (by omega)]; omega
  have i5 : indexAddrA cfg H 76 (.msl o 0 (rest ++ [f]).length 3 g cap) (.int .i64 rest.length) = some (.ptr o (rest.length * 3) g) := by
    have : ¬ (rest.length : Int) < 0 := by omega
    simp [indexAddrA, ty76, ty74, hlo, this]
  have hoL := obj_some S.obj
  rw [call38]
  simp only [SProg.cells, List.cons_append, List.nil_append] at hs
  generalize hN : (rest ++ [f]).length = N at *
  simp only [F38, k38, Tryz.f38, sxAll, cA, arithA, Env.keep, qt_eq, resultsA, packA, fieldAddrA, Rv.part, TD.isAgg, ↓Option.bind_some, Nat.reduceBEq, Nat.reduceAdd, ↓reduceIte, load_ptr, hs, hls, e0, kt, lt, h1, i1, i2, i4, l2, h2, h3, h4, i5, ty71, ty69, ty76]
  exact leave_kept rfl (by simp [freezeV, hoL])
theorem top_none {t : Int} (hn : t < 0 ∨ (σ.thr.length : Int) ≤ t ∨ (0 ≤ t ∧ σ.thr[t.toNat]? = some [])) : call cfg 38 [.ptr s 0 0, .int .i64 t] H = some (.ret .nilPtr, H) := by
  have hs := R.st
  have hls := live_of hs
  have e0 := ptr_eq_nil (H := H) (k := 0) ty51 hls
  have kt := R.tArr.known
  have lt := R.tArr.len 76
  simp only [SProg.cells, List.cons_append, List.nil_append] at hs
  rw [call38]
  by_cases h1 : t < 0
  · simp only [F38, k38, Tryz.f38, sxAll, cA, arithA, Env.keep, resultsA, packA, ↓Option.bind_some, Nat.reduceBEq, ↓reduceIte, e0, h1]
    exact leave_kept rfl rfl
  by_cases h2 : t ≥ (ts.length : Int)
  · simp only [F38, k38, Tryz.f38, sxAll, cA, arithA, Env.keep, qt_eq, resultsA, packA, fieldAddrA, Rv.part, TD.isAgg, ↓Option.bind_some, Nat.reduceBEq, Nat.reduceAdd, ↓reduceIte, load_ptr, hs, hls, e0, kt, lt, h1, h2, ty71, ty69]
    exact leave_kept rfl rfl
  have hn' : σ.thr[t.toNat]? = some [] := by
    rcases hn with h | h | h
    · exact absurd h h1
    · rw [← R.tLen] at h; exact absurd h h2
    · exact h.2
  obtain ⟨v, hv⟩ : ∃ v, ts[t.toNat]? = some v := ⟨_, List.getElem?_eq_getElem (by omega)⟩
  obtain ⟨rvs, o, g, cap, c, rfl, S⟩ := R.stk _ _ _ hv hn'
  obtain ⟨oT, gT, i1, i2, i3, i4⟩ := R.tArr.at (i := t) (by omega) hv ty69 ty76
  have hlo := live_of S.obj
  have l2 : lenA H (.slice 74) (.msl o 0 ([] : List SFrame).length 3 g cap) = some 0 := by simp [lenA, hlo]
  simp only [List.length_nil] at l2 i4
  simp only [F38, k38, Tryz.f38, sxAll, cA, arithA, Env.keep, qt_eq, resultsA, packA, fieldAddrA, Rv.part, TD.isAgg, ↓Option.bind_some, Nat.reduceBEq, Nat.reduceAdd, ↓reduceIte, load_ptr, hs, hls, e0, kt, lt, h1, h2, i1, i2, i4, l2, Int.natCast_zero, ty71, ty69, ty76]
  exact leave_kept rfl rfl
end
theorem copies_int : ∀ n : Nat, copies n [AV.int .i64 0] = intL (List.replicate n 0)
  | 0 => rfl
  | n + 1 => by
    have := copies_int n
    simp only [copies, this, List.replicate_succ, intL, List.map_cons, List.cons_append, List.nil_append]
theorem setCells_pre : ∀ (ds cs : List AV), ds.length ≤ cs.length → setCells cs 0 ds = ds ++ cs.drop ds.length := fun ds cs h => by
  apply List.ext_getElem?
  intro i
  rw [setCells_at ds cs 0 (by omega)]
  by_cases hi : i < ds.length
  · rw [if_pos ⟨by omega, by omega⟩, List.getElem?_append_left hi]; simp
  · rw [if_neg (by omega), List.getElem?_append_right (by omega), List.getElem?_drop]
    congr 1; omega
theorem copy_new {H : Heap} {oR N : Nat} {u : Nat} {args : List Int} {av : AV} (ho : H.obj oR 0 = some (copies N [AV.int .i64 0])) (hl : args.length ≤ N) (he : elems H av = some (intL args)) :
    moreA cfg H .copy [29, u] [.msl oR 0 N 1 0 (some N), av] = some (.int .i64 args.length, H.set oR (.cells (intL (args ++ List.replicate (N - args.length) 0)) 0)) := by
  have hoL := obj_some ho
  have hlen : (copies N [AV.int .i64 0]).length = N := by rw [copies_int]; simp [intL]
  have hfl : ((intL args).map AV.cells).flatten = intL args := flatC_intL args
  have hset : setCells (copies N [AV.int .i64 0]) 0 (intL args) = intL (args ++ List.replicate (N - args.length) 0) := by
    rw [setCells_pre _ _ (by rw [hlen]; simp [intL]; exact hl), copies_int]
    simp [intL]
  cases args with
  | nil =>
    have : H.set oR (.cells (intL (List.replicate N 0)) 0) = H := by
      apply set_get_same
      rw [copies_int] at ho
      unfold Heap.obj at ho
      split at ho
      · rename_i h1
        split at ho
        · rename_i h2
          injection ho with ho; subst ho
          have := beq_iff_eq.1 h2; subst this
          exact h1
        · cases ho
      · cases ho
    simp [moreA, ty29, ty2, he, ho, intL]
    simpa [intL] using this.symm
  | cons a r =>
    have hm : Nat.min (intL (a :: r)).length N = (a :: r).length := by
      have : (intL (a :: r)).length = (a :: r).length := by simp [intL]
      rw [this]; exact Nat.min_eq_left hl
    have hz : ((a :: r).length == 0) = false := rfl
    have htk : (intL (a :: r)).take ((a :: r).length * 1) = intL (a :: r) := List.take_of_length_le (by simp [intL])
    have hall : (intL (a :: r)).all AV.leaf = true := by simp [intL, AV.leaf]
    have hl0 : ((intL (a :: r)).length == (a :: r).length * 1) = true := by simp [intL]
    have hle : (0 + N * 1 ≤ (copies N [AV.int .i64 0]).length) = True := by rw [hlen]; simp
    simp only [moreA, ty29, ty2, he, ho, hm, hz, hfl, htk, hall, hl0, hle, hset, Option.bind_eq_bind, Option.bind_some, Bool.false_eq_true, if_false, beq_self_eq_true, decide_true, Bool.and_true, Bool.and_self, if_true]
theorem frame_eq {p : SProg} {H : Heap} {s n : Nat} {tl : List AV} {F : SFun} {args : List Int} {av : AV} (hs : H.obj s 0 = some (p.cells ++ tl)) (hF : p.funs[n]? = some F) (h0 : 0 ≤ F.regs) (h4 : F.regs ≤ 4096) (hl : (args.length : Int) ≤ F.regs) (kv : known av = some av) (he : ∀ X, elems (H ++ X) av = some (intL args)) :
    ∃ X oR, call cfg 30 [.ptr s 0 0, .int .i64 n, av] H = some (.ret (.agg [.int .i64 n, .int .i64 0, .msl oR 0 F.regs.toNat 1 0 (some F.regs.toNat)]), H ++ X) ∧ (H ++ X).obj oR 0 = some (intL (newFrame p n args).regs) ∧ H.length ≤ oR := by
  have hls := live_of hs
  have e1 := funsL_get hF
  obtain ⟨N, hN⟩ : ∃ N : Nat, F.regs = N := ⟨F.regs.toNat, by omega⟩
  have hNt : F.regs.toNat = N := by omega
  have hnew : (newFrame p n args).regs = args ++ List.replicate (N - args.length) 0 := by simp [newFrame, hF, hNt]
  rw [hNt, hnew]
  refine ⟨[.cells [.int .i64 n, .int .i64 0, .msl (H.length + 1) 0 N 1 0 (some N)] 0, .cells (intL (args ++ List.replicate (N - args.length) 0)) 0, .cells [.int .i64 n, .int .i64 0, .msl (H.length + 1) 0 N 1 0 (some N)] 0], H.length + 1, ?_, by rw [obj_app]; rfl, by omega⟩
  have hX : ∀ X, Heap.obj (H ++ X) s 0 = some (p.cells ++ tl) := fun X => obj_leftS X hs
  have hlX : ∀ X, Heap.live (H ++ X) s 0 = true := fun X => live_of (hX X)
  have hcp : ∀ x y, moreA cfg (H ++ [x, .cells (copies N [AV.int .i64 0]) 0, y]) .copy [29, 29] [.msl (H.length + 1) 0 N 1 0 (some N), av] = some (.int .i64 args.length, H ++ [x, .cells (intL (args ++ List.replicate (N - args.length) 0)) 0, y]) := fun x y => by
    rw [copy_new (by rw [obj_app]; rfl) (by omega) (he _)]
    rw [set_app]; rfl
  have hms : ∀ X, makeSliceA cfg (H ++ X) 29 (.int .i64 N) (.int .i64 N) = some (.msl (H ++ X).length 0 N 1 0 (some N), (H ++ X) ++ [.cells (copies N [AV.int .i64 0]) 0]) := fun X => by
    have hm : (N : Int) ≤ (mostLen : Int) := by simp [mostLen]; omega
    simp [makeSliceA, ty29, ty2, hm]
  simp only [SProg.cells, List.cons_append, List.nil_append] at hX
  rw [call30]
  simp only [SFun.cells, hN] at e1
  simp only [F30, k30, Tryz.f30, sxAll, cA, Env.keep, qt_eq, resultsA, packA, storeA, indexAddrA, fieldAddrA, loadA, Rv.part, cellsAt, TD.isAgg, buildA, fillA, setCells, ↓Option.bind_some, Nat.reduceBEq, Nat.reduceAdd, Nat.reduceLeDiff, ↓reduceIte, hX, hlX, e1, hms, hcp, kv, cells_msl, leaf_msl, Nat.add_zero, ty71, ty26, ty47, ty24, ty74, ty3, ty29]
  exact leave_impure pu30
end
end Go.Proofs.Sx
namespace Go.Proofs.Sx
open Go.Rv Go.Proofs
attribute [local congr] bind_left got_left
noncomputable section
theorem pu109 : cfg.pure 109 = true := rfl
instance t109 {d : Option Nat} : TightD cfg 109 d := ⟨fun _ _ => rfl⟩
def B109 (p : List Bool) := cA p Tryz.f109.body
def R109 (p : List Bool) (i : Nat) := Code.region i (cA p Tryz.f109.body) false
theorem F109 : (∀ p i, XR cfg 109 (R109 p i) (B109 p) (cA p Tryz.f109.body).toList i false) ∧ RE cfg 109 [0, 1, 4, 5, 6, 7, 8, 9, 10, 11, 12, 13] ∧ cfg.pure 109 = true := ⟨fun _ _ => xr rfl rfl, rE fun _ => rfl, rfl⟩
def k109 : Code := (.seq (R109 [ff] 0) (.seq (R109 [tt, ff] 1) (.seq (R109 [tt, tt, ff] 2) (.seq (R109 [tt, tt, tt, ff] 3) (.seq (R109 [tt, tt, tt, tt, ff] 4) (.seq (R109 [tt, tt, tt, tt, tt, ff] 5) (.seq (R109 [tt, tt, tt, tt, tt, tt, ff] 6) (.seq (R109 [tt, tt, tt, tt, tt, tt, tt, ff] 7) (.seq (R109 [tt, tt, tt, tt, tt, tt, tt, tt, ff] 8) (.seq (R109 [tt, tt, tt, tt, tt, tt, tt, tt, tt, ff] 9) (.seq (R109 [tt, tt, tt, tt, tt, tt, tt, tt, tt, tt, ff] 10) (.seq (R109 [tt, tt, tt, tt, tt, tt, tt, tt, tt, tt, tt, ff] 11) .ret))))))))))))
theorem call109 (x0 x1 : AV) (h : Heap) : call cfg 109 [x0, x1] h = (exec cfg 109 k109 [(0, x0), (1, x1)] h).bind (callEnd cfg 109 h [.tmp 4, .tmp 5]) := call_at2 (fnat Tryz.func109 (b := k109) (by kernel_rfl) (by kernel_rfl)) rfl rfl
theorem pu85 : cfg.pure 85 = true := rfl
instance t85 {d : Option Nat} : TightD cfg 85 d := ⟨fun _ _ => rfl⟩
def B85 (p : List Bool) := cA p Tryz.f85.body
def R85 (p : List Bool) (i : Nat) := Code.region i (cA p Tryz.f85.body) false
theorem F85 : (∀ p i, XR cfg 85 (R85 p i) (B85 p) (cA p Tryz.f85.body).toList i false) ∧ RE cfg 85 [0, 1, 4, 5, 6, 7, 8, 9] ∧ cfg.pure 85 = true := ⟨fun _ _ => xr rfl rfl, rE fun _ => rfl, rfl⟩
def k85 : Code := (.seq (R85 [ff] 0) (.seq (.cond (.const (.bool false)) (.seq (R85 [tt, ff, ff, ff] 1) (.seq (R85 [tt, ff, ff, tt, ff] 2) .ret)) .skip) (.seq (R85 [tt, tt, ff] 3) (.seq (R85 [tt, tt, tt, ff] 4) .ret))))
theorem call85 (x0 x1 : AV) (h : Heap) : call cfg 85 [x0, x1] h = (exec cfg 85 k85 [(0, x0), (1, x1)] h).bind (callEnd cfg 85 h [.tmp 4, .tmp 5]) := call_at2 (fnat Tryz.func85 (b := k85) (by kernel_rfl) (by kernel_rfl)) rfl rfl
theorem pu50 : cfg.pure 50 = false := rfl
instance t50 {d : Option Nat} : TightD cfg 50 d := ⟨fun _ _ => rfl⟩
def B50 (p : List Bool) := cA p Tryz.f50.body
def R50 (p : List Bool) (i : Nat) := Code.region i (cA p Tryz.f50.body) false
def D50 (p : List Bool) (i : Nat) := Code.region i (cA p Tryz.f50.body) true
theorem F50 : (∀ p i, XR cfg 50 (R50 p i) (B50 p) (cA p Tryz.f50.body).toList i false) ∧ GO cfg 50 (B50 [tt, tt, tt, ff, ff]) 2 23 ∧ XR cfg 50 (D50 [tt, tt, tt, tt, tt, tt, ff, ff, ff, tt, ff] 9) (B50 [tt, tt, tt, tt, tt, tt, ff, ff, ff, tt, ff]) ((cA [tt, tt, tt, tt, tt, tt, ff, ff, ff, tt, ff] Tryz.f50.body).toList) 9 true ∧ RE cfg 50 [0, 1, 4, 5, 6, 7, 8, 10, 26, 37] ∧ cfg.pure 50 = false := ⟨fun _ _ => xr rfl rfl, gO (by kernel_rfl), xd (by kernel_rfl) rfl rfl, rE fun _ => rfl, rfl⟩
def l50_0 : Code := (.seq (.seq (R50 [tt, tt, tt, tt, tt, tt, ff, ff, ff, ff, ff] 8) (.cond (.tmp 37) .skip (.exit 0))) (.block 1 (D50 [tt, tt, tt, tt, tt, tt, ff, ff, ff, tt, ff] 9)))
def k50 : Code := (.seq (R50 [ff] 0) (.seq (.seq (R50 [tt, ff, ff] 1) (.cond (.tmp 10) (R50 [tt, ff, tt, ff] 2) .skip)) (.seq (R50 [tt, tt, ff] 3) (.seq (.seq (R50 [tt, tt, tt, ff, ff] 4) (.cond (.tmp 26) (R50 [tt, tt, tt, ff, tt, ff] 5) .skip)) (.seq (R50 [tt, tt, tt, tt, ff] 6) (.seq (R50 [tt, tt, tt, tt, tt, ff] 7) (.seq (.block 0 (.loop l50_0)) (.seq (R50 [tt, tt, tt, tt, tt, tt, tt, ff] 10) .ret))))))))
theorem call50 (x0 x1 : AV) (h : Heap) : call cfg 50 [x0, x1] h = (exec cfg 50 k50 [(0, x0), (1, x1)] h).bind (callEnd cfg 50 h [.tmp 4]) := call_at2 (fnat Tryz.func50 (b := k50) (by kernel_rfl) (by kernel_rfl)) rfl rfl
theorem u64w (n : Int) : IntKind.u64.wrap n = n % 18446744073709551616 := by simp [IntKind.wrap, IntKind.bits, IntKind.signed]
theorem and_low {n : Nat} (h : n < 4294967296) : IntKind.u64.wrap ((BitVec.ofInt IntKind.u64.bits (n : Int) &&& BitVec.ofInt IntKind.u64.bits 4294967295).toNat : Int) = n := by
  have : (BitVec.ofInt IntKind.u64.bits (n : Int) &&& BitVec.ofInt IntKind.u64.bits 4294967295).toNat = n := by
    have e1 : (BitVec.ofInt IntKind.u64.bits (n : Int)).toNat = n := by
      simp [IntKind.bits]; omega
    have e2 : (BitVec.ofInt IntKind.u64.bits (4294967295 : Int)).toNat = 4294967295 := by simp [IntKind.bits]
    rw [BitVec.toNat_and, e1, e2]
    have := Nat.and_two_pow_sub_one_eq_mod n 32
    simp at this
    rw [this]; omega
  rw [this, u64w]; omega
theorem mul64_one {n : Nat} (h : n < 4294967296) (H : Heap) : call cfg 109 [.int .u64 1, .int .u64 n] H = some (.ret (.tup [.int .u64 0, .int .u64 n]), H) := by
  rw [call109]
  have a1 := and_low (n := 1) (by omega)
  have a2 := and_low h
  have a3 := and_low (n := 0) (by omega)
  simp only [Int.natCast_one, Int.natCast_zero] at a1 a3
  have s1 : Int.fdiv (1 : Int) (2 ^ Nat.min (32 : Int).toNat IntKind.u64.bits) = 0 := by decide
  have s0 : Int.fdiv (0 : Int) (2 ^ Nat.min (32 : Int).toNat IntKind.u64.bits) = 0 := by decide
  have s2 : Int.fdiv (n : Int) (2 ^ Nat.min (32 : Int).toNat IntKind.u64.bits) = 0 := by
    have : (2 : Int) ^ Nat.min (32 : Int).toNat IntKind.u64.bits = 4294967296 := by decide
    rw [this, Int.fdiv_eq_ediv_of_nonneg _ (by omega)]
    omega
  have w0 : IntKind.u64.wrap 0 = 0 := by rw [u64w]; rfl
  have wn : IntKind.u64.wrap (n : Int) = n := by rw [u64w]; omega
  simp only [F109, k109, Tryz.f109, sxAll, cA, arithA, Env.keep, resultsA, packA, ↓Option.bind_some, Nat.reduceBEq, Int.reduceLT, ↓reduceIte, a1, a2, a3, s0, s1, s2, w0, wn, Int.zero_mul, Int.mul_zero, Int.one_mul, Int.add_zero]
  exact leave_kept rfl rfl
theorem mul_one {n : Nat} (h : n < 4294967296) (H : Heap) : call cfg 85 [.int .u64 1, .int .u64 n] H = some (.ret (.tup [.int .u64 0, .int .u64 n]), H) := by
  rw [call85]
  simp only [F85, k85, Tryz.f85, sxAll, cA, Env.keep, qt_eq, resultsA, packA, mapO, ↓Option.bind_some, Nat.reduceBEq, ↓reduceIte, mul64_one h, pu109]
  exact leave_kept rfl rfl
def repI (k n : Nat) (v : Int) : List Int := List.replicate k v ++ List.replicate (n - k) 0
theorem repI_len {k n : Nat} (v : Int) (h : k ≤ n) : (repI k n v).length = n := by simp [repI]; omega
theorem group_take : ∀ (k : Nat) (xs : List Int), k ≤ xs.length → group k (intL xs) 1 = intL (xs.take k)
  | 0, _, _ => rfl
  | k + 1, [], h => by simp at h
  | k + 1, x :: r, h => by
    have := group_take k r (by simpa using h)
    simp only [intL, List.map_cons, group, beq_self_eq_true, if_true, List.headD_cons, List.drop_succ_cons, List.drop_zero, one_int, List.take_succ_cons] at this ⊢
    rw [this]
theorem set_rep {k j n : Nat} {v : Int} (h : k + j ≤ n) : setCells (intL (repI k n v)) k (intL (List.replicate j v)) = intL (repI (k + j) n v) := by
  apply List.ext_getElem?
  intro i
  have hl1 : (intL (List.replicate j v)).length = j := by simp [intL]
  have hl2 : (intL (repI k n v)).length = n := by rw [intL_len, repI_len v (by omega)]
  have hsc := setCells_at (intL (List.replicate j v)) (intL (repI k n v)) k (by rw [hl1, hl2]; exact h) i
  rw [hsc]
  simp only [hl1]
  by_cases h1 : k ≤ i ∧ i < k + j
  · rw [if_pos h1]
    have e1 : (repI (k + j) n v)[i]? = some v := by
      unfold repI
      rw [List.getElem?_append_left (by simp; omega), List.getElem?_replicate, if_pos (by omega)]
    simp only [intL, List.getElem?_map, e1, Option.map_some, List.getElem?_replicate]
    rw [if_pos (by omega)]; rfl
  · rw [if_neg h1]
    by_cases h2 : i < k
    · have e1 : (repI (k + j) n v)[i]? = some v := by unfold repI; rw [List.getElem?_append_left (by simp; omega), List.getElem?_replicate, if_pos (by omega)]
      have e2 : (repI k n v)[i]? = some v := by unfold repI; rw [List.getElem?_append_left (by simp; omega), List.getElem?_replicate, if_pos (by omega)]
      simp only [intL, List.getElem?_map, e1, e2]
    · by_cases h3 : i < n
      · have e1 : (repI (k + j) n v)[i]? = some 0 := by unfold repI; rw [List.getElem?_append_right (by simp; omega), List.getElem?_replicate, if_pos (by simp; omega)]
        have e2 : (repI k n v)[i]? = some 0 := by unfold repI; rw [List.getElem?_append_right (by simp; omega), List.getElem?_replicate, if_pos (by simp; omega)]
        simp only [intL, List.getElem?_map, e1, e2]
      · rw [List.getElem?_eq_none (by rw [hl2]; omega), List.getElem?_eq_none (by rw [intL_len, repI_len v h]; omega)]
theorem repeat_loop (H : Heap) (v : Int) (n : Nat) (hn : n < 100000) : ∀ (d k : Nat), 1 ≤ k → k ≤ n → n - k ≤ d → ∀ t0 t1 t4 t5 t6 e g f,
    Got (exec cfg 50 (.loop l50_0) [(0, t0), (1, t1), (4, t4), (5, t5), (6, t6), (7, .msl H.length 0 n 1 0 (some n)), (8, .int .i64 k), (10, e), (26, g), (37, f)] (H ++ [.cells (intL (repI k n v)) 0])) (fun q => ∃ f', q = (.exit 0, [(0, t0), (1, t1), (4, t4), (5, t5), (6, t6), (7, .msl H.length 0 n 1 0 (some n)), (8, .int .i64 n), (10, e), (26, g), (37, f')], H ++ [.cells (intL (repI n n v)) 0])) := by
  intro d
  induction d with
  | zero =>
    intro k h1 h2 h3 t0 t1 t4 t5 t6 e g f
    obtain rfl : k = n := by omega
    have hl : lenA (H ++ [.cells (intL (repI k k v)) 0]) (.slice 2) (.msl H.length 0 k 1 0 (some k)) = some k := by simp [lenA, live_app0, live_zero]
    rw [got_loop]
    simp only [l50_0, F50, Tryz.f50, sxAll, cA, arithA, Env.keep, ↓Option.bind_some, Nat.reduceBEq, ↓reduceIte, hl, Nat.lt_irrefl, ty29]
    exact ⟨_, rfl⟩
  | succ d ih =>
    intro k h1 h2 h3 t0 t1 t4 t5 t6 e g f
    by_cases hkn : k = n
    · subst hkn
      have hl : lenA (H ++ [.cells (intL (repI k k v)) 0]) (.slice 2) (.msl H.length 0 k 1 0 (some k)) = some k := by simp [lenA, live_app0, live_zero]
      rw [got_loop]
      simp only [l50_0, F50, Tryz.f50, sxAll, cA, arithA, Env.keep, ↓Option.bind_some, Nat.reduceBEq, ↓reduceIte, hl, Nat.lt_irrefl, ty29]
      exact ⟨_, rfl⟩
    · have hlt : (k < n) = True := by simp; omega
      have hl : lenA (H ++ [.cells (intL (repI k n v)) 0]) (.slice 2) (.msl H.length 0 n 1 0 (some n)) = some n := by simp [lenA, live_app0, live_zero]
      have hob : Heap.obj (H ++ [.cells (intL (repI k n v)) 0]) H.length 0 = some (intL (repI k n v)) := by rw [obj_app0, obj_zero]
      have hlen : (intL (repI k n v)).length = n := by rw [intL_len, repI_len v (by omega)]
      have sl1 : sliceA cfg (H ++ [.cells (intL (repI k n v)) 0]) 29 (.msl H.length 0 n 1 0 (some n)) (some (.int .i64 k)) none none = some (.msl H.length k (n - k) 1 0 (some (n - k))) := by
        have : (k : Int) ≤ n := by omega
        simp [sliceA, ty29, ty2, hob, boundA, h2]
      have sl2 : sliceA cfg (H ++ [.cells (intL (repI k n v)) 0]) 29 (.msl H.length 0 n 1 0 (some n)) none (some (.int .i64 k)) none = some (.msl H.length 0 k 1 0 (some n)) := by
        have : (k : Int) ≤ n := by omega
        simp [sliceA, ty29, ty2, hob, boundA, h2]
      obtain ⟨j, hj⟩ : ∃ j, j = Nat.min k (n - k) := ⟨_, rfl⟩
      have hjc : (k ≤ n - k ∧ j = k) ∨ (n - k < k ∧ j = n - k) := by
        by_cases hc : k ≤ n - k
        · exact .inl ⟨hc, by rw [hj]; exact Nat.min_eq_left hc⟩
        · exact .inr ⟨by omega, by rw [hj]; exact Nat.min_eq_right (by omega)⟩
      have hj1 : 1 ≤ j := by omega
      have hj2 : k + j ≤ n := by omega
      have hjk : j ≤ k := by omega
      have htk : (repI k n v).take k = List.replicate k v := by unfold repI; rw [List.take_left' (by simp)]
      have hel : elems (H ++ [.cells (intL (repI k n v)) 0]) (.msl H.length 0 k 1 0 (some n)) = some (intL (List.replicate k v)) := by
        have : k ≤ (intL (repI k n v)).length := by omega
        simp only [elems, hob, Option.bind_eq_bind, Option.bind_some, Nat.zero_add, Nat.mul_one, List.drop_zero, this, if_true]
        rw [group_take k _ (by rw [repI_len v (by omega)]; exact h2), htk]
      have hcp : moreA cfg (H ++ [.cells (intL (repI k n v)) 0]) .copy [29, 29] [.msl H.length k (n - k) 1 0 (some (n - k)), .msl H.length 0 k 1 0 (some n)] = some (.int .i64 j, H ++ [.cells (intL (repI (k + j) n v)) 0]) := by
        have e1 : ((intL (List.replicate k v)).map AV.cells).flatten = intL (List.replicate k v) := flatC_intL _
        have e2 : (intL (List.replicate k v)).length = k := by simp [intL]
        have e3 : (intL (List.replicate k v)).take j = intL (List.replicate j v) := by
          rw [intL, ← List.map_take, List.take_replicate, Nat.min_eq_left hjk]; rfl
        have e4 : (intL (List.replicate j v)).length = j := by simp [intL]
        have e5 : (intL (List.replicate j v)).all AV.leaf = true := by simp [intL, AV.leaf]
        have e6 : (j == 0) = false := by simp; omega
        have e7 : (k + (n - k) ≤ (intL (repI k n v)).length) = True := by rw [hlen]; simp; omega
        simp only [moreA, ty29, ty2, hel, hob, Option.bind_eq_bind, Option.bind_some, e1, e2, ← hj, e3, e4, e5, e6, e7, set_rep hj2, Nat.mul_one, Bool.false_eq_true, if_false, beq_self_eq_true, decide_true, Bool.and_self, if_true, set_app0, List.set_cons_zero]
      have hw : IntKind.i64.wrap ((k : Int) + (j : Int)) = ((k + j : Nat) : Int) := by rw [wrap_id (by omega) (by omega)]; omega
      have := ih (k + j) (by omega) hj2 (by omega)
      rw [got_loop]
      simp only [l50_0] at this ⊢
      simp only [F50, Tryz.f50, sxAll, cA, arithA, Env.keep, optA, ↓Option.bind_some, Nat.reduceBEq, ↓reduceIte, hl, hlt, sl1, sl2, hcp, hw, ty29] at this ⊢
      exact this _ _ _ _ _ _ _ _
theorem repeat_eq (H : Heap) (v : Int) (n : Nat) (h1 : 1 ≤ n) (hn : n < 100000) : call cfg 50 [.lst [.int .i64 v] 1 (.exact 1), .int .i64 n] H = some (.ret (.msl H.length 0 n 1 0 (some n)), H ++ [.cells (intL (List.replicate n v)) 0]) := by
  obtain ⟨⟨o, e', H'⟩, hx, f1, hq⟩ := repeat_loop H v n hn n 1 (by omega) h1 (by omega) (.lst [.int .i64 v] 1 (.exact 1)) (.int .i64 n) (.lst [] 0 .nil) (.int .u64 0) (.int .u64 n) (.bool false) (.bool false) .junk
  simp only [Prod.mk.injEq] at hq
  obtain ⟨rfl, rfl, rfl⟩ := hq
  have hml := mul_one (n := n) (by omega) H
  have w1 : IntKind.u64.wrap 1 = 1 := by rw [u64w]; rfl
  have w1' : IntKind.u64.wrap ((1 : Nat) : Int) = 1 := by rw [u64w]; rfl
  have wn : IntKind.u64.wrap (n : Int) = n := by rw [u64w]; omega
  have wi : IntKind.i64.wrap (n : Int) = n := wrap_id (by omega) (by omega)
  have hng : ((n : Int) > 9223372036854775807) = False := by simp; omega
  have hms : makeSliceA cfg H 29 (.int .i64 n) (.int .i64 n) = some (.msl H.length 0 n 1 0 (some n), H ++ [.cells (copies n [AV.int .i64 0]) 0]) := by
    have hm : (n : Int) ≤ (mostLen : Int) := by simp [mostLen]; omega
    simp [makeSliceA, ty29, ty2, hm]
  have hz : copies n [AV.int .i64 0] = intL (List.replicate n 0) := copies_int n
  have hcp : moreA cfg (H ++ [.cells (copies n [AV.int .i64 0]) 0]) .copy [29, 29] [.msl H.length 0 n 1 0 (some n), .lst [.int .i64 v] 1 (.exact 1)] = some (.int .i64 1, H ++ [.cells (intL (repI 1 n v)) 0]) := by
    have := copy_new (H := H ++ [.cells (copies n [AV.int .i64 0]) 0]) (oR := H.length) (N := n) (u := 29) (args := [v]) (av := .lst [.int .i64 v] 1 (.exact 1)) (by rw [obj_app0, obj_zero]) (by simpa using h1) rfl
    rw [this, set_app0, List.set_cons_zero]
    rfl
  have hrep : repI n n v = List.replicate n v := by simp [repI]
  rw [hrep] at hx
  simp only [Int.natCast_one] at hx
  rw [call50]
  simp only [F50, k50, Tryz.f50, sxAll, cA, arithA, Env.keep, qt_eq, resultsA, packA, convH, convA, mapO, ↓Option.bind_some, Nat.reduceBEq, Nat.reduceAdd, ↓reduceIte, lenA_lst, hml, w1', wn, wi, Int.reduceGT, hng, hms, hcp, hx, pu85, ty29, ty39, ty3]
  exact leave_impure pu50
end
end Go.Proofs.Sx
