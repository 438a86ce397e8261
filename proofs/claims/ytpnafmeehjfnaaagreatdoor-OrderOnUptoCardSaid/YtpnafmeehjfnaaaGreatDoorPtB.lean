/-
  A search through numbers' rows: what it keeps, and what it says in the end. No program.
-/
import Derived.Test.YtpnafmeehjfnaaaGreatDoorRvCore
import Derived.Test.YtpnafmeehjfnaaaGreatDoorPtA
import Derived.Test.YtpnafmeehjfnaaaGreatDoorSx3Seat
set_option linter.unusedSectionVars false
set_option linter.unusedSimpArgs false
set_option linter.unusedVariables false
set_option linter.defProp false
set_option linter.unusedSimpArgs false
set_option linter.unusedVariables false
namespace Go.Proofs.Sx

def rowAt (g : List (List Int)) (x : Int) : List Int := g.getD x.toNat []
def InG (g : List (List Int)) (x : Int) : Prop := 0 ≤ x ∧ x < g.length
instance (g : List (List Int)) (x : Int) : Decidable (InG g x) := inferInstanceAs (Decidable (_ ∧ _))
/-- One comes from there to there, by one edge or more, through numbers of the graph. -/
inductive Way (g : List (List Int)) (a : Int) : Int → Prop
  | one {b : Int} : InG g a → b ∈ rowAt g a → InG g b → Way g a b
  | step {b c : Int} : Way g a b → c ∈ rowAt g b → InG g c → Way g a c
theorem Way.last {g : List (List Int)} {a b : Int} (h : Way g a b) : InG g b := by cases h <;> assumption
theorem Way.first {g : List (List Int)} {a b : Int} (h : Way g a b) : InG g a := by induction h <;> assumption
theorem Way.trans {g : List (List Int)} {a b c : Int} (h : Way g a b) (k : Way g b c) : Way g a c := by
  induction k with
  | one _ h2 h3 => exact .step h h2 h3
  | step _ h2 h3 ih => exact .step ih h2 h3
theorem Way.more {g k : List (List Int)} (hl : g.length = k.length) (hm : ∀ x, InG g x → ∀ y ∈ rowAt g x, y ∈ rowAt k x) {a b : Int} (h : Way g a b) : Way k a b := by
  have hin : ∀ x, InG g x → InG k x := fun x hx => ⟨hx.1, by have := hx.2; omega⟩
  induction h with
  | one h1 h2 h3 => exact .one (hin _ h1) (hm _ h1 _ h2) (hin _ h3)
  | step h1 h2 h3 ih => exact .step ih (hm _ h1.last _ h2) (hin _ h3)

/-- What the search keeps: what was come to, what is still to be looked at; `o`: what is being looked at. -/
structure Inv (g : List (List Int)) (a b : Int) (cm : List Bool) (xs : List Int) (o : Option Int) (d : Nat) : Prop where
  len : cm.length = g.length
  way : ∀ x, x ∈ xs ∨ o = some x → InG g x ∧ (x = a ∨ Way g a x)
  done : ∀ z, InG g z → (z = a ∨ cm[z.toNat]? = some true) → z ∈ xs ∨ o = some z ∨ (b ∉ rowAt g z ∧ ∀ y ∈ rowAt g z, InG g y → cm[y.toNat]? = some true)
  cap : xs.length + cm.count false ≤ g.length + 1
  fuel : 2 * cm.count false + xs.length ≤ d

theorem count_mark : ∀ (cm : List Bool) (i : Nat), cm[i]? = some false → (cm.set i true).count false + 1 = cm.count false
  | [], i, h => by simp at h
  | c :: r, 0, h => by
    simp at h; subst h; simp
  | c :: r, i + 1, h => by
    have := count_mark r i (by simpa using h)
    simp only [List.set_cons_succ, List.count_cons]
    omega
theorem Inv.start {g : List (List Int)} {a b : Int} (ha : InG g a) : Inv g a b (List.replicate g.length false) [a] none (2 * g.length + 1) where
  len := by simp
  way x h := by
    rcases h with h | h
    · simp at h; subst h; exact ⟨ha, .inl rfl⟩
    · cases h
  done z hz h := by
    rcases h with rfl | h
    · exact .inl (by simp)
    · rw [List.getElem?_replicate] at h; split at h <;> simp at h
  cap := by simp [List.count_replicate]; omega
  fuel := by simp [List.count_replicate]
theorem Inv.pop {g : List (List Int)} {a b x : Int} {cm : List Bool} {xs : List Int} {d : Nat} (I : Inv g a b cm (xs ++ [x]) none (d + 1)) : Inv g a b cm xs (some x) d where
  len := I.len
  way y h := by
    rcases h with h | h
    · exact I.way y (.inl (by simp [h]))
    · injection h with h; subst h; exact I.way _ (.inl (by simp))
  done z hz h := by
    rcases I.done z hz h with h | h | h
    · rcases List.mem_append.1 h with h | h
      · exact .inl h
      · simp at h; subst h; exact .inr (.inl rfl)
    · cases h
    · exact .inr (.inr h)
  cap := by have := I.cap; simp at this; omega
  fuel := by have := I.fuel; simp at this; omega
theorem InG.nat {g : List (List Int)} {x : Int} (h : InG g x) : x.toNat < g.length := by have := h.1; have := h.2; omega
theorem Inv.mark {g : List (List Int)} {a b x y : Int} {cm : List Bool} {xs : List Int} {d : Nat} (I : Inv g a b cm xs (some x) d) (hy : InG g y) (hr : y ∈ rowAt g x) (hc : cm[y.toNat]? = some false) :
    Inv g a b (cm.set y.toNat true) (xs ++ [y]) (some x) d := by
  have hcn := count_mark cm _ hc
  have hkeep : ∀ i, cm[i]? = some true → (cm.set y.toNat true)[i]? = some true := fun i hi => by
    rw [List.getElem?_set]
    split
    · rename_i h; subst h; rw [hc] at hi; simp at hi
    · exact hi
  have hw : Way g a y := by
    obtain ⟨h1, h2⟩ := I.way x (.inr rfl)
    rcases h2 with rfl | h2
    · exact .one h1 hr hy
    · exact .step h2 hr hy
  refine ⟨by simp [I.len], fun z hz => ?_, fun z hz h => ?_, by have := I.cap; simp; omega, by have := I.fuel; simp; omega⟩
  · rcases hz with hz | hz
    · rcases List.mem_append.1 hz with hz | hz
      · exact I.way z (.inl hz)
      · simp at hz; subst hz; exact ⟨hy, .inr hw⟩
    · exact I.way z (.inr hz)
  · by_cases hzy : z = y
    · subst hzy; exact .inl (by simp)
    · have h' : z = a ∨ cm[z.toNat]? = some true := h.imp id fun h => by
        rw [List.getElem?_set] at h
        split at h
        · rename_i e
          have := hz.1; have := hy.1
          exact absurd (by omega) hzy
        · exact h
      rcases I.done z hz h' with h | h | h
      · exact .inl (by simp [h])
      · exact .inr (.inl h)
      · exact .inr (.inr ⟨h.1, fun w hw hg => hkeep _ (h.2 w hw hg)⟩)
theorem Inv.rest {g : List (List Int)} {a b x : Int} {cm : List Bool} {xs : List Int} {d : Nat} (I : Inv g a b cm xs (some x) d) (hb : b ∉ rowAt g x) (hr : ∀ y ∈ rowAt g x, InG g y → cm[y.toNat]? = some true) :
    Inv g a b cm xs none d where
  len := I.len
  way z h := by
    rcases h with h | h
    · exact I.way z (.inl h)
    · cases h
  done z hz h := by
    rcases I.done z hz h with h | h | h
    · exact .inl h
    · injection h with h; subst h; exact .inr (.inr ⟨hb, hr⟩)
    · exact .inr (.inr h)
  cap := I.cap
  fuel := I.fuel
theorem Inv.none {g : List (List Int)} {a b : Int} {cm : List Bool} {d : Nat} (I : Inv g a b cm [] none d) : ¬ Way g a b := by
  have key : ∀ y, Way g a y → cm[y.toNat]? = some true ∧ y ≠ b := by
    intro y hy
    induction hy with
    | one h1 h2 h3 =>
      rcases I.done a h1 (.inl rfl) with h | h | h
      · simp at h
      · cases h
      · exact ⟨h.2 _ h2 h3, fun e => h.1 (e ▸ h2)⟩
    | step h1 h2 h3 ih =>
      rcases I.done _ h1.last (.inr ih.1) with h | h | h
      · simp at h
      · cases h
      · exact ⟨h.2 _ h2 h3, fun e => h.1 (e ▸ h2)⟩
  exact fun h => (key b h).2 rfl
theorem Inv.found {g : List (List Int)} {a b x : Int} {cm : List Bool} {xs : List Int} {d : Nat} (I : Inv g a b cm xs (some x) d) (hb : InG g b) (h : b ∈ rowAt g x) : Way g a b := by
  obtain ⟨h1, h2⟩ := I.way x (.inr rfl)
  rcases h2 with rfl | h2
  · exact .one h1 h hb
  · exact .step h2 h hb
/-- A mark stays. -/
theorem mark_keep {cm : List Bool} {i j : Nat} (hi : i < cm.length) (h : cm[j]? = some true) : (cm.set i true)[j]? = some true := by
  rw [List.getElem?_set]; split <;> simp_all
end Go.Proofs.Sx

/-
  order.Leads: its closure; bobbinlaw22.wide.
-/
set_option linter.unusedSimpArgs false
set_option linter.unusedVariables false
set_option maxRecDepth 100000
namespace Go.Proofs.Sx
open Go.Rv Go.Proofs
attribute [local congr] bind_left got_left guardK_left
noncomputable section

def intL (xs : List Int) : List AV := xs.map (AV.int .i64)
theorem intL_len (xs : List Int) : (intL xs).length = xs.length := by simp [intL]
/-- A row: its numbers, the sizes that only the memory knows. -/
structure SRow where
  xs : List Int
  z : Nat
  r : Room
def SRow.val (r : SRow) : AV := .lst (intL r.xs) r.z r.r
def rowsL (g : List SRow) : List AV := g.map SRow.val
theorem rowsL_len (g : List SRow) : (rowsL g).length = g.length := by simp [rowsL]

theorem lv20 (r : Nat) : cfg.live 20 r = some [0, 2, 3, 6, 10, 18] := rfl
theorem ok20 : okB cfg0 20 Tryz.f20 (Tryz.f20.body.getD .skip) = true := by kernel_rfl
theorem pu20 : cfg.pure 20 = true := rfl
instance tight20 {d : Option Nat} : TightD cfg 20 d := ⟨fun _ _ => rfl⟩
def a20_0 : Array Oper := codeOps (codeAt [false] (Tryz.f20.body.getD .skip))
def b20_0 : Array Oper := a20_0
def r20_0 : Code := .region 0 a20_0 false
theorem x20_0 (e : Env) (h : Heap) : exec cfg 20 r20_0 e h = (ops cfg 20 b20_0 (a20_0.toList) e h).bind (regEnd cfg 20 0 false) := region_at _ _ _ _ _ _ _
def a20_1 : Array Oper := codeOps (codeAt [true, false, false] (Tryz.f20.body.getD .skip))
def b20_1 : Array Oper := a20_1
def r20_1 : Code := .region 1 a20_1 false
theorem x20_1 (e : Env) (h : Heap) : exec cfg 20 r20_1 e h = (ops cfg 20 b20_1 (a20_1.toList) e h).bind (regEnd cfg 20 1 false) := region_at _ _ _ _ _ _ _
def a20_2 : Array Oper := codeOps (codeAt [true, false, true, false, false] (Tryz.f20.body.getD .skip))
def b20_2 : Array Oper := a20_2
def r20_2 : Code := .region 2 a20_2 false
theorem x20_2 (e : Env) (h : Heap) : exec cfg 20 r20_2 e h = (ops cfg 20 b20_2 (a20_2.toList) e h).bind (regEnd cfg 20 2 false) := region_at _ _ _ _ _ _ _
def a20_3 : Array Oper := codeOps (codeAt [true, true, false, false] (Tryz.f20.body.getD .skip))
def b20_3 : Array Oper := a20_3
def r20_3 : Code := .region 3 a20_3 false
theorem x20_3 (e : Env) (h : Heap) : exec cfg 20 r20_3 e h = (ops cfg 20 b20_3 (a20_3.toList) e h).bind (regEnd cfg 20 3 false) := region_at _ _ _ _ _ _ _
def a20_4 : Array Oper := codeOps (codeAt [true, true, false, true, false, false, false, false] (Tryz.f20.body.getD .skip))
def b20_4 : Array Oper := a20_4
def r20_4 : Code := .region 4 a20_4 false
theorem x20_4 (e : Env) (h : Heap) : exec cfg 20 r20_4 e h = (ops cfg 20 b20_4 (a20_4.toList) e h).bind (regEnd cfg 20 4 false) := region_at _ _ _ _ _ _ _
def a20_6 : Array Oper := codeOps (codeAt [true, true, false, true, false, false, true, false, false, false] (Tryz.f20.body.getD .skip))
def b20_6 : Array Oper := a20_6
def r20_6 : Code := .region 6 a20_6 false
theorem x20_6 (e : Env) (h : Heap) : exec cfg 20 r20_6 e h = (ops cfg 20 b20_6 (a20_6.toList) e h).bind (regEnd cfg 20 6 false) := region_at _ _ _ _ _ _ _
def a20_7 : Array Oper := codeOps (codeAt [true, true, false, true, false, false, true, false, false, true, false, false] (Tryz.f20.body.getD .skip))
def b20_7 : Array Oper := a20_7
def r20_7 : Code := .region 7 a20_7 false
theorem x20_7 (e : Env) (h : Heap) : exec cfg 20 r20_7 e h = (ops cfg 20 b20_7 (a20_7.toList) e h).bind (regEnd cfg 20 7 false) := region_at _ _ _ _ _ _ _
def a20_5 : Array Oper := codeOps (codeAt [true, true, false, true, false, false, true, true] (Tryz.f20.body.getD .skip))
def b20_5 : Array Oper := a20_5
def r20_5 : Code := .region 5 a20_5 false
theorem x20_5 (e : Env) (h : Heap) : exec cfg 20 r20_5 e h = (ops cfg 20 b20_5 (a20_5.toList) e h).bind (regEnd cfg 20 5 false) := region_at _ _ _ _ _ _ _
def a20_8 : Array Oper := codeOps (codeAt [true, true, true, false] (Tryz.f20.body.getD .skip))
def b20_8 : Array Oper := a20_8
def r20_8 : Code := .region 8 a20_8 false
theorem x20_8 (e : Env) (h : Heap) : exec cfg 20 r20_8 e h = (ops cfg 20 b20_8 (a20_8.toList) e h).bind (regEnd cfg 20 8 false) := region_at _ _ _ _ _ _ _
def l20_0 : Code := (.seq (.seq r20_4 (.cond (.tmp 10) .skip (.exit 0))) (.seq (.block 1 (.seq r20_6 (.cond (.tmp 18) (.seq r20_7 .ret) .skip))) r20_5))
def k20 : Code := (.seq r20_0 (.seq (.seq r20_1 (.cond (.tmp 6) (.seq r20_2 .ret) .skip)) (.seq (.seq r20_3 (.block 0 (.loop l20_0))) (.seq r20_8 .ret))))
theorem body20 : Tryz.f20.body = some k20 := by kernel_rfl
theorem call20 (x0 : AV) (h : Heap) : call cfg 20 [x0] h = (exec cfg 20 k20 [(0, x0)] h).bind (callEnd cfg 20 h [.tmp 2]) := call_at2 (fnat Tryz.func20 body20 (by rw [← ok20]; kernel_rfl)) rfl rfl
theorem lv39 (r : Nat) : cfg.live 39 r = some [0, 1, 3] := rfl
theorem ok39 : okB cfg0 39 Tryz.f39 (Tryz.f39.body.getD .skip) = true := by kernel_rfl
theorem pu39 : cfg.pure 39 = true := rfl
instance tight39 {d : Option Nat} : TightD cfg 39 d := ⟨fun _ _ => rfl⟩
def a39_0 : Array Oper := codeOps (codeAt [false] (Tryz.f39.body.getD .skip))
def b39_0 : Array Oper := a39_0
def r39_0 : Code := .region 0 a39_0 false
theorem x39_0 (e : Env) (h : Heap) : exec cfg 39 r39_0 e h = (ops cfg 39 b39_0 (a39_0.toList) e h).bind (regEnd cfg 39 0 false) := region_at _ _ _ _ _ _ _
def a39_1 : Array Oper := codeOps (codeAt [true, false] (Tryz.f39.body.getD .skip))
def b39_1 : Array Oper := a39_1
def r39_1 : Code := .region 1 a39_1 false
theorem x39_1 (e : Env) (h : Heap) : exec cfg 39 r39_1 e h = (ops cfg 39 b39_1 (a39_1.toList) e h).bind (regEnd cfg 39 1 false) := region_at _ _ _ _ _ _ _
theorem g39_1_2 : (b39_1[2]?).bind (·.dst) = some 6 := by kernel_rfl
def k39 : Code := (.seq r39_0 (.seq r39_1 .ret))
theorem body39 : Tryz.f39.body = some k39 := by kernel_rfl
theorem call39 (x0 x1 : AV) (h : Heap) : call cfg 39 [x0, x1] h = (exec cfg 39 k39 [(0, x0), (1, x1)] h).bind (callEnd cfg 39 h [.tmp 3]) := call_at2 (fnat Tryz.func39 body39 (by rw [← ok39]; kernel_rfl)) rfl rfl
theorem lv18 (r : Nat) : cfg.live 18 r = some [0, 1, 2, 3, 6, 7, 8, 9, 10, 11, 13, 24, 32, 47, 48, 49, 50, 53, 57] := rfl
theorem ok18 : okB cfg0 18 Tryz.f18 (Tryz.f18.body.getD .skip) = true := by kernel_rfl
theorem pu18 : cfg.pure 18 = true := rfl
instance tight18 {d : Option Nat} : TightD cfg 18 d := ⟨fun _ _ => rfl⟩
def a18_0 : Array Oper := codeOps (codeAt [false] (Tryz.f18.body.getD .skip))
def b18_0 : Array Oper := a18_0
def r18_0 : Code := .region 0 a18_0 false
theorem im18_3 : cfg.imm 18 3 = true := by kernel_rfl
theorem x18_0 (e : Env) (h : Heap) : exec cfg 18 r18_0 e h = (ops cfg 18 b18_0 (a18_0.toList) e h).bind (regEnd cfg 18 0 false) := region_at _ _ _ _ _ _ _
def a18_1 : Array Oper := codeOps (codeAt [true, false, false] (Tryz.f18.body.getD .skip))
def b18_1 : Array Oper := a18_1
def r18_1 : Code := .region 1 a18_1 false
theorem x18_1 (e : Env) (h : Heap) : exec cfg 18 r18_1 e h = (ops cfg 18 b18_1 (a18_1.toList) e h).bind (regEnd cfg 18 1 false) := region_at _ _ _ _ _ _ _
def a18_2 : Array Oper := codeOps (codeAt [true, false, true, false, false] (Tryz.f18.body.getD .skip))
def b18_2 : Array Oper := a18_2
def r18_2 : Code := .region 2 a18_2 false
theorem x18_2 (e : Env) (h : Heap) : exec cfg 18 r18_2 e h = (ops cfg 18 b18_2 (a18_2.toList) e h).bind (regEnd cfg 18 2 false) := region_at _ _ _ _ _ _ _
theorem g18_2_4 : (b18_2[4]?).bind (·.dst) = some 19 := by kernel_rfl
def a18_3 : Array Oper := codeOps (codeAt [true, false, true, false, true, false, false] (Tryz.f18.body.getD .skip))
def b18_3 : Array Oper := a18_3
def r18_3 : Code := .region 3 a18_3 false
theorem x18_3 (e : Env) (h : Heap) : exec cfg 18 r18_3 e h = (ops cfg 18 b18_3 (a18_3.toList) e h).bind (regEnd cfg 18 3 false) := region_at _ _ _ _ _ _ _
def a18_4 : Array Oper := codeOps (codeAt [true, false, true, true, false] (Tryz.f18.body.getD .skip))
def b18_4 : Array Oper := a18_4
def r18_4 : Code := .region 4 a18_4 false
theorem x18_4 (e : Env) (h : Heap) : exec cfg 18 r18_4 e h = (ops cfg 18 b18_4 (a18_4.toList) e h).bind (regEnd cfg 18 4 false) := region_at _ _ _ _ _ _ _
def a18_5 : Array Oper := codeOps (codeAt [true, false, true, true, true, false] (Tryz.f18.body.getD .skip))
def b18_5 : Array Oper := a18_5
def r18_5 : Code := .region 5 a18_5 false
theorem im18_29 : cfg.imm 18 29 = false := by kernel_rfl
theorem x18_5 (e : Env) (h : Heap) : exec cfg 18 r18_5 e h = (ops cfg 18 b18_5 (a18_5.toList) e h).bind (regEnd cfg 18 5 false) := region_at _ _ _ _ _ _ _
def a18_6 : Array Oper := codeOps (codeAt [true, false, true, true, true, true, false] (Tryz.f18.body.getD .skip))
def b18_6 : Array Oper := a18_6
def r18_6 : Code := .region 6 a18_6 false
theorem x18_6 (e : Env) (h : Heap) : exec cfg 18 r18_6 e h = (ops cfg 18 b18_6 (a18_6.toList) e h).bind (regEnd cfg 18 6 false) := region_at _ _ _ _ _ _ _
def a18_7 : Array Oper := codeOps (codeAt [true, false, true, true, true, true, true, true, false, false, false, false, false] (Tryz.f18.body.getD .skip))
def b18_7 : Array Oper := a18_7
def r18_7 : Code := .region 7 a18_7 false
theorem x18_7 (e : Env) (h : Heap) : exec cfg 18 r18_7 e h = (ops cfg 18 b18_7 (a18_7.toList) e h).bind (regEnd cfg 18 7 false) := region_at _ _ _ _ _ _ _
def a18_8 : Array Oper := codeOps (codeAt [true, false, true, true, true, true, true, true, false, false, false, true, false, false] (Tryz.f18.body.getD .skip))
def b18_8 : Array Oper := a18_8
def r18_8 : Code := .region 8 a18_8 false
theorem x18_8 (e : Env) (h : Heap) : exec cfg 18 r18_8 e h = (ops cfg 18 b18_8 (a18_8.toList) e h).bind (regEnd cfg 18 8 false) := region_at _ _ _ _ _ _ _
def a18_9 : Array Oper := codeOps (codeAt [true, false, true, true, true, true, true, true, false, false, false, true, false, true, false] (Tryz.f18.body.getD .skip))
def b18_9 : Array Oper := a18_9
def r18_9 : Code := .region 9 a18_9 false
theorem x18_9 (e : Env) (h : Heap) : exec cfg 18 r18_9 e h = (ops cfg 18 b18_9 (a18_9.toList) e h).bind (regEnd cfg 18 9 false) := region_at _ _ _ _ _ _ _
def a18_10 : Array Oper := codeOps (codeAt [true, false, true, true, true, true, true, true, false, false, false, true, false, true, true, false] (Tryz.f18.body.getD .skip))
def b18_10 : Array Oper := a18_10
def r18_10 : Code := .region 10 a18_10 false
theorem x18_10 (e : Env) (h : Heap) : exec cfg 18 r18_10 e h = (ops cfg 18 b18_10 (a18_10.toList) e h).bind (regEnd cfg 18 10 false) := region_at _ _ _ _ _ _ _
def a18_11 : Array Oper := codeOps (codeAt [true, false, true, true, true, true, true, true, false, false, false, true, false, true, true, true, false, false, false] (Tryz.f18.body.getD .skip))
def b18_11 : Array Oper := a18_11
def r18_11 : Code := .region 11 a18_11 false
theorem x18_11 (e : Env) (h : Heap) : exec cfg 18 r18_11 e h = (ops cfg 18 b18_11 (a18_11.toList) e h).bind (regEnd cfg 18 11 false) := region_at _ _ _ _ _ _ _
def a18_12 : Array Oper := codeOps (codeAt [true, false, true, true, true, true, true, true, false, false, false, true, false, true, true, true, false, false, true, true, false, false, false] (Tryz.f18.body.getD .skip))
def b18_12 : Array Oper := a18_12
def r18_12 : Code := .region 12 a18_12 false
theorem x18_12 (e : Env) (h : Heap) : exec cfg 18 r18_12 e h = (ops cfg 18 b18_12 (a18_12.toList) e h).bind (regEnd cfg 18 12 false) := region_at _ _ _ _ _ _ _
def a18_13 : Array Oper := codeOps (codeAt [true, false, true, true, true, true, true, true, false, false, false, true, false, true, true, true, false, false, true, true, false, false, true, false, false] (Tryz.f18.body.getD .skip))
def b18_13 : Array Oper := a18_13
def r18_13 : Code := .region 13 a18_13 false
theorem x18_13 (e : Env) (h : Heap) : exec cfg 18 r18_13 e h = (ops cfg 18 b18_13 (a18_13.toList) e h).bind (regEnd cfg 18 13 false) := region_at _ _ _ _ _ _ _
def a18_14 : Array Oper := codeOps (codeAt [true, false, true, true, true, true, true, true, false, false, false, true, false, true, true, true, false, false, true, true, false, false, true, false, true, false, false] (Tryz.f18.body.getD .skip))
def b18_14 : Array Oper := a18_14
def r18_14 : Code := .region 14 a18_14 false
theorem x18_14 (e : Env) (h : Heap) : exec cfg 18 r18_14 e h = (ops cfg 18 b18_14 (a18_14.toList) e h).bind (regEnd cfg 18 14 false) := region_at _ _ _ _ _ _ _
def a18_15 : Array Oper := codeOps (codeAt [true, false, true, true, true, true, true, true, false, false, false, true, false, true, true, true, false, false, true, true, false, false, true, false, true, true, false] (Tryz.f18.body.getD .skip))
def b18_15 : Array Oper := a18_15
def r18_15 : Code := .region 15 a18_15 false
theorem x18_15 (e : Env) (h : Heap) : exec cfg 18 r18_15 e h = (ops cfg 18 b18_15 (a18_15.toList) e h).bind (regEnd cfg 18 15 false) := region_at _ _ _ _ _ _ _
theorem g18_15_3 : (b18_15[3]?).bind (·.dst) = some 61 := by kernel_rfl
def a18_16 : Array Oper := codeOps (codeAt [true, false, true, true, true, true, true, true, false, false, false, true, false, true, true, true, false, false, true, true, false, false, true, false, true, true, true, false, false] (Tryz.f18.body.getD .skip))
def b18_16 : Array Oper := a18_16
def r18_16 : Code := .region 16 a18_16 false
theorem x18_16 (e : Env) (h : Heap) : exec cfg 18 r18_16 e h = (ops cfg 18 b18_16 (a18_16.toList) e h).bind (regEnd cfg 18 16 false) := region_at _ _ _ _ _ _ _
def a18_17 : Array Oper := codeOps (codeAt [true, false, true, true, true, true, true, true, false, false, false, true, false, true, true, true, false, false, true, true, false, false, true, false, true, true, true, false, true] (Tryz.f18.body.getD .skip))
def b18_17 : Array Oper := a18_17
def r18_17 : Code := .region 17 a18_17 false
theorem im18_73 : cfg.imm 18 73 = true := by kernel_rfl
theorem x18_17 (e : Env) (h : Heap) : exec cfg 18 r18_17 e h = (ops cfg 18 b18_17 (a18_17.toList) e h).bind (regEnd cfg 18 17 false) := region_at _ _ _ _ _ _ _
def a18_18 : Array Oper := codeOps (codeAt [true, false, true, true, true, true, true, true, false, false, false, true, false, true, true, true, false, false, true, true, true] (Tryz.f18.body.getD .skip))
def b18_18 : Array Oper := a18_18
def r18_18 : Code := .region 18 a18_18 false
theorem x18_18 (e : Env) (h : Heap) : exec cfg 18 r18_18 e h = (ops cfg 18 b18_18 (a18_18.toList) e h).bind (regEnd cfg 18 18 false) := region_at _ _ _ _ _ _ _
def a18_19 : Array Oper := codeOps (codeAt [true, false, true, true, true, true, true, true, true, false] (Tryz.f18.body.getD .skip))
def b18_19 : Array Oper := a18_19
def r18_19 : Code := .region 19 a18_19 false
theorem x18_19 (e : Env) (h : Heap) : exec cfg 18 r18_19 e h = (ops cfg 18 b18_19 (a18_19.toList) e h).bind (regEnd cfg 18 19 false) := region_at _ _ _ _ _ _ _
def l18_1 : Code := (.seq r18_11 (.seq (.cond (.tmp 50) .skip (.exit 2)) (.seq (.block 3 (.seq r18_12 (.block 4 (.seq r18_13 (.cond (.tmp 53) (.seq r18_14 (.exit 0)) (.seq r18_15 (.cond (.tmp 57) (.seq r18_16 r18_17) .skip))))))) r18_18)))
def l18_0 : Code := (.seq (.seq r18_7 (.cond (.tmp 32) .skip (.exit 0))) (.block 1 (.seq r18_8 (.seq r18_9 (.seq r18_10 (.block 2 (.loop l18_1)))))))
def k18 : Code := (.seq r18_0 (.scope (.seq r18_1 (.seq (.seq r18_2 (.cond (.tmp 24) (.seq r18_3 .ret) .skip)) (.seq r18_4 (.seq r18_5 (.seq r18_6 (.seq (.label 0) (.seq (.block 0 (.loop l18_0)) (.seq r18_19 .ret))))))))))
theorem body18 : Tryz.f18.body = some k18 := by kernel_rfl
theorem call18 (x0 x1 x2 : AV) (h : Heap) : call cfg 18 [x0, x1, x2] h = (exec cfg 18 k18 [(0, x0), (1, x1), (2, x2)] h).bind (callEnd cfg 18 h [.tmp 6]) := call_at2 (fnat Tryz.func18 body18 (by rw [← ok18]; kernel_rfl)) rfl rfl

theorem leadsIn_eq (g : List SRow) (z : Nat) (r : Room) (x : Int) (h : Heap) (hn : g.length < 1000000000) :
    call cfg 39 [.int .i64 x, .ref [.lst (rowsL g) z r]] h = some (.ret (.bool (decide (0 ≤ x ∧ x < g.length))), h) := by
  rw [call39]
  by_cases h1 : 0 ≤ x
  · by_cases h2 : x < g.length
    · simp only [k39, Tryz.f39, regEnd_nrm (lv39 _), pu39, x39_0, a39_0, x39_1, a39_1, sx_guardO g39_1_2, sxAll, arithA, Nat.reduceEqDiff, Env.keep, qt_eq, isAlloc, resultsA, packA, storeA, indexAddrA, fieldA, indexA, unA, fieldAddrA, loadA, Rv.part, cellsAt, TD.isAgg, convH, convA, buildA, fillA, setCells, copies, lenA, optA, boundA, mapO, ↓Option.bind_some, ↓Option.bind_none, Nat.reduceBEq, Nat.reduceAdd, Nat.reduceMul, Nat.reduceLeDiff, Nat.reduceSub, Nat.reduceLT, Nat.reduceGT, Int.reduceBEq, Int.reduceLT, Int.reduceLE, bne, ↓reduceIte, ty45, rowsL_len, h1, h2]
      exact leave_kept rfl rfl
    · simp only [k39, Tryz.f39, regEnd_nrm (lv39 _), pu39, x39_0, a39_0, x39_1, a39_1, sx_guardO g39_1_2, sxAll, arithA, Nat.reduceEqDiff, Env.keep, qt_eq, isAlloc, resultsA, packA, storeA, indexAddrA, fieldA, indexA, unA, fieldAddrA, loadA, Rv.part, cellsAt, TD.isAgg, convH, convA, buildA, fillA, setCells, copies, lenA, optA, boundA, mapO, ↓Option.bind_some, ↓Option.bind_none, Nat.reduceBEq, Nat.reduceAdd, Nat.reduceMul, Nat.reduceLeDiff, Nat.reduceSub, Nat.reduceLT, Nat.reduceGT, Int.reduceBEq, Int.reduceLT, Int.reduceLE, bne, ↓reduceIte, ty45, rowsL_len, h1, h2]
      exact leave_kept rfl rfl
  · simp only [k39, Tryz.f39, regEnd_nrm (lv39 _), pu39, x39_0, a39_0, x39_1, a39_1, sx_guardO g39_1_2, sxAll, arithA, Nat.reduceEqDiff, Env.keep, qt_eq, isAlloc, resultsA, packA, storeA, indexAddrA, fieldA, indexA, unA, fieldAddrA, loadA, Rv.part, cellsAt, TD.isAgg, convH, convA, buildA, fillA, setCells, copies, lenA, optA, boundA, mapO, ↓Option.bind_some, ↓Option.bind_none, Nat.reduceBEq, Nat.reduceAdd, Nat.reduceMul, Nat.reduceLeDiff, Nat.reduceSub, Nat.reduceLT, Nat.reduceGT, Int.reduceBEq, Int.reduceLT, Int.reduceLE, bne, ↓reduceIte, ty45, rowsL_len, h1]
    exact leave_kept rfl rfl
end
end Go.Proofs.Sx

/-
  order.Leads: its memory (what was come to; the stack, which is cut short and appended to in place).
-/
set_option linter.unusedSimpArgs false
set_option linter.unusedVariables false
set_option maxRecDepth 100000
namespace Go.Proofs.Sx
open Go.Rv Go.Proofs
noncomputable section

structure Mem (h H : Heap) (cm : List Bool) (xs : List Int) (v : AV) : Prop where
  come : H.obj h.length 0 = some (cm.map AV.bool)
  stk : ∃ o g cap cs, v = .msl o 0 xs.length 1 g cap ∧ H.obj o g = some cs ∧ xs.length ≤ cs.length ∧ cs.take xs.length = intL xs ∧ (cap = none ∨ cap = some cs.length) ∧ h.length < o
  old : H.take h.length = h

theorem obj_set_self {H : Heap} {o g g' : Nat} {cs cs' : List AV} (ho : H.obj o g = some cs) : Heap.obj (List.set H o (.cells cs' g')) o g' = some cs' := by
  have := obj_some ho
  simp [Heap.obj, this]
theorem obj_set_ne {H : Heap} {o p g : Nat} (x : AObj) (hn : o ≠ p) : Heap.obj (List.set H p x) o g = Heap.obj H o g := by
  simp [Heap.obj, List.getElem?_set_ne (Ne.symm hn)]
theorem take_push {cs : List AV} {xs : List Int} {y : Int} (h1 : cs.take xs.length = intL xs) (h2 : cs[xs.length]? = some (.int .i64 y)) : cs.take (xs ++ [y]).length = intL (xs ++ [y]) := by
  rw [List.length_append, List.length_singleton, List.take_add_one, h1, h2]
  simp [intL]

theorem Mem.push {h H : Heap} {cm : List Bool} {xs : List Int} {v : AV} (M : Mem h H cm xs v) (y : Int) (hl : xs.length < 4294967296) :
    ∃ v' H', appendA H 1 v [.int .i64 y] = some (v', H') ∧ Mem h H' cm (xs ++ [y]) v' := by
  obtain ⟨o, g, cap, cs, rfl, ho, hle, htk, hcap, hno⟩ := M.stk
  have hoH := obj_some ho
  by_cases hlt : xs.length < cs.length
  · have hok : capOk cap (xs.length + 1) = true := by
      rcases hcap with rfl | rfl
      · rfl
      · simp only [capOk, decide_eq_true_eq]; omega
    refine ⟨.msl o 0 (xs.length + 1) 1 g cap, H.set o (.cells (cs.set xs.length (.int .i64 y)) g), ?_, ⟨?_, ⟨o, g, cap, cs.set xs.length (.int .i64 y), by simp, obj_set_self ho, by simp; omega, take_push ?_ (by simp [hlt]), by simpa using hcap, hno⟩, ?_⟩⟩
    · simp [appendA, AV.cells, AV.leaf, ho, hok, setCells]
      omega
    · rw [obj_set_ne _ (by omega)]; exact M.come
    · rw [List.take_set_of_le (Nat.le_refl _)]; exact htk
    · rw [List.take_set_of_le (by omega)]; exact M.old
  · have he : xs.length = cs.length := by omega
    have hcs : cs = intL xs := by rw [← htk, he, List.take_length]
    have hn : ¬ xs.length + 1 ≤ cs.length := by omega
    rcases hcap with rfl | rfl
    · refine ⟨.msl o 0 (xs.length + 1) 1 (g + 1) none, H.set o (.cells (cs ++ [.int .i64 y]) (g + 1)), ?_, ⟨?_, ⟨o, g + 1, none, cs ++ [.int .i64 y], by simp, obj_set_self ho, by simp; omega, take_push ?_ (by simp [he]), .inl rfl, hno⟩, ?_⟩⟩
      · have hl' : cs.length + 1 ≤ 4294967296 := by omega
        have hn' : (cs.length + 1 ≤ cs.length) = False := by simp
        simp only [appendA, AV.cells, AV.leaf, ho, growA, mostLen, he, hn', hl', List.map_cons, List.map_nil, List.flatten_cons, List.flatten_nil, List.all_cons, List.all_nil, List.length_append, List.length_cons, List.length_nil, List.isEmpty_cons]
        simp [hl', AV.leaf]
        omega
      · rw [obj_set_ne _ (by omega)]; exact M.come
      · rw [he, List.take_left' rfl, hcs]
      · rw [List.take_set_of_le (by omega)]; exact M.old
    · have hH := (show h.length ≤ H.length by omega)
      refine ⟨.msl H.length 0 (xs.length + 1) 1 0 none, H ++ [.cells (cs ++ [.int .i64 y]) 0], ?_, ⟨?_, ⟨H.length, 0, none, cs ++ [.int .i64 y], by simp, by simp [Heap.obj], by simp; omega, take_push ?_ (by simp [he]), .inl rfl, by omega⟩, ?_⟩⟩
      · rw [he] at hl hn
        simp [appendA, AV.cells, AV.leaf, ho, growA, mostLen, he, capOk, if_neg (show ¬ cs.length + 1 ≤ cs.length by omega)]
        omega
      · rw [obj_left _ _ (by omega)]; exact M.come
      · rw [he, List.take_left' rfl, hcs]
      · rw [take_app _ hH]; exact M.old
theorem Mem.mark {h H : Heap} {cm : List Bool} {xs : List Int} {v : AV} (M : Mem h H cm xs v) (i : Nat) (hi : i < cm.length) :
    ∃ H', storeA cfg H 4 (.ptr h.length i 0) (.bool true) = some H' ∧ Mem h H' (cm.set i true) xs v := by
  obtain ⟨o, g, cap, cs, rfl, ho, hle, htk, hcap, hno⟩ := M.stk
  refine ⟨H.set h.length (.cells ((cm.map AV.bool).set i (.bool true)) 0), ?_, ⟨?_, ⟨o, g, cap, cs, rfl, ?_, hle, htk, hcap, hno⟩, ?_⟩⟩
  · simp [storeA, ty4, M.come, AV.cells, AV.leaf, setCells]
    omega
  · rw [obj_set_self M.come, List.map_set]
  · rw [obj_set_ne _ (by omega), ho]
  · rw [List.take_set_of_le (Nat.le_refl _)]; exact M.old
theorem Mem.known {h H : Heap} {cm : List Bool} {xs : List Int} {v : AV} (M : Mem h H cm xs v) : known v = some v := by
  obtain ⟨o, g, cap, cs, rfl, _⟩ := M.stk
  rfl
theorem Mem.len {h H : Heap} {cm : List Bool} {xs : List Int} {v : AV} (M : Mem h H cm xs v) (e : Nat) : lenA H (.slice e) v = some xs.length := by
  obtain ⟨o, g, cap, cs, rfl, ho, _⟩ := M.stk
  simp [lenA, Heap.live, ho]
theorem Mem.top {h H : Heap} {cm : List Bool} {xs : List Int} {x : Int} {v : AV} (M : Mem h H cm (xs ++ [x]) v) :
    ∃ o k g v', indexAddrA cfg H 34 v (.int .i64 xs.length) = some (.ptr o k g) ∧ loadA cfg H 3 (.ptr o k g) = some (.int .i64 x) ∧ sliceA cfg H 34 v none (some (.int .i64 xs.length)) none = some v' ∧ Mem h H cm xs v' := by
  obtain ⟨o, g, cap, cs, rfl, ho, hle, htk, hcap, hno⟩ := M.stk
  simp only [List.length_append, List.length_singleton] at hle htk ⊢
  have hx : cs[xs.length]? = some (.int .i64 x) := by
    have : (cs.take (xs.length + 1))[xs.length]? = some (.int .i64 x) := by rw [htk]; simp [intL]
    rwa [List.getElem?_take_of_lt (by omega)] at this
  have hxs : cs.take xs.length = intL xs := by
    have := congrArg (List.take xs.length) htk
    rw [List.take_take, show min xs.length (xs.length + 1) = xs.length by omega] at this
    rw [this]; simp [intL]
  refine ⟨o, xs.length, g, .msl o 0 xs.length 1 g cap, ?_, ?_, ?_, ⟨M.come, ⟨o, g, cap, cs, rfl, ho, by omega, hxs, hcap, hno⟩, M.old⟩⟩
  · simp [indexAddrA, ty34, ty3, Heap.live, ho]
  · simp [loadA, ty3, cellsAt, ho, Rv.part, TD.isAgg, hx]
  · rcases hcap with rfl | rfl
    · simp [sliceA, ty34, ty3, ho, boundA, if_pos (show xs.length ≤ cs.length by omega)]
    · simp [sliceA, ty34, ty3, ho, boundA, if_pos (show xs.length ≤ cs.length by omega)]
theorem Mem.read {h H : Heap} {cm : List Bool} {xs : List Int} {v : AV} (M : Mem h H cm xs v) {n : Nat} (hn : cm.length = n) {y : Int} (h0 : 0 ≤ y) {c : Bool} (hc : cm[y.toNat]? = some c) :
    indexAddrA cfg H 91 (.msl h.length 0 n 1 0 (some n)) (.int .i64 y) = some (.ptr h.length y.toNat 0) ∧ loadA cfg H 4 (.ptr h.length y.toNat 0) = some (.bool c) := by
  have := (List.getElem?_eq_some_iff.1 hc).1
  have hy : ¬ y < 0 := by omega
  constructor
  · simp [indexAddrA, ty91, ty4, Heap.live, M.come, hy]
    omega
  · simp [loadA, ty4, cellsAt, M.come, Rv.part, TD.isAgg, hc]
end
end Go.Proofs.Sx

/-
  order.Leads: its two loops, and what it answers.
-/
set_option linter.unusedSimpArgs false
set_option linter.unusedVariables false
set_option maxRecDepth 100000
set_option maxHeartbeats 4000000
namespace Go.Proofs.Sx
open Go.Rv Go.Proofs
attribute [local congr] bind_left got_left guardK_left
noncomputable section

def xsOf (g : List SRow) : List (List Int) := g.map SRow.xs
theorem xsOf_len (g : List SRow) : (xsOf g).length = g.length := by simp [xsOf]
theorem rowAt_of {g : List SRow} {x : Int} {row : SRow} (h : g[x.toNat]? = some row) : rowAt (xsOf g) x = row.xs := by simp [rowAt, xsOf, h]
theorem inG_of (g : List SRow) (x : Int) : (0 ≤ x ∧ x < g.length) = InG (xsOf g) x := by simp only [InG, xsOf_len]


variable (g : List SRow) (z : Nat) (r : Room) (a b : Int) (h : Heap) (hn : g.length < 1000000000) (hb : InG (xsOf g) b)

include hn hb in
theorem leads_inner (x : Int) (row : SRow) (hx : g[x.toNat]? = some row) (hrl : row.xs.length < 1000000000) (d : Nat) : ∀ (ys : List Int) (i : Nat), row.xs.drop i = ys → i ≤ row.xs.length →
    ∀ (cm : List Bool) (xs : List Int) (v : AV) (H : Heap), Inv (xsOf g) a b cm xs (some x) d → Mem h H cm xs v → (∀ y ∈ row.xs.take i, y ≠ b ∧ (InG (xsOf g) y → cm[y.toNat]? = some true)) → ∀ (t13 t32 t50 t53 t57 : AV),
    Got (exec cfg 18 (.loop l18_1) [(0, .lst (rowsL g) z r), (1, .int .i64 a), (2, .int .i64 b), (3, .ref [.lst (rowsL g) z r]), (6, .bool false), (7, .clo 39 [.ref [.lst (rowsL g) z r]]), (8, .msl h.length 0 g.length 1 0 (some g.length)), (9, v), (10, .bool false), (11, .int .i64 x), (13, t13), (24, .bool false), (32, t32), (47, row.val), (48, .int .i64 row.xs.length), (49, .int .i64 i), (50, t50), (53, t53), (57, t57)]
 H) (fun q =>
      ∃ (o : Nat) (fd : Bool) (cm : List Bool) (xs : List Int) (v u13 u32 u49 u50 u53 u57 : AV) (H' : Heap), q = (.exit o, [(0, .lst (rowsL g) z r), (1, .int .i64 a), (2, .int .i64 b), (3, .ref [.lst (rowsL g) z r]), (6, .bool false), (7, .clo 39 [.ref [.lst (rowsL g) z r]]), (8, .msl h.length 0 g.length 1 0 (some g.length)), (9, v), (10, .bool fd), (11, .int .i64 x), (13, u13), (24, .bool false), (32, u32), (47, row.val), (48, .int .i64 row.xs.length), (49, u49), (50, u50), (53, u53), (57, u57)]
, H') ∧
        ((o = 2 ∧ fd = false ∧ Inv (xsOf g) a b cm xs none d ∧ Mem h H' cm xs v) ∨ (o = 0 ∧ fd = true ∧ Way (xsOf g) a b ∧ H'.take h.length = h))) := by
  intro ys
  induction ys with
  | nil =>
    intro i hd hi cm xs v H I M hp t13 t32 t50 t53 t57
    have hend := at_end hd
    have hfull : row.xs.take i = row.xs := List.take_of_length_le (by simpa using hd)
    rw [hfull] at hp
    have I' := I.rest (by rw [rowAt_of hx]; exact fun hm => (hp b hm).1 rfl) (by rw [rowAt_of hx]; exact fun y hm => (hp y hm).2)
    rw [got_loop]
    simp only [l18_1, k18, Tryz.f18, regEnd_nrm (lv18 _), pu18, x18_0, a18_0, im18_3, x18_1, a18_1, x18_2, a18_2, sx_guardO g18_2_4, x18_3, a18_3, x18_4, a18_4, x18_5, a18_5, im18_29, x18_6, a18_6, x18_7, a18_7, x18_8, a18_8, x18_9, a18_9, x18_10, a18_10, x18_11, a18_11, x18_12, a18_12, x18_13, a18_13, x18_14, a18_14, x18_15, a18_15, sx_guardO g18_15_3, x18_16, a18_16, x18_17, a18_17, im18_73, x18_18, a18_18, x18_19, a18_19, sxAll, arithA, Nat.reduceEqDiff, Env.keep, qt_eq, isAlloc, resultsA, packA, fieldA, indexA, unA, fieldAddrA, Rv.part, cellsAt, TD.isAgg, convH, convA, buildA, fillA, setCells, copies, optA, boundA, mapO, ↓Option.bind_some, ↓Option.bind_none, Nat.reduceBEq, Nat.reduceAdd, Nat.reduceMul, Nat.reduceLeDiff, Nat.reduceSub, Nat.reduceLT, Nat.reduceGT, Int.reduceBEq, Int.reduceLT, Int.reduceLE, bne, ↓reduceIte, hend, M.known, SRow.val]
    exact ⟨_, _, _, _, _, _, _, _, _, _, _, _, rfl, .inl ⟨rfl, rfl, I', M⟩⟩
  | cons y rest ih =>
    intro i hd hi cm xs v H I M hp t13 t32 t50 t53 t57
    obtain ⟨hlt, hy, hd'⟩ := at_drop hd
    have hmem : y ∈ row.xs := List.mem_of_getElem? hy
    have hw := wrap_succ (i := i) (by simp at hlt; omega)
    have hix : indexAddrA cfg H 34 row.val (.int .i64 i) = some (.ref [.int .i64 y]) := by
      have h1 : (intL row.xs)[i]? = some (.int .i64 y) := by simp [intL, hy]
      simp [indexAddrA, ty34, ty3, SRow.val, h1, AV.cells]
    have hld : loadA cfg H 3 (.ref [.int .i64 y]) = some (.int .i64 y) := by simp [loadA, cellsAt, ty3, Rv.part, TD.isAgg]
    simp only [SRow.val] at hix
    have htk : row.xs.take (i + 1) = row.xs.take i ++ [y] := by rw [List.take_add_one, hy]; rfl
    rw [got_loop]
    by_cases hyb : y = b
    · have hyb' : (y == b) = true := by simp [hyb]
      have hW := I.found hb (by rw [rowAt_of hx]; exact hyb ▸ hmem)
      simp only [l18_1, k18, Tryz.f18, regEnd_nrm (lv18 _), pu18, x18_0, a18_0, im18_3, x18_1, a18_1, x18_2, a18_2, sx_guardO g18_2_4, x18_3, a18_3, x18_4, a18_4, x18_5, a18_5, im18_29, x18_6, a18_6, x18_7, a18_7, x18_8, a18_8, x18_9, a18_9, x18_10, a18_10, x18_11, a18_11, x18_12, a18_12, x18_13, a18_13, x18_14, a18_14, x18_15, a18_15, sx_guardO g18_15_3, x18_16, a18_16, x18_17, a18_17, im18_73, x18_18, a18_18, x18_19, a18_19, sxAll, arithA, Nat.reduceEqDiff, Env.keep, qt_eq, isAlloc, resultsA, packA, fieldA, indexA, unA, fieldAddrA, Rv.part, cellsAt, TD.isAgg, convH, convA, buildA, fillA, setCells, copies, optA, boundA, mapO, ↓Option.bind_some, ↓Option.bind_none, Nat.reduceBEq, Nat.reduceAdd, Nat.reduceMul, Nat.reduceLeDiff, Nat.reduceSub, Nat.reduceLT, Nat.reduceGT, Int.reduceBEq, Int.reduceLT, Int.reduceLE, bne, ↓reduceIte, hlt, M.known, SRow.val, hyb', hix, hld]
      exact ⟨_, _, cm, xs, _, _, _, _, _, _, _, _, rfl, .inr ⟨rfl, rfl, hW, M.old⟩⟩
    · have hyb' : (y == b) = false := by simp [hyb]
      by_cases hin : InG (xsOf g) y
      · have hcall : call cfg 39 [.int .i64 y, .ref [.lst (rowsL g) z r]] H = some (.ret (.bool true), H) := by
          rw [leadsIn_eq g z r y H hn]
          simp only [inG_of, hin, decide_true]
        have hlen : cm.length = g.length := by rw [I.len, xsOf_len]
        have hyl : y.toNat < cm.length := by rw [I.len]; exact hin.nat
        obtain ⟨c, hc⟩ : ∃ c, cm[y.toNat]? = some c := ⟨_, List.getElem?_eq_getElem hyl⟩
        obtain ⟨rd1, rd2⟩ := M.read hlen hin.1 hc
        cases c with
        | true =>
          have := ih (i + 1) hd' (by simp at hlt; omega) cm xs v H I M (by
            rw [htk]
            intro y' hm
            rcases List.mem_append.1 hm with hm | hm
            · exact hp y' hm
            · simp at hm; subst hm; exact ⟨hyb, fun _ => hc⟩)
          simp only [l18_1, SRow.val] at this ⊢
          simp only [k18, Tryz.f18, regEnd_nrm (lv18 _), pu18, x18_0, a18_0, im18_3, x18_1, a18_1, x18_2, a18_2, sx_guardO g18_2_4, x18_3, a18_3, x18_4, a18_4, x18_5, a18_5, im18_29, x18_6, a18_6, x18_7, a18_7, x18_8, a18_8, x18_9, a18_9, x18_10, a18_10, x18_11, a18_11, x18_12, a18_12, x18_13, a18_13, x18_14, a18_14, x18_15, a18_15, sx_guardO g18_15_3, x18_16, a18_16, x18_17, a18_17, im18_73, x18_18, a18_18, x18_19, a18_19, sxAll, arithA, Nat.reduceEqDiff, Env.keep, qt_eq, isAlloc, resultsA, packA, fieldA, indexA, unA, fieldAddrA, Rv.part, cellsAt, TD.isAgg, convH, convA, buildA, fillA, setCells, copies, optA, boundA, mapO, ↓Option.bind_some, ↓Option.bind_none, Nat.reduceBEq, Nat.reduceAdd, Nat.reduceMul, Nat.reduceLeDiff, Nat.reduceSub, Nat.reduceLT, Nat.reduceGT, Int.reduceBEq, Int.reduceLT, Int.reduceLE, bne, ↓reduceIte, hlt, M.known, hyb', hix, hld, hcall, pu39, rd1, rd2, hw] at this ⊢
          exact this _ _ _ _ _
        | false =>
          obtain ⟨H1, hst, M1⟩ := M.mark y.toNat hyl
          obtain ⟨v2, H2, ha, M2⟩ := M1.push y (by have := I.cap; rw [xsOf_len] at this; omega)
          have hel : elems H1 (.lst (group 1 [.int .i64 y] 1) 1 (.exact 1)) = some [.int .i64 y] := rfl
          have I2 := I.mark hin (by rw [rowAt_of hx]; exact hmem) hc
          have := ih (i + 1) hd' (by simp at hlt; omega) _ _ v2 H2 I2 M2 (by
            rw [htk]
            intro y' hm
            rcases List.mem_append.1 hm with hm | hm
            · exact ⟨(hp y' hm).1, fun hg => mark_keep hyl ((hp y' hm).2 hg)⟩
            · simp at hm; subst hm; exact ⟨hyb, fun _ => by simp [hyl]⟩)
          simp only [l18_1, SRow.val] at this ⊢
          simp only [k18, Tryz.f18, regEnd_nrm (lv18 _), pu18, x18_0, a18_0, im18_3, x18_1, a18_1, x18_2, a18_2, sx_guardO g18_2_4, x18_3, a18_3, x18_4, a18_4, x18_5, a18_5, im18_29, x18_6, a18_6, x18_7, a18_7, x18_8, a18_8, x18_9, a18_9, x18_10, a18_10, x18_11, a18_11, x18_12, a18_12, x18_13, a18_13, x18_14, a18_14, x18_15, a18_15, sx_guardO g18_15_3, x18_16, a18_16, x18_17, a18_17, im18_73, x18_18, a18_18, x18_19, a18_19, sxAll, arithA, Nat.reduceEqDiff, Env.keep, qt_eq, isAlloc, resultsA, packA, fieldA, indexA, unA, fieldAddrA, Rv.part, cellsAt, TD.isAgg, convH, convA, buildA, fillA, setCells, copies, optA, boundA, mapO, ↓Option.bind_some, ↓Option.bind_none, Nat.reduceBEq, Nat.reduceAdd, Nat.reduceMul, Nat.reduceLeDiff, Nat.reduceSub, Nat.reduceLT, Nat.reduceGT, Int.reduceBEq, Int.reduceLT, Int.reduceLE, bne, ↓reduceIte, hlt, M.known, M1.known, M2.known, hyb', hix, hld, hcall, pu39, rd1, rd2, hst, hel, ha, hw, ty34, ty3] at this ⊢
          exact this _ _ _ _ _
      · have hcall : call cfg 39 [.int .i64 y, .ref [.lst (rowsL g) z r]] H = some (.ret (.bool false), H) := by
          rw [leadsIn_eq g z r y H hn]
          simp only [inG_of, hin, decide_false]
        have := ih (i + 1) hd' (by simp at hlt; omega) cm xs v H I M (by
          rw [htk]
          intro y' hm
          rcases List.mem_append.1 hm with hm | hm
          · exact hp y' hm
          · simp at hm; subst hm; exact ⟨hyb, fun hg => absurd hg hin⟩)
        simp only [l18_1, SRow.val] at this ⊢
        simp only [k18, Tryz.f18, regEnd_nrm (lv18 _), pu18, x18_0, a18_0, im18_3, x18_1, a18_1, x18_2, a18_2, sx_guardO g18_2_4, x18_3, a18_3, x18_4, a18_4, x18_5, a18_5, im18_29, x18_6, a18_6, x18_7, a18_7, x18_8, a18_8, x18_9, a18_9, x18_10, a18_10, x18_11, a18_11, x18_12, a18_12, x18_13, a18_13, x18_14, a18_14, x18_15, a18_15, sx_guardO g18_15_3, x18_16, a18_16, x18_17, a18_17, im18_73, x18_18, a18_18, x18_19, a18_19, sxAll, arithA, Nat.reduceEqDiff, Env.keep, qt_eq, isAlloc, resultsA, packA, fieldA, indexA, unA, fieldAddrA, Rv.part, cellsAt, TD.isAgg, convH, convA, buildA, fillA, setCells, copies, optA, boundA, mapO, ↓Option.bind_some, ↓Option.bind_none, Nat.reduceBEq, Nat.reduceAdd, Nat.reduceMul, Nat.reduceLeDiff, Nat.reduceSub, Nat.reduceLT, Nat.reduceGT, Int.reduceBEq, Int.reduceLT, Int.reduceLE, bne, ↓reduceIte, hlt, M.known, hyb', hix, hld, hcall, pu39, hw] at this ⊢
        exact this _ _ _ _ _
end
end Go.Proofs.Sx

/-
  order.Leads: what it answers.
-/
set_option linter.unusedSimpArgs false
set_option linter.unusedVariables false
set_option maxRecDepth 100000
set_option maxHeartbeats 4000000
namespace Go.Proofs.Sx
open Go.Rv Go.Proofs
attribute [local congr] bind_left got_left guardK_left
noncomputable section


theorem leads_outer (g : List SRow) (z : Nat) (r : Room) (a b : Int) (h : Heap) (hn : g.length < 1000000000) (hb : InG (xsOf g) b) (hrl : ∀ row ∈ g, row.xs.length < 1000000000) :
    ∀ (d : Nat) (cm : List Bool) (xs : List Int) (v : AV) (H : Heap), Inv (xsOf g) a b cm xs none d → Mem h H cm xs v → ∀ (t11 t13 t32 t47 t48 t49 t50 t53 t57 : AV),
    Got (exec cfg 18 (.loop l18_0) [(0, .lst (rowsL g) z r), (1, .int .i64 a), (2, .int .i64 b), (3, .ref [.lst (rowsL g) z r]), (6, .bool false), (7, .clo 39 [.ref [.lst (rowsL g) z r]]), (8, .msl h.length 0 g.length 1 0 (some g.length)), (9, v), (10, .bool false), (11, t11), (13, t13), (24, .bool false), (32, t32), (47, t47), (48, t48), (49, t49), (50, t50), (53, t53), (57, t57)]
 H) (fun q =>
      ∃ (fd : Bool) (v u11 u13 u32 u47 u48 u49 u50 u53 u57 : AV) (H' : Heap), q = (.exit 0, [(0, .lst (rowsL g) z r), (1, .int .i64 a), (2, .int .i64 b), (3, .ref [.lst (rowsL g) z r]), (6, .bool false), (7, .clo 39 [.ref [.lst (rowsL g) z r]]), (8, .msl h.length 0 g.length 1 0 (some g.length)), (9, v), (10, .bool fd), (11, u11), (13, u13), (24, .bool false), (32, u32), (47, u47), (48, u48), (49, u49), (50, u50), (53, u53), (57, u57)]
, H') ∧
        (fd = true ↔ Way (xsOf g) a b) ∧ H'.take h.length = h) := by
  intro d
  induction d with
  | zero =>
    intro cm xs v H I M t11 t13 t32 t47 t48 t49 t50 t53 t57
    have hxs : xs = [] := List.length_eq_zero_iff.1 (by have := I.fuel; omega)
    subst hxs
    have hl : ∀ e, lenA H (.slice e) v = some 0 := M.len
    have h0 : (((0 : Nat) : Int) > 0) = False := by simp
    rw [got_loop]
    simp only [l18_0, k18, Tryz.f18, regEnd_nrm (lv18 _), pu18, x18_0, a18_0, im18_3, x18_1, a18_1, x18_2, a18_2, sx_guardO g18_2_4, x18_3, a18_3, x18_4, a18_4, x18_5, a18_5, im18_29, x18_6, a18_6, x18_7, a18_7, x18_8, a18_8, x18_9, a18_9, x18_10, a18_10, x18_11, a18_11, x18_12, a18_12, x18_13, a18_13, x18_14, a18_14, x18_15, a18_15, sx_guardO g18_15_3, x18_16, a18_16, x18_17, a18_17, im18_73, x18_18, a18_18, x18_19, a18_19, sxAll, arithA, Nat.reduceEqDiff, Env.keep, qt_eq, isAlloc, resultsA, packA, fieldA, indexA, unA, fieldAddrA, Rv.part, cellsAt, TD.isAgg, convH, convA, buildA, fillA, setCells, copies, optA, boundA, mapO, ↓Option.bind_some, ↓Option.bind_none, Nat.reduceBEq, Nat.reduceAdd, Nat.reduceMul, Nat.reduceLeDiff, Nat.reduceSub, Nat.reduceLT, Nat.reduceGT, Int.reduceBEq, Int.reduceLT, Int.reduceLE, bne, ↓reduceIte, M.known, hl, h0, ty34]
    exact ⟨false, _, _, _, _, _, _, _, _, _, _, _, rfl, by simp [I.none], M.old⟩
  | succ d ih =>
    intro cm xs v H I M t11 t13 t32 t47 t48 t49 t50 t53 t57
    rcases List.eq_nil_or_concat xs with rfl | ⟨xs', x, rfl⟩
    · have hl : ∀ e, lenA H (.slice e) v = some 0 := M.len
      have h0 : (((0 : Nat) : Int) > 0) = False := by simp
      rw [got_loop]
      simp only [l18_0, k18, Tryz.f18, regEnd_nrm (lv18 _), pu18, x18_0, a18_0, im18_3, x18_1, a18_1, x18_2, a18_2, sx_guardO g18_2_4, x18_3, a18_3, x18_4, a18_4, x18_5, a18_5, im18_29, x18_6, a18_6, x18_7, a18_7, x18_8, a18_8, x18_9, a18_9, x18_10, a18_10, x18_11, a18_11, x18_12, a18_12, x18_13, a18_13, x18_14, a18_14, x18_15, a18_15, sx_guardO g18_15_3, x18_16, a18_16, x18_17, a18_17, im18_73, x18_18, a18_18, x18_19, a18_19, sxAll, arithA, Nat.reduceEqDiff, Env.keep, qt_eq, isAlloc, resultsA, packA, fieldA, indexA, unA, fieldAddrA, Rv.part, cellsAt, TD.isAgg, convH, convA, buildA, fillA, setCells, copies, optA, boundA, mapO, ↓Option.bind_some, ↓Option.bind_none, Nat.reduceBEq, Nat.reduceAdd, Nat.reduceMul, Nat.reduceLeDiff, Nat.reduceSub, Nat.reduceLT, Nat.reduceGT, Int.reduceBEq, Int.reduceLT, Int.reduceLE, bne, ↓reduceIte, M.known, hl, h0, ty34]
      exact ⟨false, _, _, _, _, _, _, _, _, _, _, _, rfl, by simp [I.none], M.old⟩
    · rw [List.concat_eq_append] at I M
      have hl : ∀ e, lenA H (.slice e) v = some (xs'.length + 1) := fun e => by rw [M.len]; simp
      have hxin := (I.way x (.inl (by simp))).1
      obtain ⟨row, hx⟩ : ∃ row, g[x.toNat]? = some row := ⟨_, List.getElem?_eq_getElem (by have := hxin.nat; rwa [xsOf_len] at this)⟩
      have hcap := I.cap
      rw [xsOf_len, List.length_append, List.length_singleton] at hcap
      obtain ⟨o, k, gn, v', hix, hld, hsl, M'⟩ := M.top
      have I' := I.pop
      obtain ⟨q, hq, o2, fd, cm2, xs2, v2, u13, u32, u49, u50, u53, u57, H2, rfl, hcase⟩ := leads_inner g z r a b h hn hb x row hx (hrl row (List.mem_of_getElem? hx)) d row.xs 0 (by simp) (by omega) cm xs' v' H I' M' (by simp) t13 (.bool true) t50 t53 t57
      have hgt : (((xs'.length + 1 : Nat) : Int) > 0) = True := eq_true (by omega)
      have hw : IntKind.i64.wrap (((xs'.length + 1 : Nat) : Int) - 1) = (xs'.length : Int) := by rw [wrap_id (by omega) (by omega)]; omega
      have hrow1 : indexAddrA cfg H 45 (.lst (rowsL g) z r) (.int .i64 x) = some (.ref [row.val]) := by
        have h1 : (rowsL g)[x.toNat]? = some row.val := by simp [rowsL, hx]
        have h0 : ¬ x < 0 := by have := hxin.1; omega
        simp [indexAddrA, ty45, ty34, h1, h0, SRow.val, AV.cells]
      have hrow2 : loadA cfg H 34 (.ref [row.val]) = some row.val := by simp [loadA, cellsAt, ty34, Rv.part, TD.isAgg]
      have hrow3 : loadA cfg H 45 (.ref [.lst (rowsL g) z r]) = some (.lst (rowsL g) z r) := by simp [loadA, cellsAt, ty45, Rv.part, TD.isAgg]
      have hrow4 : lenA H (.slice 3) (.lst (intL row.xs) row.z row.r) = some row.xs.length := by simp [lenA, intL_len]
      simp only [Int.natCast_zero, SRow.val] at hq hrow1 hrow2
      rw [got_loop]
      rcases hcase with ⟨rfl, rfl, I2, M2⟩ | ⟨rfl, rfl, hW, hold⟩
      · have := ih cm2 xs2 v2 H2 I2 M2
        simp only [l18_0] at this ⊢
        simp only [k18, Tryz.f18, regEnd_nrm (lv18 _), pu18, x18_0, a18_0, im18_3, x18_1, a18_1, x18_2, a18_2, sx_guardO g18_2_4, x18_3, a18_3, x18_4, a18_4, x18_5, a18_5, im18_29, x18_6, a18_6, x18_7, a18_7, x18_8, a18_8, x18_9, a18_9, x18_10, a18_10, x18_11, a18_11, x18_12, a18_12, x18_13, a18_13, x18_14, a18_14, x18_15, a18_15, sx_guardO g18_15_3, x18_16, a18_16, x18_17, a18_17, im18_73, x18_18, a18_18, x18_19, a18_19, sxAll, arithA, Nat.reduceEqDiff, Env.keep, qt_eq, isAlloc, resultsA, packA, fieldA, indexA, unA, fieldAddrA, Rv.part, cellsAt, TD.isAgg, convH, convA, buildA, fillA, setCells, copies, optA, boundA, mapO, ↓Option.bind_some, ↓Option.bind_none, Nat.reduceBEq, Nat.reduceAdd, Nat.reduceMul, Nat.reduceLeDiff, Nat.reduceSub, Nat.reduceLT, Nat.reduceGT, Int.reduceBEq, Int.reduceLT, Int.reduceLE, bne, ↓reduceIte, M.known, M'.known, hl, ty34, ty45, hgt, hw, hix, hld, hsl, hrow1, hrow2, hrow3, hrow4, hq] at this ⊢
        exact this _ _ _ _ _ _ _ _ _
      · simp only [l18_0, k18, Tryz.f18, regEnd_nrm (lv18 _), pu18, x18_0, a18_0, im18_3, x18_1, a18_1, x18_2, a18_2, sx_guardO g18_2_4, x18_3, a18_3, x18_4, a18_4, x18_5, a18_5, im18_29, x18_6, a18_6, x18_7, a18_7, x18_8, a18_8, x18_9, a18_9, x18_10, a18_10, x18_11, a18_11, x18_12, a18_12, x18_13, a18_13, x18_14, a18_14, x18_15, a18_15, sx_guardO g18_15_3, x18_16, a18_16, x18_17, a18_17, im18_73, x18_18, a18_18, x18_19, a18_19, sxAll, arithA, Nat.reduceEqDiff, Env.keep, qt_eq, isAlloc, resultsA, packA, fieldA, indexA, unA, fieldAddrA, Rv.part, cellsAt, TD.isAgg, convH, convA, buildA, fillA, setCells, copies, optA, boundA, mapO, ↓Option.bind_some, ↓Option.bind_none, Nat.reduceBEq, Nat.reduceAdd, Nat.reduceMul, Nat.reduceLeDiff, Nat.reduceSub, Nat.reduceLT, Nat.reduceGT, Int.reduceBEq, Int.reduceLT, Int.reduceLE, bne, ↓reduceIte, M.known, M'.known, hl, ty34, ty45, hgt, hw, hix, hld, hsl, hrow1, hrow2, hrow3, hrow4, hq]
        exact ⟨true, _, _, _, _, _, _, _, _, _, _, _, rfl, by simp [hW], hold⟩

theorem copies_bool : ∀ (n : Nat), copies n [AV.bool false] = (List.replicate n false).map AV.bool
  | 0 => rfl
  | n + 1 => by rw [copies, copies_bool n]; rfl

/-- order.Leads answers whether there is a way of one edge or more, through numbers of the graph. -/
theorem leads_eq (g : List SRow) (z : Nat) (r : Room) (a b : Int) (h : Heap) (hn : g.length < 1000000000) (hrl : ∀ row ∈ g, row.xs.length < 1000000000) :
    ∃ B, call cfg 18 [.lst (rowsL g) z r, .int .i64 a, .int .i64 b] h = some (.ret (.bool B), h) ∧ (B = true ↔ Way (xsOf g) a b) := by
  have hc : ∀ x H, call cfg 39 [.int .i64 x, .ref [.lst (rowsL g) z r]] H = some (.ret (.bool (decide (InG (xsOf g) x))), H) := fun x H => by
    rw [leadsIn_eq g z r x H hn]
    simp only [inG_of]
  by_cases ha : InG (xsOf g) a
  · have hca : ∀ H, call cfg 39 [.int .i64 a, .ref [.lst (rowsL g) z r]] H = some (.ret (.bool true), H) := fun H => by rw [hc, decide_eq_true ha]
    by_cases hb : InG (xsOf g) b
    · have hcb : ∀ H, call cfg 39 [.int .i64 b, .ref [.lst (rowsL g) z r]] H = some (.ret (.bool true), H) := fun H => by rw [hc, decide_eq_true hb]
      have hrow3 : loadA cfg h 45 (.ref [.lst (rowsL g) z r]) = some (.lst (rowsL g) z r) := by simp [loadA, cellsAt, ty45, Rv.part, TD.isAgg]
      have hlen : lenA h (.slice 34) (.lst (rowsL g) z r) = some g.length := by simp [lenA, rowsL_len]
      have hmk : makeSliceA cfg h 91 (.int .i64 g.length) (.int .i64 g.length) = some (.msl h.length 0 g.length 1 0 (some g.length), h ++ [.cells ((List.replicate g.length false).map AV.bool) 0]) := by
        simp [makeSliceA, ty91, ty4, mostLen, copies_bool]
        exact decide_eq_true (by omega)
      have M : Mem h (h ++ [.cells ((List.replicate g.length false).map AV.bool) 0] ++ [.cells [.int .i64 a] 0]) (List.replicate g.length false) [a] (.msl (h.length + 1) 0 1 1 0 (some 1)) := by
        refine ⟨by simp [Heap.obj], ⟨h.length + 1, 0, some 1, [.int .i64 a], rfl, by simp [Heap.obj], by simp, by simp [intL], .inr rfl, by omega⟩, by simp⟩
      have I := Inv.start (b := b) ha
      rw [xsOf_len] at I
      obtain ⟨q, hq, fd, v, u11, u13, u32, u47, u48, u49, u50, u53, u57, H', rfl, hiff, hold⟩ := leads_outer g z r a b h hn hb hrl _ _ _ _ _ I M .junk .junk .junk .junk .junk .junk .junk .junk .junk
      refine ⟨fd, ?_, hiff⟩
      simp only [List.append_assoc, List.cons_append, List.nil_append] at hq
      rw [call18]
      simp only [k18, Tryz.f18, regEnd_nrm (lv18 _), pu18, x18_0, a18_0, im18_3, x18_1, a18_1, x18_2, a18_2, sx_guardO g18_2_4, x18_3, a18_3, x18_4, a18_4, x18_5, a18_5, im18_29, x18_6, a18_6, x18_7, a18_7, x18_8, a18_8, x18_9, a18_9, x18_10, a18_10, x18_11, a18_11, x18_12, a18_12, x18_13, a18_13, x18_14, a18_14, x18_15, a18_15, sx_guardO g18_15_3, x18_16, a18_16, x18_17, a18_17, im18_73, x18_18, a18_18, x18_19, a18_19, sxAll, arithA, Nat.reduceEqDiff, Env.keep, qt_eq, isAlloc, resultsA, packA, fieldA, indexA, unA, fieldAddrA, Rv.part, cellsAt, TD.isAgg, convH, convA, buildA, fillA, setCells, copies, optA, boundA, mapO, ↓Option.bind_some, ↓Option.bind_none, Nat.reduceBEq, Nat.reduceAdd, Nat.reduceMul, Nat.reduceLeDiff, Nat.reduceSub, Nat.reduceLT, Nat.reduceGT, Int.reduceBEq, Int.reduceLT, Int.reduceLE, bne, ↓reduceIte, ty3, ty34, ty45, hca, hcb, pu39, hrow3, hlen, hmk, hq]
      exact leave_pure rfl hold rfl
    · have hcb : ∀ H, call cfg 39 [.int .i64 b, .ref [.lst (rowsL g) z r]] H = some (.ret (.bool false), H) := fun H => by rw [hc, decide_eq_false hb]
      refine ⟨false, ?_, by simp; exact fun hW => hb hW.last⟩
      rw [call18]
      simp only [k18, Tryz.f18, regEnd_nrm (lv18 _), pu18, x18_0, a18_0, im18_3, x18_1, a18_1, x18_2, a18_2, sx_guardO g18_2_4, x18_3, a18_3, x18_4, a18_4, x18_5, a18_5, im18_29, x18_6, a18_6, x18_7, a18_7, x18_8, a18_8, x18_9, a18_9, x18_10, a18_10, x18_11, a18_11, x18_12, a18_12, x18_13, a18_13, x18_14, a18_14, x18_15, a18_15, sx_guardO g18_15_3, x18_16, a18_16, x18_17, a18_17, im18_73, x18_18, a18_18, x18_19, a18_19, sxAll, arithA, Nat.reduceEqDiff, Env.keep, qt_eq, isAlloc, resultsA, packA, fieldA, indexA, unA, fieldAddrA, Rv.part, cellsAt, TD.isAgg, convH, convA, buildA, fillA, setCells, copies, optA, boundA, mapO, ↓Option.bind_some, ↓Option.bind_none, Nat.reduceBEq, Nat.reduceAdd, Nat.reduceMul, Nat.reduceLeDiff, Nat.reduceSub, Nat.reduceLT, Nat.reduceGT, Int.reduceBEq, Int.reduceLT, Int.reduceLE, bne, ↓reduceIte, ty34, ty45, hca, hcb, pu39]
      exact leave_kept rfl rfl
  · have hca : ∀ H, call cfg 39 [.int .i64 a, .ref [.lst (rowsL g) z r]] H = some (.ret (.bool false), H) := fun H => by rw [hc, decide_eq_false ha]
    refine ⟨false, ?_, by simp; exact fun hW => ha hW.first⟩
    rw [call18]
    simp only [k18, Tryz.f18, regEnd_nrm (lv18 _), pu18, x18_0, a18_0, im18_3, x18_1, a18_1, x18_2, a18_2, sx_guardO g18_2_4, x18_3, a18_3, x18_4, a18_4, x18_5, a18_5, im18_29, x18_6, a18_6, x18_7, a18_7, x18_8, a18_8, x18_9, a18_9, x18_10, a18_10, x18_11, a18_11, x18_12, a18_12, x18_13, a18_13, x18_14, a18_14, x18_15, a18_15, sx_guardO g18_15_3, x18_16, a18_16, x18_17, a18_17, im18_73, x18_18, a18_18, x18_19, a18_19, sxAll, arithA, Nat.reduceEqDiff, Env.keep, qt_eq, isAlloc, resultsA, packA, fieldA, indexA, unA, fieldAddrA, Rv.part, cellsAt, TD.isAgg, convH, convA, buildA, fillA, setCells, copies, optA, boundA, mapO, ↓Option.bind_some, ↓Option.bind_none, Nat.reduceBEq, Nat.reduceAdd, Nat.reduceMul, Nat.reduceLeDiff, Nat.reduceSub, Nat.reduceLT, Nat.reduceGT, Int.reduceBEq, Int.reduceLT, Int.reduceLE, bne, ↓reduceIte, ty34, ty45, hca, pu39]
    exact leave_kept rfl rfl
end
end Go.Proofs.Sx

/-
  bobbinlaw22.wide: false only where a graph is small.
-/
set_option linter.unusedSimpArgs false
set_option linter.unusedVariables false
set_option maxRecDepth 100000
set_option maxHeartbeats 4000000
namespace Go.Proofs.Sx
open Go.Rv Go.Proofs
attribute [local congr] bind_left got_left guardK_left
noncomputable section

theorem wide_loop (g : List SRow) (z : Nat) (r : Room) (h : Heap) (hn : g.length < 1000000000) (hrl : ∀ row ∈ g, row.xs.length < 1000000000) : ∀ (ys : List SRow) (i : Nat), g.drop i = ys → i ≤ g.length → ∀ t10 t18,
    Got (exec cfg 20 (.loop l20_0) [(0, .lst (rowsL g) z r), (2, .bool false), (3, .int .i64 i), (6, .bool false), (10, t10), (18, t18)] h) (fun q => q.2.2 = h ∧
      ((q.1 = .exit 0 ∧ ∃ u3 u10 u18, q.2.1 = [(0, .lst (rowsL g) z r), (2, .bool false), (3, u3), (6, .bool false), (10, u10), (18, u18)] ∧ ∀ row ∈ ys, row.xs.length ≤ 100) ∨
       (q.1 = .ret ∧ q.2.1.get 2 = .bool true))) := by
  intro ys
  induction ys with
  | nil =>
    intro i hd hi t10 t18
    rw [got_loop]
    simp only [l20_0, k20, Tryz.f20, regEnd_nrm (lv20 _), pu20, x20_0, a20_0, x20_1, a20_1, x20_2, a20_2, x20_3, a20_3, x20_4, a20_4, x20_6, a20_6, x20_7, a20_7, x20_5, a20_5, x20_8, a20_8, sxAll, arithA, Nat.reduceEqDiff, Env.keep, qt_eq, isAlloc, resultsA, packA, fieldA, indexA, unA, fieldAddrA, Rv.part, cellsAt, TD.isAgg, convH, convA, buildA, fillA, setCells, copies, optA, boundA, mapO, ↓Option.bind_some, ↓Option.bind_none, Nat.reduceBEq, Nat.reduceAdd, Nat.reduceMul, Nat.reduceLeDiff, Nat.reduceSub, Nat.reduceLT, Nat.reduceGT, Int.reduceBEq, Int.reduceLT, Int.reduceLE, bne, ↓reduceIte, lenA, ty45, rowsL_len, at_end hd]
    exact ⟨trivial, .inl ⟨trivial, _, _, _, rfl, by simp⟩⟩
  | cons row rest ih =>
    intro i hd hi t10 t18
    obtain ⟨hlt, hx, hd'⟩ := at_drop hd
    have hw := wrap_succ (i := i) (by simp at hlt; omega)
    have hix : indexAddrA cfg h 45 (.lst (rowsL g) z r) (.int .i64 i) = some (.ref [row.val]) := by
      have h1 : (rowsL g)[i]? = some row.val := by simp [rowsL, hx]
      simp [indexAddrA, ty45, ty34, h1, SRow.val, AV.cells]
    have hld : loadA cfg h 34 (.ref [row.val]) = some row.val := by simp [loadA, cellsAt, ty34, Rv.part, TD.isAgg]
    have hlr : lenA h (.slice 3) row.val = some row.xs.length := by simp [SRow.val, lenA, intL_len]
    have hln : lenA h (.slice 34) (.lst (rowsL g) z r) = some g.length := by simp [lenA, rowsL_len]
    have hkn : known row.val = some row.val := rfl
    rw [got_loop]
    by_cases h1 : row.xs.length ≤ 100
    · have hgt : ((row.xs.length : Int) > 100) = False := by simp; omega
      have := (ih (i + 1) hd' (by simp at hlt; omega))
      simp only [l20_0] at this ⊢
      simp only [k20, Tryz.f20, regEnd_nrm (lv20 _), pu20, x20_0, a20_0, x20_1, a20_1, x20_2, a20_2, x20_3, a20_3, x20_4, a20_4, x20_6, a20_6, x20_7, a20_7, x20_5, a20_5, x20_8, a20_8, sxAll, arithA, Nat.reduceEqDiff, Env.keep, qt_eq, isAlloc, resultsA, packA, fieldA, indexA, unA, fieldAddrA, Rv.part, cellsAt, TD.isAgg, convH, convA, buildA, fillA, setCells, copies, optA, boundA, mapO, ↓Option.bind_some, ↓Option.bind_none, Nat.reduceBEq, Nat.reduceAdd, Nat.reduceMul, Nat.reduceLeDiff, Nat.reduceSub, Nat.reduceLT, Nat.reduceGT, Int.reduceBEq, Int.reduceLT, Int.reduceLE, bne, ↓reduceIte, ty45, ty34, hln, hlt, hix, hld, hlr, hgt, hkn, hw] at this ⊢
      refine (this _ _).mono fun q ⟨hq, hc⟩ => ⟨hq, ?_⟩
      rcases hc with ⟨e1, u3, u10, u18, e2, e3⟩ | hc
      · exact .inl ⟨e1, u3, u10, u18, e2, fun w hw => by
          rcases List.mem_cons.1 hw with rfl | hw
          · exact h1
          · exact e3 w hw⟩
      · exact .inr hc
    · have hgt : ((row.xs.length : Int) > 100) = True := eq_true (by omega)
      simp only [l20_0, k20, Tryz.f20, regEnd_nrm (lv20 _), pu20, x20_0, a20_0, x20_1, a20_1, x20_2, a20_2, x20_3, a20_3, x20_4, a20_4, x20_6, a20_6, x20_7, a20_7, x20_5, a20_5, x20_8, a20_8, sxAll, arithA, Nat.reduceEqDiff, Env.keep, qt_eq, isAlloc, resultsA, packA, fieldA, indexA, unA, fieldAddrA, Rv.part, cellsAt, TD.isAgg, convH, convA, buildA, fillA, setCells, copies, optA, boundA, mapO, ↓Option.bind_some, ↓Option.bind_none, Nat.reduceBEq, Nat.reduceAdd, Nat.reduceMul, Nat.reduceLeDiff, Nat.reduceSub, Nat.reduceLT, Nat.reduceGT, Int.reduceBEq, Int.reduceLT, Int.reduceLE, bne, ↓reduceIte, ty45, ty34, hln, hlt, hix, hld, hlr, hgt, hkn]
      exact ⟨trivial, .inr ⟨trivial, trivial⟩⟩

theorem wide_eq (g : List SRow) (z : Nat) (r : Room) (h : Heap) (hn : g.length < 1000000000) (hrl : ∀ row ∈ g, row.xs.length < 1000000000) :
    ∃ B, call cfg 20 [.lst (rowsL g) z r] h = some (.ret (.bool B), h) ∧ (B = false → g.length ≤ 60 ∧ ∀ row ∈ g, row.xs.length ≤ 100) := by
  have hln : lenA h (.slice 34) (.lst (rowsL g) z r) = some g.length := by simp [lenA, rowsL_len]
  by_cases h1 : g.length ≤ 60
  · have hgt : ((g.length : Int) > 60) = False := by simp; omega
    obtain ⟨⟨o, E, H⟩, hq, hH, hc⟩ := wide_loop g z r h hn hrl g 0 (by simp) (by omega) .junk .junk
    simp only [Int.natCast_zero] at hq hH hc
    subst hH
    rcases hc with ⟨rfl, u3, u10, u18, rfl, hs⟩ | ⟨rfl, h2⟩
    · refine ⟨false, ?_, fun _ => ⟨h1, hs⟩⟩
      rw [call20]
      simp only [k20, Tryz.f20, regEnd_nrm (lv20 _), pu20, x20_0, a20_0, x20_1, a20_1, x20_2, a20_2, x20_3, a20_3, x20_4, a20_4, x20_6, a20_6, x20_7, a20_7, x20_5, a20_5, x20_8, a20_8, sxAll, arithA, Nat.reduceEqDiff, Env.keep, qt_eq, isAlloc, resultsA, packA, fieldA, indexA, unA, fieldAddrA, Rv.part, cellsAt, TD.isAgg, convH, convA, buildA, fillA, setCells, copies, optA, boundA, mapO, ↓Option.bind_some, ↓Option.bind_none, Nat.reduceBEq, Nat.reduceAdd, Nat.reduceMul, Nat.reduceLeDiff, Nat.reduceSub, Nat.reduceLT, Nat.reduceGT, Int.reduceBEq, Int.reduceLT, Int.reduceLE, bne, ↓reduceIte, ty45, hln, hgt, hq]
      exact leave_kept rfl rfl
    · refine ⟨true, ?_, by simp⟩
      rw [call20]
      simp only [k20, Tryz.f20, regEnd_nrm (lv20 _), pu20, x20_0, a20_0, x20_1, a20_1, x20_2, a20_2, x20_3, a20_3, x20_4, a20_4, x20_6, a20_6, x20_7, a20_7, x20_5, a20_5, x20_8, a20_8, sxAll, arithA, Nat.reduceEqDiff, Env.keep, qt_eq, isAlloc, resultsA, packA, fieldA, indexA, unA, fieldAddrA, Rv.part, cellsAt, TD.isAgg, convH, convA, buildA, fillA, setCells, copies, optA, boundA, mapO, ↓Option.bind_some, ↓Option.bind_none, Nat.reduceBEq, Nat.reduceAdd, Nat.reduceMul, Nat.reduceLeDiff, Nat.reduceSub, Nat.reduceLT, Nat.reduceGT, Int.reduceBEq, Int.reduceLT, Int.reduceLE, bne, ↓reduceIte, ty45, hln, hgt, hq, h2]
      exact leave_kept rfl rfl
  · have hgt : ((g.length : Int) > 60) = True := eq_true (by omega)
    refine ⟨true, ?_, by simp⟩
    rw [call20]
    simp only [k20, Tryz.f20, regEnd_nrm (lv20 _), pu20, x20_0, a20_0, x20_1, a20_1, x20_2, a20_2, x20_3, a20_3, x20_4, a20_4, x20_6, a20_6, x20_7, a20_7, x20_5, a20_5, x20_8, a20_8, sxAll, arithA, Nat.reduceEqDiff, Env.keep, qt_eq, isAlloc, resultsA, packA, fieldA, indexA, unA, fieldAddrA, Rv.part, cellsAt, TD.isAgg, convH, convA, buildA, fillA, setCells, copies, optA, boundA, mapO, ↓Option.bind_some, ↓Option.bind_none, Nat.reduceBEq, Nat.reduceAdd, Nat.reduceMul, Nat.reduceLeDiff, Nat.reduceSub, Nat.reduceLT, Nat.reduceGT, Int.reduceBEq, Int.reduceLT, Int.reduceLE, bne, ↓reduceIte, ty45, hln, hgt]
    exact leave_kept rfl rfl
end
end Go.Proofs.Sx
