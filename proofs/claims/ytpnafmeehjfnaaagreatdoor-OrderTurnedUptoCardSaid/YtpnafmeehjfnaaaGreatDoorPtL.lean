/-
  slices.IndexFunc, ContainsFunc at order.Edge; the closures of order.Graph.
-/
import Derived.Test.YtpnafmeehjfnaaaGreatDoorPtK
import Derived.Test.YtpnafmeehjfnaaaGreatDoorPtA
import Derived.Test.YtpnafmeehjfnaaaGreatDoorPtH
set_option linter.unusedSectionVars false
set_option linter.unusedSimpArgs false
set_option linter.unusedVariables false
set_option linter.defProp false
set_option maxHeartbeats 1000000
set_option maxHeartbeats 4000000
set_option maxRecDepth 100000
namespace Go.Proofs.Sx
open Go.Rv Go.Proofs
attribute [local congr] bind_left got_left guardK_left
noncomputable section
def idxP {α : Type} (p : α → Bool) : List α → Nat → Int
  | [], _ => -1
  | y :: r, i => if p y then i else idxP p r (i + 1)
theorem idxP_any {α : Type} (p : α → Bool) : ∀ (l : List α) (i : Nat), (decide (idxP p l i ≥ 0)) = l.any p
  | [], i => by simp [idxP]
  | y :: r, i => by
    unfold idxP
    cases hp : p y
    · simp only [Bool.false_eq_true, if_false, List.any_cons, hp, Bool.false_or]
      exact idxP_any p r (i + 1)
    · simp [List.any_cons, hp]
theorem drop_map {α β : Type} {f : α → β} {xs ys : List α} {i : Nat} (h : xs.drop i = ys) : (xs.map f).drop i = ys.map f := by rw [← List.map_drop, h]
theorem pu61 : cfg.pure 61 = true := rfl
instance t61 {d : Option Nat} : TightD cfg 61 d := ⟨fun _ _ => rfl⟩
def B61 (p : List Bool) := cA p Tryz.f61.body
def R61 (p : List Bool) (i : Nat) := Code.region i (cA p Tryz.f61.body) false
theorem F61 : (∀ p i, XR cfg 61 (R61 p i) (B61 p) (cA p Tryz.f61.body).toList i false) ∧ RE cfg 61 [0, 1, 4, 5, 7, 8, 9, 16] ∧ cfg.pure 61 = true := ⟨fun _ _ => xr rfl rfl, rE fun _ => rfl, rfl⟩
def l61_0 : Code := (.seq (R61 [tt, ff, tt, ff, ff, ff] 2) (.seq (.cond (.tmp 9) .skip (.exit 0)) (.seq (.block 1 (.seq (R61 [tt, ff, tt, ff, ff, tt, tt, ff, ff, ff] 3) (.seq (R61 [tt, ff, tt, ff, ff, tt, tt, ff, ff, tt, ff] 4) (.cond (.tmp 16) (.seq (R61 [tt, ff, tt, ff, ff, tt, tt, ff, ff, tt, tt, ff, ff] 5) .ret) .skip)))) (R61 [tt, ff, tt, ff, ff, tt, tt, tt] 6))))
def k61 : Code := (.seq (R61 [ff] 0) (.seq (.seq (R61 [tt, ff, ff] 1) (.block 0 (.loop l61_0))) (.seq (R61 [tt, tt, ff] 7) .ret)))
theorem call61 (x0 x1 : AV) (h : Heap) : call cfg 61 [x0, x1] h = (exec cfg 61 k61 [(0, x0), (1, x1)] h).bind (callEnd cfg 61 h [.tmp 4]) := call_at2 (fnat Tryz.func61 (b := k61) (by kernel_rfl) (by kernel_rfl)) rfl rfl
theorem pu35 : cfg.pure 35 = true := rfl
instance t35 {d : Option Nat} : TightD cfg 35 d := ⟨fun _ _ => rfl⟩
def B35 (p : List Bool) := cA p Tryz.f35.body
def R35 (p : List Bool) (i : Nat) := Code.region i (cA p Tryz.f35.body) false
theorem F35 : (∀ p i, XR cfg 35 (R35 p i) (B35 p) (cA p Tryz.f35.body).toList i false) ∧ RE cfg 35 [0, 1, 4] ∧ cfg.pure 35 = true := ⟨fun _ _ => xr rfl rfl, rE fun _ => rfl, rfl⟩
def k35 : Code := (.seq (R35 [ff] 0) (.seq (R35 [tt, ff] 1) .ret))
theorem call35 (x0 x1 : AV) (h : Heap) : call cfg 35 [x0, x1] h = (exec cfg 35 k35 [(0, x0), (1, x1)] h).bind (callEnd cfg 35 h [.tmp 4]) := call_at2 (fnat Tryz.func35 (b := k35) (by kernel_rfl) (by kernel_rfl)) rfl rfl
theorem indexFEdge_loop {α : Type} (xs : List α) (f : α → List AV) (p : α → Bool) (g : Nat) (caps : List AV) (z : Nat) (r : Room) (h : Heap) (hn : xs.length < 1000000000) (hs : ∀ a ∈ xs, (f a).length = 4)
    (hg : ∀ a ∈ xs, call cfg g (.agg (f a) :: caps) h = some (.ret (.bool (p a)), h)) : ∀ (ys : List α) (i : Nat), xs.drop i = ys → i ≤ xs.length → ∀ c d t e,
    Got (exec cfg 61 (.loop l61_0) [(0, .lst (xs.map fun a => .agg (f a)) z r), (1, .clo g caps), (4, c), (5, d), (7, .int .i64 xs.length), (8, .int .i64 i), (9, t), (16, e)] h) (fun q => q.2.2 = h ∧
      ((q.1 = .exit 0 ∧ idxP p ys i = -1) ∨ (q.1 = .ret ∧ q.2.1.get 4 = .int .i64 (idxP p ys i)))) := by
  intro ys
  induction ys with
  | nil =>
    intro i hd hi c d t e
    rw [got_loop]
    simp only [l61_0, F61, Tryz.f61, sxAll, cA, arithA, Env.keep, ↓Option.bind_some, Nat.reduceBEq, ↓reduceIte, at_end hd]
    exact ⟨trivial, .inl ⟨trivial, rfl⟩⟩
  | cons y r ih =>
    intro i hd hi c d t e
    obtain ⟨hlt, hget, hd'⟩ := at_drop hd
    obtain ⟨_, hx, _⟩ := at_drop (drop_map (f := fun a => AV.agg (f a)) hd)
    have hmem : y ∈ xs := List.mem_of_getElem? hget
    have hw := wrap_succ (i := i) (by omega)
    have hc := hg y hmem
    have hsz := hs y hmem
    have hle : ((4 : Nat) ≤ (f y).length) = True := by simp [hsz]
    have htk : (f y).take 4 = f y := List.take_of_length_le (by omega)
    have hbq : ((f y).length == 4) = true := by simp [hsz]
    rw [got_loop]
    cases he : p y with
    | true =>
      rw [he] at hc
      simp only [l61_0, F61, Tryz.f61, sxAll, cA, arithA, Env.keep, qt_eq, indexAddrA, loadA, Rv.part, cellsAt, TD.isAgg, mapO, ↓Option.bind_some, Nat.reduceBEq, ↓reduceIte, hlt, indexAddrA, ty42, ty49, hx, hc, hle, htk, hbq]
      exact ⟨trivial, .inr ⟨trivial, by simp [idxP, he]⟩⟩
    | false =>
      rw [he] at hc
      have := ih (i + 1) hd' (by simp at hlt; omega)
      simp only [l61_0] at this ⊢
      simp only [F61, Tryz.f61, sxAll, cA, arithA, Env.keep, qt_eq, indexAddrA, loadA, Rv.part, cellsAt, TD.isAgg, mapO, ↓Option.bind_some, Nat.reduceBEq, ↓reduceIte, hlt, indexAddrA, ty42, ty49, hx, hw, hc, idxP, he, hle, htk, hbq] at this ⊢
      exact this _ _ _ _
theorem indexFEdge_eq {α : Type} (xs : List α) (f : α → List AV) (p : α → Bool) (g : Nat) (caps : List AV) (z : Nat) (r : Room) (h : Heap) (hn : xs.length < 1000000000) (hs : ∀ a ∈ xs, (f a).length = 4)
    (hg : ∀ a ∈ xs, call cfg g (.agg (f a) :: caps) h = some (.ret (.bool (p a)), h)) : call cfg 61 [.lst (xs.map fun a => .agg (f a)) z r, .clo g caps] h = some (.ret (.int .i64 (idxP p xs 0)), h) := by
  obtain ⟨⟨o, e', h'⟩, hx, hh, hq⟩ := indexFEdge_loop xs f p g caps z r h hn hs hg xs 0 (by simp) (by omega) (.int .i64 0) .junk .junk .junk
  simp only [Int.natCast_zero] at hx hh hq
  subst hh
  rw [call61]
  rcases hq with ⟨rfl, h1⟩ | ⟨rfl, h1⟩
  · simp only [F61, k61, Tryz.f61, sxAll, cA, Env.keep, resultsA, packA, lenA, ↓Option.bind_some, Nat.reduceBEq, ↓reduceIte, ty42, List.length_map, hx, h1]
    exact leave_kept rfl rfl
  · simp only [F61, k61, Tryz.f61, sxAll, cA, Env.keep, resultsA, packA, lenA, ↓Option.bind_some, Nat.reduceBEq, ↓reduceIte, ty42, List.length_map, hx, h1]
    exact leave_kept rfl rfl
theorem containsFEdge_eq {α : Type} (xs : List α) (f : α → List AV) (p : α → Bool) (g : Nat) (caps : List AV) (z : Nat) (r : Room) (h : Heap) (hn : xs.length < 1000000000) (hs : ∀ a ∈ xs, (f a).length = 4)
    (hg : ∀ a ∈ xs, call cfg g (.agg (f a) :: caps) h = some (.ret (.bool (p a)), h)) : call cfg 35 [.lst (xs.map fun a => .agg (f a)) z r, .clo g caps] h = some (.ret (.bool (xs.any p)), h) := by
  rw [call35]
  simp only [F35, k35, Tryz.f35, sxAll, cA, arithA, Env.keep, qt_eq, resultsA, packA, mapO, ↓Option.bind_some, Nat.reduceBEq, ↓reduceIte, indexFEdge_eq xs f p g caps z r h hn hs hg, pu61, idxP_any]
  exact leave_kept rfl rfl
instance t34 {d : Option Nat} : TightD cfg 34 d := ⟨fun _ _ => rfl⟩
def B34 (p : List Bool) := cA p Tryz.f34.body
def R34 (p : List Bool) (i : Nat) := Code.region i (cA p Tryz.f34.body) false
theorem F34 : (∀ p i, XR cfg 34 (R34 p i) (B34 p) (cA p Tryz.f34.body).toList i false) ∧ GO cfg 34 (B34 [tt, ff]) 2 6 ∧ RE cfg 34 [0, 1, 3] ∧ cfg.pure 34 = true := ⟨fun _ _ => xr rfl rfl, gO (by kernel_rfl), rE fun _ => rfl, rfl⟩
def k34 : Code := (.seq (R34 [ff] 0) (.seq (R34 [tt, ff] 1) .ret))
theorem call34 (x0 x1 : AV) (h : Heap) : call cfg 34 [x0, x1] h = (exec cfg 34 k34 [(0, x0), (1, x1)] h).bind (callEnd cfg 34 h [.tmp 3]) := call_at2 (fnat Tryz.func34 (b := k34) (by kernel_rfl) (by kernel_rfl)) rfl rfl
instance t36 {d : Option Nat} : TightD cfg 36 d := ⟨fun _ _ => rfl⟩
def B36 (p : List Bool) := cA p Tryz.f36.body
def R36 (p : List Bool) (i : Nat) := Code.region i (cA p Tryz.f36.body) false
theorem F36 : (∀ p i, XR cfg 36 (R36 p i) (B36 p) (cA p Tryz.f36.body).toList i false) ∧ cfg.imm 36 2 = true ∧ GO cfg 36 (B36 [tt, ff]) 4 8 ∧ RE cfg 36 [0, 1, 2, 3] ∧ cfg.pure 36 = true := ⟨fun _ _ => xr rfl rfl, by kernel_rfl, gO (by kernel_rfl), rE fun _ => rfl, rfl⟩
def k36 : Code := (.seq (R36 [ff] 0) (.seq (R36 [tt, ff] 1) .ret))
theorem call36 (x0 x1 : AV) (h : Heap) : call cfg 36 [x0, x1] h = (exec cfg 36 k36 [(0, x0), (1, x1)] h).bind (callEnd cfg 36 h [.tmp 3]) := call_at2 (fnat Tryz.func36 (b := k36) (by kernel_rfl) (by kernel_rfl)) rfl rfl
structure SEdge where
  a : Int
  b : Int
  c : Int
  d : Int
def SEdge.cells (e : SEdge) : List AV := [.int .i64 e.a, .int .i64 e.b, .int .i64 e.c, .int .i64 e.d]
def edgesL (l : List SEdge) : List AV := l.map fun e => .agg e.cells
def outB (N x : Int) : Bool := decide (x < 0) || decide (x ≥ N)
theorem load_ref (H : Heap) (t : Nat) (cs : List AV) : loadA cfg H t (.ref cs) = (cfg.ty t).bind fun ti => Rv.part ti cs := by
  simp only [loadA, cellsAt, Option.bind_eq_bind, Option.bind_some]
theorem gOut_eq (N x : Int) (h : Heap) : call cfg 34 [.int .i64 x, .ref [.int .i64 N]] h = some (.ret (.bool (outB N x)), h) := by
  rw [call34]
  by_cases h1 : x < 0
  · simp only [F34, k34, Tryz.f34, sxAll, cA, arithA, Env.keep, resultsA, packA, ↓Option.bind_some, Nat.reduceBEq, ↓reduceIte, h1, outB]
    exact leave_kept rfl rfl
  · by_cases h2 : x ≥ N
    · simp only [F34, k34, Tryz.f34, sxAll, cA, arithA, Env.keep, qt_eq, resultsA, packA, loadA, Rv.part, cellsAt, TD.isAgg, ↓Option.bind_some, Nat.reduceBEq, Nat.reduceAdd, ↓reduceIte, ty3, h1, h2, outB]
      exact leave_kept rfl rfl
    · simp only [F34, k34, Tryz.f34, sxAll, cA, arithA, Env.keep, qt_eq, resultsA, packA, loadA, Rv.part, cellsAt, TD.isAgg, ↓Option.bind_some, Nat.reduceBEq, Nat.reduceAdd, ↓reduceIte, ty3, h1, h2, outB]
      exact leave_kept rfl rfl
theorem gOut2_eq (N : Int) (e : SEdge) (h : Heap) (o : Nat) (ho : h.obj o 0 = some [.clo 34 [.ref [.int .i64 N]]]) : call cfg 36 [.agg e.cells, .ptr o 0 0] h = some (.ret (.bool (outB N e.a || outB N e.b)), h) := by
  have ha := fun H => gOut_eq N e.a H
  have hb := fun H => gOut_eq N e.b H
  have hl : loadA cfg h 72 (.ptr o 0 0) = some (.clo 34 [.ref [.int .i64 N]]) := by simp [loadA, ty72, cellsAt, ho, Rv.part, TD.isAgg]
  rw [call36]
  cases h1 : outB N e.a with
  | true =>
    simp only [h1] at ha
    simp only [F36, k36, Tryz.f36, sxAll, cA, Env.keep, qt_eq, resultsA, packA, fieldAddrA, Rv.part, TD.isAgg, mapO, ↓Option.bind_some, Nat.reduceBEq, Nat.reduceAdd, ↓reduceIte, SEdge.cells, fieldAddrA, load_ref, ty49, ty3, hl, ha]
    exact leave_kept rfl rfl
  | false =>
    simp only [h1] at ha
    simp only [F36, k36, Tryz.f36, sxAll, cA, Env.keep, qt_eq, resultsA, packA, fieldAddrA, Rv.part, TD.isAgg, mapO, ↓Option.bind_some, Nat.reduceBEq, Nat.reduceAdd, ↓reduceIte, SEdge.cells, fieldAddrA, load_ref, ty49, ty3, hl, ha, hb]
    exact leave_kept rfl rfl
end
end Go.Proofs.Sx
namespace Go.Proofs.Sx
def rowAt (g : List (List Int)) (x : Int) : List Int := g.getD x.toNat []
def InG (g : List (List Int)) (x : Int) : Prop := 0 ≤ x ∧ x < g.length
instance (g : List (List Int)) (x : Int) : Decidable (InG g x) := inferInstanceAs (Decidable (_ ∧ _))
inductive Way (g : List (List Int)) (a : Int) : Int → Prop
  | one {b : Int} : InG g a → b ∈ rowAt g a → InG g b → Way g a b
  | step {b c : Int} : Way g a b → c ∈ rowAt g b → InG g c → Way g a c
theorem Way.last {g : List (List Int)} {a b : Int} (h : Way g a b) : InG g b := by cases h <;> assumption
theorem Way.first {g : List (List Int)} {a b : Int} (h : Way g a b) : InG g a := by induction h <;> assumption
theorem Way.trans {g : List (List Int)} {a b c : Int} (h : Way g a b) (k : Way g b c) : Way g a c := by
  induction k with
  | one _ h2 h3 => exact .step h h2 h3
  | step _ h2 h3 ih => exact .step ih h2 h3
structure Inv (g : List (List Int)) (a b : Int) (cm : List Bool) (xs : List Int) (o : Option Int) (d : Nat) : Prop where
  len : cm.length = g.length
  way : ∀ x, x ∈ xs ∨ o = some x → InG g x ∧ (x = a ∨ Way g a x)
  done : ∀ z, InG g z → (z = a ∨ cm[z.toNat]? = some true) → z ∈ xs ∨ o = some z ∨ (b ∉ rowAt g z ∧ ∀ y ∈ rowAt g z, InG g y → cm[y.toNat]? = some true)
  cap : xs.length + cm.count false ≤ g.length + 1
  fuel : 2 * cm.count false + xs.length ≤ d
theorem count_mark : ∀ (cm : List Bool) (i : Nat), cm[i]? = some false → (cm.set i true).count false + 1 = cm.count false
  | [], i, h => by simp at h
  | c :: r, 0, h => by
    simp at h; subst h; simp
  | c :: r, i + 1, h => by
    have := count_mark r i (by simpa using h)
    simp only [List.set_cons_succ, List.count_cons]
    omega
theorem Inv.start {g : List (List Int)} {a b : Int} (ha : InG g a) : Inv g a b (List.replicate g.length false) [a] none (2 * g.length + 1) where
  len := by simp
  way x h := by
    rcases h with h | h
    · simp at h; subst h; exact ⟨ha, .inl rfl⟩
    · cases h
  done z hz h := by
    rcases h with rfl | h
    · exact .inl (by simp)
    · rw [List.getElem?_replicate] at h; split at h <;> simp at h
  cap := by simp []; omega
  fuel := by simp []
theorem Inv.pop {g : List (List Int)} {a b x : Int} {cm : List Bool} {xs : List Int} {d : Nat} (I : Inv g a b cm (xs ++ [x]) none (d + 1)) : Inv g a b cm xs (some x) d where
  len := I.len
  way y h := by
    rcases h with h | h
    · exact I.way y (.inl (by simp [h]))
    · injection h with h; subst h; exact I.way _ (.inl (by simp))
  done z hz h := by
    rcases I.done z hz h with h | h | h
    · rcases List.mem_append.1 h with h | h
      · exact .inl h
      · simp at h; subst h; exact .inr (.inl rfl)
    · cases h
    · exact .inr (.inr h)
  cap := by have := I.cap; simp at this; omega
  fuel := by have := I.fuel; simp at this; omega
theorem InG.nat {g : List (List Int)} {x : Int} (h : InG g x) : x.toNat < g.length := by have := h.1; have := h.2; omega
theorem Inv.mark {g : List (List Int)} {a b x y : Int} {cm : List Bool} {xs : List Int} {d : Nat} (I : Inv g a b cm xs (some x) d) (hy : InG g y) (hr : y ∈ rowAt g x) (hc : cm[y.toNat]? = some false) :
    Inv g a b (cm.set y.toNat true) (xs ++ [y]) (some x) d := by
  have hcn := count_mark cm _ hc
  have hkeep : ∀ i, cm[i]? = some true → (cm.set y.toNat true)[i]? = some true := fun i hi => by
    rw [List.getElem?_set]
    split
    · rename_i h; subst h; rw [hc] at hi; simp at hi
    · exact hi
  have hw : Way g a y := by
    obtain ⟨h1, h2⟩ := I.way x (.inr rfl)
    rcases h2 with rfl | h2
    · exact .one h1 hr hy
    · exact .step h2 hr hy
  refine ⟨by simp [I.len], fun z hz => ?_, fun z hz h => ?_, by have := I.cap; simp; omega, by have := I.fuel; simp; omega⟩
  · rcases hz with hz | hz
    · rcases List.mem_append.1 hz with hz | hz
      · exact I.way z (.inl hz)
      · simp at hz; subst hz; exact ⟨hy, .inr hw⟩
    · exact I.way z (.inr hz)
  · by_cases hzy : z = y
    · subst hzy; exact .inl (by simp)
    · have h' : z = a ∨ cm[z.toNat]? = some true := h.imp id fun h => by
        rw [List.getElem?_set] at h
        split at h
        · rename_i e
          have := hz.1; have := hy.1
          exact absurd (by omega) hzy
        · exact h
      rcases I.done z hz h' with h | h | h
      · exact .inl (by simp [h])
      · exact .inr (.inl h)
      · exact .inr (.inr ⟨h.1, fun w hw hg => hkeep _ (h.2 w hw hg)⟩)
theorem Inv.rest {g : List (List Int)} {a b x : Int} {cm : List Bool} {xs : List Int} {d : Nat} (I : Inv g a b cm xs (some x) d) (hb : b ∉ rowAt g x) (hr : ∀ y ∈ rowAt g x, InG g y → cm[y.toNat]? = some true) :
    Inv g a b cm xs none d where
  len := I.len
  way z h := by
    rcases h with h | h
    · exact I.way z (.inl h)
    · cases h
  done z hz h := by
    rcases I.done z hz h with h | h | h
    · exact .inl h
    · injection h with h; subst h; exact .inr (.inr ⟨hb, hr⟩)
    · exact .inr (.inr h)
  cap := I.cap
  fuel := I.fuel
theorem Inv.none {g : List (List Int)} {a b : Int} {cm : List Bool} {d : Nat} (I : Inv g a b cm [] none d) : ¬ Way g a b := by
  have key : ∀ y, Way g a y → cm[y.toNat]? = some true ∧ y ≠ b := by
    intro y hy
    induction hy with
    | one h1 h2 h3 =>
      rcases I.done a h1 (.inl rfl) with h | h | h
      · simp at h
      · cases h
      · exact ⟨h.2 _ h2 h3, fun e => h.1 (e ▸ h2)⟩
    | step h1 h2 h3 ih =>
      rcases I.done _ h1.last (.inr ih.1) with h | h | h
      · simp at h
      · cases h
      · exact ⟨h.2 _ h2 h3, fun e => h.1 (e ▸ h2)⟩
  exact fun h => (key b h).2 rfl
theorem Inv.found {g : List (List Int)} {a b x : Int} {cm : List Bool} {xs : List Int} {d : Nat} (I : Inv g a b cm xs (some x) d) (hb : InG g b) (h : b ∈ rowAt g x) : Way g a b := by
  obtain ⟨h1, h2⟩ := I.way x (.inr rfl)
  rcases h2 with rfl | h2
  · exact .one h1 h hb
  · exact .step h2 h hb
theorem mark_keep {cm : List Bool} {i j : Nat} (hi : i < cm.length) (h : cm[j]? = some true) : (cm.set i true)[j]? = some true := by
  rw [List.getElem?_set]; split <;> simp_all
end Go.Proofs.Sx
namespace Go.Proofs.Sx
open Go.Rv Go.Proofs
noncomputable section
structure Mem (h H : Heap) (cm : List Bool) (xs : List Int) (v : AV) : Prop where
  come : H.obj h.length 0 = some (cm.map AV.bool)
  stk : ∃ o g cap cs, v = .msl o 0 xs.length 1 g cap ∧ H.obj o g = some cs ∧ xs.length ≤ cs.length ∧ cs.take xs.length = intL xs ∧ (cap = none ∨ cap = some cs.length) ∧ h.length < o
  old : H.take h.length = h
theorem obj_set_self {H : Heap} {o g g' : Nat} {cs cs' : List AV} (ho : H.obj o g = some cs) : Heap.obj (List.set H o (.cells cs' g')) o g' = some cs' := by
  have := obj_some ho
  simp [Heap.obj, this]
theorem obj_set_ne {H : Heap} {o p g : Nat} (x : AObj) (hn : o ≠ p) : Heap.obj (List.set H p x) o g = Heap.obj H o g := by
  simp [Heap.obj, List.getElem?_set_ne (Ne.symm hn)]
theorem take_push {cs : List AV} {xs : List Int} {y : Int} (h1 : cs.take xs.length = intL xs) (h2 : cs[xs.length]? = some (.int .i64 y)) : cs.take (xs ++ [y]).length = intL (xs ++ [y]) := by
  rw [List.length_append, List.length_singleton, List.take_add_one, h1, h2]
  simp [intL]
theorem Mem.push {h H : Heap} {cm : List Bool} {xs : List Int} {v : AV} (M : Mem h H cm xs v) (y : Int) (hl : xs.length < 4294967296) :
    ∃ v' H', appendA H 1 v [.int .i64 y] = some (v', H') ∧ Mem h H' cm (xs ++ [y]) v' := by
  obtain ⟨o, g, cap, cs, rfl, ho, hle, htk, hcap, hno⟩ := M.stk
  have hoH := obj_some ho
  by_cases hlt : xs.length < cs.length
  · have hok : capOk cap (xs.length + 1) = true := by
      rcases hcap with rfl | rfl
      · rfl
      · simp only [capOk, decide_eq_true_eq]; omega
    refine ⟨.msl o 0 (xs.length + 1) 1 g cap, H.set o (.cells (cs.set xs.length (.int .i64 y)) g), ?_, ⟨?_, ⟨o, g, cap, cs.set xs.length (.int .i64 y), by simp, obj_set_self ho, by simp; omega, take_push ?_ (by simp [hlt]), by simpa using hcap, hno⟩, ?_⟩⟩
    · simp [appendA, AV.cells, AV.leaf, ho, hok, setCells]
      omega
    · rw [obj_set_ne _ (by omega)]; exact M.come
    · rw [List.take_set_of_le (Nat.le_refl _)]; exact htk
    · rw [List.take_set_of_le (by omega)]; exact M.old
  · have he : xs.length = cs.length := by omega
    have hcs : cs = intL xs := by rw [← htk, he, List.take_length]
    have hn : ¬ xs.length + 1 ≤ cs.length := by omega
    rcases hcap with rfl | rfl
    · refine ⟨.msl o 0 (xs.length + 1) 1 (g + 1) none, H.set o (.cells (cs ++ [.int .i64 y]) (g + 1)), ?_, ⟨?_, ⟨o, g + 1, none, cs ++ [.int .i64 y], by simp, obj_set_self ho, by simp; omega, take_push ?_ (by simp [he]), .inl rfl, hno⟩, ?_⟩⟩
      · have hl' : cs.length + 1 ≤ 4294967296 := by omega
        have hn' : (cs.length + 1 ≤ cs.length) = False := by simp
        simp only [appendA, AV.cells, ho, growA, mostLen, he, hl', List.map_cons, List.map_nil, List.flatten_cons, List.flatten_nil, List.length_append, List.length_cons, List.length_nil, List.isEmpty_cons]
        simp [AV.leaf]
        omega
      · rw [obj_set_ne _ (by omega)]; exact M.come
      · rw [he, List.take_left' rfl, hcs]
      · rw [List.take_set_of_le (by omega)]; exact M.old
    · have hH := (show h.length ≤ H.length by omega)
      refine ⟨.msl H.length 0 (xs.length + 1) 1 0 none, H ++ [.cells (cs ++ [.int .i64 y]) 0], ?_, ⟨?_, ⟨H.length, 0, none, cs ++ [.int .i64 y], by simp, by simp [Heap.obj], by simp; omega, take_push ?_ (by simp [he]), .inl rfl, by omega⟩, ?_⟩⟩
      · rw [he] at hl hn
        simp [appendA, AV.cells, AV.leaf, ho, growA, mostLen, he, capOk, if_neg (show ¬ cs.length + 1 ≤ cs.length by omega)]
        omega
      · rw [obj_left _ _ (by omega)]; exact M.come
      · rw [he, List.take_left' rfl, hcs]
      · rw [take_app _ hH]; exact M.old
theorem Mem.mark {h H : Heap} {cm : List Bool} {xs : List Int} {v : AV} (M : Mem h H cm xs v) (i : Nat) (hi : i < cm.length) :
    ∃ H', storeA cfg H 4 (.ptr h.length i 0) (.bool true) = some H' ∧ Mem h H' (cm.set i true) xs v := by
  obtain ⟨o, g, cap, cs, rfl, ho, hle, htk, hcap, hno⟩ := M.stk
  refine ⟨H.set h.length (.cells ((cm.map AV.bool).set i (.bool true)) 0), ?_, ⟨?_, ⟨o, g, cap, cs, rfl, ?_, hle, htk, hcap, hno⟩, ?_⟩⟩
  · simp [storeA, ty4, M.come, AV.cells, AV.leaf, setCells]
    omega
  · rw [obj_set_self M.come, List.map_set]
  · rw [obj_set_ne _ (by omega), ho]
  · rw [List.take_set_of_le (Nat.le_refl _)]; exact M.old
theorem Mem.known {h H : Heap} {cm : List Bool} {xs : List Int} {v : AV} (M : Mem h H cm xs v) : known v = some v := by
  obtain ⟨o, g, cap, cs, rfl, _⟩ := M.stk
  rfl
theorem Mem.len {h H : Heap} {cm : List Bool} {xs : List Int} {v : AV} (M : Mem h H cm xs v) (e : Nat) : lenA H (.slice e) v = some xs.length := by
  obtain ⟨o, g, cap, cs, rfl, ho, _⟩ := M.stk
  simp [lenA, Heap.live, ho]
theorem Mem.top {h H : Heap} {cm : List Bool} {xs : List Int} {x : Int} {v : AV} (M : Mem h H cm (xs ++ [x]) v) :
    ∃ o k g v', indexAddrA cfg H 34 v (.int .i64 xs.length) = some (.ptr o k g) ∧ loadA cfg H 3 (.ptr o k g) = some (.int .i64 x) ∧ sliceA cfg H 34 v none (some (.int .i64 xs.length)) none = some v' ∧ Mem h H cm xs v' := by
  obtain ⟨o, g, cap, cs, rfl, ho, hle, htk, hcap, hno⟩ := M.stk
  simp only [List.length_append, List.length_singleton] at hle htk ⊢
  have hx : cs[xs.length]? = some (.int .i64 x) := by
    have : (cs.take (xs.length + 1))[xs.length]? = some (.int .i64 x) := by rw [htk]; simp [intL]
    rwa [List.getElem?_take_of_lt (by omega)] at this
  have hxs : cs.take xs.length = intL xs := by
    have := congrArg (List.take xs.length) htk
    rw [List.take_take, show min xs.length (xs.length + 1) = xs.length by omega] at this
    rw [this]; simp [intL]
  refine ⟨o, xs.length, g, .msl o 0 xs.length 1 g cap, ?_, ?_, ?_, ⟨M.come, ⟨o, g, cap, cs, rfl, ho, by omega, hxs, hcap, hno⟩, M.old⟩⟩
  · simp [indexAddrA, ty34, ty3, Heap.live, ho]
  · simp [loadA, ty3, cellsAt, ho, Rv.part, TD.isAgg, hx]
  · rcases hcap with rfl | rfl
    · simp [sliceA, ty34, ty3, ho, boundA, if_pos (show xs.length ≤ cs.length by omega)]
    · simp [sliceA, ty34, ty3, ho, boundA, if_pos (show xs.length ≤ cs.length by omega)]
theorem Mem.read {h H : Heap} {cm : List Bool} {xs : List Int} {v : AV} (M : Mem h H cm xs v) {n : Nat} (hn : cm.length = n) {y : Int} (h0 : 0 ≤ y) {c : Bool} (hc : cm[y.toNat]? = some c) :
    indexAddrA cfg H 91 (.msl h.length 0 n 1 0 (some n)) (.int .i64 y) = some (.ptr h.length y.toNat 0) ∧ loadA cfg H 4 (.ptr h.length y.toNat 0) = some (.bool c) := by
  have := (List.getElem?_eq_some_iff.1 hc).1
  have hy : ¬ y < 0 := by omega
  constructor
  · simp [indexAddrA, ty91, ty4, Heap.live, M.come, hy]
    omega
  · simp [loadA, ty4, cellsAt, M.come, Rv.part, TD.isAgg, hc]
end
end Go.Proofs.Sx
namespace Go.Proofs.Sx
open Go.Rv
def ded : List Int → List Int
  | [] => []
  | [x] => [x]
  | x :: y :: r => if x = y then ded (y :: r) else x :: ded (y :: r)
theorem mem_ded : ∀ (l : List Int) (a : Int), a ∈ ded l ↔ a ∈ l
  | [], a => by simp [ded]
  | [x], a => by simp [ded]
  | x :: y :: r, a => by
    have ih := mem_ded (y :: r) a
    unfold ded
    split
    · rename_i h; subst h; rw [ih]; simp
    · rw [List.mem_cons, ih]; simp
theorem ded_cons2 (x y : Int) (r : List Int) : ded (x :: y :: r) = if x = y then ded (y :: r) else x :: ded (y :: r) := rfl
theorem ded_snoc (x y : Int) : ∀ l : List Int, ded (l ++ [x, y]) = if x = y then ded (l ++ [x]) else ded (l ++ [x]) ++ [y]
  | [] => by simp only [List.nil_append, ded]; split <;> simp_all
  | [a] => by
    simp only [List.cons_append, List.nil_append, ded]
    split <;> split <;> simp_all
  | a :: b :: r => by
    have ih := ded_snoc x y (b :: r)
    simp only [List.cons_append] at ih ⊢
    rw [ded_cons2, ih, ded_cons2]
    split <;> split <;> simp_all
theorem ded_take {xs : List Int} {j : Nat} {x y : Int} (h1 : xs[j]? = some x) (h2 : xs[j + 1]? = some y) : ded (xs.take (j + 2)) = if x = y then ded (xs.take (j + 1)) else ded (xs.take (j + 1)) ++ [y] := by
  have e1 : xs.take (j + 1) = xs.take j ++ [x] := by rw [List.take_add_one, h1]; rfl
  have e2 : xs.take (j + 2) = xs.take j ++ [x, y] := by rw [List.take_add_one, h2, e1]; simp
  rw [e1, e2, ded_snoc]
theorem ded_len_le : ∀ l : List Int, (ded l).length ≤ l.length
  | [] => by simp [ded]
  | [x] => by simp [ded]
  | x :: y :: r => by
    have := ded_len_le (y :: r)
    rw [ded_cons2]
    split <;> simp only [List.length_cons] at * <;> omega
theorem ded_lt : ∀ (l : List Int), l.Pairwise (fun a b : Int => a ≤ b) → (ded l).Pairwise (fun a b : Int => a < b)
  | [], _ => by simp [ded]
  | [x], _ => by simp [ded]
  | x :: y :: r, h => by
    have h1 := List.pairwise_cons.1 h
    have ih := ded_lt (y :: r) h1.2
    unfold ded
    split
    · exact ih
    · rename_i hne
      refine List.pairwise_cons.2 ⟨fun a ha => ?_, ih⟩
      have ha := (mem_ded _ _).1 ha
      have hxy := h1.1 y (by simp)
      have hya : y ≤ a := by
        rcases List.mem_cons.1 ha with rfl | ha
        · exact Int.le_refl _
        · exact (List.pairwise_cons.1 h1.2).1 a ha
      omega
theorem lt_ext {a b : List Int} (ha : a.Pairwise (fun a b : Int => a < b)) (hb : b.Pairwise (fun a b : Int => a < b)) (h : ∀ x, x ∈ a ↔ x ∈ b) : a = b := by
  have na : a.Nodup := ha.imp fun h => by omega
  have nb : b.Nodup := hb.imp fun h => by omega
  have hp := (List.perm_ext_iff_of_nodup na nb).2 h
  exact List.Perm.eq_of_pairwise (le := fun a b : Int => a < b) (fun x y _ _ h1 h2 => by omega) ha hb hp
theorem ded_eq {a b : List Int} (h : ∀ x, x ∈ a ↔ x ∈ b) : ded (sortedZ a) = ded (sortedZ b) :=
  lt_ext (ded_lt _ (sortedZ_sorted a)) (ded_lt _ (sortedZ_sorted b)) fun x => by
    rw [mem_ded, mem_ded, (sortedZ_perm a).mem_iff, (sortedZ_perm b).mem_iff, h]
def outs (l : List (Int × Int)) (n : Int) : List Int := (l.filter fun e => e.1 == n).map (·.2)
theorem mem_outs {l : List (Int × Int)} {n y : Int} : y ∈ outs l n ↔ (n, y) ∈ l := by
  simp only [outs, List.mem_map, List.mem_filter, beq_iff_eq]
  constructor
  · rintro ⟨⟨a, b⟩, ⟨h1, h2⟩, h3⟩
    simp only at h2 h3; subst h2 h3; exact h1
  · intro h; exact ⟨(n, y), ⟨h, rfl⟩, rfl⟩
def graphOf (l : List (Int × Int)) (N : Nat) : List (List Int) := (List.range N).map fun n : Nat => ded (sortedZ (outs l (n : Int)))
theorem graphOf_len (l : List (Int × Int)) (N : Nat) : (graphOf l N).length = N := by simp [graphOf]
theorem graphOf_ext {a b : List (Int × Int)} (h : ∀ e, e ∈ a ↔ e ∈ b) (N : Nat) : graphOf a N = graphOf b N := by
  unfold graphOf
  refine List.map_congr_left fun n _ => ded_eq fun x => ?_
  rw [mem_outs, mem_outs, h]
theorem graphOf_twice (l : List (Int × Int)) (N : Nat) : graphOf (l.reverse ++ l) N = graphOf l N := graphOf_ext (fun e => by simp) N
theorem rowAt_graph {l : List (Int × Int)} {N : Nat} {x : Int} (h0 : 0 ≤ x) (h1 : x < N) : rowAt (graphOf l N) x = ded (sortedZ (outs l x)) := by
  unfold rowAt graphOf
  rw [List.getD_eq_getElem?_getD, List.getElem?_map, List.getElem?_range (by omega)]
  simp only [Option.map_some, Option.getD_some]
  rw [Int.toNat_of_nonneg h0]
theorem edge_leads {l : List (Int × Int)} {N : Nat} {a b : Int} (he : (a, b) ∈ l) (ha : 0 ≤ a ∧ a < N) (hb : 0 ≤ b ∧ b < N) : Way (graphOf l N) a b := by
  have g : ∀ x : Int, 0 ≤ x ∧ x < N → InG (graphOf l N) x := fun x hx => ⟨hx.1, by rw [graphOf_len]; exact hx.2⟩
  refine .one (g a ha) ?_ (g b hb)
  rw [rowAt_graph ha.1 ha.2, mem_ded, (sortedZ_perm _).mem_iff, mem_outs]
  exact he
theorem outs_snoc (es : List (Int × Int)) (e : Int × Int) (n : Int) : outs (es ++ [e]) n = if e.1 = n then outs es n ++ [e.2] else outs es n := by
  unfold outs
  by_cases h : e.1 = n
  · simp [h]
  · simp [h]
theorem outs_step (es : List (Int × Int)) (e : Int × Int) (N : Nat) (h0 : 0 ≤ e.1) (h1 : e.1 < N) :
    ((List.range N).map fun n : Nat => outs es (n : Int)).set e.1.toNat (outs es e.1 ++ [e.2]) = (List.range N).map fun n : Nat => outs (es ++ [e]) (n : Int) := by
  apply List.ext_getElem?
  intro i
  by_cases hi : i < N
  · rw [List.getElem?_map, List.getElem?_range hi, Option.map_some, outs_snoc]
    by_cases he : e.1.toNat = i
    · subst he
      rw [List.getElem?_set_self (by simp; omega), if_pos (by omega), Int.toNat_of_nonneg h0]
    · rw [List.getElem?_set_ne he, List.getElem?_map, List.getElem?_range hi, Option.map_some, if_neg (by omega)]
  · rw [List.getElem?_eq_none (by simp; omega), List.getElem?_eq_none (by simp; omega)]
end Go.Proofs.Sx
namespace Go.Proofs.Sx
open Go.Rv Go.Proofs
attribute [local congr] bind_left got_left
noncomputable section
theorem intL_get {xs : List Int} {k : Nat} {x : Int} (h : xs[k]? = some x) : (intL xs)[k]? = some (.int .i64 x) := by simp [intL, h]
theorem drop_two {l : List Int} {j : Nat} (h : j + 1 < l.length) : ∃ a b r, l.drop j = a :: b :: r ∧ l.drop (j + 1) = b :: r ∧ l[j]? = some a ∧ l[j + 1]? = some b := by
  have h1 : l.drop j = l[j] :: l.drop (j + 1) := List.drop_eq_getElem_cons (by omega)
  have h2 : l.drop (j + 1) = l[j + 1] :: l.drop (j + 1 + 1) := List.drop_eq_getElem_cons h
  exact ⟨l[j], l[j + 1], l.drop (j + 1 + 1), by rw [h1, h2], h2, List.getElem?_eq_getElem _, List.getElem?_eq_getElem _⟩
theorem pu38 : cfg.pure 38 = false := rfl
instance t38 {d : Option Nat} : TightD cfg 38 d := ⟨fun _ _ => rfl⟩
def B38 (p : List Bool) := cA p Tryz.f38.body
def R38 (p : List Bool) (i : Nat) := Code.region i (cA p Tryz.f38.body) false
def D38 (p : List Bool) (i : Nat) := Code.region i (cA p Tryz.f38.body) true
theorem F38 : (∀ p i, XR cfg 38 (R38 p i) (B38 p) (cA p Tryz.f38.body).toList i false) ∧ XR cfg 38 (D38 [tt, tt, ff, tt, ff, ff, tt, ff, ff, ff] 6) (B38 [tt, tt, ff, tt, ff, ff, tt, ff, ff, ff]) ((cA [tt, tt, ff, tt, ff, ff, tt, ff, ff, ff] Tryz.f38.body).toList) 6 true ∧ XR cfg 38 (D38 [tt, tt, ff, tt, ff, ff, tt, ff, ff, tt, ff, tt, ff, tt, ff, ff, tt, ff, ff, ff] 11) (B38 [tt, tt, ff, tt, ff, ff, tt, ff, ff, tt, ff, tt, ff, tt, ff, ff, tt, ff, ff, ff]) ((cA [tt, tt, ff, tt, ff, ff, tt, ff, ff, tt, ff, tt, ff, tt, ff, ff, tt, ff, ff, ff] Tryz.f38.body).toList) 11 true ∧ RE cfg 38 [0, 2, 3, 4, 5, 8, 13, 25, 32, 44] ∧ cfg.pure 38 = false := ⟨fun _ _ => xr rfl rfl, xd (by kernel_rfl) rfl rfl, xd (by kernel_rfl) rfl rfl, rE fun _ => rfl, rfl⟩
def l38_1 : Code := (.seq (.seq (R38 [tt, tt, ff, tt, ff, ff, tt, ff, ff, tt, ff, tt, ff, tt, ff, ff, ff, ff] 9) (.cond (.tmp 32) .skip (.exit 2))) (.seq (.block 3 (.seq (D38 [tt, tt, ff, tt, ff, ff, tt, ff, ff, tt, ff, tt, ff, tt, ff, ff, tt, ff, ff, ff] 11) (.cond (.tmp 44) (.seq (R38 [tt, tt, ff, tt, ff, ff, tt, ff, ff, tt, ff, tt, ff, tt, ff, ff, tt, ff, ff, tt, ff, ff] 12) (R38 [tt, tt, ff, tt, ff, ff, tt, ff, ff, tt, ff, tt, ff, tt, ff, ff, tt, ff, ff, tt, ff, tt] 13)) .skip))) (R38 [tt, tt, ff, tt, ff, ff, tt, ff, ff, tt, ff, tt, ff, tt, ff, ff, tt, tt] 10)))
def l38_0 : Code := (.seq (.seq (R38 [tt, tt, ff, tt, ff, ff, ff, ff] 4) (.cond (.tmp 13) .skip (.exit 0))) (.seq (.block 1 (.seq (D38 [tt, tt, ff, tt, ff, ff, tt, ff, ff, ff] 6) (.cond (.tmp 25) (.seq (R38 [tt, tt, ff, tt, ff, ff, tt, ff, ff, tt, ff, ff] 7) (.seq (.seq (R38 [tt, tt, ff, tt, ff, ff, tt, ff, ff, tt, ff, tt, ff, ff] 8) (.block 2 (.loop l38_1))) (.seq (R38 [tt, tt, ff, tt, ff, ff, tt, ff, ff, tt, ff, tt, tt, ff] 14) (.seq (R38 [tt, tt, ff, tt, ff, ff, tt, ff, ff, tt, ff, tt, tt, tt, ff] 15) .ret)))) .skip))) (R38 [tt, tt, ff, tt, ff, ff, tt, tt] 5)))
def k38 : Code := (.seq (R38 [ff] 0) (.seq (.seq (R38 [tt, ff, ff] 1) (.cond (.tmp 8) (.seq (R38 [tt, ff, tt, ff, ff] 2) .ret) .skip)) (.seq (.seq (R38 [tt, tt, ff, ff] 3) (.block 0 (.loop l38_0))) (.seq (R38 [tt, tt, tt, ff] 16) .ret))))
theorem call38 (x0 : AV) (h : Heap) : call cfg 38 [x0] h = (exec cfg 38 k38 [(0, x0)] h).bind (callEnd cfg 38 h [.tmp 2]) := call_at2 (fnat Tryz.func38 (b := k38) (by kernel_rfl) (by kernel_rfl)) rfl rfl
theorem head_drop {cs : List AV} {k : Nat} {x : AV} (h : cs[k]? = some x) : (cs.drop k).head? = some x := by rw [List.head?_drop, h]
theorem compact_inner (xs : List Int) (hn : xs.length < 100000000) (o g : Nat) (cap c4 : Option Nat) (k0 : Nat) : ∀ (d j k k2 : Nat), j + 1 + d = xs.length → j = k0 + k2 - 1 → 1 ≤ k2 → 1 ≤ k → k ≤ j → k0 ≤ j →  ∀ (H : Heap) cs, H.obj o g = some cs → cs.length = xs.length → cs.drop j = (intL xs).drop j → cs.take k = intL (ded (xs.take (j + 1))) → ∀ a t13 t25 t32 t44 t8,
    Got (exec cfg 38 (.loop l38_1) [(0, .msl o 0 xs.length 1 g cap), (2, a), (3, .int .i64 k), (4, .msl o k0 (xs.length - k0) 1 g c4), (5, .int .i64 k2), (8, t8), (13, t13), (25, t25), (32, t32), (44, t44)] H)
      (fun q => q.1 = .exit 2 ∧ ∃ k' cs', 1 ≤ k' ∧ k' < xs.length ∧ cs'.take k' = intL (ded xs) ∧ q.2.1.get 3 = .int .i64 k' ∧ q.2.1.get 0 = .msl o 0 xs.length 1 g cap ∧ q.2.2 = H.set o (.cells cs' g) ∧ cs'.length = xs.length) := by
  intro d
  induction d with
  | zero =>
    intro j k k2 hj hk2 h1 hk hkj hk0 H cs hob hcl hdr htk a t13 t25 t32 t44 t8
    have hlive := live_of hob
    have hlt : (k2 < xs.length - k0) = False := by simp; omega
    rw [got_loop]
    simp only [l38_1, F38, Tryz.f38, sxAll, cA, arithA, Env.keep, lenA, ↓Option.bind_some, Nat.reduceBEq, ↓reduceIte, ty34, hlive, hlt]
    refine ⟨trivial, k, cs, hk, by omega, ?_, by first | rfl | trivial, by first | rfl | trivial, ?_, hcl⟩
    · rw [htk, List.take_of_length_le (by omega)]
    · have ho := obj_some hob
      apply List.ext_getElem?
      intro i
      by_cases hi : o = i
      · subst hi
        rw [List.getElem?_set_self ho]
        unfold Heap.obj at hob
        split at hob
        · rename_i cs0 g0 hx
          split at hob
          · rename_i hg
            simp only [beq_iff_eq] at hg
            simp only [Option.some.injEq] at hob
            rw [hx, hob, hg]
          · cases hob
        · cases hob
      · rw [List.getElem?_set_ne hi]
  | succ d ih =>
    intro j k k2 hj hk2 h1 hk hkj hk0 H cs hob hcl hdr htk a t13 t25 t32 t44 t8
    have hlive := live_of hob
    have ho := obj_some hob
    have hlt : (k2 < xs.length - k0) = True := by simp; omega
    obtain ⟨x, y, r, hd2, hd1, gx, gy⟩ := drop_two (l := xs) (j := j) (by omega)
    have cx : cs[j]? = some (.int .i64 x) := by
      have := congrArg (·[0]?) hdr
      simp only [List.getElem?_drop, Nat.add_zero] at this
      rw [this]; exact intL_get gx
    have cy : cs[j + 1]? = some (.int .i64 y) := by
      have := congrArg (·[1]?) hdr
      simp only [List.getElem?_drop] at this
      rw [this]; exact intL_get gy
    have e1 : k0 + k2 = j + 1 := by omega
    have e2 : k0 + (k2 - 1) = j := by omega
    have hw1 : IntKind.i64.wrap ((k2 : Int) - 1) = ((k2 - 1 : Nat) : Int) := by rw [wrap_id (by omega) (by omega)]; omega
    have hlt1 : (k2 - 1 < xs.length - k0) = True := by simp; omega
    have hw2 := wrap_succ (i := k2) (by omega)
    have hw3 := wrap_succ (i := k) (by omega)
    have hkn : (k < xs.length) = True := by simp; omega
    have hkc : (k + 1 ≤ cs.length) = True := by simp; omega
    rw [got_loop]
    by_cases he : y = x
    · have hb : (y == x) = true := by simp [he]
      have := ih (j + 1) k (k2 + 1) (by omega) (by omega) (by omega) hk (by omega) (by omega) H cs hob hcl (by rw [← List.drop_drop, ← List.drop_drop, hdr]) (by rw [htk, ded_take gx gy, if_pos he.symm])
      simp only [l38_1] at this ⊢
      simp only [F38, Tryz.f38, sxAll, cA, arithA, Env.keep, qt_eq, indexAddrA, loadA, Rv.part, cellsAt, TD.isAgg, lenA, ↓Option.bind_some, Nat.reduceBEq, bne, ↓reduceIte, ty34, ty3, hlive, hlt, hlt1, hw1, hw2, Nat.mul_one, e1, e2, hob, head_drop cx, head_drop cy, hb] at this ⊢
      exact this _ _ _ _ _ _
    · have hb : (y == x) = false := by simp [he]
      have hob' : Heap.obj (H.set o (.cells (cs.set k (.int .i64 y)) g)) o g = some (cs.set k (.int .i64 y)) := by simp [Heap.obj, List.getElem?_set_self ho]
      have hdr' : (cs.set k (.int .i64 y)).drop (j + 1) = (intL xs).drop (j + 1) := by
        rw [List.drop_set_of_lt (by omega), ← List.drop_drop, hdr, List.drop_drop]
      have htk' : (cs.set k (.int .i64 y)).take (k + 1) = intL (ded (xs.take (j + 1 + 1))) := by
        rw [ded_take gx gy, if_neg (fun h => he h.symm), List.take_add_one, List.take_set_of_le (Nat.le_refl _), htk, List.getElem?_set_self (by omega)]
        simp [intL]
      have := ih (j + 1) (k + 1) (k2 + 1) (by omega) (by omega) (by omega) (by omega) (by omega) (by omega) (H.set o (.cells (cs.set k (.int .i64 y)) g)) _ hob' (by simpa using hcl) hdr' htk'
      simp only [l38_1] at this ⊢
      simp only [F38, Tryz.f38, sxAll, cA, arithA, Env.keep, qt_eq, storeA, indexAddrA, loadA, Rv.part, cellsAt, TD.isAgg, setCells, lenA, ↓Option.bind_some, Nat.reduceBEq, bne, ↓reduceIte, ty34, ty3, hlive, hlt, hlt1, hw1, hw2, hw3, Nat.mul_one, Nat.zero_add, e1, e2, hob, head_drop cx, head_drop cy, hb, hkn, hkc, List.set_set] at this ⊢
      exact this _ _ _ _ _ _
theorem setCells_take {α : Type} : ∀ (ds cs : List α) (k : Nat), (setCells cs k ds).take k = cs.take k
  | [], cs, k => rfl
  | v :: r, cs, k => by
    have := congrArg (List.take k) (setCells_take r (cs.set k v) (k + 1))
    rw [List.take_take, List.take_take, show min k (k + 1) = k by omega] at this
    rw [setCells, this, List.take_set_of_le (Nat.le_refl _)]
theorem clear_fact (H : Heap) (o g k n : Nat) (cap : Option Nat) (cs : List AV) (hob : H.obj o g = some cs) (hcl : cs.length = n) (hk : k < n) :
    ∃ cs', moreA cfg H .clear [34] [.msl o k (n - k) 1 g cap] = some (.tup [], H.set o (.cells cs' g)) ∧ cs'.length = n ∧ cs'.take k = cs.take k := by
  refine ⟨setCells cs k (copies (n - k) [.int .i64 0]), ?_, by rw [setCells_length]; exact hcl, setCells_take _ _ _⟩
  have h0 : (n - k == 0) = false := by simp; omega
  have hle : k + (n - k) * 1 ≤ cs.length := by omega
  simp [moreA, ty34, ty3, hob, AV.leaf]
  rw [if_neg (by omega), if_pos (by omega)]
theorem slice_fact (H : Heap) (o g k n : Nat) (cap : Option Nat) (cs : List AV) (hob : H.obj o g = some cs) (hcl : cs.length = n) (hcap : cap = none ∨ cap = some n) (hk : k ≤ n) :
    sliceA cfg H 34 (.msl o 0 n 1 g cap) none (some (.int .i64 k)) none = some (.msl o 0 k 1 g (cap.map (· - 0))) ∧ sliceA cfg H 34 (.msl o 0 n 1 g cap) (some (.int .i64 k)) none none = some (.msl o k (n - k) 1 g (cap.map (· - k))) := by
  constructor
  · rcases hcap with rfl | rfl <;> simp [sliceA, ty34, ty3, hob, boundA, hcl, hk]
  · rcases hcap with rfl | rfl <;> simp [sliceA, ty34, ty3, hob, boundA, hk]
theorem compact_outer (xs : List Int) (hn : xs.length < 100000000) (o g : Nat) (cap : Option Nat) (hcap : cap = none ∨ cap = some xs.length) (H : Heap) (hob : H.obj o g = some (intL xs)) : ∀ (d k : Nat), k + d = xs.length → 1 ≤ k → ded (xs.take k) = xs.take k → ∀ a c4 c5 t8 t13 t25 t32 t44,
    Got (exec cfg 38 (.loop l38_0) [(0, .msl o 0 xs.length 1 g cap), (2, a), (3, .int .i64 k), (4, c4), (5, c5), (8, t8), (13, t13), (25, t25), (32, t32), (44, t44)] H)
      (fun q => (q.1 = .exit 0 ∧ q.2.2 = H ∧ q.2.1.get 0 = .msl o 0 xs.length 1 g cap ∧ ded xs = xs) ∨
        (q.1 = .ret ∧ ∃ k' cs', k' ≤ xs.length ∧ cs'.take k' = intL (ded xs) ∧ cs'.length = xs.length ∧ q.2.1.get 2 = .msl o 0 k' 1 g (cap.map (· - 0)) ∧ q.2.2 = H.set o (.cells cs' g))) := by
  have hlive := live_of hob
  have ho := obj_some hob
  intro d
  induction d with
  | zero =>
    intro k hk h1 hchg a c4 c5 t8 t13 t25 t32 t44
    have hlt : (k < xs.length) = False := by simp; omega
    rw [got_loop]
    simp only [l38_0, F38, Tryz.f38, sxAll, cA, arithA, Env.keep, lenA, ↓Option.bind_some, Nat.reduceBEq, ↓reduceIte, ty34, hlive, hlt]
    refine .inl ⟨trivial, trivial, trivial, ?_⟩
    rwa [List.take_of_length_le (by omega)] at hchg
  | succ d ih =>
    intro k hk h1 hchg a c4 c5 t8 t13 t25 t32 t44
    have hlt : (k < xs.length) = True := by simp; omega
    obtain ⟨x, y, r, hd2, hd1, gx, gy⟩ := drop_two (l := xs) (j := k - 1) (by omega)
    have gx' := gx
    have gy' := gy
    rw [show k - 1 + 1 = k from by omega] at hd1 gy
    have cx := head_drop (intL_get gx)
    have cy := head_drop (intL_get gy)
    have hw1 : IntKind.i64.wrap ((k : Int) - 1) = ((k - 1 : Nat) : Int) := by rw [wrap_id (by omega) (by omega)]; omega
    have hlt1 : (k - 1 < xs.length) = True := by simp; omega
    have hw2 := wrap_succ (i := k) (by omega)
    rw [got_loop]
    by_cases he : y = x
    · have hb : (y == x) = true := by simp [he]
      have hs1 := (slice_fact H o g k xs.length cap _ hob (intL_len xs) hcap (by omega)).2
      have hin := compact_inner xs hn o g cap (cap.map (· - k)) k (xs.length - k - 1) k k 1 (by omega) (by omega) (by omega) h1 (by omega) (by omega) H _ hob (intL_len xs) rfl (by
        have e := ded_take gx' gy'
        rw [if_pos he.symm] at e
        rw [show k - 1 + 2 = k + 1 by omega, show k - 1 + 1 = k by omega] at e
        rw [e, hchg]; simp [intL, List.map_take])
      obtain ⟨⟨out, e', H'⟩, hx, ho', k', cs', p1, p2, p3, p4, p5, p6, p7⟩ := hin a (.bool true) (.bool true) t32 t44 t8
      simp only [Int.natCast_one] at hx ho' p3 p4 p5 p6
      subst ho'
      subst p6
      have hob' : Heap.obj (H.set o (.cells cs' g)) o g = some cs' := by simp [Heap.obj, List.getElem?_set_self ho]
      obtain ⟨cs2, hcl2, hl2, ht2⟩ := clear_fact (H.set o (.cells cs' g)) o g k' xs.length (cap.map (· - k')) cs' hob' p7 p2
      have hob2 : Heap.obj (H.set o (.cells cs2 g)) o g = some cs2 := by simp [Heap.obj, List.getElem?_set_self ho]
      rw [List.set_set] at hcl2
      have hs2 := (slice_fact (H.set o (.cells cs' g)) o g k' xs.length cap cs' hob' p7 hcap (by omega)).2
      have hs3 := (slice_fact (H.set o (.cells cs2 g)) o g k' xs.length cap cs2 hob2 hl2 hcap (by omega)).1
      simp only [l38_0, F38, Tryz.f38, sxAll, cA, arithA, Env.keep, qt_eq, indexAddrA, loadA, Rv.part, cellsAt, TD.isAgg, lenA, optA, ↓Option.bind_some, Nat.reduceBEq, ↓reduceIte, ty34, ty3, hlive, hlt, hlt1, hw1, hob, cx, cy, Nat.mul_one, Nat.zero_add, hb, hs1, hx, p4, p5, hs2, hcl2, hs3]
      exact .inr ⟨trivial, k', cs2, by omega, by rw [ht2, p3], hl2, rfl, rfl⟩
    · have hb : (y == x) = false := by simp [he]
      have := ih (k + 1) (by omega) (by omega) (by
        have e := ded_take gx' gy'
        rw [if_neg (fun h => he h.symm), show k - 1 + 2 = k + 1 by omega, show k - 1 + 1 = k by omega, hchg] at e
        rw [e, List.take_add_one, gy]; rfl)
      simp only [l38_0] at this ⊢
      simp only [F38, Tryz.f38, sxAll, cA, arithA, Env.keep, qt_eq, indexAddrA, loadA, Rv.part, cellsAt, TD.isAgg, lenA, ↓Option.bind_some, Nat.reduceBEq, ↓reduceIte, ty34, ty3, hlive, hlt, hlt1, hw1, hw2, hob, cx, cy, Nat.mul_one, Nat.zero_add, hb] at this ⊢
      exact this _ _ _ _ _ _ _ _
theorem set_same {H : Heap} {o g : Nat} {cs : List AV} (hob : H.obj o g = some cs) : List.set H o (.cells cs g) = H := by
  have ho := obj_some hob
  apply List.ext_getElem?
  intro i
  by_cases hi : o = i
  · subst hi
    rw [List.getElem?_set_self ho]
    unfold Heap.obj at hob
    split at hob
    · rename_i cs0 g0 hx
      split at hob
      · rename_i hg
        simp only [beq_iff_eq] at hg
        simp only [Option.some.injEq] at hob
        rw [hx, hob, hg]
      · cases hob
    · cases hob
  · rw [List.getElem?_set_ne hi]
theorem compactI_eq (xs : List Int) (hn : xs.length < 100000000) (o g : Nat) (cap : Option Nat) (hcap : cap = none ∨ cap = some xs.length) (H : Heap) (hob : H.obj o g = some (intL xs)) :
    ∃ cap' cs', call cfg 38 [.msl o 0 xs.length 1 g cap] H = some (.ret (.msl o 0 (ded xs).length 1 g cap'), List.set H o (.cells cs' g)) ∧ cs'.take (ded xs).length = intL (ded xs) ∧ cs'.length = xs.length := by
  have hlive := live_of hob
  by_cases h2 : xs.length < 2
  · have hd : ded xs = xs := by
      match xs, h2 with
      | [], _ => rfl
      | [x], _ => rfl
    have hlt : ((xs.length : Int) < 2) = True := eq_true (by omega)
    refine ⟨cap, intL xs, ?_, by rw [hd]; exact List.take_of_length_le (by rw [intL_len]; omega), intL_len xs⟩
    rw [set_same hob, hd, call38]
    simp only [F38, k38, Tryz.f38, sxAll, cA, arithA, Env.keep, resultsA, packA, lenA, ↓Option.bind_some, Nat.reduceBEq, ↓reduceIte, ty34, hlive, hlt]
    exact leave_impure rfl
  · have hlt : ((xs.length : Int) < 2) = False := eq_false (by omega)
    have h1 : ded (xs.take 1) = xs.take 1 := by
      match xs, h2 with
      | x :: r, _ => rfl
    obtain ⟨⟨out, e', H'⟩, hx, hc⟩ := compact_outer xs hn o g cap hcap H hob (xs.length - 1) 1 (by omega) (by omega) h1 (.lst [] 0 .nil) .junk .junk (.bool false) .junk .junk .junk .junk
    simp only [Int.natCast_one] at hx hc
    rcases hc with ⟨rfl, rfl, g0, hd⟩ | ⟨rfl, k', cs', hk, ht, hl, g2, rfl⟩
    · refine ⟨cap, intL xs, ?_, by rw [hd]; exact List.take_of_length_le (by rw [intL_len]; omega), intL_len xs⟩
      rw [set_same hob, hd, call38]
      simp only [F38, k38, Tryz.f38, sxAll, cA, arithA, Env.keep, resultsA, packA, lenA, ↓Option.bind_some, Nat.reduceBEq, ↓reduceIte, ty34, hlive, hlt, hx, g0]
      exact leave_impure rfl
    · have hk' : k' = (ded xs).length := by
        have := congrArg List.length ht
        rw [List.length_take, intL_len] at this
        omega
      subst hk'
      refine ⟨cap.map (· - 0), cs', ?_, ht, hl⟩
      rw [call38]
      simp only [F38, k38, Tryz.f38, sxAll, cA, arithA, Env.keep, resultsA, packA, lenA, ↓Option.bind_some, Nat.reduceBEq, ↓reduceIte, ty34, hlive, hlt, hx, g2]
      exact leave_impure rfl
end
end Go.Proofs.Sx
namespace Go.Proofs.Sx
open Go.Rv Go.Proofs
noncomputable section
theorem obj_keep {h h' : Heap} {o g : Nat} {cs : List AV} (H : h.obj o g = some cs) (K : h'[o]? = h[o]?) : h'.obj o g = some cs := by
  unfold Heap.obj at *
  rw [K]; exact H
structure LL (h H : Heap) (cells : List AV) (ls : List (List Int)) : Prop where
  cell : H.obj h.length 0 = some cells
  len : cells.length = ls.length
  each : ∀ (k : Nat) v xs, cells[k]? = some v → ls[k]? = some xs → Built H v (intL xs) 1
  own : ∀ (k : Nat) v o, cells[k]? = some v → objOf v = some o → h.length < o
  sep : ∀ (k k' : Nat) v v' o, cells[k]? = some v → cells[k']? = some v' → objOf v = some o → objOf v' = some o → k = k'
  old : H.take h.length = h
theorem LL.le {h H : Heap} {cells : List AV} {ls : List (List Int)} (O : LL h H cells ls) : h.length < H.length := obj_some O.cell
theorem LL.push {h H : Heap} {cells : List AV} {ls : List (List Int)} (O : LL h H cells ls) {k : Nat} {v : AV} {xs : List Int} (hv : cells[k]? = some v) (hx : ls[k]? = some xs) (x : Int) (hl : xs.length < 1000000) :
    ∃ v' H', appendA H 1 v [.int .i64 x] = some (v', H') ∧ known v' = some v' ∧ v'.cells = [v'] ∧ v'.leaf = true ∧ H'.obj h.length 0 = some cells ∧ (∀ o, o < H.length → objOf v ≠ some o → H'[o]? = H[o]?) ∧ LL h (H'.set h.length (.cells (cells.set k v') 0)) (cells.set k v') (ls.set k (xs ++ [x])) := by
  have B := O.each k v xs hv hx
  obtain ⟨v', H', h1, h2, h4, h5, h6⟩ := append_built (ys := [AV.int .i64 x]) B (plain_ints xs).size (fun y hy => (plain_ints [x]).leafs y hy) (by omega) (by simp [intL, mostLen]; omega)
  have hlt := O.le
  have hkl : k < cells.length := (List.getElem?_eq_some_iff.1 hv).1
  have hcell : H'.obj h.length 0 = some cells := obj_keep O.cell (h5 _ hlt fun hc => by have := O.own k v _ hv hc; omega)
  have hlt' := obj_some hcell
  have hownv : ∀ o, objOf v' = some o → h.length < o := fun o ho => by
    rcases h6 with h6 | h6
    · exact O.own k v o hv (h6 ▸ ho)
    · rw [h6] at ho; simp only [Option.some.injEq] at ho; omega
  have hother : ∀ (j : Nat) w o, j ≠ k → cells[j]? = some w → objOf w = some o → o < H.length ∧ objOf v ≠ some o ∧ objOf v' ≠ some o := by
    intro j w o hj hw ho
    have hjl : j < ls.length := by rw [← O.len]; exact (List.getElem?_eq_some_iff.1 hw).1
    have hlo := built_lt (O.each j w _ hw (List.getElem?_eq_getElem hjl)) ho
    have hne : objOf v ≠ some o := fun hc => hj (O.sep j k w v o hw hv ho hc)
    refine ⟨hlo, hne, fun hc => ?_⟩
    rcases h6 with h6 | h6
    · exact hne (h6 ▸ hc)
    · rw [h6] at hc; simp only [Option.some.injEq] at hc; omega
  refine ⟨v', H', h1, known_built h2, built_cells h2, built_leaf h2, hcell, h5, ⟨by simp [Heap.obj, List.getElem?_set_self hlt'], by simp [O.len], ?_, ?_, ?_, ?_⟩⟩
  · intro j w ys hw hys
    by_cases hj : j = k
    · subst hj
      rw [List.getElem?_set_self hkl] at hw
      rw [List.getElem?_set_self (by rw [← O.len]; exact hkl)] at hys
      injection hw with hw; injection hys with hys
      subst hw hys
      rw [show intL (xs ++ [x]) = intL xs ++ [AV.int .i64 x] by simp [intL]]
      exact h2.other fun o ho => by rw [List.getElem?_set_ne]; have := hownv o ho; omega
    · rw [List.getElem?_set_ne (Ne.symm hj)] at hw hys
      refine (O.each j w ys hw hys).other fun o ho => ?_
      obtain ⟨q1, q2, _⟩ := hother j w o hj hw ho
      rw [List.getElem?_set_ne (by have := O.own j w o hw ho; omega), h5 o q1 q2]
  · intro j w o hw ho
    by_cases hj : j = k
    · subst hj
      rw [List.getElem?_set_self hkl] at hw
      injection hw with hw; subst hw
      exact hownv o ho
    · rw [List.getElem?_set_ne (Ne.symm hj)] at hw
      exact O.own j w o hw ho
  · intro j j' w w' o hw hw' ho ho'
    by_cases hj : j = k
    · by_cases hj' : j' = k
      · omega
      · subst hj
        rw [List.getElem?_set_self hkl] at hw
        rw [List.getElem?_set_ne (Ne.symm hj')] at hw'
        injection hw with hw; subst hw
        exact absurd ho (hother j' w' o hj' hw' ho').2.2
    · rw [List.getElem?_set_ne (Ne.symm hj)] at hw
      by_cases hj' : j' = k
      · subst hj'
        rw [List.getElem?_set_self hkl] at hw'
        injection hw' with hw'; subst hw'
        exact absurd ho' (hother j w o hj hw ho).2.2
      · rw [List.getElem?_set_ne (Ne.symm hj')] at hw'
        exact O.sep j j' w w' o hw hw' ho ho'
  · rw [List.take_set_of_le (Nat.le_refl _), ← O.old]
    apply List.ext_getElem?
    intro i
    by_cases hi : i < h.length
    · rw [O.old, List.getElem?_take_of_lt hi, h5 i (by omega) (fun hc => by have := O.own k v _ hv hc; omega)]
      have := congrArg (·[i]?) O.old
      simp only [List.getElem?_take_of_lt hi] at this
      exact this
    · rw [O.old, List.getElem?_eq_none (by simp; omega), List.getElem?_eq_none (by omega)]
theorem LL.app {h H : Heap} {cells : List AV} {ls : List (List Int)} (O : LL h H cells ls) (X : Heap) : LL h (H ++ X) cells ls where
  cell := by rw [obj_left _ _ O.le]; exact O.cell
  len := O.len
  each := fun k v xs hv hx => (O.each k v xs hv hx).app X
  own := O.own
  sep := O.sep
  old := by rw [take_app X (Nat.le_of_lt O.le)]; exact O.old
end
end Go.Proofs.Sx
namespace Go.Rv
mutual
theorem eqb_self : ∀ v : AV, AV.eqb v v = true
  | .bool _ | .int .. | .str _ => by simp [AV.eqb]
  | .nilPtr | .nilMap | .nilFunc | .nilIface | .junk => by simp [AV.eqb]
  | .ptr .. => by simp [AV.eqb]
  | .ref cs => by simp [AV.eqb, eqbs_self cs]
  | .lst xs z r => by simp [AV.eqb, eqbs_self xs]
  | .msl .. => by simp [AV.eqb]
  | .clo f cs => by simp [AV.eqb, eqbs_self cs]
  | .bnd f cs => by simp [AV.eqb, eqbs_self cs]
  | .yld _ => by simp [AV.eqb]
  | .map _ => by simp [AV.eqb]
  | .iface t v => by simp [AV.eqb, eqb_self v]
  | .agg cs => by simp [AV.eqb, eqbs_self cs]
  | .tup cs => by simp [AV.eqb, eqbs_self cs]
theorem eqbs_self : ∀ vs : List AV, AV.eqbs vs vs = true
  | [] => by simp [AV.eqbs]
  | v :: r => by simp [AV.eqbs, eqb_self v, eqbs_self r]
end
section
variable {C : Cfg} {f : Nat} {os : Array Oper} {e : Env} {h : Heap} {i x y t k d : Nat} {r : List Oper} {ty : TypeId} {ps : String} {af : Array Edge}
theorem lb_fieldAddr (ho : os[i]? = some ⟨some d, .fieldAddr t (.tmp x) k, ty, ps, af, none⟩) : looseB C f os e h i = (((known (e.get x)).bind fun x => fieldAddrA C h t x k).map fun v => AV.eqb v (e.get d)).getD false := by
  simp only [looseB, ho, wantA, opA, evalA_tmp, Option.bind_eq_bind]
  cases known (e.get x) with
  | none => rfl
  | some x =>
    simp only [Option.bind_some]
    cases fieldAddrA C h t x k <;> rfl
theorem lb_load (ho : os[i]? = some ⟨some d, .load t (.tmp x), ty, ps, af, none⟩) (hq : C.quiet f d = false) : looseB C f os e h i = (((known (e.get x)).bind fun x => loadA C h t x).map fun v => AV.eqb v (e.get d)).getD false := by
  simp only [looseB, ho, wantA, opA, evalA_tmp, Option.bind_eq_bind, Option.map_some, Option.getD_some, hq, Bool.false_and, Bool.false_eq_true, if_false]
  cases known (e.get x) with
  | none => rfl
  | some x =>
    simp only [Option.bind_some]
    cases loadA C h t x <;> rfl
theorem sx_append_l (x y : Operand) (t : TypeId) : ops C f os (⟨some d, .call { callee := .builtin .append, args := #[x, y], argTypes := #[t, t] }, ty, ps, af, none⟩ :: r) e h = (evalA C e x).bind fun x => (evalA C e y).bind fun y => (C.ty t).bind fun ti => match ti.td with
    | .slice el => (C.ty el).bind fun te => (elems h y).bind fun ys => (appendA h te.size x ys).bind fun v => if looseAll C f os (some d) e v.2 then ops C f os r (e.put d v.1) v.2 else none
    | _ => none := by
  rw [ops_cons]
  have hp : panO C e ⟨some d, .call { callee := .builtin .append, args := #[x, y], argTypes := #[t, t] }, ty, ps, af, none⟩ = none := rfl
  simp only [hp, wantA, callee, Option.bind_some, opA, mapO, Option.bind_eq_bind, Option.bind_assoc, bne_self_eq_false, Bool.false_eq_true, if_false]
  congr 1
  funext x
  congr 1
  funext y
  congr 1
  funext ti
  cases ti.td <;> simp only [Option.bind_none, Option.bind_assoc] <;> rfl
end
end Go.Rv
namespace Go.Proofs.Sx
open Go.Rv Go.Proofs
noncomputable section
theorem pu16 : cfg.pure 16 = true := rfl
instance t16_3 : TightD cfg 16 (some 3) := tgS rfl
instance t16_4 : TightD cfg 16 (some 4) := tgS rfl
instance t16_5 : TightD cfg 16 (some 5) := tgS rfl
instance t16_6 : TightD cfg 16 (some 6) := tgS rfl
instance t16_7 : TightD cfg 16 (some 7) := tgS rfl
instance t16_9 : TightD cfg 16 (some 9) := tgS rfl
instance t16_10 : TightD cfg 16 (some 10) := tgS rfl
instance t16_11 : TightD cfg 16 (some 11) := tgS rfl
instance t16_12 : TightD cfg 16 (some 12) := tgS rfl
instance t16_13 : TightD cfg 16 (some 13) := tgS rfl
instance t16_14 : TightD cfg 16 (some 14) := tgS rfl
instance t16_15 : TightD cfg 16 (some 15) := tgS rfl
instance t16_16 : TightD cfg 16 (some 16) := tgS rfl
instance t16_17 : TightD cfg 16 (some 17) := tgS rfl
instance t16_18 : TightD cfg 16 (some 18) := tgS rfl
instance t16_19 : TightD cfg 16 (some 19) := tgS rfl
instance t16_20 : TightD cfg 16 (some 20) := tgS rfl
instance t16_21 : TightD cfg 16 (some 21) := tgS rfl
instance t16_22 : TightD cfg 16 (some 22) := tgS rfl
instance t16_23 : TightD cfg 16 (some 23) := tgS rfl
instance t16_24 : TightD cfg 16 (some 24) := tgS rfl
instance t16_25 : TightD cfg 16 (some 25) := tgS rfl
instance t16_26 : TightD cfg 16 (some 26) := tgS rfl
instance t16_27 : TightD cfg 16 (some 27) := tgS rfl
instance t16_28 : TightD cfg 16 (some 28) := tgS rfl
instance t16_29 : TightD cfg 16 (some 29) := tgS rfl
instance t16_30 : TightD cfg 16 (some 30) := tgS rfl
instance t16_31 : TightD cfg 16 (some 31) := tgS rfl
instance t16_32 : TightD cfg 16 (some 32) := tgS rfl
instance t16_33 : TightD cfg 16 (some 33) := tgS rfl
instance t16_34 : TightD cfg 16 (some 34) := tgS rfl
instance t16_35 : TightD cfg 16 (some 35) := tgS rfl
instance t16_36 : TightD cfg 16 (some 36) := tgS rfl
instance t16_37 : TightD cfg 16 (some 37) := tgS rfl
instance t16_38 : TightD cfg 16 (some 38) := tgS rfl
instance t16_39 : TightD cfg 16 (some 39) := tgS rfl
instance t16_40 : TightD cfg 16 (some 40) := tgS rfl
instance t16_41 : TightD cfg 16 (some 41) := tgS rfl
instance t16_43 : TightD cfg 16 (some 43) := tgS rfl
instance t16_44 : TightD cfg 16 (some 44) := tgS rfl
instance t16_45 : TightD cfg 16 (some 45) := tgS rfl
instance t16_46 : TightD cfg 16 (some 46) := tgS rfl
instance t16_47 : TightD cfg 16 (some 47) := tgS rfl
instance t16_48 : TightD cfg 16 (some 48) := tgS rfl
instance t16_49 : TightD cfg 16 (some 49) := tgS rfl
instance t16_50 : TightD cfg 16 (some 50) := tgS rfl
instance t16_51 : TightD cfg 16 (some 51) := tgS rfl
instance t16_52 : TightD cfg 16 (some 52) := tgS rfl
instance t16_53 : TightD cfg 16 (some 53) := tgS rfl
instance t16_54 : TightD cfg 16 (some 54) := tgS rfl
instance t16_55 : TightD cfg 16 (some 55) := tgS rfl
instance t16_56 : TightD cfg 16 (some 56) := tgS rfl
instance t16_57 : TightD cfg 16 (some 57) := tgS rfl
instance t16_58 : TightD cfg 16 (some 58) := tgS rfl
instance t16_59 : TightD cfg 16 (some 59) := tgS rfl
instance t16_60 : TightD cfg 16 (some 60) := tgS rfl
instance t16_61 : TightD cfg 16 (some 61) := tgS rfl
instance t16_62 : TightD cfg 16 (some 62) := tgS rfl
instance t16_63 : TightD cfg 16 (some 63) := tgS rfl
instance t16_64 : TightD cfg 16 (some 64) := tgS rfl
instance t16_2000_11 : TightD cfg 16 (some (2000 + 11)) := tgS rfl
instance t16_2000_30 : TightD cfg 16 (some (2000 + 30)) := tgS rfl
instance t16_2000_42 : TightD cfg 16 (some (2000 + 42)) := tgS rfl
instance t16_2000_61 : TightD cfg 16 (some (2000 + 61)) := tgS rfl
instance t16_n : TightD cfg 16 none := tgN
def B16 (p : List Bool) := cA p Tryz.f16.body
def R16 (p : List Bool) (i : Nat) := Code.region i (cA p Tryz.f16.body) false
def D16 (p : List Bool) (i : Nat) := Code.region i (cA p Tryz.f16.body) true
theorem F16 : (∀ p i, XR cfg 16 (R16 p i) (B16 p) (cA p Tryz.f16.body).toList i false) ∧ cfg.imm 16 3 = true ∧ GO cfg 16 (B16 [tt, tt, ff, ff]) 2 14 ∧ GO cfg 16 (B16 [tt, tt, ff, ff]) 6 18 ∧ XR cfg 16 (D16 [tt, tt, tt, tt, ff, tt, ff, ff, tt, tt, ff, ff, tt] 8) (B16 [tt, tt, tt, tt, ff, tt, ff, ff, tt, tt, ff, ff, tt]) ((cA [tt, tt, tt, tt, ff, tt, ff, ff, tt, tt, ff, ff, tt] Tryz.f16.body).toList) 8 true ∧ cfg.imm 16 41 = true ∧ RE cfg 16 [0, 1, 3, 4, 5, 6, 7, 9, 10, 22, 25, 26, 27, 28, 46, 47, 48] ∧ cfg.pure 16 = true := ⟨fun _ _ => xr rfl rfl, by kernel_rfl, gO (by kernel_rfl), gO (by kernel_rfl), xd (by kernel_rfl) rfl rfl, by kernel_rfl, rE fun _ => rfl, rfl⟩
theorem lo16_42 : cfg.loose 16 42 = lo 16 42 := rfl
theorem lb16_8_42_1 (e : Env) (h : Heap) : looseB cfg 16 (B16 [tt, tt, tt, tt, ff, tt, ff, ff, tt, tt, ff, ff, tt]) e h 1 = (((known (e.get 9)).bind fun x => fieldAddrA cfg h 49 x 0).map fun v => AV.eqb v (e.get 32)).getD false := lb_fieldAddr rfl
theorem lb16_8_42_2 (e : Env) (h : Heap) : looseB cfg 16 (B16 [tt, tt, tt, tt, ff, tt, ff, ff, tt, tt, ff, ff, tt]) e h 2 = (((known (e.get 32)).bind fun x => loadA cfg h 3 x).map fun v => AV.eqb v (e.get 33)).getD false := lb_load rfl rfl
theorem la16_42 (e : Env) (h : Heap) : looseAll cfg 16 (B16 [tt, tt, tt, tt, ff, tt, ff, ff, tt, tt, ff, ff, tt]) (some 42) e h = (((((known (e.get 9)).bind fun x => fieldAddrA cfg h 49 x 0).map fun v => AV.eqb v (e.get 32)).getD false) && (((((known (e.get 32)).bind fun x => loadA cfg h 3 x).map fun v => AV.eqb v (e.get 33)).getD false))) := by simp only [looseAll, lo16_42, lo, List.all_cons, List.all_nil, Bool.and_true, lb16_8_42_1, lb16_8_42_2]
def l16_1 : Code := (.seq (R16 [tt, tt, tt, tt, tt, ff, tt, ff, ff, ff] 11) (.seq (.cond (.tmp 48) .skip (.exit 2)) (.seq (.block 3 (.seq (R16 [tt, tt, tt, tt, tt, ff, tt, ff, ff, tt, tt, ff, ff, ff] 12) (.seq (R16 [tt, tt, tt, tt, tt, ff, tt, ff, ff, tt, tt, ff, ff, tt, ff] 13) (R16 [tt, tt, tt, tt, tt, ff, tt, ff, ff, tt, tt, ff, ff, tt, tt] 14)))) (R16 [tt, tt, tt, tt, tt, ff, tt, ff, ff, tt, tt, tt] 15))))
def l16_0 : Code := (.seq (R16 [tt, tt, tt, tt, ff, tt, ff, ff, ff] 6) (.seq (.cond (.tmp 28) .skip (.exit 0)) (.seq (.block 1 (.seq (R16 [tt, tt, tt, tt, ff, tt, ff, ff, tt, tt, ff, ff, ff] 7) (D16 [tt, tt, tt, tt, ff, tt, ff, ff, tt, tt, ff, ff, tt] 8))) (R16 [tt, tt, tt, tt, ff, tt, ff, ff, tt, tt, tt] 9))))
def k16 : Code := (.seq (R16 [ff] 0) (.seq (R16 [tt, ff] 1) (.seq (.seq (R16 [tt, tt, ff, ff] 2) (.cond (.tmp 22) (.seq (R16 [tt, tt, ff, tt, ff, ff] 3) .ret) .skip)) (.seq (R16 [tt, tt, tt, ff] 4) (.seq (.seq (R16 [tt, tt, tt, tt, ff, ff] 5) (.block 0 (.loop l16_0))) (.seq (.seq (R16 [tt, tt, tt, tt, tt, ff, ff] 10) (.block 2 (.loop l16_1))) (.seq (R16 [tt, tt, tt, tt, tt, tt, ff] 16) .ret)))))))
theorem call16 (x0 x1 : AV) (h : Heap) : call cfg 16 [x0, x1] h = (exec cfg 16 k16 [(0, x0), (1, x1)] h).bind (callEnd cfg 16 h [.tmp 4, .tmp 5]) := call_at2 (fnat Tryz.func16 (b := k16) (by kernel_rfl) (by kernel_rfl)) rfl rfl
attribute [local congr] bind_left got_left guardK_left
theorem graph_bad (l : List SEdge) (z : Nat) (r : Room) (N : Int) (h : Heap) (hN : N < 0 ∨ N > 256) :
    call cfg 16 [.lst (edgesL l) z r, .int .i64 N] h = some (.ret (.tup [.lst [] 0 .nil, .int .i64 1]), h) := by
  rw [call16]
  rcases hN with h1 | h1
  · have c1 : (N < 0) = True := eq_true h1
    simp only [F16, k16, Tryz.f16, sxAll, cA, arithA, Env.keep, qt_eq, resultsA, packA, storeA, loadA, Rv.part, cellsAt, TD.isAgg, setCells, mapO, ↓Option.bind_some, Nat.reduceBEq, Nat.reduceAdd, Nat.reduceLeDiff, ↓reduceIte, ty3, ty72, cells_clo, leaf_clo, c1]
    exact leave_pure rfl (by simp) rfl
  · have c1 : (N < 0) = False := eq_false (by omega)
    have c2 : (N > 256) = True := eq_true h1
    simp only [F16, k16, Tryz.f16, sxAll, cA, arithA, Env.keep, qt_eq, resultsA, packA, storeA, loadA, Rv.part, cellsAt, TD.isAgg, setCells, mapO, ↓Option.bind_some, Nat.reduceBEq, Nat.reduceAdd, Nat.reduceLeDiff, ↓reduceIte, ty3, ty72, cells_clo, leaf_clo, c1, c2]
    exact leave_pure rfl (by simp) rfl
theorem graph_any (l : List SEdge) (z : Nat) (r : Room) (N : Int) (h : Heap) (hn : l.length < 1000000000) :
    call cfg 35 [.lst (edgesL l) z r, .clo 36 [.ptr h.length 0 0]] (h ++ [.cells [.clo 34 [.ref [.int .i64 N]]] 0]) = some (.ret (.bool (l.any fun e => outB N e.a || outB N e.b)), h ++ [.cells [.clo 34 [.ref [.int .i64 N]]] 0]) :=
  containsFEdge_eq l SEdge.cells (fun e => outB N e.a || outB N e.b) 36 [.ptr h.length 0 0] z r _ hn (fun _ _ => rfl) (fun e _ => gOut2_eq N e _ h.length (by simp [Heap.obj]))
theorem graph_out (l : List SEdge) (z : Nat) (r : Room) (N : Int) (h : Heap) (hN : 0 ≤ N ∧ N ≤ 256) (hn : l.length < 1000000000) (ho : (l.any fun e => outB N e.a || outB N e.b) = true) :
    call cfg 16 [.lst (edgesL l) z r, .int .i64 N] h = some (.ret (.tup [.lst [] 0 .nil, .int .i64 1]), h) := by
  have ha := graph_any l z r N h hn
  rw [ho] at ha
  have c1 : (N < 0) = False := eq_false (by omega)
  have c2 : (N > 256) = False := eq_false (by omega)
  rw [call16]
  simp only [F16, k16, Tryz.f16, sxAll, cA, arithA, Env.keep, qt_eq, resultsA, packA, storeA, loadA, Rv.part, cellsAt, TD.isAgg, setCells, mapO, ↓Option.bind_some, Nat.reduceBEq, Nat.reduceAdd, Nat.reduceLeDiff, ↓reduceIte, ty3, ty72, cells_clo, leaf_clo, c1, c2, ha, pu35]
  exact leave_pure rfl (by simp) rfl
end
end Go.Proofs.Sx
namespace Go.Proofs.Sx
open Go.Rv Go.Proofs
attribute [local congr] bind_left got_left guardK_left
noncomputable section
def pairs (l : List SEdge) : List (Int × Int) := l.map fun e => (e.a, e.b)
def outRows (es : List (Int × Int)) (N : Nat) : List (List Int) := (List.range N).map fun n : Nat => outs es (n : Int)
theorem graph_fill (l : List SEdge) (z : Nat) (r : Room) (N : Nat) (h : Heap) (hN : N ≤ 256) (hn : l.length < 1000000) (hin : ∀ e ∈ l, 0 ≤ e.a ∧ e.a < N) (o6 : Nat) : ∀ (ys : List SEdge) (i : Nat), l.drop i = ys → i ≤ l.length →
    ∀ (H : Heap) (cells : List AV), LL h H cells (outRows (pairs (l.take i)) N) → ∀ t9 t28,
    Got (exec cfg 16 (.loop l16_0) [(0, .lst (edgesL l) z r), (1, .int .i64 N), (3, .ref [.int .i64 N]), (4, .lst [] 0 .nil), (5, .int .i64 0), (6, .ptr o6 0 0), (7, .msl h.length 0 N 1 0 (some N)), (9, t9), (10, .junk), (22, .bool false), (25, .lst (edgesL l) z r), (26, .int .i64 l.length), (27, .int .i64 i), (28, t28), (46, .junk), (47, .junk), (48, .junk)] H) (fun q =>
      ∃ (H' : Heap) (cells : List AV) (u9 u27 u28 : AV), q = (.exit 0, [(0, .lst (edgesL l) z r), (1, .int .i64 N), (3, .ref [.int .i64 N]), (4, .lst [] 0 .nil), (5, .int .i64 0), (6, .ptr o6 0 0), (7, .msl h.length 0 N 1 0 (some N)), (9, u9), (10, .junk), (22, .bool false), (25, .lst (edgesL l) z r), (26, .int .i64 l.length), (27, u27), (28, u28), (46, .junk), (47, .junk), (48, .junk)], H') ∧ LL h H' cells (outRows (pairs l) N)) := by
  intro ys
  induction ys with
  | nil =>
    intro i hd hi H cells O t9 t28
    have hle : l.length ≤ i := by simpa using hd
    rw [List.take_of_length_le hle] at O
    rw [got_loop]
    simp only [l16_0, F16, Tryz.f16, sxAll, cA, arithA, Env.keep, ↓Option.bind_some, Nat.reduceBEq, ↓reduceIte, at_end hd]
    exact ⟨_, _, _, _, _, rfl, O⟩
  | cons e s ih =>
    intro i hd hi H cells O t9 t28
    obtain ⟨hlt, hx, hd'⟩ := at_drop hd
    have hlt' : i < l.length := by simpa using hlt
    have hw := wrap_succ (i := i) (by omega)
    have hin' := hin e (List.mem_of_getElem? hx)
    have hxe : (edgesL l)[i]? = some (.agg e.cells) := by simp [edgesL, hx]
    have hlen : (outRows (pairs (l.take i)) N).length = N := by simp [outRows]
    obtain ⟨k, hk⟩ : ∃ k : Nat, e.a = k := ⟨e.a.toNat, by omega⟩
    have hkN : k < N := by omega
    have hls : (outRows (pairs (l.take i)) N)[k]? = some (outs (pairs (l.take i)) e.a) := by rw [hk]; simp [outRows, hkN]
    obtain ⟨v, hv⟩ : ∃ v, cells[k]? = some v := ⟨_, List.getElem?_eq_getElem (by rw [O.len, hlen]; exact hkN)⟩
    have O1 := O.app [.cells e.cells 0]
    have hol : (outs (pairs (l.take i)) e.a).length < 1000000 := by
      have h1 : (outs (pairs (l.take i)) e.a).length ≤ (pairs (l.take i)).length := by
        unfold outs; rw [List.length_map]; exact List.length_filter_le _ _
      have h2 : (pairs (l.take i)).length = min i l.length := by simp [pairs]
      omega
    obtain ⟨v', H', ha, kv', vc, vl, hcell, hfr, O2⟩ := O1.push hv hls e.b hol
    have hstep : (outRows (pairs (l.take i)) N).set k (outs (pairs (l.take i)) e.a ++ [e.b]) = outRows (pairs (l.take (i + 1))) N := by
      have := outs_step (pairs (l.take i)) (e.a, e.b) N hin'.1 hin'.2
      simp only [outRows]
      rw [show k = (e.a, e.b).1.toNat by simp [hk], this]
      simp [pairs, List.take_add_one, hx]
    rw [hstep] at O2
    have kv := known_built (O.each k v _ hv hls)
    have := ih (i + 1) hd' (by omega) _ _ O2
    rw [got_loop]
    simp only [l16_0] at this ⊢
    have hob9 : Heap.obj (H ++ [.cells e.cells 0]) H.length 0 = some e.cells := by simp [Heap.obj]
    have hkneg : (e.a < 0) = False := eq_false (by omega)
    have hkl : (e.a.toNat < N) = True := eq_true (by omega)
    have hkk : e.a.toNat = k := by omega
    have hkN2 : (k < N) = True := eq_true hkN
    have hkc : (k + 1 ≤ cells.length) = True := eq_true (by rw [O.len, hlen]; omega)
    have hcell1 := O1.cell
    have hlive := live_of O1.cell
    have hlive' := live_of hcell
    have hdv := head_drop hv
    have hob9' : Heap.obj H' H.length 0 = some e.cells := by
      rw [show Heap.obj H' H.length 0 = Heap.obj (H ++ [.cells e.cells 0]) H.length 0 by
        unfold Heap.obj
        rw [hfr H.length (by simp) (fun hc => by have := built_lt (O.each k v _ hv hls) hc; omega)]]
      exact hob9
    have hlive9 := live_of hob9'
    simp only [SEdge.cells] at hob9'
    have q1 : ∀ o f g, AV.eqb (.ptr o f g) (.ptr o f g) = true := fun o f g => by simp [AV.eqb]
    have q2 : ∀ x : Int, AV.eqb (.int .i64 x) (.int .i64 x) = true := fun x => by simp [AV.eqb]
    simp only [SEdge.cells] at hcell1 hlive ha
    simp only [F16, Tryz.f16, sxAll, cA, arithA, Env.keep, qt_eq, storeA, indexAddrA, fieldAddrA, loadA, Rv.part, cellsAt, TD.isAgg, fillA, setCells, copies, ↓Option.bind_some, Nat.reduceBEq, Nat.reduceAdd, Nat.reduceLeDiff, Nat.reduceGT, bne, ↓reduceIte, sx_append_l, la16_42, eqb_self, ty49, ty3, ty42, ty45, ty34, hlt, hxe, hw, SEdge.cells, hkneg, hkk, hkN2, hkc, hcell1, hlive, hlive', hcell, hdv, kv, kv', vc, vl, hob9', hlive9, ha, elems, group, Nat.mul_one, Nat.zero_add] at this ⊢
    exact this _ _
end
end Go.Proofs.Sx
namespace Go.Proofs.Sx
open Go.Rv Go.Proofs
attribute [local congr] bind_left got_left guardK_left
noncomputable section
def Pre (H : Heap) (v : AV) (xs : List Int) : Prop :=
  (v = .lst [] 0 .nil ∧ xs = []) ∨ ∃ o g cap cs, v = .msl o 0 xs.length 1 g cap ∧ H.obj o g = some cs ∧ cs.take xs.length = intL xs ∧ xs.length ≤ cs.length
theorem compactI_nil (H : Heap) : call cfg 38 [.lst [] 0 .nil] H = some (.ret (.lst [] 0 .nil), H) := by
  have h0 : (((0 : Nat) : Int) < 2) = True := by simp
  rw [call38]
  simp only [F38, k38, Tryz.f38, sxAll, cA, arithA, Env.keep, resultsA, packA, lenA, ↓Option.bind_some, Nat.reduceBEq, ↓reduceIte, ty34, h0]
  exact leave_impure rfl
theorem row_done {H : Heap} {v : AV} {xs : List Int} (B : Built H v (intL xs) 1) (hn : xs.length < 1000000) :
    ∃ H1 v2 H2, call cfg 37 [v] H = some (.ret (.tup []), H1) ∧ call cfg 38 [v] H1 = some (.ret v2, H2) ∧ Pre H2 v2 (ded (sortedZ xs)) ∧ objOf v2 = objOf v ∧ H2.length = H.length ∧ (∀ o, objOf v ≠ some o → H1[o]? = H[o]? ∧ H2[o]? = H[o]?) := by
  rcases B with ⟨rfl, hx⟩ | ⟨o, g, cap, rfl, hob, hcap⟩
  · have : xs = [] := by simpa [intL] using hx
    subst this
    refine ⟨H, .lst [] 0 .nil, H, ?_, compactI_nil H, .inl ⟨rfl, rfl⟩, rfl, rfl, fun o _ => ⟨rfl, rfl⟩⟩
    rw [call_prim _ _ _ sortZ rfl]
    rfl
  · have hf : flatC (intL xs) = intL xs := flatC_plain (plain_ints xs)
    rw [hf] at hob
    have ho := obj_some hob
    have hsl : (sortedZ xs).length = xs.length := (sortedZ_perm xs).length_eq
    have hob1 : Heap.obj (List.set H o (.cells (intL (sortedZ xs)) g)) o g = some (intL (sortedZ xs)) := obj_set_self hob
    have hcap' : cap = none ∨ cap = some (sortedZ xs).length := by rw [hsl]; simpa [intL] using hcap
    obtain ⟨cap2, cs2, hc, ht, hl⟩ := compactI_eq (sortedZ xs) (by omega) o g cap hcap' _ hob1
    rw [hsl] at hc
    refine ⟨List.set H o (.cells (intL (sortedZ xs)) g), _, _, ?_, by rw [intL_len]; exact hc, .inr ⟨o, g, cap2, cs2, rfl, obj_set_self hob1, ht, ?_⟩, rfl, by simp, fun p hp => ?_⟩
    · rw [call_prim _ _ _ sortZ rfl]
      simp [sortZ, hob, intL, zsOf_map]
      omega
    · have := ded_len_le (sortedZ xs); omega
    · have hne : o ≠ p := fun e => hp (by rw [← e]; rfl)
      exact ⟨List.getElem?_set_ne hne, by rw [List.getElem?_set_ne hne, List.getElem?_set_ne hne]⟩
end
end Go.Proofs.Sx
namespace Go.Proofs.Sx
open Go.Rv Go.Proofs
attribute [local congr] bind_left got_left guardK_left
noncomputable section
def xsOf (g : List SRow) : List (List Int) := g.map SRow.xs
theorem xsOf_len (g : List SRow) : (xsOf g).length = g.length := by simp [xsOf]
theorem rowAt_of {g : List SRow} {x : Int} {row : SRow} (h : g[x.toNat]? = some row) : rowAt (xsOf g) x = row.xs := by simp [rowAt, xsOf, h]
theorem inG_of (g : List SRow) (x : Int) : (0 ≤ x ∧ x < g.length) = InG (xsOf g) x := by simp only [InG, xsOf_len]
variable (g : List SRow) (z : Nat) (r : Room) (a b : Int) (h : Heap) (hn : g.length < 1000000000) (hb : InG (xsOf g) b)
include hn hb in
theorem leads_inner (x : Int) (row : SRow) (hx : g[x.toNat]? = some row) (hrl : row.xs.length < 1000000000) (d : Nat) : ∀ (ys : List Int) (i : Nat), row.xs.drop i = ys → i ≤ row.xs.length →
    ∀ (cm : List Bool) (xs : List Int) (v : AV) (H : Heap), Inv (xsOf g) a b cm xs (some x) d → Mem h H cm xs v → (∀ y ∈ row.xs.take i, y ≠ b ∧ (InG (xsOf g) y → cm[y.toNat]? = some true)) → ∀ (t13 t32 t50 t53 t57 : AV),
    Got (exec cfg 18 (.loop l18_1) [(0, .lst (rowsL g) z r), (1, .int .i64 a), (2, .int .i64 b), (3, .ref [.lst (rowsL g) z r]), (6, .bool false), (7, .clo 39 [.ref [.lst (rowsL g) z r]]), (8, .msl h.length 0 g.length 1 0 (some g.length)), (9, v), (10, .bool false), (11, .int .i64 x), (13, t13), (24, .bool false), (32, t32), (47, row.val), (48, .int .i64 row.xs.length), (49, .int .i64 i), (50, t50), (53, t53), (57, t57)]
 H) (fun q =>
      ∃ (o : Nat) (fd : Bool) (cm : List Bool) (xs : List Int) (v u13 u32 u49 u50 u53 u57 : AV) (H' : Heap), q = (.exit o, [(0, .lst (rowsL g) z r), (1, .int .i64 a), (2, .int .i64 b), (3, .ref [.lst (rowsL g) z r]), (6, .bool false), (7, .clo 39 [.ref [.lst (rowsL g) z r]]), (8, .msl h.length 0 g.length 1 0 (some g.length)), (9, v), (10, .bool fd), (11, .int .i64 x), (13, u13), (24, .bool false), (32, u32), (47, row.val), (48, .int .i64 row.xs.length), (49, u49), (50, u50), (53, u53), (57, u57)]
, H') ∧
        ((o = 2 ∧ fd = false ∧ Inv (xsOf g) a b cm xs none d ∧ Mem h H' cm xs v) ∨ (o = 0 ∧ fd = true ∧ Way (xsOf g) a b ∧ H'.take h.length = h))) := by
  intro ys
  induction ys with
  | nil =>
    intro i hd hi cm xs v H I M hp t13 t32 t50 t53 t57
    have hend := at_end hd
    have hfull : row.xs.take i = row.xs := List.take_of_length_le (by simpa using hd)
    rw [hfull] at hp
    have I' := I.rest (by rw [rowAt_of hx]; exact fun hm => (hp b hm).1 rfl) (by rw [rowAt_of hx]; exact fun y hm => (hp y hm).2)
    rw [got_loop]
    simp only [l18_1, F18, Tryz.f18, sxAll, cA, arithA, Env.keep, ↓Option.bind_some, Nat.reduceBEq, ↓reduceIte, hend, SRow.val]
    exact ⟨_, _, _, _, _, _, _, _, _, _, _, _, rfl, .inl ⟨rfl, rfl, I', M⟩⟩
  | cons y rest ih =>
    intro i hd hi cm xs v H I M hp t13 t32 t50 t53 t57
    obtain ⟨hlt, hy, hd'⟩ := at_drop hd
    have hmem : y ∈ row.xs := List.mem_of_getElem? hy
    have hw := wrap_succ (i := i) (by simp at hlt; omega)
    have hix : indexAddrA cfg H 34 row.val (.int .i64 i) = some (.ref [.int .i64 y]) := by
      have h1 : (intL row.xs)[i]? = some (.int .i64 y) := by simp [intL, hy]
      simp [indexAddrA, ty34, ty3, SRow.val, h1, AV.cells]
    have hld : loadA cfg H 3 (.ref [.int .i64 y]) = some (.int .i64 y) := by simp [loadA, cellsAt, ty3, Rv.part, TD.isAgg]
    simp only [SRow.val] at hix
    have htk : row.xs.take (i + 1) = row.xs.take i ++ [y] := by rw [List.take_add_one, hy]; rfl
    rw [got_loop]
    by_cases hyb : y = b
    · have hyb' : (y == b) = true := by simp [hyb]
      have hW := I.found hb (by rw [rowAt_of hx]; exact hyb ▸ hmem)
      simp only [l18_1, F18, Tryz.f18, sxAll, cA, arithA, Env.keep, qt_eq, ↓Option.bind_some, Nat.reduceBEq, ↓reduceIte, hlt, SRow.val, hyb', hix, hld]
      exact ⟨_, _, cm, xs, _, _, _, _, _, _, _, _, rfl, .inr ⟨rfl, rfl, hW, M.old⟩⟩
    · have hyb' : (y == b) = false := by simp [hyb]
      by_cases hin : InG (xsOf g) y
      · have hcall : call cfg 39 [.int .i64 y, .ref [.lst (rowsL g) z r]] H = some (.ret (.bool true), H) := by
          rw [leadsIn_eq g z r y H hn]
          simp only [inG_of, hin, decide_true]
        have hlen : cm.length = g.length := by rw [I.len, xsOf_len]
        have hyl : y.toNat < cm.length := by rw [I.len]; exact hin.nat
        obtain ⟨c, hc⟩ : ∃ c, cm[y.toNat]? = some c := ⟨_, List.getElem?_eq_getElem hyl⟩
        obtain ⟨rd1, rd2⟩ := M.read hlen hin.1 hc
        cases c with
        | true =>
          have := ih (i + 1) hd' (by simp at hlt; omega) cm xs v H I M (by
            rw [htk]
            intro y' hm
            rcases List.mem_append.1 hm with hm | hm
            · exact hp y' hm
            · simp at hm; subst hm; exact ⟨hyb, fun _ => hc⟩)
          simp only [l18_1, SRow.val] at this ⊢
          simp only [F18, Tryz.f18, sxAll, cA, arithA, Env.keep, qt_eq, unA, mapO, ↓Option.bind_some, Nat.reduceBEq, ↓reduceIte, hlt, hyb', hix, hld, hcall, rd1, rd2, hw] at this ⊢
          exact this _ _ _ _ _
        | false =>
          obtain ⟨H1, hst, M1⟩ := M.mark y.toNat hyl
          obtain ⟨v2, H2, ha, M2⟩ := M1.push y (by have := I.cap; rw [xsOf_len] at this; omega)
          have hel : elems H1 (.lst (group 1 [.int .i64 y] 1) 1 (.exact 1)) = some [.int .i64 y] := rfl
          have I2 := I.mark hin (by rw [rowAt_of hx]; exact hmem) hc
          have := ih (i + 1) hd' (by simp at hlt; omega) _ _ v2 H2 I2 M2 (by
            rw [htk]
            intro y' hm
            rcases List.mem_append.1 hm with hm | hm
            · exact ⟨(hp y' hm).1, fun hg => mark_keep hyl ((hp y' hm).2 hg)⟩
            · simp at hm; subst hm; exact ⟨hyb, fun _ => by simp [hyl]⟩)
          simp only [l18_1, SRow.val] at this ⊢
          simp only [F18, Tryz.f18, sxAll, cA, arithA, Env.keep, qt_eq, unA, fillA, setCells, copies, mapO, ↓Option.bind_some, Nat.reduceBEq, Nat.reduceAdd, Nat.reduceMul, Nat.reduceLeDiff, Nat.reduceGT, bne, ↓reduceIte, hlt, M.known, M2.known, hyb', hix, hld, hcall, rd1, rd2, hst, hel, ha, hw, ty34, ty3] at this ⊢
          exact this _ _ _ _ _
      · have hcall : call cfg 39 [.int .i64 y, .ref [.lst (rowsL g) z r]] H = some (.ret (.bool false), H) := by
          rw [leadsIn_eq g z r y H hn]
          simp only [inG_of, hin, decide_false]
        have := ih (i + 1) hd' (by simp at hlt; omega) cm xs v H I M (by
          rw [htk]
          intro y' hm
          rcases List.mem_append.1 hm with hm | hm
          · exact hp y' hm
          · simp at hm; subst hm; exact ⟨hyb, fun hg => absurd hg hin⟩)
        simp only [l18_1, SRow.val] at this ⊢
        simp only [F18, Tryz.f18, sxAll, cA, arithA, Env.keep, qt_eq, mapO, ↓Option.bind_some, Nat.reduceBEq, ↓reduceIte, hlt, hyb', hix, hld, hcall, hw] at this ⊢
        exact this _ _ _ _ _
end
end Go.Proofs.Sx
namespace Go.Proofs.Sx
open Go.Rv Go.Proofs
attribute [local congr] bind_left got_left guardK_left
noncomputable section
theorem leads_outer (g : List SRow) (z : Nat) (r : Room) (a b : Int) (h : Heap) (hn : g.length < 1000000000) (hb : InG (xsOf g) b) (hrl : ∀ row ∈ g, row.xs.length < 1000000000) :
    ∀ (d : Nat) (cm : List Bool) (xs : List Int) (v : AV) (H : Heap), Inv (xsOf g) a b cm xs none d → Mem h H cm xs v → ∀ (t11 t13 t32 t47 t48 t49 t50 t53 t57 : AV),
    Got (exec cfg 18 (.loop l18_0) [(0, .lst (rowsL g) z r), (1, .int .i64 a), (2, .int .i64 b), (3, .ref [.lst (rowsL g) z r]), (6, .bool false), (7, .clo 39 [.ref [.lst (rowsL g) z r]]), (8, .msl h.length 0 g.length 1 0 (some g.length)), (9, v), (10, .bool false), (11, t11), (13, t13), (24, .bool false), (32, t32), (47, t47), (48, t48), (49, t49), (50, t50), (53, t53), (57, t57)]
 H) (fun q =>
      ∃ (fd : Bool) (v u11 u13 u32 u47 u48 u49 u50 u53 u57 : AV) (H' : Heap), q = (.exit 0, [(0, .lst (rowsL g) z r), (1, .int .i64 a), (2, .int .i64 b), (3, .ref [.lst (rowsL g) z r]), (6, .bool false), (7, .clo 39 [.ref [.lst (rowsL g) z r]]), (8, .msl h.length 0 g.length 1 0 (some g.length)), (9, v), (10, .bool fd), (11, u11), (13, u13), (24, .bool false), (32, u32), (47, u47), (48, u48), (49, u49), (50, u50), (53, u53), (57, u57)]
, H') ∧
        (fd = true ↔ Way (xsOf g) a b) ∧ H'.take h.length = h) := by
  intro d
  induction d with
  | zero =>
    intro cm xs v H I M t11 t13 t32 t47 t48 t49 t50 t53 t57
    have hxs : xs = [] := List.length_eq_zero_iff.1 (by have := I.fuel; omega)
    subst hxs
    have hl : ∀ e, lenA H (.slice e) v = some 0 := M.len
    have h0 : (((0 : Nat) : Int) > 0) = False := by simp
    rw [got_loop]
    simp only [l18_0, F18, Tryz.f18, sxAll, cA, arithA, Env.keep, ↓Option.bind_some, Nat.reduceBEq, ↓reduceIte, M.known, hl, h0, ty34]
    exact ⟨false, _, _, _, _, _, _, _, _, _, _, _, rfl, by simp [I.none], M.old⟩
  | succ d ih =>
    intro cm xs v H I M t11 t13 t32 t47 t48 t49 t50 t53 t57
    rcases List.eq_nil_or_concat xs with rfl | ⟨xs', x, rfl⟩
    · have hl : ∀ e, lenA H (.slice e) v = some 0 := M.len
      have h0 : (((0 : Nat) : Int) > 0) = False := by simp
      rw [got_loop]
      simp only [l18_0, F18, Tryz.f18, sxAll, cA, arithA, Env.keep, ↓Option.bind_some, Nat.reduceBEq, ↓reduceIte, M.known, hl, h0, ty34]
      exact ⟨false, _, _, _, _, _, _, _, _, _, _, _, rfl, by simp [I.none], M.old⟩
    · rw [List.concat_eq_append] at I M
      have hl : ∀ e, lenA H (.slice e) v = some (xs'.length + 1) := fun e => by rw [M.len]; simp
      have hxin := (I.way x (.inl (by simp))).1
      obtain ⟨row, hx⟩ : ∃ row, g[x.toNat]? = some row := ⟨_, List.getElem?_eq_getElem (by have := hxin.nat; rwa [xsOf_len] at this)⟩
      have hcap := I.cap
      rw [xsOf_len, List.length_append, List.length_singleton] at hcap
      obtain ⟨o, k, gn, v', hix, hld, hsl, M'⟩ := M.top
      have I' := I.pop
      obtain ⟨q, hq, o2, fd, cm2, xs2, v2, u13, u32, u49, u50, u53, u57, H2, rfl, hcase⟩ := leads_inner g z r a b h hn hb x row hx (hrl row (List.mem_of_getElem? hx)) d row.xs 0 (by simp) (by omega) cm xs' v' H I' M' (by simp) t13 (.bool true) t50 t53 t57
      have hgt : (((xs'.length + 1 : Nat) : Int) > 0) = True := eq_true (by omega)
      have hw : IntKind.i64.wrap (((xs'.length + 1 : Nat) : Int) - 1) = (xs'.length : Int) := by rw [wrap_id (by omega) (by omega)]; omega
      have hrow1 : indexAddrA cfg H 45 (.lst (rowsL g) z r) (.int .i64 x) = some (.ref [row.val]) := by
        have h1 : (rowsL g)[x.toNat]? = some row.val := by simp [rowsL, hx]
        have h0 : ¬ x < 0 := by have := hxin.1; omega
        simp [indexAddrA, ty45, ty34, h1, h0, SRow.val, AV.cells]
      have hrow2 : loadA cfg H 34 (.ref [row.val]) = some row.val := by simp [loadA, cellsAt, ty34, Rv.part, TD.isAgg]
      have hrow3 : loadA cfg H 45 (.ref [.lst (rowsL g) z r]) = some (.lst (rowsL g) z r) := by simp [loadA, cellsAt, ty45, Rv.part, TD.isAgg]
      have hrow4 : lenA H (.slice 3) (.lst (intL row.xs) row.z row.r) = some row.xs.length := by simp [lenA, intL_len]
      simp only [Int.natCast_zero, SRow.val] at hq hrow1 hrow2
      rw [got_loop]
      rcases hcase with ⟨rfl, rfl, I2, M2⟩ | ⟨rfl, rfl, hW, hold⟩
      · have := ih cm2 xs2 v2 H2 I2 M2
        simp only [l18_0] at this ⊢
        simp only [F18, Tryz.f18, sxAll, cA, arithA, Env.keep, qt_eq, optA, ↓Option.bind_some, Nat.reduceBEq, ↓reduceIte, M.known, M'.known, hl, ty34, hgt, hw, hix, hld, hsl, hrow1, hrow2, hrow3, hrow4, hq] at this ⊢
        exact this _ _ _ _ _ _ _ _ _
      · simp only [l18_0, F18, Tryz.f18, sxAll, cA, arithA, Env.keep, qt_eq, optA, ↓Option.bind_some, Nat.reduceBEq, ↓reduceIte, M.known, M'.known, hl, ty34, hgt, hw, hix, hld, hsl, hrow1, hrow2, hrow3, hrow4, hq]
        exact ⟨true, _, _, _, _, _, _, _, _, _, _, _, rfl, by simp [hW], hold⟩
theorem copies_bool : ∀ (n : Nat), copies n [AV.bool false] = (List.replicate n false).map AV.bool
  | 0 => rfl
  | n + 1 => by rw [copies, copies_bool n]; rfl
theorem leads_eq (g : List SRow) (z : Nat) (r : Room) (a b : Int) (h : Heap) (hn : g.length < 1000000000) (hrl : ∀ row ∈ g, row.xs.length < 1000000000) :
    ∃ B, call cfg 18 [.lst (rowsL g) z r, .int .i64 a, .int .i64 b] h = some (.ret (.bool B), h) ∧ (B = true ↔ Way (xsOf g) a b) := by
  have hc : ∀ x H, call cfg 39 [.int .i64 x, .ref [.lst (rowsL g) z r]] H = some (.ret (.bool (decide (InG (xsOf g) x))), H) := fun x H => by
    rw [leadsIn_eq g z r x H hn]
    simp only [inG_of]
  by_cases ha : InG (xsOf g) a
  · have hca : ∀ H, call cfg 39 [.int .i64 a, .ref [.lst (rowsL g) z r]] H = some (.ret (.bool true), H) := fun H => by rw [hc, decide_eq_true ha]
    by_cases hb : InG (xsOf g) b
    · have hcb : ∀ H, call cfg 39 [.int .i64 b, .ref [.lst (rowsL g) z r]] H = some (.ret (.bool true), H) := fun H => by rw [hc, decide_eq_true hb]
      have hrow3 : loadA cfg h 45 (.ref [.lst (rowsL g) z r]) = some (.lst (rowsL g) z r) := by simp [loadA, cellsAt, ty45, Rv.part, TD.isAgg]
      have hlen : lenA h (.slice 34) (.lst (rowsL g) z r) = some g.length := by simp [lenA, rowsL_len]
      have hmk : makeSliceA cfg h 91 (.int .i64 g.length) (.int .i64 g.length) = some (.msl h.length 0 g.length 1 0 (some g.length), h ++ [.cells ((List.replicate g.length false).map AV.bool) 0]) := by
        simp [makeSliceA, ty91, ty4, mostLen, copies_bool]
        exact decide_eq_true (by omega)
      have M : Mem h (h ++ [.cells ((List.replicate g.length false).map AV.bool) 0] ++ [.cells [.int .i64 a] 0]) (List.replicate g.length false) [a] (.msl (h.length + 1) 0 1 1 0 (some 1)) := by
        refine ⟨by simp [Heap.obj], ⟨h.length + 1, 0, some 1, [.int .i64 a], rfl, by simp [Heap.obj], by simp, by simp [intL], .inr rfl, by omega⟩, by simp⟩
      have I := Inv.start (b := b) ha
      rw [xsOf_len] at I
      obtain ⟨q, hq, fd, v, u11, u13, u32, u47, u48, u49, u50, u53, u57, H', rfl, hiff, hold⟩ := leads_outer g z r a b h hn hb hrl _ _ _ _ _ I M .junk .junk .junk .junk .junk .junk .junk .junk .junk
      refine ⟨fd, ?_, hiff⟩
      simp only [List.append_assoc, List.cons_append, List.nil_append] at hq
      rw [call18]
      simp only [F18, k18, Tryz.f18, sxAll, cA, Env.keep, qt_eq, resultsA, packA, unA, fillA, setCells, copies, mapO, ↓Option.bind_some, Nat.reduceBEq, Nat.reduceAdd, Nat.reduceMul, Nat.reduceLeDiff, Nat.reduceGT, bne, ↓reduceIte, ty3, ty34, ty45, hca, hcb, hrow3, hlen, hmk, hq]
      exact leave_pure rfl hold rfl
    · have hcb : ∀ H, call cfg 39 [.int .i64 b, .ref [.lst (rowsL g) z r]] H = some (.ret (.bool false), H) := fun H => by rw [hc, decide_eq_false hb]
      refine ⟨false, ?_, by simp; exact fun hW => hb hW.last⟩
      rw [call18]
      simp only [F18, k18, Tryz.f18, sxAll, cA, Env.keep, qt_eq, resultsA, packA, unA, mapO, ↓Option.bind_some, Nat.reduceBEq, Nat.reduceAdd, ↓reduceIte, ty45, hca, hcb]
      exact leave_kept rfl rfl
  · have hca : ∀ H, call cfg 39 [.int .i64 a, .ref [.lst (rowsL g) z r]] H = some (.ret (.bool false), H) := fun H => by rw [hc, decide_eq_false ha]
    refine ⟨false, ?_, by simp; exact fun hW => ha hW.first⟩
    rw [call18]
    simp only [F18, k18, Tryz.f18, sxAll, cA, Env.keep, qt_eq, resultsA, packA, unA, mapO, ↓Option.bind_some, Nat.reduceBEq, Nat.reduceAdd, ↓reduceIte, ty45, hca]
    exact leave_kept rfl rfl
end
end Go.Proofs.Sx
namespace Go.Proofs.Sx
open Go.Rv Go.Proofs
noncomputable section
theorem Pre.other {H H' : Heap} {v : AV} {xs : List Int} (V : Pre H v xs) (K : ∀ o, objOf v = some o → H'[o]? = H[o]?) : Pre H' v xs := by
  rcases V with h | ⟨o, g, cap, cs, rfl, h2, h3, h4⟩
  · exact .inl h
  · exact .inr ⟨o, g, cap, cs, rfl, obj_keep h2 (K o rfl), h3, h4⟩
theorem Pre.lt {H : Heap} {v : AV} {xs : List Int} {o : Nat} (V : Pre H v xs) (ho : objOf v = some o) : o < H.length := by
  rcases V with ⟨rfl, _⟩ | ⟨o', g, cap, cs, rfl, h2, h3⟩
  · cases ho
  · simp only [objOf, Option.some.injEq] at ho; subst ho; exact obj_some h2
theorem Pre.kn {H : Heap} {v : AV} {xs : List Int} (V : Pre H v xs) : known v = some v ∧ v.cells = [v] ∧ v.leaf = true := by
  rcases V with ⟨rfl, _⟩ | ⟨o', g, cap, cs, rfl, h2, h3⟩ <;> exact ⟨rfl, rfl, rfl⟩
theorem freeze_intsG (h : Heap) (n d : Nat) (xs : List Int) : mapO (freezeV h n (d + 1)) (intL xs) = some (intL xs) := freeze_deads h n d (by simp [intL, AV.dead])
theorem group_ints (xs : List Int) : group xs.length (intL xs) 1 = intL xs := by
  have := group_plain (plain_ints xs)
  simpa [intL] using this
theorem Pre.freeze {H : Heap} {v : AV} {xs : List Int} {n d : Nat} (V : Pre H v xs) (ho : ∀ o, objOf v = some o → n ≤ o) : ∃ z r, freezeV H n (d + 2) v = some (.lst (intL xs) z r) := by
  rcases V with ⟨rfl, rfl⟩ | ⟨o, g, cap, cs, rfl, h2, h3, h4⟩
  · exact ⟨0, .nil, rfl⟩
  · refine ⟨1, .open, ?_⟩
    have hn := ho o rfl
    unfold freezeV
    simp only
    rw [if_neg (by omega), h2]
    simp only [Option.bind_eq_bind, Option.bind_some, Nat.zero_add, Nat.mul_one, List.drop_zero, h4, if_true, h3, freeze_intsG, group_ints]
structure QL (h H : Heap) (cells : List AV) (ls : List (List Int)) (i : Nat) : Prop where
  cell : H.obj h.length 0 = some cells
  len : cells.length = ls.length
  done : ∀ (k : Nat) v xs, k < i → cells[k]? = some v → ls[k]? = some xs → Pre H v (ded (sortedZ xs))
  rest : ∀ (k : Nat) v xs, i ≤ k → cells[k]? = some v → ls[k]? = some xs → Built H v (intL xs) 1
  own : ∀ (k : Nat) v o, cells[k]? = some v → objOf v = some o → h.length < o
  sep : ∀ (k k' : Nat) v v' o, cells[k]? = some v → cells[k']? = some v' → objOf v = some o → objOf v' = some o → k = k'
  old : H.take h.length = h
theorem LL.start {h H : Heap} {cells : List AV} {ls : List (List Int)} (O : LL h H cells ls) : QL h H cells ls 0 :=
  ⟨O.cell, O.len, fun _ _ _ hk => by omega, fun k v xs _ => O.each k v xs, O.own, O.sep, O.old⟩
theorem QL.le {h H : Heap} {cells : List AV} {ls : List (List Int)} {i : Nat} (O : QL h H cells ls i) : h.length < H.length := obj_some O.cell
theorem QL.step {h H : Heap} {cells : List AV} {ls : List (List Int)} {i : Nat} (O : QL h H cells ls i) {v : AV} {xs : List Int} (hv : cells[i]? = some v) (hx : ls[i]? = some xs) (hl : xs.length < 1000000) :
    ∃ H1 v2 H2, call cfg 37 [v] H = some (.ret (.tup []), H1) ∧ call cfg 38 [v] H1 = some (.ret v2, H2) ∧ H1.obj h.length 0 = some cells ∧ H2.obj h.length 0 = some cells ∧ known v2 = some v2 ∧ v2.cells = [v2] ∧ v2.leaf = true ∧
      (∀ o, o < h.length → H1[o]? = H[o]? ∧ H2[o]? = H[o]?) ∧ QL h (H2.set h.length (.cells (cells.set i v2) 0)) (cells.set i v2) ls (i + 1) := by
  have B := O.rest i v xs (Nat.le_refl _) hv hx
  obtain ⟨H1, v2, H2, hs, hc, hP, ho, hlen, hk⟩ := row_done B hl
  have hlt := O.le
  have hne : objOf v ≠ some h.length := fun hc => by have := O.own i v _ hv hc; omega
  have hkl : i < cells.length := (List.getElem?_eq_some_iff.1 hv).1
  have k1 := hk _ hne
  obtain ⟨p1, p2, p3⟩ := hP.kn
  have hcell2 : H2.obj h.length 0 = some cells := obj_keep O.cell k1.2
  have hlt2 := obj_some hcell2
  have hother : ∀ (j : Nat) w o, j ≠ i → cells[j]? = some w → objOf w = some o → objOf v ≠ some o := fun j w o hj hw how hc => hj (O.sep j i w v o hw hv how hc)
  refine ⟨H1, v2, H2, hs, hc, obj_keep O.cell k1.1, hcell2, p1, p2, p3, fun o hol => hk o fun hc => by have := O.own i v o hv hc; omega, ⟨by simp [Heap.obj, List.getElem?_set_self hlt2], by simp [O.len], ?_, ?_, ?_, ?_, ?_⟩⟩
  · intro j w ys hj hw hys
    by_cases hji : j = i
    · subst hji
      rw [List.getElem?_set_self hkl] at hw
      injection hw with hw; subst hw
      rw [hx] at hys; injection hys with hys; subst hys
      exact hP.other fun o how => by rw [List.getElem?_set_ne]; rw [ho] at how; have := O.own j v o hv how; omega
    · rw [List.getElem?_set_ne (Ne.symm hji)] at hw
      refine (O.done j w ys (by omega) hw hys).other fun o how => ?_
      rw [List.getElem?_set_ne (by have := O.own j w o hw how; omega), (hk o (hother j w o hji hw how)).2]
  · intro j w ys hj hw hys
    rw [List.getElem?_set_ne (by omega)] at hw
    refine (O.rest j w ys (by omega) hw hys).other fun o how => ?_
    rw [List.getElem?_set_ne (by have := O.own j w o hw how; omega), (hk o (hother j w o (by omega) hw how)).2]
  · intro j w o hw how
    by_cases hji : j = i
    · subst hji
      rw [List.getElem?_set_self hkl] at hw
      injection hw with hw; subst hw
      rw [ho] at how; exact O.own j v o hv how
    · rw [List.getElem?_set_ne (Ne.symm hji)] at hw
      exact O.own j w o hw how
  · intro j j' w w' o hw hw' how how'
    have get : ∀ (j : Nat) w, (cells.set i v2)[j]? = some w → ∃ u, cells[j]? = some u ∧ objOf u = objOf w := fun j w hw => by
      by_cases hji : j = i
      · subst hji
        rw [List.getElem?_set_self hkl] at hw
        injection hw with hw; subst hw
        exact ⟨v, hv, ho.symm⟩
      · rw [List.getElem?_set_ne (Ne.symm hji)] at hw
        exact ⟨w, hw, rfl⟩
    obtain ⟨u, hu, eu⟩ := get j w hw
    obtain ⟨u', hu', eu'⟩ := get j' w' hw'
    exact O.sep j j' u u' o hu hu' (eu.trans how) (eu'.trans how')
  · rw [List.take_set_of_le (Nat.le_refl _), ← O.old]
    apply List.ext_getElem?
    intro j
    by_cases hj : j < h.length
    · rw [O.old, List.getElem?_take_of_lt hj, (hk j fun hc => by have := O.own i v j hv hc; omega).2]
      have := congrArg (·[j]?) O.old
      simp only [List.getElem?_take_of_lt hj] at this
      exact this
    · rw [O.old, List.getElem?_eq_none (by simp; omega), List.getElem?_eq_none (by omega)]
theorem freeze_pres {H : Heap} {n d : Nat} : ∀ (cells : List AV) (ls : List (List Int)), cells.length = ls.length → (∀ (k : Nat) v xs, cells[k]? = some v → ls[k]? = some xs → Pre H v xs) → (∀ (k : Nat) v o, cells[k]? = some v → objOf v = some o → n ≤ o) →
    ∃ gs : List SRow, mapO (freezeV H n (d + 2)) cells = some (rowsL gs) ∧ xsOf gs = ls
  | [], [], _, _, _ => ⟨[], rfl, rfl⟩
  | [], l :: r, h, _, _ => by simp at h
  | c :: cs, [], h, _, _ => by simp at h
  | c :: cs, l :: ls, h, he, ho => by
    obtain ⟨gs, h1, h2⟩ := freeze_pres cs ls (by simpa using h) (fun k v xs hv hx => he (k + 1) v xs (by simpa using hv) (by simpa using hx)) (fun k v o hv => ho (k + 1) v o (by simpa using hv))
    obtain ⟨z, r, hf⟩ := (he 0 c l rfl rfl).freeze (d := d) (ho 0 c · rfl)
    refine ⟨⟨l, z, r⟩ :: gs, ?_, by simp only [xsOf, List.map_cons] at h2 ⊢; rw [h2]⟩
    rw [mapO_cons, hf, Option.bind_some, h1, Option.bind_some]
    rfl
theorem group_rowsG : ∀ (gs : List SRow), group gs.length (rowsL gs) 1 = rowsL gs
  | [] => rfl
  | x :: r => by
    have := group_rowsG r
    simp only [rowsL, List.map_cons, List.length_cons, group] at this ⊢
    simp only [List.drop_succ_cons, List.drop_zero, this]
    rfl
theorem freeze_mslG (h : Heap) (n d o off len sz g : Nat) (cap : Option Nat) : freezeV h n (d + 1) (.msl o off len sz g cap) = if o < n then some (.msl o off len sz g cap) else (h.obj o g).bind fun cs =>
    if off + len * sz ≤ cs.length then (mapO (freezeV h n d) ((cs.drop off).take (len * sz))).bind fun cs => some (.lst (group len cs sz) sz .open) else none := rfl
theorem QL.freeze {h H : Heap} {cells : List AV} {ls : List (List Int)} {n : Nat} (O : QL h H cells ls ls.length) (hn : n ≤ h.length) (d : Nat) (cap : Option Nat) :
    ∃ (gs : List SRow), freezeV H n (d + 3) (.msl h.length 0 ls.length 1 0 cap) = some (.lst (rowsL gs) 1 .open) ∧ xsOf gs = ls.map fun xs => ded (sortedZ xs) := by
  obtain ⟨gs, h1, h2⟩ := freeze_pres (H := H) (n := n) (d := d) cells (ls.map fun xs => ded (sortedZ xs)) (by simp [O.len]) (fun k v xs hv hx => by
    rw [List.getElem?_map] at hx
    cases hl : ls[k]? with
    | none => rw [hl] at hx; cases hx
    | some l =>
      rw [hl] at hx; simp only [Option.map_some, Option.some.injEq] at hx; subst hx
      exact O.done k v l (List.getElem?_eq_some_iff.1 hl).1 hv hl) (fun k v o hv ho => by have := O.own k v o hv ho; omega)
  have hgl : gs.length = ls.length := by
    have := congrArg List.length h2
    simpa [xsOf] using this
  refine ⟨gs, ?_, h2⟩
  rw [freeze_mslG H n (d + 2), if_neg (by omega), O.cell, Option.bind_some, if_pos (by rw [O.len]; omega), Nat.mul_one, List.drop_zero, ← O.len, List.take_length, h1, Option.bind_some, O.len, ← hgl, group_rowsG]
end
end Go.Proofs.Sx
