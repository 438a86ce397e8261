/-
  package mem: 'New'.
-/
import Derived.Test.YtlimadookjcbmaaGreatDoorPtM
import Derived.Test.YtlimadookjcbmaaGreatDoorPtG
import Derived.Test.YtlimadookjcbmaaGreatDoorPtH
set_option linter.unusedSectionVars false
set_option linter.unusedSimpArgs false
set_option linter.unusedVariables false
set_option linter.defProp false
set_option maxHeartbeats 8000000
set_option maxRecDepth 100000
namespace Go.Proofs.Sx
open Go.Rv Go.Proofs
attribute [local congr] bind_left got_left
noncomputable section
instance t49 {d : Option Nat} : TightD cfg 49 d := ⟨fun _ _ => rfl⟩
def B49 (p : List Bool) := cA p Tryz.f49.body
def R49 (p : List Bool) (i : Nat) := Code.region i (cA p Tryz.f49.body) false
theorem F49 : (∀ p i, XR cfg 49 (R49 p i) (B49 p) (cA p Tryz.f49.body).toList i false) ∧ cfg.imm 49 1 = true ∧ GO cfg 49 (B49 [tt, ff]) 3 6 ∧ RE cfg 49 [0, 1, 2] ∧ cfg.pure 49 = true := ⟨fun _ _ => xr rfl rfl, by kernel_rfl, gO (by kernel_rfl), rE fun _ => rfl, rfl⟩
def k49 : Code := (.seq (R49 [ff] 0) (.seq (R49 [tt, ff] 1) .ret))
theorem call49 (x0 : AV) (h : Heap) : call cfg 49 [x0] h = (exec cfg 49 k49 [(0, x0)] h).bind (callEnd cfg 49 h [.tmp 2]) := call_at2 (fnat Tryz.func49 (b := k49) (by kernel_rfl) (by kernel_rfl)) rfl rfl
theorem pu27 : cfg.pure 27 = false := rfl
instance t27_4 : TightD cfg 27 (some 4) := tgS rfl
instance t27_5 : TightD cfg 27 (some 5) := tgS rfl
instance t27_6 : TightD cfg 27 (some 6) := tgS rfl
instance t27_8 : TightD cfg 27 (some 8) := tgS rfl
instance t27_9 : TightD cfg 27 (some 9) := tgS rfl
instance t27_10 : TightD cfg 27 (some 10) := tgS rfl
instance t27_11 : TightD cfg 27 (some 11) := tgS rfl
instance t27_12 : TightD cfg 27 (some 12) := tgS rfl
instance t27_13 : TightD cfg 27 (some 13) := tgS rfl
instance t27_14 : TightD cfg 27 (some 14) := tgS rfl
instance t27_15 : TightD cfg 27 (some 15) := tgS rfl
instance t27_16 : TightD cfg 27 (some 16) := tgS rfl
instance t27_17 : TightD cfg 27 (some 17) := tgS rfl
instance t27_18 : TightD cfg 27 (some 18) := tgS rfl
instance t27_19 : TightD cfg 27 (some 19) := tgS rfl
instance t27_20 : TightD cfg 27 (some 20) := tgS rfl
instance t27_21 : TightD cfg 27 (some 21) := tgS rfl
instance t27_22 : TightD cfg 27 (some 22) := tgS rfl
instance t27_23 : TightD cfg 27 (some 23) := tgS rfl
instance t27_24 : TightD cfg 27 (some 24) := tgS rfl
instance t27_25 : TightD cfg 27 (some 25) := tgS rfl
instance t27_26 : TightD cfg 27 (some 26) := tgS rfl
instance t27_27 : TightD cfg 27 (some 27) := tgS rfl
instance t27_28 : TightD cfg 27 (some 28) := tgS rfl
instance t27_29 : TightD cfg 27 (some 29) := tgS rfl
instance t27_30 : TightD cfg 27 (some 30) := tgS rfl
instance t27_31 : TightD cfg 27 (some 31) := tgS rfl
instance t27_32 : TightD cfg 27 (some 32) := tgS rfl
instance t27_33 : TightD cfg 27 (some 33) := tgS rfl
instance t27_34 : TightD cfg 27 (some 34) := tgS rfl
instance t27_35 : TightD cfg 27 (some 35) := tgS rfl
instance t27_36 : TightD cfg 27 (some 36) := tgS rfl
instance t27_37 : TightD cfg 27 (some 37) := tgS rfl
instance t27_38 : TightD cfg 27 (some 38) := tgS rfl
instance t27_40 : TightD cfg 27 (some 40) := tgS rfl
instance t27_41 : TightD cfg 27 (some 41) := tgS rfl
instance t27_42 : TightD cfg 27 (some 42) := tgS rfl
instance t27_43 : TightD cfg 27 (some 43) := tgS rfl
instance t27_44 : TightD cfg 27 (some 44) := tgS rfl
instance t27_45 : TightD cfg 27 (some 45) := tgS rfl
instance t27_2000_28 : TightD cfg 27 (some (2000 + 28)) := tgS rfl
instance t27_2000_41 : TightD cfg 27 (some (2000 + 41)) := tgS rfl
instance t27_n : TightD cfg 27 none := tgN
def B27 (p : List Bool) := cA p Tryz.f27.body
def R27 (p : List Bool) (i : Nat) := Code.region i (cA p Tryz.f27.body) false
def D27 (p : List Bool) (i : Nat) := Code.region i (cA p Tryz.f27.body) true
theorem F27 : (∀ p i, XR cfg 27 (R27 p i) (B27 p) (cA p Tryz.f27.body).toList i false) ∧ GO cfg 27 (B27 [tt, ff, ff, tt, tt, ff]) 2 15 ∧ cfg.imm 27 22 = false ∧ XR cfg 27 (D27 [tt, tt, tt, ff, tt, ff, ff, tt, tt, ff, ff, tt] 9) (B27 [tt, tt, tt, ff, tt, ff, ff, tt, tt, ff, ff, tt]) ((cA [tt, tt, tt, ff, tt, ff, ff, tt, tt, ff, ff, tt] Tryz.f27.body).toList) 9 true ∧ cfg.imm 27 36 = true ∧ cfg.imm 27 40 = true ∧ RE cfg 27 [0, 1, 4, 5, 6, 8, 9, 12, 23, 24, 25, 26] ∧ cfg.pure 27 = false := ⟨fun _ _ => xr rfl rfl, gO (by kernel_rfl), by kernel_rfl, xd (by kernel_rfl) rfl rfl, by kernel_rfl, by kernel_rfl, rE fun _ => rfl, rfl⟩
theorem lo27_39 : cfg.loose 27 39 = lo 27 39 := rfl
theorem lb27_9_39_2 (e : Env) (h : Heap) : looseB cfg 27 (B27 [tt, tt, tt, ff, tt, ff, ff, tt, tt, ff, ff, tt]) e h 2 = (((known (e.get 30)).bind fun x => nilA h x).map fun v => AV.eqb v (e.get 31)).getD false := lb_nilCheck rfl
theorem lb27_9_39_3 (e : Env) (h : Heap) : looseB cfg 27 (B27 [tt, tt, tt, ff, tt, ff, ff, tt, tt, ff, ff, tt]) e h 3 = (((known (e.get 31)).bind fun x => fieldAddrA cfg h 108 x 0).map fun v => AV.eqb v (e.get 32)).getD false := lb_fieldAddr rfl
theorem lb27_9_39_4 (e : Env) (h : Heap) : looseB cfg 27 (B27 [tt, tt, tt, ff, tt, ff, ff, tt, tt, ff, ff, tt]) e h 4 = (((known (e.get 32)).bind fun x => loadA cfg h 30 x).map fun v => AV.eqb v (e.get 33)).getD false := lb_load rfl rfl
theorem la27_39 (e : Env) (h : Heap) : looseAll cfg 27 (B27 [tt, tt, tt, ff, tt, ff, ff, tt, tt, ff, ff, tt]) (some 39) e h = (((((known (e.get 30)).bind fun x => nilA h x).map fun v => AV.eqb v (e.get 31)).getD false) && (((((known (e.get 31)).bind fun x => fieldAddrA cfg h 108 x 0).map fun v => AV.eqb v (e.get 32)).getD false) && (((((known (e.get 32)).bind fun x => loadA cfg h 30 x).map fun v => AV.eqb v (e.get 33)).getD false)))) := by simp only [looseAll, lo27_39, lo, List.all_cons, List.all_nil, Bool.and_true, lb27_9_39_2, lb27_9_39_3, lb27_9_39_4]
def l27_0 : Code := (.seq (R27 [tt, tt, tt, ff, tt, ff, ff, ff] 7) (.seq (.cond (.tmp 26) .skip (.exit 1)) (.seq (.block 2 (.seq (R27 [tt, tt, tt, ff, tt, ff, ff, tt, tt, ff, ff, ff] 8) (D27 [tt, tt, tt, ff, tt, ff, ff, tt, tt, ff, ff, tt] 9))) (R27 [tt, tt, tt, ff, tt, ff, ff, tt, tt, tt] 10))))
def k27 : Code := (.seq (R27 [ff] 0) (.seq (.block 0 (.seq (R27 [tt, ff, ff, ff] 1) (.cond (.tmp 9) (.seq (R27 [tt, ff, ff, tt, ff, ff] 2) .ret) (.seq (R27 [tt, ff, ff, tt, tt, ff] 3) (.cond (.tmp 12) (.seq (R27 [tt, ff, ff, tt, tt, tt, ff, ff] 4) .ret) .skip))))) (.seq (R27 [tt, tt, ff] 5) (.seq (.seq (R27 [tt, tt, tt, ff, ff] 6) (.block 1 (.loop l27_0))) (.seq (R27 [tt, tt, tt, tt, ff] 11) .ret)))))
theorem call27 (x0 x1 : AV) (h : Heap) : call cfg 27 [x0, x1] h = (exec cfg 27 k27 [(0, x0), (1, x1)] h).bind (callEnd cfg 27 h [.tmp 4, .tmp 5]) := call_at2 (fnat Tryz.func27 (b := k27) (by kernel_rfl) (by kernel_rfl)) rfl rfl
theorem memNewx_eq (m : SMem) (h : Heap) : call cfg 49 [.agg m.cells] h = some (.ret (.bool (badSize m)), h) := by
  rw [call49]
  unfold badSize
  by_cases c1 : m.size < 1
  · simp only [SMem.cells, F49, k49, Tryz.f49, sxAll, cA, arithA, Env.keep, qt_eq, resultsA, packA, fieldAddrA, loadA, Rv.part, cellsAt, TD.isAgg, ↓Option.bind_some, Nat.reduceBEq, Nat.reduceAdd, ↓reduceIte, ty101, ty3, c1]
    exact leave_kept rfl rfl
  · simp only [SMem.cells, F49, k49, Tryz.f49, sxAll, cA, arithA, Env.keep, qt_eq, resultsA, packA, fieldAddrA, loadA, Rv.part, cellsAt, TD.isAgg, ↓Option.bind_some, Nat.reduceBEq, Nat.reduceAdd, ↓reduceIte, ty101, ty3, c1]
    exact leave_kept rfl rfl
theorem one_msl (o off len z g : Nat) (c : Option Nat) : Rv.one (AV.msl o off len z g c) = AV.msl o off len z g c := rfl
structure CI (H H' : Heap) (ρ : Nat → Role) (oM mp : Nat) (L : Int) (done : List SMem) (cv : AV) (cs : List AV) : Prop where
  mem : H'.obj oM 0 = some [cv, .int .i64 L, .map mp]
  memR : ρ oM = .mem
  held : H'[mp]? = some (.map [])
  heldR : ρ mp = .held
  cArr : Arr H' ρ .cArr cv cs
  cLen : cs.length = done.length
  cell : ∀ (i : Nat) v x, cs[i]? = some v → done[i]? = some x → ∃ o g cap, v = .msl o 0 x.size.toNat 1 g cap ∧ H'.obj o g = some (intL (List.replicate x.size.toNat x.first)) ∧ ρ o = .cell i
  old : ∀ x, x < H.length → H'[x]? = H[x]? ∧ ρ x = .other
  le : H.length ≤ H'.length
  own : H.length ≤ oM
  fresh : ∀ o, H'.length ≤ o → ρ o = .other
theorem flatC_one {xs : List AV} (h : ∀ x ∈ xs, x.cells = [x]) : flatC xs = xs := by
  induction xs with
  | nil => rfl
  | cons x r ih =>
    have := ih (fun y hy => h y (List.mem_cons_of_mem _ hy))
    simp only [flatC, List.map_cons, List.flatten_cons] at this ⊢
    rw [this, h x (List.mem_cons_self ..)]; rfl
theorem Arr.built {H : Heap} {ρ : Nat → Role} {r : Role} {v : AV} {xs : List AV} (A : Arr H ρ r v xs) (h : ∀ x ∈ xs, x.cells = [x]) : Built H v xs 1 := by
  rcases A with ⟨h1, h2⟩ | ⟨o, g, cap, h1, h2, _, h4⟩
  · exact .inl ⟨h1, h2⟩
  · exact .inr ⟨o, g, cap, h1, by rw [flatC_one h]; exact h2, h4⟩
theorem Arr.push {H : Heap} {ρ : Nat → Role} {r : Role} {v y : AV} {xs : List AV} (A : Arr H ρ r v xs) (h : ∀ x ∈ xs, x.cells = [x]) (hy : y.cells = [y]) (hl : y.leaf = true) (hlen : xs.length < 1000000) (fr : ∀ o, H.length ≤ o → ρ o = .other) (hr : r ≠ .other) :
    ∃ v' H' ρ', appendA H 1 v [y] = some (v', H') ∧ Arr H' ρ' r v' (xs ++ [y]) ∧ H.length ≤ H'.length ∧ (∀ x, x < H.length → ρ' x = ρ x) ∧ (∀ x, x < H.length → ρ x ≠ r → H'[x]? = H[x]?) ∧ ∀ o, H'.length ≤ o → ρ' o = .other := by
  have B := A.built h
  obtain ⟨v', H', q1, q2, q3, q4, q5⟩ := append_built (ys := [y]) B (fun x hx => by rw [h x hx]; rfl) (fun z hz => by simp at hz; subst hz; rw [hy]; simp [hl]) (by omega) (by simp [mostLen]; omega)
  have hrole : ∀ o, objOf v = some o → ρ o = r := fun o ho => by
    rcases A with ⟨h1, h2⟩ | ⟨o', g, cap, h1, h2, h3, h4⟩
    · rw [h1] at ho; cases ho
    · rw [h1] at ho; injection ho with ho; subst ho; exact h3
  have hkeep : ∀ x, x < H.length → ρ x ≠ r → H'[x]? = H[x]? := fun x hx hn => q4 x hx fun hc => hn (hrole x hc)
  have hall : ∀ x ∈ xs ++ [y], x.cells = [x] := fun x hx => by
    rcases List.mem_append.1 hx with hx | hx
    · exact h x hx
    · simp at hx; subst hx; exact hy
  have fin : ∀ ρ' : Nat → Role, (∀ o, objOf v' = some o → ρ' o = r) → Arr H' ρ' r v' (xs ++ [y]) := fun ρ' hh => by
    rcases q2 with ⟨_, h2⟩ | ⟨o, g, cap, h1, h2, h3⟩
    · simp at h2
    · exact .inr ⟨o, g, cap, h1, by rw [flatC_one hall] at h2; exact h2, hh o (by rw [h1]; rfl), h3⟩
  rcases q5 with q5 | q5
  · exact ⟨v', H', ρ, q1, fin ρ (fun o ho => hrole o (q5 ▸ ho)), q3, fun _ _ => rfl, hkeep, fun o ho => fr o (by omega)⟩
  · have hlt := built_lt q2 q5
    exact ⟨v', H', upd ρ H.length r, q1, fin _ (fun o ho => by rw [q5] at ho; injection ho with ho; subst ho; exact upd_self _ _ _), q3, fun x hx => upd_ne (by omega), hkeep, fun o ho => by rw [upd_ne (by omega)]; exact fr o (by omega)⟩
theorem cs_one {H H' : Heap} {ρ : Nat → Role} {oM mp : Nat} {L : Int} {done : List SMem} {cv : AV} {cs : List AV} (C : CI H H' ρ oM mp L done cv cs) : ∀ x ∈ cs, x.cells = [x] := fun x hx => by
  obtain ⟨i, hi⟩ := List.mem_iff_getElem?.1 hx
  have hlt := (List.getElem?_eq_some_iff.1 hi).1
  obtain ⟨y, hy⟩ : ∃ y, done[i]? = some y := ⟨_, List.getElem?_eq_getElem (by rw [← C.cLen]; exact hlt)⟩
  obtain ⟨o, g, cap, rfl, _⟩ := C.cell i x y hi hy
  rfl
theorem memNew_loop (l : List SMem) (z : Nat) (r : Room) (hl : l.length < 1000000) (hs : ∀ m ∈ l, 1 ≤ m.size ∧ m.size ≤ 1024) (H : Heap) (oM mp : Nat) (L : Int) : ∀ (ys : List SMem) (i : Nat), l.drop i = ys → i ≤ l.length → ∀ (H' : Heap) (ρ : Nat → Role) (cv : AV) (cs : List AV), CI H H' ρ oM mp L (l.take i) cv cs → ∀ t0 t1 t4 t5 t8 t9 t12 t26,
    Got (exec cfg 27 (.loop l27_0) [(0, t0), (1, t1), (4, t4), (5, t5), (6, .ptr oM 0 0), (8, t8), (9, t9), (12, t12), (23, .lst (memsL l) z r), (24, .int .i64 l.length), (25, .int .i64 i), (26, t26)] H') (fun q => ∃ (H'' : Heap) (ρ' : Nat → Role) (cv' : AV) (cs' : List AV) (t8' t25' t26' : AV), q = (.exit 1, [(0, t0), (1, t1), (4, t4), (5, t5), (6, .ptr oM 0 0), (8, t8'), (9, t9), (12, t12), (23, .lst (memsL l) z r), (24, .int .i64 l.length), (25, t25'), (26, t26')], H'') ∧ CI H H'' ρ' oM mp L l cv' cs') := by
  intro ys
  induction ys with
  | nil =>
    intro i hd hi H' ρ cv cs C t0 t1 t4 t5 t8 t9 t12 t26
    have hle : l.length ≤ i := by simpa using hd
    rw [List.take_of_length_le hle] at C
    rw [got_loop]
    simp only [l27_0, F27, Tryz.f27, sxAll, cA, arithA, Env.keep, ↓Option.bind_some, Nat.reduceBEq, ↓reduceIte, at_end hd]
    exact ⟨_, _, _, _, _, _, _, rfl, C⟩
  | cons y s ih =>
    intro i hd hi H' ρ cv cs C t0 t1 t4 t5 t8 t9 t12 t26
    obtain ⟨hlt, hget, hd'⟩ := at_drop hd
    have hx := memsL_get hget
    have hlt' : i < l.length := by simpa using hlt
    have hw := wrap_succ (i := i) (by omega)
    have hsz := hs y (List.mem_of_getElem? hget)
    obtain ⟨n, hn⟩ : ∃ n : Nat, y.size = n := ⟨y.size.toNat, by omega⟩
    have hnt : y.size.toNat = n := by omega
    have hcl : cs.length = i := by rw [C.cLen]; simp; omega
    have hrep := repeat_eq (H' ++ [.cells y.cells 0]) y.first n (by omega) (by omega)
    rw [List.append_assoc] at hrep
    have hlen2 : (H' ++ [AObj.cells y.cells 0]).length = H'.length + 1 := by simp
    rw [hlen2] at hrep
    simp only [List.cons_append, List.nil_append] at hrep
    have hlen3 : (H' ++ [AObj.cells y.cells 0, .cells (intL (List.replicate n y.first)) 0]).length = H'.length + 2 := by simp
    have hup : ∀ x, x < H'.length → upd ρ (H'.length + 1) (.cell i) x = ρ x := fun x hx => upd_ne (by omega)
    have k1 : ∀ x, x < H'.length → (H' ++ [AObj.cells y.cells 0, .cells (intL (List.replicate n y.first)) 0])[x]? = H'[x]? := fun x hx => List.getElem?_append_left hx
    have A1 : Arr (H' ++ [AObj.cells y.cells 0, .cells (intL (List.replicate n y.first)) 0]) (upd ρ (H'.length + 1) (.cell i)) .cArr cv cs := C.cArr.mono fun x hx hr => ⟨k1 x hx, (hup x hx).trans hr⟩
    obtain ⟨v', H2, ρ2, q1, q2, q3, q4, q5, q6⟩ := A1.push (y := .msl (H'.length + 1) 0 n 1 0 (some n)) (cs_one C) rfl rfl (by omega) (fun x hx => by
      rw [hlen3] at hx
      rw [upd_ne (by omega)]; exact C.fresh x (by omega)) (by simp)
    rw [hlen3] at q3 q4 q5
    have kv := q2.known
    have cv2 := q2.cells
    have lv2 := q2.leaf
    have hoM := obj_some C.mem
    have hmp := (List.getElem?_eq_some_iff.1 C.held).1
    have hρ2 : ∀ x, x < H'.length → ρ2 x = ρ x := fun x hx => (q4 x (by omega)).trans (hup x hx)
    have hk2 : ∀ x, x < H'.length → ρ x ≠ .cArr → H2[x]? = H'[x]? := fun x hx hr => (q5 x (by omega) (by rw [hup x hx]; exact hr)).trans (k1 x hx)
    have hm1 := obj_leftS [AObj.cells y.cells 0, .cells (intL (List.replicate n y.first)) 0] C.mem
    have hm0 := obj_leftS [AObj.cells y.cells 0] C.mem
    have hm2 := obj_of C.mem (hk2 oM hoM (by rw [C.memR]; simp))
    have hlm0 := live_of hm0
    have hlm1 := live_of hm1
    have hlm2 := live_of hm2
    have hst : storeA cfg H2 30 (.ptr oM 0 0) v' = some (H2.set oM (.cells [v', .int .i64 L, .map mp] 0)) := by
      rw [store1 ty30 hm2 (off := 0) (by simp) cv2 lv2]
      rfl
    have hoMn : ∀ x, ρ2 x ≠ .mem → (H2.set oM (.cells [v', .int .i64 L, .map mp] 0))[x]? = H2[x]? := fun x hx => by
      rw [List.getElem?_set_ne]; intro hc; exact hx (hc ▸ (hρ2 oM hoM).trans C.memR)
    have kc := C.cArr.known
    have hix : ∀ h, indexAddrA cfg h 22 (.lst (memsL l) z r) (.int .i64 i) = some (.ref y.cells) := fun h => by
      have hh : ¬ (i : Int) < 0 := by omega
      simp [indexAddrA, ty22, ty101, hh, hx, AV.cells, SMem.cells]
    have hsv : ∀ a b c, storeA cfg (H' ++ [.cells [a, b, c] 0]) 101 (.ptr H'.length 0 0) (.agg y.cells) = some (H' ++ [.cells y.cells 0]) := fun a b c => by
      simp [storeA, ty101, obj_app0, obj_zero, AV.cells, SMem.cells, AV.leaf, setCells]
    have C' : CI H (H2.set oM (.cells [v', .int .i64 L, .map mp] 0)) ρ2 oM mp L (l.take (i + 1)) v' (cs ++ [.msl (H'.length + 1) 0 n 1 0 (some n)]) := {
      mem := obj_sets hm2 0
      memR := (hρ2 oM hoM).trans C.memR
      held := (hoMn mp (by rw [hρ2 mp hmp, C.heldR]; simp)).trans ((hk2 mp hmp (by rw [C.heldR]; simp)).trans C.held)
      heldR := (hρ2 mp hmp).trans C.heldR
      cArr := q2.mono fun x hx hr => ⟨hoMn x (by rw [hr]; simp), hr⟩
      cLen := by simp [hcl]; omega
      cell := fun j v x hv hx => by
        by_cases hj : j < i
        · rw [List.getElem?_append_left (by omega)] at hv
          rw [List.getElem?_take_of_lt (by omega)] at hx
          obtain ⟨o, g, cap, e, ho, hr⟩ := C.cell j v x hv (by rw [List.getElem?_take_of_lt hj]; exact hx)
          have hol := obj_some ho
          exact ⟨o, g, cap, e, obj_of (obj_of ho (hk2 o hol (by rw [hr]; simp))) (hoMn o (by rw [hρ2 o hol, hr]; simp)), (hρ2 o hol).trans hr⟩
        · have hj' : j = i := by
            have := (List.getElem?_eq_some_iff.1 hv).1
            simp at this; omega
          subst hj'
          rw [List.getElem?_append_right (by omega)] at hv
          rw [List.getElem?_take_of_lt (by omega), hget] at hx
          simp only [hcl, Nat.sub_self, List.getElem?_cons_zero] at hv
          injection hv with hv; injection hx with hx; subst hv hx
          have hrr : upd ρ (H'.length + 1) (.cell j) (H'.length + 1) = .cell j := upd_self _ _ _
          have hol : (H' ++ [AObj.cells y.cells 0, .cells (intL (List.replicate n y.first)) 0]).obj (H'.length + 1) 0 = some (intL (List.replicate n y.first)) := by rw [obj_app]; rfl
          have hr2 : ρ2 (H'.length + 1) = .cell j := (q4 _ (by omega)).trans hrr
          exact ⟨_, 0, some n, by rw [hnt], by rw [hnt]; exact obj_of (obj_of hol (q5 _ (by omega) (by rw [hrr]; simp))) (hoMn _ (by rw [hr2]; simp)), hr2⟩
      old := fun x hx => by
        have hxo := C.old x hx
        have hle := C.le
        have hxn : x ≠ oM := by have := C.own; omega
        refine ⟨?_, (hρ2 x (by omega)).trans hxo.2⟩
        rw [List.getElem?_set_ne (Ne.symm hxn)]
        exact (hk2 x (by omega) (by rw [hxo.2]; simp)).trans hxo.1
      le := by simp; have := C.le; omega
      own := C.own
      fresh := fun o ho => q6 o (by simpa using ho) }
    have := ih (i + 1) hd' (by omega) _ ρ2 v' _ C'
    rw [got_loop]
    simp only [l27_0] at this ⊢
    simp only [SMem.cells] at hrep q1 hm0 hm1 hlm0 hlm1
    simp only [SMem.cells, hn] at hix hsv hrep q1 hm0 hm1 hlm0 hlm1
    simp only [F27, Tryz.f27, sxAll, cA, arithA, Env.keep, qt_eq, fieldAddrA, Rv.part, TD.isAgg, fillA, setCells, copies, mapO, ↓Option.bind_some, Nat.reduceBEq, Nat.reduceAdd, Nat.reduceMul, Nat.reduceLeDiff, Nat.reduceGT, bne, ↓reduceIte, load_ptr, load_ref, hlt, hix, hsv, hw, kc, kv, hm0, hlm0, hrep, sx_callf_l, la27_39, nilA_ptr, eqb_self, hm1, hlm1, hlm2, q1, hst, group, elems, one_msl, cells_msl, pu50, ty101, ty108, ty30, ty29, ty2, ty3] at this ⊢
    exact this _ _ _ _ _ _ _ _
theorem memNew_eq (l : List SMem) (z : Nat) (r : Room) (hl : l.length < 1000000) (hs : ∀ m ∈ l, 1 ≤ m.size ∧ m.size ≤ 1024) (L : Nat) (hL : L ≤ 256) (H : Heap) : ∃ (H' : Heap) (ρ : Nat → Role) (cv : AV) (cs : List AV),
    call cfg 27 [.lst (memsL l) z r, .int .i64 L] H = some (.ret (.tup [.ptr (H.length + 1) 0 0, .int .i64 0]), H') ∧ CI H H' ρ (H.length + 1) H.length L l cv cs := by
  have hbad : (l.any badSize) = false := by
    rw [List.any_eq_false]
    intro m hm
    have := hs m hm
    simp [badSize]; omega
  have h3 := containsFMem_eq l SMem.cells badSize 49 [] z r H (by omega) (fun _ _ => rfl) (fun m _ => memNewx_eq m H)
  rw [hbad] at h3
  have C0 : CI H (H ++ [.map [], .cells [.lst [] 0 .nil, .int .i64 L, .map H.length] 0]) (upd (upd (fun _ => .other) (H.length + 1) .mem) H.length .held) (H.length + 1) H.length L (l.take 0) (.lst [] 0 .nil) [] := {
    mem := by rw [obj_app]; rfl
    memR := by rw [upd_ne (by omega)]; exact upd_self _ _ _
    held := by rw [List.getElem?_append_right (by omega)]; simp
    heldR := upd_self _ _ _
    cArr := .inl ⟨rfl, rfl⟩
    cLen := by simp
    cell := fun i v x hv _ => by simp at hv
    old := fun x hx => ⟨List.getElem?_append_left hx, by rw [upd_ne (by omega), upd_ne (by omega)]⟩
    le := by simp
    own := by omega
    fresh := fun o ho => by
      simp at ho
      rw [upd_ne (by omega), upd_ne (by omega)] }
  obtain ⟨⟨o, e', H'⟩, hx, H'', ρ', cv', cs', t8', t25', t26', hq, C⟩ := memNew_loop l z r hl hs H (H.length + 1) H.length L l 0 (by simp) (by omega) _ _ _ _ C0 (.lst (memsL l) z r) (.int .i64 L) .nilPtr (.int .i64 0) .junk (.bool false) (.bool false) .junk
  simp only [Prod.mk.injEq] at hq
  obtain ⟨rfl, rfl, rfl⟩ := hq
  refine ⟨H', ρ', cv', cs', ?_, C⟩
  have c1 : ((L : Int) > 256) = False := by simp; omega
  simp only [Int.natCast_zero] at hx
  have h3' : call cfg 44 [.lst (memsL l) z r, .clo 49 []] H = some (.ret (.bool false), H) := h3
  rw [call27]
  simp only [F27, k27, Tryz.f27, sxAll, cA, arithA, Env.keep, qt_eq, resultsA, packA, buildA, fillA, setCells, lenA, mapO, ↓Option.bind_some, Nat.reduceBEq, Nat.reduceAdd, Nat.reduceLeDiff, ↓reduceIte, h3', pu44, c1, memsL_len, hx, known_map, cells_map, ty106, ty108, ty22, ty3]
  exact leave_impure pu27
end
end Go.Proofs.Sx
namespace Go.Rv
noncomputable section
section
variable {s : Sim} {h : Heap} {w : World}
end
section
variable {s : Sim} {h : Heap} {w : World} {S : List Nat}
end
end
end Go.Rv
namespace Go.Rv
noncomputable section
def immB : Nat → AV → Bool
  | 0, _ => false
  | d + 1, v =>
    match v with
    | .ptr _ _ _ => false
    | .msl _ _ _ _ _ _ => false
    | .map _ => false
    | .yld _ => false
    | .ref cs => cs.all (immB d)
    | .agg cs => cs.all (immB d)
    | .tup cs => cs.all (immB d)
    | .clo _ cs => cs.all (immB d)
    | .bnd _ cs => cs.all (immB d)
    | .lst xs _ _ => xs.all (immB d)
    | .iface _ v => immB d v
    | _ => true
theorem mapO_id {α : Type} {f : α → Option α} : ∀ {l : List α}, (∀ x ∈ l, f x = some x) → mapO f l = some l
  | [], _ => rfl
  | x :: r, H => by
    rw [mapO_cons, H x (List.mem_cons_self ..), mapO_id fun y hy => H y (List.mem_cons_of_mem _ hy)]
    rfl
theorem imm_freeze (h : Heap) (n : Nat) : ∀ (d : Nat) (v : AV), immB d v = true → ∀ d', d ≤ d' → freezeV h n d' v = some v
  | 0, v, hv, _, _ => by simp [immB] at hv
  | d + 1, v, hv, d', hd => by
    obtain ⟨e, rfl⟩ : ∃ e, d' = e + 1 := ⟨d' - 1, by omega⟩
    have many : ∀ {cs : List AV}, cs.all (immB d) = true → mapO (freezeV h n e) cs = some cs := fun hc => mapO_id fun x hx => imm_freeze h n d x (List.all_eq_true.1 hc x hx) e (by omega)
    cases v <;> simp only [immB, Bool.false_eq_true] at hv <;> simp only [freezeV] <;> first | (rw [many hv]; rfl) | (rw [imm_freeze h n d _ hv e (by omega)]; rfl) | rfl
theorem mapO_app {α β : Type} {f : α → Option β} : ∀ {a b : List α} {a' b' : List β}, mapO f a = some a' → mapO f b = some b' → mapO f (a ++ b) = some (a' ++ b')
  | [], b, a', b', h1, h2 => by
    simp only [mapO, Option.some.injEq] at h1
    subst h1
    exact h2
  | x :: r, b, a', b', h1, h2 => by
    rw [mapO_cons] at h1
    obtain ⟨y, hy, h1⟩ := Option.bind_eq_some_iff.1 h1
    obtain ⟨ys, hys, h1⟩ := Option.bind_eq_some_iff.1 h1
    simp only [Option.some.injEq] at h1
    subst h1
    rw [List.cons_append, mapO_cons, hy, Option.bind_some, mapO_app hys h2]
    rfl
theorem flatC_cons (x : AV) (r : List AV) : flatC (x :: r) = x.cells ++ flatC r := by simp [flatC]
theorem flatC_at {xs : List AV} {k : Nat} {x : AV} (hk : xs[k]? = some x) : flatC xs = flatC (xs.take k) ++ (x.cells ++ flatC (xs.drop (k + 1))) := by
  have hlt := (List.getElem?_eq_some_iff.1 hk).1
  have hx : xs[k] = x := (List.getElem?_eq_some_iff.1 hk).2
  conv => lhs; rw [← List.take_append_drop k xs]
  rw [flatC_append, List.drop_eq_getElem_cons hlt, flatC_cons, hx]
theorem flatC_put {xs : List AV} {k : Nat} {x : AV} (hk : xs[k]? = some x) (y : AV) : flatC (xs.set k y) = flatC (xs.take k) ++ (y.cells ++ flatC (xs.drop (k + 1))) := by
  have hlt := (List.getElem?_eq_some_iff.1 hk).1
  have h1 : (xs.set k y)[k]? = some y := List.getElem?_set_self hlt
  rw [flatC_at h1, List.take_set_of_le (Nat.le_refl _), List.drop_set_of_lt (by omega)]
theorem flatC_take {xs : List AV} {k z : Nat} {x : AV} (hk : xs[k]? = some x) (H : ∀ x ∈ xs, x.cells.length = z) : (flatC (xs.take k)).length = k * z := by
  have hlt := (List.getElem?_eq_some_iff.1 hk).1
  rw [flatC_len (sz := z) (fun x hx => H x (List.mem_of_mem_take hx)), List.length_take, Nat.min_eq_left (by omega)]
theorem flat_set {xs : List AV} {k z j : Nat} {cs : List AV} (hk : xs[k]? = some (.agg cs)) (H : ∀ x ∈ xs, x.cells.length = z) (hj : j < cs.length) (v : AV) : (flatC xs).set (k * z + j) v = flatC (xs.set k (.agg (cs.set j v))) := by
  rw [flatC_at hk, flatC_put hk, ← flatC_take hk H, List.set_append, if_neg (by omega), Nat.add_sub_cancel_left]
  congr 1
  show (cs ++ _).set j v = cs.set j v ++ _
  rw [List.set_append, if_pos hj]
theorem flat_drop {xs : List AV} {k z j : Nat} {cs : List AV} (hk : xs[k]? = some (.agg cs)) (H : ∀ x ∈ xs, x.cells.length = z) (hj : j < cs.length) : ((flatC xs).drop (k * z + j)).head? = cs[j]? := by
  rw [flatC_at hk, ← flatC_take hk H, List.head?_drop, List.getElem?_append_right (by omega), Nat.add_sub_cancel_left]
  show (cs ++ _)[j]? = _
  rw [List.getElem?_append_left hj]
theorem group_flatC {z : Nat} (hz : z ≠ 1) : ∀ {xs : List AV}, (∀ x ∈ xs, ∃ cs, x = .agg cs ∧ cs.length = z) → group xs.length (flatC xs) z = xs
  | [], _ => rfl
  | x :: r, H => by
    obtain ⟨cs, rfl, hl⟩ := H x (List.mem_cons_self ..)
    have hz' : (z == 1) = false := by simp [hz]
    rw [List.length_cons, group, flatC_cons, hz']
    simp only [AV.cells, Bool.false_eq_true, if_false]
    rw [← hl, List.take_left, List.drop_left, hl, group_flatC hz fun y hy => H y (List.mem_cons_of_mem _ hy)]
end
end Go.Rv
namespace Go.Proofs.Sx
open Go.Rv Go.Proofs
attribute [local congr] bind_left got_left
noncomputable section
theorem room_nil (r : Room) (h : r ≠ .nil) : (r == Room.nil) = false := by
  cases r <;> first | exact absurd rfl h | rfl
theorem append_none (h : Heap) {sz : Nat} (hz : 0 < sz) {xs : List AV} (hx : ∀ x ∈ xs, x.cells.length = sz ∧ x.cells.all AV.leaf = true) (hl : xs.length < 1000000000) :
    ∃ v X o cap, appendA (h ++ [.cells [] 0]) sz (.msl h.length 0 0 sz 0 (some 0)) xs = some (v, h ++ X) ∧ v = .msl o 0 xs.length sz 0 cap ∧ h.length ≤ o ∧ (h ++ X).obj o 0 = some (flatC xs) ∧ (cap = none ∨ cap = some xs.length) := by
  cases xs with
  | nil =>
    have h0 : (sz == 0) = false := by simp; omega
    exact ⟨.msl h.length 0 0 sz 0 (some 0), [.cells [] 0], h.length, some 0, by simp [appendA, h0, Heap.obj], rfl, Nat.le_refl _, by simp [Heap.obj, flatC], .inr rfl⟩
  | cons x r =>
    refine ⟨.msl (h.length + 1) 0 (x :: r).length sz 0 none, [.cells [] 0, .cells (flatC (x :: r)) 0], h.length + 1, none, ?_, rfl, by omega, by rw [obj_app]; rfl, .inl rfl⟩
    have hfl := flatC_len (fun y hm => (hx y hm).1)
    have hall : (flatC (x :: r)).all AV.leaf = true := by
      rw [List.all_eq_true]
      intro c hc
      simp only [flatC, List.mem_flatten, List.mem_map] at hc
      obtain ⟨l, ⟨y, hm, rfl⟩, hc⟩ := hc
      exact List.all_eq_true.1 (hx y hm).2 c hc
    have h0 : (sz == 0) = false := by simp; omega
    have hob : Heap.obj (h ++ [AObj.cells [] 0]) h.length 0 = some [] := by rw [obj_app0, obj_zero]
    have hn : (decide (0 + 0 * sz + (flatC (x :: r)).length ≤ ([] : List AV).length) && capOk (some 0) (0 + (x :: r).length)) = false := by
      simp [capOk]
    have e2 : (0 + 0 * sz == ([] : List AV).length && (0 : Nat) == 0 && decide (0 + (x :: r).length ≤ mostLen)) = true := by
      have : (x :: r).length ≤ mostLen := by simp only [mostLen]; omega
      simp at this ⊢; exact this
    unfold appendA
    simp only
    rw [show ((x :: r).map AV.cells).flatten = flatC (x :: r) from rfl]
    have hfl' : ((flatC (x :: r)).length != (x :: r).length * sz) = false := by simp [hfl]
    have hne : (x :: r).isEmpty = false := rfl
    simp only [hfl', hall, h0, hob, hne, hn, Option.bind_eq_bind, Option.bind_some, Bool.not_true, Bool.or_false, Bool.false_eq_true, if_false, bne_self_eq_false, if_true, growA, beq_self_eq_true, List.nil_append]
    simp
    simp only [List.length_cons] at hl
    simp only [mostLen]
    omega
theorem cloneS_lst (xs : List AV) (z : Nat) (r : Room) (h : Heap) (hnil : r = .nil → xs = []) (hx : ∀ x ∈ xs, x.cells.length = 1 ∧ x.cells.all AV.leaf = true) (hl : xs.length < 1000000000) :
    ∃ v X, call cfg 52 [.lst xs z r] h = some (.ret v, h ++ X) ∧ ((r = .nil ∧ v = .lst [] 0 .nil ∧ xs = [] ∧ X = []) ∨ r ≠ .nil ∧ ∃ o cap, v = .msl o 0 xs.length 1 0 cap ∧ h.length ≤ o ∧ (h ++ X).obj o 0 = some (flatC xs)) := by
  rw [call52]
  by_cases hr : r = .nil
  · subst hr
    refine ⟨.lst [] 0 .nil, [], ?_, .inl ⟨rfl, rfl, hnil rfl, rfl⟩⟩
    rw [List.append_nil]
    simp only [F52, k52, Tryz.f52, sxAll, cA, Env.keep, resultsA, packA, ↓Option.bind_some, Nat.reduceBEq, ↓reduceIte, ty23, binA, eqC, eqA]
    exact leave_impure pu52
  · obtain ⟨v, X, o, cap, q1, q2, q3, q4, _⟩ := append_none h (sz := 1) (by omega) hx hl
    refine ⟨v, X, ?_, .inr ⟨hr, o, cap, q2, q3, q4⟩⟩
    have kv : known v = some v := by rw [q2]; rfl
    simp only [F52, k52, Tryz.f52, sxAll, cA, Env.keep, resultsA, packA, fillA, copies, ↓Option.bind_some, Nat.reduceBEq, Nat.reduceAdd, Nat.reduceGT, bne, ↓reduceIte, ty23, ty9, binA, eqC, eqA, room_nil r hr, elems, Nat.zero_mul, q1, kv]
    exact leave_impure pu52
theorem pu53 : cfg.pure 53 = false := rfl
instance t53 {d : Option Nat} : TightD cfg 53 d := ⟨fun _ _ => rfl⟩
def B53 (p : List Bool) := cA p Tryz.f53.body
def R53 (p : List Bool) (i : Nat) := Code.region i (cA p Tryz.f53.body) false
theorem F53 : (∀ p i, XR cfg 53 (R53 p i) (B53 p) (cA p Tryz.f53.body).toList i false) ∧ cfg.imm 53 5 = false ∧ RE cfg 53 [0, 2, 4] ∧ cfg.pure 53 = false := ⟨fun _ _ => xr rfl rfl, by kernel_rfl, rE fun _ => rfl, rfl⟩
def k53 : Code := (.seq (R53 [ff] 0) (.seq (.seq (R53 [tt, ff, ff] 1) (.cond (.tmp 4) (.seq (R53 [tt, ff, tt, ff, ff] 2) .ret) .skip)) (.seq (R53 [tt, tt, ff] 3) .ret)))
theorem call53 (x0 : AV) (h : Heap) : call cfg 53 [x0] h = (exec cfg 53 k53 [(0, x0)] h).bind (callEnd cfg 53 h [.tmp 2]) := call_at2 (fnat Tryz.func53 (b := k53) (by kernel_rfl) (by kernel_rfl)) rfl rfl
theorem cloneFun_lst (xs : List AV) (z : Nat) (r : Room) (h : Heap) (hnil : r = .nil → xs = []) (hx : ∀ x ∈ xs, x.cells.length = 5 ∧ x.cells.all AV.leaf = true) (hl : xs.length < 1000000000) :
    ∃ v X, call cfg 53 [.lst xs z r] h = some (.ret v, h ++ X) ∧ ((r = .nil ∧ v = .lst [] 0 .nil ∧ xs = [] ∧ X = []) ∨ r ≠ .nil ∧ ∃ o cap, v = .msl o 0 xs.length 5 0 cap ∧ h.length ≤ o ∧ (h ++ X).obj o 0 = some (flatC xs)) := by
  rw [call53]
  by_cases hr : r = .nil
  · subst hr
    refine ⟨.lst [] 0 .nil, [], ?_, .inl ⟨rfl, rfl, hnil rfl, rfl⟩⟩
    rw [List.append_nil]
    simp only [F53, k53, Tryz.f53, sxAll, cA, Env.keep, resultsA, packA, ↓Option.bind_some, Nat.reduceBEq, ↓reduceIte, ty24, binA, eqC, eqA]
    exact leave_impure pu53
  · obtain ⟨v, X, o, cap, q1, q2, q3, q4, _⟩ := append_none h (sz := 5) (by omega) hx hl
    refine ⟨v, X, ?_, .inr ⟨hr, o, cap, q2, q3, q4⟩⟩
    have kv : known v = some v := by rw [q2]; rfl
    simp only [F53, k53, Tryz.f53, sxAll, cA, Env.keep, resultsA, packA, fillA, copies, ↓Option.bind_some, Nat.reduceBEq, Nat.reduceAdd, Nat.reduceGT, bne, ↓reduceIte, ty24, ty47, binA, eqC, eqA, room_nil r hr, elems, Nat.zero_mul, q1, kv]
    exact leave_impure pu53
theorem pu54 : cfg.pure 54 = false := rfl
instance t54 {d : Option Nat} : TightD cfg 54 d := ⟨fun _ _ => rfl⟩
def B54 (p : List Bool) := cA p Tryz.f54.body
def R54 (p : List Bool) (i : Nat) := Code.region i (cA p Tryz.f54.body) false
theorem F54 : (∀ p i, XR cfg 54 (R54 p i) (B54 p) (cA p Tryz.f54.body).toList i false) ∧ cfg.imm 54 5 = false ∧ RE cfg 54 [0, 2, 4] ∧ cfg.pure 54 = false := ⟨fun _ _ => xr rfl rfl, by kernel_rfl, rE fun _ => rfl, rfl⟩
def k54 : Code := (.seq (R54 [ff] 0) (.seq (.seq (R54 [tt, ff, ff] 1) (.cond (.tmp 4) (.seq (R54 [tt, ff, tt, ff, ff] 2) .ret) .skip)) (.seq (R54 [tt, tt, ff] 3) .ret)))
theorem call54 (x0 : AV) (h : Heap) : call cfg 54 [x0] h = (exec cfg 54 k54 [(0, x0)] h).bind (callEnd cfg 54 h [.tmp 2]) := call_at2 (fnat Tryz.func54 (b := k54) (by kernel_rfl) (by kernel_rfl)) rfl rfl
theorem cloneIns_lst (xs : List AV) (z : Nat) (r : Room) (h : Heap) (hnil : r = .nil → xs = []) (hx : ∀ x ∈ xs, x.cells.length = 6 ∧ x.cells.all AV.leaf = true) (hl : xs.length < 1000000000) :
    ∃ v X, call cfg 54 [.lst xs z r] h = some (.ret v, h ++ X) ∧ ((r = .nil ∧ v = .lst [] 0 .nil ∧ xs = [] ∧ X = []) ∨ r ≠ .nil ∧ ∃ o cap, v = .msl o 0 xs.length 6 0 cap ∧ h.length ≤ o ∧ (h ++ X).obj o 0 = some (flatC xs)) := by
  rw [call54]
  by_cases hr : r = .nil
  · subst hr
    refine ⟨.lst [] 0 .nil, [], ?_, .inl ⟨rfl, rfl, hnil rfl, rfl⟩⟩
    rw [List.append_nil]
    simp only [F54, k54, Tryz.f54, sxAll, cA, Env.keep, resultsA, packA, ↓Option.bind_some, Nat.reduceBEq, ↓reduceIte, ty45, binA, eqC, eqA]
    exact leave_impure pu54
  · obtain ⟨v, X, o, cap, q1, q2, q3, q4, _⟩ := append_none h (sz := 6) (by omega) hx hl
    refine ⟨v, X, ?_, .inr ⟨hr, o, cap, q2, q3, q4⟩⟩
    have kv : known v = some v := by rw [q2]; rfl
    simp only [F54, k54, Tryz.f54, sxAll, cA, Env.keep, resultsA, packA, fillA, copies, ↓Option.bind_some, Nat.reduceBEq, Nat.reduceAdd, Nat.reduceGT, bne, ↓reduceIte, ty45, ty49, binA, eqC, eqA, room_nil r hr, elems, Nat.zero_mul, q1, kv]
    exact leave_impure pu54
def ownR (r : Room) : Room := if r = .nil then .nil else .open
def ownZ (r : Room) (z : Nat) : Nat := if r = .nil then 0 else z
theorem pu51 : cfg.pure 51 = true := rfl
instance t51 {d : Option Nat} : TightD cfg 51 d := ⟨fun _ _ => rfl⟩
def B51 (p : List Bool) := cA p Tryz.f51.body
def R51 (p : List Bool) (i : Nat) := Code.region i (cA p Tryz.f51.body) false
theorem F51 : (∀ p i, XR cfg 51 (R51 p i) (B51 p) (cA p Tryz.f51.body).toList i false) ∧ cfg.imm 51 5 = false ∧ RE cfg 51 [0, 2, 4] ∧ cfg.pure 51 = true := ⟨fun _ _ => xr rfl rfl, by kernel_rfl, rE fun _ => rfl, rfl⟩
def k51 : Code := (.seq (R51 [ff] 0) (.seq (.seq (R51 [tt, ff, ff] 1) (.cond (.tmp 4) (.seq (R51 [tt, ff, tt, ff, ff] 2) .ret) .skip)) (.seq (R51 [tt, tt, ff] 3) .ret)))
theorem call51 (x0 : AV) (h : Heap) : call cfg 51 [x0] h = (exec cfg 51 k51 [(0, x0)] h).bind (callEnd cfg 51 h [.tmp 2]) := call_at2 (fnat Tryz.func51 (b := k51) (by kernel_rfl) (by kernel_rfl)) rfl rfl
theorem cloneMem_lst (xs : List AV) (z : Nat) (r : Room) (h : Heap) (hnil : r = .nil → xs = []) (hx : ∀ x ∈ xs, x.cells.length = 3 ∧ x.cells.all AV.leaf = true) (hl : xs.length < 1000000000)
    (hd : (flatC xs).all AV.dead = true) (hg : group xs.length (flatC xs) 3 = xs) :
    call cfg 51 [.lst xs z r] h = some (.ret (.lst xs (ownZ r 3) (ownR r)), h) := by
  rw [call51]
  by_cases hr : r = .nil
  · subst hr
    rw [hnil rfl]
    simp only [F51, k51, Tryz.f51, sxAll, cA, Env.keep, resultsA, packA, ↓Option.bind_some, Nat.reduceBEq, ↓reduceIte, ty22, binA, eqC, eqA, ownR, ownZ]
    exact leave_kept rfl rfl
  · obtain ⟨v, X, o, cap, q1, q2, q3, q4, _⟩ := append_none h (sz := 3) (by omega) hx hl
    have kv : known v = some v := by rw [q2]; rfl
    have hfl := flatC_len (fun y hm => (hx y hm).1)
    simp only [F51, k51, Tryz.f51, sxAll, cA, Env.keep, resultsA, packA, fillA, copies, ↓Option.bind_some, Nat.reduceBEq, Nat.reduceAdd, Nat.reduceGT, bne, ↓reduceIte, ty22, ty101, binA, eqC, eqA, room_nil r hr, elems, Nat.zero_mul, q1, kv, ownR, ownZ, if_neg hr]
    refine leave_pure rfl (by simp) ?_
    rw [q2]
    unfold freezeV
    simp only
    rw [if_neg (by omega), q4]
    simp only [Option.bind_eq_bind, Option.bind_some, Nat.zero_add, hfl, Nat.le_refl, if_true, List.drop_zero]
    rw [List.take_of_length_le (by omega), freeze_deads _ _ 38 hd]
    simp only [Option.bind_some, hg]
theorem pu36 : cfg.pure 36 = true := rfl
instance t36 {d : Option Nat} : TightD cfg 36 d := ⟨fun _ _ => rfl⟩
def B36 (p : List Bool) := cA p Tryz.f36.body
def R36 (p : List Bool) (i : Nat) := Code.region i (cA p Tryz.f36.body) false
theorem F36 : (∀ p i, XR cfg 36 (R36 p i) (B36 p) (cA p Tryz.f36.body).toList i false) ∧ cfg.imm 36 5 = false ∧ RE cfg 36 [0, 2, 4] ∧ cfg.pure 36 = true := ⟨fun _ _ => xr rfl rfl, by kernel_rfl, rE fun _ => rfl, rfl⟩
def k36 : Code := (.seq (R36 [ff] 0) (.seq (.seq (R36 [tt, ff, ff] 1) (.cond (.tmp 4) (.seq (R36 [tt, ff, tt, ff, ff] 2) .ret) .skip)) (.seq (R36 [tt, tt, ff] 3) .ret)))
theorem call36 (x0 : AV) (h : Heap) : call cfg 36 [x0] h = (exec cfg 36 k36 [(0, x0)] h).bind (callEnd cfg 36 h [.tmp 2]) := call_at2 (fnat Tryz.func36 (b := k36) (by kernel_rfl) (by kernel_rfl)) rfl rfl
theorem cloneI_lst (xs : List AV) (z : Nat) (r : Room) (h : Heap) (hnil : r = .nil → xs = []) (hx : ∀ x ∈ xs, x.cells.length = 1 ∧ x.cells.all AV.leaf = true) (hl : xs.length < 1000000000)
    (hd : (flatC xs).all AV.dead = true) (hg : group xs.length (flatC xs) 1 = xs) :
    call cfg 36 [.lst xs z r] h = some (.ret (.lst xs (ownZ r 1) (ownR r)), h) := by
  rw [call36]
  by_cases hr : r = .nil
  · subst hr
    rw [hnil rfl]
    simp only [F36, k36, Tryz.f36, sxAll, cA, Env.keep, resultsA, packA, ↓Option.bind_some, Nat.reduceBEq, ↓reduceIte, ty31, binA, eqC, eqA, ownR, ownZ]
    exact leave_kept rfl rfl
  · obtain ⟨v, X, o, cap, q1, q2, q3, q4, _⟩ := append_none h (sz := 1) (by omega) hx hl
    have kv : known v = some v := by rw [q2]; rfl
    have hfl := flatC_len (fun y hm => (hx y hm).1)
    simp only [F36, k36, Tryz.f36, sxAll, cA, Env.keep, resultsA, packA, fillA, copies, ↓Option.bind_some, Nat.reduceBEq, Nat.reduceAdd, Nat.reduceGT, bne, ↓reduceIte, ty31, ty3, binA, eqC, eqA, room_nil r hr, elems, Nat.zero_mul, q1, kv, ownR, ownZ, if_neg hr]
    refine leave_pure rfl (by simp) ?_
    rw [q2]
    unfold freezeV
    simp only
    rw [if_neg (by omega), q4]
    simp only [Option.bind_eq_bind, Option.bind_some, Nat.zero_add, hfl, Nat.le_refl, if_true, List.drop_zero]
    rw [List.take_of_length_le (by omega), freeze_deads _ _ 38 hd]
    simp only [Option.bind_some, hg]
end
end Go.Proofs.Sx
namespace Go.Proofs.Sx
open Go.Rv Go.Proofs
attribute [local congr] bind_left got_left
noncomputable section
theorem pu28 : cfg.pure 28 = true := rfl
instance t28_1 : TightD cfg 28 (some 1) := tgS rfl
instance t28_2 : TightD cfg 28 (some 2) := tgS rfl
instance t28_3 : TightD cfg 28 (some 3) := tgS rfl
instance t28_4 : TightD cfg 28 (some 4) := tgS rfl
instance t28_5 : TightD cfg 28 (some 5) := tgS rfl
instance t28_6 : TightD cfg 28 (some 6) := tgS rfl
instance t28_7 : TightD cfg 28 (some 7) := tgS rfl
instance t28_8 : TightD cfg 28 (some 8) := tgS rfl
instance t28_9 : TightD cfg 28 (some 9) := tgS rfl
instance t28_10 : TightD cfg 28 (some 10) := tgS rfl
instance t28_12 : TightD cfg 28 (some 12) := tgS rfl
instance t28_13 : TightD cfg 28 (some 13) := tgS rfl
instance t28_15 : TightD cfg 28 (some 15) := tgS rfl
instance t28_16 : TightD cfg 28 (some 16) := tgS rfl
instance t28_17 : TightD cfg 28 (some 17) := tgS rfl
instance t28_18 : TightD cfg 28 (some 18) := tgS rfl
instance t28_19 : TightD cfg 28 (some 19) := tgS rfl
instance t28_20 : TightD cfg 28 (some 20) := tgS rfl
instance t28_21 : TightD cfg 28 (some 21) := tgS rfl
instance t28_22 : TightD cfg 28 (some 22) := tgS rfl
instance t28_23 : TightD cfg 28 (some 23) := tgS rfl
instance t28_24 : TightD cfg 28 (some 24) := tgS rfl
instance t28_25 : TightD cfg 28 (some 25) := tgS rfl
instance t28_26 : TightD cfg 28 (some 26) := tgS rfl
instance t28_27 : TightD cfg 28 (some 27) := tgS rfl
instance t28_28 : TightD cfg 28 (some 28) := tgS rfl
instance t28_29 : TightD cfg 28 (some 29) := tgS rfl
instance t28_30 : TightD cfg 28 (some 30) := tgS rfl
instance t28_31 : TightD cfg 28 (some 31) := tgS rfl
instance t28_32 : TightD cfg 28 (some 32) := tgS rfl
instance t28_34 : TightD cfg 28 (some 34) := tgS rfl
instance t28_35 : TightD cfg 28 (some 35) := tgS rfl
instance t28_36 : TightD cfg 28 (some 36) := tgS rfl
instance t28_37 : TightD cfg 28 (some 37) := tgS rfl
instance t28_38 : TightD cfg 28 (some 38) := tgS rfl
instance t28_39 : TightD cfg 28 (some 39) := tgS rfl
instance t28_40 : TightD cfg 28 (some 40) := tgS rfl
instance t28_41 : TightD cfg 28 (some 41) := tgS rfl
instance t28_42 : TightD cfg 28 (some 42) := tgS rfl
instance t28_43 : TightD cfg 28 (some 43) := tgS rfl
instance t28_44 : TightD cfg 28 (some 44) := tgS rfl
instance t28_45 : TightD cfg 28 (some 45) := tgS rfl
instance t28_46 : TightD cfg 28 (some 46) := tgS rfl
instance t28_47 : TightD cfg 28 (some 47) := tgS rfl
instance t28_48 : TightD cfg 28 (some 48) := tgS rfl
instance t28_49 : TightD cfg 28 (some 49) := tgS rfl
instance t28_50 : TightD cfg 28 (some 50) := tgS rfl
instance t28_51 : TightD cfg 28 (some 51) := tgS rfl
instance t28_52 : TightD cfg 28 (some 52) := tgS rfl
instance t28_53 : TightD cfg 28 (some 53) := tgS rfl
instance t28_54 : TightD cfg 28 (some 54) := tgS rfl
instance t28_55 : TightD cfg 28 (some 55) := tgS rfl
instance t28_56 : TightD cfg 28 (some 56) := tgS rfl
instance t28_57 : TightD cfg 28 (some 57) := tgS rfl
instance t28_58 : TightD cfg 28 (some 58) := tgS rfl
instance t28_59 : TightD cfg 28 (some 59) := tgS rfl
instance t28_60 : TightD cfg 28 (some 60) := tgS rfl
instance t28_61 : TightD cfg 28 (some 61) := tgS rfl
instance t28_62 : TightD cfg 28 (some 62) := tgS rfl
instance t28_2000_11 : TightD cfg 28 (some (2000 + 11)) := tgS rfl
instance t28_2000_14 : TightD cfg 28 (some (2000 + 14)) := tgS rfl
instance t28_2000_33 : TightD cfg 28 (some (2000 + 33)) := tgS rfl
instance t28_2000_47 : TightD cfg 28 (some (2000 + 47)) := tgS rfl
instance t28_2000_57 : TightD cfg 28 (some (2000 + 57)) := tgS rfl
instance t28_2000_62 : TightD cfg 28 (some (2000 + 62)) := tgS rfl
instance t28_2000_8 : TightD cfg 28 (some (2000 + 8)) := tgS rfl
instance t28_n : TightD cfg 28 none := tgN
def B28 (p : List Bool) := cA p Tryz.f28.body
def R28 (p : List Bool) (i : Nat) := Code.region i (cA p Tryz.f28.body) false
def D28 (p : List Bool) (i : Nat) := Code.region i (cA p Tryz.f28.body) true
theorem F28 : (∀ p i, XR cfg 28 (R28 p i) (B28 p) (cA p Tryz.f28.body).toList i false) ∧ cfg.imm 28 1 = false ∧ XR cfg 28 (D28 [tt, ff] 1) (B28 [tt, ff]) (pickL (cA [tt, ff] Tryz.f28.body).toList [0, 1, 3, 4, 6, 7, 2, 9, 5, 8, 10, 11, 12, 13, 14]) 1 true ∧ XR cfg 28 (D28 [tt, tt, ff, tt, ff, ff, tt, tt, ff, ff, tt, ff] 5) (B28 [tt, tt, ff, tt, ff, ff, tt, tt, ff, ff, tt, ff]) ((cA [tt, tt, ff, tt, ff, ff, tt, tt, ff, ff, tt, ff] Tryz.f28.body).toList) 5 true ∧ XR cfg 28 (D28 [tt, tt, ff, tt, ff, ff, tt, tt, ff, ff, tt, tt, tt, ff, ff, tt, tt, ff, ff, tt] 9) (B28 [tt, tt, ff, tt, ff, ff, tt, tt, ff, ff, tt, tt, tt, ff, ff, tt, tt, ff, ff, tt]) ((cA [tt, tt, ff, tt, ff, ff, tt, tt, ff, ff, tt, tt, tt, ff, ff, tt, tt, ff, ff, tt] Tryz.f28.body).toList) 9 true ∧ RE cfg 28 [0, 1, 2, 3, 4, 5, 20, 21, 22, 41, 42, 43, 44] ∧ cfg.pure 28 = true := ⟨fun _ _ => xr rfl rfl, by kernel_rfl, xd (by kernel_rfl) rfl rfl, xd (by kernel_rfl) rfl rfl, xd (by kernel_rfl) rfl rfl, rE fun _ => rfl, rfl⟩
theorem lo28_11 : cfg.loose 28 11 = lo 28 11 := rfl
theorem lo28_14 : cfg.loose 28 14 = lo 28 14 := rfl
theorem lo28_33 : cfg.loose 28 33 = lo 28 33 := rfl
theorem lb28_1_11_6 (e : Env) (h : Heap) : looseB cfg 28 (B28 [tt, ff]) e h 6 = (((known (e.get 1)).bind fun x => fieldAddrA cfg h 26 x 2).map fun v => AV.eqb v (e.get 12)).getD false := lb_fieldAddr rfl
theorem lb28_1_11_7 (e : Env) (h : Heap) : looseB cfg 28 (B28 [tt, ff]) e h 7 = (((known (e.get 12)).bind fun x => loadA cfg h 24 x).map fun v => AV.eqb v (e.get 13)).getD false := lb_load rfl rfl
theorem lb28_1_11_9 (e : Env) (h : Heap) : looseB cfg 28 (B28 [tt, ff]) e h 9 = (((known (e.get 1)).bind fun x => fieldAddrA cfg h 26 x 0).map fun v => AV.eqb v (e.get 15)).getD false := lb_fieldAddr rfl
theorem la28_11 (e : Env) (h : Heap) : looseAll cfg 28 (B28 [tt, ff]) (some 11) e h = (((((known (e.get 1)).bind fun x => fieldAddrA cfg h 26 x 2).map fun v => AV.eqb v (e.get 12)).getD false) && (((((known (e.get 12)).bind fun x => loadA cfg h 24 x).map fun v => AV.eqb v (e.get 13)).getD false) && (((((known (e.get 1)).bind fun x => fieldAddrA cfg h 26 x 0).map fun v => AV.eqb v (e.get 15)).getD false)))) := by simp only [looseAll, lo28_11, lo, List.all_cons, List.all_nil, Bool.and_true, lb28_1_11_6, lb28_1_11_7, lb28_1_11_9]
theorem lb28_1_14_9 (e : Env) (h : Heap) : looseB cfg 28 (B28 [tt, ff]) e h 9 = (((known (e.get 1)).bind fun x => fieldAddrA cfg h 26 x 0).map fun v => AV.eqb v (e.get 15)).getD false := lb_fieldAddr rfl
theorem la28_14 (e : Env) (h : Heap) : looseAll cfg 28 (B28 [tt, ff]) (some 14) e h = (((((known (e.get 1)).bind fun x => fieldAddrA cfg h 26 x 0).map fun v => AV.eqb v (e.get 15)).getD false)) := by simp only [looseAll, lo28_14, lo, List.all_cons, List.all_nil, Bool.and_true, lb28_1_14_9]
theorem lb28_5_33_0 (e : Env) (h : Heap) : looseB cfg 28 (B28 [tt, tt, ff, tt, ff, ff, tt, tt, ff, ff, tt, ff]) e h 0 = (((known (e.get 1)).bind fun x => fieldAddrA cfg h 26 x 2).map fun v => AV.eqb v (e.get 24)).getD false := lb_fieldAddr rfl
theorem lb28_5_33_1 (e : Env) (h : Heap) : looseB cfg 28 (B28 [tt, tt, ff, tt, ff, ff, tt, tt, ff, ff, tt, ff]) e h 1 = (((known (e.get 24)).bind fun x => loadA cfg h 24 x).map fun v => AV.eqb v (e.get 25)).getD false := lb_load rfl rfl
theorem la28_33 (e : Env) (h : Heap) : looseAll cfg 28 (B28 [tt, tt, ff, tt, ff, ff, tt, tt, ff, ff, tt, ff]) (some 33) e h = (((((known (e.get 1)).bind fun x => fieldAddrA cfg h 26 x 2).map fun v => AV.eqb v (e.get 24)).getD false) && (((((known (e.get 24)).bind fun x => loadA cfg h 24 x).map fun v => AV.eqb v (e.get 25)).getD false))) := by simp only [looseAll, lo28_33, lo, List.all_cons, List.all_nil, Bool.and_true, lb28_5_33_0, lb28_5_33_1]
def l28_1 : Code := (.seq (R28 [tt, tt, ff, tt, ff, ff, tt, tt, ff, ff, tt, tt, tt, ff, ff, ff] 7) (.seq (.cond (.tmp 44) .skip (.exit 2)) (.seq (.block 3 (.seq (R28 [tt, tt, ff, tt, ff, ff, tt, tt, ff, ff, tt, tt, tt, ff, ff, tt, tt, ff, ff, ff] 8) (D28 [tt, tt, ff, tt, ff, ff, tt, tt, ff, ff, tt, tt, tt, ff, ff, tt, tt, ff, ff, tt] 9))) (R28 [tt, tt, ff, tt, ff, ff, tt, tt, ff, ff, tt, tt, tt, ff, ff, tt, tt, tt] 10))))
def l28_0 : Code := (.seq (R28 [tt, tt, ff, tt, ff, ff, ff] 3) (.seq (.cond (.tmp 22) .skip (.exit 0)) (.seq (.block 1 (.seq (R28 [tt, tt, ff, tt, ff, ff, tt, tt, ff, ff, ff] 4) (.seq (D28 [tt, tt, ff, tt, ff, ff, tt, tt, ff, ff, tt, ff] 5) (.seq (R28 [tt, tt, ff, tt, ff, ff, tt, tt, ff, ff, tt, tt, ff] 6) (.block 2 (.loop l28_1)))))) (R28 [tt, tt, ff, tt, ff, ff, tt, tt, tt] 11))))
def k28 : Code := (.seq (R28 [ff] 0) (.seq (D28 [tt, ff] 1) (.seq (.seq (R28 [tt, tt, ff, ff] 2) (.block 0 (.loop l28_0))) (.seq (R28 [tt, tt, tt, ff] 12) .ret))))
theorem call28 (x0 : AV) (h : Heap) : call cfg 28 [x0] h = (exec cfg 28 k28 [(0, x0)] h).bind (callEnd cfg 28 h [.cell 2 26]) := call_at2 (fnat Tryz.func28 (b := k28) (by kernel_rfl) (by kernel_rfl)) rfl rfl
def ownI (i : SIns) : SIns := { i with z := ownZ i.room 1, room := ownR i.room }
def ownF (F : SFun) : SFun := { F with code := F.code.map ownI, cz := ownZ F.room 6, room := ownR F.room }
def ownP (p : SProg) : SProg := { mems := p.mems, mz := ownZ p.mroom 3, mroom := ownR p.mroom, locks := p.locks, lz := ownZ p.lroom 1, lroom := ownR p.lroom, funs := p.funs.map ownF, fz := ownZ p.froom 5, froom := ownR p.froom }
structure SProg.nils (p : SProg) : Prop where
  mems : p.mroom = .nil → p.mems = []
  locks : p.lroom = .nil → p.locks = []
  funs : p.froom = .nil → p.funs = []
  code : ∀ F ∈ p.funs, F.room = .nil → F.code = []
  args : ∀ F ∈ p.funs, ∀ i ∈ F.code, i.room = .nil → i.args = []
theorem flat_split {xs : List AV} {k z : Nat} {x : AV} (hk : xs[k]? = some x) (H : ∀ x ∈ xs, x.cells.length = z) : (flatC xs).drop (k * z) = x.cells ++ flatC (xs.drop (k + 1)) := by
  rw [flatC_at hk]
  exact List.drop_left' (flatC_take hk H)
def insX (l : List SIns) (k : Nat) : List AV := codeL ((l.take k).map ownI ++ l.drop k)
theorem insX_get {l : List SIns} {k : Nat} {i : SIns} (h : l[k]? = some i) : (insX l k)[k]? = some (.agg i.cells) := by
  have hk := (List.getElem?_eq_some_iff.1 h).1
  apply codeL_get
  rw [List.getElem?_append_right (by simp; omega)]
  simp only [List.length_map, List.length_take, Nat.min_eq_left (Nat.le_of_lt hk), Nat.sub_self, List.getElem?_drop, Nat.add_zero]
  exact h
theorem insX_set {l : List SIns} {k : Nat} {i : SIns} (h : l[k]? = some i) : (insX l k).set k (.agg (ownI i).cells) = insX l (k + 1) := by
  have hk := (List.getElem?_eq_some_iff.1 h).1
  unfold insX codeL
  rw [← List.map_set]
  congr 1
  rw [List.set_append_right _ _ (by simp; omega)]
  simp only [List.length_map, List.length_take, Nat.min_eq_left (Nat.le_of_lt hk), Nat.sub_self]
  rw [List.drop_eq_getElem_cons hk, List.set_cons_zero, List.take_add_one, h]
  simp
theorem insX_len {l : List SIns} {k : Nat} : (insX l k).length = l.length := by simp [insX, codeL]; omega
theorem insX_cells {l : List SIns} {k : Nat} : ∀ x ∈ insX l k, x.cells.length = 6 := fun x hx => by
  simp only [insX, codeL, List.mem_map] at hx
  obtain ⟨i, _, rfl⟩ := hx
  rfl
section
variable {H : Heap} {oP oF oK n k : Nat} {mv lv t0 t2 t4 t20 t21 t22 : AV} {capF capK : Option Nat} {l : List SIns} {xs : List AV} {a b c d : AV}
theorem own_inner (hlen : l.length < 1000000) (hargs : ∀ i ∈ l, (i.room = .nil → i.args = []) ∧ i.args.length < 1000000000) (hk : xs[k]? = some (.agg [a, b, c, d, .msl oK 0 l.length 6 0 capK])) (hx5 : ∀ x ∈ xs, x.cells.length = 5) (hkn : k < n) (hKF : oK ≠ oF) (hKP : oK ≠ oP) : ∀ (ys : List SIns) (j : Nat), l.drop j = ys → j ≤ l.length → ∀ (H : Heap), H.obj oP 0 = some [mv, lv, .msl oF 0 n 5 0 capF] → H.obj oF 0 = some (flatC xs) → H.obj oK 0 = some (flatC (insX l j)) → ∀ e f g,
    Got (exec cfg 28 (.loop l28_1) [(0, t0), (1, .ptr oP 0 0), (2, t2), (3, .int .i64 k), (4, e), (5, f), (20, t20), (21, t21), (22, t22), (41, .msl oK 0 l.length 6 0 capK), (42, .int .i64 l.length), (43, .int .i64 j), (44, g)] H) (fun q => ∃ (H' : Heap) (e' f' g' : AV), q = (.exit 2, [(0, t0), (1, .ptr oP 0 0), (2, t2), (3, .int .i64 k), (4, e'), (5, f'), (20, t20), (21, t21), (22, t22), (41, .msl oK 0 l.length 6 0 capK), (42, .int .i64 l.length), (43, .int .i64 l.length), (44, g')], H') ∧
      H'.obj oK 0 = some (flatC (insX l l.length)) ∧ H.length ≤ H'.length ∧ ∀ x, x < H.length → x ≠ oK → H'[x]? = H[x]?) := by
  intro ys
  induction ys with
  | nil =>
    intro j hd hj H hP hF hK e f g
    have hle : l.length ≤ j := by simpa using hd
    obtain rfl : j = l.length := by omega
    rw [got_loop]
    simp only [l28_1, F28, Tryz.f28, sxAll, cA, arithA, Env.keep, ↓Option.bind_some, Nat.reduceBEq, ↓reduceIte, Nat.lt_irrefl]
    exact ⟨_, _, _, _, rfl, hK, Nat.le_refl _, fun _ _ _ => rfl⟩
  | cons y s ih =>
    intro j hd hj H hP hF hK e f g
    obtain ⟨hlt, hget, hd'⟩ := at_drop hd
    have hlt' : j < l.length := by simpa using hlt
    have hw := wrap_succ (i := j) (by omega)
    have hlP := live_of hP
    have hlF := live_of hF
    have hlK := live_of hK
    have hxj := insX_get hget
    have hsp := flat_split hxj insX_cells
    have hil : (flatC (insX l j)).length = l.length * 6 := by rw [flatC_len insX_cells, insX_len]
    have hya := hargs y (List.mem_of_getElem? hget)
    have ix1 : indexAddrA cfg H 45 (.msl oK 0 l.length 6 0 capK) (.int .i64 j) = some (.ptr oK (j * 6) 0) := by
      have hh : ¬ (j : Int) < 0 := by omega
      simp [indexAddrA, ty45, ty49, hlK, hh, hlt']
    have ld1 : loadA cfg H 49 (.ptr oK (j * 6) 0) = some (.agg y.cells) := by
      have hc : ((AV.agg y.cells).cells) = y.cells := rfl
      have hl6 : y.cells.length = 6 := rfl
      have : 6 ≤ ((flatC (insX l j)).drop (j * 6)).length := by rw [hsp, hc]; simp [hl6]
      simp only [loadA, ty49, cellsAt, hK, Option.map_some, Rv.part, TD.isAgg, if_true, Option.bind_eq_bind, Option.bind_some, this]
      rw [hsp, hc, List.take_left' hl6]
    have hP1 := obj_leftS [AObj.cells y.cells 0] hP
    have hF1 := obj_leftS [AObj.cells y.cells 0] hF
    have hK1 := obj_leftS [AObj.cells y.cells 0] hK
    have hlP1 := live_of hP1
    have hlF1 := live_of hF1
    have hlK1 := live_of hK1
    have hsv : ∀ q1 q2 q3 q4 q5 q6, storeA cfg (H ++ [AObj.cells [q1, q2, q3, q4, q5, q6] 0]) 49 (.ptr H.length 0 0) (.agg y.cells) = some (H ++ [AObj.cells y.cells 0]) := fun q1 q2 q3 q4 q5 q6 => by
      simp [storeA, ty49, obj_app0, obj_zero, AV.cells, SIns.cells, AV.leaf, setCells]
    have hix : ∀ h, Heap.live h oF 0 = true → indexAddrA cfg h 24 (.msl oF 0 n 5 0 capF) (.int .i64 k) = some (.ptr oF (k * 5) 0) := fun h hl => by
      have hh : ¬ (k : Int) < 0 := by omega
      simp [indexAddrA, ty24, ty47, hl, hh, hkn]
    have hix1 := hix _ hlF1
    have hdF : ((flatC xs).drop (k * 5 + 4)).head? = some (.msl oK 0 l.length 6 0 capK) := by
      rw [flat_drop hk hx5 (by simp)]; rfl
    have ix2 : indexAddrA cfg (H ++ [AObj.cells y.cells 0]) 45 (.msl oK 0 l.length 6 0 capK) (.int .i64 j) = some (.ptr oK (j * 6) 0) := by
      have hh : ¬ (j : Int) < 0 := by omega
      simp [indexAddrA, ty45, ty49, hlK1, hh, hlt']
    have hcl := cloneI_lst (intL y.args) y.z y.room (H ++ [AObj.cells y.cells 0]) (fun h => by rw [hya.1 h]; rfl) (fun x hx => (plain_ints y.args).leafs x hx) (by simpa [intL] using hya.2) (by rw [flatC_intL]; exact plain_dead (plain_ints _)) (by rw [flatC_intL]; exact group_plain (plain_ints _))
    have hst : storeA cfg (H ++ [AObj.cells y.cells 0]) 31 (.ptr oK (j * 6 + 5) 0) (.lst (intL y.args) (ownZ y.room 1) (ownR y.room)) = some ((H ++ [AObj.cells y.cells 0]).set oK (.cells (flatC (insX l (j + 1))) 0)) := by
      rw [store1 ty31 hK1 (off := j * 6 + 5) (by rw [hil]; omega) rfl rfl, flat_set hxj insX_cells (by show 5 < 6; omega)]
      have : (SIns.cells y).set 5 (.lst (intL y.args) (ownZ y.room 1) (ownR y.room)) = (ownI y).cells := rfl
      rw [this, insX_set hget]
    have hoK := obj_some hK
    have keep : ∀ x, x < H.length → x ≠ oK → ((H ++ [AObj.cells y.cells 0]).set oK (.cells (flatC (insX l (j + 1))) 0))[x]? = H[x]? := fun x hx hne => by
      rw [List.getElem?_set_ne (Ne.symm hne), List.getElem?_append_left hx]
    have := ih (j + 1) hd' (by omega) ((H ++ [AObj.cells y.cells 0]).set oK (.cells (flatC (insX l (j + 1))) 0)) (obj_of hP (keep _ (obj_some hP) (Ne.symm hKP))) (obj_of hF (keep _ (obj_some hF) (Ne.symm hKF))) (obj_sets hK1 0)
    rw [got_loop]
    simp only [l28_1] at this ⊢
    simp only [SIns.cells] at ld1 hsv hP1 hF1 hlP1 hlF1 hlK1 hix1 ix2 hcl hst hK1
    simp only [SIns.cells, F28, Tryz.f28, sxAll, cA, arithA, Env.keep, qt_eq, fieldAddrA, Rv.part, TD.isAgg, mapO, ↓Option.bind_some, Nat.reduceBEq, Nat.reduceAdd, ↓reduceIte, hlt, ix1, ld1, hsv, load_ptr, hP1, hlP1, hF1, hlF1, hlK1, hix1, hdF, ix2, hcl, hst, hw, pu36, ty45, ty49, ty24, ty47, ty26, ty31] at this ⊢
    refine Got.mono (this _ _ _) fun q hq => ?_
    obtain ⟨H', e', f', g', h1, h2, h3, h4⟩ := hq
    refine ⟨H', e', f', g', h1, h2, by simp at h3; omega, fun x hx hne => ?_⟩
    rw [h4 x (by simp; omega) hne]
    exact keep x hx hne
end
end
end Go.Proofs.Sx
namespace Go.Proofs.Sx
open Go.Rv Go.Proofs
attribute [local congr] bind_left got_left
noncomputable section
def funC (F : SFun) (c : AV) : List AV := [.str F.name, .bool F.thread, .int .i64 F.params, .int .i64 F.regs, c]
def funX : List SFun → List AV → List AV
  | F :: r, c :: s => .agg (funC F c) :: funX r s
  | l, [] => funsL l
  | [], _ => []
theorem funX_get : ∀ {l : List SFun} {cs : List AV} {F : SFun}, l[cs.length]? = some F → (funX l cs)[cs.length]? = some (.agg F.cells)
  | l, [], F, h => by
    have : funX l [] = funsL l := by cases l <;> rfl
    rw [this]; exact funsL_get h
  | F' :: r, c :: s, F, h => by
    simp only [funX, List.length_cons, List.getElem?_cons_succ] at h ⊢
    exact funX_get h
  | [], c :: s, F, h => by simp at h
theorem funX_set : ∀ {l : List SFun} {cs : List AV} {F : SFun} (v : AV), l[cs.length]? = some F → (funX l cs).set cs.length (.agg (funC F v)) = funX l (cs ++ [v])
  | F' :: r, [], F, v, h => by
    simp only [List.length_nil, List.getElem?_cons_zero, Option.some.injEq] at h
    subst h
    cases r <;> rfl
  | F' :: r, c :: s, F, v, h => by
    simp only [List.length_cons, List.getElem?_cons_succ] at h
    simp only [funX, List.length_cons, List.set_cons_succ, List.cons_append, funX_set v h]
  | [], [], F, v, h => by simp at h
  | [], c :: s, F, v, h => by simp at h
theorem funX_size : ∀ (l : List SFun) (cs : List AV), ∀ x ∈ funX l cs, x.cells.length = 5
  | l, [], x, hx => by
    have : funX l [] = funsL l := by cases l <;> rfl
    rw [this] at hx
    simp only [funsL, List.mem_map] at hx
    obtain ⟨F, _, rfl⟩ := hx
    rfl
  | F' :: r, c :: s, x, hx => by
    simp only [funX, List.mem_cons] at hx
    rcases hx with rfl | hx
    · rfl
    · exact funX_size r s x hx
  | [], c :: s, x, hx => by simp [funX] at hx
theorem funX_len : ∀ (l : List SFun) (cs : List AV), cs.length ≤ l.length → (funX l cs).length = l.length
  | l, [], _ => by
    have : funX l [] = funsL l := by cases l <;> rfl
    rw [this, funsL_len]
  | F' :: r, c :: s, h => by simp only [funX, List.length_cons, funX_len r s (by simpa using h)]
  | [], c :: s, h => by simp at h
def CodeAt (H : Heap) (ρ : Nat → Role) (j : Nat) (v : AV) (F : SFun) : Prop :=
  (F.room = .nil ∧ v = .lst [] 0 .nil ∧ F.code = []) ∨ F.room ≠ .nil ∧ ∃ o cap, v = .msl o 0 F.code.length 6 0 cap ∧ H.obj o 0 = some (flatC (codeL (F.code.map ownI))) ∧ ρ o = .cell j
structure OI (h H : Heap) (ρ : Nat → Role) (oP : Nat) (mv lv : AV) (oF : Nat) (capF : Option Nat) (l : List SFun) (cs : List AV) : Prop where
  prog : H.obj oP 0 = some [mv, lv, .msl oF 0 l.length 5 0 capF]
  progR : ρ oP = .mem
  funs : H.obj oF 0 = some (flatC (funX l cs))
  funsR : ρ oF = .cArr
  done : ∀ (j : Nat) v F, cs[j]? = some v → l[j]? = some F → CodeAt H ρ j v F
  keep : ∀ x, x < h.length → ρ x = .other
  le : h.length ≤ H.length
  fresh : ∀ o, H.length ≤ o → ρ o = .other
theorem codeL_size (l : List SIns) : ∀ x ∈ codeL l, x.cells.length = 6 ∧ x.cells.all AV.leaf = true := fun x hx => by
  simp only [codeL, List.mem_map] at hx
  obtain ⟨i, _, rfl⟩ := hx
  exact ⟨rfl, rfl⟩
theorem own_outer (l : List SFun) (hl : l.length < 1000000) (hc : ∀ F ∈ l, (F.room = .nil → F.code = []) ∧ F.code.length < 1000000 ∧ ∀ i ∈ F.code, (i.room = .nil → i.args = []) ∧ i.args.length < 1000000000) (oP : Nat) (mv lv : AV) (oF : Nat) (capF : Option Nat) (h : Heap) : ∀ (ys : List SFun) (k : Nat), l.drop k = ys → k ≤ l.length → ∀ (H : Heap) (ρ : Nat → Role) (cs : List AV), cs.length = k → OI h H ρ oP mv lv oF capF l cs → ∀ t0 t2 t3 t4 t5 t22 t41 t42 t43 t44,
    Got (exec cfg 28 (.loop l28_0) [(0, t0), (1, .ptr oP 0 0), (2, t2), (3, t3), (4, t4), (5, t5), (20, .int .i64 l.length), (21, .int .i64 k), (22, t22), (41, t41), (42, t42), (43, t43), (44, t44)] H) (fun q => ∃ (H' : Heap) (ρ' : Nat → Role) (cs' : List AV) (t3' t4' t5' t22' t41' t42' t43' t44' : AV), q = (.exit 0, [(0, t0), (1, .ptr oP 0 0), (2, t2), (3, t3'), (4, t4'), (5, t5'), (20, .int .i64 l.length), (21, .int .i64 l.length), (22, t22'), (41, t41'), (42, t42'), (43, t43'), (44, t44')], H') ∧
      cs'.length = l.length ∧ OI h H' ρ' oP mv lv oF capF l cs' ∧ H.length ≤ H'.length ∧ (∀ x, x < H.length → ρ' x = ρ x) ∧ ∀ x, x < H.length → ρ x ≠ .cArr → H'[x]? = H[x]?) := by
  intro ys
  induction ys with
  | nil =>
    intro k hd hk H ρ cs hcs O t0 t2 t3 t4 t5 t22 t41 t42 t43 t44
    have hle : l.length ≤ k := by simpa using hd
    obtain rfl : k = l.length := by omega
    rw [got_loop]
    simp only [l28_0, F28, Tryz.f28, sxAll, cA, arithA, Env.keep, ↓Option.bind_some, Nat.reduceBEq, ↓reduceIte, Nat.lt_irrefl]
    exact ⟨_, _, _, _, _, _, _, _, _, _, _, rfl, hcs, O, Nat.le_refl _, fun _ _ => rfl, fun _ _ _ => rfl⟩
  | cons F s ih =>
    intro k hd hk H ρ cs hcs O t0 t2 t3 t4 t5 t22 t41 t42 t43 t44
    obtain ⟨hlt, hget, hd'⟩ := at_drop hd
    have hlt' : k < l.length := by simpa using hlt
    have hw := wrap_succ (i := k) (by omega)
    have hFc := hc F (List.mem_of_getElem? hget)
    have hxk : (funX l cs)[k]? = some (.agg F.cells) := by rw [← hcs]; exact funX_get (by rw [hcs]; exact hget)
    have hP := O.prog
    have hF := O.funs
    have hlP := live_of hP
    have hlF := live_of hF
    have hix : ∀ h, Heap.live h oF 0 = true → indexAddrA cfg h 24 (.msl oF 0 l.length 5 0 capF) (.int .i64 k) = some (.ptr oF (k * 5) 0) := fun h hl => by
      have hh : ¬ (k : Int) < 0 := by omega
      simp [indexAddrA, ty24, ty47, hl, hh, hlt']
    have hix1 := hix _ hlF
    have hdF : ((flatC (funX l cs)).drop (k * 5 + 4)).head? = some (.lst (codeL F.code) F.cz F.room) := by
      rw [flat_drop hxk (funX_size l cs) (by show 4 < 5; omega)]; rfl
    obtain ⟨v, X, q1, q2⟩ := cloneIns_lst (codeL F.code) F.cz F.room H (fun h => by rw [hFc.1 h]; rfl) (codeL_size _) (by rw [codeL_len]; have := hFc.2.1; omega)
    have hP1 := obj_leftS X hP
    have hF1 := obj_leftS X hF
    have hlP1 := live_of hP1
    have hlF1 := live_of hF1
    have hix2 := hix _ hlF1
    have hoP := obj_some hP
    have hoF := obj_some hF
    have hvl : v.cells = [v] ∧ v.leaf = true ∧ known v = some v := by
      rcases q2 with ⟨_, rfl, _⟩ | ⟨_, o, cap, rfl, _⟩ <;> exact ⟨rfl, rfl, rfl⟩
    have hst : storeA cfg (H ++ X) 45 (.ptr oF (k * 5 + 4) 0) v = some ((H ++ X).set oF (.cells (flatC (funX l (cs ++ [v]))) 0)) := by
      have hfl := flatC_len (funX_size l cs)
      rw [funX_len l cs (by omega)] at hfl
      rw [store1 ty45 hF1 (off := k * 5 + 4) (by rw [hfl]; omega) hvl.1 hvl.2.1, flat_set hxk (funX_size l cs) (by show 4 < 5; omega)]
      have e1 : (SFun.cells F).set 4 v = funC F v := rfl
      rw [e1, show k = cs.length from hcs.symm, funX_set v (by rw [hcs]; exact hget)]
    have hPF : oP ≠ oF := fun hc => by have := O.progR; rw [hc, O.funsR] at this; cases this
    have hP2 : Heap.obj ((H ++ X).set oF (.cells (flatC (funX l (cs ++ [v]))) 0)) oP 0 = some [mv, lv, .msl oF 0 l.length 5 0 capF] := (obj_setn _ hPF).trans hP1
    have hF2 : Heap.obj ((H ++ X).set oF (.cells (flatC (funX l (cs ++ [v]))) 0)) oF 0 = some (flatC (funX l (cs ++ [v]))) := obj_sets hF1 0
    have hlP2 := live_of hP2
    have hlF2 := live_of hF2
    have hix3 := hix _ hlF2
    have hxk2 : (funX l (cs ++ [v]))[k]? = some (.agg (funC F v)) := by
      rw [← funX_set v (by rw [hcs]; exact hget), hcs, List.getElem?_set_self (by rw [funX_len l cs (by omega)]; exact hlt')]
    have hdF2 : ((flatC (funX l (cs ++ [v]))).drop (k * 5 + 4)).head? = some v := by
      rw [flat_drop hxk2 (funX_size l _) (by show 4 < 5; omega)]; rfl
    have fin : ∀ (H3 : Heap) (ρ3 : Nat → Role), OI h H3 ρ3 oP mv lv oF capF l (cs ++ [v]) → H.length ≤ H3.length → (∀ x, x < H.length → ρ3 x = ρ x) → (∀ x, x < H.length → ρ x ≠ .cArr → H3[x]? = H[x]?) → ∀ t3 t4 t5 t22 t41 t42 t43 t44,
        Got (exec cfg 28 (.loop l28_0) [(0, t0), (1, .ptr oP 0 0), (2, t2), (3, t3), (4, t4), (5, t5), (20, .int .i64 l.length), (21, .int .i64 ((k + 1 : Nat) : Int)), (22, t22), (41, t41), (42, t42), (43, t43), (44, t44)] H3) (fun q => ∃ (H' : Heap) (ρ' : Nat → Role) (cs' : List AV) (t3' t4' t5' t22' t41' t42' t43' t44' : AV), q = (.exit 0, [(0, t0), (1, .ptr oP 0 0), (2, t2), (3, t3'), (4, t4'), (5, t5'), (20, .int .i64 l.length), (21, .int .i64 l.length), (22, t22'), (41, t41'), (42, t42'), (43, t43'), (44, t44')], H') ∧
      cs'.length = l.length ∧ OI h H' ρ' oP mv lv oF capF l cs' ∧ H.length ≤ H'.length ∧ (∀ x, x < H.length → ρ' x = ρ x) ∧ ∀ x, x < H.length → ρ x ≠ .cArr → H'[x]? = H[x]?) := fun H3 ρ3 O3 g1 g2 g3 t3 t4 t5 t22 t41 t42 t43 t44 => by
      refine Got.mono (ih (k + 1) hd' (by omega) H3 ρ3 (cs ++ [v]) (by simp [hcs]) O3 t0 t2 t3 t4 t5 t22 t41 t42 t43 t44) fun q hq => ?_
      obtain ⟨H', ρ', cs', t3', t4', t5', t22', t41', t42', t43', t44', e1, e2, e3, e4, e5, e6⟩ := hq
      exact ⟨H', ρ', cs', t3', t4', t5', t22', t41', t42', t43', t44', e1, e2, e3, by omega, fun x hx => (e5 x (by omega)).trans (g2 x hx), fun x hx hr => (e6 x (by omega) (by rw [g2 x hx]; exact hr)).trans (g3 x hx hr)⟩
    rw [got_loop]
    rcases q2 with ⟨r1, rfl, hnil, rfl⟩ | ⟨r1, o, cap, rfl, r3, r4⟩
    ·
      have hcode : F.code = [] := hFc.1 r1
      simp only [List.append_nil] at q1 hP1 hF1 hlP1 hlF1 hix2 hst hP2 hF2 hlP2 hlF2 hix3
      have O3 : OI h (H.set oF (.cells (flatC (funX l (cs ++ [AV.lst [] 0 .nil]))) 0)) ρ oP mv lv oF capF l (cs ++ [AV.lst [] 0 .nil]) := {
        prog := hP2
        progR := O.progR
        funs := hF2
        funsR := O.funsR
        done := fun j v F' hv hF' => by
          by_cases hj : j < k
          · rw [List.getElem?_append_left (by omega)] at hv
            rcases O.done j v F' hv hF' with h1 | ⟨h1, o, cap, h2, h3, h4⟩
            · exact .inl h1
            · exact .inr ⟨h1, o, cap, h2, (obj_setn _ (fun hc => by rw [hc, O.funsR] at h4; cases h4)).trans h3, h4⟩
          · have hj' : j = k := by have := (List.getElem?_eq_some_iff.1 hv).1; simp at this; omega
            subst hj'
            rw [List.getElem?_append_right (by omega)] at hv
            simp only [hcs, Nat.sub_self, List.getElem?_cons_zero, Option.some.injEq] at hv
            rw [hget] at hF'; injection hF' with hF'
            subst hv hF'
            exact .inl ⟨r1, rfl, hcode⟩
        keep := O.keep
        le := by simpa using O.le
        fresh := fun x hx => O.fresh x (by simpa using hx) }
      have := fin _ ρ O3 (by simp) (fun _ _ => rfl) (fun x hx hr => by
        rw [List.getElem?_set_ne (by intro hc; rw [← hc] at hr; exact hr O.funsR)])
      have hin : ∀ e f g c3, exec cfg 28 (.loop l28_1) [(0, t0), (1, .ptr oP 0 0), (2, t2), (3, .int .i64 k), (4, e), (5, f), (20, .int .i64 l.length), (21, .int .i64 k), (22, g), (41, .lst [] 0 .nil), (42, .int .i64 0), (43, .int .i64 0), (44, c3)] (H.set oF (.cells (flatC (funX l (cs ++ [AV.lst [] 0 .nil]))) 0)) = some (.exit 2, [(0, t0), (1, .ptr oP 0 0), (2, t2), (3, .int .i64 k), (4, e), (5, f), (20, .int .i64 l.length), (21, .int .i64 k), (22, g), (41, .lst [] 0 .nil), (42, .int .i64 0), (43, .int .i64 0), (44, .bool false)], (H.set oF (.cells (flatC (funX l (cs ++ [AV.lst [] 0 .nil]))) 0))) := fun e f g c3 => by
        rw [exec_loop]
        simp only [l28_1, F28, Tryz.f28, sxAll, cA, arithA, Env.keep, ↓Option.bind_some, Nat.reduceBEq, Int.reduceLT, ↓reduceIte]
      simp only [l28_0] at this ⊢
      simp only [F28, Tryz.f28, sxAll, cA, arithA, Env.keep, qt_eq, fieldAddrA, Rv.part, TD.isAgg, mapO, ↓Option.bind_some, Nat.reduceBEq, Nat.reduceAdd, ↓reduceIte, load_ptr, hlt, hP, hlP, hF, hlF, hix1, hdF, q1, sx_callf_l, la28_33, eqb_self, hst, hP2, hlP2, hF2, hlF2, hix3, hdF2, lenA_lst, Int.natCast_zero, hin, hw, pu54, ty45, ty24, ty47, ty26] at this ⊢
      exact this _ _ _ _ _ _ _ _
    ·
      rw [codeL_len] at *
      have hins0 : insX F.code 0 = codeL F.code := by simp [insX]
      have hoF' : o ≠ oF := by omega
      have hoP' : o ≠ oP := by omega
      have hK2 : Heap.obj ((H ++ X).set oF (.cells (flatC (funX l (cs ++ [AV.msl o 0 F.code.length 6 0 cap]))) 0)) o 0 = some (flatC (insX F.code 0)) := by
        rw [hins0]; exact (obj_setn _ hoF').trans r4
      have ho := obj_some r4
      simp only [List.length_append] at ho
      obtain ⟨⟨oo, ee, H3⟩, hx, H4, e', f', g', hq, hK4, hle4, hkeep4⟩ := own_inner (t0 := t0) (t2 := t2) (t20 := .int .i64 l.length) (t21 := .int .i64 k) (t22 := .bool true) (hlen := hFc.2.1) (hargs := hFc.2.2) (hk := hxk2) (hx5 := funX_size l _) (hkn := hlt') hoF' hoP' F.code 0 (by simp) (by omega) _ hP2 hF2 hK2 t4 t5 t44
      simp only [Prod.mk.injEq] at hq
      obtain ⟨rfl, rfl, rfl⟩ := hq
      simp only [List.length_set, List.length_append] at hle4 hkeep4
      have hup : ∀ x, x < H.length → upd ρ o (.cell k) x = ρ x := fun x hx => upd_ne (by omega)
      have insF : insX F.code F.code.length = codeL (F.code.map ownI) := by simp [insX]
      have kk : ∀ x, x < H.length → ρ x ≠ .cArr → H3[x]? = H[x]? := fun x hx hr => by
        rw [hkeep4 x (by omega) (by omega), List.getElem?_set_ne (by intro hc; rw [← hc] at hr; exact hr O.funsR), List.getElem?_append_left hx]
      have O3 : OI h H3 (upd ρ o (.cell k)) oP mv lv oF capF l (cs ++ [AV.msl o 0 F.code.length 6 0 cap]) := {
        prog := obj_of hP2 (hkeep4 oP (by omega) (Ne.symm hoP'))
        progR := (hup oP hoP).trans O.progR
        funs := obj_of hF2 (hkeep4 oF (by omega) (Ne.symm hoF'))
        funsR := (hup oF hoF).trans O.funsR
        done := fun j v F' hv hF' => by
          by_cases hj : j < k
          · rw [List.getElem?_append_left (by omega)] at hv
            rcases O.done j v F' hv hF' with h1 | ⟨h1, o', cap', h2, h3, h4⟩
            · exact .inl h1
            · have ho' := obj_some h3
              exact .inr ⟨h1, o', cap', h2, obj_of h3 (kk o' ho' (by rw [h4]; simp)), (hup o' ho').trans h4⟩
          · have hj' : j = k := by have := (List.getElem?_eq_some_iff.1 hv).1; simp at this; omega
            subst hj'
            rw [List.getElem?_append_right (by omega)] at hv
            simp only [hcs, Nat.sub_self, List.getElem?_cons_zero, Option.some.injEq] at hv
            rw [hget] at hF'; injection hF' with hF'
            subst hv hF'
            exact .inr ⟨r1, o, cap, rfl, by rw [← insF]; exact hK4, upd_self _ _ _⟩
        keep := fun x hx => (hup x (by have := O.le; omega)).trans (O.keep x hx)
        le := by have := O.le; omega
        fresh := fun x hx => by rw [upd_ne (by omega)]; exact O.fresh x (by omega) }
      have := fin _ _ O3 (by omega) hup kk
      have lnv : lenA ((H ++ X).set oF (.cells (flatC (funX l (cs ++ [AV.msl o 0 F.code.length 6 0 cap]))) 0)) (.slice 49) (.msl o 0 F.code.length 6 0 cap) = some F.code.length := by simp [lenA, live_of hK2]
      simp only [Int.natCast_zero] at hx
      simp only [l28_0] at this ⊢
      simp only [F28, Tryz.f28, sxAll, cA, arithA, Env.keep, qt_eq, fieldAddrA, Rv.part, TD.isAgg, mapO, ↓Option.bind_some, Nat.reduceBEq, Nat.reduceAdd, ↓reduceIte, load_ptr, hlt, hP, hlP, hF, hlF, hix1, hdF, q1, sx_callf_l, la28_33, hP1, hlP1, eqb_self, hlF1, hix2, hst, hP2, hlP2, hF2, hlF2, hix3, hdF2, lnv, hx, hw, pu54, ty45, ty24, ty47, ty26] at this ⊢
      exact this _ _ _ _ _ _ _ _
end
end Go.Proofs.Sx
namespace Go.Proofs.Sx
open Go.Rv Go.Proofs
attribute [local congr] bind_left got_left
noncomputable section
theorem imm_ins (i : SIns) : ∀ c ∈ i.cells, immB 3 c = true := fun c hc => by
  simp only [SIns.cells, List.mem_cons, List.not_mem_nil, or_false] at hc
  rcases hc with rfl | rfl | rfl | rfl | rfl | rfl <;> first | rfl | skip
  simp [immB, intL]
theorem imm_code (l : List SIns) : ∀ c ∈ flatC (codeL l), immB 3 c = true := fun c hc => by
  simp only [flatC, codeL, List.mem_flatten, List.mem_map] at hc
  obtain ⟨x, ⟨y, ⟨i, _, rfl⟩, rfl⟩, hc⟩ := hc
  exact imm_ins i c hc
theorem imm_mems (l : List SMem) (z : Nat) (r : Room) : immB 4 (.lst (memsL l) z r) = true := by
  simp only [immB, memsL, List.all_map, List.all_eq_true]
  intro m _
  simp [SMem.cells]
theorem freeze_flat {h : Heap} {n d o sz len : Nat} {cap : Option Nat} {xs ys : List AV} (ho : h.obj o 0 = some (flatC xs)) (hn : n ≤ o) (hl : (flatC xs).length = len * sz) (hm : mapO (freezeV h n d) (flatC xs) = some (flatC ys)) (hg : group len (flatC ys) sz = ys) :
    freezeV h n (d + 1) (.msl o 0 len sz 0 cap) = some (.lst ys sz .open) := by
  show (if o < n then some (AV.msl o 0 len sz 0 cap) else _) = _
  rw [if_neg (by omega)]
  simp only [ho, Option.bind_eq_bind, Option.bind_some, Nat.zero_add, hl, Nat.le_refl, if_true, List.drop_zero]
  rw [List.take_of_length_le (by omega), hm]
  simp only [Option.bind_some, hg]
theorem group_code (l : List SIns) : group l.length (flatC (codeL l)) 6 = codeL l := by
  have := group_flatC (z := 6) (by omega) (xs := codeL l) (fun x hx => by
    simp only [codeL, List.mem_map] at hx
    obtain ⟨i, _, rfl⟩ := hx
    exact ⟨_, rfl, rfl⟩)
  rwa [codeL_len] at this
theorem group_funs (l : List SFun) : group l.length (flatC (funsL l)) 5 = funsL l := by
  have := group_flatC (z := 5) (by omega) (xs := funsL l) (fun x hx => by
    simp only [funsL, List.mem_map] at hx
    obtain ⟨i, _, rfl⟩ := hx
    exact ⟨_, rfl, rfl⟩)
  rwa [funsL_len] at this
theorem freeze_code {H : Heap} {ρ : Nat → Role} {n j : Nat} {v : AV} {F : SFun} (C : CodeAt H ρ j v F) (hn : ∀ x, x < n → ρ x = .other) : freezeV H n 38 v = some (.lst (codeL (ownF F).code) (ownF F).cz (ownF F).room) := by
  rcases C with ⟨h1, rfl, h3⟩ | ⟨h1, o, cap, rfl, h3, h4⟩
  · simp only [ownF, ownZ, ownR, h1, if_true, h3, List.map_nil]
    rfl
  · have hle : n ≤ o := by
      by_cases hc : n ≤ o
      · exact hc
      · have := hn o (by omega); rw [h4] at this; cases this
    have hc : (flatC (codeL (F.code.map ownI))).length = F.code.length * 6 := by
      rw [flatC_len (fun x hx => (codeL_size _ x hx).1), codeL_len, List.length_map]
    rw [freeze_flat (ys := codeL (F.code.map ownI)) h3 hle hc (mapO_id fun c hc => imm_freeze H n 3 c (imm_code _ c hc) 37 (by omega)) (by have := group_code (F.code.map ownI); rwa [List.length_map] at this)]
    simp only [ownF, ownZ, ownR, if_neg h1]
theorem freeze_funX {H : Heap} {n : Nat} : ∀ (l : List SFun) (cs : List AV), cs.length = l.length → (∀ (j : Nat) v F, cs[j]? = some v → l[j]? = some F → freezeV H n 38 v = some (.lst (codeL (ownF F).code) (ownF F).cz (ownF F).room)) → mapO (freezeV H n 38) (flatC (funX l cs)) = some (flatC (funsL (l.map ownF)))
  | [], [], _, _ => rfl
  | F :: r, c :: s, hl, hj => by
    have ih := freeze_funX r s (by simpa using hl) (fun j v F hv hF => hj (j + 1) v F (by simpa using hv) (by simpa using hF))
    have h0 := hj 0 c F rfl rfl
    have e1 : flatC (funX (F :: r) (c :: s)) = funC F c ++ flatC (funX r s) := by simp only [funX, flatC_cons]; rfl
    have e2 : flatC (funsL ((F :: r).map ownF)) = (ownF F).cells ++ flatC (funsL (r.map ownF)) := by simp only [List.map_cons, funsL, flatC_cons]; rfl
    rw [e1, e2]
    refine mapO_app ?_ ih
    simp only [funC, mapO_cons, mapO_nil, h0]
    rfl
  | [], c :: s, hl, _ => by simp at hl
  | F :: r, [], hl, _ => by simp at hl
structure SProg.small (p : SProg) : Prop where
  mems : p.mems.length < 1000000
  locks : p.locks.length < 1000000
  funs : p.funs.length < 1000000
  code : ∀ F ∈ p.funs, F.code.length < 1000000
  args : ∀ F ∈ p.funs, ∀ i ∈ F.code, i.args.length < 1000000000
theorem strL_size (l : List (List UInt8)) : ∀ x ∈ strL l, x.cells.length = 1 ∧ x.cells.all AV.leaf = true := fun x hx => (plain_strs l).leafs x hx
theorem memsL_size (l : List SMem) : ∀ x ∈ memsL l, x.cells.length = 3 ∧ x.cells.all AV.leaf = true := fun x hx => by
  simp only [memsL, List.mem_map] at hx
  obtain ⟨i, _, rfl⟩ := hx
  exact ⟨rfl, rfl⟩
theorem funsL_size (l : List SFun) : ∀ x ∈ funsL l, x.cells.length = 5 ∧ x.cells.all AV.leaf = true := fun x hx => by
  simp only [funsL, List.mem_map] at hx
  obtain ⟨i, _, rfl⟩ := hx
  exact ⟨rfl, rfl⟩
theorem own_eq (p : SProg) (hn : p.nils) (hs : p.small) (h : Heap) : call cfg 28 [.agg p.cells] h = some (.ret (.agg (ownP p).cells), h) := by
  have hcm : ∀ H, call cfg 51 [.lst (memsL p.mems) p.mz p.mroom] H = some (.ret (.lst (memsL p.mems) (ownZ p.mroom 3) (ownR p.mroom)), H) := fun H =>
    cloneMem_lst (memsL p.mems) p.mz p.mroom H (fun hh => by rw [hn.mems hh]; rfl) (memsL_size _) (by rw [memsL_len]; have := hs.mems; omega) (by
      rw [List.all_eq_true]
      intro c hc
      simp only [flatC, memsL, List.mem_flatten, List.mem_map] at hc
      obtain ⟨x, ⟨y, ⟨m, _, rfl⟩, rfl⟩, hc⟩ := hc
      simp only [AV.cells, SMem.cells, List.mem_cons, List.not_mem_nil, or_false] at hc
      rcases hc with rfl | rfl | rfl <;> rfl) (by
      refine group_flatC (by omega) fun x hx => ?_
      simp only [memsL, List.mem_map] at hx
      obtain ⟨m, _, rfl⟩ := hx
      exact ⟨_, rfl, rfl⟩)
  obtain ⟨lv, X1, c1, d1⟩ := cloneS_lst (strL p.locks) p.lz p.lroom (h ++ [AObj.cells p.cells 0, .cells [.lst [] 0 .nil, .lst [] 0 .nil, .lst [] 0 .nil] 0]) (fun hh => by rw [hn.locks hh]; rfl) (strL_size _) (by rw [strL_len]; have := hs.locks; omega)
  obtain ⟨fv, X2, c2, d2⟩ := cloneFun_lst (funsL p.funs) p.fz p.froom (h ++ [AObj.cells p.cells 0, .cells [.lst [] 0 .nil, .lst [] 0 .nil, .lst [] 0 .nil] 0] ++ X1) (fun hh => by rw [hn.funs hh]; rfl) (funsL_size _) (by rw [funsL_len]; have := hs.funs; omega)
  have klv : known lv = some lv ∧ lv.cells = [lv] ∧ lv.leaf = true := by rcases d1 with ⟨_, rfl, _⟩ | ⟨_, o, cap, rfl, _⟩ <;> exact ⟨rfl, rfl, rfl⟩
  have kfv : known fv = some fv ∧ fv.cells = [fv] ∧ fv.leaf = true := by rcases d2 with ⟨_, rfl, _⟩ | ⟨_, o, cap, rfl, _⟩ <;> exact ⟨rfl, rfl, rfl⟩
  obtain ⟨mv, hmv⟩ : ∃ mv, mv = AV.lst (memsL p.mems) (ownZ p.mroom 3) (ownR p.mroom) := ⟨_, rfl⟩
  obtain ⟨H1, hH1⟩ : ∃ H1 : Heap, H1 = h ++ (AObj.cells [mv, lv, fv] 0 :: .cells [.lst [] 0 .nil, .lst [] 0 .nil, .lst [] 0 .nil] 0 :: (X1 ++ X2)) := ⟨_, rfl⟩
  have hl1 : h.length + 2 ≤ H1.length := by rw [hH1]; simp
  have hP1 : H1.obj h.length 0 = some [mv, lv, fv] := by rw [hH1, obj_app0, obj_zero]
  have hR1 : H1.obj (h.length + 1) 0 = some [.lst [] 0 .nil, .lst [] 0 .nil, .lst [] 0 .nil] := by rw [hH1, obj_app]; rfl
  have hk1 : ∀ x, h.length + 2 ≤ x → x < (h ++ [AObj.cells p.cells 0, .cells [.lst [] 0 .nil, .lst [] 0 .nil, .lst [] 0 .nil] 0] ++ X1 ++ X2).length → H1[x]? = (h ++ [AObj.cells p.cells 0, .cells [.lst [] 0 .nil, .lst [] 0 .nil, .lst [] 0 .nil] 0] ++ X1 ++ X2)[x]? := fun x hx _ => by
    rw [hH1]
    simp only [List.append_assoc]
    rw [List.getElem?_append_right (by omega), List.getElem?_append_right (by omega)]
    obtain ⟨y, hy⟩ : ∃ y, x - h.length = y + 2 := ⟨x - h.length - 2, by omega⟩
    rw [hy]
    rfl
  have hold1 : ∀ x, x < h.length → H1[x]? = h[x]? := fun x hx => by rw [hH1]; exact List.getElem?_append_left hx
  have key : ∀ (H3 : Heap) (t3 t4 t5 t20 t21 t22 t41 t42 t43 t44 : AV), exec cfg 28 (.loop l28_0) [(0, .agg p.cells), (1, .ptr h.length 0 0), (2, .ptr (h.length + 1) 0 0), (3, .junk), (4, .junk), (5, .junk), (20, .int .i64 p.funs.length), (21, .int .i64 0), (22, .junk), (41, .junk), (42, .junk), (43, .junk), (44, .junk)] H1 = some (.exit 0, [(0, .agg p.cells), (1, .ptr h.length 0 0), (2, .ptr (h.length + 1) 0 0), (3, t3), (4, t4), (5, t5), (20, t20), (21, t21), (22, t22), (41, t41), (42, t42), (43, t43), (44, t44)], H3) →
      H3.obj h.length 0 = some [mv, lv, fv] → H3.obj (h.length + 1) 0 = some [.lst [] 0 .nil, .lst [] 0 .nil, .lst [] 0 .nil] → H3.take h.length = h →
      freezeV (H3.set (h.length + 1) (.cells [mv, lv, fv] 0)) h.length 39 lv = some (.lst (strL p.locks) (ownZ p.lroom 1) (ownR p.lroom)) → freezeV (H3.set (h.length + 1) (.cells [mv, lv, fv] 0)) h.length 39 fv = some (.lst (funsL (p.funs.map ownF)) (ownZ p.froom 5) (ownR p.froom)) →
      call cfg 28 [.agg p.cells] h = some (.ret (.agg (ownP p).cells), h) := fun H3 t3 t4 t5 t20 t21 t22 t41 t42 t43 t44 hx hP3 hR3 ht3 fl hff => by
    have hlP1 := live_of hP1
    have hlP3 := live_of hP3
    have hlen : lenA H1 (.slice 47) fv = some p.funs.length := by
      rcases d2 with ⟨_, rfl, h3, _⟩ | ⟨_, o, cap, rfl, h3, h4⟩
      · have : p.funs.length = 0 := by have := congrArg List.length h3; simpa [funsL] using this
        rw [this]; rfl
      · have ho := obj_some h4
        have : H1.obj o 0 = some (flatC (funsL p.funs)) := obj_of h4 (hk1 o (by simp at h3; omega) ho)
        simp [lenA, live_of this, funsL]
    have hst : storeA cfg H3 26 (.ptr (h.length + 1) 0 0) (.agg [mv, lv, fv]) = some (H3.set (h.length + 1) (.cells [mv, lv, fv] 0)) := by
      have hm : mv.leaf = true := by rw [hmv]; rfl
      simp [storeA, ty26, hR3, AV.cells, hm, klv.2.2, kfv.2.2, setCells]
    have hld : loadA cfg H3 26 (.ptr h.length 0 0) = some (.agg [mv, lv, fv]) := by
      simp [loadA, ty26, cellsAt, hP3, Rv.part, TD.isAgg]
    have hR4 : Heap.obj (H3.set (h.length + 1) (.cells [mv, lv, fv] 0)) (h.length + 1) 0 = some [mv, lv, fv] := obj_sets hR3 0
    have hld4 : loadA cfg (H3.set (h.length + 1) (.cells [mv, lv, fv] 0)) 26 (.ptr (h.length + 1) 0 0) = some (.agg [mv, lv, fv]) := by
      simp [loadA, ty26, cellsAt, hR4, Rv.part, TD.isAgg]
    have kmv : known mv = some mv ∧ mv.cells = [mv] ∧ mv.leaf = true := by rw [hmv]; exact ⟨rfl, rfl, rfl⟩
    have hcm' : ∀ H, call cfg 51 [.lst (memsL p.mems) p.mz p.mroom] H = some (.ret mv, H) := fun H => by rw [hmv]; exact hcm H
    have hX1 : ∀ Y, Heap.obj (h ++ (AObj.cells p.cells 0 :: Y)) h.length 0 = some p.cells := fun Y => by rw [obj_app0, obj_zero]
    rw [call28]
    have e1 := hH1.symm
    simp only [List.append_assoc, List.cons_append, List.nil_append, SProg.cells] at c1 c2 e1
    have hre : exec cfg 28 (.seq (R28 [ff] 0) (D28 [tt, ff] 1)) [(0, .agg p.cells)] h = some (.nrm, [(0, .agg p.cells), (1, .ptr h.length 0 0), (2, .ptr (h.length + 1) 0 0), (3, .junk), (4, .junk), (5, .junk), (20, .junk), (21, .junk), (22, .junk), (41, .junk), (42, .junk), (43, .junk), (44, .junk)], H1) := by
      simp only [SProg.cells, F28, Tryz.f28, sxAll, cA, Env.keep, qt_eq, storeA, fieldAddrA, loadA, Rv.part, cellsAt, TD.isAgg, setCells, mapO, ↓Option.bind_some, Nat.reduceBEq, Nat.reduceAdd, Nat.reduceLeDiff, ↓reduceIte, hcm', c1, c2, sx_callf_l, la28_11, la28_14, eqb_self, klv, kfv, kmv, pu51, pu52, pu53, ty26, ty22, ty23, ty24, Nat.add_zero, e1]
    have hre' := hre
    have hseq : ∀ b, exec cfg 28 (.seq (R28 [ff] 0) (.seq (D28 [tt, ff] 1) b)) [(0, .agg p.cells)] h = (exec cfg 28 (.seq (R28 [ff] 0) (D28 [tt, ff] 1)) [(0, .agg p.cells)] h).bind fun x => match x.1 with | .nrm => exec cfg 28 b x.2.1 x.2.2 | _ => some x := fun b => by
      rw [exec_seq, exec_seq]
      cases exec cfg 28 (R28 [ff] 0) [(0, .agg p.cells)] h with
      | none => rfl
      | some x =>
        obtain ⟨o, e, hh⟩ := x
        cases o <;> first | rfl | (simp only [Option.bind_some]; rw [exec_seq]; rfl) | (simp only [Option.bind_some]; rw [exec_seq]; congr 1; funext x; obtain ⟨o, e, hh⟩ := x; cases o <;> rfl)
    rw [k28, hseq, hre']
    simp only [F28, Tryz.f28, sxAll, cA, Env.keep, qt_eq, resultsA, packA, fieldAddrA, Rv.part, TD.isAgg, ↓Option.bind_some, Nat.reduceBEq, Nat.reduceAdd, ↓reduceIte, load_ptr, hP1, hlP1, kfv, hlen, hx, hld, hst, hld4, ty26, ty24]
    refine leave_pure rfl ?_ ?_
    · rw [List.take_set_of_le (by omega)]; exact ht3
    · have fm : freezeV (H3.set (h.length + 1) (.cells [mv, lv, fv] 0)) h.length 39 mv = some (.lst (memsL p.mems) (ownZ p.mroom 3) (ownR p.mroom)) := by
        rw [hmv]; exact imm_freeze _ _ 4 _ (imm_mems _ _ _) 39 (by omega)
      rw [freeze_aggv, mapO_cons, fm, mapO_cons, fl, mapO_cons, hff, mapO_nil]
      rfl
  have hL1 : ∀ (H3 : Heap), (∀ x, x < H1.length → h.length + 2 ≤ x → x < (h ++ [AObj.cells p.cells 0, .cells [.lst [] 0 .nil, .lst [] 0 .nil, .lst [] 0 .nil] 0] ++ X1).length → H3[x]? = H1[x]?) → freezeV (H3.set (h.length + 1) (.cells [mv, lv, fv] 0)) h.length 39 lv = some (.lst (strL p.locks) (ownZ p.lroom 1) (ownR p.lroom)) := fun H3 hk => by
    rcases d1 with ⟨h1, rfl, h3, _⟩ | ⟨h1, o, cap, rfl, h3, h4⟩
    · rw [h3, ownZ, ownR, if_pos h1, if_pos h1]; rfl
    · have ho := obj_some h4
      have hol : h.length + 2 ≤ o := by simp at h3; omega
      have h5 : Heap.obj (h ++ [AObj.cells p.cells 0, .cells [.lst [] 0 .nil, .lst [] 0 .nil, .lst [] 0 .nil] 0] ++ X1 ++ X2) o 0 = some (flatC (strL p.locks)) := obj_leftS X2 h4
      have ho5 := obj_some h5
      have h6 : H1.obj o 0 = some (flatC (strL p.locks)) := obj_of h5 (hk1 o hol ho5)
      have h7 : Heap.obj (H3.set (h.length + 1) (.cells [mv, AV.msl o 0 (strL p.locks).length 1 0 cap, fv] 0)) o 0 = some (flatC (strL p.locks)) := (obj_setn _ (by omega)).trans (obj_of h6 (hk o (obj_some h6) hol ho))
      have hfp : flatC (strL p.locks) = strL p.locks := flatC_plain (plain_strs _)
      rw [freeze_flat (ys := strL p.locks) h7 (by omega) (by rw [hfp]; omega) (by rw [hfp]; exact freeze_deads _ _ 37 (plain_dead (plain_strs _))) (by rw [hfp]; exact group_plain (plain_strs _)), ownZ, ownR, if_neg h1, if_neg h1]
  rcases d2 with ⟨h1, rfl, h3, _⟩ | ⟨h1, oF, capF, rfl, h3, h4⟩
  · have hfn : p.funs = [] := hn.funs h1
    refine key H1 .junk .junk .junk (.int .i64 0) (.int .i64 0) (.bool false) .junk .junk .junk .junk ?_ hP1 hR1 ?_ (hL1 H1 fun _ _ _ _ => rfl) ?_
    · rw [hfn]
      simp only [List.length_nil, Int.natCast_zero]
      rw [exec_loop]
      simp only [l28_0, F28, Tryz.f28, sxAll, cA, arithA, Env.keep, ↓Option.bind_some, Nat.reduceBEq, Int.reduceLT, ↓reduceIte]
    · rw [hH1]; simp
    · rw [hfn, ownZ, ownR, if_pos h1, if_pos h1]; rfl
  · have hoF0 := obj_some h4
    have hF2 : h.length + 2 ≤ oF := by simp at h3; omega
    have hF1 : H1.obj oF 0 = some (flatC (funsL p.funs)) := obj_of h4 (hk1 oF hF2 hoF0)
    have hoF := obj_some hF1
    have hfx0 : funX p.funs [] = funsL p.funs := by cases p.funs <;> rfl
    have O0 : OI h H1 (fun x => if x = h.length then .mem else if x = oF then .cArr else .other) h.length mv lv oF capF p.funs [] := {
      prog := by rw [hP1, funsL_len]
      progR := by simp
      funs := by rw [hfx0]; exact hF1
      funsR := by simp; omega
      done := fun j v F hv _ => by simp at hv
      keep := fun x hx => by rw [if_neg (by omega), if_neg (by omega)]
      le := by omega
      fresh := fun x hx => by rw [if_neg (by omega), if_neg (by omega)] }
    obtain ⟨⟨oo, ee, H3⟩, hx, H3', ρ', cs', t3, t4, t5, t22, t41, t42, t43, t44, hq, hcl, O, hle, hρ, hkeep⟩ := own_outer p.funs hs.funs (fun F hF => ⟨hn.code F hF, hs.code F hF, fun i hi => ⟨hn.args F hF i hi, hs.args F hF i hi⟩⟩) h.length mv lv oF capF h p.funs 0 (by simp) (by omega) H1 _ [] rfl O0 (.agg p.cells) (.ptr (h.length + 1) 0 0) .junk .junk .junk .junk .junk .junk .junk .junk
    simp only [Prod.mk.injEq] at hq
    obtain ⟨rfl, rfl, rfl⟩ := hq
    have hne : ∀ x, x < H1.length → x ≠ oF → H3[x]? = H1[x]? := fun x hx hn' => hkeep x hx (by
      by_cases hc : x = h.length
      · simp [hc]
      · simp [hc, hn'])
    have hR3 : H3.obj (h.length + 1) 0 = some [.lst [] 0 .nil, .lst [] 0 .nil, .lst [] 0 .nil] := obj_of hR1 (hne _ (by omega) (by omega))
    have hr1 : ρ' (h.length + 1) = .other := (hρ _ (by omega)).trans (by rw [if_neg (by omega), if_neg (by omega)])
    rw [funsL_len] at *
    refine key H3 t3 t4 t5 _ _ t22 t41 t42 t43 t44 (by simpa using hx) O.prog hR3 ?_ (hL1 H3 fun x hx hx2 hx3 => hne x hx (by simp at hx3 h3; omega)) ?_
    · apply List.ext_getElem?
      intro x
      by_cases hxl : x < h.length
      · rw [List.getElem?_take_of_lt hxl, hne x (by omega) (by omega), hold1 x hxl]
      · rw [List.getElem?_eq_none (by simp; omega), List.getElem?_eq_none (by omega)]
    · have hFs : Heap.obj (H3.set (h.length + 1) (.cells [mv, lv, .msl oF 0 p.funs.length 5 0 capF] 0)) oF 0 = some (flatC (funX p.funs cs')) := (obj_setn _ (by omega)).trans O.funs
      have hfl : (flatC (funX p.funs cs')).length = p.funs.length * 5 := by rw [flatC_len (funX_size _ _), funX_len _ _ (by omega)]
      have hfz := freeze_funX (H := H3.set (h.length + 1) (.cells [mv, lv, .msl oF 0 p.funs.length 5 0 capF] 0)) (n := h.length) p.funs cs' hcl (fun j v F hv hF => by
        refine freeze_code (ρ := ρ') (j := j) ?_ O.keep
        rcases O.done j v F hv hF with g1 | ⟨g1, o, cap, g2, g3, g4⟩
        · exact .inl g1
        · exact .inr ⟨g1, o, cap, g2, (obj_setn _ (fun hc => by rw [hc, hr1] at g4; cases g4)).trans g3, g4⟩)
      have hgf := group_funs (p.funs.map ownF)
      rw [List.length_map] at hgf
      rw [freeze_flat (ys := funsL (p.funs.map ownF)) hFs (by omega) hfl hfz hgf, ownZ, ownR, if_neg h1, if_neg h1]
end
end Go.Proofs.Sx
