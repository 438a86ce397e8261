/-
  package step: 'ownProg': a program in new memory.
-/
import Derived.Test.YthljjckomhnhoaaGreatDoorPtN
set_option linter.unusedSectionVars false
set_option linter.unusedSimpArgs false
set_option linter.unusedVariables false
set_option linter.defProp false
set_option maxHeartbeats 8000000
set_option maxRecDepth 100000
namespace Go.Proofs.Sx
open Go.Rv Go.Proofs
attribute [local congr] bind_left got_left
noncomputable section
theorem pu25 : cfg.pure 25 = true := rfl
instance t25_1 : Tg cfg 25 1 := tgS rfl
instance t25_2 : Tg cfg 25 2 := tgS rfl
instance t25_3 : Tg cfg 25 3 := tgS rfl
instance t25_4 : Tg cfg 25 4 := tgS rfl
instance t25_5 : Tg cfg 25 5 := tgS rfl
instance t25_6 : Tg cfg 25 6 := tgS rfl
instance t25_7 : Tg cfg 25 7 := tgS rfl
instance t25_8 : Tg cfg 25 8 := tgS rfl
instance t25_9 : Tg cfg 25 9 := tgS rfl
instance t25_10 : Tg cfg 25 10 := tgS rfl
instance t25_12 : Tg cfg 25 12 := tgS rfl
instance t25_13 : Tg cfg 25 13 := tgS rfl
instance t25_15 : Tg cfg 25 15 := tgS rfl
instance t25_16 : Tg cfg 25 16 := tgS rfl
instance t25_17 : Tg cfg 25 17 := tgS rfl
instance t25_18 : Tg cfg 25 18 := tgS rfl
instance t25_19 : Tg cfg 25 19 := tgS rfl
instance t25_20 : Tg cfg 25 20 := tgS rfl
instance t25_21 : Tg cfg 25 21 := tgS rfl
instance t25_22 : Tg cfg 25 22 := tgS rfl
instance t25_23 : Tg cfg 25 23 := tgS rfl
instance t25_24 : Tg cfg 25 24 := tgS rfl
instance t25_25 : Tg cfg 25 25 := tgS rfl
instance t25_26 : Tg cfg 25 26 := tgS rfl
instance t25_27 : Tg cfg 25 27 := tgS rfl
instance t25_28 : Tg cfg 25 28 := tgS rfl
instance t25_29 : Tg cfg 25 29 := tgS rfl
instance t25_30 : Tg cfg 25 30 := tgS rfl
instance t25_31 : Tg cfg 25 31 := tgS rfl
instance t25_32 : Tg cfg 25 32 := tgS rfl
instance t25_34 : Tg cfg 25 34 := tgS rfl
instance t25_35 : Tg cfg 25 35 := tgS rfl
instance t25_36 : Tg cfg 25 36 := tgS rfl
instance t25_37 : Tg cfg 25 37 := tgS rfl
instance t25_38 : Tg cfg 25 38 := tgS rfl
instance t25_39 : Tg cfg 25 39 := tgS rfl
instance t25_40 : Tg cfg 25 40 := tgS rfl
instance t25_41 : Tg cfg 25 41 := tgS rfl
instance t25_42 : Tg cfg 25 42 := tgS rfl
instance t25_43 : Tg cfg 25 43 := tgS rfl
instance t25_44 : Tg cfg 25 44 := tgS rfl
instance t25_45 : Tg cfg 25 45 := tgS rfl
instance t25_46 : Tg cfg 25 46 := tgS rfl
instance t25_47 : Tg cfg 25 47 := tgS rfl
instance t25_48 : Tg cfg 25 48 := tgS rfl
instance t25_49 : Tg cfg 25 49 := tgS rfl
instance t25_50 : Tg cfg 25 50 := tgS rfl
instance t25_51 : Tg cfg 25 51 := tgS rfl
instance t25_52 : Tg cfg 25 52 := tgS rfl
instance t25_53 : Tg cfg 25 53 := tgS rfl
instance t25_54 : Tg cfg 25 54 := tgS rfl
instance t25_55 : Tg cfg 25 55 := tgS rfl
instance t25_56 : Tg cfg 25 56 := tgS rfl
instance t25_57 : Tg cfg 25 57 := tgS rfl
instance t25_58 : Tg cfg 25 58 := tgS rfl
instance t25_59 : Tg cfg 25 59 := tgS rfl
instance t25_60 : Tg cfg 25 60 := tgS rfl
instance t25_61 : Tg cfg 25 61 := tgS rfl
instance t25_62 : Tg cfg 25 62 := tgS rfl
instance t25_2000_11 : TightD cfg 25 (some (2000 + 11)) := tgS rfl
instance t25_2000_14 : TightD cfg 25 (some (2000 + 14)) := tgS rfl
instance t25_2000_33 : TightD cfg 25 (some (2000 + 33)) := tgS rfl
instance t25_2000_47 : TightD cfg 25 (some (2000 + 47)) := tgS rfl
instance t25_2000_57 : TightD cfg 25 (some (2000 + 57)) := tgS rfl
instance t25_2000_62 : TightD cfg 25 (some (2000 + 62)) := tgS rfl
instance t25_2000_8 : TightD cfg 25 (some (2000 + 8)) := tgS rfl
instance t25_n : TightD cfg 25 none := tgN
def B25 (p : List Bool) := cA p Tryz.f25.body
def R25 (p : List Bool) (i : Nat) := Code.region i (cA p Tryz.f25.body) false
def D25 (p : List Bool) (i : Nat) := Code.region i (cA p Tryz.f25.body) true
theorem F25 : (∀ p i, XR cfg 25 (R25 p i) (B25 p) (cA p Tryz.f25.body).toList i false) /\ cfg.imm 25 1 = false /\ XR cfg 25 (D25 [tt, ff] 1) (B25 [tt, ff]) (pickL (cA [tt, ff] Tryz.f25.body).toList [0, 1, 3, 4, 6, 7, 2, 9, 5, 8, 10, 11, 12, 13, 14]) 1 true /\ XR cfg 25 (D25 [tt, tt, ff, tt, ff, ff, tt, tt, ff, ff, tt, ff] 5) (B25 [tt, tt, ff, tt, ff, ff, tt, tt, ff, ff, tt, ff]) ((cA [tt, tt, ff, tt, ff, ff, tt, tt, ff, ff, tt, ff] Tryz.f25.body).toList) 5 true /\ XR cfg 25 (D25 [tt, tt, ff, tt, ff, ff, tt, tt, ff, ff, tt, tt, tt, ff, ff, tt, tt, ff, ff, tt] 9) (B25 [tt, tt, ff, tt, ff, ff, tt, tt, ff, ff, tt, tt, tt, ff, ff, tt, tt, ff, ff, tt]) ((cA [tt, tt, ff, tt, ff, ff, tt, tt, ff, ff, tt, tt, tt, ff, ff, tt, tt, ff, ff, tt] Tryz.f25.body).toList) 9 true /\ RE cfg 25 [0, 1, 2, 3, 4, 5, 20, 21, 22, 41, 42, 43, 44] /\ cfg.pure 25 = true := ⟨fun _ _ => xr rfl rfl, by kernel_rfl, xd (by kernel_rfl) rfl rfl, xd (by kernel_rfl) rfl rfl, xd (by kernel_rfl) rfl rfl, rE fun _ => rfl, rfl⟩
theorem lo25_11 : cfg.loose 25 11 = lo 25 11 := rfl
theorem lo25_14 : cfg.loose 25 14 = lo 25 14 := rfl
theorem lo25_33 : cfg.loose 25 33 = lo 25 33 := rfl
theorem lb25_1_11_6 (e : Env) (h : Heap) : looseB cfg 25 (B25 [tt, ff]) e h 6 = (((known (e.get 1)).bind fun x => fieldAddrA cfg h 26 x 2).map fun v => AV.eqb v (e.get 12)).getD false := lb_fieldAddr rfl
theorem lb25_1_11_7 (e : Env) (h : Heap) : looseB cfg 25 (B25 [tt, ff]) e h 7 = (((known (e.get 12)).bind fun x => loadA cfg h 24 x).map fun v => AV.eqb v (e.get 13)).getD false := lb_load rfl rfl
theorem lb25_1_11_9 (e : Env) (h : Heap) : looseB cfg 25 (B25 [tt, ff]) e h 9 = (((known (e.get 1)).bind fun x => fieldAddrA cfg h 26 x 0).map fun v => AV.eqb v (e.get 15)).getD false := lb_fieldAddr rfl
theorem la25_11 (e : Env) (h : Heap) : looseAll cfg 25 (B25 [tt, ff]) (some 11) e h = (((((known (e.get 1)).bind fun x => fieldAddrA cfg h 26 x 2).map fun v => AV.eqb v (e.get 12)).getD false) && (((((known (e.get 12)).bind fun x => loadA cfg h 24 x).map fun v => AV.eqb v (e.get 13)).getD false) && (((((known (e.get 1)).bind fun x => fieldAddrA cfg h 26 x 0).map fun v => AV.eqb v (e.get 15)).getD false)))) := by simp only [looseAll, lo25_11, lo, List.all_cons, List.all_nil, Bool.and_true, lb25_1_11_6, lb25_1_11_7, lb25_1_11_9]
theorem lb25_1_14_9 (e : Env) (h : Heap) : looseB cfg 25 (B25 [tt, ff]) e h 9 = (((known (e.get 1)).bind fun x => fieldAddrA cfg h 26 x 0).map fun v => AV.eqb v (e.get 15)).getD false := lb_fieldAddr rfl
theorem la25_14 (e : Env) (h : Heap) : looseAll cfg 25 (B25 [tt, ff]) (some 14) e h = (((((known (e.get 1)).bind fun x => fieldAddrA cfg h 26 x 0).map fun v => AV.eqb v (e.get 15)).getD false)) := by simp only [looseAll, lo25_14, lo, List.all_cons, List.all_nil, Bool.and_true, lb25_1_14_9]
theorem lb25_5_33_0 (e : Env) (h : Heap) : looseB cfg 25 (B25 [tt, tt, ff, tt, ff, ff, tt, tt, ff, ff, tt, ff]) e h 0 = (((known (e.get 1)).bind fun x => fieldAddrA cfg h 26 x 2).map fun v => AV.eqb v (e.get 24)).getD false := lb_fieldAddr rfl
theorem lb25_5_33_1 (e : Env) (h : Heap) : looseB cfg 25 (B25 [tt, tt, ff, tt, ff, ff, tt, tt, ff, ff, tt, ff]) e h 1 = (((known (e.get 24)).bind fun x => loadA cfg h 24 x).map fun v => AV.eqb v (e.get 25)).getD false := lb_load rfl rfl
theorem la25_33 (e : Env) (h : Heap) : looseAll cfg 25 (B25 [tt, tt, ff, tt, ff, ff, tt, tt, ff, ff, tt, ff]) (some 33) e h = (((((known (e.get 1)).bind fun x => fieldAddrA cfg h 26 x 2).map fun v => AV.eqb v (e.get 24)).getD false) && (((((known (e.get 24)).bind fun x => loadA cfg h 24 x).map fun v => AV.eqb v (e.get 25)).getD false))) := by simp only [looseAll, lo25_33, lo, List.all_cons, List.all_nil, Bool.and_true, lb25_5_33_0, lb25_5_33_1]
def l25_1 : Code := (.seq (R25 [tt, tt, ff, tt, ff, ff, tt, tt, ff, ff, tt, tt, tt, ff, ff, ff] 7) (.seq (.cond (.tmp 44) .skip (.exit 2)) (.seq (.block 3 (.seq (R25 [tt, tt, ff, tt, ff, ff, tt, tt, ff, ff, tt, tt, tt, ff, ff, tt, tt, ff, ff, ff] 8) (D25 [tt, tt, ff, tt, ff, ff, tt, tt, ff, ff, tt, tt, tt, ff, ff, tt, tt, ff, ff, tt] 9))) (R25 [tt, tt, ff, tt, ff, ff, tt, tt, ff, ff, tt, tt, tt, ff, ff, tt, tt, tt] 10))))
def l25_0 : Code := (.seq (R25 [tt, tt, ff, tt, ff, ff, ff] 3) (.seq (.cond (.tmp 22) .skip (.exit 0)) (.seq (.block 1 (.seq (R25 [tt, tt, ff, tt, ff, ff, tt, tt, ff, ff, ff] 4) (.seq (D25 [tt, tt, ff, tt, ff, ff, tt, tt, ff, ff, tt, ff] 5) (.seq (R25 [tt, tt, ff, tt, ff, ff, tt, tt, ff, ff, tt, tt, ff] 6) (.block 2 (.loop l25_1)))))) (R25 [tt, tt, ff, tt, ff, ff, tt, tt, tt] 11))))
def k25 : Code := (.seq (R25 [ff] 0) (.seq (D25 [tt, ff] 1) (.seq (.seq (R25 [tt, tt, ff, ff] 2) (.block 0 (.loop l25_0))) (.seq (R25 [tt, tt, tt, ff] 12) .ret))))
theorem call25 (x0 : AV) (h : Heap) : call cfg 25 [x0] h = (exec cfg 25 k25 [(0, x0)] h).bind (callEnd cfg 25 h [.cell 2 26]) := call_at2 (fnat Tryz.func25 (b := k25) (by kernel_rfl) (by kernel_rfl)) rfl rfl
def ownI (i : SIns) : SIns := { i with z := ownZ i.room 1, room := ownR i.room }
def ownF (F : SFun) : SFun := { F with code := F.code.map ownI, cz := ownZ F.room 6, room := ownR F.room }
def ownP (p : SProg) : SProg := { mems := p.mems, mz := ownZ p.mroom 3, mroom := ownR p.mroom, locks := p.locks, lz := ownZ p.lroom 1, lroom := ownR p.lroom, funs := p.funs.map ownF, fz := ownZ p.froom 5, froom := ownR p.froom }
structure SProg.nils (p : SProg) : Prop where
 mems : p.mroom = .nil -> p.mems = []
 locks : p.lroom = .nil -> p.locks = []
 funs : p.froom = .nil -> p.funs = []
 code : ∀ F ∈ p.funs, F.room = .nil -> F.code = []
 args : ∀ F ∈ p.funs, ∀ i ∈ F.code, i.room = .nil -> i.args = []
theorem flat_split {xs : List AV} {k z : Nat} {x : AV} (hk : xs[k]? = some x) (H : ∀ x ∈ xs, x.cells.length = z) : (flatC xs).drop (k * z) = x.cells ++ flatC (xs.drop (k + 1)) := by
 rw [flatC_at hk]
 exact List.drop_left' (flatC_take hk H)
def insX (l : List SIns) (k : Nat) : List AV := codeL ((l.take k).map ownI ++ l.drop k)
theorem insX_get {l : List SIns} {k : Nat} {i : SIns} (h : l[k]? = some i) : (insX l k)[k]? = some (.agg i.cells) := by
 have hk := (qAu.1 h).1
 apply codeL_get
 rw [qAy (by simp; omega)]
 simp only [qBn, List.length_take, Nat.min_eq_left (Nat.le_of_lt hk), Nat.sub_self, List.getElem?_drop, Nat.add_zero]
 exact h
theorem insX_set {l : List SIns} {k : Nat} {i : SIns} (h : l[k]? = some i) : (insX l k).set k (.agg (ownI i).cells) = insX l (k + 1) := by
 have hk := (qAu.1 h).1
 unfold insX codeL
 rw [← List.map_set]
 congr 1
 rw [List.set_append_right _ _ (by simp; omega)]
 simp only [qBn, List.length_take, Nat.min_eq_left (Nat.le_of_lt hk), Nat.sub_self]
 rw [qBs hk, List.set_cons_zero, List.take_add_one, h]
 simp
theorem insX_len {l : List SIns} {k : Nat} : (insX l k).length = l.length := by simp [insX, codeL]; omega
theorem insX_cells {l : List SIns} {k : Nat} : ∀ x ∈ insX l k, x.cells.length = 6 := fun x hx => by
 simp only [insX, codeL, qBl] at hx
 obtain ⟨i, _, rfl⟩ := hx
 rfl
section
variable {H : Heap} {oP oF oK n k : Nat} {mv lv t0 t2 t4 t20 t21 t22 : AV} {capF capK : Option Nat} {l : List SIns} {xs : List AV} {a b c d : AV}
theorem own_inner (hlen : l.length < 1000000) (hargs : ∀ i ∈ l, (i.room = .nil -> i.args = []) /\ i.args.length < 1000000000) (hk : xs[k]? = some (.agg [a, b, c, d, .msl oK 0 l.length 6 0 capK])) (hx5 : ∀ x ∈ xs, x.cells.length = 5) (hkn : k < n) (hKF : oK ≠ oF) (hKP : oK ≠ oP) : ∀ (ys : List SIns) (j : Nat), l.drop j = ys -> j <= l.length -> ∀ (H : Heap), H.obj oP 0 = some [mv, lv, .msl oF 0 n 5 0 capF] -> H.obj oF 0 = some (flatC xs) -> H.obj oK 0 = some (flatC (insX l j)) -> ∀ e f g,
  Got (exec cfg 25 (.loop l25_1) [(0, t0), (1, .ptr oP 0 0), (2, t2), (3, .int .i64 k), (4, e), (5, f), (20, t20), (21, t21), (22, t22), (41, .msl oK 0 l.length 6 0 capK), (42, .int .i64 l.length), (43, .int .i64 j), (44, g)] H) (fun q => ∃ (H' : Heap) (e' f' g' : AV), q = (.exit 2, [(0, t0), (1, .ptr oP 0 0), (2, t2), (3, .int .i64 k), (4, e'), (5, f'), (20, t20), (21, t21), (22, t22), (41, .msl oK 0 l.length 6 0 capK), (42, .int .i64 l.length), (43, .int .i64 l.length), (44, g')], H') /\
   H'.obj oK 0 = some (flatC (insX l l.length)) /\ H.length <= H'.length /\ ∀ x, x < H.length -> x ≠ oK -> H'[x]? = H[x]?) := by
 intro ys
 induction ys with
 | nil =>
  intro j hd hj H hP hF hK e f g
  have hle : l.length <= j := by simpa using hd
  obtain rfl : j = l.length := by omega
  rw [got_loop]
  simp only [l25_1, F25, Tryz.f25, sxAll, cA, arithA, Env.keep, ↓qAe, Nat.reduceBEq, ↓reduceIte, Nat.lt_irrefl]
  exact ⟨_, _, _, _, rfl, hK, qAr _, fun _ _ _ => rfl⟩
 | cons y s ih =>
  intro j hd hj H hP hF hK e f g
  obtain ⟨hlt, hget, hd'⟩ := at_drop hd
  have hlt' : j < l.length := by simpa using hlt
  have hw := wrap_succ (i := j) (by omega)
  have hlP := live_of hP
  have hlF := live_of hF
  have hlK := live_of hK
  have hxj := insX_get hget
  have hsp := flat_split hxj insX_cells
  have hil : (flatC (insX l j)).length = l.length * 6 := by rw [flatC_len insX_cells, insX_len]
  have hya := hargs y (qBj hget)
  have ix1 : indexAddrA cfg H 37 (.msl oK 0 l.length 6 0 capK) (.int .i64 j) = some (.ptr oK (j * 6) 0) := by
   have hh : ¬ (j : Int) < 0 := by omega
   simp [indexAddrA, ty37, ty41, hlK, hh, hlt']
  have ld1 : loadA cfg H 41 (.ptr oK (j * 6) 0) = some (.agg y.cells) := by
   have hc : ((AV.agg y.cells).cells) = y.cells := rfl
   have hl6 : y.cells.length = 6 := rfl
   have : 6 <= ((flatC (insX l j)).drop (j * 6)).length := by rw [hsp, hc]; simp [hl6]
   simp only [loadA, ty41, cellsAt, hK, qAo, Rv.part, TD.isAgg, if_true, qAd, qAe, this]
   rw [hsp, hc, List.take_left' hl6]
  have hP1 := obj_leftS [AObj.cells y.cells 0] hP
  have hF1 := obj_leftS [AObj.cells y.cells 0] hF
  have hK1 := obj_leftS [AObj.cells y.cells 0] hK
  have hlP1 := live_of hP1
  have hlF1 := live_of hF1
  have hlK1 := live_of hK1
  have hsv : ∀ q1 q2 q3 q4 q5 q6, storeA cfg (H ++ [AObj.cells [q1, q2, q3, q4, q5, q6] 0]) 41 (.ptr H.length 0 0) (.agg y.cells) = some (H ++ [AObj.cells y.cells 0]) := fun q1 q2 q3 q4 q5 q6 => by
   simp [storeA, ty41, obj_app0, obj_zero, AV.cells, SIns.cells, AV.leaf, setCells]
  have hix : ∀ h, Heap.live h oF 0 = true -> indexAddrA cfg h 24 (.msl oF 0 n 5 0 capF) (.int .i64 k) = some (.ptr oF (k * 5) 0) := fun h hl => by
   have hh : ¬ (k : Int) < 0 := by omega
   simp [indexAddrA, ty24, ty39, hl, hh, hkn]
  have hix1 := hix _ hlF1
  have hdF : ((flatC xs).drop (k * 5 + 4)).head? = some (.msl oK 0 l.length 6 0 capK) := by
   rw [flat_drop hk hx5 (by simp)]; rfl
  have ix2 : indexAddrA cfg (H ++ [AObj.cells y.cells 0]) 37 (.msl oK 0 l.length 6 0 capK) (.int .i64 j) = some (.ptr oK (j * 6) 0) := by
   have hh : ¬ (j : Int) < 0 := by omega
   simp [indexAddrA, ty37, ty41, hlK1, hh, hlt']
  have hcl := cloneI_lst (intL y.args) y.z y.room (H ++ [AObj.cells y.cells 0]) (fun h => by rw [hya.1 h]; rfl) (fun x hx => (plain_ints y.args).leafs x hx) (by simpa [intL] using hya.2) (by rw [flatC_intL]; exact plain_dead (plain_ints _)) (by rw [flatC_intL]; exact group_plain (plain_ints _))
  have hst : storeA cfg (H ++ [AObj.cells y.cells 0]) 27 (.ptr oK (j * 6 + 5) 0) (.lst (intL y.args) (ownZ y.room 1) (ownR y.room)) = some ((H ++ [AObj.cells y.cells 0]).set oK (.cells (flatC (insX l (j + 1))) 0)) := by
   rw [store1 ty27 hK1 (off := j * 6 + 5) (by rw [hil]; omega) rfl rfl, flat_set hxj insX_cells (by show 5 < 6; omega)]
   have : (SIns.cells y).set 5 (.lst (intL y.args) (ownZ y.room 1) (ownR y.room)) = (ownI y).cells := rfl
   rw [this, insX_set hget]
  have hoK := obj_some hK
  have keep : ∀ x, x < H.length -> x ≠ oK -> ((H ++ [AObj.cells y.cells 0]).set oK (.cells (flatC (insX l (j + 1))) 0))[x]? = H[x]? := fun x hx hne => by
   rw [qAw (Ne.symm hne), qAx hx]
  have := ih (j + 1) hd' (by omega) ((H ++ [AObj.cells y.cells 0]).set oK (.cells (flatC (insX l (j + 1))) 0)) (obj_of hP (keep _ (obj_some hP) (Ne.symm hKP))) (obj_of hF (keep _ (obj_some hF) (Ne.symm hKF))) (obj_sets hK1 0)
  rw [got_loop]
  simp only [l25_1] at this ⊢
  simp only [SIns.cells] at ld1 hsv hP1 hF1 hlP1 hlF1 hlK1 hix1 ix2 hcl hst hK1
  simp only [SIns.cells, F25, Tryz.f25, sxAll, cA, arithA, Env.keep, qt_eq, fieldAddrA, Rv.part, TD.isAgg, mapO, ↓qAe, Nat.reduceBEq, Nat.reduceAdd, ↓reduceIte, hlt, ix1, ld1, hsv, load_ptr, hP1, hlP1, hF1, hlF1, hlK1, hix1, hdF, ix2, hcl, hst, hw, pu50, ty37, ty41, ty24, ty39, ty26, ty27] at this ⊢
  refine Got.mono (this _ _ _) fun q hq => ?_
  obtain ⟨H', e', f', g', h1, h2, h3, h4⟩ := hq
  refine ⟨H', e', f', g', h1, h2, by simp at h3; omega, fun x hx hne => ?_⟩
  rw [h4 x (by simp; omega) hne]
  exact keep x hx hne
end
end
end Go.Proofs.Sx
namespace Go.Proofs.Sx
open Go.Rv Go.Proofs
attribute [local congr] bind_left got_left
noncomputable section
def funC (F : SFun) (c : AV) : List AV := [.str F.name, .bool F.thread, .int .i64 F.params, .int .i64 F.regs, c]
def funX : List SFun -> List AV -> List AV
 | F :: r, c :: s => .agg (funC F c) :: funX r s
 | l, [] => funsL l
 | [], _ => []
theorem funX_get : ∀ {l : List SFun} {cs : List AV} {F : SFun}, l[cs.length]? = some F -> (funX l cs)[cs.length]? = some (.agg F.cells)
 | l, [], F, h => by
  have : funX l [] = funsL l := by cases l <;> rfl
  rw [this]; exact funsL_get h
 | F' :: r, c :: s, F, h => by
  simp only [funX, qAv, List.getElem?_cons_succ] at h ⊢
  exact funX_get h
 | [], c :: s, F, h => by simp at h
theorem funX_set : ∀ {l : List SFun} {cs : List AV} {F : SFun} (v : AV), l[cs.length]? = some F -> (funX l cs).set cs.length (.agg (funC F v)) = funX l (cs ++ [v])
 | F' :: r, [], F, v, h => by
  simp only [List.length_nil, qBe, qAf] at h
  subst h
  cases r <;> rfl
 | F' :: r, c :: s, F, v, h => by
  simp only [qAv, List.getElem?_cons_succ] at h
  simp only [funX, qAv, List.set_cons_succ, qBr, funX_set v h]
 | [], [], F, v, h => by simp at h
 | [], c :: s, F, v, h => by simp at h
theorem funX_size : ∀ (l : List SFun) (cs : List AV), ∀ x ∈ funX l cs, x.cells.length = 5
 | l, [], x, hx => by
  have : funX l [] = funsL l := by cases l <;> rfl
  rw [this] at hx
  simp only [funsL, qBl] at hx
  obtain ⟨F, _, rfl⟩ := hx
  rfl
 | F' :: r, c :: s, x, hx => by
  simp only [funX, qAj] at hx
  rcases hx with rfl | hx
  ·rfl
  ·exact funX_size r s x hx
 | [], c :: s, x, hx => by simp [funX] at hx
theorem funX_len : ∀ (l : List SFun) (cs : List AV), cs.length <= l.length -> (funX l cs).length = l.length
 | l, [], _ => by
  have : funX l [] = funsL l := by cases l <;> rfl
  rw [this, funsL_len]
 | F' :: r, c :: s, h => by simp only [funX, qAv, funX_len r s (by simpa using h)]
 | [], c :: s, h => by simp at h
def CodeAt (H : Heap) (ρ : Nat -> Role) (j : Nat) (v : AV) (F : SFun) : Prop :=
 (F.room = .nil /\ v = .lst [] 0 .nil /\ F.code = []) ∨ F.room ≠ .nil /\ ∃ o cap, v = .msl o 0 F.code.length 6 0 cap /\ H.obj o 0 = some (flatC (codeL (F.code.map ownI))) /\ ρ o = .cell j
structure OI (h H : Heap) (ρ : Nat -> Role) (oP : Nat) (mv lv : AV) (oF : Nat) (capF : Option Nat) (l : List SFun) (cs : List AV) : Prop where
 prog : H.obj oP 0 = some [mv, lv, .msl oF 0 l.length 5 0 capF]
 progR : ρ oP = .mem
 funs : H.obj oF 0 = some (flatC (funX l cs))
 funsR : ρ oF = .cArr
 done : ∀ (j : Nat) v F, cs[j]? = some v -> l[j]? = some F -> CodeAt H ρ j v F
 keep : ∀ x, x < h.length -> ρ x = .other
 le : h.length <= H.length
 fresh : ∀ o, H.length <= o -> ρ o = .other
theorem codeL_size (l : List SIns) : ∀ x ∈ codeL l, x.cells.length = 6 /\ x.cells.all AV.leaf = true := fun x hx => by
 simp only [codeL, qBl] at hx
 obtain ⟨i, _, rfl⟩ := hx
 exact ⟨rfl, rfl⟩
theorem own_outer (l : List SFun) (hl : l.length < 1000000) (hc : ∀ F ∈ l, (F.room = .nil -> F.code = []) /\ F.code.length < 1000000 /\ ∀ i ∈ F.code, (i.room = .nil -> i.args = []) /\ i.args.length < 1000000000) (oP : Nat) (mv lv : AV) (oF : Nat) (capF : Option Nat) (h : Heap) : ∀ (ys : List SFun) (k : Nat), l.drop k = ys -> k <= l.length -> ∀ (H : Heap) (ρ : Nat -> Role) (cs : List AV), cs.length = k -> OI h H ρ oP mv lv oF capF l cs -> ∀ t0 t2 t3 t4 t5 t22 t41 t42 t43 t44,
    Got (exec cfg 25 (.loop l25_0) [(0, t0), (1, .ptr oP 0 0), (2, t2), (3, t3), (4, t4), (5, t5), (20, .int .i64 l.length), (21, .int .i64 k), (22, t22), (41, t41), (42, t42), (43, t43), (44, t44)] H) (fun q => ∃ (H' : Heap) (ρ' : Nat -> Role) (cs' : List AV) (t3' t4' t5' t22' t41' t42' t43' t44' : AV), q = (.exit 0, [(0, t0), (1, .ptr oP 0 0), (2, t2), (3, t3'), (4, t4'), (5, t5'), (20, .int .i64 l.length), (21, .int .i64 l.length), (22, t22'), (41, t41'), (42, t42'), (43, t43'), (44, t44')], H') /\
      cs'.length = l.length /\ OI h H' ρ' oP mv lv oF capF l cs' /\ H.length <= H'.length /\ (∀ x, x < H.length -> ρ' x = ρ x) /\ ∀ x, x < H.length -> ρ x ≠ .cArr -> H'[x]? = H[x]?) := by
  intro ys
  induction ys with
  | nil =>
    intro k hd hk H ρ cs hcs O t0 t2 t3 t4 t5 t22 t41 t42 t43 t44
    have hle : l.length <= k := by simpa using hd
    obtain rfl : k = l.length := by omega
    rw [got_loop]
    simp only [l25_0, F25, Tryz.f25, sxAll, cA, arithA, Env.keep, ↓qAe, Nat.reduceBEq, ↓reduceIte, Nat.lt_irrefl]
    exact ⟨_, _, _, _, _, _, _, _, _, _, _, rfl, hcs, O, qAr _, fun _ _ => rfl, fun _ _ _ => rfl⟩
  | cons F s ih =>
    intro k hd hk H ρ cs hcs O t0 t2 t3 t4 t5 t22 t41 t42 t43 t44
    obtain ⟨hlt, hget, hd'⟩ := at_drop hd
    have hlt' : k < l.length := by simpa using hlt
    have hw := wrap_succ (i := k) (by omega)
    have hFc := hc F (qBj hget)
    have hxk : (funX l cs)[k]? = some (.agg F.cells) := by rw [← hcs]; exact funX_get (by rw [hcs]; exact hget)
    have hP := O.prog
    have hF := O.funs
    have hlP := live_of hP
    have hlF := live_of hF
    have hix : ∀ h, Heap.live h oF 0 = true -> indexAddrA cfg h 24 (.msl oF 0 l.length 5 0 capF) (.int .i64 k) = some (.ptr oF (k * 5) 0) := fun h hl => by
      have hh : ¬ (k : Int) < 0 := by omega
      simp [indexAddrA, ty24, ty39, hl, hh, hlt']
    have hix1 := hix _ hlF
    have hdF : ((flatC (funX l cs)).drop (k * 5 + 4)).head? = some (.lst (codeL F.code) F.cz F.room) := by
      rw [flat_drop hxk (funX_size l cs) (by show 4 < 5; omega)]; rfl
    obtain ⟨v, X, q1, q2⟩ := cloneIns_lst (codeL F.code) F.cz F.room H (fun h => by rw [hFc.1 h]; rfl) (codeL_size _) (by rw [codeL_len]; have := hFc.2.1; omega)
    have hP1 := obj_leftS X hP
    have hF1 := obj_leftS X hF
    have hlP1 := live_of hP1
    have hlF1 := live_of hF1
    have hix2 := hix _ hlF1
    have hoP := obj_some hP
    have hoF := obj_some hF
    have hvl : v.cells = [v] /\ v.leaf = true /\ known v = some v := by
      rcases q2 with ⟨_, rfl, _⟩ | ⟨_, o, cap, rfl, _⟩ <;> exact ⟨rfl, rfl, rfl⟩
    have hst : storeA cfg (H ++ X) 37 (.ptr oF (k * 5 + 4) 0) v = some ((H ++ X).set oF (.cells (flatC (funX l (cs ++ [v]))) 0)) := by
      have hfl := flatC_len (funX_size l cs)
      rw [funX_len l cs (by omega)] at hfl
      rw [store1 ty37 hF1 (off := k * 5 + 4) (by rw [hfl]; omega) hvl.1 hvl.2.1, flat_set hxk (funX_size l cs) (by show 4 < 5; omega)]
      have e1 : (SFun.cells F).set 4 v = funC F v := rfl
      rw [e1, show k = cs.length from hcs.symm, funX_set v (by rw [hcs]; exact hget)]
    have hPF : oP ≠ oF := fun hc => by have := O.progR; rw [hc, O.funsR] at this; cases this
    have hP2 : Heap.obj ((H ++ X).set oF (.cells (flatC (funX l (cs ++ [v]))) 0)) oP 0 = some [mv, lv, .msl oF 0 l.length 5 0 capF] := (obj_setn _ hPF).trans hP1
    have hF2 : Heap.obj ((H ++ X).set oF (.cells (flatC (funX l (cs ++ [v]))) 0)) oF 0 = some (flatC (funX l (cs ++ [v]))) := obj_sets hF1 0
    have hlP2 := live_of hP2
    have hlF2 := live_of hF2
    have hix3 := hix _ hlF2
    have hxk2 : (funX l (cs ++ [v]))[k]? = some (.agg (funC F v)) := by
      rw [← funX_set v (by rw [hcs]; exact hget), hcs, qAz (by rw [funX_len l cs (by omega)]; exact hlt')]
    have hdF2 : ((flatC (funX l (cs ++ [v]))).drop (k * 5 + 4)).head? = some v := by
      rw [flat_drop hxk2 (funX_size l _) (by show 4 < 5; omega)]; rfl
    have fin : ∀ (H3 : Heap) (ρ3 : Nat -> Role), OI h H3 ρ3 oP mv lv oF capF l (cs ++ [v]) -> H.length <= H3.length -> (∀ x, x < H.length -> ρ3 x = ρ x) -> (∀ x, x < H.length -> ρ x ≠ .cArr -> H3[x]? = H[x]?) -> ∀ t3 t4 t5 t22 t41 t42 t43 t44,
        Got (exec cfg 25 (.loop l25_0) [(0, t0), (1, .ptr oP 0 0), (2, t2), (3, t3), (4, t4), (5, t5), (20, .int .i64 l.length), (21, .int .i64 ((k + 1 : Nat) : Int)), (22, t22), (41, t41), (42, t42), (43, t43), (44, t44)] H3) (fun q => ∃ (H' : Heap) (ρ' : Nat -> Role) (cs' : List AV) (t3' t4' t5' t22' t41' t42' t43' t44' : AV), q = (.exit 0, [(0, t0), (1, .ptr oP 0 0), (2, t2), (3, t3'), (4, t4'), (5, t5'), (20, .int .i64 l.length), (21, .int .i64 l.length), (22, t22'), (41, t41'), (42, t42'), (43, t43'), (44, t44')], H') /\
      cs'.length = l.length /\ OI h H' ρ' oP mv lv oF capF l cs' /\ H.length <= H'.length /\ (∀ x, x < H.length -> ρ' x = ρ x) /\ ∀ x, x < H.length -> ρ x ≠ .cArr -> H'[x]? = H[x]?) := fun H3 ρ3 O3 g1 g2 g3 t3 t4 t5 t22 t41 t42 t43 t44 => by
      refine Got.mono (ih (k + 1) hd' (by omega) H3 ρ3 (cs ++ [v]) (by simp [hcs]) O3 t0 t2 t3 t4 t5 t22 t41 t42 t43 t44) fun q hq => ?_
      obtain ⟨H', ρ', cs', t3', t4', t5', t22', t41', t42', t43', t44', e1, e2, e3, e4, e5, e6⟩ := hq
      exact ⟨H', ρ', cs', t3', t4', t5', t22', t41', t42', t43', t44', e1, e2, e3, by omega, fun x hx => (e5 x (by omega)).trans (g2 x hx), fun x hx hr => (e6 x (by omega) (by rw [g2 x hx]; exact hr)).trans (g3 x hx hr)⟩
    rw [got_loop]
    rcases q2 with ⟨r1, rfl, hnil, rfl⟩ | ⟨r1, o, cap, rfl, r3, r4⟩
    ·
      have hcode : F.code = [] := hFc.1 r1
      simp only [List.append_nil] at q1 hP1 hF1 hlP1 hlF1 hix2 hst hP2 hF2 hlP2 hlF2 hix3
      have O3 : OI h (H.set oF (.cells (flatC (funX l (cs ++ [AV.lst [] 0 .nil]))) 0)) ρ oP mv lv oF capF l (cs ++ [AV.lst [] 0 .nil]) := {
        prog := hP2
        progR := O.progR
        funs := hF2
        funsR := O.funsR
        done := fun j v F' hv hF' => by
          by_cases hj : j < k
          · rw [qAx (by omega)] at hv
            rcases O.done j v F' hv hF' with h1 | ⟨h1, o, cap, h2, h3, h4⟩
            · exact .inl h1
            · exact .inr ⟨h1, o, cap, h2, (obj_setn _ (fun hc => by rw [hc, O.funsR] at h4; cases h4)).trans h3, h4⟩
          · have hj' : j = k := by have := (qAu.1 hv).1; simp at this; omega
            subst hj'
            rw [qAy (by omega)] at hv
            simp only [hcs, Nat.sub_self, qBe, qAf] at hv
            rw [hget] at hF'; injection hF' with hF'
            subst hv hF'
            exact .inl ⟨r1, rfl, hcode⟩
        keep := O.keep
        le := by simpa using O.le
        fresh := fun x hx => O.fresh x (by simpa using hx) }
      have := fin _ ρ O3 (by simp) (fun _ _ => rfl) (fun x hx hr => by
        rw [qAw (by intro hc; rw [← hc] at hr; exact hr O.funsR)])
      have hin : ∀ e f g c3, exec cfg 25 (.loop l25_1) [(0, t0), (1, .ptr oP 0 0), (2, t2), (3, .int .i64 k), (4, e), (5, f), (20, .int .i64 l.length), (21, .int .i64 k), (22, g), (41, .lst [] 0 .nil), (42, .int .i64 0), (43, .int .i64 0), (44, c3)] (H.set oF (.cells (flatC (funX l (cs ++ [AV.lst [] 0 .nil]))) 0)) = some (.exit 2, [(0, t0), (1, .ptr oP 0 0), (2, t2), (3, .int .i64 k), (4, e), (5, f), (20, .int .i64 l.length), (21, .int .i64 k), (22, g), (41, .lst [] 0 .nil), (42, .int .i64 0), (43, .int .i64 0), (44, .bool false)], (H.set oF (.cells (flatC (funX l (cs ++ [AV.lst [] 0 .nil]))) 0))) := fun e f g c3 => by
        rw [exec_loop]
        simp only [l25_1, F25, Tryz.f25, sxAll, cA, arithA, Env.keep, ↓qAe, Nat.reduceBEq, Int.reduceLT, ↓reduceIte]
      simp only [l25_0] at this ⊢
      simp only [F25, Tryz.f25, sxAll, cA, arithA, Env.keep, qt_eq, fieldAddrA, Rv.part, TD.isAgg, mapO, ↓qAe, Nat.reduceBEq, Nat.reduceAdd, ↓reduceIte, load_ptr, hlt, hP, hlP, hF, hlF, hix1, hdF, q1, sx_callf_l, la25_33, eqb_self, hst, hP2, hlP2, hF2, hlF2, hix3, hdF2, lenA_lst, qBo, hin, hw, pu49, ty37, ty24, ty39, ty26] at this ⊢
      exact this _ _ _ _ _ _ _ _
    ·
      rw [codeL_len] at *
      have hins0 : insX F.code 0 = codeL F.code := by simp [insX]
      have hoF' : o ≠ oF := by omega
      have hoP' : o ≠ oP := by omega
      have hK2 : Heap.obj ((H ++ X).set oF (.cells (flatC (funX l (cs ++ [AV.msl o 0 F.code.length 6 0 cap]))) 0)) o 0 = some (flatC (insX F.code 0)) := by
        rw [hins0]; exact (obj_setn _ hoF').trans r4
      have ho := obj_some r4
      simp only [qBb] at ho
      obtain ⟨⟨oo, ee, H3⟩, hx, H4, e', f', g', hq, hK4, hle4, hkeep4⟩ := own_inner (t0 := t0) (t2 := t2) (t20 := .int .i64 l.length) (t21 := .int .i64 k) (t22 := .bool true) (hlen := hFc.2.1) (hargs := hFc.2.2) (hk := hxk2) (hx5 := funX_size l _) (hkn := hlt') hoF' hoP' F.code 0 (by simp) (by omega) _ hP2 hF2 hK2 t4 t5 t44
      simp only [qAg] at hq
      obtain ⟨rfl, rfl, rfl⟩ := hq
      simp only [List.length_set, qBb] at hle4 hkeep4
      have hup : ∀ x, x < H.length -> upd ρ o (.cell k) x = ρ x := fun x hx => upd_ne (by omega)
      have insF : insX F.code F.code.length = codeL (F.code.map ownI) := by simp [insX]
      have kk : ∀ x, x < H.length -> ρ x ≠ .cArr -> H3[x]? = H[x]? := fun x hx hr => by
        rw [hkeep4 x (by omega) (by omega), qAw (by intro hc; rw [← hc] at hr; exact hr O.funsR), qAx hx]
      have O3 : OI h H3 (upd ρ o (.cell k)) oP mv lv oF capF l (cs ++ [AV.msl o 0 F.code.length 6 0 cap]) := {
        prog := obj_of hP2 (hkeep4 oP (by omega) (Ne.symm hoP'))
        progR := (hup oP hoP).trans O.progR
        funs := obj_of hF2 (hkeep4 oF (by omega) (Ne.symm hoF'))
        funsR := (hup oF hoF).trans O.funsR
        done := fun j v F' hv hF' => by
          by_cases hj : j < k
          · rw [qAx (by omega)] at hv
            rcases O.done j v F' hv hF' with h1 | ⟨h1, o', cap', h2, h3, h4⟩
            · exact .inl h1
            · have ho' := obj_some h3
              exact .inr ⟨h1, o', cap', h2, obj_of h3 (kk o' ho' (by rw [h4]; simp)), (hup o' ho').trans h4⟩
          · have hj' : j = k := by have := (qAu.1 hv).1; simp at this; omega
            subst hj'
            rw [qAy (by omega)] at hv
            simp only [hcs, Nat.sub_self, qBe, qAf] at hv
            rw [hget] at hF'; injection hF' with hF'
            subst hv hF'
            exact .inr ⟨r1, o, cap, rfl, by rw [← insF]; exact hK4, upd_self _ _ _⟩
        keep := fun x hx => (hup x (by have := O.le; omega)).trans (O.keep x hx)
        le := by have := O.le; omega
        fresh := fun x hx => by rw [upd_ne (by omega)]; exact O.fresh x (by omega) }
      have := fin _ _ O3 (by omega) hup kk
      have lnv : lenA ((H ++ X).set oF (.cells (flatC (funX l (cs ++ [AV.msl o 0 F.code.length 6 0 cap]))) 0)) (.slice 41) (.msl o 0 F.code.length 6 0 cap) = some F.code.length := by simp [lenA, live_of hK2]
      simp only [qBo] at hx
      simp only [l25_0] at this ⊢
      simp only [F25, Tryz.f25, sxAll, cA, arithA, Env.keep, qt_eq, fieldAddrA, Rv.part, TD.isAgg, mapO, ↓qAe, Nat.reduceBEq, Nat.reduceAdd, ↓reduceIte, load_ptr, hlt, hP, hlP, hF, hlF, hix1, hdF, q1, sx_callf_l, la25_33, hP1, hlP1, eqb_self, hlF1, hix2, hst, hP2, hlP2, hF2, hlF2, hix3, hdF2, lnv, hx, hw, pu49, ty37, ty24, ty39, ty26] at this ⊢
      exact this _ _ _ _ _ _ _ _
end
end Go.Proofs.Sx
namespace Go.Proofs.Sx
open Go.Rv Go.Proofs
attribute [local congr] bind_left got_left
noncomputable section
theorem imm_ins (i : SIns) : ∀ c ∈ i.cells, immB 3 c = true := fun c hc => by
 simp only [SIns.cells, qAj, List.not_mem_nil, or_false] at hc
 rcases hc with rfl | rfl | rfl | rfl | rfl | rfl <;> first | rfl | skip
 simp [immB, intL]
theorem imm_code (l : List SIns) : ∀ c ∈ flatC (codeL l), immB 3 c = true := fun c hc => by
 simp only [flatC, codeL, List.mem_flatten, qBl] at hc
 obtain ⟨x, ⟨y, ⟨i, _, rfl⟩, rfl⟩, hc⟩ := hc
 exact imm_ins i c hc
theorem imm_mems (l : List SMem) (z : Nat) (r : Room) : immB 4 (.lst (memsL l) z r) = true := by
 simp only [immB, memsL, List.all_map, qBd]
 intro m _
 simp [SMem.cells]
theorem freeze_flat {h : Heap} {n d o sz len : Nat} {cap : Option Nat} {xs ys : List AV} (ho : h.obj o 0 = some (flatC xs)) (hn : n <= o) (hl : (flatC xs).length = len * sz) (hm : mapO (freezeV h n d) (flatC xs) = some (flatC ys)) (hg : group len (flatC ys) sz = ys) :
  freezeV h n (d + 1) (.msl o 0 len sz 0 cap) = some (.lst ys sz .open) := by
 show (if o < n then some (AV.msl o 0 len sz 0 cap) else _) = _
 rw [if_neg (by omega)]
 simp only [ho, qAd, qAe, qBg, hl, qAr, if_true, qBf]
 rw [qBi (by omega), hm]
 simp only [qAe, hg]
theorem group_code (l : List SIns) : group l.length (flatC (codeL l)) 6 = codeL l := by
 have := group_flatC (z := 6) (by omega) (xs := codeL l) (fun x hx => by
  simp only [codeL, qBl] at hx
  obtain ⟨i, _, rfl⟩ := hx
  exact ⟨_, rfl, rfl⟩)
 rwa [codeL_len] at this
theorem group_funs (l : List SFun) : group l.length (flatC (funsL l)) 5 = funsL l := by
 have := group_flatC (z := 5) (by omega) (xs := funsL l) (fun x hx => by
  simp only [funsL, qBl] at hx
  obtain ⟨i, _, rfl⟩ := hx
  exact ⟨_, rfl, rfl⟩)
 rwa [funsL_len] at this
theorem freeze_code {H : Heap} {ρ : Nat -> Role} {n j : Nat} {v : AV} {F : SFun} (C : CodeAt H ρ j v F) (hn : ∀ x, x < n -> ρ x = .other) : freezeV H n 38 v = some (.lst (codeL (ownF F).code) (ownF F).cz (ownF F).room) := by
 rcases C with ⟨h1, rfl, h3⟩ | ⟨h1, o, cap, rfl, h3, h4⟩
 ·simp only [ownF, ownZ, ownR, h1, if_true, h3, List.map_nil]
  rfl
 ·have hle : n <= o := by
   by_cases hc : n <= o
   ·exact hc
   ·have := hn o (by omega); rw [h4] at this; cases this
  have hc : (flatC (codeL (F.code.map ownI))).length = F.code.length * 6 := by
   rw [flatC_len (fun x hx => (codeL_size _ x hx).1), codeL_len, qBn]
  rw [freeze_flat (ys := codeL (F.code.map ownI)) h3 hle hc (mapO_id fun c hc => imm_freeze H n 3 c (imm_code _ c hc) 37 (by omega)) (by have := group_code (F.code.map ownI); rwa [qBn] at this)]
  simp only [ownF, ownZ, ownR, if_neg h1]
theorem freeze_funX {H : Heap} {n : Nat} : ∀ (l : List SFun) (cs : List AV), cs.length = l.length -> (∀ (j : Nat) v F, cs[j]? = some v -> l[j]? = some F -> freezeV H n 38 v = some (.lst (codeL (ownF F).code) (ownF F).cz (ownF F).room)) -> mapO (freezeV H n 38) (flatC (funX l cs)) = some (flatC (funsL (l.map ownF)))
 | [], [], _, _ => rfl
 | F :: r, c :: s, hl, hj => by
  have ih := freeze_funX r s (by simpa using hl) (fun j v F hv hF => hj (j + 1) v F (by simpa using hv) (by simpa using hF))
  have h0 := hj 0 c F rfl rfl
  have e1 : flatC (funX (F :: r) (c :: s)) = funC F c ++ flatC (funX r s) := by simp only [funX, flatC_cons]; rfl
  have e2 : flatC (funsL ((F :: r).map ownF)) = (ownF F).cells ++ flatC (funsL (r.map ownF)) := by simp only [qAm, funsL, flatC_cons]; rfl
  rw [e1, e2]
  refine mapO_app ?_ ih
  simp only [funC, mapO_cons, mapO_nil, h0]
  rfl
 | [], c :: s, hl, _ => by simp at hl
 | F :: r, [], hl, _ => by simp at hl
structure SProg.small (p : SProg) : Prop where
 mems : p.mems.length < 1000000
 locks : p.locks.length < 1000000
 funs : p.funs.length < 1000000
 code : ∀ F ∈ p.funs, F.code.length < 1000000
 args : ∀ F ∈ p.funs, ∀ i ∈ F.code, i.args.length < 1000000000
theorem strL_size (l : List (List UInt8)) : ∀ x ∈ strL l, x.cells.length = 1 /\ x.cells.all AV.leaf = true := fun x hx => (plain_strs l).leafs x hx
theorem memsL_size (l : List SMem) : ∀ x ∈ memsL l, x.cells.length = 3 /\ x.cells.all AV.leaf = true := fun x hx => by
 simp only [memsL, qBl] at hx
 obtain ⟨i, _, rfl⟩ := hx
 exact ⟨rfl, rfl⟩
theorem funsL_size (l : List SFun) : ∀ x ∈ funsL l, x.cells.length = 5 /\ x.cells.all AV.leaf = true := fun x hx => by
 simp only [funsL, qBl] at hx
 obtain ⟨i, _, rfl⟩ := hx
 exact ⟨rfl, rfl⟩
theorem own_eq (p : SProg) (hn : p.nils) (hs : p.small) (h : Heap) : call cfg 25 [.agg p.cells] h = some (.ret (.agg (ownP p).cells), h) := by
  have hcm : ∀ H, call cfg 46 [.lst (memsL p.mems) p.mz p.mroom] H = some (.ret (.lst (memsL p.mems) (ownZ p.mroom 3) (ownR p.mroom)), H) := fun H =>
    cloneMem_lst (memsL p.mems) p.mz p.mroom H (fun hh => by rw [hn.mems hh]; rfl) (memsL_size _) (by rw [memsL_len]; have := hs.mems; omega) (by
      rw [qBd]
      intro c hc
      simp only [flatC, memsL, List.mem_flatten, qBl] at hc
      obtain ⟨x, ⟨y, ⟨m, _, rfl⟩, rfl⟩, hc⟩ := hc
      simp only [AV.cells, SMem.cells, qAj, List.not_mem_nil, or_false] at hc
      rcases hc with rfl | rfl | rfl <;> rfl) (by
      refine group_flatC (by omega) fun x hx => ?_
      simp only [memsL, qBl] at hx
      obtain ⟨m, _, rfl⟩ := hx
      exact ⟨_, rfl, rfl⟩)
  obtain ⟨lv, X1, c1, d1⟩ := cloneS_lst (strL p.locks) p.lz p.lroom (h ++ [AObj.cells p.cells 0, .cells [.lst [] 0 .nil, .lst [] 0 .nil, .lst [] 0 .nil] 0]) (fun hh => by rw [hn.locks hh]; rfl) (strL_size _) (by rw [strL_len]; have := hs.locks; omega)
  obtain ⟨fv, X2, c2, d2⟩ := cloneFun_lst (funsL p.funs) p.fz p.froom (h ++ [AObj.cells p.cells 0, .cells [.lst [] 0 .nil, .lst [] 0 .nil, .lst [] 0 .nil] 0] ++ X1) (fun hh => by rw [hn.funs hh]; rfl) (funsL_size _) (by rw [funsL_len]; have := hs.funs; omega)
  have klv : known lv = some lv /\ lv.cells = [lv] /\ lv.leaf = true := by rcases d1 with ⟨_, rfl, _⟩ | ⟨_, o, cap, rfl, _⟩ <;> exact ⟨rfl, rfl, rfl⟩
  have kfv : known fv = some fv /\ fv.cells = [fv] /\ fv.leaf = true := by rcases d2 with ⟨_, rfl, _⟩ | ⟨_, o, cap, rfl, _⟩ <;> exact ⟨rfl, rfl, rfl⟩
  obtain ⟨mv, hmv⟩ : ∃ mv, mv = AV.lst (memsL p.mems) (ownZ p.mroom 3) (ownR p.mroom) := ⟨_, rfl⟩
  obtain ⟨H1, hH1⟩ : ∃ H1 : Heap, H1 = h ++ (AObj.cells [mv, lv, fv] 0 :: .cells [.lst [] 0 .nil, .lst [] 0 .nil, .lst [] 0 .nil] 0 :: (X1 ++ X2)) := ⟨_, rfl⟩
  have hl1 : h.length + 2 <= H1.length := by rw [hH1]; simp
  have hP1 : H1.obj h.length 0 = some [mv, lv, fv] := by rw [hH1, obj_app0, obj_zero]
  have hR1 : H1.obj (h.length + 1) 0 = some [.lst [] 0 .nil, .lst [] 0 .nil, .lst [] 0 .nil] := by rw [hH1, obj_app]; rfl
  have hk1 : ∀ x, h.length + 2 <= x -> x < (h ++ [AObj.cells p.cells 0, .cells [.lst [] 0 .nil, .lst [] 0 .nil, .lst [] 0 .nil] 0] ++ X1 ++ X2).length -> H1[x]? = (h ++ [AObj.cells p.cells 0, .cells [.lst [] 0 .nil, .lst [] 0 .nil, .lst [] 0 .nil] 0] ++ X1 ++ X2)[x]? := fun x hx _ => by
    rw [hH1]
    simp only [List.append_assoc]
    rw [qAy (by omega), qAy (by omega)]
    obtain ⟨y, hy⟩ : ∃ y, x - h.length = y + 2 := ⟨x - h.length - 2, by omega⟩
    rw [hy]
    rfl
  have hold1 : ∀ x, x < h.length -> H1[x]? = h[x]? := fun x hx => by rw [hH1]; exact qAx hx
  have key : ∀ (H3 : Heap) (t3 t4 t5 t20 t21 t22 t41 t42 t43 t44 : AV), exec cfg 25 (.loop l25_0) [(0, .agg p.cells), (1, .ptr h.length 0 0), (2, .ptr (h.length + 1) 0 0), (3, .junk), (4, .junk), (5, .junk), (20, .int .i64 p.funs.length), (21, .int .i64 0), (22, .junk), (41, .junk), (42, .junk), (43, .junk), (44, .junk)] H1 = some (.exit 0, [(0, .agg p.cells), (1, .ptr h.length 0 0), (2, .ptr (h.length + 1) 0 0), (3, t3), (4, t4), (5, t5), (20, t20), (21, t21), (22, t22), (41, t41), (42, t42), (43, t43), (44, t44)], H3) ->
      H3.obj h.length 0 = some [mv, lv, fv] -> H3.obj (h.length + 1) 0 = some [.lst [] 0 .nil, .lst [] 0 .nil, .lst [] 0 .nil] -> H3.take h.length = h ->
      freezeV (H3.set (h.length + 1) (.cells [mv, lv, fv] 0)) h.length 39 lv = some (.lst (strL p.locks) (ownZ p.lroom 1) (ownR p.lroom)) -> freezeV (H3.set (h.length + 1) (.cells [mv, lv, fv] 0)) h.length 39 fv = some (.lst (funsL (p.funs.map ownF)) (ownZ p.froom 5) (ownR p.froom)) ->
      call cfg 25 [.agg p.cells] h = some (.ret (.agg (ownP p).cells), h) := fun H3 t3 t4 t5 t20 t21 t22 t41 t42 t43 t44 hx hP3 hR3 ht3 fl hff => by
    have hlP1 := live_of hP1
    have hlP3 := live_of hP3
    have hlen : lenA H1 (.slice 39) fv = some p.funs.length := by
      rcases d2 with ⟨_, rfl, h3, _⟩ | ⟨_, o, cap, rfl, h3, h4⟩
      · have : p.funs.length = 0 := by have := congrArg List.length h3; simpa [funsL] using this
        rw [this]; rfl
      · have ho := obj_some h4
        have : H1.obj o 0 = some (flatC (funsL p.funs)) := obj_of h4 (hk1 o (by simp at h3; omega) ho)
        simp [lenA, live_of this, funsL]
    have hst : storeA cfg H3 26 (.ptr (h.length + 1) 0 0) (.agg [mv, lv, fv]) = some (H3.set (h.length + 1) (.cells [mv, lv, fv] 0)) := by
      have hm : mv.leaf = true := by rw [hmv]; rfl
      simp [storeA, ty26, hR3, AV.cells, hm, klv.2.2, kfv.2.2, setCells]
    have hld : loadA cfg H3 26 (.ptr h.length 0 0) = some (.agg [mv, lv, fv]) := by
      simp [loadA, ty26, cellsAt, hP3, Rv.part, TD.isAgg]
    have hR4 : Heap.obj (H3.set (h.length + 1) (.cells [mv, lv, fv] 0)) (h.length + 1) 0 = some [mv, lv, fv] := obj_sets hR3 0
    have hld4 : loadA cfg (H3.set (h.length + 1) (.cells [mv, lv, fv] 0)) 26 (.ptr (h.length + 1) 0 0) = some (.agg [mv, lv, fv]) := by
      simp [loadA, ty26, cellsAt, hR4, Rv.part, TD.isAgg]
    have kmv : known mv = some mv /\ mv.cells = [mv] /\ mv.leaf = true := by rw [hmv]; exact ⟨rfl, rfl, rfl⟩
    have hcm' : ∀ H, call cfg 46 [.lst (memsL p.mems) p.mz p.mroom] H = some (.ret mv, H) := fun H => by rw [hmv]; exact hcm H
    have hX1 : ∀ Y, Heap.obj (h ++ (AObj.cells p.cells 0 :: Y)) h.length 0 = some p.cells := fun Y => by rw [obj_app0, obj_zero]
    rw [call25]
    have e1 := hH1.symm
    simp only [List.append_assoc, qBr, qBq, SProg.cells] at c1 c2 e1
    have hre : exec cfg 25 (.seq (R25 [ff] 0) (D25 [tt, ff] 1)) [(0, .agg p.cells)] h = some (.nrm, [(0, .agg p.cells), (1, .ptr h.length 0 0), (2, .ptr (h.length + 1) 0 0), (3, .junk), (4, .junk), (5, .junk), (20, .junk), (21, .junk), (22, .junk), (41, .junk), (42, .junk), (43, .junk), (44, .junk)], H1) := by
      simp only [SProg.cells, F25, Tryz.f25, sxAll, cA, Env.keep, qt_eq, storeA, fieldAddrA, loadA, Rv.part, cellsAt, TD.isAgg, setCells, mapO, ↓qAe, Nat.reduceBEq, Nat.reduceAdd, Nat.reduceLeDiff, ↓reduceIte, hcm', c1, c2, sx_callf_l, la25_11, la25_14, eqb_self, klv, kfv, kmv, pu46, pu47, pu48, ty26, ty22, ty23, ty24, Nat.add_zero, e1]
    have hre' := hre
    have hseq : ∀ b, exec cfg 25 (.seq (R25 [ff] 0) (.seq (D25 [tt, ff] 1) b)) [(0, .agg p.cells)] h = (exec cfg 25 (.seq (R25 [ff] 0) (D25 [tt, ff] 1)) [(0, .agg p.cells)] h).bind fun x => match x.1 with | .nrm => exec cfg 25 b x.2.1 x.2.2 | _ => some x := fun b => by
      rw [exec_seq, exec_seq]
      cases exec cfg 25 (R25 [ff] 0) [(0, .agg p.cells)] h with
      | none => rfl
      | some x =>
        obtain ⟨o, e, hh⟩ := x
        cases o <;> first | rfl | (simp only [qAe]; rw [exec_seq]; rfl) | (simp only [qAe]; rw [exec_seq]; congr 1; funext x; obtain ⟨o, e, hh⟩ := x; cases o <;> rfl)
    rw [k25, hseq, hre']
    simp only [F25, Tryz.f25, sxAll, cA, Env.keep, qt_eq, resultsA, packA, fieldAddrA, Rv.part, TD.isAgg, ↓qAe, Nat.reduceBEq, Nat.reduceAdd, ↓reduceIte, load_ptr, hP1, hlP1, kfv, hlen, hx, hld, hst, hld4, ty26, ty24]
    refine leave_pure rfl ?_ ?_
    · rw [List.take_set_of_le (by omega)]; exact ht3
    · have fm : freezeV (H3.set (h.length + 1) (.cells [mv, lv, fv] 0)) h.length 39 mv = some (.lst (memsL p.mems) (ownZ p.mroom 3) (ownR p.mroom)) := by
        rw [hmv]; exact imm_freeze _ _ 4 _ (imm_mems _ _ _) 39 (by omega)
      rw [freeze_aggv, mapO_cons, fm, mapO_cons, fl, mapO_cons, hff, mapO_nil]
      rfl
  have hL1 : ∀ (H3 : Heap), (∀ x, x < H1.length -> h.length + 2 <= x -> x < (h ++ [AObj.cells p.cells 0, .cells [.lst [] 0 .nil, .lst [] 0 .nil, .lst [] 0 .nil] 0] ++ X1).length -> H3[x]? = H1[x]?) -> freezeV (H3.set (h.length + 1) (.cells [mv, lv, fv] 0)) h.length 39 lv = some (.lst (strL p.locks) (ownZ p.lroom 1) (ownR p.lroom)) := fun H3 hk => by
    rcases d1 with ⟨h1, rfl, h3, _⟩ | ⟨h1, o, cap, rfl, h3, h4⟩
    · rw [h3, ownZ, ownR, if_pos h1, if_pos h1]; rfl
    · have ho := obj_some h4
      have hol : h.length + 2 <= o := by simp at h3; omega
      have h5 : Heap.obj (h ++ [AObj.cells p.cells 0, .cells [.lst [] 0 .nil, .lst [] 0 .nil, .lst [] 0 .nil] 0] ++ X1 ++ X2) o 0 = some (flatC (strL p.locks)) := obj_leftS X2 h4
      have ho5 := obj_some h5
      have h6 : H1.obj o 0 = some (flatC (strL p.locks)) := obj_of h5 (hk1 o hol ho5)
      have h7 : Heap.obj (H3.set (h.length + 1) (.cells [mv, AV.msl o 0 (strL p.locks).length 1 0 cap, fv] 0)) o 0 = some (flatC (strL p.locks)) := (obj_setn _ (by omega)).trans (obj_of h6 (hk o (obj_some h6) hol ho))
      have hfp : flatC (strL p.locks) = strL p.locks := flatC_plain (plain_strs _)
      rw [freeze_flat (ys := strL p.locks) h7 (by omega) (by rw [hfp]; omega) (by rw [hfp]; exact freeze_deads _ _ 37 (plain_dead (plain_strs _))) (by rw [hfp]; exact group_plain (plain_strs _)), ownZ, ownR, if_neg h1, if_neg h1]
  rcases d2 with ⟨h1, rfl, h3, _⟩ | ⟨h1, oF, capF, rfl, h3, h4⟩
  · have hfn : p.funs = [] := hn.funs h1
    refine key H1 .junk .junk .junk (.int .i64 0) (.int .i64 0) (.bool false) .junk .junk .junk .junk ?_ hP1 hR1 ?_ (hL1 H1 fun _ _ _ _ => rfl) ?_
    · rw [hfn]
      simp only [List.length_nil, qBo]
      rw [exec_loop]
      simp only [l25_0, F25, Tryz.f25, sxAll, cA, arithA, Env.keep, ↓qAe, Nat.reduceBEq, Int.reduceLT, ↓reduceIte]
    · rw [hH1]; simp
    · rw [hfn, ownZ, ownR, if_pos h1, if_pos h1]; rfl
  · have hoF0 := obj_some h4
    have hF2 : h.length + 2 <= oF := by simp at h3; omega
    have hF1 : H1.obj oF 0 = some (flatC (funsL p.funs)) := obj_of h4 (hk1 oF hF2 hoF0)
    have hoF := obj_some hF1
    have hfx0 : funX p.funs [] = funsL p.funs := by cases p.funs <;> rfl
    have O0 : OI h H1 (fun x => if x = h.length then .mem else if x = oF then .cArr else .other) h.length mv lv oF capF p.funs [] := {
      prog := by rw [hP1, funsL_len]
      progR := by simp
      funs := by rw [hfx0]; exact hF1
      funsR := by simp; omega
      done := fun j v F hv _ => by simp at hv
      keep := fun x hx => by rw [if_neg (by omega), if_neg (by omega)]
      le := by omega
      fresh := fun x hx => by rw [if_neg (by omega), if_neg (by omega)] }
    obtain ⟨⟨oo, ee, H3⟩, hx, H3', ρ', cs', t3, t4, t5, t22, t41, t42, t43, t44, hq, hcl, O, hle, hρ, hkeep⟩ := own_outer p.funs hs.funs (fun F hF => ⟨hn.code F hF, hs.code F hF, fun i hi => ⟨hn.args F hF i hi, hs.args F hF i hi⟩⟩) h.length mv lv oF capF h p.funs 0 (by simp) (by omega) H1 _ [] rfl O0 (.agg p.cells) (.ptr (h.length + 1) 0 0) .junk .junk .junk .junk .junk .junk .junk .junk
    simp only [qAg] at hq
    obtain ⟨rfl, rfl, rfl⟩ := hq
    have hne : ∀ x, x < H1.length -> x ≠ oF -> H3[x]? = H1[x]? := fun x hx hn' => hkeep x hx (by
      by_cases hc : x = h.length
      · simp [hc]
      · simp [hc, hn'])
    have hR3 : H3.obj (h.length + 1) 0 = some [.lst [] 0 .nil, .lst [] 0 .nil, .lst [] 0 .nil] := obj_of hR1 (hne _ (by omega) (by omega))
    have hr1 : ρ' (h.length + 1) = .other := (hρ _ (by omega)).trans (by rw [if_neg (by omega), if_neg (by omega)])
    rw [funsL_len] at *
    refine key H3 t3 t4 t5 _ _ t22 t41 t42 t43 t44 (by simpa using hx) O.prog hR3 ?_ (hL1 H3 fun x hx hx2 hx3 => hne x hx (by simp at hx3 h3; omega)) ?_
    · apply qBk
      intro x
      by_cases hxl : x < h.length
      · rw [qBa hxl, hne x (by omega) (by omega), hold1 x hxl]
      · rw [qAt (by simp; omega), qAt (by omega)]
    · have hFs : Heap.obj (H3.set (h.length + 1) (.cells [mv, lv, .msl oF 0 p.funs.length 5 0 capF] 0)) oF 0 = some (flatC (funX p.funs cs')) := (obj_setn _ (by omega)).trans O.funs
      have hfl : (flatC (funX p.funs cs')).length = p.funs.length * 5 := by rw [flatC_len (funX_size _ _), funX_len _ _ (by omega)]
      have hfz := freeze_funX (H := H3.set (h.length + 1) (.cells [mv, lv, .msl oF 0 p.funs.length 5 0 capF] 0)) (n := h.length) p.funs cs' hcl (fun j v F hv hF => by
        refine freeze_code (ρ := ρ') (j := j) ?_ O.keep
        rcases O.done j v F hv hF with g1 | ⟨g1, o, cap, g2, g3, g4⟩
        · exact .inl g1
        · exact .inr ⟨g1, o, cap, g2, (obj_setn _ (fun hc => by rw [hc, hr1] at g4; cases g4)).trans g3, g4⟩)
      have hgf := group_funs (p.funs.map ownF)
      rw [qBn] at hgf
      rw [freeze_flat (ys := funsL (p.funs.map ownF)) hFs (by omega) hfl hfz hgf, ownZ, ownR, if_neg h1, if_neg h1]
end
end Go.Proofs.Sx
namespace Go.Proofs.Sx
open Go.Rv Go.Proofs
attribute [local congr] bind_left got_left
noncomputable section
theorem pu80 : cfg.pure 80 = false := rfl
instance t80_2 : Tg cfg 80 2 := tgS rfl
instance t80_4 : Tg cfg 80 4 := tgS rfl
instance t80_5 : Tg cfg 80 5 := tgS rfl
instance t80_6 : Tg cfg 80 6 := tgS rfl
instance t80_7 : Tg cfg 80 7 := tgS rfl
instance t80_8 : Tg cfg 80 8 := tgS rfl
instance t80_9 : Tg cfg 80 9 := tgS rfl
instance t80_10 : Tg cfg 80 10 := tgS rfl
instance t80_11 : Tg cfg 80 11 := tgS rfl
instance t80_12 : Tg cfg 80 12 := tgS rfl
instance t80_13 : Tg cfg 80 13 := tgS rfl
instance t80_14 : Tg cfg 80 14 := tgS rfl
instance t80_15 : Tg cfg 80 15 := tgS rfl
instance t80_16 : Tg cfg 80 16 := tgS rfl
instance t80_17 : Tg cfg 80 17 := tgS rfl
instance t80_18 : Tg cfg 80 18 := tgS rfl
instance t80_19 : Tg cfg 80 19 := tgS rfl
instance t80_20 : Tg cfg 80 20 := tgS rfl
instance t80_21 : Tg cfg 80 21 := tgS rfl
instance t80_22 : Tg cfg 80 22 := tgS rfl
instance t80_23 : Tg cfg 80 23 := tgS rfl
instance t80_24 : Tg cfg 80 24 := tgS rfl
instance t80_25 : Tg cfg 80 25 := tgS rfl
instance t80_26 : Tg cfg 80 26 := tgS rfl
instance t80_27 : Tg cfg 80 27 := tgS rfl
instance t80_28 : Tg cfg 80 28 := tgS rfl
instance t80_29 : Tg cfg 80 29 := tgS rfl
instance t80_30 : Tg cfg 80 30 := tgS rfl
instance t80_31 : Tg cfg 80 31 := tgS rfl
instance t80_32 : Tg cfg 80 32 := tgS rfl
instance t80_33 : Tg cfg 80 33 := tgS rfl
instance t80_34 : Tg cfg 80 34 := tgS rfl
instance t80_35 : Tg cfg 80 35 := tgS rfl
instance t80_36 : Tg cfg 80 36 := tgS rfl
instance t80_37 : Tg cfg 80 37 := tgS rfl
instance t80_38 : Tg cfg 80 38 := tgS rfl
instance t80_39 : Tg cfg 80 39 := tgS rfl
instance t80_40 : Tg cfg 80 40 := tgS rfl
instance t80_41 : Tg cfg 80 41 := tgS rfl
instance t80_42 : Tg cfg 80 42 := tgS rfl
instance t80_43 : Tg cfg 80 43 := tgS rfl
instance t80_44 : Tg cfg 80 44 := tgS rfl
instance t80_45 : Tg cfg 80 45 := tgS rfl
instance t80_46 : Tg cfg 80 46 := tgS rfl
instance t80_47 : Tg cfg 80 47 := tgS rfl
instance t80_48 : Tg cfg 80 48 := tgS rfl
instance t80_50 : Tg cfg 80 50 := tgS rfl
instance t80_51 : Tg cfg 80 51 := tgS rfl
instance t80_52 : Tg cfg 80 52 := tgS rfl
instance t80_2000_51 : TightD cfg 80 (some (2000 + 51)) := tgS rfl
instance t80_n : TightD cfg 80 none := tgN
def B80 (p : List Bool) := cA p Tryz.f80.body
def R80 (p : List Bool) (i : Nat) := Code.region i (cA p Tryz.f80.body) false
def D80 (p : List Bool) (i : Nat) := Code.region i (cA p Tryz.f80.body) true
theorem F80 : (∀ p i, XR cfg 80 (R80 p i) (B80 p) (cA p Tryz.f80.body).toList i false) /\ cfg.imm 80 20 = true /\ XR cfg 80 (D80 [tt, tt, ff] 6) (B80 [tt, tt, ff]) ((cA [tt, tt, ff] Tryz.f80.body).toList) 6 true /\ XR cfg 80 (D80 [tt, tt, tt] 7) (B80 [tt, tt, tt]) ((cA [tt, tt, tt] Tryz.f80.body).toList) 7 true /\ cfg.imm 80 50 = true /\ RE cfg 80 [0, 2, 4, 5, 10, 11, 12, 13] /\ cfg.pure 80 = false := ⟨fun _ _ => xr rfl rfl, by kernel_rfl, xd (by kernel_rfl) rfl rfl, xd (by kernel_rfl) rfl rfl, by kernel_rfl, rE fun _ => rfl, rfl⟩
theorem lo80_49 : cfg.loose 80 49 = lo 80 49 := rfl
theorem lb80_7_49_2 (e : Env) (h : Heap) : looseB cfg 80 (B80 [tt, tt, tt]) e h 2 = (((known (e.get 36)).bind fun x => nilA h x).map fun v => AV.eqb v (e.get 37)).getD false := lb_nilCheck rfl
theorem lb80_7_49_3 (e : Env) (h : Heap) : looseB cfg 80 (B80 [tt, tt, tt]) e h 3 = (((known (e.get 37)).bind fun x => loadA cfg h 73 x).map fun v => AV.eqb v (e.get 38)).getD false := lb_load rfl rfl
theorem la80_49 (e : Env) (h : Heap) : looseAll cfg 80 (B80 [tt, tt, tt]) (some 49) e h = (((((known (e.get 36)).bind fun x => nilA h x).map fun v => AV.eqb v (e.get 37)).getD false) && (((((known (e.get 37)).bind fun x => loadA cfg h 73 x).map fun v => AV.eqb v (e.get 38)).getD false))) := by simp only [looseAll, lo80_49, lo, List.all_cons, List.all_nil, Bool.and_true, lb80_7_49_2, lb80_7_49_3]
def l80_0 : Code := (.seq (R80 [tt, ff, tt, ff, ff, ff] 2) (.seq (.cond (.tmp 13) .skip (.exit 0)) (.seq (.block 1 (.seq (R80 [tt, ff, tt, ff, ff, tt, tt, ff, ff, ff] 3) (R80 [tt, ff, tt, ff, ff, tt, tt, ff, ff, tt] 4))) (R80 [tt, ff, tt, ff, ff, tt, tt, tt] 5))))
def k80 : Code := (.seq (R80 [ff] 0) (.seq (.seq (R80 [tt, ff, ff] 1) (.block 0 (.loop l80_0))) (.seq (D80 [tt, tt, ff] 6) (D80 [tt, tt, tt] 7))))
theorem call80 (x0 : AV) (h : Heap) : call cfg 80 [x0] h = (exec cfg 80 k80 [(0, x0)] h).bind (callEnd cfg 80 h []) := call_at2 (fnat Tryz.func80 (b := k80) (by kernel_rfl) (by kernel_rfl)) rfl rfl
theorem pu83 : cfg.pure 83 = false := rfl
instance t83 {d : Option Nat} : TightD cfg 83 d := ⟨fun _ _ => rfl⟩
def B83 (p : List Bool) := cA p Tryz.f83.body
def R83 (p : List Bool) (i : Nat) := Code.region i (cA p Tryz.f83.body) false
def D83 (p : List Bool) (i : Nat) := Code.region i (cA p Tryz.f83.body) true
theorem F83 : (∀ p i, XR cfg 83 (R83 p i) (B83 p) (cA p Tryz.f83.body).toList i false) /\ XR cfg 83 (D83 [tt, ff] 1) (B83 [tt, ff]) ((cA [tt, ff] Tryz.f83.body).toList) 1 true /\ XR cfg 83 (D83 [tt, tt, ff] 2) (B83 [tt, tt, ff]) ((cA [tt, tt, ff] Tryz.f83.body).toList) 2 true /\ XR cfg 83 (D83 [tt, tt, tt, ff] 3) (B83 [tt, tt, tt, ff]) ((cA [tt, tt, tt, ff] Tryz.f83.body).toList) 3 true /\ XR cfg 83 (D83 [tt, tt, tt, tt, tt, ff, ff] 5) (B83 [tt, tt, tt, tt, tt, ff, ff]) (pickL (cA [tt, tt, tt, tt, tt, ff, ff] Tryz.f83.body).toList [0, 1, 2, 3, 4, 5, 6, 7, 8, 11, 9, 10, 12, 13]) 5 true /\ RE cfg 83 [0, 2, 3, 4, 45] /\ cfg.pure 83 = false := ⟨fun _ _ => xr rfl rfl, xd (by kernel_rfl) rfl rfl, xd (by kernel_rfl) rfl rfl, xd (by kernel_rfl) rfl rfl, xd (by kernel_rfl) rfl rfl, rE fun _ => rfl, rfl⟩
def k83 : Code := (.seq (R83 [ff] 0) (.seq (D83 [tt, ff] 1) (.seq (D83 [tt, tt, ff] 2) (.seq (D83 [tt, tt, tt, ff] 3) (.seq (R83 [tt, tt, tt, tt, ff] 4) (.cond (.tmp 45) (.seq (D83 [tt, tt, tt, tt, tt, ff, ff] 5) (R83 [tt, tt, tt, tt, tt, ff, tt] 6)) .skip))))))
theorem call83 (x0 : AV) (h : Heap) : call cfg 83 [x0] h = (exec cfg 83 k83 [(0, x0)] h).bind (callEnd cfg 83 h []) := call_at2 (fnat Tryz.func83 (b := k83) (by kernel_rfl) (by kernel_rfl)) rfl rfl
theorem Arr.store {H : Heap} {ρ : Nat -> Role} {r : Role} {v x y : AV} {xs : List AV} (A : Arr H ρ r v xs) {i : Nat} (hx : xs[i]? = some x) (hy : y.cells = [y]) (hl : y.leaf = true) {st et a b b' : Nat} {z z' : List AV} {td : TD} (hs : cfg.ty st = some ⟨.slice et, a, b, z⟩) (he : cfg.ty et = some ⟨td, 1, b', z'⟩) :
  ∃ o g, indexAddrA cfg H st v (.int .i64 i) = some (.ptr o i g) /\ H.obj o g = some xs /\ ρ o = r /\ xs.drop i = x :: xs.drop (i + 1) /\
   ∀ {H' : Heap} {ρ' : Nat -> Role}, H'[o]? = H[o]? -> ρ' o = r -> storeA cfg H' et (.ptr o i g) y = some (H'.set o (.cells (xs.set i y) g)) /\ Arr (H'.set o (.cells (xs.set i y) g)) ρ' r v (xs.set i y) := by
 rcases A with ⟨rfl, rfl⟩ | ⟨o, g, cap, rfl, ho, hr, hcap⟩
 ·simp at hx
 ·obtain ⟨hi, hx'⟩ := qAu.1 hx
  refine ⟨o, g, ?_, ho, hr, ?_, fun {H' ρ'} k k2 => ?_⟩
  ·have : ¬ (i : Int) < 0 := by omega
   simp [indexAddrA, hs, he, live_of ho, this, hi]
  ·rw [qBs hi, hx']
  ·have ho' := obj_of ho k
   refine ⟨store1 he ho' hi hy hl, .inr ⟨o, g, cap, by simp, obj_sets ho' g, k2, by simpa using hcap⟩⟩
section
variable {p : SProg} {H : Heap} {ρ : Nat -> Role} {s : Nat} {σ : SSt} {t : Nat} {rest : List SFrame} {f : SFrame} {i : SIns} {w m mp : Nat} {cv tv ov : AV} {cs ts : List AV} {o g : Nat} {cap : Option Nat} {rvs c : List AV} (X : Ctx p H ρ s σ t rest f i w m mp cv tv ov cs ts o g cap rvs c) (hpc : f.pc < 1000000)
include X
theorem setStk_set (σ : SSt) (t : Nat) (a b : List SFrame) : setStk (setStk σ t a) t b = setStk σ t b := by simp [setStk]
include hpc
theorem back_eq (ha : RegOk f i.a) (hcl : ∀ x ∈ rest, Calling p x /\ FrOk p x /\ ∀ j, insAt p x = some j -> RegOk x j.r) (hd : rest.length < 1000000000) (hp : ∀ x ∈ rest, x.pc < 1000000) (h1 : i.op = 13) : ∃ H', call cfg 83 [.ptr w 0 0] H = some (.ret (.tup []), H') /\ Did p H ρ s t w i (exeS p σ t rest f i) H' := by
 obtain ⟨oR, gR, cp, V, hRr, k2⟩ := X.view
 have hw := V.hw
 have hlw := V.lw
 have hs := X.rep.st
 have hls := live_of hs
 have hg := reg_eq V ha.1 ha.2
 have hlo := V.lo
 obtain ⟨oT, gT, i1, i2, i3, i4, i5⟩ := X.rep.tArr.store (y := .msl o 0 rest.length 3 g cap) X.hv rfl rfl ty65 ty73
 obtain ⟨j1, j2⟩ := i5 rfl i3
 have hlT := live_of i2
 have kt := X.rep.tArr.known
 have l2 : lenA H (.slice 71) (.msl o 0 (rest ++ [f]).length 3 g cap) = some (rest ++ [f]).length := by simp [lenA, hlo]
 have h2 : (((rest ++ [f]).length : Nat) : Int) = (rest.length : Int) + 1 := by simp
 have h4 : IntKind.i64.wrap ((rest.length : Int) + 1 - 1) = rest.length := by rw [wrap_id (by omega) (by omega)]; omega
 obtain ⟨q, q1, q2, q3⟩ := X.stk.room
 have hsl : sliceA cfg H 73 (.msl o 0 (rest ++ [f]).length 3 g cap) none (some (.int .i64 rest.length)) none = some (.msl o 0 rest.length 3 g cap) := by
  simp only [qBb, List.length_singleton] at q2
  rcases q3 with rfl | rfl
  ·have : rest.length <= c.length / 3 := by rw [q1]; simp; omega
   simp [sliceA, ty73, ty71, X.stk.obj, boundA, this]
  ·have : rest.length <= q := by omega
   simp [sliceA, ty73, ty71, X.stk.obj, boundA, this]
 have htl := (qAu.1 X.hv).1
 have S1 : Stk (H.set oT (.cells (ts.set t (.msl o 0 rest.length 3 g cap)) gT)) ρ t rest rvs.dropLast o g cap c := X.stk.pop.mono fun x _ hr => ⟨by
  rw [qAw (by intro hc; rw [← hc, i3] at hr; rcases hr with hr | ⟨q, hr⟩ <;> cases hr)], rfl⟩
 have R1 := X.rep.thr t rest (.msl o 0 rest.length 3 g cap) htl (h' := H.set oT (.cells (ts.set t (.msl o 0 rest.length 3 g cap)) gT)) (ρ' := ρ)
  (fun x _ _ _ _ _ hr => ⟨by rw [qAw (by intro hc; rw [← hc] at hr; exact hr i3)], rfl⟩) j2 ⟨_, o, g, cap, c, rfl, S1⟩ (fun x hx => X.rep.fresh x (by simpa using hx))
 have hwT : w ≠ oT := fun hc => by have := X.wR; rw [hc, i3] at this; cases this
 have hsT : s ≠ oT := fun hc => by have := X.rep.stR; rw [hc, i3] at this; cases this
 have hw1 := (obj_setn (.cells (ts.set t (.msl o 0 rest.length 3 g cap)) gT) hwT).trans V.hw
 have hlw1 := live_of hw1
 have hs1 := R1.st
 simp only [setStk] at hs1
 have hls1 := live_of hs1
 have hFrm : Frm H ρ (H.set oT (.cells (ts.set t (.msl o 0 rest.length 3 g cap)) gT)) ρ := ⟨by simp, fun x hx hr => ⟨by rw [qAw (by intro hc; rw [← hc, i3] at hr; cases hr)], hr⟩⟩
 have hx : exeS p σ t rest f i = (match rest.getLast? with
  | none => (setStk σ t rest, false)
  | some c => (setStk σ t (rest.dropLast ++ [setR c (((insAt p c).map (·.r)).getD 0) (regV f i.a)]), false)) := by rw [exeS]; simp only [h1]; rfl
 rw [hx]
 simp only [workC] at hw hw1
 rcases List.eq_nil_or_concat rest with rfl | ⟨r2, f2, hr2⟩
 ·have ht1 := top_none R1 (t := (t : Int)) (.inr (.inr ⟨by omega, by
   simp only [setStk, Int.toNat_natCast]
   rw [qAz (by rw [← X.rep.tLen]; exact htl)]⟩))
  have e0 := nil_ne_nil (H := H.set oT (.cells (ts.set t (.msl o 0 ([] : List SFrame).length 3 g cap)) gT)) ty74
  refine ⟨_, ?_, ρ, o, 0, g, ⟨_, _, _, _, _, _, _, R1⟩, hw1, X.wR, hFrm⟩
  rw [call83]
  simp only [SProg.cells, qBr, qBq] at hs hs1
  generalize hN : ([] ++ [f] : List SFrame).length = N at *
  generalize hM : ([] : List SFrame).length = M at *
  simp only [F83, k83, Tryz.f83, sxAll, cA, arithA, Env.keep, qt_eq, resultsA, packA, fieldAddrA, Rv.part, TD.isAgg, optA, mapO, ↓qAe, ↓qAh, Nat.reduceBEq, Nat.reduceAdd, ↓reduceIte, load_ptr, hw, hlw, hs, hls, hg, kt, i1, i2, i4, hlT, l2, h2, h4, hsl, j1, hw1, hlw1, ht1, e0, known_nilPtr, pu102, pu29, ty106, ty41, ty42, ty68, ty65, ty73, ty3]
  exact leave_impure pu83
 ·subst hr2
  have hc2 : (ts.set t (.msl o 0 (r2 ++ [f2]).length 3 g cap))[t]? = some (.msl o 0 (r2 ++ [f2]).length 3 g cap) := qAz htl
  have hf2 : (setStk σ t (r2 ++ [f2])).thr[t]? = some (r2 ++ [f2]) := by
   simp only [setStk]
   rw [qAz (by rw [← X.rep.tLen]; exact htl)]
  simp only [List.concat_eq_append] at *
  have ht1 := top_some R1 hc2 S1 (by simp at hd; omega)
  obtain ⟨⟨i2', hi2, hop2⟩, _, hrg⟩ := hcl f2 (by simp)
  have hpc2 := hp f2 (by simp)
  have hr2 := hrg i2' hi2
  obtain ⟨rr, rv, hrv, hrr, ⟨oR2, gR2, cp2, rfl, hR2, hRr2⟩, hcl2, e0, e1, e2, hd2⟩ := S1.last
  have d0 : c.drop (r2.length * 3) = .int .i64 f2.fn :: c.drop (r2.length * 3 + 1) := by
   have := congrArg (List.drop 1) hd2
   simp only [List.drop_drop, List.drop_succ_cons, qBf] at this
   rw [this, hd2]
  have d1 : c.drop (r2.length * 3 + 1) = .int .i64 f2.pc :: c.drop (r2.length * 3 + 2) := by
   have h1 := congrArg (List.drop 1) hd2
   have h2 := congrArg (List.drop 2) hd2
   simp only [List.drop_drop, List.drop_succ_cons, qBf] at h1 h2
   rw [h1, h2]
  have d2 : c.drop (r2.length * 3 + 2) = .msl oR2 0 f2.regs.length 1 gR2 cp2 :: c.drop (r2.length * 3 + 3) := by
   have h2 := congrArg (List.drop 2) hd2
   simp only [List.drop_drop, List.drop_succ_cons, qBf] at h2
   exact h2
  have hins := ins_eq hs1 S1.obj d0 d1 hi2
  have hlo1 := live_of S1.obj
  have hoRo : oR2 ≠ o := fun hc => by rw [hc, X.stk.role] at hRr2; cases hRr2
  have hst := store1 (v := .int .i64 (regV f i.a)) ty2 hR2 (off := i2'.r.toNat) (by have := hr2.2; have := hr2.1; simp [intL]; omega) rfl rfl
  rw [show (intL f2.regs).set i2'.r.toNat (.int .i64 (regV f i.a)) = intL (f2.regs.set i2'.r.toNat (regV f i.a)) by simp [intL]] at hst
  have hix := regs_idx (cp := cp2) hR2 hr2.1 hr2.2
  have ho2 := (obj_setn (.cells (intL (f2.regs.set i2'.r.toNat (regV f i.a))) gR2) (Ne.symm hoRo)).trans S1.obj
  have hlo2 := live_of ho2
  have hst2 := store1 (v := .int .i64 ((f2.pc + 1 : Nat) : Int)) ty3 ho2 (off := r2.length * 3 + 1) (by omega) rfl rfl
  have hwr := wrap_succ (i := f2.pc) (by omega)
  have ne0 := ptr_ne_nil (H := H.set oT (.cells (ts.set t (.msl o 0 (r2 ++ [f2]).length 3 g cap)) gT)) (k := r2.length * 3) ty74 hlo1
  have R2 := R1.top hc2 hf2 rfl S1 ⟨_, hR2⟩ hRr2 ⟨_, e2⟩ (regs' := f2.regs.set i2'.r.toNat (regV f i.a)) (by simp) (f2.pc + 1)
  rw [setStk_set X] at R2
  simp only [List.getLast?_append, List.getLast?_singleton, Option.some_or, List.dropLast_concat, hi2, qAo, Option.getD_some]
  have hwR2 : w ≠ oR2 := fun hc => by have := X.wR; rw [hc, hRr2] at this; cases this
  have hwo : w ≠ o := V.wo
  refine ⟨_, ?_, ρ, o, (r2 ++ [f2]).length * 3, g, ⟨_, _, _, _, _, _, _, R2⟩, by rw [obj_setn _ hwo, obj_setn _ hwR2]; exact hw1, X.wR, hFrm.trans ⟨by simp, fun x hx hr => ⟨by
   rw [qAw (by intro hc; rw [← hc, X.stk.role] at hr; cases hr), qAw (by intro hc; rw [← hc, hRr2] at hr; cases hr)], hr⟩⟩⟩
  rw [call83]
  simp only [SProg.cells, qBr, qBq] at hs hs1
  generalize hN : (r2 ++ [f2] ++ [f]).length = N at *
  generalize hM : (r2 ++ [f2]).length = M at *
  simp only [SIns.cells] at hins
  simp (config := { maxSteps := 2000000 }) only [F83, k83, Tryz.f83, sxAll, cA, arithA, Env.keep, qt_eq, resultsA, packA, fieldA, fieldAddrA, Rv.part, TD.isAgg, optA, mapO, ↓qAe, ↓qAh, Nat.reduceBEq, Nat.reduceAdd, ↓reduceIte, load_ptr, hw, hlw, hs, hls, hg, kt, i1, i2, i4, hlT, l2, h2, h4, hsl, j1, hw1, hlw1, ht1, ne0, hlo1, S1.obj, d1, d2, hins, hix, hst, ho2, hlo2, hst2, hwr, pu102, pu29, pu54, ty106, ty41, ty42, ty68, ty71, ty65, ty73, ty66, ty3]
  exact leave_impure pu83
end
end
end Go.Proofs.Sx
namespace Go.Proofs.Sx
open Go.Rv Go.Proofs
attribute [local congr] bind_left got_left
noncomputable section
theorem own_keep {H H' : Heap} {v : AV} {xs : List AV} (O : Own H.length H H' v xs) : ∀ x, x < H.length -> H'[x]? = H[x]? := fun x hx => by
 have := congrArg (·[x]?) O.old
 simpa [qBa hx] using this
theorem WV.mono {H H' : Heap} {w s t : Nat} {f : SFrame} {i : SIns} {o k g oR gR : Nat} {cp : Option Nat} {c : List AV} (V : WV H w s t f i o k g oR gR cp c) (K : ∀ x, x < H.length -> H'[x]? = H[x]?) : WV H' w s t f i o k g oR gR cp c :=
 ⟨obj_of V.hw (K _ (obj_some V.hw)), obj_of V.ho (K _ (obj_some V.ho)), V.d1, V.d2, obj_of V.hr (K _ (obj_some V.hr)), V.wo, V.wr, V.ro⟩
theorem call_args {H : Heap} {w s t : Nat} {f : SFrame} {i : SIns} {o k g oR gR : Nat} {cp : Option Nat} {c : List AV} (V : WV H w s t f i o k g oR gR cp c) (hl : i.args.length < 100000000) (hr : ∀ r ∈ i.args, RegOk f r) : ∀ (ys : List Int) (j : Nat), i.args.drop j = ys -> j <= i.args.length -> ∀ (H' : Heap) v, Own H.length H H' v (intL ((i.args.take j).map (regV f))) -> ∀ a b d,
  Got (exec cfg 80 (.loop l80_0) [(0, .ptr w 0 0), (2, v), (4, a), (5, b), (10, .lst (intL i.args) i.z i.room), (11, .int .i64 i.args.length), (12, .int .i64 j), (13, d)] H') (fun q => ∃ v' H'' a' d' e', q = (.exit 0, [(0, .ptr w 0 0), (2, v'), (4, a'), (5, b), (10, .lst (intL i.args) i.z i.room), (11, .int .i64 i.args.length), (12, e'), (13, d')], H'') /\ Own H.length H H'' v' (intL (i.args.map (regV f)))) := by
 intro ys
 induction ys with
 | nil =>
  intro j hd hj H' v O a b d
  have hle : i.args.length <= j := by simpa using hd
  rw [qBi hle] at O
  rw [got_loop]
  simp only [l80_0, F80, Tryz.f80, sxAll, cA, arithA, Env.keep, ↓qAe, Nat.reduceBEq, ↓reduceIte, at_end hd]
  exact ⟨_, _, _, _, _, rfl, O⟩
 | cons y r ih =>
  intro j hd hj H' v O a b d
  obtain ⟨hlt, hget, hd'⟩ := at_drop hd
  obtain ⟨_, hx, _⟩ := at_drop (intL_drop hd)
  have hlt' : j < i.args.length := by simpa using hlt
  have hmem : y ∈ i.args := qBj hget
  have hw := wrap_succ (i := j) (by omega)
  have V' := V.mono (own_keep O)
  have hg := reg_eq V' (hr y hmem).1 (hr y hmem).2
  obtain ⟨v', H'', ha, O'⟩ := O.push (plain_ints _) (ys := [.int .i64 (regV f y)]) (plain_ints [regV f y]) (by simp [mostLen, intL]; omega)
  have hO' : intL ((i.args.take (j + 1)).map (regV f)) = intL ((i.args.take j).map (regV f)) ++ [.int .i64 (regV f y)] := by
   rw [List.take_add_one, hget]; simp [intL]
  have := ih (j + 1) hd' (by omega) H'' v' (by rw [hO']; exact O')
  rw [got_loop]
  simp only [l80_0] at this ⊢
  simp only [F80, Tryz.f80, sxAll, cA, arithA, Env.keep, qt_eq, indexAddrA, loadA, Rv.part, cellsAt, TD.isAgg, fillA, setCells, copies, mapO, ↓qAe, Nat.reduceBEq, Nat.reduceAdd, Nat.reduceMul, Nat.reduceLeDiff, Nat.reduceGT, bne, ↓reduceIte, hlt, hx, hw, hg, O.kn, O'.kn, ha, elems, group, pu102, ty27, ty3, ty66, ty2] at this ⊢
  exact this _ _ _
section
variable {p : SProg} {H : Heap} {ρ : Nat -> Role} {s : Nat} {σ : SSt} {t : Nat} {rest : List SFrame} {f : SFrame} {i : SIns} {w m mp : Nat} {cv tv ov : AV} {cs ts : List AV} {o g : Nat} {cap : Option Nat} {rvs c : List AV} (X : Ctx p H ρ s σ t rest f i w m mp cv tv ov cs ts o g cap rvs c)
include X
theorem callW_eq {F : SFun} (h0 : 0 <= i.n) (hF : p.funs[i.n.toNat]? = some F) (hR0 : 0 <= F.regs) (hR1 : F.regs <= 4096) (hla : (i.args.length : Int) <= F.regs) (hr : ∀ r ∈ i.args, RegOk f r) (hd : rest.length < 100000000) (h1 : i.op = 10) :
  ∃ H', call cfg 80 [.ptr w 0 0] H = some (.ret (.tup []), H') /\ Did p H ρ s t w i (exeS p σ t rest f i) H' := by
 obtain ⟨oR, gR, cp, V, hRr, k2⟩ := X.view
 have hlen : i.args.length < 100000000 := by omega
 obtain ⟨⟨o', e', H1⟩, hx, v1, H1', a1, d1, e1, hq, O⟩ := call_args V hlen hr i.args 0 (by simp) (by omega) H (.lst [] 0 .nil) (by simpa [intL] using Own.nil H) .junk .junk .junk
 simp only [qAg] at hq
 obtain ⟨rfl, rfl, rfl⟩ := hq
 have k1 := own_keep O
 have hs := X.rep.st
 have hs1 := obj_of hs (k1 s (obj_some hs))
 have hls := live_of hs
 have hls1 := live_of hs1
 have hw := V.hw
 have hlw := V.lw
 have hw1 := obj_of V.hw (k1 w X.wL)
 have hlw1 := live_of hw1
 obtain ⟨n, hn⟩ : ∃ n : Nat, i.n = n := ⟨i.n.toNat, by omega⟩
 have hnt : i.n.toNat = n := by omega
 rw [hnt] at hF
 obtain ⟨N, hN⟩ : ∃ N : Nat, F.regs = N := ⟨F.regs.toNat, by omega⟩
 have hNt : F.regs.toNat = N := by omega
 have hle1 := O.le
 obtain ⟨X2, oN, f1, f2, f3⟩ := frame_eq (n := n) (args := i.args.map (regV f)) hs1 hF hR0 hR1 (by simpa using hla) O.kn (fun X => elems_built (O.b.app X) (plain_ints _))
 rw [hNt] at f1
 have hnl : (newFrame p n (i.args.map (regV f))).regs.length = N := by
  simp [newFrame, hF, hNt]; omega
 have hnfn : (newFrame p n (i.args.map (regV f))).fn = n := rfl
 have hnpc : (newFrame p n (i.args.map (regV f))).pc = 0 := rfl
 have k2' : ∀ x, x < H.length -> (H1 ++ X2)[x]? = H[x]? := fun x hx => (qAx (by omega)).trans (k1 x hx)
 have hoN := obj_some f2
 have hup : ∀ x, x < H.length -> upd ρ oN (.regs t (rest ++ [f]).length) x = ρ x := fun x hx => upd_ne (by omega)
 have S1 : Stk (H1 ++ X2) (upd ρ oN (.regs t (rest ++ [f]).length)) t (rest ++ [f]) rvs o g cap c := X.stk.mono fun x hx _ => ⟨k2' x hx, hup x hx⟩
 obtain ⟨v2, H2, ρ2, o2, g2, cap2, c2, q1, q2, q3, q4, q5, q6, q7⟩ := S1.push (f := newFrame p n (i.args.map (regV f))) (rv := .msl oN 0 N 1 0 (some N)) ⟨oN, 0, some N, by rw [hnl], f2, upd_self _ _ _⟩ (by simp; omega) (fun x hx => by
  rw [upd_ne (by omega)]; exact X.rep.fresh x (by simp at hx; omega))
 have hle2 : H.length <= (H1 ++ X2).length := by simp; omega
 have k3 : ∀ x, x < H.length -> ρ x ≠ .stack t -> H2[x]? = H[x]? := fun x hx hr => (q6 x (by omega) (by rw [hup x hx]; exact hr)).trans (k2' x hx)
 have kρ : ∀ x, x < H.length -> ρ2 x = ρ x := fun x hx => (q5 x (by omega)).trans (hup x hx)
 have hv2c : v2.cells = [v2] := by rw [q2]; rfl
 have hv2l : v2.leaf = true := by rw [q2]; rfl
 have hv2k : known v2 = some v2 := by rw [q2]; rfl
 have htl := (qAu.1 X.hv).1
 obtain ⟨oT, gT, i1, i2, i3, i4, i5⟩ := X.rep.tArr.store (y := v2) X.hv hv2c hv2l ty65 ty73
 have hoT := obj_some i2
 obtain ⟨j1, j2⟩ := i5 (H' := H2) (ρ' := ρ2) (k3 oT hoT (by rw [i3]; simp)) ((kρ oT hoT).trans i3)
 have kt := X.rep.tArr.known
 have hT1 := obj_of i2 (k1 oT hoT)
 have hlT1 := live_of hT1
 have hT2 := obj_leftS X2 hT1
 have hlT2 := live_of hT2
 have hlT3 := live_of (obj_of i2 (k3 oT hoT (by rw [i3]; simp)))
 have i1' : indexAddrA cfg H1 65 tv (.int .i64 t) = some (.ptr oT t gT) := by
  have A1 := X.rep.tArr.mono (h' := H1) (ρ' := ρ) fun x hx hr => ⟨k1 x hx, hr⟩
  obtain ⟨oT', gT', w1, w2, w3, w4, w5⟩ := A1.store (y := v2) X.hv hv2c hv2l ty65 ty73
  rcases X.rep.tArr with ⟨rfl, hnil⟩ | ⟨oo, gg, cc, rfl, ho, _, _⟩
  ·rw [hnil] at htl; simp at htl
  ·rw [w1]
   simp only [indexAddrA, ty65] at w1 i1
   have hh : ¬ (t : Int) < 0 := by omega
   simp [hh, live_of ho, htl] at i1
   simp [hh, live_of (obj_of ho (k1 oo (obj_some ho))), htl] at w1
   obtain ⟨rfl, rfl⟩ := i1
   obtain ⟨rfl, rfl⟩ := w1
   rfl
 have hxe : exeS p σ t rest f i = (setStk σ t (rest ++ [f] ++ [newFrame p n (i.args.map (regV f))]), false) := by rw [exeS]; simp only [h1, hnt]; rfl
 rw [hxe]
 have S2 : Stk (H2.set oT (.cells (ts.set t v2) gT)) ρ2 t (rest ++ [f] ++ [newFrame p n (i.args.map (regV f))]) (rvs ++ [.msl oN 0 N 1 0 (some N)]) o2 g2 cap2 c2 := q3.mono fun x hx hr => ⟨by
  rw [qAw (by intro hc; rw [← hc, (kρ oT hoT).trans i3] at hr; rcases hr with hr | ⟨q, hr⟩ <;> cases hr)], rfl⟩
 have R3 := X.rep.thr t (rest ++ [f] ++ [newFrame p n (i.args.map (regV f))]) v2 htl (h' := H2.set oT (.cells (ts.set t v2) gT)) (ρ' := ρ2)
  (fun x hx _ _ hr1 _ hr3 => ⟨by rw [qAw (by intro hc; rw [← hc] at hr3; exact hr3 i3)]; exact k3 x hx hr1, kρ x hx⟩) j2 ⟨_, o2, g2, cap2, c2, q2, S2⟩ (fun x hx => q7 x (by simpa using hx))
 have hwT : w ≠ oT := fun hc => by have := X.wR; rw [hc, i3] at this; cases this
 refine ⟨_, ?_, ρ2, o, rest.length * 3, g, ⟨_, _, _, _, _, _, _, R3⟩, (obj_setn _ hwT).trans (obj_of V.hw (k3 w X.wL (by rw [X.wR]; simp))), (kρ w X.wL).trans X.wR, ⟨by simp; omega, fun x hx hr => ⟨by
  rw [qAw (by intro hc; rw [← hc, i3] at hr; cases hr)]; exact k3 x hx (by rw [hr]; simp), (kρ x hx).trans hr⟩⟩⟩
 rw [call80]
 rw [hnfn, hnpc] at q1
 simp only [workC, hn] at hw hw1
 simp only [SProg.cells, qBr, qBq] at hs hs1
 simp only [qBo] at hx q1
 generalize hM : (rest ++ [f]).length = M at *
 simp (config := { maxSteps := 2000000 }) only [F80, k80, Tryz.f80, sxAll, cA, Env.keep, qt_eq, resultsA, packA, fieldAddrA, Rv.part, TD.isAgg, fillA, setCells, copies, mapO, ↓qAe, ↓qAh, Nat.reduceBEq, Nat.reduceAdd, Nat.reduceMul, Nat.reduceLeDiff, Nat.reduceGT, bne, ↓reduceIte, load_ptr, hw, hlw, lenA_lst, intL_len, hx, hw1, hlw1, hs1, hls1, kt, i1', i4, hT1, hlT1, f1, sx_callf_l, la80_49, nilA_ptr, eqb_self, hT2, hlT2, hlT3, O.kn, q1, elems, group, hv2k, j1, pu27, ty106, ty41, ty42, ty68, ty65, ty73, ty71, ty27, ty3, ty2]
 exact leave_impure pu80
end
end
end Go.Proofs.Sx
