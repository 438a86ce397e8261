/-
  OrderOn: what the interpreter is told ahead of it: what it calls as single steps, order.Leads on arguments made immutable for good.
-/
import Derived.Test.YtpnafmeehjfnaaaGreatDoorPtB
import Derived.Test.YtpnafmeehjfnaaaGreatDoorPtA
import Derived.Test.YtpnafmeehjfnaaaGreatDoorHdOk
import Derived.Test.YtpnafmeehjfnaaaGreatDoorHdWake19
set_option linter.unusedSectionVars false
set_option linter.unusedSimpArgs false
set_option linter.unusedVariables false
set_option linter.defProp false
set_option linter.unusedSimpArgs false
set_option linter.unusedVariables false
set_option maxRecDepth 100000
set_option maxHeartbeats 8000000
namespace Go.Proofs.Sx
open Go.Rv Go.Proofs
attribute [local congr] bind_left got_left
noncomputable section
def pu2 (f : Nat) : Bool := match f with
  | 18 => false
  | 19 => false
  | _ => pu f
def prm2 (f : Nat) : Option (List AV → Heap → Option (CRes × Heap)) := match f with
  | 19 => some (constP (.bool true))
  | 18 => some (callIce cfg 18)
  | 20 => some (callP cfg 20)
  | _ => none
def told2 : RvTold := { pure := pu2, imm := im, live := lv, glob := glb, prim := prm2, loose := lo }
def cfg2 : Cfg := told2.cfg Tryz.prog
def cfg02 : Cfg := told2.bare Tryz.prog
instance : NoAlone cfg2 := ⟨fun _ => rfl⟩
instance : NoRounds cfg2 := ⟨fun _ => rfl⟩
theorem qt_eq2 (f t : Nat) : cfg2.quiet f t = false := rfl
theorem cfg2_ty : Cfg.ty cfg2 = Cfg.ty cfg := rfl
theorem ld2 : loadA cfg2 = loadA cfg := rfl
theorem ix2 : indexAddrA cfg2 = indexAddrA cfg := rfl
theorem st2 : storeA cfg2 = storeA cfg := rfl
theorem fnat2 {f : Nat} {fn : Func} {b : Code} (h1 : Tryz.prog.funcs[f]? = some fn) (h2 : fn.body = some b) (h3 : okB cfg02 f fn b = true) : cfg2.fn f = some ⟨fn.params.size + fn.nfree, fn.results.toList, b⟩ := fn_of (T := told2) h1 h2 h3

theorem sx_prim : PrimOk Tryz.prog cfg := fun f p hp => by cases hp
theorem glb_ok : GlobOk cfg := Go.Proofs.YtpnafmeehjfnaaaGreatDoor.glb_ne
theorem glb_close : ∀ g v, told.glob g = some v → ∀ h, freezeV h 0 40 v = some v := Go.Proofs.YtpnafmeehjfnaaaGreatDoor.glb_close

theorem wake19_runs : ∃ h', Go.Rv.call (Go.Proofs.YtpnafmeehjfnaaaGreatDoor.told0.cfg Tryz.prog) 19 [] [] = some (.ret (.bool true), h') :=
  runs_box Go.Proofs.YtpnafmeehjfnaaaGreatDoor.plainly0 (steps_twin (T := Go.Proofs.YtpnafmeehjfnaaaGreatDoor.told0) (T0 := Go.Proofs.YtpnafmeehjfnaaaGreatDoor.told0) (S := Go.Proofs.YtpnafmeehjfnaaaGreatDoor.steps) Go.Proofs.YtpnafmeehjfnaaaGreatDoor.steps_twins rfl Go.Proofs.YtpnafmeehjfnaaaGreatDoor.oks rfl rfl rfl rfl) Go.Proofs.YtpnafmeehjfnaaaGreatDoor.wake19_run
theorem sx_prim2 : PrimOk Tryz.prog cfg2 := fun f p hp => by
  have hp : prm2 f = some p := hp
  unfold prm2 at hp
  split at hp
  · injection hp with hp; subst hp
    obtain ⟨h0, hrun⟩ := wake19_runs
    exact ⟨⟨_, _, Tryz.func19, rfl, by kernel_rfl⟩, fun hpu => absurd hpu (by decide), fun args h res h' hc s w vs R G H => const_ok (T := Go.Proofs.YtpnafmeehjfnaaaGreatDoor.told0) (C2 := cfg2) Go.Proofs.YtpnafmeehjfnaaaGreatDoor.prims0 Go.Proofs.YtpnafmeehjfnaaaGreatDoor.mixed0 Go.Proofs.YtpnafmeehjfnaaaGreatDoor.glb_close Go.Proofs.YtpnafmeehjfnaaaGreatDoor.glb_ne rfl hrun rfl hc R G H⟩
  · injection hp with hp; subst hp
    exact ⟨⟨_, _, Tryz.func18, rfl, by kernel_rfl⟩, fun hpu => absurd hpu (by decide), fun args h res h' hc s w vs R G H => callIce_ok glb_ok glb_close sx_prim (by kernel_rfl) (fun _ _ h => h) hc R G H⟩
  · injection hp with hp; subst hp
    exact ⟨⟨_, _, Tryz.func20, rfl, by kernel_rfl⟩, fun _ args h v h' hc => callP_pure glb_ok glb_close sx_prim (by kernel_rfl) rfl hc, fun args h res h' hc s w vs R G H => callP_ok glb_ok glb_close sx_prim (by kernel_rfl) (fun _ _ h => h) hc R G H⟩
  · cases hp
theorem callP_at {f : Nat} {args : List AV} {h : Heap} {v : AV} (hn : noLoop h = true) (hc : call cfg f args h = some (.ret v, h)) : callP cfg f args h = some (.ret v, h) := by
  unfold callP
  rw [if_pos hn, hc, Option.bind_some, if_pos hn]
theorem awake2 (h : Heap) : call cfg2 19 [] h = some (.ret (.bool true), h) := by
  rw [call_prim _ _ _ (constP (.bool true)) rfl]
  rfl
theorem wide2 (g : List SRow) (z : Nat) (r : Room) (h : Heap) (hnl : noLoop h = true) (hn : g.length < 1000000000) (hrl : ∀ row ∈ g, row.xs.length < 1000000000) :
    ∃ B, call cfg2 20 [.lst (rowsL g) z r] h = some (.ret (.bool B), h) ∧ (B = false → g.length ≤ 60 ∧ ∀ row ∈ g, row.xs.length ≤ 100) := by
  obtain ⟨B, h1, h2⟩ := wide_eq g z r h hn hrl
  refine ⟨B, ?_, h2⟩
  rw [call_prim _ _ _ (callP cfg 20) rfl]
  exact callP_at hnl h1
theorem killO_nil (h : Heap) : killO [] h = h := by
  apply List.ext_getElem?
  intro i
  rw [killO_get]
  cases h[i]? with
  | none => rfl
  | some x => rw [Option.map_some, killX_out (by simp)]
theorem imm_rows (g : List SRow) (z : Nat) (r : Room) : immB 3 (.lst (rowsL g) z r) = true := by
  show (rowsL g).all (immB 2) = true
  rw [List.all_eq_true]
  intro x hx
  obtain ⟨w, _, rfl⟩ := List.mem_map.1 hx
  show (intL w.xs).all (immB 1) = true
  simp [intL, immB]
/-- order.Leads at an argument that is immutable. -/
theorem leads2 (g : List SRow) (z : Nat) (r : Room) (a b : Int) (h : Heap) (hnl : noLoop h = true) (hn : g.length < 1000000000) (hrl : ∀ row ∈ g, row.xs.length < 1000000000) :
    ∃ B, call cfg2 18 [.lst (rowsL g) z r, .int .i64 a, .int .i64 b] h = some (.ret (.bool B), h) ∧ (B = true ↔ Way (xsOf g) a b) := by
  obtain ⟨B, h1, h2⟩ := leads_eq g z r a b h hn hrl
  refine ⟨B, ?_, h2⟩
  rw [call_prim _ _ _ (callIce cfg 18) rfl]
  unfold callIce iceA
  rw [mapO_cons, imm_freeze h 0 3 _ (imm_rows g z r) 40 (by omega)]
  rw [List.flatMap_cons, imm_vis h 3 _ (imm_rows g z r) 40]
  show callP cfg 18 [.lst (rowsL g) z r, .int .i64 a, .int .i64 b] (killO [] h) = _
  rw [killO_nil]
  exact callP_at hnl h1

theorem lv5 (r : Nat) : cfg2.live 5 r = some [0, 1, 2, 3, 4, 5, 12, 13, 14, 20, 38, 46, 50] := rfl
theorem ok5 : okB cfg02 5 Tryz.f5 (Tryz.f5.body.getD .skip) = true := by kernel_rfl
theorem pu5 : cfg2.pure 5 = true := rfl
instance tight5 {d : Option Nat} : TightD cfg2 5 d := ⟨fun _ _ => rfl⟩
def a5_0 : Array Oper := codeOps (codeAt [false] (Tryz.f5.body.getD .skip))
def b5_0 : Array Oper := a5_0
def r5_0 : Code := .region 0 a5_0 false
theorem x5_0 (e : Env) (h : Heap) : exec cfg2 5 r5_0 e h = (ops cfg2 5 b5_0 (a5_0.toList) e h).bind (regEnd cfg2 5 0 false) := region_at _ _ _ _ _ _ _
def a5_1 : Array Oper := codeOps (codeAt [true, false, false] (Tryz.f5.body.getD .skip))
def b5_1 : Array Oper := a5_1
def r5_1 : Code := .region 1 a5_1 false
theorem x5_1 (e : Env) (h : Heap) : exec cfg2 5 r5_1 e h = (ops cfg2 5 b5_1 (a5_1.toList) e h).bind (regEnd cfg2 5 1 false) := region_at _ _ _ _ _ _ _
theorem g5_1_2 : (b5_1[2]?).bind (·.dst) = some 17 := by kernel_rfl
def a5_2 : Array Oper := codeOps (codeAt [true, false, true, false, false] (Tryz.f5.body.getD .skip))
def b5_2 : Array Oper := a5_2
def r5_2 : Code := .region 2 a5_2 false
theorem x5_2 (e : Env) (h : Heap) : exec cfg2 5 r5_2 e h = (ops cfg2 5 b5_2 (a5_2.toList) e h).bind (regEnd cfg2 5 2 false) := region_at _ _ _ _ _ _ _
def a5_3 : Array Oper := codeOps (codeAt [true, true, false, false] (Tryz.f5.body.getD .skip))
def b5_3 : Array Oper := a5_3
def r5_3 : Code := .region 3 a5_3 false
theorem x5_3 (e : Env) (h : Heap) : exec cfg2 5 r5_3 e h = (ops cfg2 5 b5_3 (a5_3.toList) e h).bind (regEnd cfg2 5 3 false) := region_at _ _ _ _ _ _ _
theorem g5_3_4 : (b5_3[4]?).bind (·.dst) = some 26 := by kernel_rfl
theorem g5_3_10 : (b5_3[10]?).bind (·.dst) = some 32 := by kernel_rfl
def a5_4 : Array Oper := codeOps (codeAt [true, true, false, true, false, false] (Tryz.f5.body.getD .skip))
def b5_4 : Array Oper := a5_4
def r5_4 : Code := .region 4 a5_4 false
theorem x5_4 (e : Env) (h : Heap) : exec cfg2 5 r5_4 e h = (ops cfg2 5 b5_4 (a5_4.toList) e h).bind (regEnd cfg2 5 4 false) := region_at _ _ _ _ _ _ _
def a5_5 : Array Oper := codeOps (codeAt [true, true, true, false, false] (Tryz.f5.body.getD .skip))
def b5_5 : Array Oper := a5_5
def r5_5 : Code := .region 5 a5_5 false
theorem x5_5 (e : Env) (h : Heap) : exec cfg2 5 r5_5 e h = (ops cfg2 5 b5_5 (a5_5.toList) e h).bind (regEnd cfg2 5 5 false) := region_at _ _ _ _ _ _ _
theorem g5_5_2 : (b5_5[2]?).bind (·.dst) = some 41 := by kernel_rfl
def a5_6 : Array Oper := codeOps (codeAt [true, true, true, false, true, false, false] (Tryz.f5.body.getD .skip))
def b5_6 : Array Oper := a5_6
def r5_6 : Code := .region 6 a5_6 false
theorem x5_6 (e : Env) (h : Heap) : exec cfg2 5 r5_6 e h = (ops cfg2 5 b5_6 (a5_6.toList) e h).bind (regEnd cfg2 5 6 false) := region_at _ _ _ _ _ _ _
def a5_7 : Array Oper := codeOps (codeAt [true, true, true, true, false] (Tryz.f5.body.getD .skip))
def b5_7 : Array Oper := a5_7
def r5_7 : Code := .region 7 a5_7 false
theorem x5_7 (e : Env) (h : Heap) : exec cfg2 5 r5_7 e h = (ops cfg2 5 b5_7 (a5_7.toList) e h).bind (regEnd cfg2 5 7 false) := region_at _ _ _ _ _ _ _
def a5_8 : Array Oper := codeOps (codeAt [true, true, true, true, true, false, false] (Tryz.f5.body.getD .skip))
def b5_8 : Array Oper := a5_8
def r5_8 : Code := .region 8 a5_8 false
theorem x5_8 (e : Env) (h : Heap) : exec cfg2 5 r5_8 e h = (ops cfg2 5 b5_8 (a5_8.toList) e h).bind (regEnd cfg2 5 8 false) := region_at _ _ _ _ _ _ _
def a5_9 : Array Oper := codeOps (codeAt [true, true, true, true, true, false, true, false, false, false, false] (Tryz.f5.body.getD .skip))
def b5_9 : Array Oper := a5_9
def r5_9 : Code := .region 9 a5_9 false
theorem x5_9 (e : Env) (h : Heap) : exec cfg2 5 r5_9 e h = (ops cfg2 5 b5_9 (a5_9.toList) e h).bind (regEnd cfg2 5 9 false) := region_at _ _ _ _ _ _ _
def a5_11 : Array Oper := codeOps (codeAt [true, true, true, true, true, false, true, false, false, true, false, false] (Tryz.f5.body.getD .skip))
def b5_11 : Array Oper := a5_11
def r5_11 : Code := .region 11 a5_11 false
theorem im5_54 : cfg2.imm 5 54 = false := by kernel_rfl
theorem im5_60 : cfg2.imm 5 60 = true := by kernel_rfl
theorem x5_11 (e : Env) (h : Heap) : exec cfg2 5 r5_11 e h = (ops cfg2 5 b5_11 (a5_11.toList) e h).bind (regEnd cfg2 5 11 false) := region_at _ _ _ _ _ _ _
def a5_10 : Array Oper := codeOps (codeAt [true, true, true, true, true, false, true, false, false, true, true] (Tryz.f5.body.getD .skip))
def b5_10 : Array Oper := a5_10
def r5_10 : Code := .region 10 a5_10 false
theorem x5_10 (e : Env) (h : Heap) : exec cfg2 5 r5_10 e h = (ops cfg2 5 b5_10 (a5_10.toList) e h).bind (regEnd cfg2 5 10 false) := region_at _ _ _ _ _ _ _
def a5_12 : Array Oper := codeOps (codeAt [true, true, true, true, true, true, false] (Tryz.f5.body.getD .skip))
def b5_12 : Array Oper := a5_12
def r5_12 : Code := .region 12 a5_12 false
theorem im5_69 : cfg2.imm 5 69 = true := by kernel_rfl
theorem x5_12 (e : Env) (h : Heap) : exec cfg2 5 r5_12 e h = (ops cfg2 5 b5_12 (a5_12.toList) e h).bind (regEnd cfg2 5 12 false) := region_at _ _ _ _ _ _ _
def a5_13 : Array Oper := codeOps (codeAt [true, true, true, true, true, true, true, false] (Tryz.f5.body.getD .skip))
def b5_13 : Array Oper := a5_13
def r5_13 : Code := .region 13 a5_13 false
theorem x5_13 (e : Env) (h : Heap) : exec cfg2 5 r5_13 e h = (ops cfg2 5 b5_13 (a5_13.toList) e h).bind (regEnd cfg2 5 13 false) := region_at _ _ _ _ _ _ _
theorem g5_13_5 : (b5_13[5]?).bind (·.dst) = some 77 := by kernel_rfl
def l5_0 : Code := (.seq (.seq r5_9 (.cond (.tmp 50) .skip (.exit 0))) (.seq (.block 1 r5_11) r5_10))
def k5 : Code := (.seq r5_0 (.seq (.seq r5_1 (.cond (.tmp 20) (.seq r5_2 .ret) .skip)) (.seq (.seq r5_3 (.cond (.tmp 38) (.seq r5_4 .ret) .skip)) (.seq (.seq r5_5 (.cond (.tmp 46) (.seq r5_6 .ret) .skip)) (.seq r5_7 (.seq (.seq r5_8 (.block 0 (.loop l5_0))) (.seq r5_12 (.seq r5_13 .ret))))))))
theorem body5 : Tryz.f5.body = some k5 := by kernel_rfl
theorem call5 (x0 x1 x2 x3 x4 x5 : AV) (h : Heap) : call cfg2 5 [x0, x1, x2, x3, x4, x5] h = (exec cfg2 5 k5 [(0, x0), (1, x1), (2, x2), (3, x3), (4, x4), (5, x5)] h).bind (callEnd cfg2 5 h [.tmp 12]) := call_at2 (fnat2 Tryz.func5 body5 (by rw [← ok5]; kernel_rfl)) rfl rfl
end
end Go.Proofs.Sx

/-
  OrderOn: the memory of the graph with one edge more: a slice of slices of the call's own.
-/
set_option linter.unusedSimpArgs false
set_option linter.unusedVariables false
set_option maxRecDepth 100000
set_option maxHeartbeats 200000
namespace Go.Proofs.Sx
open Go.Rv Go.Proofs
noncomputable section

theorem nl_app {h : Heap} (cs : List AV) (g : Nat) (hn : noLoop h = true) : noLoop (h ++ [.cells cs g]) = true := by
  unfold noLoop at *
  rw [List.all_append, hn]
  rfl
theorem nl_set {h : Heap} (o : Nat) (cs : List AV) (g : Nat) (hn : noLoop h = true) : noLoop (List.set h o (.cells cs g)) = true := by
  unfold noLoop at *
  rw [List.all_eq_true] at *
  intro x hx
  rcases List.mem_or_eq_of_mem_set hx with hx | rfl
  · exact hn x hx
  · rfl
theorem nl_grow {h h' : Heap} {o len n sz g : Nat} {cs : List AV} {cap : Option Nat} {v' : AV} (hn : noLoop h = true) (hg : growA h o len n sz g cs cap = some (v', h')) : noLoop h' = true := by
  cases cap with
  | none => simp only [growA, Option.some.injEq, Prod.mk.injEq] at hg; rw [← hg.2]; exact nl_set _ _ _ hn
  | some c =>
    simp only [growA] at hg
    split at hg
    · simp only [Option.some.injEq, Prod.mk.injEq] at hg; rw [← hg.2]; exact nl_app _ _ hn
    · cases hg
theorem nl_append {h h' : Heap} {sz : Nat} {v v' : AV} {ys : List AV} (hn : noLoop h = true) (ha : appendA h sz v ys = some (v', h')) : noLoop h' = true := by
  unfold appendA at ha
  simp only at ha
  split at ha
  · cases ha
  · split at ha
    · split at ha
      · simp only [Option.some.injEq, Prod.mk.injEq] at ha; rw [← ha.2]; exact hn
      · split at ha
        · simp only [Option.some.injEq, Prod.mk.injEq] at ha; rw [← ha.2]; exact nl_app _ _ hn
        · cases ha
    · obtain ⟨cs, hcs, ha⟩ := Option.bind_eq_some_iff.1 ha
      split at ha
      · cases ha
      · split at ha
        · simp only [Option.some.injEq, Prod.mk.injEq] at ha; rw [← ha.2]; exact hn
        · split at ha
          · simp only [Option.some.injEq, Prod.mk.injEq] at ha; rw [← ha.2]; exact nl_set _ _ _ hn
          · split at ha
            · exact nl_grow hn ha
            · cases ha
    · cases ha
theorem nl_kill {h : Heap} (S : List Nat) (hn : noLoop h = true) : noLoop (killO S h) = true := by
  unfold noLoop killO at *
  rw [List.all_eq_true] at *
  intro x hx
  obtain ⟨i, hi, rfl⟩ := List.mem_mapIdx.1 hx
  have := hn _ (List.getElem_mem hi)
  generalize h[i] = x at this ⊢
  cases x with
  | cells cs g => unfold killX; simp only; cases S.contains i <;> rfl
  | loop r => exact this
  | iter k es => unfold killX; simp only; cases S.contains i <;> rfl
  | _ => rfl

structure MB (H : Heap) (mv : AV) (cells : List AV) (ls : List (List Int)) : Prop where
  out : Built H mv cells 1
  len : cells.length = ls.length
  each : ∀ (k : Nat) v xs, cells[k]? = some v → ls[k]? = some xs → Built H v (intL xs) 1
  apart : ∀ (k : Nat) v o, cells[k]? = some v → objOf v = some o → objOf mv ≠ some o
  sep : ∀ (k k' : Nat) v v' o, cells[k]? = some v → cells[k']? = some v' → objOf v = some o → objOf v' = some o → k = k'
  nl : noLoop H = true
theorem cellOf {H : Heap} {cells : List AV} {ls : List (List Int)} (hl : cells.length = ls.length) (he : ∀ (k : Nat) v xs, cells[k]? = some v → ls[k]? = some xs → Built H v (intL xs) 1) :
    ∀ v ∈ cells, v.cells = [v] ∧ v.leaf = true := by
  intro v hv
  obtain ⟨k, hk, rfl⟩ := List.mem_iff_getElem.1 hv
  have B := he k _ _ (List.getElem?_eq_getElem hk) (List.getElem?_eq_getElem (by omega : k < ls.length))
  exact ⟨built_cells B, built_leaf B⟩
theorem flatC_ones {xs : List AV} (H : ∀ x ∈ xs, x.cells = [x]) : flatC xs = xs := by
  induction xs with
  | nil => rfl
  | cons x r ih =>
    rw [flatC_cons, H x (List.mem_cons_self ..), ih fun y hy => H y (List.mem_cons_of_mem _ hy)]
    rfl
theorem MB.start : MB [] (.lst [] 0 .nil) [] [] := ⟨.inl ⟨rfl, rfl⟩, rfl, fun k v xs h => by simp at h, fun k v o h => by simp at h, fun k k' v v' o h => by simp at h, rfl⟩

theorem MB.row {H : Heap} {mv : AV} {cells : List AV} {ls : List (List Int)} (M : MB H mv cells ls) (xs : List Int) (h1 : ls.length < 1000000) (h2 : xs.length < 1000000) :
    ∃ w H1 mv' H2, appendA (H ++ [.cells [] 0]) 1 (.msl H.length 0 0 1 0 (some 0)) (intL xs) = some (w, H1) ∧ appendA H1 1 mv [w] = some (mv', H2) ∧ known w = some w ∧ known mv' = some mv' ∧ w.cells = [w] ∧ w.leaf = true ∧ (∀ h, elems h (.lst (group 1 [w] 1) 1 (.exact 1)) = some [w]) ∧ MB H2 mv' (cells ++ [w]) (ls ++ [xs]) := by
  have B0 : Built (H ++ [.cells [] 0]) (.msl H.length 0 0 1 0 (some 0)) [] 1 := .inr ⟨H.length, 0, some 0, rfl, by simp [Heap.obj, flatC], .inr rfl⟩
  obtain ⟨w, H1, ha, Bw, hle, hk, ho⟩ := append_built (ys := intL xs) B0 (fun x hx => by simp at hx) (fun y hy => (plain_ints xs).leafs y hy) (by omega) (by simp [intL, mostLen]; omega)
  have hH1 : H.length < H1.length := by simp at hle; omega
  have hold : ∀ o, o < H.length → H1[o]? = H[o]? := fun o hlt => by
    rw [hk o (by simp; omega) (by simp [objOf]; omega), List.getElem?_append_left hlt]
  have how : ∀ o, objOf w = some o → H.length ≤ o := fun o hw => by
    rcases ho with ho | ho
    · rw [ho] at hw; simp [objOf] at hw; omega
    · rw [ho] at hw; simp at hw; omega
  simp only [List.nil_append] at Bw
  have Bo : Built H1 mv cells 1 := M.out.other fun o hm => hold o (built_lt M.out hm)
  have hcs := cellOf M.len M.each
  have hcl := M.len
  obtain ⟨mv', H2, ha2, Bo2, hle2, hk2, ho2⟩ := append_built (ys := [w]) Bo (fun x hx => by rw [(hcs x hx).1]; rfl) (fun y hy => by
    simp at hy; subst hy; rw [built_cells Bw]; simp [built_leaf Bw]) (by omega) (by simp [mostLen]; omega)
  have hne : ∀ o, objOf w = some o → objOf mv ≠ some o := fun o hw hm => by
    have := how o hw; have := built_lt M.out hm; omega
  have hlw : ∀ o, objOf w = some o → o < H1.length := fun o hw => built_lt Bw hw
  have hlc : ∀ k v o, cells[k]? = some v → objOf v = some o → o < H.length := fun k v o hv hvo => by
    have hkl := (List.getElem?_eq_some_iff.1 hv).1
    exact built_lt (M.each k v _ hv (List.getElem?_eq_getElem (by omega : k < ls.length))) hvo
  have nm : ∀ k v, (cells ++ [w])[k]? = some v → (k < cells.length ∧ cells[k]? = some v) ∨ (k = cells.length ∧ v = w) := fun k v hv => by
    have hkl := (List.getElem?_eq_some_iff.1 hv).1
    simp at hkl
    by_cases hk : k < cells.length
    · rw [List.getElem?_append_left hk] at hv; exact .inl ⟨hk, hv⟩
    · have : k = cells.length := by omega
      subst this
      simp at hv; exact .inr ⟨rfl, hv.symm⟩
  refine ⟨w, H1, mv', H2, ha, ha2, known_built Bw, known_built Bo2, built_cells Bw, built_leaf Bw, (fun h => by rcases Bw with ⟨rfl, _⟩ | ⟨_, _, _, rfl, _⟩ <;> rfl), Bo2, by simp [hcl], ?_, ?_, ?_, nl_append (nl_append (nl_app _ _ M.nl) ha) ha2⟩
  · intro k v ys hv hys
    rcases nm k v hv with ⟨hkl, hv⟩ | ⟨rfl, rfl⟩
    · rw [List.getElem?_append_left (by omega)] at hys
      refine (M.each k v ys hv hys).other fun o hvo => ?_
      have := hlc k v o hv hvo
      rw [hk2 o (by omega) (M.apart k v o hv hvo), hold o this]
    · rw [hcl] at hys
      simp at hys
      subst hys
      exact Bw.other fun o hw => hk2 o (hlw o hw) (hne o hw)
  · intro k v o hv hvo hm
    rcases ho2 with ho2 | ho2
    · rw [ho2] at hm
      rcases nm k v hv with ⟨hkl, hv⟩ | ⟨rfl, rfl⟩
      · exact M.apart k v o hv hvo hm
      · exact hne o hvo hm
    · rw [ho2] at hm
      simp only [Option.some.injEq] at hm
      rcases nm k v hv with ⟨hkl, hv⟩ | ⟨rfl, rfl⟩
      · have := hlc k v o hv hvo; omega
      · have := hlw o hvo; omega
  · intro k k' v v' o hv hv' hvo hvo'
    rcases nm k v hv with ⟨hkl, hvc⟩ | ⟨hkl, hvc⟩ <;> rcases nm k' v' hv' with ⟨hkl', hvc'⟩ | ⟨hkl', hvc'⟩
    · exact M.sep k k' v v' o hvc hvc' hvo hvo'
    · rw [hvc'] at hvo'
      have := hlc k v o hvc hvo; have := how o hvo'; omega
    · rw [hvc] at hvo
      have := hlc k' v' o hvc' hvo'; have := how o hvo; omega
    · omega

/-- What is left behind the edge more: what can be read. -/
structure MF (H : Heap) (mv : AV) (cells : List AV) (ls : List (List Int)) : Prop where
  out : Built H mv cells 1
  len : cells.length = ls.length
  each : ∀ (k : Nat) v xs, cells[k]? = some v → ls[k]? = some xs → Built H v (intL xs) 1
  nl : noLoop H = true
theorem MB.put {H : Heap} {mv : AV} {cells : List AV} {ls : List (List Int)} (M : MB H mv cells ls) {k : Nat} {xs : List Int} (hx : ls[k]? = some xs) (y : Int) (h2 : xs.length < 1000000) :
    ∃ om gm v v' H1 H2, indexAddrA cfg H 45 mv (.int .i64 k) = some (.ptr om k gm) ∧ loadA cfg H 34 (.ptr om k gm) = some v ∧ known v = some v ∧ known mv = some mv ∧ appendA H 1 v [.int .i64 y] = some (v', H1) ∧ known v' = some v' ∧
      indexAddrA cfg H1 45 mv (.int .i64 k) = some (.ptr om k gm) ∧ storeA cfg H1 34 (.ptr om k gm) v' = some H2 ∧ MF H2 mv (cells.set k v') (ls.set k (xs ++ [y])) := by
  have hkl := (List.getElem?_eq_some_iff.1 hx).1
  have hcl := M.len
  have hkc : k < cells.length := by omega
  obtain ⟨v, hv⟩ : ∃ v, cells[k]? = some v := ⟨_, List.getElem?_eq_getElem hkc⟩
  have hcs := cellOf M.len M.each
  have hfl : flatC cells = cells := flatC_ones fun x hx => (hcs x hx).1
  have B := M.each k v xs hv hx
  obtain ⟨v', H1, ha, B1, hle, hk1, ho1⟩ := append_built (ys := [AV.int .i64 y]) B (plain_ints xs).size (fun z hz => (plain_ints [y]).leafs z hz) (by omega) (by simp [intL, mostLen]; omega)
  rcases M.out with ⟨_, h0⟩ | ⟨om, gm, cap, rfl, hob, hcap⟩
  · subst h0; simp at hkc
  · rw [hfl] at hob
    have hom := obj_some hob
    have hob1 : H1.obj om gm = some cells := by
      have := hk1 om hom fun hc => M.apart k v om hv hc rfl
      unfold Heap.obj at *
      rw [this]; exact hob
    have hom1 := obj_some hob1
    have hom' : ∀ o, objOf v' = some o → o ≠ om := fun o ho he => by
      subst he
      rcases ho1 with ho1 | ho1
      · exact M.apart k v o hv (ho1 ▸ ho) rfl
      · rw [ho1] at ho; simp at ho; omega
    refine ⟨om, gm, v, v', H1, List.set H1 om (.cells (cells.set k v') gm), ?_, ?_, known_built B, rfl, ha, known_built B1, ?_, ?_, ⟨.inr ⟨om, gm, cap, by simp, ?_, by simpa using hcap⟩, by simp [hcl], ?_, nl_set _ _ _ (nl_append M.nl ha)⟩⟩
    · simp [indexAddrA, ty45, ty34, Heap.live, hob, hkc]
    · simp [loadA, ty34, cellsAt, hob, Rv.part, TD.isAgg, hv]
    · simp [indexAddrA, ty45, ty34, Heap.live, hob1, hkc]
    · simp [storeA, ty34, hob1, built_cells B1, built_leaf B1, setCells]
      omega
    · rw [flatC_ones]
      · exact obj_set_self hob1
      · intro x hxm
        rcases List.mem_or_eq_of_mem_set hxm with h | rfl
        · exact (hcs x h).1
        · exact built_cells B1
    · intro j w ys hw hys
      by_cases hj : j = k
      · subst hj
        rw [List.getElem?_set_self hkc] at hw
        rw [List.getElem?_set_self hkl] at hys
        injection hw with hw; injection hys with hys
        subst hw hys
        rw [show intL (xs ++ [y]) = intL xs ++ [AV.int .i64 y] by simp [intL]]
        exact B1.other fun o ho => by rw [List.getElem?_set_ne (Ne.symm (hom' o ho))]
      · rw [List.getElem?_set_ne (Ne.symm hj)] at hw hys
        have Bj := M.each j w ys hw hys
        refine Bj.other fun o ho => ?_
        have hne : o ≠ om := fun he => M.apart j w o hw ho (by rw [he]; rfl)
        rw [List.getElem?_set_ne (Ne.symm hne), hk1 o (built_lt Bj ho) fun hc => hj (M.sep j k w v o hw hv ho hc)]

theorem freeze_rows {H : Heap} : ∀ (cells : List AV) (ls : List (List Int)), cells.length = ls.length → (∀ (k : Nat) v xs, cells[k]? = some v → ls[k]? = some xs → Built H v (intL xs) 1) →
    ∃ gs : List SRow, mapO (freezeV H 0 39) cells = some (rowsL gs) ∧ xsOf gs = ls
  | [], [], _, _ => ⟨[], rfl, rfl⟩
  | [], l :: r, h, _ => by simp at h
  | c :: cs, [], h, _ => by simp at h
  | c :: cs, l :: ls, h, he => by
    obtain ⟨gs, h1, h2⟩ := freeze_rows cs ls (by simpa using h) fun k v xs hv hx => he (k + 1) v xs (by simpa using hv) (by simpa using hx)
    have B := he 0 c l rfl rfl
    rcases freeze_built (n := 0) (d := 37) B (plain_ints l) (fun o _ => Nat.zero_le _) with ⟨_, hl, hf⟩ | hf
    · refine ⟨⟨l, 0, .nil⟩ :: gs, ?_, by simp only [xsOf, List.map_cons] at h2 ⊢; rw [h2]⟩
      rw [mapO_cons, hf, Option.bind_some, h1, Option.bind_some]
      have : l = [] := by simpa [intL] using hl
      subst this; rfl
    · refine ⟨⟨l, 1, .open⟩ :: gs, ?_, by simp only [xsOf, List.map_cons] at h2 ⊢; rw [h2]⟩
      rw [mapO_cons, hf, Option.bind_some, h1, Option.bind_some]
      rfl
theorem group_rows : ∀ (gs : List SRow), group gs.length (rowsL gs) 1 = rowsL gs
  | [] => rfl
  | x :: r => by
    have := group_rows r
    simp only [rowsL, List.map_cons, List.length_cons, group] at this ⊢
    simp only [List.drop_succ_cons, List.drop_zero, this]
    rfl
theorem freeze_msl (h : Heap) (n d o off len sz g : Nat) (cap : Option Nat) : freezeV h n (d + 1) (.msl o off len sz g cap) = if o < n then some (.msl o off len sz g cap) else (h.obj o g).bind fun cs =>
    if off + len * sz ≤ cs.length then (mapO (freezeV h n d) ((cs.drop off).take (len * sz))).bind fun cs => some (.lst (group len cs sz) sz .open) else none := rfl
theorem MF.freeze {H : Heap} {mv : AV} {cells : List AV} {ls : List (List Int)} (M : MF H mv cells ls) : ∃ gs z r, freezeV H 0 40 mv = some (.lst (rowsL gs) z r) ∧ xsOf gs = ls := by
  obtain ⟨gs, h1, h2⟩ := freeze_rows cells ls M.len M.each
  have hcs := cellOf M.len M.each
  have hfl : flatC cells = cells := flatC_ones fun x hx => (hcs x hx).1
  have hgl : gs.length = cells.length := by rw [M.len, ← h2, xsOf_len]
  rcases M.out with ⟨rfl, h0⟩ | ⟨om, gm, cap, rfl, hob, hcap⟩
  · subst h0
    have : gs = [] := List.length_eq_zero_iff.1 hgl
    subst this
    exact ⟨[], 0, .nil, rfl, h2⟩
  · rw [hfl] at hob
    refine ⟨gs, 1, .open, ?_, h2⟩
    rw [freeze_msl H 0 39, if_neg (Nat.not_lt_zero _), hob, Option.bind_some, if_pos (by omega), Nat.mul_one, List.drop_zero, List.take_length, h1, Option.bind_some, ← hgl, group_rows]

/-- order.Leads at the graph with an edge more. -/
theorem leads_more {H : Heap} {mv : AV} {cells : List AV} {ls : List (List Int)} (M : MF H mv cells ls) (a b : Int) (h1 : ls.length < 1000000000) (h2 : ∀ l ∈ ls, l.length < 1000000000) :
    ∃ B H', call cfg2 18 [mv, .int .i64 a, .int .i64 b] H = some (.ret (.bool B), H') ∧ (B = true ↔ Way ls a b) := by
  obtain ⟨gs, z, r, hf, hls⟩ := M.freeze
  obtain ⟨B, hc, hB⟩ := leads_eq gs z r a b (killO (visV H 40 mv) H) (by rw [← hls, xsOf_len] at h1; exact h1) (fun row hr => h2 _ (by rw [← hls]; exact List.mem_map_of_mem hr))
  refine ⟨B, killO (visV H 40 mv) H, ?_, by rw [← hls]; exact hB⟩
  rw [call_prim _ _ _ (callIce cfg 18) rfl]
  unfold callIce iceA
  rw [mapO_cons, hf]
  show callP cfg 18 [.lst (rowsL gs) z r, .int .i64 a, .int .i64 b] (killO (visV H 40 mv ++ []) H) = _
  rw [List.append_nil]
  exact callP_at (nl_kill _ M.nl) hc
end
end Go.Proofs.Sx

/-
  OrderOn answers true.
-/
set_option linter.unusedSimpArgs false
set_option linter.unusedVariables false
set_option maxRecDepth 100000
set_option maxHeartbeats 1000000
namespace Go.Proofs.Sx
open Go.Rv Go.Proofs
attribute [local congr] bind_left got_left guardK_left
noncomputable section


theorem on_loop (g : List SRow) (z : Nat) (r : Room) (a b c fr goal : Int) (hn : g.length ≤ 60) (hrl : ∀ row ∈ g, row.xs.length ≤ 100) : ∀ (ys : List SRow) (i : Nat), g.drop i = ys → i ≤ g.length →
    ∀ (mv : AV) (cells : List AV) (H : Heap), MB H mv cells ((xsOf g).take i) → ∀ t,
    Got (exec cfg2 5 (.loop l5_0) [(0, .lst (rowsL g) z r), (1, .int .i64 a), (2, .int .i64 b), (3, .int .i64 c), (4, .int .i64 fr), (5, .int .i64 goal), (12, .bool false), (13, mv), (14, .int .i64 i), (20, .bool false), (38, .bool false), (46, .bool false), (50, t)]
 H) (fun q => ∃ (mv : AV) (cells : List AV) (H' : Heap) (u14 u50 : AV), q = (.exit 0, [(0, .lst (rowsL g) z r), (1, .int .i64 a), (2, .int .i64 b), (3, .int .i64 c), (4, .int .i64 fr), (5, .int .i64 goal), (12, .bool false), (13, mv), (14, u14), (20, .bool false), (38, .bool false), (46, .bool false), (50, u50)]
, H') ∧ MB H' mv cells (xsOf g)) := by
  intro ys
  induction ys with
  | nil =>
    intro i hd hi mv cells H M t
    have hln : lenA H (.slice 34) (.lst (rowsL g) z r) = some g.length := by simp [lenA, rowsL_len]
    have hle : g.length ≤ i := by simpa using hd
    rw [List.take_of_length_le (by rw [xsOf_len]; exact hle)] at M
    have hkm := known_built M.out
    rw [got_loop]
    simp only [l5_0, k5, Tryz.f5, regEnd_nrm (lv5 _), pu5, x5_0, a5_0, x5_1, a5_1, sx_guardO g5_1_2, x5_2, a5_2, x5_3, a5_3, sx_guardO g5_3_4, sx_guardO g5_3_10, x5_4, a5_4, x5_5, a5_5, sx_guardO g5_5_2, x5_6, a5_6, x5_7, a5_7, x5_8, a5_8, x5_9, a5_9, x5_11, a5_11, im5_54, im5_60, x5_10, a5_10, x5_12, a5_12, im5_69, x5_13, a5_13, sx_guardO g5_13_5, sxAll, arithA, Nat.reduceEqDiff, Env.keep, qt_eq, isAlloc, resultsA, packA, fieldA, indexA, unA, fieldAddrA, Rv.part, cellsAt, TD.isAgg, convH, convA, buildA, fillA, setCells, copies, optA, boundA, mapO, ↓Option.bind_some, ↓Option.bind_none, Nat.reduceBEq, Nat.reduceAdd, Nat.reduceMul, Nat.reduceLeDiff, Nat.reduceSub, Nat.reduceLT, Nat.reduceGT, Int.reduceBEq, Int.reduceLT, Int.reduceLE, bne, ↓reduceIte, qt_eq2, cfg2_ty, ty45, hln, at_end hd, hkm]
    exact ⟨_, _, _, _, _, rfl, M⟩
  | cons row rest ih =>
    intro i hd hi mv cells H M t
    obtain ⟨hlt, hx, hd'⟩ := at_drop hd
    have hlt' : i < g.length := by simpa using hlt
    have hw := wrap_succ (i := i) (by omega)
    have hrow := hrl row (List.mem_of_getElem? hx)
    have hln : ∀ H, lenA H (.slice 34) (.lst (rowsL g) z r) = some g.length := fun H => by simp [lenA, rowsL_len]
    have hix : ∀ H, indexAddrA cfg H 45 (.lst (rowsL g) z r) (.int .i64 i) = some (.ref [row.val]) := fun H => by
      have h1 : (rowsL g)[i]? = some row.val := by simp [rowsL, hx]
      simp [indexAddrA, ty45, ty34, h1, SRow.val, AV.cells]
    have hld : ∀ H, loadA cfg H 34 (.ref [row.val]) = some row.val := fun H => by simp [loadA, cellsAt, ty34, Rv.part, TD.isAgg]
    have hel0 : ∀ H, elems H row.val = some (intL row.xs) := fun H => rfl
    have hkr : known row.val = some row.val := rfl
    obtain ⟨w, H1, mv', H2, ha1, ha2, kw, kmv, wc, wl, hel, M2⟩ := M.row row.xs (by simp; omega) (by omega)
    have htk : (xsOf g).take (i + 1) = (xsOf g).take i ++ [row.xs] := by
      have : (xsOf g)[i]? = some row.xs := by simp [xsOf, hx]
      rw [List.take_add_one, this]; rfl
    rw [← htk] at M2
    have hkm := known_built M.out
    have := ih (i + 1) hd' (by omega) mv' _ H2 M2
    rw [got_loop]
    simp only [l5_0] at this ⊢
    simp only [k5, Tryz.f5, regEnd_nrm (lv5 _), pu5, x5_0, a5_0, x5_1, a5_1, sx_guardO g5_1_2, x5_2, a5_2, x5_3, a5_3, sx_guardO g5_3_4, sx_guardO g5_3_10, x5_4, a5_4, x5_5, a5_5, sx_guardO g5_5_2, x5_6, a5_6, x5_7, a5_7, x5_8, a5_8, x5_9, a5_9, x5_11, a5_11, im5_54, im5_60, x5_10, a5_10, x5_12, a5_12, im5_69, x5_13, a5_13, sx_guardO g5_13_5, sxAll, arithA, Nat.reduceEqDiff, Env.keep, qt_eq, isAlloc, resultsA, packA, fieldA, indexA, unA, fieldAddrA, Rv.part, cellsAt, TD.isAgg, convH, convA, buildA, fillA, setCells, copies, optA, boundA, mapO, ↓Option.bind_some, ↓Option.bind_none, Nat.reduceBEq, Nat.reduceAdd, Nat.reduceMul, Nat.reduceLeDiff, Nat.reduceSub, Nat.reduceLT, Nat.reduceGT, Int.reduceBEq, Int.reduceLT, Int.reduceLE, bne, ↓reduceIte, qt_eq2, cfg2_ty, ix2, ld2, ty45, ty34, ty3, hln, hlt, hix, hld, hel0, hkr, hkm, ha1, ha2, kw, kmv, wc, wl, hel, hw] at this ⊢
    exact this _

theorem way_more {g : List (List Int)} {k : Nat} {xs : List Int} (hk : g[k]? = some xs) (y : Int) {a b : Int} (h : Way g a b) : Way (g.set k (xs ++ [y])) a b := by
  refine h.more (by simp) fun x hx w hw => ?_
  unfold rowAt at *
  rw [List.getD_eq_getElem?_getD] at *
  by_cases he : k = x.toNat
  · subst he
    rw [List.getElem?_set_self hx.nat]
    rw [hk] at hw
    simp at hw ⊢
    exact .inl hw
  · rw [List.getElem?_set_ne he]; exact hw

theorem orderOn_eq (g : List SRow) (z : Nat) (r : Room) (a b c fr goal : Int) (hn : g.length < 1000000000) (hrl : ∀ row ∈ g, row.xs.length < 1000000000) :
    call cfg2 5 [.lst (rowsL g) z r, .int .i64 a, .int .i64 b, .int .i64 c, .int .i64 fr, .int .i64 goal] [] = some (.ret (.bool true), []) := by
  obtain ⟨W, hwd, hsm⟩ := wide2 g z r [] rfl hn hrl
  have haw := awake2
  have hln : ∀ H, lenA H (.slice 34) (.lst (rowsL g) z r) = some g.length := fun H => by simp [lenA, rowsL_len]
  have pw : cfg2.pure 20 = true := rfl
  have pa : cfg2.pure 19 = false := rfl
  have pl : cfg2.pure 18 = false := rfl
  rw [call5]
  cases W with
  | true =>
    simp only [k5, Tryz.f5, regEnd_nrm (lv5 _), pu5, x5_0, a5_0, x5_1, a5_1, sx_guardO g5_1_2, x5_2, a5_2, x5_3, a5_3, sx_guardO g5_3_4, sx_guardO g5_3_10, x5_4, a5_4, x5_5, a5_5, sx_guardO g5_5_2, x5_6, a5_6, x5_7, a5_7, x5_8, a5_8, x5_9, a5_9, x5_11, a5_11, im5_54, im5_60, x5_10, a5_10, x5_12, a5_12, im5_69, x5_13, a5_13, sx_guardO g5_13_5, sxAll, arithA, Nat.reduceEqDiff, Env.keep, qt_eq, isAlloc, resultsA, packA, fieldA, indexA, unA, fieldAddrA, Rv.part, cellsAt, TD.isAgg, convH, convA, buildA, fillA, setCells, copies, optA, boundA, mapO, ↓Option.bind_some, ↓Option.bind_none, Nat.reduceBEq, Nat.reduceAdd, Nat.reduceMul, Nat.reduceLeDiff, Nat.reduceSub, Nat.reduceLT, Nat.reduceGT, Int.reduceBEq, Int.reduceLT, Int.reduceLE, bne, ↓reduceIte, qt_eq2, cfg2_ty, hwd, haw, pw, pa]
    exact leave_kept rfl rfl
  | false =>
    obtain ⟨hs1, hs2⟩ := hsm rfl
    obtain ⟨B1, hc1, hi1⟩ := leads2 g z r a b [] rfl hn hrl
    obtain ⟨B2, hc2, hi2⟩ := leads2 g z r b c [] rfl hn hrl
    obtain ⟨B3, hc3, hi3⟩ := leads2 g z r a c [] rfl hn hrl
    have htr : B1 = true → B2 = true → B3 = true := fun h1 h2 => hi3.2 ((hi1.1 h1).trans (hi2.1 h2))
    by_cases hf : fr < 0 ∨ (g.length : Int) ≤ fr
    · have key : ∃ q, q = fr := ⟨_, rfl⟩
      rcases hf with hf | hf
      · have f1 : (fr < 0) = True := eq_true hf
        cases B1 <;> cases B2 <;> cases B3 <;> first
          | (exact absurd (htr rfl rfl) Bool.false_ne_true)
          | (simp only [k5, Tryz.f5, regEnd_nrm (lv5 _), pu5, x5_0, a5_0, x5_1, a5_1, sx_guardO g5_1_2, x5_2, a5_2, x5_3, a5_3, sx_guardO g5_3_4, sx_guardO g5_3_10, x5_4, a5_4, x5_5, a5_5, sx_guardO g5_5_2, x5_6, a5_6, x5_7, a5_7, x5_8, a5_8, x5_9, a5_9, x5_11, a5_11, im5_54, im5_60, x5_10, a5_10, x5_12, a5_12, im5_69, x5_13, a5_13, sx_guardO g5_13_5, sxAll, arithA, Nat.reduceEqDiff, Env.keep, qt_eq, isAlloc, resultsA, packA, fieldA, indexA, unA, fieldAddrA, Rv.part, cellsAt, TD.isAgg, convH, convA, buildA, fillA, setCells, copies, optA, boundA, mapO, ↓Option.bind_some, ↓Option.bind_none, Nat.reduceBEq, Nat.reduceAdd, Nat.reduceMul, Nat.reduceLeDiff, Nat.reduceSub, Nat.reduceLT, Nat.reduceGT, Int.reduceBEq, Int.reduceLT, Int.reduceLE, bne, ↓reduceIte, qt_eq2, cfg2_ty, ty45, hln, hwd, haw, pw, pa, pl, hc1, hc2, hc3, f1]
             exact leave_kept rfl rfl)
      · have f1 : (fr < 0) = False := eq_false (by omega)
        have f2 : (fr ≥ (g.length : Int)) = True := eq_true hf
        cases B1 <;> cases B2 <;> cases B3 <;> first
          | (exact absurd (htr rfl rfl) Bool.false_ne_true)
          | (simp only [k5, Tryz.f5, regEnd_nrm (lv5 _), pu5, x5_0, a5_0, x5_1, a5_1, sx_guardO g5_1_2, x5_2, a5_2, x5_3, a5_3, sx_guardO g5_3_4, sx_guardO g5_3_10, x5_4, a5_4, x5_5, a5_5, sx_guardO g5_5_2, x5_6, a5_6, x5_7, a5_7, x5_8, a5_8, x5_9, a5_9, x5_11, a5_11, im5_54, im5_60, x5_10, a5_10, x5_12, a5_12, im5_69, x5_13, a5_13, sx_guardO g5_13_5, sxAll, arithA, Nat.reduceEqDiff, Env.keep, qt_eq, isAlloc, resultsA, packA, fieldA, indexA, unA, fieldAddrA, Rv.part, cellsAt, TD.isAgg, convH, convA, buildA, fillA, setCells, copies, optA, boundA, mapO, ↓Option.bind_some, ↓Option.bind_none, Nat.reduceBEq, Nat.reduceAdd, Nat.reduceMul, Nat.reduceLeDiff, Nat.reduceSub, Nat.reduceLT, Nat.reduceGT, Int.reduceBEq, Int.reduceLT, Int.reduceLE, bne, ↓reduceIte, qt_eq2, cfg2_ty, ty45, hln, hwd, haw, pw, pa, pl, hc1, hc2, hc3, f1, f2]
             exact leave_kept rfl rfl)
    · obtain ⟨k, rfl⟩ : ∃ k : Nat, fr = k := ⟨fr.toNat, by omega⟩
      have hk : k < g.length := by omega
      obtain ⟨row, hrow⟩ : ∃ row, g[k]? = some row := ⟨_, List.getElem?_eq_getElem hk⟩
      have hrl' := hs2 row (List.mem_of_getElem? hrow)
      have hls : (xsOf g)[k]? = some row.xs := by simp [xsOf, hrow]
      have f1 : ((k : Int) < 0) = False := eq_false (by omega)
      have f2 : ((k : Int) ≥ (g.length : Int)) = False := eq_false (by omega)
      obtain ⟨q, hq, mv, cells, H, u14, u50, rfl, M⟩ := on_loop g z r a b c k goal hs1 hs2 g 0 (by simp) (by omega) _ _ _ (by simpa using MB.start) .junk
      obtain ⟨om, gm, v, v', H1, H2, p1, p2, p3, p4, p5, p6, p7, p8, F⟩ := M.put hls goal (by omega)
      obtain ⟨B1', hd1, hj1⟩ := leads2 g z r a b H2 F.nl hn hrl
      obtain ⟨B4, H3, hd4, hj4⟩ := leads_more F a b (by simp [xsOf_len]; omega) (fun l hl => by
        rcases List.mem_or_eq_of_mem_set hl with hl | rfl
        · obtain ⟨w, hw, rfl⟩ := List.mem_map.1 hl
          exact hrl w hw
        · simp; omega)
      have hmono : B1' = true → B4 = true := fun h => hj4.2 (way_more hls goal (hj1.1 h))
      have hel : ∀ H, elems H (.lst (group 1 [.int .i64 goal] 1) 1 (.exact 1)) = some [.int .i64 goal] := fun H => rfl
      simp only [Int.natCast_zero] at hq
      cases B1 <;> cases B2 <;> cases B3 <;> first
        | (exact absurd (htr rfl rfl) Bool.false_ne_true)
        | (cases B1' <;> cases B4 <;> first
            | (exact absurd (hmono rfl) Bool.false_ne_true)
            | (simp only [k5, Tryz.f5, regEnd_nrm (lv5 _), pu5, x5_0, a5_0, x5_1, a5_1, sx_guardO g5_1_2, x5_2, a5_2, x5_3, a5_3, sx_guardO g5_3_4, sx_guardO g5_3_10, x5_4, a5_4, x5_5, a5_5, sx_guardO g5_5_2, x5_6, a5_6, x5_7, a5_7, x5_8, a5_8, x5_9, a5_9, x5_11, a5_11, im5_54, im5_60, x5_10, a5_10, x5_12, a5_12, im5_69, x5_13, a5_13, sx_guardO g5_13_5, sxAll, arithA, Nat.reduceEqDiff, Env.keep, qt_eq, isAlloc, resultsA, packA, fieldA, indexA, unA, fieldAddrA, Rv.part, cellsAt, TD.isAgg, convH, convA, buildA, fillA, setCells, copies, optA, boundA, mapO, ↓Option.bind_some, ↓Option.bind_none, Nat.reduceBEq, Nat.reduceAdd, Nat.reduceMul, Nat.reduceLeDiff, Nat.reduceSub, Nat.reduceLT, Nat.reduceGT, Int.reduceBEq, Int.reduceLT, Int.reduceLE, bne, ↓reduceIte, qt_eq2, cfg2_ty, ix2, ld2, st2, ty45, ty34, ty3, hln, hwd, haw, pw, pa, pl, hc1, hc2, hc3, f1, f2, hq, p1, p2, p3, p4, p5, p6, p7, p8, hel, hd1, hd4]
               exact leave_pure rfl rfl rfl))
end
end Go.Proofs.Sx
