/-
  OrderTurned: what the interpreter is told ahead of it: what it calls as single steps.
-/
import Derived.Test.YtpnafmeehjfnaaaGreatDoorPtM
import Derived.Test.YtpnafmeehjfnaaaGreatDoorPtL
import Derived.Test.YtpnafmeehjfnaaaGreatDoorPtP
import Derived.Test.YtpnafmeehjfnaaaGreatDoorPtQ
import Derived.Test.YtpnafmeehjfnaaaGreatDoorPtR
set_option linter.unusedSectionVars false
set_option linter.unusedSimpArgs false
set_option linter.unusedVariables false
set_option linter.defProp false
set_option maxHeartbeats 8000000
set_option maxRecDepth 100000
namespace Go.Proofs.Sx
open Go.Rv Go.Proofs
attribute [local congr] bind_left got_left
noncomputable section
def pu2 (f : Nat) : Bool := match f with
  | 18 => false
  | 16 => false
  | 19 => false
  | _ => pu f
def prm2 (f : Nat) : Option (List AV → Heap → Option (CRes × Heap)) := match f with
  | 19 => some (constP (.bool true))
  | 18 => some (callIce cfg 18)
  | 16 => some (callIce cfg 16)
  | 17 => some (callP cfg 17)
  | _ => none
def told2 : RvTold := { pure := pu2, imm := im, live := lv, glob := glb, prim := prm2, loose := lo }
def cfg2 : Cfg := told2.cfg Tryz.prog
def cfg02 : Cfg := told2.bare Tryz.prog
instance : NoAlone cfg2 := ⟨fun _ => rfl⟩
instance : NoRounds cfg2 := ⟨fun _ => rfl⟩
theorem qt_eq2 (f t : Nat) : cfg2.quiet f t = false := rfl
theorem cfg2_ty : Cfg.ty cfg2 = Cfg.ty cfg := rfl
theorem st2 : storeA cfg2 = storeA cfg := rfl
theorem fnat2 {f : Nat} {fn : Func} {b : Code} (h1 : Tryz.prog.funcs[f]? = some fn) (h2 : fn.body = some b) (h3 : okB cfg02 f fn b = true) : cfg2.fn f = some ⟨fn.params.size + fn.nfree, fn.results.toList, b⟩ := fn_of (T := told2) h1 h2 h3
theorem zSays : ZSortSays Tryz.prog 37 :=
  ⟨fun blk off cap ss w hH hb hs => AnyM.slices_Sort_int Tryz.sortA blk off cap ss w hH hb hs, fun p cap w => AnyM.slices_Sort_int_none Tryz.sortA p cap w⟩
theorem sx_prim : PrimOk Tryz.prog cfg := fun f p hp => by
  have hp : prm f = some p := hp
  unfold prm at hp
  split at hp
  · injection hp with hp; subst hp
    exact ⟨⟨_, _, Tryz.func37, rfl, by kernel_rfl⟩, fun hpure => absurd hpure (by decide), fun args h res h' hc s w vs R G H => sortZ_ok zSays hc R H⟩
  · cases hp
theorem glb_ok : GlobOk cfg := Go.Proofs.YtpnafmeehjfnaaaGreatDoor.glb_ne
theorem glb_close : ∀ g v, told.glob g = some v → ∀ h, freezeV h 0 40 v = some v := Go.Proofs.YtpnafmeehjfnaaaGreatDoor.glb_close
theorem wake19_runs : ∃ h', Go.Rv.call (Go.Proofs.YtpnafmeehjfnaaaGreatDoor.told0.cfg Tryz.prog) 19 [] [] = some (.ret (.bool true), h') :=
  runs_box Go.Proofs.YtpnafmeehjfnaaaGreatDoor.plainly0 (steps_twin (T := Go.Proofs.YtpnafmeehjfnaaaGreatDoor.told0) (T0 := Go.Proofs.YtpnafmeehjfnaaaGreatDoor.told0) (S := Go.Proofs.YtpnafmeehjfnaaaGreatDoor.steps) Go.Proofs.YtpnafmeehjfnaaaGreatDoor.steps_twins rfl Go.Proofs.YtpnafmeehjfnaaaGreatDoor.oks rfl rfl rfl rfl) Go.Proofs.YtpnafmeehjfnaaaGreatDoor.wake19_run
theorem sx_prim2 : PrimOk Tryz.prog cfg2 := fun f p hp => by
  have hp : prm2 f = some p := hp
  unfold prm2 at hp
  split at hp
  · injection hp with hp; subst hp
    obtain ⟨h0, hrun⟩ := wake19_runs
    exact ⟨⟨_, _, Tryz.func19, rfl, by kernel_rfl⟩, fun hpu => absurd hpu (by decide), fun args h res h' hc s w vs R G H => const_ok (T := Go.Proofs.YtpnafmeehjfnaaaGreatDoor.told0) (C2 := cfg2) Go.Proofs.YtpnafmeehjfnaaaGreatDoor.prims0 Go.Proofs.YtpnafmeehjfnaaaGreatDoor.mixed0 Go.Proofs.YtpnafmeehjfnaaaGreatDoor.glb_close Go.Proofs.YtpnafmeehjfnaaaGreatDoor.glb_ne rfl hrun rfl hc R G H⟩
  · injection hp with hp; subst hp
    exact ⟨⟨_, _, Tryz.func18, rfl, by kernel_rfl⟩, fun hpu => absurd hpu (by decide), fun args h res h' hc s w vs R G H => callIce_ok glb_ok glb_close sx_prim (by kernel_rfl) (fun _ _ h => h) hc R G H⟩
  · injection hp with hp; subst hp
    exact ⟨⟨_, _, Tryz.func16, rfl, by kernel_rfl⟩, fun hpu => absurd hpu (by decide), fun args h res h' hc s w vs R G H => callIce_ok glb_ok glb_close sx_prim (by kernel_rfl) (fun _ _ h => h) hc R G H⟩
  · injection hp with hp; subst hp
    exact ⟨⟨_, _, Tryz.func17, rfl, by kernel_rfl⟩, fun _ args h v h' hc => callP_pure glb_ok glb_close sx_prim (by kernel_rfl) rfl hc, fun args h res h' hc s w vs R G H => callP_ok glb_ok glb_close sx_prim (by kernel_rfl) (fun _ _ h => h) hc R G H⟩
  · cases hp
theorem callP_at {f : Nat} {args : List AV} {h : Heap} {v : AV} (hn : noLoop h = true) (hc : call cfg f args h = some (.ret v, h)) : callP cfg f args h = some (.ret v, h) := by
  unfold callP
  rw [if_pos hn, hc, Option.bind_some, if_pos hn]
theorem awake2 (h : Heap) : call cfg2 19 [] h = some (.ret (.bool true), h) := by
  rw [call_prim _ _ _ (constP (.bool true)) rfl]
  rfl
theorem ints2 (xs : List Int) (z z' : Nat) (r r' : Room) (h : Heap) (hnl : noLoop h = true) (hn : xs.length < 1000000000) : call cfg2 17 [.lst (intL xs) z r, .lst (intL xs) z' r'] h = some (.ret (.bool true), h) := by
  rw [call_prim _ _ _ (callP cfg 17) rfl]
  exact callP_at hnl (ints_same xs z z' r r' h hn)
theorem killO_nil (h : Heap) : killO [] h = h := by
  apply List.ext_getElem?
  intro i
  rw [killO_get]
  cases h[i]? with
  | none => rfl
  | some x => rw [Option.map_some, killX_out (by simp)]
theorem imm_rows (g : List SRow) (z : Nat) (r : Room) : immB 3 (.lst (rowsL g) z r) = true := by
  show (rowsL g).all (immB 2) = true
  rw [List.all_eq_true]
  intro x hx
  obtain ⟨w, _, rfl⟩ := List.mem_map.1 hx
  show (intL w.xs).all (immB 1) = true
  simp [intL, immB]
theorem imm_edges (l : List SEdge) (z : Nat) (r : Room) : immB 3 (.lst (edgesL l) z r) = true := by
  show (edgesL l).all (immB 2) = true
  rw [List.all_eq_true]
  intro x hx
  obtain ⟨e, _, rfl⟩ := List.mem_map.1 hx
  rfl
theorem leads2 (g : List SRow) (z : Nat) (r : Room) (a b : Int) (h : Heap) (hnl : noLoop h = true) (hn : g.length < 1000000000) (hrl : ∀ row ∈ g, row.xs.length < 1000000000) :
    ∃ B, call cfg2 18 [.lst (rowsL g) z r, .int .i64 a, .int .i64 b] h = some (.ret (.bool B), h) ∧ (B = true ↔ Way (xsOf g) a b) := by
  obtain ⟨B, h1, h2⟩ := leads_eq g z r a b h hn hrl
  refine ⟨B, ?_, h2⟩
  rw [call_prim _ _ _ (callIce cfg 18) rfl]
  unfold callIce iceA
  rw [mapO_cons, imm_freeze h 0 3 _ (imm_rows g z r) 40 (by omega)]
  rw [List.flatMap_cons, imm_vis h 3 _ (imm_rows g z r) 40]
  show callP cfg 18 [.lst (rowsL g) z r, .int .i64 a, .int .i64 b] (killO [] h) = _
  rw [killO_nil]
  exact callP_at hnl h1
structure GraphA (l : List SEdge) (N : Int) (v : AV) (e : Int) : Prop where
  no : (N < 0 ∨ N > 256 ∨ (l.any fun x => outB N x.a || outB N x.b) = true) → v = .lst [] 0 .nil ∧ e = 1
  yes : ¬ (N < 0 ∨ N > 256 ∨ (l.any fun x => outB N x.a || outB N x.b) = true) → e = 0 ∧ ∃ gs z r, v = .lst (rowsL gs) z r ∧ xsOf gs = graphOf (pairs l) N.toNat
theorem graph_ans (l : List SEdge) (z : Nat) (r : Room) (N : Int) (h : Heap) (hn : l.length < 1000000) : ∃ v e, call cfg 16 [.lst (edgesL l) z r, .int .i64 N] h = some (.ret (.tup [v, .int .i64 e]), h) ∧ GraphA l N v e := by
  by_cases h1 : N < 0 ∨ N > 256
  · exact ⟨_, _, graph_bad l z r N h h1, fun _ => ⟨rfl, rfl⟩, fun hc => absurd (h1.elim .inl fun h => .inr (.inl h)) hc⟩
  · cases ho : l.any fun x => outB N x.a || outB N x.b with
    | true => exact ⟨_, _, graph_out l z r N h (by omega) (by omega) ho, fun _ => ⟨rfl, rfl⟩, fun hc => absurd (.inr (.inr ho)) hc⟩
    | false =>
      obtain ⟨M, rfl⟩ : ∃ M : Nat, N = M := ⟨N.toNat, by omega⟩
      obtain ⟨gs, z', r', hc, hg⟩ := graph_yes l z r M h (by omega) hn ho
      refine ⟨_, _, hc, fun hb => ?_, fun _ => ⟨rfl, gs, z', r', rfl, by rw [Int.toNat_natCast]; exact hg⟩⟩
      exfalso
      rcases hb with hb | hb | hb
      · omega
      · omega
      · rw [ho] at hb; cases hb
theorem graph2 (l : List SEdge) (z : Nat) (r : Room) (N : Int) (h : Heap) (hnl : noLoop h = true) (hn : l.length < 1000000) : ∃ v e, call cfg2 16 [.lst (edgesL l) z r, .int .i64 N] h = some (.ret (.tup [v, .int .i64 e]), h) ∧ GraphA l N v e := by
  obtain ⟨v, e, h1, h2⟩ := graph_ans l z r N h hn
  refine ⟨v, e, ?_, h2⟩
  rw [call_prim _ _ _ (callIce cfg 16) rfl]
  unfold callIce iceA
  rw [mapO_cons, imm_freeze h 0 3 _ (imm_edges l z r) 40 (by omega)]
  rw [List.flatMap_cons, imm_vis h 3 _ (imm_edges l z r) 40]
  show callP cfg 16 [.lst (edgesL l) z r, .int .i64 N] (killO [] h) = _
  rw [killO_nil]
  exact callP_at hnl h1
theorem edges_cells (xs : List SEdge) : ∀ x ∈ edgesL xs, x.cells.length = 4 ∧ x.cells.all AV.leaf = true := fun x hx => by
  obtain ⟨y, _, rfl⟩ := List.mem_map.1 hx
  exact ⟨rfl, rfl⟩
theorem edges_flat : ∀ xs : List SEdge, flatC (edgesL xs) = (xs.map SEdge.cells).flatten
  | [] => rfl
  | x :: r => by
    have := edges_flat r
    simp only [flatC, edgesL, List.map_cons, List.flatten_cons] at this ⊢
    rw [this]; rfl
theorem edges_group : ∀ xs : List SEdge, group xs.length (flatC (edgesL xs)) 4 = edgesL xs
  | [] => rfl
  | x :: r => by
    have h := edges_group r
    rw [edges_flat] at h ⊢
    simp only [List.map_cons, List.flatten_cons, List.length_cons, group, edgesL]
    refine congr (congrArg List.cons ?_) ?_
    · rfl
    · exact h
theorem edges_dead (xs : List SEdge) : (flatC (edgesL xs)).all AV.dead = true := by
  rw [edges_flat, List.all_eq_true]
  intro x hx
  simp only [List.mem_flatten, List.mem_map] at hx
  obtain ⟨l, ⟨y, _, rfl⟩, hx⟩ := hx
  simp only [SEdge.cells, List.mem_cons, List.not_mem_nil, or_false] at hx
  rcases hx with rfl | rfl | rfl | rfl <;> rfl
structure EB (H : Heap) (v : AV) (xs : List SEdge) : Prop where
  b : Built H v (edgesL xs) 4
  nl : noLoop H = true
theorem EB.app {H : Heap} {v : AV} {xs : List SEdge} (O : EB H v xs) (ys : List SEdge) (hl : xs.length + ys.length < 100000) :
    ∃ v' H', appendA H 4 v (edgesL ys) = some (v', H') ∧ EB H' v' (xs ++ ys) := by
  obtain ⟨v', H', h1, h2, h4, h5, h6⟩ := append_built (ys := edgesL ys) O.b (fun y hy => (edges_cells xs y hy).1) (fun y hm => edges_cells ys y hm) (by omega) (by simp [edgesL, mostLen]; omega)
  exact ⟨v', H', h1, by simpa [edgesL] using h2, nl_append O.nl h1⟩
theorem EB.freeze {H : Heap} {v : AV} {xs : List SEdge} (O : EB H v xs) : ∃ z r, freezeV H 0 40 v = some (.lst (edgesL xs) z r) := by
  rcases O.b with ⟨rfl, hx⟩ | ⟨o, g, cap, rfl, hob, _⟩
  · rw [hx]; exact ⟨0, .nil, rfl⟩
  · refine ⟨4, .open, ?_⟩
    have hl : (flatC (edgesL xs)).length = (edgesL xs).length * 4 := flatC_len fun x hx => (edges_cells xs x hx).1
    have hg := edges_group xs
    have hll : (edgesL xs).length = xs.length := by simp [edgesL]
    rw [freeze_mslG H 0 39, if_neg (Nat.not_lt_zero _), hob, Option.bind_some, Nat.zero_add, if_pos (by omega), List.drop_zero, ← hl, List.take_length, freeze_deads H 0 38 (edges_dead xs), hll, Option.bind_some, hg]
theorem graph3 {H : Heap} {v : AV} {l : List SEdge} (O : EB H v l) (N : Int) (hn : l.length < 1000000) : ∃ v2 e H', call cfg2 16 [v, .int .i64 N] H = some (.ret (.tup [v2, .int .i64 e]), H') ∧ noLoop H' = true ∧ GraphA l N v2 e := by
  obtain ⟨z, r, hf⟩ := O.freeze
  obtain ⟨v2, e, hc, hG⟩ := graph_ans l z r N (killO (visV H 40 v) H) hn
  refine ⟨v2, e, killO (visV H 40 v) H, ?_, nl_kill _ O.nl, hG⟩
  rw [call_prim _ _ _ (callIce cfg 16) rfl]
  unfold callIce iceA
  rw [mapO_cons, hf]
  show callP cfg 16 [.lst (edgesL l) z r, .int .i64 N] (killO (visV H 40 v ++ []) H) = _
  rw [List.append_nil]
  exact callP_at (nl_kill _ O.nl) hc
instance t6 {d : Option Nat} : TightD cfg2 6 d := ⟨fun _ _ => rfl⟩
def B6 (p : List Bool) := cA p Tryz.f6.body
def R6 (p : List Bool) (i : Nat) := Code.region i (cA p Tryz.f6.body) false
def D6 (p : List Bool) (i : Nat) := Code.region i (cA p Tryz.f6.body) true
theorem F6 : (∀ p i, XR cfg2 6 (R6 p i) (B6 p) (cA p Tryz.f6.body).toList i false) ∧ GO cfg2 6 (B6 [tt, ff, ff]) 3 16 ∧ cfg2.imm 6 33 = true ∧ GO cfg2 6 (B6 [tt, tt, tt, tt, tt, tt, ff, ff]) 3 52 ∧ XR cfg2 6 (D6 [tt, tt, tt, tt, tt, tt, tt, tt, ff, tt, ff, ff, tt, ff, ff, ff] 17) (B6 [tt, tt, tt, tt, tt, tt, tt, tt, ff, tt, ff, ff, tt, ff, ff, ff]) ((cA [tt, tt, tt, tt, tt, tt, tt, tt, ff, tt, ff, ff, tt, ff, ff, ff] Tryz.f6.body).toList) 17 true ∧ XR cfg2 6 (D6 [tt, tt, tt, tt, tt, tt, tt, tt, tt, ff, tt, ff, ff, tt, ff, ff, ff] 22) (B6 [tt, tt, tt, tt, tt, tt, tt, tt, tt, ff, tt, ff, ff, tt, ff, ff, ff]) ((cA [tt, tt, tt, tt, tt, tt, tt, tt, tt, ff, tt, ff, ff, tt, ff, ff, ff] Tryz.f6.body).toList) 22 true ∧ RE cfg2 6 [0, 1, 4, 5, 6, 7, 8, 9, 10, 11, 12, 19, 25, 58, 60, 67, 79, 83, 98] ∧ cfg2.pure 6 = true := ⟨fun _ _ => xr rfl rfl, gO (by kernel_rfl), by kernel_rfl, gO (by kernel_rfl), xd (by kernel_rfl) rfl rfl, xd (by kernel_rfl) rfl rfl, rE fun _ => rfl, rfl⟩
def l6_2 : Code := (.seq (.seq (R6 [tt, tt, tt, tt, tt, tt, tt, tt, tt, ff, tt, ff, ff, ff, ff] 20) (.cond (.tmp 83) .skip (.exit 4))) (.seq (.block 5 (.seq (D6 [tt, tt, tt, tt, tt, tt, tt, tt, tt, ff, tt, ff, ff, tt, ff, ff, ff] 22) (.cond (.tmp 98) (.seq (R6 [tt, tt, tt, tt, tt, tt, tt, tt, tt, ff, tt, ff, ff, tt, ff, ff, tt, ff, ff] 23) .ret) .skip))) (R6 [tt, tt, tt, tt, tt, tt, tt, tt, tt, ff, tt, ff, ff, tt, tt] 21)))
def l6_1 : Code := (.seq (.seq (R6 [tt, tt, tt, tt, tt, tt, tt, tt, ff, tt, ff, ff, ff, ff] 15) (.cond (.tmp 67) .skip (.exit 2))) (.seq (.block 3 (.seq (D6 [tt, tt, tt, tt, tt, tt, tt, tt, ff, tt, ff, ff, tt, ff, ff, ff] 17) (.cond (.tmp 79) (.seq (R6 [tt, tt, tt, tt, tt, tt, tt, tt, ff, tt, ff, ff, tt, ff, ff, tt, ff, ff] 18) .ret) .skip))) (R6 [tt, tt, tt, tt, tt, tt, tt, tt, ff, tt, ff, ff, tt, tt] 16)))
def l6_0 : Code := (.seq (.seq (R6 [tt, tt, tt, ff, tt, ff, ff, ff, ff] 5) (.cond (.tmp 25) .skip (.exit 0))) (.seq (.block 1 (R6 [tt, tt, tt, ff, tt, ff, ff, tt, ff, ff] 7)) (R6 [tt, tt, tt, ff, tt, ff, ff, tt, tt] 6)))
def k6 : Code := (.seq (R6 [ff] 0) (.seq (.seq (R6 [tt, ff, ff] 1) (.cond (.tmp 19) (.seq (R6 [tt, ff, tt, ff, ff] 2) .ret) .skip)) (.seq (R6 [tt, tt, ff] 3) (.seq (.seq (R6 [tt, tt, tt, ff, ff] 4) (.block 0 (.loop l6_0))) (.seq (R6 [tt, tt, tt, tt, ff] 8) (.seq (R6 [tt, tt, tt, tt, tt, ff] 9) (.seq (.seq (R6 [tt, tt, tt, tt, tt, tt, ff, ff] 10) (.cond (.tmp 58) (.seq (R6 [tt, tt, tt, tt, tt, tt, ff, tt, ff, ff] 11) .ret) .skip)) (.seq (.seq (R6 [tt, tt, tt, tt, tt, tt, tt, ff, ff] 12) (.cond (.tmp 60) (.seq (R6 [tt, tt, tt, tt, tt, tt, tt, ff, tt, ff, ff] 13) .ret) .skip)) (.seq (.seq (R6 [tt, tt, tt, tt, tt, tt, tt, tt, ff, ff] 14) (.block 2 (.loop l6_1))) (.seq (.seq (R6 [tt, tt, tt, tt, tt, tt, tt, tt, tt, ff, ff] 19) (.block 4 (.loop l6_2))) (.seq (R6 [tt, tt, tt, tt, tt, tt, tt, tt, tt, tt, ff] 24) .ret)))))))))))
theorem call6 (x0 x1 : AV) (h : Heap) : call cfg2 6 [x0, x1] h = (exec cfg2 6 k6 [(0, x0), (1, x1)] h).bind (callEnd cfg2 6 h [.tmp 4]) := call_at2 (fnat2 Tryz.func6 (b := k6) (by kernel_rfl) (by kernel_rfl)) rfl rfl
end
end Go.Proofs.Sx
namespace Go.Proofs.Sx
open Go.Rv Go.Proofs
attribute [local congr] bind_left got_left guardK_left
noncomputable section
theorem edges_len (l : List SEdge) : (edgesL l).length = l.length := by simp [edgesL]
theorem turn_loop (l : List SEdge) (z : Nat) (r : Room) (hn : l.length < 10000) : ∀ (k : Nat), k ≤ l.length → ∀ (H : Heap) (v : AV) (x : Int), x = (k : Int) - 1 → EB H v (l.drop k).reverse → ∀ t1 t4 t7 t8 t9 t10 t11 t12 t19 t25 t58 t60 t67 t79 t83 t98,
    Got (exec cfg2 6 (.loop l6_0) [(0, .lst (edgesL l) z r), (1, t1), (4, t4), (5, v), (6, .int .i64 x), (7, t7), (8, t8), (9, t9), (10, t10), (11, t11), (12, t12), (19, t19), (25, t25), (58, t58), (60, t60), (67, t67), (79, t79), (83, t83), (98, t98)] H) (fun q =>
      ∃ v' H' t6 t25, q = (.exit 0, [(0, .lst (edgesL l) z r), (1, t1), (4, t4), (5, v'), (6, t6), (7, t7), (8, t8), (9, t9), (10, t10), (11, t11), (12, t12), (19, t19), (25, t25), (58, t58), (60, t60), (67, t67), (79, t79), (83, t83), (98, t98)], H') ∧ EB H' v' l.reverse) := by
  intro k
  induction k with
  | zero =>
    intro hk H v x hx O t1 t4 t7 t8 t9 t10 t11 t12 t19 t25 t58 t60 t67 t79 t83 t98
    have c1 : (x ≥ 0) = False := eq_false (by omega)
    rw [got_loop]
    simp only [l6_0, F6, Tryz.f6, sxAll, cA, arithA, Env.keep, ↓Option.bind_some, Nat.reduceBEq, ↓reduceIte, c1]
    exact ⟨_, _, _, _, rfl, by simpa using O⟩
  | succ k ih =>
    intro hk H v x hx O t1 t4 t7 t8 t9 t10 t11 t12 t19 t25 t58 t60 t67 t79 t83 t98
    obtain rfl : x = (k : Int) := by omega
    have hkl : k < l.length := by omega
    have c1 : ((k : Int) ≥ 0) = True := eq_true (by omega)
    have hw : IntKind.i64.wrap ((k : Int) - 1) = (k : Int) - 1 := wrap_id (by omega) (by omega)
    have hxe : (edgesL l)[k]? = some (.agg l[k].cells) := by simp [edgesL, hkl]
    obtain ⟨v', H', ha, O'⟩ := O.app [l[k]] (by simp; omega)
    have hd : (l.drop (k + 1)).reverse ++ [l[k]] = (l.drop k).reverse := by
      rw [List.drop_eq_getElem_cons hkl, List.reverse_cons]
    rw [hd] at O'
    have kv := known_built O.b
    have kv' := known_built O'.b
    have := ih (by omega) H' v' ((k : Int) - 1) rfl O'
    simp only [edgesL, List.map_cons, List.map_nil, SEdge.cells] at ha
    rw [got_loop]
    simp only [l6_0] at this ⊢
    simp only [F6, Tryz.f6, sxAll, cA, arithA, Env.keep, indexAddrA, loadA, Rv.part, cellsAt, TD.isAgg, fillA, setCells, copies, ↓Option.bind_some, Nat.reduceBEq, Nat.reduceAdd, Nat.reduceMul, Nat.reduceLeDiff, Nat.reduceGT, bne, ↓reduceIte, qt_eq2, cfg2_ty, ty49, ty42, SEdge.cells, c1, hw, hxe, kv, kv', ha, elems, group] at this ⊢
    exact this _ _ _ _ _ _ _ _ _ _ _ _ _ _ _ _
section
variable (gs gs' : List SRow) (z z' : Nat) (r r' : Room) (hg : xsOf gs = xsOf gs') (hl : gs.length < 10000) (hrl : ∀ row ∈ gs, row.xs.length < 1000000)
include hg hl hrl
theorem same_loop : ∀ (d i : Nat), i + d = gs.length → ∀ (H : Heap), noLoop H = true → ∀ t0 t1 t4 t5 t6 t8 t10 t12 t19 t25 t58 t60 t67 t79 t83 t98,
    Got (exec cfg2 6 (.loop l6_1) [(0, t0), (1, t1), (4, t4), (5, t5), (6, t6), (7, .lst (rowsL gs) z r), (8, t8), (9, .lst (rowsL gs') z' r'), (10, t10), (11, .int .i64 i), (12, t12), (19, t19), (25, t25), (58, t58), (60, t60), (67, t67), (79, t79), (83, t83), (98, t98)] H) (fun q =>
      ∃ t11 t67 t79, q = (.exit 2, [(0, t0), (1, t1), (4, t4), (5, t5), (6, t6), (7, .lst (rowsL gs) z r), (8, t8), (9, .lst (rowsL gs') z' r'), (10, t10), (11, t11), (12, t12), (19, t19), (25, t25), (58, t58), (60, t60), (67, t67), (79, t79), (83, t83), (98, t98)], H)) := by
  intro d
  induction d with
  | zero =>
    intro i hi H hnl t0 t1 t4 t5 t6 t8 t10 t12 t19 t25 t58 t60 t67 t79 t83 t98
    obtain rfl : i = gs.length := by omega
    rw [got_loop]
    simp only [l6_1, F6, Tryz.f6, sxAll, cA, arithA, Env.keep, lenA, ↓Option.bind_some, Nat.reduceBEq, ↓reduceIte, cfg2_ty, ty45, rowsL_len, Nat.lt_irrefl]
    exact ⟨_, _, _, rfl⟩
  | succ d ih =>
    intro i hi H hnl t0 t1 t4 t5 t6 t8 t10 t12 t19 t25 t58 t60 t67 t79 t83 t98
    have hlt : (i < gs.length) = True := eq_true (by omega)
    have hw := wrap_succ (i := i) (by omega)
    have hlen : gs.length = gs'.length := by have := congrArg List.length hg; simpa [xsOf] using this
    have hi' : i < gs.length := by omega
    have e1 : (rowsL gs)[i]? = some (.lst (intL gs[i].xs) gs[i].z gs[i].r) := by simp [rowsL, hi', SRow.val]
    have hxs : gs'[i].xs = gs[i].xs := by
      have := congrArg (·[i]?) hg
      simp [xsOf, hi', show i < gs'.length by omega] at this
      exact this.symm
    have e2 : (rowsL gs')[i]? = some (.lst (intL gs[i].xs) gs'[i].z gs'[i].r) := by simp [rowsL, show i < gs'.length by omega, SRow.val, hxs]
    have hin := ints2 gs[i].xs gs[i].z gs'[i].z gs[i].r gs'[i].r H hnl (by have := hrl _ (List.getElem_mem hi'); omega)
    have pi : cfg2.pure 17 = true := rfl
    have := ih (i + 1) (by omega) H hnl
    rw [got_loop]
    simp only [l6_1] at this ⊢
    simp only [F6, Tryz.f6, sxAll, cA, arithA, Env.keep, indexAddrA, unA, loadA, Rv.part, cellsAt, TD.isAgg, lenA, mapO, ↓Option.bind_some, Nat.reduceBEq, Nat.reduceAdd, ↓reduceIte, qt_eq2, cfg2_ty, ty34, ty45, rowsL_len, hlt, hw, e1, e2, hin, pi] at this ⊢
    exact this _ _ _ _ _ _ _ _ _ _ _ _ _ _ _ _
end
section
variable (gs : List SRow) (z : Nat) (r : Room) (l : List SEdge) (z0 : Nat) (r0 : Room) (N : Nat) (hg : xsOf gs = graphOf (pairs l) N) (hl : l.length < 10000) (hgl : gs.length < 10000) (hrl : ∀ row ∈ gs, row.xs.length < 1000000) (hin : ∀ e ∈ l, (0 ≤ e.a ∧ e.a < N) ∧ (0 ≤ e.b ∧ e.b < N))
include hg hl hrl hin hgl
theorem leads_loop : ∀ (d i : Nat), i + d = l.length → ∀ (H : Heap), noLoop H = true → ∀ t1 t4 t5 t6 t8 t9 t10 t11 t19 t25 t58 t60 t67 t79 t83 t98,
    Got (exec cfg2 6 (.loop l6_2) [(0, .lst (edgesL l) z0 r0), (1, t1), (4, t4), (5, t5), (6, t6), (7, .lst (rowsL gs) z r), (8, t8), (9, t9), (10, t10), (11, t11), (12, .int .i64 i), (19, t19), (25, t25), (58, t58), (60, t60), (67, t67), (79, t79), (83, t83), (98, t98)] H) (fun q =>
      ∃ t12 t83 t98, q = (.exit 4, [(0, .lst (edgesL l) z0 r0), (1, t1), (4, t4), (5, t5), (6, t6), (7, .lst (rowsL gs) z r), (8, t8), (9, t9), (10, t10), (11, t11), (12, t12), (19, t19), (25, t25), (58, t58), (60, t60), (67, t67), (79, t79), (83, t83), (98, t98)], H)) := by
  intro d
  induction d with
  | zero =>
    intro i hi H hnl t1 t4 t5 t6 t8 t9 t10 t11 t19 t25 t58 t60 t67 t79 t83 t98
    obtain rfl : i = l.length := by omega
    rw [got_loop]
    simp only [l6_2, F6, Tryz.f6, sxAll, cA, arithA, Env.keep, lenA, ↓Option.bind_some, Nat.reduceBEq, ↓reduceIte, cfg2_ty, ty42, edges_len, Nat.lt_irrefl]
    exact ⟨_, _, _, rfl⟩
  | succ d ih =>
    intro i hi H hnl t1 t4 t5 t6 t8 t9 t10 t11 t19 t25 t58 t60 t67 t79 t83 t98
    have hlt : (i < l.length) = True := eq_true (by omega)
    have hi' : i < l.length := by omega
    have hw := wrap_succ (i := i) (by omega)
    have hxe : (edgesL l)[i]? = some (.agg l[i].cells) := by simp [edgesL, hi']
    have hm : l[i] ∈ l := List.getElem_mem hi'
    obtain ⟨q1, q2⟩ := hin _ hm
    obtain ⟨B, hc, hB⟩ := leads2 gs z r l[i].a l[i].b H hnl (by omega) (fun row hr => by have := hrl row hr; omega)
    have hBt : B = true := hB.2 (by
      rw [hg]
      exact edge_leads (List.mem_map.2 ⟨_, hm, rfl⟩) q1 q2)
    subst hBt
    have pl : cfg2.pure 18 = false := rfl
    have := ih (i + 1) (by omega) H hnl
    rw [got_loop]
    simp only [l6_2] at this ⊢
    simp only [F6, Tryz.f6, sxAll, cA, arithA, Env.keep, indexAddrA, unA, fieldAddrA, loadA, Rv.part, cellsAt, TD.isAgg, lenA, mapO, ↓Option.bind_some, Nat.reduceBEq, Nat.reduceAdd, ↓reduceIte, qt_eq2, cfg2_ty, ty3, ty49, ty42, edges_len, SEdge.cells, hlt, hw, hxe, hc, pl] at this ⊢
    exact this _ _ _ _ _ _ _ _ _ _ _ _ _ _ _ _
end
theorem orderTurned_eq (l : List SEdge) (z : Nat) (r : Room) (N : Int) (hn : l.length < 100000000) : call cfg2 6 [.lst (edgesL l) z r, .int .i64 N] [] = some (.ret (.bool true), []) := by
  have haw := awake2
  have pa : cfg2.pure 19 = false := rfl
  have pg : cfg2.pure 16 = false := rfl
  have hp : cfg2.pure 6 = true := rfl
  rw [call6]
  by_cases h1 : (l.length : Int) > 200
  · simp only [F6, k6, Tryz.f6, sxAll, cA, arithA, Env.keep, resultsA, packA, lenA, mapO, ↓Option.bind_some, Nat.reduceBEq, ↓reduceIte, qt_eq2, cfg2_ty, ty42, edges_len, h1, haw, pa]
    exact leave_kept rfl rfl
  have hs : l.length ≤ 200 := by omega
  have hsub : IntKind.i64.wrap ((l.length : Int) - 1) = (l.length : Int) - 1 := wrap_id (by omega) (by omega)
  obtain ⟨⟨o, e', H1⟩, hx, v1, H1', t6, t25, hq, O1⟩ := turn_loop l z r (by omega) l.length (Nat.le_refl _) [] (.lst [] 0 .nil) _ rfl ⟨.inl ⟨rfl, by simp [edgesL]⟩, rfl⟩ (.int .i64 N) (.bool false) .junk .junk .junk .junk .junk .junk (.bool false) .junk .junk .junk .junk .junk .junk .junk
  simp only [Prod.mk.injEq] at hq
  obtain ⟨rfl, rfl, rfl⟩ := hq
  obtain ⟨va, ea, hga, Ga⟩ := graph2 l z r N H1 O1.nl (by omega)
  obtain ⟨v2, H2, hap, O2⟩ := O1.app l (by simp; omega)
  obtain ⟨vb, eb, H3, hgb, nl3, Gb⟩ := graph3 O2 N (by simp; omega)
  have kv1 := known_built O1.b
  have kv2 := known_built O2.b
  have hany : (l.reverse ++ l).any (fun x => outB N x.a || outB N x.b) = l.any fun x => outB N x.a || outB N x.b := by
    rw [List.any_append, List.any_reverse, Bool.or_self]
  have hel : ∀ H, elems H (.lst (edgesL l) z r) = some (edgesL l) := fun H => rfl
  by_cases hb : N < 0 ∨ N > 256 ∨ (l.any fun x => outB N x.a || outB N x.b) = true
  · obtain ⟨rfl, rfl⟩ := Ga.no hb
    obtain ⟨rfl, rfl⟩ := Gb.no (by rw [hany]; exact hb)
    simp only [F6, k6, Tryz.f6, sxAll, cA, arithA, Env.keep, resultsA, packA, unA, lenA, mapO, ↓Option.bind_some, Nat.reduceBEq, Int.reduceBEq, bne, ↓reduceIte, qt_eq2, cfg2_ty, ty42, ty49, ty45, edges_len, h1, haw, pa, pg, hsub, hx, kv1, kv2, hga, hap, hgb, hel]
    exact leave_pure hp rfl rfl
  · obtain ⟨rfl, gs, za, ra, rfl, hga1⟩ := Ga.yes hb
    obtain ⟨rfl, gs', zb, rb, rfl, hgb1⟩ := Gb.yes (by rw [hany]; exact hb)
    have hpr : pairs (l.reverse ++ l) = (pairs l).reverse ++ pairs l := by simp [pairs]
    rw [hpr, graphOf_twice, ← hga1] at hgb1
    obtain ⟨M, rfl⟩ : ∃ M : Nat, N = M := ⟨N.toNat, by omega⟩
    rw [Int.toNat_natCast] at hga1
    have hM : M ≤ 256 := by omega
    have hgl : gs.length = M := by have := congrArg List.length hga1; simpa [xsOf, graphOf_len] using this
    have hgl' : gs'.length = gs.length := by have := congrArg List.length hgb1; simpa [xsOf] using this
    have hrl : ∀ row ∈ gs, row.xs.length < 1000000 := fun row hr => by
      have hm : row.xs ∈ xsOf gs := List.mem_map_of_mem hr
      rw [hga1] at hm
      simp only [graphOf, List.mem_map] at hm
      obtain ⟨n, _, hm⟩ := hm
      rw [← hm]
      have q1 := ded_len_le (sortedZ (outs (pairs l) (n : Int)))
      have q2 := (sortedZ_perm (outs (pairs l) (n : Int))).length_eq
      have q3 : (outs (pairs l) (n : Int)).length ≤ (pairs l).length := by unfold outs; rw [List.length_map]; exact List.length_filter_le _ _
      have q4 : (pairs l).length = l.length := by simp [pairs]
      omega
    have hin : ∀ e ∈ l, (0 ≤ e.a ∧ e.a < M) ∧ (0 ≤ e.b ∧ e.b < M) := fun e he => by
      have h3 : (l.any fun x => outB (M : Int) x.a || outB (M : Int) x.b) = false := by
        cases hq : l.any fun x => outB (M : Int) x.a || outB (M : Int) x.b with
        | false => rfl
        | true => exact absurd (.inr (.inr hq)) hb
      have := List.any_eq_false.1 h3 e he
      simp [outB] at this
      omega
    obtain ⟨⟨o, e', h'⟩, hy, t11, t67, t79, hq⟩ := same_loop gs gs' za zb ra rb hgb1.symm (by omega) hrl gs.length 0 (by omega) H3 nl3 (.lst (edgesL l) z r) (.int .i64 M) (.bool false) v1 t6 (.int .i64 0) (.int .i64 0) .junk (.bool false) t25 (.bool false) (.bool false) .junk .junk .junk .junk
    simp only [Prod.mk.injEq] at hq
    obtain ⟨rfl, rfl, rfl⟩ := hq
    obtain ⟨⟨o, e', h'⟩, hz, t12, t83, t98, hq⟩ := leads_loop gs za ra l z r M hga1 (by omega) (by omega) hrl hin l.length 0 (by omega) h' nl3 (.int .i64 M) (.bool false) v1 t6 (.int .i64 0) (.lst (rowsL gs') zb rb) (.int .i64 0) t11 (.bool false) t25 (.bool false) (.bool false) t67 t79 .junk .junk
    simp only [Prod.mk.injEq] at hq
    obtain ⟨rfl, rfl, rfl⟩ := hq
    simp only [Int.natCast_zero] at hy hz
    have hle : ((gs.length : Int) == (gs'.length : Int)) = true := by simp [hgl']
    simp only [F6, k6, Tryz.f6, sxAll, cA, arithA, Env.keep, resultsA, packA, unA, lenA, mapO, ↓Option.bind_some, Nat.reduceBEq, bne, ↓reduceIte, qt_eq2, cfg2_ty, ty42, ty49, ty45, edges_len, rowsL_len, h1, haw, pa, pg, hsub, hx, kv1, kv2, hga, hap, hgb, hel, hle, hy, hz]
    exact leave_pure hp rfl rfl
end
end Go.Proofs.Sx
