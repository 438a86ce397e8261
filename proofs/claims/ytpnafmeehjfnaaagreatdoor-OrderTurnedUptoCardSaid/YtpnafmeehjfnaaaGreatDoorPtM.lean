/-
  order.Graph, whole.
-/
import Derived.Test.YtpnafmeehjfnaaaGreatDoorPtL
import Derived.Test.YtpnafmeehjfnaaaGreatDoorPtK
import Derived.Test.YtpnafmeehjfnaaaGreatDoorPtG
import Derived.Test.YtpnafmeehjfnaaaGreatDoorPtH
set_option linter.unusedSectionVars false
set_option linter.unusedSimpArgs false
set_option linter.unusedVariables false
set_option linter.defProp false
set_option maxHeartbeats 4000000
set_option maxHeartbeats 8000000
set_option maxRecDepth 100000
namespace Go.Proofs.Sx
open Go.Rv Go.Proofs
attribute [local congr] bind_left got_left guardK_left
noncomputable section
theorem graph_sort (N : Nat) (h : Heap) (hN : N ≤ 256) (ls : List (List Int)) (hls : ls.length = N) (hll : ∀ xs ∈ ls, xs.length < 1000000) : ∀ (d i : Nat), i + d = N → ∀ (H : Heap) (cells : List AV), QL h H cells ls i → ∀ t0 t1 t3 t6 t9 t10 t25 t26 t27 t28 t48,
    Got (exec cfg 16 (.loop l16_1) [(0, t0), (1, t1), (3, t3), (4, .lst [] 0 .nil), (5, .int .i64 0), (6, t6), (7, .msl h.length 0 N 1 0 (some N)), (9, t9), (10, t10), (22, .bool false), (25, t25), (26, t26), (27, t27), (28, t28), (46, .int .i64 N), (47, .int .i64 i), (48, t48)] H) (fun q =>
      ∃ (H' : Heap) (cells : List AV) (u10 u47 u48 : AV), q = (.exit 2, [(0, t0), (1, t1), (3, t3), (4, .lst [] 0 .nil), (5, .int .i64 0), (6, t6), (7, .msl h.length 0 N 1 0 (some N)), (9, t9), (10, u10), (22, .bool false), (25, t25), (26, t26), (27, t27), (28, t28), (46, .int .i64 N), (47, u47), (48, u48)], H') ∧ QL h H' cells ls N) := by
  intro d
  induction d with
  | zero =>
    intro i hi H cells O t0 t1 t3 t6 t9 t10 t25 t26 t27 t28 t48
    obtain rfl : i = N := by omega
    rw [got_loop]
    simp only [l16_1, F16, Tryz.f16, sxAll, cA, arithA, Env.keep, ↓Option.bind_some, Nat.reduceBEq, ↓reduceIte, Nat.lt_irrefl]
    exact ⟨_, _, _, _, _, rfl, O⟩
  | succ d ih =>
    intro i hi H cells O t0 t1 t3 t6 t9 t10 t25 t26 t27 t28 t48
    have hlt' : i < N := by omega
    have hlt : (i < N) = True := eq_true hlt'
    have hw := wrap_succ (i := i) (by omega)
    have hx : ls[i]? = some ls[i] := List.getElem?_eq_getElem (by omega)
    obtain ⟨v, hv⟩ : ∃ v, cells[i]? = some v := ⟨_, List.getElem?_eq_getElem (by rw [O.len, hls]; exact hlt')⟩
    obtain ⟨H1, v2, H2, hs, hc, c1, c2, kv2, vc2, vl2, hold, O2⟩ := O.step hv hx (hll _ (List.getElem_mem _))
    have kv := known_built (O.rest i v _ (Nat.le_refl _) hv hx)
    have hcell := O.cell
    have hlive := live_of hcell
    have hlive1 := live_of c1
    have hlive2 := live_of c2
    have hdv := head_drop hv
    have hkc : (i + 1 ≤ cells.length) = True := eq_true (by rw [O.len, hls]; omega)
    have := ih (i + 1) (by omega) _ _ O2
    rw [got_loop]
    simp only [l16_1] at this ⊢
    simp only [F16, Tryz.f16, sxAll, cA, arithA, Env.keep, qt_eq, storeA, indexAddrA, loadA, Rv.part, cellsAt, TD.isAgg, setCells, mapO, ↓Option.bind_some, Nat.reduceBEq, ↓reduceIte, ty45, ty34, hlt, hw, hcell, hlive, hlive1, hlive2, c1, c2, hdv, kv, kv2, vc2, vl2, hs, hc, hkc, pu38, Nat.mul_one, Nat.zero_add] at this ⊢
    exact this _ _ _ _ _ _ _ _ _ _ _
theorem copies_repG (z : AV) : ∀ n, copies n [z] = List.replicate n z
  | 0 => rfl
  | n + 1 => by rw [copies, copies_repG z n, List.replicate_succ]; rfl
theorem LL.zero (h : Heap) (N : Nat) : LL h (h ++ [.cells (copies N [.lst [] 0 .nil]) 0]) (copies N [.lst [] 0 .nil]) (outRows [] N) := by
  have hv : ∀ (k : Nat) w, (List.replicate N (AV.lst [] 0 .nil))[k]? = some w → w = .lst [] 0 .nil := fun k w hw => by
    have := List.mem_of_getElem? hw
    exact (List.mem_replicate.1 this).2
  rw [copies_repG]
  refine ⟨by simp [Heap.obj], by simp [outRows], ?_, ?_, ?_, by simp⟩
  · intro k w xs hw hxs
    have hm := List.mem_of_getElem? hxs
    simp only [outRows, List.mem_map, outs, List.filter_nil, List.map_nil] at hm
    obtain ⟨_, _, rfl⟩ := hm
    rw [hv k w hw]
    exact .inl ⟨rfl, rfl⟩
  · intro k w o hw ho; rw [hv k w hw] at ho; cases ho
  · intro k k' w w' o hw _ ho _; rw [hv k w hw] at ho; cases ho
theorem graph_yes (l : List SEdge) (z : Nat) (r : Room) (N : Nat) (h : Heap) (hN : N ≤ 256) (hn : l.length < 1000000) (ho : (l.any fun e => outB N e.a || outB N e.b) = false) :
    ∃ gs z' r', call cfg 16 [.lst (edgesL l) z r, .int .i64 N] h = some (.ret (.tup [.lst (rowsL gs) z' r', .int .i64 0]), h) ∧ xsOf gs = graphOf (pairs l) N := by
  have ha := graph_any l z r N h (by omega)
  rw [ho] at ha
  have hin : ∀ e ∈ l, 0 ≤ e.a ∧ e.a < N := fun e he => by
    have := List.any_eq_false.1 ho e he
    simp [outB] at this
    omega
  have O0 := LL.zero (h ++ [.cells [.clo 34 [.ref [.int .i64 N]]] 0]) N
  have hl1 : (h ++ [AObj.cells [.clo 34 [.ref [.int .i64 N]]] 0]).length = h.length + 1 := by simp
  obtain ⟨⟨o, e', H1⟩, hx, H1', cells1, u9, u27, u28, hq, O1⟩ := graph_fill l z r N (h ++ [.cells [.clo 34 [.ref [.int .i64 N]]] 0]) hN hn hin h.length l 0 (by simp) (by omega) _ _ (by simpa [pairs] using O0) .junk .junk
  simp only [Prod.mk.injEq] at hq
  obtain ⟨rfl, rfl, rfl⟩ := hq
  have hrl : (outRows (pairs l) N).length = N := by simp [outRows]
  obtain ⟨⟨o, e', H2⟩, hy, H2', cells2, u10, u47, u48, hq, O2⟩ := graph_sort N (h ++ [.cells [.clo 34 [.ref [.int .i64 N]]] 0]) hN (outRows (pairs l) N) hrl (fun xs hxs => by
    simp only [outRows, List.mem_map] at hxs
    obtain ⟨n, _, rfl⟩ := hxs
    have h1 : (outs (pairs l) (n : Int)).length ≤ (pairs l).length := by unfold outs; rw [List.length_map]; exact List.length_filter_le _ _
    have h2 : (pairs l).length = l.length := by simp [pairs]
    omega) N 0 (by omega) H1 cells1 O1.start (.lst (edgesL l) z r) (.int .i64 N) (.ref [.int .i64 N]) (.ptr h.length 0 0) u9 .junk (.lst (edgesL l) z r) (.int .i64 l.length) u27 u28 .junk
  simp only [Prod.mk.injEq] at hq
  obtain ⟨rfl, rfl, rfl⟩ := hq
  have O2' : QL (h ++ [.cells [.clo 34 [.ref [.int .i64 N]]] 0]) H2 cells2 (outRows (pairs l) N) (outRows (pairs l) N).length := by rw [hrl]; exact O2
  obtain ⟨gs, hf, hgs⟩ := O2'.freeze (n := h.length) (by simp) 36 (some N)
  rw [hrl] at hf
  refine ⟨gs, 1, .open, ?_, ?_⟩
  · have c1 : ((N : Int) < 0) = False := eq_false (by omega)
    have c2 : ((N : Int) > 256) = False := eq_false (by omega)
    have c2' : (256 < N) = False := eq_false (by omega)
    have hms : makeSliceA cfg (h ++ [.cells [.clo 34 [.ref [.int .i64 N]]] 0]) 45 (.int .i64 N) (.int .i64 N) = some (.msl (h ++ [AObj.cells [.clo 34 [.ref [.int .i64 N]]] 0]).length 0 N 1 0 (some N), h ++ [.cells [.clo 34 [.ref [.int .i64 N]]] 0] ++ [.cells (copies N [.lst [] 0 .nil]) 0]) := by
      have h1 : (N : Int) ≤ mostLen := by simp [mostLen]; omega
      simp [makeSliceA, ty45, ty34, h1]
    have hel : (edgesL l).length = l.length := by simp [edgesL]
    have hold : H2.take h.length = h := by
      have := congrArg (List.take h.length) O2.old
      rw [List.take_take, Nat.min_eq_left (by simp)] at this
      rw [this]; simp
    have hlv := live_of O1.cell
    have hlv2 := live_of O2.cell
    rw [hl1] at hf hx hy hms hlv hlv2
    simp only [List.append_assoc, List.cons_append, List.nil_append, Int.natCast_zero] at hx hy hms ha
    rw [call16]
    simp only [F16, k16, Tryz.f16, sxAll, cA, arithA, Env.keep, qt_eq, resultsA, packA, storeA, loadA, Rv.part, cellsAt, TD.isAgg, setCells, lenA, mapO, ↓Option.bind_some, Nat.reduceBEq, Nat.reduceAdd, Nat.reduceLeDiff, ↓reduceIte, ty3, ty72, ty42, ty45, cells_clo, leaf_clo, c1, c2, ha, hms, hel, hx, hy, hlv, pu35]
    refine leave_pure pu16 hold ?_
    show (mapO (freezeV H2 h.length 39) [.msl (h.length + 1) 0 N 1 0 (some N), .int .i64 0]).map AV.tup = _
    rw [mapO_cons, hf, Option.bind_some]
    rfl
  · rw [hgs]
    simp only [outRows, graphOf, List.map_map]
    rfl
end
end Go.Proofs.Sx
namespace Go.Proofs.Sx
open Go.Rv Go.Proofs
attribute [local congr] bind_left got_left
noncomputable section
instance t17 {d : Option Nat} : TightD cfg 17 d := ⟨fun _ _ => rfl⟩
def B17 (p : List Bool) := cA p Tryz.f17.body
def R17 (p : List Bool) (i : Nat) := Code.region i (cA p Tryz.f17.body) false
def D17 (p : List Bool) (i : Nat) := Code.region i (cA p Tryz.f17.body) true
theorem F17 : (∀ p i, XR cfg 17 (R17 p i) (B17 p) (cA p Tryz.f17.body).toList i false) ∧ XR cfg 17 (D17 [tt, tt, ff, tt, ff, ff, tt, ff, ff, ff] 6) (B17 [tt, tt, ff, tt, ff, ff, tt, ff, ff, ff]) ((cA [tt, tt, ff, tt, ff, ff, tt, ff, ff, ff] Tryz.f17.body).toList) 6 true ∧ RE cfg 17 [0, 1, 4, 5, 10, 14, 25] ∧ cfg.pure 17 = true := ⟨fun _ _ => xr rfl rfl, xd (by kernel_rfl) rfl rfl, rE fun _ => rfl, rfl⟩
def l17_0 : Code := (.seq (.seq (R17 [tt, tt, ff, tt, ff, ff, ff, ff] 4) (.cond (.tmp 14) .skip (.exit 0))) (.seq (.block 1 (.seq (D17 [tt, tt, ff, tt, ff, ff, tt, ff, ff, ff] 6) (.cond (.tmp 25) (.seq (R17 [tt, tt, ff, tt, ff, ff, tt, ff, ff, tt, ff, ff] 7) .ret) .skip))) (R17 [tt, tt, ff, tt, ff, ff, tt, tt] 5)))
def k17 : Code := (.seq (R17 [ff] 0) (.seq (.seq (R17 [tt, ff, ff] 1) (.cond (.tmp 10) (.seq (R17 [tt, ff, tt, ff, ff] 2) .ret) .skip)) (.seq (.seq (R17 [tt, tt, ff, ff] 3) (.block 0 (.loop l17_0))) (.seq (R17 [tt, tt, tt, ff] 8) .ret))))
theorem call17 (x0 x1 : AV) (h : Heap) : call cfg 17 [x0, x1] h = (exec cfg 17 k17 [(0, x0), (1, x1)] h).bind (callEnd cfg 17 h [.tmp 4]) := call_at2 (fnat Tryz.func17 (b := k17) (by kernel_rfl) (by kernel_rfl)) rfl rfl
theorem ints_loop (xs : List Int) (z z' : Nat) (r r' : Room) (h : Heap) (hn : xs.length < 1000000000) : ∀ (s : List Int) (i : Nat), xs.drop i = s → i ≤ xs.length → ∀ t4 t10 t14 t25,
    Got (exec cfg 17 (.loop l17_0) [(0, .lst (intL xs) z r), (1, .lst (intL xs) z' r'), (4, t4), (5, .int .i64 i), (10, t10), (14, t14), (25, t25)] h) (fun q => ∃ t5 t14 t25, q = (.exit 0, [(0, .lst (intL xs) z r), (1, .lst (intL xs) z' r'), (4, t4), (5, t5), (10, t10), (14, t14), (25, t25)], h)) := by
  intro s
  induction s with
  | nil =>
    intro i hd hi t4 t10 t14 t25
    rw [got_loop]
    simp only [l17_0, F17, Tryz.f17, sxAll, cA, arithA, Env.keep, lenA, ↓Option.bind_some, Nat.reduceBEq, ↓reduceIte, ty34, intL_len, at_end hd]
    exact ⟨_, _, _, rfl⟩
  | cons y s ih =>
    intro i hd hi t4 t10 t14 t25
    obtain ⟨hlt, hget, hd'⟩ := at_drop hd
    have hlt' : i < xs.length := by simpa using hlt
    have hw := wrap_succ (i := i) (by omega)
    have hx : (intL xs)[i]? = some (.int .i64 y) := by simp [intL, hget]
    have := ih (i + 1) hd' (by omega)
    rw [got_loop]
    simp only [l17_0] at this ⊢
    simp only [F17, Tryz.f17, sxAll, cA, arithA, Env.keep, qt_eq, indexAddrA, loadA, Rv.part, cellsAt, TD.isAgg, lenA, ↓Option.bind_some, Nat.reduceBEq, Nat.reduceAdd, bne, ↓reduceIte, ty34, ty3, intL_len, hlt, hx, hw] at this ⊢
    exact this _ _ _ _
theorem ints_same (xs : List Int) (z z' : Nat) (r r' : Room) (h : Heap) (hn : xs.length < 1000000000) : call cfg 17 [.lst (intL xs) z r, .lst (intL xs) z' r'] h = some (.ret (.bool true), h) := by
  obtain ⟨⟨o, e', h'⟩, hx, t5, t14, t25, hq⟩ := ints_loop xs z z' r r' h hn xs 0 (by simp) (by omega) (.bool false) (.bool false) .junk .junk
  simp only [Prod.mk.injEq] at hq
  obtain ⟨rfl, rfl, rfl⟩ := hq
  simp only [Int.natCast_zero] at hx
  have e1 : ((xs.length : Int) == xs.length) = true := by simp
  rw [call17]
  simp only [F17, k17, Tryz.f17, sxAll, cA, arithA, Env.keep, resultsA, packA, lenA, ↓Option.bind_some, Nat.reduceBEq, bne, ↓reduceIte, ty34, intL_len, hx]
  exact leave_kept rfl rfl
end
end Go.Proofs.Sx
namespace Go.Rv
noncomputable section
def noLoop (h : Heap) : Bool := h.all fun x => match x with | .loop _ => false | _ => true
def Sim.re (s : Sim) (g : Nat → Nat → List Nat → Code → Code → Prop) : Sim := { s with good := ⟨g, s.good.pin, s.good.tail⟩ }
section
variable {s : Sim} {h : Heap} {w : World}
theorem noLoop_at (hn : noLoop h = true) {o : Nat} {r : ALoop} (hx : h[o]? = some (.loop r)) : False := by
  have := List.all_eq_true.1 hn _ (List.mem_of_getElem? hx)
  cases this
theorem Rel.re (g : Nat → Nat → List Nat → Code → Code → Prop) (hn : noLoop h = true) (R : Rel s h w) : Rel (s.re g) h w where
  inj := R.inj
  obj o b hb := by
    obtain ⟨x, hx, hr⟩ := R.obj o b hb
    refine ⟨x, hx, ?_⟩
    cases x with
    | cells cs gn =>
      obtain ⟨bc, el, k1, k2, k3⟩ := hr
      exact ⟨bc, el, k1, k2, fun i c hi => let ⟨v, h1, h2⟩ := k3 i c hi; ⟨v, h1, h2.regood _⟩⟩
    | map es =>
      obtain ⟨es0, hp0, en, cl, k1, k2, k3, k4⟩ := hr
      exact ⟨es0, hp0, en, cl, k1, k2, k3, fun i e hi => let ⟨m, h1, h2, h3⟩ := k4 i e hi; ⟨m, h1, h2.regood _, h3.regood _⟩⟩
    | loop r => exact (noLoop_at hn hx).elim
    | iter k es =>
      obtain ⟨bm, since, seen, last, en, cl, k1, k2, k3, k4, k5⟩ := hr
      refine ⟨bm, since, seen, last, en, cl, k1, k2, k3, fun hk => ?_, fun hk => ?_⟩
      · obtain ⟨q1, q2, q3, q4, q5, es0, hp0, q6⟩ := k4 hk
        exact ⟨q1, q2, q3, q4, q5, es0, hp0, fun i e hi => let ⟨m, hm, h6, h7⟩ := q6 i e hi; ⟨m, hm, h6.regood _, h7.regood _⟩⟩
      · obtain ⟨q1, q2, q3, q4⟩ := k5 hk
        exact ⟨q1, q2, q3, fun e he => let ⟨m, hm, h6, h7, h8⟩ := q4 e he; ⟨m, hm, h6, h7.regood _, h8.regood _⟩⟩
  apart := R.apart
  imm := R.imm
theorem Ext.re {s' : Sim} {h' : Heap} {w' : World} (g : Nat → Nat → List Nat → Code → Code → Prop) (E : Ext (s.re g) h w s' h' w') : Ext s h w (s'.re s.good.good) h' w' where
  size := E.size
  far := E.far
  shape := E.shape
  imm := E.imm
  gen := E.gen
  same := E.same
  kind := E.kind
  own := E.own
  os := E.os
  tape := E.tape
  output := E.output
  kindL := E.kindL
  good := by show (⟨s.good.good, s'.good.pin, s'.good.tail⟩ : Fixed) = s.good; rw [E.good]; rfl
  old := E.old
  kept := E.kept
  immOld := E.immOld
end
def callP (C : Cfg) (f : Nat) (args : List AV) (h : Heap) : Option (CRes × Heap) :=
  if noLoop h then (call C f args h).bind fun x => if noLoop x.2 then some x else none else none
theorem callP_ok {T : RvTold} {P : Program} (hg : GlobOk (T.cfg P)) (hcl : ∀ g v, T.glob g = some v → ∀ h, freezeV h 0 40 v = some v) (hp : PrimOk P (T.cfg P)) (hm : P.follows .mixedOrders = true) {C : Cfg} (hC : ∀ g v, T.glob g = some v → C.glob g = some v)
    {f : Nat} {args : List AV} {h : Heap} {res : CRes} {h' : Heap} (hc : callP (T.cfg P) f args h = some (res, h')) {s : Sim} {w : World} {vs : List Value} (R : Rel s h w) (G : Glob C s h w) (H : VRs s h w args vs) : CallOk P f vs s h w res h' := by
  unfold callP at hc
  split at hc <;> first | cases hc | skip
  rename_i hn
  obtain ⟨x, hx, hc⟩ := Option.bind_eq_some_iff.1 hc
  split at hc <;> first | cases hc | skip
  rename_i hn'
  have G1 : GG (T.cfg P) (ordOk (T.cfg P)) (s.re (goodOf (ordOk (T.cfg P)))) h w := ⟨fun g v hv => (G g v (hC g v hv)).regood _, rfl⟩
  have := RvTold.sound hg hcl hp hm hx (R.re _ hn) G1 (H.regood _)
  refine Calls.mono this fun e w' he => ?_
  obtain ⟨s', E, R', hv⟩ := he
  refine ⟨s'.re s.good.good, E.re _, R'.re _ hn', ?_⟩
  cases res with
  | ret v =>
    cases e with
    | returned u => exact hv.regood _
    | panicked _ => exact hv.elim
    | outgrown => exact hv.elim
  | pan v =>
    cases e with
    | returned u => exact hv.elim
    | panicked c =>
      obtain ⟨u, h1, h2⟩ := hv
      exact ⟨u, h1, h2.regood _⟩
    | outgrown => exact hv.elim
theorem callP_pure {T : RvTold} {P : Program} (hg : GlobOk (T.cfg P)) (hcl : ∀ g v, T.glob g = some v → ∀ h, freezeV h 0 40 v = some v) (hp : PrimOk P (T.cfg P)) (hm : P.follows .mixedOrders = true)
    {f : Nat} (hpu : T.pure f = true) {args : List AV} {h : Heap} {v : AV} {h' : Heap} (hc : callP (T.cfg P) f args h = some (.ret v, h')) : h' = h := by
  unfold callP at hc
  split at hc <;> first | cases hc | skip
  obtain ⟨x, hx, hc⟩ := Option.bind_eq_some_iff.1 hc
  split at hc <;> first | cases hc | skip
  obtain ⟨k, hk⟩ := (call_iff (T.cfg P)).1 hx
  exact callF_pure (RvTold.ok hg hcl hp hm) hpu hk
def visV (h : Heap) : Nat → AV → List Nat
  | 0, _ => []
  | d + 1, v =>
    match v with
    | .ptr o off g => o :: (((h.obj o g).getD []).drop off).flatMap (visV h d)
    | .msl o off len sz g _ => o :: ((((h.obj o g).getD []).drop off).take (len * sz)).flatMap (visV h d)
    | .ref cs => cs.flatMap (visV h d)
    | .agg cs => cs.flatMap (visV h d)
    | .tup cs => cs.flatMap (visV h d)
    | .clo _ cs => cs.flatMap (visV h d)
    | .bnd _ cs => cs.flatMap (visV h d)
    | .lst xs _ _ => xs.flatMap (visV h d)
    | .iface _ v => visV h d v
    | _ => []
def killX (S : List Nat) (o : Nat) (x : AObj) : AObj :=
  match x with
  | .cells cs g => if S.contains o then .cells cs (g + 1) else .cells cs g
  | .iter k es => if S.contains o then .cells [] 1 else .iter k es
  | x => x
def killO (S : List Nat) (h : Heap) : Heap := h.mapIdx (killX S)
def iceA (h : Heap) (vs : List AV) : Option (List AV × Heap) := (mapO (freezeV h 0 40) vs).map fun avs => (avs, killO (vs.flatMap (visV h 40)) h)
def Sim.ice (s : Sim) (S : List Nat) : Sim := { μ := fun o => if o ∈ S then none else s.μ o, I := fun b => s.I b ∨ ∃ o ∈ S, s.μ o = some b, good := s.good }
section
variable {s : Sim} {h : Heap} {w : World} {S : List Nat}
theorem killO_get (o : Nat) : (killO S h)[o]? = (h[o]?).map (killX S o) := by
  unfold killO
  rw [List.getElem?_mapIdx]
theorem killX_out {o : Nat} (ho : o ∉ S) (x : AObj) : killX S o x = x := by
  cases x <;> simp [killX, ho]
theorem killO_out {o : Nat} (ho : o ∉ S) : (killO S h)[o]? = h[o]? := by
  rw [killO_get]
  cases h[o]? with
  | none => rfl
  | some x => simp [killX_out ho]
theorem genOf_kill (o g : Nat) (hg : genOf h o = some g) : ∃ g', genOf (killO S h) o = some g' ∧ g ≤ g' ∧ (o ∈ S → isMap h o = false → isLoop h o = false → g < g') := by
  unfold genOf isMap isLoop at *
  rw [killO_get]
  cases hx : h[o]? with
  | none => rw [hx] at hg; cases hg
  | some x =>
    rw [hx] at hg
    cases x with
    | cells cs gn =>
      simp only [Option.some.injEq] at hg
      subst hg
      by_cases ho : o ∈ S
      · exact ⟨gn + 1, by simp [killX, ho], by omega, fun _ _ _ => by omega⟩
      · exact ⟨gn, by simp [killX, ho], by omega, fun h => absurd h ho⟩
    | map es =>
      simp only [Option.some.injEq] at hg
      subst hg
      exact ⟨0, by simp [killX], by omega, fun _ h => by simp at h⟩
    | loop r =>
      simp only [Option.some.injEq] at hg
      subst hg
      exact ⟨0, by simp [killX], by omega, fun _ _ h => by simp at h⟩
    | iter k es =>
      simp only [Option.some.injEq] at hg
      subst hg
      by_cases ho : o ∈ S
      · exact ⟨1, by simp [killX, ho], by omega, fun _ _ _ => by omega⟩
      · exact ⟨0, by simp [killX, ho], by omega, fun h => absurd h ho⟩
def Has (s : Sim) (h : Heap) (S : List Nat) : Prop := ∀ o ∈ S, (∃ b, s.μ o = some b) ∧ isMap h o = false ∧ isLoop h o = false
theorem ext_ice (hS : Has s h S) : Ext s h w (s.ice S) (killO S h) w where
  size := Nat.le_refl _
  far := fun _ _ _ => rfl
  shape := fun _ _ h => h
  imm := fun b hb => .inl hb
  gen := fun o g hg => let ⟨g', h1, h2, _⟩ := genOf_kill (S := S) o g hg; ⟨g', h1, h2⟩
  same := fun o g hg hg' => by
    obtain ⟨g', h1, h2, h3⟩ := genOf_kill (S := S) o g hg
    rw [hg'] at h1
    injection h1 with h1
    by_cases ho : o ∈ S
    · obtain ⟨_, m1, m2⟩ := hS o ho
      have := h3 ho m1 m2
      omega
    · refine ⟨fun b hb => by simp [Sim.ice, ho, hb], ?_⟩
      unfold lenOf; rw [killO_out ho]
  kind := fun o hm _ => by
    have ho : o ∉ S := fun ho => by rw [(hS o ho).2.1] at hm; cases hm
    unfold isMap at *; rw [killO_out ho]; exact hm
  own := fun o b hb => by
    simp only [Sim.ice] at hb
    split at hb
    · cases hb
    · exact .inl ⟨o, hb⟩
  os := rfl
  tape := rfl
  output := rfl
  kindL := fun o hm => by
    have ho : o ∉ S := fun ho => by rw [(hS o ho).2.2] at hm; cases hm
    unfold isLoop at *; rw [killO_out ho]; exact hm
  good := rfl
  old := fun o b _ hb => by
    simp only [Sim.ice] at hb
    split at hb
    · cases hb
    · exact ⟨b, hb⟩
  kept := fun o _ hn => by
    have ho : o ∉ S := fun ho => by
      obtain ⟨⟨b, hb⟩, _⟩ := hS o ho
      rw [hn] at hb; cases hb
    exact killO_out ho
  immOld := fun b _ h => by
    rcases h with h | ⟨o, _, ho⟩
    · exact .inl h
    · exact .inr ⟨o, ho⟩
theorem rel_ice (R : Rel s h w) (hS : Has s h S) : Rel (s.ice S) (killO S h) w where
  inj := fun o o' b h1 h2 => by
    simp only [Sim.ice] at h1 h2
    split at h1 <;> split at h2 <;> first | cases h1 | cases h2 | exact R.inj _ _ _ h1 h2
  obj := fun o b hb => by
    simp only [Sim.ice] at hb
    split at hb
    · cases hb
    · rename_i ho
      obtain ⟨x, hx, hr⟩ := R.obj o b hb
      exact ⟨x, by rw [killO_out ho]; exact hx, hr.ext R.apart (ext_ice hS) rfl⟩
  apart := fun o b hb hI => by
    simp only [Sim.ice] at hb hI
    split at hb
    · cases hb
    · rename_i ho
      rcases hI with hI | ⟨o', ho', hb'⟩
      · exact R.apart o b hb hI
      · have := R.inj o o' b hb hb'
        subst this
        exact ho ho'
  imm := fun b hI => by
    rcases hI with hI | ⟨o', _, hb'⟩
    · exact R.imm b hI
    · exact R.lt hb'
theorem obj_kind {o g : Nat} {cs : List AV} (ho : h.obj o g = some cs) : isMap h o = false ∧ isLoop h o = false := by
  have := (genOf_obj ho).2.1
  unfold isMap isLoop
  rw [this]
  exact ⟨rfl, rfl⟩
theorem vis_has (R : Rel s h w) : ∀ (D : Nat) {d : Nat}, d ≤ D → ∀ {v v' : AV} {u : Value}, freezeV h 0 d v = some v' → VR s h w v u → Has s h (visV h d v) := by
  intro D
  induction D with
  | zero =>
    intro d hd v v' u hf _
    obtain rfl : d = 0 := by omega
    simp [freezeV] at hf
  | succ D ih =>
    intro d hd v v' u hf hv
    cases d with
    | zero => simp [freezeV] at hf
    | succ d =>
      have ih' : ∀ {v v' : AV} {u : Value}, freezeV h 0 d v = some v' → VR s h w v u → Has s h (visV h d v) := fun hf hv => ih (d := d) (by omega) hf hv
      have many : ∀ {cs cs' : List AV}, mapO (freezeV h 0 d) cs = some cs' → (∀ (i : Nat) c, cs[i]? = some c → ∃ u, VR s h w c u) → Has s h (cs.flatMap (visV h d)) := by
        intro cs cs' hm hr o ho
        obtain ⟨c, hc, ho⟩ := List.mem_flatMap.1 ho
        obtain ⟨i, hi⟩ := List.mem_iff_getElem?.1 hc
        obtain ⟨b, _, hb⟩ := (mapO_get hm).2 i c hi
        obtain ⟨u, hu⟩ := hr i c hi
        exact ih' hb hu o ho
      have nope : Has s h [] := fun o ho => by simp at ho
      cases v <;> simp only [freezeV, Nat.not_lt_zero, if_false] at hf <;> simp only [visV] <;> try exact nope
      case ptr o off g =>
        simp only [Option.bind_eq_bind] at hf
        obtain ⟨cs, hcs, hf⟩ := Option.bind_eq_some_iff.1 hf
        obtain ⟨cs', hcs', hf⟩ := Option.bind_eq_some_iff.1 hf
        rw [hcs]
        cases hv with
        | ptrOld _ _ _ g' a e1 e2 => have := (genOf_obj hcs).1; rw [this] at e1; injection e1; omega
        | ptr _ _ _ b e1 e2 =>
          have hread := (obj_reads R hcs e2).drop off
          intro o' ho'
          rcases List.mem_cons.1 ho' with ho' | ho'
          · subst ho'; exact ⟨⟨b, e2⟩, obj_kind hcs⟩
          · exact many hcs' (fun i c hi => let ⟨v, _, hvr⟩ := hread i c hi; ⟨v, hvr⟩) o' ho'
      case msl o off len sz g cap =>
        simp only [Option.bind_eq_bind] at hf
        obtain ⟨cs, hcs, hf⟩ := Option.bind_eq_some_iff.1 hf
        split at hf <;> first | cases hf | skip
        obtain ⟨cs', hcs', hf⟩ := Option.bind_eq_some_iff.1 hf
        rw [hcs]
        cases hv with
        | mslOld _ _ _ _ _ _ g' a m c e1 e2 => have := (genOf_obj hcs).1; rw [this] at e1; injection e1; omega
        | msl _ _ _ _ _ _ b c el m off' e0 e1 e2 e3 e4 e5 e6 e7 =>
          have hread := ((obj_reads R hcs e2).drop off).take (len * sz)
          intro o' ho'
          rcases List.mem_cons.1 ho' with ho' | ho'
          · subst ho'; exact ⟨⟨b, e2⟩, obj_kind hcs⟩
          · exact many hcs' (fun i c hi => let ⟨v, _, hvr⟩ := hread i c hi; ⟨v, hvr⟩) o' ho'
      case ref cs =>
        obtain ⟨cs', hcs, rfl⟩ := Option.map_eq_some_iff.1 hf
        cases hv with
        | ref _ b off f e1 e2 e3 => exact many hcs fun i c hi => ⟨_, e3 i c hi⟩
      case lst xs z r =>
        obtain ⟨xs', hxs, rfl⟩ := Option.map_eq_some_iff.1 hf
        cases hv with
        | lstNil => exact nope
        | lstEmpty _ A => exact nope
        | lst _ _ _ b off c f e1 e2 e3 e4 e5 e6 =>
          intro o ho
          obtain ⟨x, hx, ho⟩ := List.mem_flatMap.1 ho
          obtain ⟨i, hi⟩ := List.mem_iff_getElem?.1 hx
          obtain ⟨x', _, hfx⟩ := (mapO_get hxs).2 i x hi
          cases d with
          | zero => simp [freezeV] at hfx
          | succ d =>
            have hone : x.cells = [x] → Has s h (visV h (d + 1) x) := fun hc => ih' hfx (e6 i 0 x x hi (by rw [hc]; rfl))
            cases x with
            | agg cs =>
              simp only [freezeV] at hfx
              obtain ⟨cs', hcs, _⟩ := Option.map_eq_some_iff.1 hfx
              simp only [visV] at ho
              obtain ⟨c, hc, ho⟩ := List.mem_flatMap.1 ho
              obtain ⟨j, hj⟩ := List.mem_iff_getElem?.1 hc
              obtain ⟨c', _, hfc⟩ := (mapO_get hcs).2 j c hj
              exact ih (d := d) (by omega) hfc (e6 i j _ c hi hj) o ho
            | _ => exact hone rfl o ho
      case clo f cs =>
        obtain ⟨cs', hcs, rfl⟩ := Option.map_eq_some_iff.1 hf
        cases hv with
        | clo _ _ vs hl hr => exact many hcs fun i c hi => ⟨_, hr i c hi⟩
      case bnd f cs =>
        obtain ⟨cs', hcs, rfl⟩ := Option.map_eq_some_iff.1 hf
        cases hv with
        | bnd _ _ vs hl hr => exact many hcs fun i c hi => ⟨_, hr i c hi⟩
      case agg cs =>
        obtain ⟨cs', hcs, rfl⟩ := Option.map_eq_some_iff.1 hf
        cases hv with
        | agg _ vs hl hr => exact many hcs fun i c hi => ⟨_, hr i c hi⟩
      case tup cs =>
        obtain ⟨cs', hcs, rfl⟩ := Option.map_eq_some_iff.1 hf
        cases hv with
        | tup _ vs hl hr => exact many hcs fun i c hi => ⟨_, hr i c hi⟩
      case iface t x =>
        obtain ⟨x', hx, rfl⟩ := Option.map_eq_some_iff.1 hf
        cases hv with
        | iface _ _ v hv => exact ih' hx hv
theorem ice_rel (R : Rel s h w) : ∀ (D : Nat) {d : Nat}, d ≤ D → ∀ {v v' : AV} {u : Value}, freezeV h 0 d v = some v' → (∀ o ∈ visV h d v, o ∈ S) → VR s h w v u → VR (s.ice S) (killO S h) w v' u := by
  intro D
  induction D with
  | zero =>
    intro d hd v v' u hf _ _
    obtain rfl : d = 0 := by omega
    simp [freezeV] at hf
  | succ D ih =>
    intro d hd v v' u hf hs hv
    cases d with
    | zero => simp [freezeV] at hf
    | succ d =>
      have ih' : ∀ {v v' : AV} {u : Value}, freezeV h 0 d v = some v' → (∀ o ∈ visV h d v, o ∈ S) → VR s h w v u → VR (s.ice S) (killO S h) w v' u := fun hf hs hv => ih (d := d) (by omega) hf hs hv
      have sub : ∀ {cs : List AV}, (∀ o ∈ cs.flatMap (visV h d), o ∈ S) → ∀ {i : Nat} {c : AV}, cs[i]? = some c → ∀ o ∈ visV h d c, o ∈ S := fun hs i c hi o ho => hs o (List.mem_flatMap.2 ⟨c, List.mem_of_getElem? hi, ho⟩)
      cases v <;> simp only [freezeV, Nat.not_lt_zero, if_false] at hf <;> simp only [visV] at hs
      case bool b => injection hf with hf; subst hf; cases hv; exact .bool _
      case int k i => injection hf with hf; subst hf; cases hv; exact .int _ _
      case str l => injection hf with hf; subst hf; cases hv; exact .str _
      case nilPtr => injection hf with hf; subst hf; cases hv; exact .nilPtr
      case nilMap => injection hf with hf; subst hf; cases hv; exact .nilMap
      case nilFunc => injection hf with hf; subst hf; cases hv; exact .nilFunc
      case nilIface => injection hf with hf; subst hf; cases hv; exact .nilIface
      case junk => injection hf with hf; subst hf; exact .junk _
      case yld l => cases hf
      case map o => cases hf
      case ptr o off g =>
        simp only [Option.bind_eq_bind] at hf
        replace hf := Option.bind_eq_some_iff.1 hf
        obtain ⟨cs, hcs, hf⟩ := hf
        replace hf := Option.bind_eq_some_iff.1 hf
        obtain ⟨cs', hcs', hf⟩ := hf
        injection hf with hf; subst hf
        rw [hcs] at hs
        obtain ⟨k1, k2⟩ := mapO_get hcs'
        cases hv with
        | ptrOld _ _ _ g' a e1 e2 => have := (genOf_obj hcs).1; rw [this] at e1; injection e1; omega
        | ptr _ _ _ b e1 e2 =>
          have hread := (obj_reads R hcs e2).drop off
          have key : ∀ (i : Nat) c', cs'[i]? = some c' → ∃ v, w.cell? ⟨b, off + i, none⟩ = some v ∧ VR (s.ice S) (killO S h) w c' v := by
            intro i c' hi
            have hlt : i < (cs.drop off).length := by rw [← k1]; exact (List.getElem?_eq_some_iff.1 hi).1
            obtain ⟨b', hb', hfb⟩ := k2 i _ (List.getElem?_eq_getElem hlt)
            rw [hi] at hb'
            injection hb' with hb'; subst hb'
            obtain ⟨v, hv, hvr⟩ := hread i _ (List.getElem?_eq_getElem hlt)
            exact ⟨v, by simpa using hv, ih' hfb (sub (fun o' ho' => hs o' (List.mem_cons_of_mem _ ho')) (List.getElem?_eq_getElem hlt)) hvr⟩
          refine .ref cs' b off (fun i => (w.cell? ⟨b, off + i, none⟩).getD undef) (fun _ => .inr ⟨o, hs o (List.mem_cons_self ..), e2⟩) (fun i c hi => ?_) (fun i c hi => ?_)
          · obtain ⟨v, hv, _⟩ := key i c hi
            rw [hv]; rfl
          · obtain ⟨v, hv, hvr⟩ := key i c hi
            rw [hv]; exact hvr
      case msl o off len sz g cap =>
        simp only [Option.bind_eq_bind] at hf
        replace hf := Option.bind_eq_some_iff.1 hf
        obtain ⟨cs, hcs, hf⟩ := hf
        split at hf
        · rename_i hle
          replace hf := Option.bind_eq_some_iff.1 hf
          obtain ⟨cs', hcs', hf⟩ := hf
          injection hf with hf; subst hf
          rw [hcs] at hs
          obtain ⟨k1, k2⟩ := mapO_get hcs'
          cases hv with
          | mslOld _ _ _ _ _ _ g' a m c e1 e2 => have := (genOf_obj hcs).1; rw [this] at e1; injection e1; omega
          | msl _ _ _ _ _ _ b c el m off' e0 e1 e2 e3 e4 e5 e6 e7 =>
            by_cases hl0 : len = 0
            · subst hl0
              exact lst_empty _ _ _ _ _ trivial
            · obtain rfl : off' = off := e0.resolve_right (by omega)
              have hread := ((obj_reads R hcs e2).drop off').take (len * sz)
              refine lst_of_cells (fun _ => .inr ⟨o, hs o (List.mem_cons_self ..), e2⟩) (by rw [k1]; simp; omega) (fun i c' hi => ?_) trivial e3
              have hlt : i < ((cs.drop off').take (len * sz)).length := by rw [← k1]; exact (List.getElem?_eq_some_iff.1 hi).1
              obtain ⟨b', hb', hfb⟩ := k2 i _ (List.getElem?_eq_getElem hlt)
              rw [hi] at hb'
              injection hb' with hb'; subst hb'
              obtain ⟨v, hv, hvr⟩ := hread i _ (List.getElem?_eq_getElem hlt)
              exact ⟨v, by simpa using hv, ih' hfb (sub (fun o' ho' => hs o' (List.mem_cons_of_mem _ ho')) (List.getElem?_eq_getElem hlt)) hvr⟩
        · cases hf
      case ref cs =>
        obtain ⟨cs', hcs, rfl⟩ := Option.map_eq_some_iff.1 hf
        obtain ⟨k1, k2⟩ := mapO_get hcs
        cases hv with
        | ref _ b off f e1 e2 e3 =>
          have key : ∀ (i : Nat) c', cs'[i]? = some c' → ∃ c, cs[i]? = some c ∧ freezeV h 0 d c = some c' := by
            intro i c' hi
            have hlt : i < cs.length := by rw [← k1]; exact (List.getElem?_eq_some_iff.1 hi).1
            obtain ⟨b', hb', hfb⟩ := k2 i _ (List.getElem?_eq_getElem hlt)
            rw [hi] at hb'
            injection hb' with hb'; subst hb'
            exact ⟨_, List.getElem?_eq_getElem hlt, hfb⟩
          refine .ref _ b off f (fun h0 => .inl (e1 (by omega))) (fun i c' hi => ?_) (fun i c' hi => ?_)
          · obtain ⟨c, hc, _⟩ := key i c' hi
            exact e2 i c hc
          · obtain ⟨c, hc, hfc⟩ := key i c' hi
            exact ih' hfc (sub hs hc) (e3 i c hc)
      case lst xs z r =>
        obtain ⟨xs', hxs, rfl⟩ := Option.map_eq_some_iff.1 hf
        obtain ⟨k1, k2⟩ := mapO_get hxs
        cases hv with
        | lstNil =>
          simp only [mapO, Option.some.injEq] at hxs
          subst hxs
          exact .lstNil _
        | lstEmpty _ A =>
          simp only [mapO, Option.some.injEq] at hxs
          subst hxs
          exact .lstEmpty _ A
        | lst _ _ _ b off c f e1 e2 e3 e4 e5 e6 =>
          have key : ∀ (i : Nat) x', xs'[i]? = some x' → ∃ x, xs[i]? = some x ∧ freezeV h 0 d x = some x' := by
            intro i x' hi
            have hlt : i < xs.length := by rw [← k1]; exact (List.getElem?_eq_some_iff.1 hi).1
            obtain ⟨b', hb', hfb⟩ := k2 i _ (List.getElem?_eq_getElem hlt)
            rw [hi] at hb'
            injection hb' with hb'; subst hb'
            exact ⟨_, List.getElem?_eq_getElem hlt, hfb⟩
          have cell : ∀ (i j : Nat) x' y', xs'[i]? = some x' → x'.cells[j]? = some y' → ∃ x y d', d' ≤ d ∧ xs[i]? = some x ∧ x.cells[j]? = some y ∧ freezeV h 0 d' y = some y' ∧ ∀ o ∈ visV h d' y, o ∈ S := by
            intro i j x' y' hi hj
            obtain ⟨x, hx, hfx⟩ := key i x' hi
            have hsx := sub hs hx
            cases d with
            | zero => simp [freezeV] at hfx
            | succ d =>
              by_cases hagg : ∃ cs, x = .agg cs
              · obtain ⟨cs, rfl⟩ := hagg
                simp only [freezeV] at hfx
                obtain ⟨cs', hcs, rfl⟩ := Option.map_eq_some_iff.1 hfx
                have hj' : cs'[j]? = some y' := hj
                have hlt : j < cs.length := by rw [← (mapO_get hcs).1]; exact (List.getElem?_eq_some_iff.1 hj').1
                obtain ⟨b', hb', hfb⟩ := (mapO_get hcs).2 j _ (List.getElem?_eq_getElem hlt)
                rw [hj'] at hb'
                injection hb' with hb'; subst hb'
                simp only [visV] at hsx
                exact ⟨_, _, d, by omega, hx, List.getElem?_eq_getElem hlt, hfb, fun o ho => hsx o (List.mem_flatMap.2 ⟨_, List.getElem_mem hlt, ho⟩)⟩
              · obtain ⟨m1, m2⟩ := freeze_cells hfx
                have hxc : x.cells = [x] := by
                  cases x <;> first | rfl | exact (hagg ⟨_, rfl⟩).elim
                have hlt : j < x.cells.length := by rw [← m1]; exact (List.getElem?_eq_some_iff.1 hj).1
                rw [hxc] at hlt
                obtain rfl : j = 0 := by simpa using hlt
                have hxc' : x'.cells = [x'] := by
                  cases x <;> simp only [freezeV, Nat.not_lt_zero, if_false] at hfx <;> first
                    | (injection hfx with hfx; subst hfx; rfl)
                    | (obtain ⟨_, _, rfl⟩ := Option.map_eq_some_iff.1 hfx; first | rfl | exact (hagg ⟨_, rfl⟩).elim)
                    | (simp only [Option.bind_eq_bind] at hfx
                       obtain ⟨_, _, hfx⟩ := Option.bind_eq_some_iff.1 hfx
                       obtain ⟨_, _, hfx⟩ := Option.bind_eq_some_iff.1 hfx
                       injection hfx with hfx; subst hfx; rfl)
                    | (simp only [Option.bind_eq_bind] at hfx
                       obtain ⟨_, _, hfx⟩ := Option.bind_eq_some_iff.1 hfx
                       split at hfx
                       · obtain ⟨_, _, hfx⟩ := Option.bind_eq_some_iff.1 hfx
                         injection hfx with hfx; subst hfx; rfl
                       · cases hfx)
                    | cases hfx
                rw [hxc'] at hj
                simp at hj; subst hj
                exact ⟨x, x, d + 1, Nat.le_refl _, hx, by rw [hxc]; rfl, hfx, hsx⟩
          have := VR.lst (s := s.ice S) (h := killO S h) (w := w) xs' z r b off c f (fun h0 => .inl (e1 (by omega))) e2 (by omega)
            (fun i x' hi => by
              obtain ⟨x, hx, hfx⟩ := key i x' hi
              rw [(freeze_cells hfx).1]; exact e4 i x hx)
            (fun i j x' y' hi hj => by
              obtain ⟨x, y, d', _, hx, hy, _⟩ := cell i j x' y' hi hj
              exact e5 i j x y hx hy)
            (fun i j x' y' hi hj => by
              obtain ⟨x, y, d', hd', hx, hy, hfy, hsy⟩ := cell i j x' y' hi hj
              exact ih (d := d') (by omega) hfy hsy (e6 i j x y hx hy))
          rw [k1] at this
          exact this
      case clo f cs =>
        obtain ⟨cs', hcs, rfl⟩ := Option.map_eq_some_iff.1 hf
        obtain ⟨k1, k2⟩ := mapO_get hcs
        cases hv with
        | clo _ _ vs hl hr =>
          refine .clo _ _ vs (by omega) fun i c' hi => ?_
          have hlt : i < cs.length := by rw [← k1]; exact (List.getElem?_eq_some_iff.1 hi).1
          obtain ⟨b', hb', hfb⟩ := k2 i _ (List.getElem?_eq_getElem hlt)
          rw [hi] at hb'
          injection hb' with hb'; subst hb'
          exact ih' hfb (sub hs (List.getElem?_eq_getElem hlt)) (hr i _ (List.getElem?_eq_getElem hlt))
      case bnd f cs =>
        obtain ⟨cs', hcs, rfl⟩ := Option.map_eq_some_iff.1 hf
        obtain ⟨k1, k2⟩ := mapO_get hcs
        cases hv with
        | bnd _ _ vs hl hr =>
          refine .bnd _ _ vs (by omega) fun i c' hi => ?_
          have hlt : i < cs.length := by rw [← k1]; exact (List.getElem?_eq_some_iff.1 hi).1
          obtain ⟨b', hb', hfb⟩ := k2 i _ (List.getElem?_eq_getElem hlt)
          rw [hi] at hb'
          injection hb' with hb'; subst hb'
          exact ih' hfb (sub hs (List.getElem?_eq_getElem hlt)) (hr i _ (List.getElem?_eq_getElem hlt))
      case agg cs =>
        obtain ⟨cs', hcs, rfl⟩ := Option.map_eq_some_iff.1 hf
        obtain ⟨k1, k2⟩ := mapO_get hcs
        cases hv with
        | agg _ vs hl hr =>
          refine .agg _ vs (by omega) fun i c' hi => ?_
          have hlt : i < cs.length := by rw [← k1]; exact (List.getElem?_eq_some_iff.1 hi).1
          obtain ⟨b', hb', hfb⟩ := k2 i _ (List.getElem?_eq_getElem hlt)
          rw [hi] at hb'
          injection hb' with hb'; subst hb'
          exact ih' hfb (sub hs (List.getElem?_eq_getElem hlt)) (hr i _ (List.getElem?_eq_getElem hlt))
      case tup cs =>
        obtain ⟨cs', hcs, rfl⟩ := Option.map_eq_some_iff.1 hf
        obtain ⟨k1, k2⟩ := mapO_get hcs
        cases hv with
        | tup _ vs hl hr =>
          refine .tup _ vs (by omega) fun i c' hi => ?_
          have hlt : i < cs.length := by rw [← k1]; exact (List.getElem?_eq_some_iff.1 hi).1
          obtain ⟨b', hb', hfb⟩ := k2 i _ (List.getElem?_eq_getElem hlt)
          rw [hi] at hb'
          injection hb' with hb'; subst hb'
          exact ih' hfb (sub hs (List.getElem?_eq_getElem hlt)) (hr i _ (List.getElem?_eq_getElem hlt))
      case iface t x =>
        obtain ⟨x', hx, rfl⟩ := Option.map_eq_some_iff.1 hf
        cases hv with
        | iface _ _ v hv => exact .iface _ _ _ (ih' hx hs hv)
theorem ice_ok (R : Rel s h w) {args avs : List AV} {h1 : Heap} (hi : iceA h args = some (avs, h1)) {vs : List Value} (H : VRs s h w args vs) : ∃ s1, Ext s h w s1 h1 w ∧ Rel s1 h1 w ∧ VRs s1 h1 w avs vs := by
  unfold iceA at hi
  obtain ⟨as', hm, hx⟩ := Option.map_eq_some_iff.1 hi
  simp only [Prod.mk.injEq] at hx
  obtain ⟨rfl, rfl⟩ := hx
  obtain ⟨k1, k2⟩ := mapO_get hm
  have hS : Has s h (args.flatMap (visV h 40)) := fun o ho => by
    obtain ⟨c, hc, ho⟩ := List.mem_flatMap.1 ho
    obtain ⟨i, hi⟩ := List.mem_iff_getElem?.1 hc
    obtain ⟨b, _, hb⟩ := k2 i c hi
    obtain ⟨v, _, hv⟩ := H.2 i c hi
    exact vis_has R 40 (Nat.le_refl _) hb hv o ho
  refine ⟨_, ext_ice hS, rel_ice R hS, by rw [k1]; exact H.1, fun i c hi => ?_⟩
  have hlt : i < args.length := by rw [← k1]; exact (List.getElem?_eq_some_iff.1 hi).1
  obtain ⟨b, hb, hfb⟩ := k2 i _ (List.getElem?_eq_getElem hlt)
  rw [hi] at hb
  injection hb with hb; subst hb
  obtain ⟨v, hv, hvr⟩ := H.2 i _ (List.getElem?_eq_getElem hlt)
  exact ⟨v, hv, ice_rel R 40 (Nat.le_refl _) hfb (fun o ho => List.mem_flatMap.2 ⟨_, List.getElem_mem hlt, ho⟩) hvr⟩
end
def callIce (C : Cfg) (f : Nat) (args : List AV) (h : Heap) : Option (CRes × Heap) := (iceA h args).bind fun x => callP C f x.1 x.2
theorem callIce_ok {T : RvTold} {P : Program} (hg : GlobOk (T.cfg P)) (hcl : ∀ g v, T.glob g = some v → ∀ h, freezeV h 0 40 v = some v) (hp : PrimOk P (T.cfg P)) (hm : P.follows .mixedOrders = true) {C : Cfg} (hC : ∀ g v, T.glob g = some v → C.glob g = some v)
    {f : Nat} {args : List AV} {h : Heap} {res : CRes} {h' : Heap} (hc : callIce (T.cfg P) f args h = some (res, h')) {s : Sim} {w : World} {vs : List Value} (R : Rel s h w) (G : Glob C s h w) (H : VRs s h w args vs) : CallOk P f vs s h w res h' := by
  unfold callIce at hc
  obtain ⟨⟨avs, h1⟩, hi, hc⟩ := Option.bind_eq_some_iff.1 hc
  obtain ⟨s1, E, R1, H1⟩ := ice_ok R hi H
  refine Calls.mono (callP_ok hg hcl hp hm hC hc R1 (G.ext R.apart E) H1) fun e w' he => ?_
  obtain ⟨s', E', R', hv⟩ := he
  exact ⟨s', E.trans E', R', hv⟩
end
end Go.Rv
namespace Go.Rv
noncomputable section
def immB : Nat → AV → Bool
  | 0, _ => false
  | d + 1, v =>
    match v with
    | .ptr _ _ _ => false
    | .msl _ _ _ _ _ _ => false
    | .map _ => false
    | .yld _ => false
    | .ref cs => cs.all (immB d)
    | .agg cs => cs.all (immB d)
    | .tup cs => cs.all (immB d)
    | .clo _ cs => cs.all (immB d)
    | .bnd _ cs => cs.all (immB d)
    | .lst xs _ _ => xs.all (immB d)
    | .iface _ v => immB d v
    | _ => true
theorem mapO_id {α : Type} {f : α → Option α} : ∀ {l : List α}, (∀ x ∈ l, f x = some x) → mapO f l = some l
  | [], _ => rfl
  | x :: r, H => by
    rw [mapO_cons, H x (List.mem_cons_self ..), mapO_id fun y hy => H y (List.mem_cons_of_mem _ hy)]
    rfl
theorem imm_freeze (h : Heap) (n : Nat) : ∀ (d : Nat) (v : AV), immB d v = true → ∀ d', d ≤ d' → freezeV h n d' v = some v
  | 0, v, hv, _, _ => by simp [immB] at hv
  | d + 1, v, hv, d', hd => by
    obtain ⟨e, rfl⟩ : ∃ e, d' = e + 1 := ⟨d' - 1, by omega⟩
    have many : ∀ {cs : List AV}, cs.all (immB d) = true → mapO (freezeV h n e) cs = some cs := fun hc => mapO_id fun x hx => imm_freeze h n d x (List.all_eq_true.1 hc x hx) e (by omega)
    cases v <;> simp only [immB, Bool.false_eq_true] at hv <;> simp only [freezeV] <;> first | (rw [many hv]; rfl) | (rw [imm_freeze h n d _ hv e (by omega)]; rfl) | rfl
theorem imm_vis (h : Heap) : ∀ (d : Nat) (v : AV), immB d v = true → ∀ d', visV h d' v = []
  | 0, v, hv, _ => by simp [immB] at hv
  | d + 1, v, hv, d' => by
    cases d' with
    | zero => rfl
    | succ e =>
      have many : ∀ {cs : List AV}, cs.all (immB d) = true → cs.flatMap (visV h e) = [] := fun hc => List.flatMap_eq_nil_iff.2 fun x hx => imm_vis h d x (List.all_eq_true.1 hc x hx) e
      cases v <;> simp only [immB, Bool.false_eq_true] at hv <;> simp only [visV] <;> first | exact many hv | exact imm_vis h d _ hv e
end
end Go.Rv
namespace Go.Proofs.Sx
open Go.Rv
theorem nl_app {h : Heap} (cs : List AV) (g : Nat) (hn : noLoop h = true) : noLoop (h ++ [.cells cs g]) = true := by
  unfold noLoop at *
  rw [List.all_append, hn]
  rfl
theorem nl_set {h : Heap} (o : Nat) (cs : List AV) (g : Nat) (hn : noLoop h = true) : noLoop (List.set h o (.cells cs g)) = true := by
  unfold noLoop at *
  rw [List.all_eq_true] at *
  intro x hx
  rcases List.mem_or_eq_of_mem_set hx with hx | rfl
  · exact hn x hx
  · rfl
theorem nl_grow {h h' : Heap} {o len n sz g : Nat} {cs : List AV} {cap : Option Nat} {v' : AV} (hn : noLoop h = true) (hg : growA h o len n sz g cs cap = some (v', h')) : noLoop h' = true := by
  cases cap with
  | none => simp only [growA, Option.some.injEq, Prod.mk.injEq] at hg; rw [← hg.2]; exact nl_set _ _ _ hn
  | some c =>
    simp only [growA] at hg
    split at hg
    · simp only [Option.some.injEq, Prod.mk.injEq] at hg; rw [← hg.2]; exact nl_app _ _ hn
    · cases hg
theorem nl_append {h h' : Heap} {sz : Nat} {v v' : AV} {ys : List AV} (hn : noLoop h = true) (ha : appendA h sz v ys = some (v', h')) : noLoop h' = true := by
  unfold appendA at ha
  simp only at ha
  split at ha
  · cases ha
  · split at ha
    · split at ha
      · simp only [Option.some.injEq, Prod.mk.injEq] at ha; rw [← ha.2]; exact hn
      · split at ha
        · simp only [Option.some.injEq, Prod.mk.injEq] at ha; rw [← ha.2]; exact nl_app _ _ hn
        · cases ha
    · obtain ⟨cs, hcs, ha⟩ := Option.bind_eq_some_iff.1 ha
      split at ha
      · cases ha
      · split at ha
        · simp only [Option.some.injEq, Prod.mk.injEq] at ha; rw [← ha.2]; exact hn
        · split at ha
          · simp only [Option.some.injEq, Prod.mk.injEq] at ha; rw [← ha.2]; exact nl_set _ _ _ hn
          · split at ha
            · exact nl_grow hn ha
            · cases ha
    · cases ha
theorem nl_kill {h : Heap} (S : List Nat) (hn : noLoop h = true) : noLoop (killO S h) = true := by
  unfold noLoop killO at *
  rw [List.all_eq_true] at *
  intro x hx
  obtain ⟨i, hi, rfl⟩ := List.mem_mapIdx.1 hx
  have := hn _ (List.getElem_mem hi)
  generalize h[i] = x at this ⊢
  cases x with
  | cells cs g => unfold killX; simp only; cases S.contains i <;> rfl
  | loop r => exact this
  | iter k es => unfold killX; simp only; cases S.contains i <;> rfl
  | _ => rfl
end Go.Proofs.Sx
