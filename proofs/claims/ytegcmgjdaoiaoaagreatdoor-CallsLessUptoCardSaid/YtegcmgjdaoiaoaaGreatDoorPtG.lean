/-
  CallsLess: what the interpreter is told ahead of it: what it calls as single steps, calls.Of on arguments made immutable for good.
-/
import Derived.Test.YtegcmgjdaoiaoaaGreatDoorPtF
import Derived.Test.YtegcmgjdaoiaoaaGreatDoorPtC
set_option linter.unusedSectionVars false
set_option linter.unusedSimpArgs false
set_option linter.unusedVariables false
set_option linter.defProp false
set_option linter.unusedSimpArgs false
set_option linter.unusedVariables false
set_option maxRecDepth 100000
set_option maxHeartbeats 8000000
namespace Go.Proofs.Sx
open Go.Rv Go.Proofs
attribute [local congr] bind_left got_left
noncomputable section
def im2 (f t : Nat) : Bool := match f with
  | 4 => match t with | 3 => true | 66 => true | 74 => true | _ => false
  | _ => im f t
def lo2 (f t : Nat) : List Nat := match f with
  | 4 => match t with | 76 => [0, 1] | _ => []
  | _ => lo f t
def pu2 (f : Nat) : Bool := match f with
  | 7 => false
  | _ => pu f
def prm2 (f : Nat) : Option (List AV → Heap → Option (CRes × Heap)) := match f with
  | 6 => some (callP cfg 6)
  | 7 => some (callIce cfg 7)
  | 8 => some (callP cfg 8)
  | _ => none
def told2 : RvTold := { pure := pu2, imm := im2, live := lv, glob := glb, prim := prm2, loose := lo2 }
def cfg2 : Cfg := told2.cfg Tryz.prog
def cfg02 : Cfg := told2.bare Tryz.prog
instance : NoAlone cfg2 := ⟨fun _ => rfl⟩
theorem qt_eq2 (f t : Nat) : cfg2.quiet f t = false := rfl
theorem cfg2_ty : Cfg.ty cfg2 = Cfg.ty cfg := rfl
theorem ld2 : loadA cfg2 = loadA cfg := rfl
theorem ix2 : indexAddrA cfg2 = indexAddrA cfg := rfl
theorem fnat2 {f : Nat} {fn : Func} {b : Code} (h1 : Tryz.prog.funcs[f]? = some fn) (h2 : fn.body = some b) (h3 : okB cfg02 f fn b = true) : cfg2.fn f = some ⟨fn.params.size + fn.nfree, fn.results.toList, b⟩ := fn_of (T := told2) h1 h2 h3

theorem glb_ok : GlobOk cfg := fun g v hg => by
  have hg : glb g = some v := hg
  unfold glb at hg
  split at hg <;> first | (injection hg with hg; subst hg; simp) | cases hg
theorem glb_close : ∀ g v, told.glob g = some v → ∀ h, freezeV h 0 40 v = some v := fun g v hg h => by
  have hg : glb g = some v := hg
  unfold glb at hg
  split at hg
  · injection hg with hg; subst hg; exact congrFun (show (fun h => freezeV h 0 40 (.ref wordCells)) = (fun h => some (.ref wordCells)) by kernel_rfl) h
  · injection hg with hg; subst hg; exact congrFun (show (fun h => freezeV h 0 40 (.ref opCells)) = (fun h => some (.ref opCells)) by kernel_rfl) h
  · cases hg
theorem sx_prim2 : PrimOk Tryz.prog cfg2 := fun f p hp => by
  have hp : prm2 f = some p := hp
  unfold prm2 at hp
  split at hp
  · injection hp with hp; subst hp
    exact ⟨⟨_, _, Tryz.func6, rfl, by kernel_rfl⟩, fun _ args h v h' hc => callP_pure glb_ok glb_close sx_prim (by kernel_rfl) rfl hc, fun args h res h' hc s w vs R G H => callP_ok glb_ok glb_close sx_prim (by kernel_rfl) (fun _ _ h => h) hc R G H⟩
  · injection hp with hp; subst hp
    exact ⟨⟨_, _, Tryz.func7, rfl, by kernel_rfl⟩, fun hpu => absurd hpu (by decide), fun args h res h' hc s w vs R G H => callIce_ok glb_ok glb_close sx_prim (by kernel_rfl) (fun _ _ h => h) hc R G H⟩
  · injection hp with hp; subst hp
    exact ⟨⟨_, _, Tryz.func8, rfl, by kernel_rfl⟩, fun _ args h v h' hc => callP_pure glb_ok glb_close sx_prim (by kernel_rfl) rfl hc, fun args h res h' hc s w vs R G H => callP_ok glb_ok glb_close sx_prim (by kernel_rfl) (fun _ _ h => h) hc R G H⟩
  · cases hp

theorem pu2_8 : cfg2.pure 8 = true := rfl
theorem callP_at {f : Nat} {args : List AV} {h : Heap} {v : AV} (hn : noLoop h = true) (hc : call cfg f args h = some (.ret v, h)) : callP cfg f args h = some (.ret v, h) := by
  unfold callP
  rw [if_pos hn, hc, Option.bind_some, if_pos hn]
theorem has2 (xs : List Int) (x : Int) (z : Nat) (r : Room) (h : Heap) (hn : noLoop h = true) (hl : xs.length < 1000000000) : call cfg2 8 [.lst (intL xs) z r, .int .i64 x] h = some (.ret (.bool (decide (x ∈ xs))), h) := by
  rw [call_prim _ _ _ (callP cfg 8) rfl]
  exact callP_at hn (has_eq xs x z r h hl)
theorem works2 : call cfg2 6 [] [] = some (.ret (.bool true), []) := by
  rw [call_prim _ _ _ (callP cfg 6) rfl]
  exact callP_at rfl works_eq

theorem imm_ints (d : Nat) (l : List Int) : (intL l).all (immB (d + 1)) = true := by simp [intL, immB]
theorem imm_ins (d : Nat) (i : SIns) : i.cells.all (immB (d + 2)) = true := by
  have : immB (d + 2) (.lst (intL i.args) i.z i.room) = true := imm_ints d i.args
  simp only [SIns.cells, List.all_cons, List.all_nil, this]
  rfl
theorem imm_code (d : Nat) (l : List SIns) : (codeL l).all (immB (d + 3)) = true := by
  rw [List.all_eq_true]
  intro x hx
  obtain ⟨i, _, rfl⟩ := List.mem_map.1 hx
  exact imm_ins d i
theorem imm_fun (d : Nat) (f : SFun) : f.cells.all (immB (d + 4)) = true := by
  have : immB (d + 4) (.lst (codeL f.code) f.cz f.room) = true := imm_code d f.code
  simp only [SFun.cells, List.all_cons, List.all_nil, this]
  rfl
theorem imm_funs (d : Nat) (l : List SFun) : (funsL l).all (immB (d + 5)) = true := by
  rw [List.all_eq_true]
  intro x hx
  obtain ⟨i, _, rfl⟩ := List.mem_map.1 hx
  exact imm_fun d i
theorem imm_mems (d : Nat) (l : List SMem) : (memsL l).all (immB (d + 2)) = true := by
  rw [List.all_eq_true]
  intro x hx
  obtain ⟨i, _, rfl⟩ := List.mem_map.1 hx
  simp [SMem.cells, immB]
theorem imm_strs (d : Nat) (l : List (List UInt8)) : (strL l).all (immB (d + 1)) = true := by simp [strL, immB]
theorem imm_prog (p : SProg) : immB 7 (.agg p.cells) = true := by
  have h1 : immB 6 (.lst (memsL p.mems) p.mz p.mroom) = true := imm_mems 3 p.mems
  have h2 : immB 6 (.lst (strL p.locks) p.lz p.lroom) = true := imm_strs 4 p.locks
  have h3 : immB 6 (.lst (funsL p.funs) p.fz p.froom) = true := imm_funs 0 p.funs
  show p.cells.all (immB 6) = true
  simp only [SProg.cells, List.all_cons, List.all_nil, h1, h2, h3]
  rfl
theorem of2_first (p : SProg) (hp : p.wf) : ∃ v, call cfg2 7 [.agg p.cells] [] = some (.ret v, []) ∧ OfAns p v := by
  obtain ⟨v, hv, hA⟩ := callsOf_eq p [] hp
  refine ⟨v, ?_, hA⟩
  rw [call_prim _ _ _ (callIce cfg 7) rfl]
  unfold callIce iceA
  rw [mapO_cons, imm_freeze [] 0 7 _ (imm_prog p) 40 (by omega)]
  exact callP_at rfl hv

theorem vis_msl (h : Heap) (d o off len sz g : Nat) (cap : Option Nat) : visV h (d + 1) (.msl o off len sz g cap) = o :: ((((h.obj o g).getD []).drop off).take (len * sz)).flatMap (visV h d) := rfl
theorem vis_agg (h : Heap) (d : Nat) (cs : List AV) : visV h (d + 1) (.agg cs) = cs.flatMap (visV h d) := rfl
/-- calls.Of at a program whose Funs, and one of whose codes, lie in objects of the call's own. -/
theorem of2_second (p q : SProg) (hq : q.wf) (k n : Nat) (f : SFun) (c : List SIns) (hf : p.funs[k]? = some f) (H : Heap) (hnl : noLoop H = true) (hc0 : c.length = f.code.length)
    (ho3 : Heap.obj H 3 0 = some (flatC (codeL c)))
    (ho2 : Heap.obj H 2 0 = some (flatC ((funsL p.funs).set k (.agg [.str f.name, .bool f.thread, .int .i64 f.params, .int .i64 f.regs, .msl 3 0 f.code.length 6 0 none]))))
    (hqe : q = { p with funs := p.funs.set k { f with code := c, cz := 6, room := .open }, fz := 5, froom := .open }) :
    ∃ v, call cfg2 7 [.agg [.lst (memsL p.mems) p.mz p.mroom, .lst (strL p.locks) p.lz p.lroom, .msl 2 0 p.funs.length 5 0 none]] H = some (.ret v, killO [2, 3] H) ∧ OfAns q v := by
  obtain ⟨v, hv, hA⟩ := callsOf_eq q (killO [2, 3] H) hq
  refine ⟨v, ?_, hA⟩
  rw [call_prim _ _ _ (callIce cfg 7) rfl]
  have hlt := (List.getElem?_eq_some_iff.1 hf).1
  have hk : ((funsL p.funs).set k (.agg [.str f.name, .bool f.thread, .int .i64 f.params, .int .i64 f.regs, .msl 3 0 f.code.length 6 0 none]))[k]? = some (.agg [.str f.name, .bool f.thread, .int .i64 f.params, .int .i64 f.regs, .msl 3 0 f.code.length 6 0 none]) := List.getElem?_set_self (by rw [funsL_len]; exact hlt)
  have hother : ∀ (i : Nat) x, ((funsL p.funs).set k (.agg [.str f.name, .bool f.thread, .int .i64 f.params, .int .i64 f.regs, .msl 3 0 f.code.length 6 0 none]))[i]? = some x → i ≠ k → ∀ c ∈ x.cells, immB 4 c = true := fun i x hx hi c hc => by
    rw [List.getElem?_set_ne (Ne.symm hi)] at hx
    obtain ⟨g, _, rfl⟩ := List.mem_map.1 (List.mem_of_getElem? hx)
    exact List.all_eq_true.1 (imm_fun 0 g) c hc
  have hcl : flatC (codeL c) = flatC (codeL c) := rfl
  have hcsz : ∀ x ∈ codeL c, x.cells.length = 6 := fun x hx => by
    obtain ⟨i, _, rfl⟩ := List.mem_map.1 hx; rfl
  have hcagg : ∀ x ∈ codeL c, ∃ cs, x = .agg cs ∧ cs.length = 6 := fun x hx => by
    obtain ⟨i, _, rfl⟩ := List.mem_map.1 hx; exact ⟨_, rfl, rfl⟩
  have himc : ∀ y ∈ flatC (codeL c), immB 2 y = true := fun y hy => by
    simp only [flatC, List.mem_flatten, List.mem_map] at hy
    obtain ⟨l, ⟨x, hx, rfl⟩, hy⟩ := hy
    obtain ⟨i, _, rfl⟩ := List.mem_map.1 hx
    exact List.all_eq_true.1 (imm_ins 0 i) y hy
  have hclen : (flatC (codeL c)).length = f.code.length * 6 := by rw [flatC_len hcsz, codeL_len, hc0]
  have hg3 : group f.code.length (flatC (codeL c)) 6 = codeL c := by
    have := group_flatC (z := 6) (by omega) hcagg
    rw [codeL_len, hc0] at this; exact this
  have fz3 : ∀ d, 3 ≤ d → freezeV H 0 (d + 1) (.msl 3 0 f.code.length 6 0 none) = some (.lst (codeL c) 6 .open) := fun d hd => by
    unfold freezeV
    simp only [Nat.not_lt_zero, if_false, ho3, Option.bind_eq_bind, Option.bind_some, Nat.zero_add, hclen, Nat.le_refl, if_true, List.drop_zero]
    rw [← hclen, List.take_length, mapO_id (fun y hy => imm_freeze H 0 2 y (himc y hy) d (by omega))]
    simp only [Option.bind_some, hg3]
  have vs3 : ∀ d, 1 ≤ d → visV H d (.msl 3 0 f.code.length 6 0 none) = [3] := fun d hd => by
    obtain ⟨d, rfl⟩ : ∃ e, d = e + 1 := ⟨d - 1, by omega⟩
    rw [vis_msl, ho3, Option.getD_some, List.drop_zero]
    rw [List.flatMap_eq_nil_iff.2 (fun y hy => imm_vis H 2 y (himc y (List.mem_of_mem_take hy)) d)]
  have hsz : ∀ x ∈ (funsL p.funs).set k (.agg [.str f.name, .bool f.thread, .int .i64 f.params, .int .i64 f.regs, .msl 3 0 f.code.length 6 0 none]), ∃ cs, x = .agg cs ∧ cs.length = 5 := fun x hx => by
    rcases List.mem_or_eq_of_mem_set hx with h | h
    · obtain ⟨g, _, rfl⟩ := List.mem_map.1 h; exact ⟨_, rfl, rfl⟩
    · exact ⟨_, h, rfl⟩
  have hflen : (flatC ((funsL p.funs).set k (.agg [.str f.name, .bool f.thread, .int .i64 f.params, .int .i64 f.regs, .msl 3 0 f.code.length 6 0 none]))).length = p.funs.length * 5 := by
    rw [flatC_len (sz := 5) (fun x hx => by obtain ⟨cs, rfl, hl⟩ := hsz x hx; exact hl), List.length_set, funsL_len]
  have hmap : ∀ d, 8 ≤ d → mapO (freezeV H 0 d) (flatC ((funsL p.funs).set k (.agg [.str f.name, .bool f.thread, .int .i64 f.params, .int .i64 f.regs, .msl 3 0 f.code.length 6 0 none]))) = some (flatC (funsL q.funs)) := fun d hd => by
    obtain ⟨e, rfl⟩ : ∃ e, d = e + 1 := ⟨d - 1, by omega⟩
    have := flat_freeze (h := H) (n := 0) (d := e + 1) (cs' := [.str f.name, .bool f.thread, .int .i64 f.params, .int .i64 f.regs, .lst (codeL c) 6 .open]) hk (fun x hx hne c' hc' => by
        rcases List.mem_or_eq_of_mem_set hx with h | h
        · obtain ⟨g, _, rfl⟩ := List.mem_map.1 h
          exact imm_freeze H 0 4 c' (List.all_eq_true.1 (imm_fun 0 g) c' hc') _ (by omega)
        · exact absurd h hne) (fun i x hx hi c' hc' => imm_freeze H 0 4 c' (hother i x hx hi c' hc') _ (by omega))
      (by
        simp only [mapO_cons, mapO_nil, fz3 e (by omega), Option.bind_some]
        rfl)
    rw [this, List.set_set]
    congr 2
    rw [hqe]
    apply List.ext_getElem?
    intro i
    by_cases hi : i = k
    · subst hi
      rw [List.getElem?_set_self (by rw [funsL_len]; exact hlt), funsL, List.getElem?_map, List.getElem?_set_self hlt]
      rfl
    · rw [List.getElem?_set_ne (Ne.symm hi), funsL, funsL, List.getElem?_map, List.getElem?_map, List.getElem?_set_ne (Ne.symm hi)]
  have hgq : group p.funs.length (flatC (funsL q.funs)) 5 = funsL q.funs := by
    have := group_flatC (z := 5) (by omega) (xs := funsL q.funs) (fun x hx => by obtain ⟨g, _, rfl⟩ := List.mem_map.1 hx; exact ⟨_, rfl, rfl⟩)
    rw [funsL_len, hqe, List.length_set] at this
    rw [hqe]; exact this
  have fz2 : freezeV H 0 39 (.msl 2 0 p.funs.length 5 0 none) = some (.lst (funsL q.funs) 5 .open) := by
    unfold freezeV
    simp only [Nat.not_lt_zero, if_false, ho2, Option.bind_eq_bind, Option.bind_some, Nat.zero_add, hflen, Nat.le_refl, if_true, List.drop_zero]
    rw [← hflen, List.take_length, hmap 38 (by omega)]
    simp only [Option.bind_some, hgq]
  have vs2 : visV H 39 (.msl 2 0 p.funs.length 5 0 none) = [2, 3] := by
    rw [vis_msl H 38, ho2, Option.getD_some, List.drop_zero]
    rw [← hflen, List.take_length, flat_vis hk (fun i x hx hi c' hc' => imm_vis H 4 c' (hother i x hx hi c' hc') 38)]
    have := vs3 38 (by omega)
    simp only [List.flatMap_cons, List.flatMap_nil, List.append_nil, List.nil_append, this, imm_vis H 1 (.str f.name) rfl, imm_vis H 1 (.bool f.thread) rfl, imm_vis H 1 (.int .i64 f.params) rfl, imm_vis H 1 (.int .i64 f.regs) rfl]
  have im1 : immB 4 (.lst (memsL p.mems) p.mz p.mroom) = true := imm_mems 1 p.mems
  have im2 : immB 4 (.lst (strL p.locks) p.lz p.lroom) = true := imm_strs 2 p.locks
  have hfz : freezeV H 0 40 (.agg [.lst (memsL p.mems) p.mz p.mroom, .lst (strL p.locks) p.lz p.lroom, .msl 2 0 p.funs.length 5 0 none]) = some (.agg q.cells) := by
    rw [freeze_aggv, mapO_cons, mapO_cons, mapO_cons, mapO_nil, imm_freeze H 0 4 _ im1 39 (by omega), imm_freeze H 0 4 _ im2 39 (by omega), fz2, hqe]
    rfl
  have hvs : visV H 40 (.agg [.lst (memsL p.mems) p.mz p.mroom, .lst (strL p.locks) p.lz p.lroom, .msl 2 0 p.funs.length 5 0 none]) = [2, 3] := by
    rw [vis_agg H 39, List.flatMap_cons, List.flatMap_cons, List.flatMap_cons, imm_vis H 4 _ im1, imm_vis H 4 _ im2, vs2]
    rfl
  unfold callIce iceA
  rw [mapO_cons, hfz, List.flatMap_cons, hvs]
  have hnl' : noLoop (killO [2, 3] H) = true := by
    unfold noLoop killO at *
    rw [List.all_eq_true] at hnl ⊢
    intro x hx
    obtain ⟨i, hi⟩ := List.mem_iff_getElem?.1 hx
    rw [List.getElem?_mapIdx] at hi
    obtain ⟨y, hy, rfl⟩ := Option.map_eq_some_iff.1 hi
    have := hnl y (List.mem_of_getElem? hy)
    cases y with
    | cells cs g => unfold killX; simp only; cases [2, 3].contains i <;> rfl
    | map es => rfl
    | loop r => cases this
  exact callP_at hnl' hv
theorem lv4 (r : Nat) : cfg2.live 4 r = some [0, 1, 2, 3, 6, 7, 8, 9, 10, 11, 12, 13, 14, 15, 16, 17, 18, 32, 64, 91, 112, 117, 127, 144, 152, 169, 177, 194] := rfl
theorem ok4 : okB cfg02 4 Tryz.f4 (Tryz.f4.body.getD .skip) = true := by kernel_rfl
theorem pu4 : cfg2.pure 4 = true := rfl
instance tight4_3 : TightD cfg2 4 (some 3) := ⟨fun t h => by cases h; rfl⟩
instance tight4_6 : TightD cfg2 4 (some 6) := ⟨fun t h => by cases h; rfl⟩
instance tight4_7 : TightD cfg2 4 (some 7) := ⟨fun t h => by cases h; rfl⟩
instance tight4_8 : TightD cfg2 4 (some 8) := ⟨fun t h => by cases h; rfl⟩
instance tight4_9 : TightD cfg2 4 (some 9) := ⟨fun t h => by cases h; rfl⟩
instance tight4_10 : TightD cfg2 4 (some 10) := ⟨fun t h => by cases h; rfl⟩
instance tight4_11 : TightD cfg2 4 (some 11) := ⟨fun t h => by cases h; rfl⟩
instance tight4_12 : TightD cfg2 4 (some 12) := ⟨fun t h => by cases h; rfl⟩
instance tight4_13 : TightD cfg2 4 (some 13) := ⟨fun t h => by cases h; rfl⟩
instance tight4_14 : TightD cfg2 4 (some 14) := ⟨fun t h => by cases h; rfl⟩
instance tight4_15 : TightD cfg2 4 (some 15) := ⟨fun t h => by cases h; rfl⟩
instance tight4_16 : TightD cfg2 4 (some 16) := ⟨fun t h => by cases h; rfl⟩
instance tight4_17 : TightD cfg2 4 (some 17) := ⟨fun t h => by cases h; rfl⟩
instance tight4_18 : TightD cfg2 4 (some 18) := ⟨fun t h => by cases h; rfl⟩
instance tight4_19 : TightD cfg2 4 (some 19) := ⟨fun t h => by cases h; rfl⟩
instance tight4_20 : TightD cfg2 4 (some 20) := ⟨fun t h => by cases h; rfl⟩
instance tight4_21 : TightD cfg2 4 (some 21) := ⟨fun t h => by cases h; rfl⟩
instance tight4_22 : TightD cfg2 4 (some 22) := ⟨fun t h => by cases h; rfl⟩
instance tight4_23 : TightD cfg2 4 (some 23) := ⟨fun t h => by cases h; rfl⟩
instance tight4_24 : TightD cfg2 4 (some 24) := ⟨fun t h => by cases h; rfl⟩
instance tight4_25 : TightD cfg2 4 (some 25) := ⟨fun t h => by cases h; rfl⟩
instance tight4_26 : TightD cfg2 4 (some 26) := ⟨fun t h => by cases h; rfl⟩
instance tight4_27 : TightD cfg2 4 (some 27) := ⟨fun t h => by cases h; rfl⟩
instance tight4_28 : TightD cfg2 4 (some 28) := ⟨fun t h => by cases h; rfl⟩
instance tight4_29 : TightD cfg2 4 (some 29) := ⟨fun t h => by cases h; rfl⟩
instance tight4_30 : TightD cfg2 4 (some 30) := ⟨fun t h => by cases h; rfl⟩
instance tight4_31 : TightD cfg2 4 (some 31) := ⟨fun t h => by cases h; rfl⟩
instance tight4_32 : TightD cfg2 4 (some 32) := ⟨fun t h => by cases h; rfl⟩
instance tight4_33 : TightD cfg2 4 (some 33) := ⟨fun t h => by cases h; rfl⟩
instance tight4_34 : TightD cfg2 4 (some 34) := ⟨fun t h => by cases h; rfl⟩
instance tight4_35 : TightD cfg2 4 (some 35) := ⟨fun t h => by cases h; rfl⟩
instance tight4_36 : TightD cfg2 4 (some 36) := ⟨fun t h => by cases h; rfl⟩
instance tight4_37 : TightD cfg2 4 (some 37) := ⟨fun t h => by cases h; rfl⟩
instance tight4_38 : TightD cfg2 4 (some 38) := ⟨fun t h => by cases h; rfl⟩
instance tight4_39 : TightD cfg2 4 (some 39) := ⟨fun t h => by cases h; rfl⟩
instance tight4_40 : TightD cfg2 4 (some 40) := ⟨fun t h => by cases h; rfl⟩
instance tight4_41 : TightD cfg2 4 (some 41) := ⟨fun t h => by cases h; rfl⟩
instance tight4_42 : TightD cfg2 4 (some 42) := ⟨fun t h => by cases h; rfl⟩
instance tight4_43 : TightD cfg2 4 (some 43) := ⟨fun t h => by cases h; rfl⟩
instance tight4_44 : TightD cfg2 4 (some 44) := ⟨fun t h => by cases h; rfl⟩
instance tight4_45 : TightD cfg2 4 (some 45) := ⟨fun t h => by cases h; rfl⟩
instance tight4_46 : TightD cfg2 4 (some 46) := ⟨fun t h => by cases h; rfl⟩
instance tight4_47 : TightD cfg2 4 (some 47) := ⟨fun t h => by cases h; rfl⟩
instance tight4_48 : TightD cfg2 4 (some 48) := ⟨fun t h => by cases h; rfl⟩
instance tight4_49 : TightD cfg2 4 (some 49) := ⟨fun t h => by cases h; rfl⟩
instance tight4_50 : TightD cfg2 4 (some 50) := ⟨fun t h => by cases h; rfl⟩
instance tight4_51 : TightD cfg2 4 (some 51) := ⟨fun t h => by cases h; rfl⟩
instance tight4_52 : TightD cfg2 4 (some 52) := ⟨fun t h => by cases h; rfl⟩
instance tight4_53 : TightD cfg2 4 (some 53) := ⟨fun t h => by cases h; rfl⟩
instance tight4_54 : TightD cfg2 4 (some 54) := ⟨fun t h => by cases h; rfl⟩
instance tight4_55 : TightD cfg2 4 (some 55) := ⟨fun t h => by cases h; rfl⟩
instance tight4_56 : TightD cfg2 4 (some 56) := ⟨fun t h => by cases h; rfl⟩
instance tight4_57 : TightD cfg2 4 (some 57) := ⟨fun t h => by cases h; rfl⟩
instance tight4_58 : TightD cfg2 4 (some 58) := ⟨fun t h => by cases h; rfl⟩
instance tight4_59 : TightD cfg2 4 (some 59) := ⟨fun t h => by cases h; rfl⟩
instance tight4_60 : TightD cfg2 4 (some 60) := ⟨fun t h => by cases h; rfl⟩
instance tight4_61 : TightD cfg2 4 (some 61) := ⟨fun t h => by cases h; rfl⟩
instance tight4_62 : TightD cfg2 4 (some 62) := ⟨fun t h => by cases h; rfl⟩
instance tight4_63 : TightD cfg2 4 (some 63) := ⟨fun t h => by cases h; rfl⟩
instance tight4_64 : TightD cfg2 4 (some 64) := ⟨fun t h => by cases h; rfl⟩
instance tight4_65 : TightD cfg2 4 (some 65) := ⟨fun t h => by cases h; rfl⟩
instance tight4_66 : TightD cfg2 4 (some 66) := ⟨fun t h => by cases h; rfl⟩
instance tight4_67 : TightD cfg2 4 (some 67) := ⟨fun t h => by cases h; rfl⟩
instance tight4_68 : TightD cfg2 4 (some 68) := ⟨fun t h => by cases h; rfl⟩
instance tight4_69 : TightD cfg2 4 (some 69) := ⟨fun t h => by cases h; rfl⟩
instance tight4_70 : TightD cfg2 4 (some 70) := ⟨fun t h => by cases h; rfl⟩
instance tight4_71 : TightD cfg2 4 (some 71) := ⟨fun t h => by cases h; rfl⟩
instance tight4_72 : TightD cfg2 4 (some 72) := ⟨fun t h => by cases h; rfl⟩
instance tight4_73 : TightD cfg2 4 (some 73) := ⟨fun t h => by cases h; rfl⟩
instance tight4_74 : TightD cfg2 4 (some 74) := ⟨fun t h => by cases h; rfl⟩
instance tight4_75 : TightD cfg2 4 (some 75) := ⟨fun t h => by cases h; rfl⟩
instance tight4_77 : TightD cfg2 4 (some 77) := ⟨fun t h => by cases h; rfl⟩
instance tight4_78 : TightD cfg2 4 (some 78) := ⟨fun t h => by cases h; rfl⟩
instance tight4_79 : TightD cfg2 4 (some 79) := ⟨fun t h => by cases h; rfl⟩
instance tight4_80 : TightD cfg2 4 (some 80) := ⟨fun t h => by cases h; rfl⟩
instance tight4_81 : TightD cfg2 4 (some 81) := ⟨fun t h => by cases h; rfl⟩
instance tight4_82 : TightD cfg2 4 (some 82) := ⟨fun t h => by cases h; rfl⟩
instance tight4_83 : TightD cfg2 4 (some 83) := ⟨fun t h => by cases h; rfl⟩
instance tight4_84 : TightD cfg2 4 (some 84) := ⟨fun t h => by cases h; rfl⟩
instance tight4_85 : TightD cfg2 4 (some 85) := ⟨fun t h => by cases h; rfl⟩
instance tight4_86 : TightD cfg2 4 (some 86) := ⟨fun t h => by cases h; rfl⟩
instance tight4_87 : TightD cfg2 4 (some 87) := ⟨fun t h => by cases h; rfl⟩
instance tight4_88 : TightD cfg2 4 (some 88) := ⟨fun t h => by cases h; rfl⟩
instance tight4_89 : TightD cfg2 4 (some 89) := ⟨fun t h => by cases h; rfl⟩
instance tight4_90 : TightD cfg2 4 (some 90) := ⟨fun t h => by cases h; rfl⟩
instance tight4_91 : TightD cfg2 4 (some 91) := ⟨fun t h => by cases h; rfl⟩
instance tight4_92 : TightD cfg2 4 (some 92) := ⟨fun t h => by cases h; rfl⟩
instance tight4_93 : TightD cfg2 4 (some 93) := ⟨fun t h => by cases h; rfl⟩
instance tight4_94 : TightD cfg2 4 (some 94) := ⟨fun t h => by cases h; rfl⟩
instance tight4_95 : TightD cfg2 4 (some 95) := ⟨fun t h => by cases h; rfl⟩
instance tight4_96 : TightD cfg2 4 (some 96) := ⟨fun t h => by cases h; rfl⟩
instance tight4_97 : TightD cfg2 4 (some 97) := ⟨fun t h => by cases h; rfl⟩
instance tight4_98 : TightD cfg2 4 (some 98) := ⟨fun t h => by cases h; rfl⟩
instance tight4_99 : TightD cfg2 4 (some 99) := ⟨fun t h => by cases h; rfl⟩
instance tight4_100 : TightD cfg2 4 (some 100) := ⟨fun t h => by cases h; rfl⟩
instance tight4_101 : TightD cfg2 4 (some 101) := ⟨fun t h => by cases h; rfl⟩
instance tight4_102 : TightD cfg2 4 (some 102) := ⟨fun t h => by cases h; rfl⟩
instance tight4_103 : TightD cfg2 4 (some 103) := ⟨fun t h => by cases h; rfl⟩
instance tight4_104 : TightD cfg2 4 (some 104) := ⟨fun t h => by cases h; rfl⟩
instance tight4_105 : TightD cfg2 4 (some 105) := ⟨fun t h => by cases h; rfl⟩
instance tight4_106 : TightD cfg2 4 (some 106) := ⟨fun t h => by cases h; rfl⟩
instance tight4_107 : TightD cfg2 4 (some 107) := ⟨fun t h => by cases h; rfl⟩
instance tight4_108 : TightD cfg2 4 (some 108) := ⟨fun t h => by cases h; rfl⟩
instance tight4_109 : TightD cfg2 4 (some 109) := ⟨fun t h => by cases h; rfl⟩
instance tight4_110 : TightD cfg2 4 (some 110) := ⟨fun t h => by cases h; rfl⟩
instance tight4_111 : TightD cfg2 4 (some 111) := ⟨fun t h => by cases h; rfl⟩
instance tight4_112 : TightD cfg2 4 (some 112) := ⟨fun t h => by cases h; rfl⟩
instance tight4_113 : TightD cfg2 4 (some 113) := ⟨fun t h => by cases h; rfl⟩
instance tight4_114 : TightD cfg2 4 (some 114) := ⟨fun t h => by cases h; rfl⟩
instance tight4_115 : TightD cfg2 4 (some 115) := ⟨fun t h => by cases h; rfl⟩
instance tight4_116 : TightD cfg2 4 (some 116) := ⟨fun t h => by cases h; rfl⟩
instance tight4_117 : TightD cfg2 4 (some 117) := ⟨fun t h => by cases h; rfl⟩
instance tight4_118 : TightD cfg2 4 (some 118) := ⟨fun t h => by cases h; rfl⟩
instance tight4_119 : TightD cfg2 4 (some 119) := ⟨fun t h => by cases h; rfl⟩
instance tight4_120 : TightD cfg2 4 (some 120) := ⟨fun t h => by cases h; rfl⟩
instance tight4_121 : TightD cfg2 4 (some 121) := ⟨fun t h => by cases h; rfl⟩
instance tight4_122 : TightD cfg2 4 (some 122) := ⟨fun t h => by cases h; rfl⟩
instance tight4_123 : TightD cfg2 4 (some 123) := ⟨fun t h => by cases h; rfl⟩
instance tight4_124 : TightD cfg2 4 (some 124) := ⟨fun t h => by cases h; rfl⟩
instance tight4_125 : TightD cfg2 4 (some 125) := ⟨fun t h => by cases h; rfl⟩
instance tight4_126 : TightD cfg2 4 (some 126) := ⟨fun t h => by cases h; rfl⟩
instance tight4_127 : TightD cfg2 4 (some 127) := ⟨fun t h => by cases h; rfl⟩
instance tight4_128 : TightD cfg2 4 (some 128) := ⟨fun t h => by cases h; rfl⟩
instance tight4_129 : TightD cfg2 4 (some 129) := ⟨fun t h => by cases h; rfl⟩
instance tight4_130 : TightD cfg2 4 (some 130) := ⟨fun t h => by cases h; rfl⟩
instance tight4_131 : TightD cfg2 4 (some 131) := ⟨fun t h => by cases h; rfl⟩
instance tight4_132 : TightD cfg2 4 (some 132) := ⟨fun t h => by cases h; rfl⟩
instance tight4_133 : TightD cfg2 4 (some 133) := ⟨fun t h => by cases h; rfl⟩
instance tight4_134 : TightD cfg2 4 (some 134) := ⟨fun t h => by cases h; rfl⟩
instance tight4_135 : TightD cfg2 4 (some 135) := ⟨fun t h => by cases h; rfl⟩
instance tight4_136 : TightD cfg2 4 (some 136) := ⟨fun t h => by cases h; rfl⟩
instance tight4_137 : TightD cfg2 4 (some 137) := ⟨fun t h => by cases h; rfl⟩
instance tight4_138 : TightD cfg2 4 (some 138) := ⟨fun t h => by cases h; rfl⟩
instance tight4_139 : TightD cfg2 4 (some 139) := ⟨fun t h => by cases h; rfl⟩
instance tight4_140 : TightD cfg2 4 (some 140) := ⟨fun t h => by cases h; rfl⟩
instance tight4_141 : TightD cfg2 4 (some 141) := ⟨fun t h => by cases h; rfl⟩
instance tight4_142 : TightD cfg2 4 (some 142) := ⟨fun t h => by cases h; rfl⟩
instance tight4_143 : TightD cfg2 4 (some 143) := ⟨fun t h => by cases h; rfl⟩
instance tight4_144 : TightD cfg2 4 (some 144) := ⟨fun t h => by cases h; rfl⟩
instance tight4_145 : TightD cfg2 4 (some 145) := ⟨fun t h => by cases h; rfl⟩
instance tight4_146 : TightD cfg2 4 (some 146) := ⟨fun t h => by cases h; rfl⟩
instance tight4_147 : TightD cfg2 4 (some 147) := ⟨fun t h => by cases h; rfl⟩
instance tight4_148 : TightD cfg2 4 (some 148) := ⟨fun t h => by cases h; rfl⟩
instance tight4_149 : TightD cfg2 4 (some 149) := ⟨fun t h => by cases h; rfl⟩
instance tight4_150 : TightD cfg2 4 (some 150) := ⟨fun t h => by cases h; rfl⟩
instance tight4_151 : TightD cfg2 4 (some 151) := ⟨fun t h => by cases h; rfl⟩
instance tight4_152 : TightD cfg2 4 (some 152) := ⟨fun t h => by cases h; rfl⟩
instance tight4_153 : TightD cfg2 4 (some 153) := ⟨fun t h => by cases h; rfl⟩
instance tight4_154 : TightD cfg2 4 (some 154) := ⟨fun t h => by cases h; rfl⟩
instance tight4_155 : TightD cfg2 4 (some 155) := ⟨fun t h => by cases h; rfl⟩
instance tight4_156 : TightD cfg2 4 (some 156) := ⟨fun t h => by cases h; rfl⟩
instance tight4_157 : TightD cfg2 4 (some 157) := ⟨fun t h => by cases h; rfl⟩
instance tight4_158 : TightD cfg2 4 (some 158) := ⟨fun t h => by cases h; rfl⟩
instance tight4_159 : TightD cfg2 4 (some 159) := ⟨fun t h => by cases h; rfl⟩
instance tight4_160 : TightD cfg2 4 (some 160) := ⟨fun t h => by cases h; rfl⟩
instance tight4_161 : TightD cfg2 4 (some 161) := ⟨fun t h => by cases h; rfl⟩
instance tight4_162 : TightD cfg2 4 (some 162) := ⟨fun t h => by cases h; rfl⟩
instance tight4_163 : TightD cfg2 4 (some 163) := ⟨fun t h => by cases h; rfl⟩
instance tight4_164 : TightD cfg2 4 (some 164) := ⟨fun t h => by cases h; rfl⟩
instance tight4_165 : TightD cfg2 4 (some 165) := ⟨fun t h => by cases h; rfl⟩
instance tight4_166 : TightD cfg2 4 (some 166) := ⟨fun t h => by cases h; rfl⟩
instance tight4_167 : TightD cfg2 4 (some 167) := ⟨fun t h => by cases h; rfl⟩
instance tight4_168 : TightD cfg2 4 (some 168) := ⟨fun t h => by cases h; rfl⟩
instance tight4_169 : TightD cfg2 4 (some 169) := ⟨fun t h => by cases h; rfl⟩
instance tight4_170 : TightD cfg2 4 (some 170) := ⟨fun t h => by cases h; rfl⟩
instance tight4_171 : TightD cfg2 4 (some 171) := ⟨fun t h => by cases h; rfl⟩
instance tight4_172 : TightD cfg2 4 (some 172) := ⟨fun t h => by cases h; rfl⟩
instance tight4_173 : TightD cfg2 4 (some 173) := ⟨fun t h => by cases h; rfl⟩
instance tight4_174 : TightD cfg2 4 (some 174) := ⟨fun t h => by cases h; rfl⟩
instance tight4_175 : TightD cfg2 4 (some 175) := ⟨fun t h => by cases h; rfl⟩
instance tight4_176 : TightD cfg2 4 (some 176) := ⟨fun t h => by cases h; rfl⟩
instance tight4_177 : TightD cfg2 4 (some 177) := ⟨fun t h => by cases h; rfl⟩
instance tight4_178 : TightD cfg2 4 (some 178) := ⟨fun t h => by cases h; rfl⟩
instance tight4_179 : TightD cfg2 4 (some 179) := ⟨fun t h => by cases h; rfl⟩
instance tight4_180 : TightD cfg2 4 (some 180) := ⟨fun t h => by cases h; rfl⟩
instance tight4_181 : TightD cfg2 4 (some 181) := ⟨fun t h => by cases h; rfl⟩
instance tight4_182 : TightD cfg2 4 (some 182) := ⟨fun t h => by cases h; rfl⟩
instance tight4_183 : TightD cfg2 4 (some 183) := ⟨fun t h => by cases h; rfl⟩
instance tight4_184 : TightD cfg2 4 (some 184) := ⟨fun t h => by cases h; rfl⟩
instance tight4_185 : TightD cfg2 4 (some 185) := ⟨fun t h => by cases h; rfl⟩
instance tight4_186 : TightD cfg2 4 (some 186) := ⟨fun t h => by cases h; rfl⟩
instance tight4_187 : TightD cfg2 4 (some 187) := ⟨fun t h => by cases h; rfl⟩
instance tight4_188 : TightD cfg2 4 (some 188) := ⟨fun t h => by cases h; rfl⟩
instance tight4_189 : TightD cfg2 4 (some 189) := ⟨fun t h => by cases h; rfl⟩
instance tight4_190 : TightD cfg2 4 (some 190) := ⟨fun t h => by cases h; rfl⟩
instance tight4_191 : TightD cfg2 4 (some 191) := ⟨fun t h => by cases h; rfl⟩
instance tight4_192 : TightD cfg2 4 (some 192) := ⟨fun t h => by cases h; rfl⟩
instance tight4_193 : TightD cfg2 4 (some 193) := ⟨fun t h => by cases h; rfl⟩
instance tight4_194 : TightD cfg2 4 (some 194) := ⟨fun t h => by cases h; rfl⟩
instance tight4_n : TightD cfg2 4 none := ⟨fun t h => by cases h⟩
theorem lo4_76 : cfg2.loose 4 76 = lo2 4 76 := rfl
def a4_0 : Array Oper := codeOps (codeAt [false] (Tryz.f4.body.getD .skip))
def b4_0 : Array Oper := a4_0
def r4_0 : Code := .region 0 a4_0 false
theorem im4_3 : cfg2.imm 4 3 = true := by kernel_rfl
theorem x4_0 (e : Env) (h : Heap) : exec cfg2 4 r4_0 e h = (ops cfg2 4 b4_0 (a4_0.toList) e h).bind (regEnd cfg2 4 0 false) := region_at _ _ _ _ _ _ _
def a4_1 : Array Oper := codeOps (codeAt [true, false, false] (Tryz.f4.body.getD .skip))
def b4_1 : Array Oper := a4_1
def r4_1 : Code := .region 1 a4_1 false
theorem x4_1 (e : Env) (h : Heap) : exec cfg2 4 r4_1 e h = (ops cfg2 4 b4_1 (a4_1.toList) e h).bind (regEnd cfg2 4 1 false) := region_at _ _ _ _ _ _ _
theorem g4_1_2 : (b4_1[2]?).bind (·.dst) = some 21 := by kernel_rfl
theorem g4_1_8 : (b4_1[8]?).bind (·.dst) = some 27 := by kernel_rfl
def a4_2 : Array Oper := codeOps (codeAt [true, false, true, false, false] (Tryz.f4.body.getD .skip))
def b4_2 : Array Oper := a4_2
def r4_2 : Code := .region 2 a4_2 false
theorem x4_2 (e : Env) (h : Heap) : exec cfg2 4 r4_2 e h = (ops cfg2 4 b4_2 (a4_2.toList) e h).bind (regEnd cfg2 4 2 false) := region_at _ _ _ _ _ _ _
def a4_3 : Array Oper := codeOps (codeAt [true, true, false] (Tryz.f4.body.getD .skip))
def b4_3 : Array Oper := a4_3
def r4_3 : Code := .region 3 a4_3 false
theorem x4_3 (e : Env) (h : Heap) : exec cfg2 4 r4_3 e h = (ops cfg2 4 b4_3 (a4_3.toList) e h).bind (regEnd cfg2 4 3 false) := region_at _ _ _ _ _ _ _
def a4_4 : Array Oper := codeOps (codeAt [true, true, true, false] (Tryz.f4.body.getD .skip))
def b4_4 : Array Oper := a4_4
def r4_4 : Code := .region 4 a4_4 false
theorem x4_4 (e : Env) (h : Heap) : exec cfg2 4 r4_4 e h = (ops cfg2 4 b4_4 (a4_4.toList) e h).bind (regEnd cfg2 4 4 false) := region_at _ _ _ _ _ _ _
def a4_5 : Array Oper := codeOps (codeAt [true, true, true, true, false] (Tryz.f4.body.getD .skip))
def b4_5 : Array Oper := a4_5
def r4_5 : Code := .region 5 a4_5 false
theorem x4_5 (e : Env) (h : Heap) : exec cfg2 4 r4_5 e h = (ops cfg2 4 b4_5 (a4_5.toList) e h).bind (regEnd cfg2 4 5 false) := region_at _ _ _ _ _ _ _
def a4_6 : Array Oper := codeOps (codeAt [true, true, true, true, true, false, false] (Tryz.f4.body.getD .skip))
def b4_6 : Array Oper := a4_6
def r4_6 : Code := .region 6 a4_6 false
theorem x4_6 (e : Env) (h : Heap) : exec cfg2 4 r4_6 e h = (ops cfg2 4 b4_6 (a4_6.toList) e h).bind (regEnd cfg2 4 6 false) := region_at _ _ _ _ _ _ _
theorem g4_6_2 : (b4_6[2]?).bind (·.dst) = some 55 := by kernel_rfl
theorem g4_6_7 : (b4_6[7]?).bind (·.dst) = some 60 := by kernel_rfl
def a4_7 : Array Oper := codeOps (codeAt [true, true, true, true, true, false, true, false, false] (Tryz.f4.body.getD .skip))
def b4_7 : Array Oper := a4_7
def r4_7 : Code := .region 7 a4_7 false
theorem x4_7 (e : Env) (h : Heap) : exec cfg2 4 r4_7 e h = (ops cfg2 4 b4_7 (a4_7.toList) e h).bind (regEnd cfg2 4 7 false) := region_at _ _ _ _ _ _ _
def a4_8 : Array Oper := codeOps (codeAt [true, true, true, true, true, true, false] (Tryz.f4.body.getD .skip))
def b4_8 : Array Oper := a4_8
def r4_8 : Code := .region 8 a4_8 false
theorem x4_8 (e : Env) (h : Heap) : exec cfg2 4 r4_8 e h = (ops cfg2 4 b4_8 (a4_8.toList) e h).bind (regEnd cfg2 4 8 false) := region_at _ _ _ _ _ _ _
def a4_9 : Array Oper := codeOps (codeAt [true, true, true, true, true, true, true, false] (Tryz.f4.body.getD .skip))
def b4_9 : Array Oper := a4_9
def r4_9 : Code := .region 9 a4_9 false
theorem im4_66 : cfg2.imm 4 66 = true := by kernel_rfl
theorem x4_9 (e : Env) (h : Heap) : exec cfg2 4 r4_9 e h = (ops cfg2 4 b4_9 (a4_9.toList) e h).bind (regEnd cfg2 4 9 false) := region_at _ _ _ _ _ _ _
def a4_10 : Array Oper := codeOps (codeAt [true, true, true, true, true, true, true, true, false] (Tryz.f4.body.getD .skip))
def b4_10 : Array Oper := a4_10
def r4_10 : Code := .region 10 a4_10 true
theorem im4_74 : cfg2.imm 4 74 = true := by kernel_rfl
theorem s4_10 : sched a4_10 true = a4_10.toList := by kernel_rfl
theorem x4_10 (e : Env) (h : Heap) : exec cfg2 4 r4_10 e h = (ops cfg2 4 b4_10 (a4_10.toList) e h).bind (regEnd cfg2 4 10 true) := (region_at _ _ _ _ _ _ _).trans (by rw [s4_10]; rfl)
def a4_11 : Array Oper := codeOps (codeAt [true, true, true, true, true, true, true, true, true, false] (Tryz.f4.body.getD .skip))
def b4_11 : Array Oper := a4_11
def r4_11 : Code := .region 11 a4_11 false
theorem x4_11 (e : Env) (h : Heap) : exec cfg2 4 r4_11 e h = (ops cfg2 4 b4_11 (a4_11.toList) e h).bind (regEnd cfg2 4 11 false) := region_at _ _ _ _ _ _ _
def a4_12 : Array Oper := codeOps (codeAt [true, true, true, true, true, true, true, true, true, true, false, false] (Tryz.f4.body.getD .skip))
def b4_12 : Array Oper := a4_12
def r4_12 : Code := .region 12 a4_12 false
theorem x4_12 (e : Env) (h : Heap) : exec cfg2 4 r4_12 e h = (ops cfg2 4 b4_12 (a4_12.toList) e h).bind (regEnd cfg2 4 12 false) := region_at _ _ _ _ _ _ _
def a4_13 : Array Oper := codeOps (codeAt [true, true, true, true, true, true, true, true, true, true, false, true, false, false] (Tryz.f4.body.getD .skip))
def b4_13 : Array Oper := a4_13
def r4_13 : Code := .region 13 a4_13 false
theorem x4_13 (e : Env) (h : Heap) : exec cfg2 4 r4_13 e h = (ops cfg2 4 b4_13 (a4_13.toList) e h).bind (regEnd cfg2 4 13 false) := region_at _ _ _ _ _ _ _
def a4_14 : Array Oper := codeOps (codeAt [true, true, true, true, true, true, true, true, true, true, true, false] (Tryz.f4.body.getD .skip))
def b4_14 : Array Oper := a4_14
def r4_14 : Code := .region 14 a4_14 true
theorem s4_14 : sched a4_14 true = a4_14.toList := by kernel_rfl
theorem x4_14 (e : Env) (h : Heap) : exec cfg2 4 r4_14 e h = (ops cfg2 4 b4_14 (a4_14.toList) e h).bind (regEnd cfg2 4 14 true) := (region_at _ _ _ _ _ _ _).trans (by rw [s4_14]; rfl)
def a4_15 : Array Oper := codeOps (codeAt [true, true, true, true, true, true, true, true, true, true, true, true, false] (Tryz.f4.body.getD .skip))
def b4_15 : Array Oper := a4_15
def r4_15 : Code := .region 15 a4_15 false
theorem x4_15 (e : Env) (h : Heap) : exec cfg2 4 r4_15 e h = (ops cfg2 4 b4_15 (a4_15.toList) e h).bind (regEnd cfg2 4 15 false) := region_at _ _ _ _ _ _ _
def a4_16 : Array Oper := codeOps (codeAt [true, true, true, true, true, true, true, true, true, true, true, true, true, false, false] (Tryz.f4.body.getD .skip))
def b4_16 : Array Oper := a4_16
def r4_16 : Code := .region 16 a4_16 false
theorem x4_16 (e : Env) (h : Heap) : exec cfg2 4 r4_16 e h = (ops cfg2 4 b4_16 (a4_16.toList) e h).bind (regEnd cfg2 4 16 false) := region_at _ _ _ _ _ _ _
def a4_17 : Array Oper := codeOps (codeAt [true, true, true, true, true, true, true, true, true, true, true, true, true, false, true, false, false] (Tryz.f4.body.getD .skip))
def b4_17 : Array Oper := a4_17
def r4_17 : Code := .region 17 a4_17 false
theorem x4_17 (e : Env) (h : Heap) : exec cfg2 4 r4_17 e h = (ops cfg2 4 b4_17 (a4_17.toList) e h).bind (regEnd cfg2 4 17 false) := region_at _ _ _ _ _ _ _
def a4_18 : Array Oper := codeOps (codeAt [true, true, true, true, true, true, true, true, true, true, true, true, true, true, false, false] (Tryz.f4.body.getD .skip))
def b4_18 : Array Oper := a4_18
def r4_18 : Code := .region 18 a4_18 false
theorem x4_18 (e : Env) (h : Heap) : exec cfg2 4 r4_18 e h = (ops cfg2 4 b4_18 (a4_18.toList) e h).bind (regEnd cfg2 4 18 false) := region_at _ _ _ _ _ _ _
def a4_19 : Array Oper := codeOps (codeAt [true, true, true, true, true, true, true, true, true, true, true, true, true, true, false, true, false, false, false, false] (Tryz.f4.body.getD .skip))
def b4_19 : Array Oper := a4_19
def r4_19 : Code := .region 19 a4_19 false
theorem x4_19 (e : Env) (h : Heap) : exec cfg2 4 r4_19 e h = (ops cfg2 4 b4_19 (a4_19.toList) e h).bind (regEnd cfg2 4 19 false) := region_at _ _ _ _ _ _ _
def a4_21 : Array Oper := codeOps (codeAt [true, true, true, true, true, true, true, true, true, true, true, true, true, true, false, true, false, false, true, false, false, false, false] (Tryz.f4.body.getD .skip))
def b4_21 : Array Oper := a4_21
def r4_21 : Code := .region 21 a4_21 false
theorem x4_21 (e : Env) (h : Heap) : exec cfg2 4 r4_21 e h = (ops cfg2 4 b4_21 (a4_21.toList) e h).bind (regEnd cfg2 4 21 false) := region_at _ _ _ _ _ _ _
def a4_22 : Array Oper := codeOps (codeAt [true, true, true, true, true, true, true, true, true, true, true, true, true, true, false, true, false, false, true, false, false, false, true, false, false, false, false] (Tryz.f4.body.getD .skip))
def b4_22 : Array Oper := a4_22
def r4_22 : Code := .region 22 a4_22 false
theorem x4_22 (e : Env) (h : Heap) : exec cfg2 4 r4_22 e h = (ops cfg2 4 b4_22 (a4_22.toList) e h).bind (regEnd cfg2 4 22 false) := region_at _ _ _ _ _ _ _
def a4_24 : Array Oper := codeOps (codeAt [true, true, true, true, true, true, true, true, true, true, true, true, true, true, false, true, false, false, true, false, false, false, true, false, false, true, false, false, false] (Tryz.f4.body.getD .skip))
def b4_24 : Array Oper := a4_24
def r4_24 : Code := .region 24 a4_24 true
theorem s4_24 : sched a4_24 true = a4_24.toList := by kernel_rfl
theorem x4_24 (e : Env) (h : Heap) : exec cfg2 4 r4_24 e h = (ops cfg2 4 b4_24 (a4_24.toList) e h).bind (regEnd cfg2 4 24 true) := (region_at _ _ _ _ _ _ _).trans (by rw [s4_24]; rfl)
def a4_25 : Array Oper := codeOps (codeAt [true, true, true, true, true, true, true, true, true, true, true, true, true, true, false, true, false, false, true, false, false, false, true, false, false, true, false, false, true, false, false] (Tryz.f4.body.getD .skip))
def b4_25 : Array Oper := a4_25
def r4_25 : Code := .region 25 a4_25 false
theorem x4_25 (e : Env) (h : Heap) : exec cfg2 4 r4_25 e h = (ops cfg2 4 b4_25 (a4_25.toList) e h).bind (regEnd cfg2 4 25 false) := region_at _ _ _ _ _ _ _
def a4_23 : Array Oper := codeOps (codeAt [true, true, true, true, true, true, true, true, true, true, true, true, true, true, false, true, false, false, true, false, false, false, true, false, false, true, true] (Tryz.f4.body.getD .skip))
def b4_23 : Array Oper := a4_23
def r4_23 : Code := .region 23 a4_23 false
theorem x4_23 (e : Env) (h : Heap) : exec cfg2 4 r4_23 e h = (ops cfg2 4 b4_23 (a4_23.toList) e h).bind (regEnd cfg2 4 23 false) := region_at _ _ _ _ _ _ _
def a4_26 : Array Oper := codeOps (codeAt [true, true, true, true, true, true, true, true, true, true, true, true, true, true, false, true, false, false, true, false, false, true, false, false] (Tryz.f4.body.getD .skip))
def b4_26 : Array Oper := a4_26
def r4_26 : Code := .region 26 a4_26 false
theorem x4_26 (e : Env) (h : Heap) : exec cfg2 4 r4_26 e h = (ops cfg2 4 b4_26 (a4_26.toList) e h).bind (regEnd cfg2 4 26 false) := region_at _ _ _ _ _ _ _
def a4_27 : Array Oper := codeOps (codeAt [true, true, true, true, true, true, true, true, true, true, true, true, true, true, false, true, false, false, true, false, false, true, false, true, false, false, false, false] (Tryz.f4.body.getD .skip))
def b4_27 : Array Oper := a4_27
def r4_27 : Code := .region 27 a4_27 false
theorem x4_27 (e : Env) (h : Heap) : exec cfg2 4 r4_27 e h = (ops cfg2 4 b4_27 (a4_27.toList) e h).bind (regEnd cfg2 4 27 false) := region_at _ _ _ _ _ _ _
def a4_29 : Array Oper := codeOps (codeAt [true, true, true, true, true, true, true, true, true, true, true, true, true, true, false, true, false, false, true, false, false, true, false, true, false, false, true, false, false, false] (Tryz.f4.body.getD .skip))
def b4_29 : Array Oper := a4_29
def r4_29 : Code := .region 29 a4_29 true
theorem s4_29 : sched a4_29 true = a4_29.toList := by kernel_rfl
theorem x4_29 (e : Env) (h : Heap) : exec cfg2 4 r4_29 e h = (ops cfg2 4 b4_29 (a4_29.toList) e h).bind (regEnd cfg2 4 29 true) := (region_at _ _ _ _ _ _ _).trans (by rw [s4_29]; rfl)
def a4_30 : Array Oper := codeOps (codeAt [true, true, true, true, true, true, true, true, true, true, true, true, true, true, false, true, false, false, true, false, false, true, false, true, false, false, true, false, false, true, false, false] (Tryz.f4.body.getD .skip))
def b4_30 : Array Oper := a4_30
def r4_30 : Code := .region 30 a4_30 false
theorem x4_30 (e : Env) (h : Heap) : exec cfg2 4 r4_30 e h = (ops cfg2 4 b4_30 (a4_30.toList) e h).bind (regEnd cfg2 4 30 false) := region_at _ _ _ _ _ _ _
def a4_28 : Array Oper := codeOps (codeAt [true, true, true, true, true, true, true, true, true, true, true, true, true, true, false, true, false, false, true, false, false, true, false, true, false, false, true, true] (Tryz.f4.body.getD .skip))
def b4_28 : Array Oper := a4_28
def r4_28 : Code := .region 28 a4_28 false
theorem x4_28 (e : Env) (h : Heap) : exec cfg2 4 r4_28 e h = (ops cfg2 4 b4_28 (a4_28.toList) e h).bind (regEnd cfg2 4 28 false) := region_at _ _ _ _ _ _ _
def a4_31 : Array Oper := codeOps (codeAt [true, true, true, true, true, true, true, true, true, true, true, true, true, true, false, true, false, false, true, false, false, true, true, false] (Tryz.f4.body.getD .skip))
def b4_31 : Array Oper := a4_31
def r4_31 : Code := .region 31 a4_31 false
theorem x4_31 (e : Env) (h : Heap) : exec cfg2 4 r4_31 e h = (ops cfg2 4 b4_31 (a4_31.toList) e h).bind (regEnd cfg2 4 31 false) := region_at _ _ _ _ _ _ _
def a4_32 : Array Oper := codeOps (codeAt [true, true, true, true, true, true, true, true, true, true, true, true, true, true, false, true, false, false, true, false, false, true, true, true, false, false, false, false] (Tryz.f4.body.getD .skip))
def b4_32 : Array Oper := a4_32
def r4_32 : Code := .region 32 a4_32 false
theorem x4_32 (e : Env) (h : Heap) : exec cfg2 4 r4_32 e h = (ops cfg2 4 b4_32 (a4_32.toList) e h).bind (regEnd cfg2 4 32 false) := region_at _ _ _ _ _ _ _
def a4_34 : Array Oper := codeOps (codeAt [true, true, true, true, true, true, true, true, true, true, true, true, true, true, false, true, false, false, true, false, false, true, true, true, false, false, true, false, false, false] (Tryz.f4.body.getD .skip))
def b4_34 : Array Oper := a4_34
def r4_34 : Code := .region 34 a4_34 true
theorem s4_34 : sched a4_34 true = a4_34.toList := by kernel_rfl
theorem x4_34 (e : Env) (h : Heap) : exec cfg2 4 r4_34 e h = (ops cfg2 4 b4_34 (a4_34.toList) e h).bind (regEnd cfg2 4 34 true) := (region_at _ _ _ _ _ _ _).trans (by rw [s4_34]; rfl)
def a4_35 : Array Oper := codeOps (codeAt [true, true, true, true, true, true, true, true, true, true, true, true, true, true, false, true, false, false, true, false, false, true, true, true, false, false, true, false, false, true, false, false] (Tryz.f4.body.getD .skip))
def b4_35 : Array Oper := a4_35
def r4_35 : Code := .region 35 a4_35 false
theorem x4_35 (e : Env) (h : Heap) : exec cfg2 4 r4_35 e h = (ops cfg2 4 b4_35 (a4_35.toList) e h).bind (regEnd cfg2 4 35 false) := region_at _ _ _ _ _ _ _
def a4_33 : Array Oper := codeOps (codeAt [true, true, true, true, true, true, true, true, true, true, true, true, true, true, false, true, false, false, true, false, false, true, true, true, false, false, true, true] (Tryz.f4.body.getD .skip))
def b4_33 : Array Oper := a4_33
def r4_33 : Code := .region 33 a4_33 false
theorem x4_33 (e : Env) (h : Heap) : exec cfg2 4 r4_33 e h = (ops cfg2 4 b4_33 (a4_33.toList) e h).bind (regEnd cfg2 4 33 false) := region_at _ _ _ _ _ _ _
def a4_20 : Array Oper := codeOps (codeAt [true, true, true, true, true, true, true, true, true, true, true, true, true, true, false, true, false, false, true, true] (Tryz.f4.body.getD .skip))
def b4_20 : Array Oper := a4_20
def r4_20 : Code := .region 20 a4_20 false
theorem x4_20 (e : Env) (h : Heap) : exec cfg2 4 r4_20 e h = (ops cfg2 4 b4_20 (a4_20.toList) e h).bind (regEnd cfg2 4 20 false) := region_at _ _ _ _ _ _ _
def a4_36 : Array Oper := codeOps (codeAt [true, true, true, true, true, true, true, true, true, true, true, true, true, true, true, false] (Tryz.f4.body.getD .skip))
def b4_36 : Array Oper := a4_36
def r4_36 : Code := .region 36 a4_36 false
theorem x4_36 (e : Env) (h : Heap) : exec cfg2 4 r4_36 e h = (ops cfg2 4 b4_36 (a4_36.toList) e h).bind (regEnd cfg2 4 36 false) := region_at _ _ _ _ _ _ _
def l4_3 : Code := (.seq (.seq r4_32 (.cond (.tmp 177) .skip (.exit 6))) (.seq (.block 7 (.seq r4_34 (.cond (.tmp 194) (.seq r4_35 .ret) .skip))) r4_33))
def l4_2 : Code := (.seq (.seq r4_27 (.cond (.tmp 152) .skip (.exit 4))) (.seq (.block 5 (.seq r4_29 (.cond (.tmp 169) (.seq r4_30 .ret) .skip))) r4_28))
def l4_1 : Code := (.seq (.seq r4_22 (.cond (.tmp 127) .skip (.exit 2))) (.seq (.block 3 (.seq r4_24 (.cond (.tmp 144) (.seq r4_25 .ret) .skip))) r4_23))
def l4_0 : Code := (.seq (.seq r4_19 (.cond (.tmp 117) .skip (.exit 0))) (.seq (.block 1 (.seq (.seq r4_21 (.block 2 (.loop l4_1))) (.seq (.seq r4_26 (.block 4 (.loop l4_2))) (.seq r4_31 (.block 6 (.loop l4_3)))))) r4_20))
def k4 : Code := (.seq r4_0 (.seq (.seq r4_1 (.cond (.tmp 32) (.seq r4_2 .ret) .skip)) (.seq r4_3 (.seq r4_4 (.seq r4_5 (.seq (.seq r4_6 (.cond (.tmp 64) (.seq r4_7 .ret) .skip)) (.seq r4_8 (.seq r4_9 (.seq r4_10 (.seq r4_11 (.seq (.seq r4_12 (.cond (.tmp 91) (.seq r4_13 .ret) .skip)) (.seq r4_14 (.seq r4_15 (.seq (.seq r4_16 (.cond (.tmp 112) (.seq r4_17 .ret) .skip)) (.seq (.seq r4_18 (.block 0 (.loop l4_0))) (.seq r4_36 .ret))))))))))))))))
theorem body4 : Tryz.f4.body = some k4 := by kernel_rfl
theorem call4 (x0 x1 x2 : AV) (h : Heap) : call cfg2 4 [x0, x1, x2] h = (exec cfg2 4 k4 [(0, x0), (1, x1), (2, x2)] h).bind (callEnd cfg2 4 h [.tmp 6]) := call_at2 (fnat2 Tryz.func4 body4 (by rw [← ok4]; kernel_rfl)) rfl rfl
theorem eqb_ptr (o a g : Nat) : AV.eqb (.ptr o a g) (.ptr o a g) = true := by simp [AV.eqb]
theorem eqb_msl (o a l z g : Nat) (c : Option Nat) : AV.eqb (.msl o a l z g c) (.msl o a l z g c) = true := by simp [AV.eqb]
theorem lb76_0 (e : Env) (h : Heap) : looseB cfg2 4 b4_10 e h 0 = (((known (e.get 11)).bind fun x => fieldAddrA cfg2 h 26 x 2).map fun v => AV.eqb v (e.get 71)).getD false := by
  simp only [looseB, b4_10, a4_10, Tryz.f4, codeAt_nil, codeAt_seq0, codeAt_seq1, codeAt_cond0, codeAt_cond1, codeAt_block, codeAt_loop, codeOps_region, Option.getD_some, List.getElem?_toArray, List.getElem?_cons_zero]
  simp only [wantA, opA, evalA_tmp, Option.bind_eq_bind]
  cases known (e.get 11) with
  | none => rfl
  | some x =>
    simp only [Option.bind_some]
    cases fieldAddrA cfg2 h 26 x 2 <;> rfl
theorem lb76_1 (e : Env) (h : Heap) : looseB cfg2 4 b4_10 e h 1 = (((known (e.get 71)).bind fun x => loadA cfg2 h 24 x).map fun v => AV.eqb v (e.get 72)).getD false := by
  simp only [looseB, b4_10, a4_10, Tryz.f4, codeAt_nil, codeAt_seq0, codeAt_seq1, codeAt_cond0, codeAt_cond1, codeAt_block, codeAt_loop, codeOps_region, Option.getD_some, List.getElem?_toArray, List.getElem?_cons_zero, List.getElem?_cons_succ]
  simp only [wantA, opA, evalA_tmp, Option.bind_eq_bind, qt_eq2]
  cases known (e.get 71) with
  | none => rfl
  | some x =>
    simp only [Option.bind_some]
    cases loadA cfg2 h 24 x <;> rfl
theorem sx_76 {ty : TypeId} {ps : String} {af : Array Edge} {r : List Oper} {e : Env} {h : Heap} (x y : Operand) (t : TypeId) :
    ops cfg2 4 b4_10 (⟨some 76, .call { callee := .builtin .append, args := #[x, y], argTypes := #[t, t] }, ty, ps, af, none⟩ :: r) e h = (evalA cfg2 e x).bind fun x => (evalA cfg2 e y).bind fun y => (cfg2.ty t).bind fun ti => match ti.td with
    | .slice el => (cfg2.ty el).bind fun te => (elems h y).bind fun ys => (appendA h te.size x ys).bind fun v =>
      if (((known (e.get 11)).bind fun x => fieldAddrA cfg2 v.2 26 x 2).map fun v => AV.eqb v (e.get 71)).getD false && (((known (e.get 71)).bind fun x => loadA cfg2 v.2 24 x).map fun v => AV.eqb v (e.get 72)).getD false then ops cfg2 4 b4_10 r (e.put 76 v.1) v.2 else none
    | _ => none := by
  rw [ops_cons]
  have hl : ∀ h, looseAll cfg2 4 b4_10 (some 76) e h = ((((known (e.get 11)).bind fun x => fieldAddrA cfg2 h 26 x 2).map fun v => AV.eqb v (e.get 71)).getD false && (((known (e.get 71)).bind fun x => loadA cfg2 h 24 x).map fun v => AV.eqb v (e.get 72)).getD false) := fun h => by
    simp only [looseAll, lo4_76, lo2, List.all_cons, List.all_nil, Bool.and_true, lb76_0, lb76_1]
  simp only [hl, wantA, callee, Option.bind_some, opA, mapO, Option.bind_eq_bind, Option.bind_assoc, bne_self_eq_false, Bool.false_eq_true, if_false]
  congr 1
  funext x
  congr 1
  funext y
  congr 1
  funext ti
  cases ti.td <;> simp only [Option.bind_some, Option.bind_none, Option.bind_assoc] <;> rfl
end
end Go.Proofs.Sx

/-
  The law CallsLess answers true: the three inner loops, the outer one.
-/
set_option linter.unusedSimpArgs false
set_option linter.unusedVariables false
set_option maxRecDepth 100000
set_option maxHeartbeats 8000000
namespace Go.Proofs.Sx
open Go.Rv Go.Proofs
attribute [local congr] bind_left got_left
noncomputable section
section
variable (p : SProg) (H : Heap) (hn : noLoop H = true) (esp0 esp1 esp2 esp3 esq0 esq1 esq2 esq3 : List AV) (zp0 zp1 zp2 zp3 zq0 zq1 zq2 zq3 : Nat) (rp0 rp1 rp2 rp3 rq0 rq1 rq2 rq3 : Room) (rowp rowq : AV)
  (hob0 : Heap.obj H 0 0 = some [.lst esp0 zp0 rp0, .lst esp1 zp1 rp1, .lst esp2 zp2 rp2, .lst esp3 zp3 rp3, rowp]) (hl0 : Heap.live H 0 0 = true)
  (hob4 : Heap.obj H 4 0 = some [.lst esq0 zq0 rq0, .lst esq1 zq1 rq1, .lst esq2 zq2 rq2, .lst esq3 zq3 rq3, rowq]) (hl4 : Heap.live H 4 0 = true)
  (a : Nat) (x0 x1 x2 t6 t8 t9 t10 t11 t12 t14 t16 t17 t18 t32 t64 t91 t112 t117 t127 t144 t152 t169 t177 t194 : AV) (y0 y1 : Nat) (s0 s1 : Room)
include hn hob0 hl0 hob4 hl4 in
theorem less_in0 (A B : List Int) (hA : esp0[a]? = some (.lst (intL A) y0 s0)) (hB : esq0[a]? = some (.lst (intL B) y1 s1)) (hsub : ∀ j ∈ B, j ∈ A) (nA : A.length < 1000000000) (nB : B.length < 1000000000) :
    ∀ (ys : List Int) (i : Nat), B.drop i = ys → i ≤ B.length → ∀ t127 t144,
    Got (exec cfg2 4 (.loop l4_1) [(0, x0), (1, x1), (2, x2), (3, .ref p.cells), (6, t6), (7, .ptr 0 0 0), (8, t8), (9, t9), (10, t10), (11, t11), (12, t12), (13, .ptr 4 0 0), (14, t14), (15, .int .i64 a), (16, .int .i64 i), (17, t17), (18, t18), (32, t32), (64, t64), (91, t91), (112, t112), (117, t117), (127, t127), (144, t144), (152, t152), (169, t169), (177, t177), (194, t194)] H)
      (fun q => q.1 = .exit 2 ∧ q.2.2 = H ∧ ∃ t16 t127 t144, q.2.1 = [(0, x0), (1, x1), (2, x2), (3, .ref p.cells), (6, t6), (7, .ptr 0 0 0), (8, t8), (9, t9), (10, t10), (11, t11), (12, t12), (13, .ptr 4 0 0), (14, t14), (15, .int .i64 a), (16, t16), (17, t17), (18, t18), (32, t32), (64, t64), (91, t91), (112, t112), (117, t117), (127, t127), (144, t144), (152, t152), (169, t169), (177, t177), (194, t194)]) := by
  intro ys
  induction ys with
  | nil =>
    intro i hd hi t127 t144
    have i1 := idx_ll H hB (z := zq0) (r := rq0)
    rw [got_loop]
    simp only [l4_1, k4, Tryz.f4, regEnd_nrm (lv4 _), pu4, x4_0, a4_0, im4_3, x4_1, a4_1, sx_guardO g4_1_2, sx_guardO g4_1_8, x4_2, a4_2, x4_3, a4_3, x4_4, a4_4, x4_5, a4_5, x4_6, a4_6, sx_guardO g4_6_2, sx_guardO g4_6_7, x4_7, a4_7, x4_8, a4_8, x4_9, a4_9, im4_66, x4_10, a4_10, im4_74, x4_11, a4_11, x4_12, a4_12, x4_13, a4_13, x4_14, a4_14, x4_15, a4_15, x4_16, a4_16, x4_17, a4_17, x4_18, a4_18, x4_19, a4_19, x4_21, a4_21, x4_22, a4_22, x4_24, a4_24, x4_25, a4_25, x4_23, a4_23, x4_26, a4_26, x4_27, a4_27, x4_29, a4_29, x4_30, a4_30, x4_28, a4_28, x4_31, a4_31, x4_32, a4_32, x4_34, a4_34, x4_35, a4_35, x4_33, a4_33, x4_20, a4_20, x4_36, a4_36, sxAll, arithA, Nat.reduceEqDiff, Env.keep, qt_eq, isAlloc, resultsA, packA, storeA, fieldA, indexA, unA, fieldAddrA, Rv.part, cellsAt, TD.isAgg, convH, convA, buildA, fillA, setCells, copies, optA, boundA, mapO, ↓Option.bind_some, ↓Option.bind_none, Nat.reduceBEq, Nat.reduceAdd, Nat.reduceMul, Nat.reduceLeDiff, Nat.reduceSub, Nat.reduceLT, Nat.reduceGT, Int.reduceBEq, Int.reduceLT, Int.reduceLE, bne, ↓reduceIte, qt_eq2, cfg2_ty, ix2, ld2, load_ptr, load_ll, lenA_lst, intL_len, i1, hob4, hl4, ty28, ty29, ty31, at_end hd]
    exact ⟨trivial, trivial, _, _, _, rfl⟩
  | cons y ys ih =>
    intro i hd hi t127 t144
    obtain ⟨hlt, hget, hd'⟩ := at_drop hd
    have hw := wrap_succ (i := i) (by omega)
    have i0 := idx_ll H hA (z := zp0) (r := rp0)
    have i1 := idx_ll H hB (z := zq0) (r := rq0)
    have i2 := fun H => idx_ints H B y1 s1 i y hget
    have hh := has2 A y y0 s0 H hn nA
    have hm : decide (y ∈ A) = true := by simp; exact hsub y (List.mem_of_getElem? hget)
    rw [hm] at hh
    have := ih (i + 1) hd' (by simp at hlt; omega)
    rw [got_loop]
    simp only [l4_1] at this ⊢
    simp only [k4, Tryz.f4, regEnd_nrm (lv4 _), pu4, x4_0, a4_0, im4_3, x4_1, a4_1, sx_guardO g4_1_2, sx_guardO g4_1_8, x4_2, a4_2, x4_3, a4_3, x4_4, a4_4, x4_5, a4_5, x4_6, a4_6, sx_guardO g4_6_2, sx_guardO g4_6_7, x4_7, a4_7, x4_8, a4_8, x4_9, a4_9, im4_66, x4_10, a4_10, im4_74, x4_11, a4_11, x4_12, a4_12, x4_13, a4_13, x4_14, a4_14, x4_15, a4_15, x4_16, a4_16, x4_17, a4_17, x4_18, a4_18, x4_19, a4_19, x4_21, a4_21, x4_22, a4_22, x4_24, a4_24, x4_25, a4_25, x4_23, a4_23, x4_26, a4_26, x4_27, a4_27, x4_29, a4_29, x4_30, a4_30, x4_28, a4_28, x4_31, a4_31, x4_32, a4_32, x4_34, a4_34, x4_35, a4_35, x4_33, a4_33, x4_20, a4_20, x4_36, a4_36, sxAll, arithA, Nat.reduceEqDiff, Env.keep, qt_eq, isAlloc, resultsA, packA, storeA, fieldA, indexA, unA, fieldAddrA, Rv.part, cellsAt, TD.isAgg, convH, convA, buildA, fillA, setCells, copies, optA, boundA, mapO, ↓Option.bind_some, ↓Option.bind_none, Nat.reduceBEq, Nat.reduceAdd, Nat.reduceMul, Nat.reduceLeDiff, Nat.reduceSub, Nat.reduceLT, Nat.reduceGT, Int.reduceBEq, Int.reduceLT, Int.reduceLE, bne, ↓reduceIte, qt_eq2, cfg2_ty, ix2, ld2, load_ptr, load_ll, load_ints, lenA_lst, intL_len, i0, i1, i2, hob0, hl0, hob4, hl4, hh, pu2_8, ty28, ty29, ty3, ty31, hlt, hw] at this ⊢
    exact this _ _
include hn hob0 hl0 hob4 hl4 in
theorem less_in2 (A B : List Int) (hA : esp2[a]? = some (.lst (intL A) y0 s0)) (hB : esq2[a]? = some (.lst (intL B) y1 s1)) (hsub : ∀ j ∈ B, j ∈ A) (nA : A.length < 1000000000) (nB : B.length < 1000000000) :
    ∀ (ys : List Int) (i : Nat), B.drop i = ys → i ≤ B.length → ∀ t152 t169,
    Got (exec cfg2 4 (.loop l4_2) [(0, x0), (1, x1), (2, x2), (3, .ref p.cells), (6, t6), (7, .ptr 0 0 0), (8, t8), (9, t9), (10, t10), (11, t11), (12, t12), (13, .ptr 4 0 0), (14, t14), (15, .int .i64 a), (16, t16), (17, .int .i64 i), (18, t18), (32, t32), (64, t64), (91, t91), (112, t112), (117, t117), (127, t127), (144, t144), (152, t152), (169, t169), (177, t177), (194, t194)] H)
      (fun q => q.1 = .exit 4 ∧ q.2.2 = H ∧ ∃ t17 t152 t169, q.2.1 = [(0, x0), (1, x1), (2, x2), (3, .ref p.cells), (6, t6), (7, .ptr 0 0 0), (8, t8), (9, t9), (10, t10), (11, t11), (12, t12), (13, .ptr 4 0 0), (14, t14), (15, .int .i64 a), (16, t16), (17, t17), (18, t18), (32, t32), (64, t64), (91, t91), (112, t112), (117, t117), (127, t127), (144, t144), (152, t152), (169, t169), (177, t177), (194, t194)]) := by
  intro ys
  induction ys with
  | nil =>
    intro i hd hi t152 t169
    have i1 := idx_ll H hB (z := zq2) (r := rq2)
    rw [got_loop]
    simp only [l4_2, k4, Tryz.f4, regEnd_nrm (lv4 _), pu4, x4_0, a4_0, im4_3, x4_1, a4_1, sx_guardO g4_1_2, sx_guardO g4_1_8, x4_2, a4_2, x4_3, a4_3, x4_4, a4_4, x4_5, a4_5, x4_6, a4_6, sx_guardO g4_6_2, sx_guardO g4_6_7, x4_7, a4_7, x4_8, a4_8, x4_9, a4_9, im4_66, x4_10, a4_10, im4_74, x4_11, a4_11, x4_12, a4_12, x4_13, a4_13, x4_14, a4_14, x4_15, a4_15, x4_16, a4_16, x4_17, a4_17, x4_18, a4_18, x4_19, a4_19, x4_21, a4_21, x4_22, a4_22, x4_24, a4_24, x4_25, a4_25, x4_23, a4_23, x4_26, a4_26, x4_27, a4_27, x4_29, a4_29, x4_30, a4_30, x4_28, a4_28, x4_31, a4_31, x4_32, a4_32, x4_34, a4_34, x4_35, a4_35, x4_33, a4_33, x4_20, a4_20, x4_36, a4_36, sxAll, arithA, Nat.reduceEqDiff, Env.keep, qt_eq, isAlloc, resultsA, packA, storeA, fieldA, indexA, unA, fieldAddrA, Rv.part, cellsAt, TD.isAgg, convH, convA, buildA, fillA, setCells, copies, optA, boundA, mapO, ↓Option.bind_some, ↓Option.bind_none, Nat.reduceBEq, Nat.reduceAdd, Nat.reduceMul, Nat.reduceLeDiff, Nat.reduceSub, Nat.reduceLT, Nat.reduceGT, Int.reduceBEq, Int.reduceLT, Int.reduceLE, bne, ↓reduceIte, qt_eq2, cfg2_ty, ix2, ld2, load_ptr, load_ll, lenA_lst, intL_len, i1, hob4, hl4, ty28, ty29, ty31, at_end hd]
    exact ⟨trivial, trivial, _, _, _, rfl⟩
  | cons y ys ih =>
    intro i hd hi t152 t169
    obtain ⟨hlt, hget, hd'⟩ := at_drop hd
    have hw := wrap_succ (i := i) (by omega)
    have i0 := idx_ll H hA (z := zp2) (r := rp2)
    have i1 := idx_ll H hB (z := zq2) (r := rq2)
    have i2 := fun H => idx_ints H B y1 s1 i y hget
    have hh := has2 A y y0 s0 H hn nA
    have hm : decide (y ∈ A) = true := by simp; exact hsub y (List.mem_of_getElem? hget)
    rw [hm] at hh
    have := ih (i + 1) hd' (by simp at hlt; omega)
    rw [got_loop]
    simp only [l4_2] at this ⊢
    simp only [k4, Tryz.f4, regEnd_nrm (lv4 _), pu4, x4_0, a4_0, im4_3, x4_1, a4_1, sx_guardO g4_1_2, sx_guardO g4_1_8, x4_2, a4_2, x4_3, a4_3, x4_4, a4_4, x4_5, a4_5, x4_6, a4_6, sx_guardO g4_6_2, sx_guardO g4_6_7, x4_7, a4_7, x4_8, a4_8, x4_9, a4_9, im4_66, x4_10, a4_10, im4_74, x4_11, a4_11, x4_12, a4_12, x4_13, a4_13, x4_14, a4_14, x4_15, a4_15, x4_16, a4_16, x4_17, a4_17, x4_18, a4_18, x4_19, a4_19, x4_21, a4_21, x4_22, a4_22, x4_24, a4_24, x4_25, a4_25, x4_23, a4_23, x4_26, a4_26, x4_27, a4_27, x4_29, a4_29, x4_30, a4_30, x4_28, a4_28, x4_31, a4_31, x4_32, a4_32, x4_34, a4_34, x4_35, a4_35, x4_33, a4_33, x4_20, a4_20, x4_36, a4_36, sxAll, arithA, Nat.reduceEqDiff, Env.keep, qt_eq, isAlloc, resultsA, packA, storeA, fieldA, indexA, unA, fieldAddrA, Rv.part, cellsAt, TD.isAgg, convH, convA, buildA, fillA, setCells, copies, optA, boundA, mapO, ↓Option.bind_some, ↓Option.bind_none, Nat.reduceBEq, Nat.reduceAdd, Nat.reduceMul, Nat.reduceLeDiff, Nat.reduceSub, Nat.reduceLT, Nat.reduceGT, Int.reduceBEq, Int.reduceLT, Int.reduceLE, bne, ↓reduceIte, qt_eq2, cfg2_ty, ix2, ld2, load_ptr, load_ll, load_ints, lenA_lst, intL_len, i0, i1, i2, hob0, hl0, hob4, hl4, hh, pu2_8, ty28, ty29, ty3, ty31, hlt, hw] at this ⊢
    exact this _ _
include hn hob0 hl0 hob4 hl4 in
theorem less_in3 (A B : List Int) (hA : esp3[a]? = some (.lst (intL A) y0 s0)) (hB : esq3[a]? = some (.lst (intL B) y1 s1)) (hsub : ∀ j ∈ B, j ∈ A) (nA : A.length < 1000000000) (nB : B.length < 1000000000) :
    ∀ (ys : List Int) (i : Nat), B.drop i = ys → i ≤ B.length → ∀ t177 t194,
    Got (exec cfg2 4 (.loop l4_3) [(0, x0), (1, x1), (2, x2), (3, .ref p.cells), (6, t6), (7, .ptr 0 0 0), (8, t8), (9, t9), (10, t10), (11, t11), (12, t12), (13, .ptr 4 0 0), (14, t14), (15, .int .i64 a), (16, t16), (17, t17), (18, .int .i64 i), (32, t32), (64, t64), (91, t91), (112, t112), (117, t117), (127, t127), (144, t144), (152, t152), (169, t169), (177, t177), (194, t194)] H)
      (fun q => q.1 = .exit 6 ∧ q.2.2 = H ∧ ∃ t18 t177 t194, q.2.1 = [(0, x0), (1, x1), (2, x2), (3, .ref p.cells), (6, t6), (7, .ptr 0 0 0), (8, t8), (9, t9), (10, t10), (11, t11), (12, t12), (13, .ptr 4 0 0), (14, t14), (15, .int .i64 a), (16, t16), (17, t17), (18, t18), (32, t32), (64, t64), (91, t91), (112, t112), (117, t117), (127, t127), (144, t144), (152, t152), (169, t169), (177, t177), (194, t194)]) := by
  intro ys
  induction ys with
  | nil =>
    intro i hd hi t177 t194
    have i1 := idx_ll H hB (z := zq3) (r := rq3)
    rw [got_loop]
    simp only [l4_3, k4, Tryz.f4, regEnd_nrm (lv4 _), pu4, x4_0, a4_0, im4_3, x4_1, a4_1, sx_guardO g4_1_2, sx_guardO g4_1_8, x4_2, a4_2, x4_3, a4_3, x4_4, a4_4, x4_5, a4_5, x4_6, a4_6, sx_guardO g4_6_2, sx_guardO g4_6_7, x4_7, a4_7, x4_8, a4_8, x4_9, a4_9, im4_66, x4_10, a4_10, im4_74, x4_11, a4_11, x4_12, a4_12, x4_13, a4_13, x4_14, a4_14, x4_15, a4_15, x4_16, a4_16, x4_17, a4_17, x4_18, a4_18, x4_19, a4_19, x4_21, a4_21, x4_22, a4_22, x4_24, a4_24, x4_25, a4_25, x4_23, a4_23, x4_26, a4_26, x4_27, a4_27, x4_29, a4_29, x4_30, a4_30, x4_28, a4_28, x4_31, a4_31, x4_32, a4_32, x4_34, a4_34, x4_35, a4_35, x4_33, a4_33, x4_20, a4_20, x4_36, a4_36, sxAll, arithA, Nat.reduceEqDiff, Env.keep, qt_eq, isAlloc, resultsA, packA, storeA, fieldA, indexA, unA, fieldAddrA, Rv.part, cellsAt, TD.isAgg, convH, convA, buildA, fillA, setCells, copies, optA, boundA, mapO, ↓Option.bind_some, ↓Option.bind_none, Nat.reduceBEq, Nat.reduceAdd, Nat.reduceMul, Nat.reduceLeDiff, Nat.reduceSub, Nat.reduceLT, Nat.reduceGT, Int.reduceBEq, Int.reduceLT, Int.reduceLE, bne, ↓reduceIte, qt_eq2, cfg2_ty, ix2, ld2, load_ptr, load_ll, lenA_lst, intL_len, i1, hob4, hl4, ty28, ty29, ty31, at_end hd]
    exact ⟨trivial, trivial, _, _, _, rfl⟩
  | cons y ys ih =>
    intro i hd hi t177 t194
    obtain ⟨hlt, hget, hd'⟩ := at_drop hd
    have hw := wrap_succ (i := i) (by omega)
    have i0 := idx_ll H hA (z := zp3) (r := rp3)
    have i1 := idx_ll H hB (z := zq3) (r := rq3)
    have i2 := fun H => idx_ints H B y1 s1 i y hget
    have hh := has2 A y y0 s0 H hn nA
    have hm : decide (y ∈ A) = true := by simp; exact hsub y (List.mem_of_getElem? hget)
    rw [hm] at hh
    have := ih (i + 1) hd' (by simp at hlt; omega)
    rw [got_loop]
    simp only [l4_3] at this ⊢
    simp only [k4, Tryz.f4, regEnd_nrm (lv4 _), pu4, x4_0, a4_0, im4_3, x4_1, a4_1, sx_guardO g4_1_2, sx_guardO g4_1_8, x4_2, a4_2, x4_3, a4_3, x4_4, a4_4, x4_5, a4_5, x4_6, a4_6, sx_guardO g4_6_2, sx_guardO g4_6_7, x4_7, a4_7, x4_8, a4_8, x4_9, a4_9, im4_66, x4_10, a4_10, im4_74, x4_11, a4_11, x4_12, a4_12, x4_13, a4_13, x4_14, a4_14, x4_15, a4_15, x4_16, a4_16, x4_17, a4_17, x4_18, a4_18, x4_19, a4_19, x4_21, a4_21, x4_22, a4_22, x4_24, a4_24, x4_25, a4_25, x4_23, a4_23, x4_26, a4_26, x4_27, a4_27, x4_29, a4_29, x4_30, a4_30, x4_28, a4_28, x4_31, a4_31, x4_32, a4_32, x4_34, a4_34, x4_35, a4_35, x4_33, a4_33, x4_20, a4_20, x4_36, a4_36, sxAll, arithA, Nat.reduceEqDiff, Env.keep, qt_eq, isAlloc, resultsA, packA, storeA, fieldA, indexA, unA, fieldAddrA, Rv.part, cellsAt, TD.isAgg, convH, convA, buildA, fillA, setCells, copies, optA, boundA, mapO, ↓Option.bind_some, ↓Option.bind_none, Nat.reduceBEq, Nat.reduceAdd, Nat.reduceMul, Nat.reduceLeDiff, Nat.reduceSub, Nat.reduceLT, Nat.reduceGT, Int.reduceBEq, Int.reduceLT, Int.reduceLE, bne, ↓reduceIte, qt_eq2, cfg2_ty, ix2, ld2, load_ptr, load_ll, load_ints, lenA_lst, intL_len, i0, i1, i2, hob0, hl0, hob4, hl4, hh, pu2_8, ty28, ty29, ty3, ty31, hlt, hw] at this ⊢
    exact this _ _
end

section
variable (p : SProg) (H : Heap) (hn : noLoop H = true) (esp0 esp1 esp2 esp3 esq0 esq1 esq2 esq3 : List AV) (zp0 zp1 zp2 zp3 zq0 zq1 zq2 zq3 : Nat) (rp0 rp1 rp2 rp3 rq0 rq1 rq2 rq3 : Room) (rowp rowq : AV)
  (hob0 : Heap.obj H 0 0 = some [.lst esp0 zp0 rp0, .lst esp1 zp1 rp1, .lst esp2 zp2 rp2, .lst esp3 zp3 rp3, rowp]) (hl0 : Heap.live H 0 0 = true)
  (hob4 : Heap.obj H 4 0 = some [.lst esq0 zq0 rq0, .lst esq1 zq1 rq1, .lst esq2 zq2 rq2, .lst esq3 zq3 rq3, rowq]) (hl4 : Heap.live H 4 0 = true)
  (N : Nat) (hN : N = p.funs.length) (hN20 : N ≤ 20)
  (g : ∀ a : Nat, a < N → ∃ A0 B0 A2 B2 A3 B3 : List Int, (∃ z r, esp0[a]? = some (.lst (intL A0) z r)) ∧ (∃ z r, esq0[a]? = some (.lst (intL B0) z r)) ∧ (∃ z r, esp2[a]? = some (.lst (intL A2) z r)) ∧ (∃ z r, esq2[a]? = some (.lst (intL B2) z r)) ∧
    (∃ z r, esp3[a]? = some (.lst (intL A3) z r)) ∧ (∃ z r, esq3[a]? = some (.lst (intL B3) z r)) ∧ (∀ j ∈ B0, j ∈ A0) ∧ (∀ j ∈ B2, j ∈ A2) ∧ (∀ j ∈ B3, j ∈ A3) ∧
    A0.length < 1000000000 ∧ B0.length < 1000000000 ∧ A2.length < 1000000000 ∧ B2.length < 1000000000 ∧ A3.length < 1000000000 ∧ B3.length < 1000000000)
include hn hob0 hl0 hob4 hl4 hN hN20 g in
theorem less_outer : ∀ (d a : Nat), a + d = N → ∀ x0 x1 x2 t6 t8 t9 t10 t11 t12 t14 t16 t17 t18 t32 t64 t91 t112 t117 t127 t144 t152 t169 t177 t194,
    Got (exec cfg2 4 (.loop l4_0) [(0, x0), (1, x1), (2, x2), (3, .ref p.cells), (6, t6), (7, .ptr 0 0 0), (8, t8), (9, t9), (10, t10), (11, t11), (12, t12), (13, .ptr 4 0 0), (14, t14), (15, .int .i64 a), (16, t16), (17, t17), (18, t18), (32, t32), (64, t64), (91, t91), (112, t112), (117, t117), (127, t127), (144, t144), (152, t152), (169, t169), (177, t177), (194, t194)] H) (fun q => q.1 = .exit 0 ∧ q.2.2 = H) := by
  intro d
  induction d with
  | zero =>
    intro a ha x0 x1 x2 t6 t8 t9 t10 t11 t12 t14 t16 t17 t18 t32 t64 t91 t112 t117 t127 t144 t152 t169 t177 t194
    have hlt : (a < N) = False := by simp; omega
    rw [got_loop]
    simp only [l4_0, SProg.cells, k4, Tryz.f4, regEnd_nrm (lv4 _), pu4, x4_0, a4_0, im4_3, x4_1, a4_1, sx_guardO g4_1_2, sx_guardO g4_1_8, x4_2, a4_2, x4_3, a4_3, x4_4, a4_4, x4_5, a4_5, x4_6, a4_6, sx_guardO g4_6_2, sx_guardO g4_6_7, x4_7, a4_7, x4_8, a4_8, x4_9, a4_9, im4_66, x4_10, a4_10, im4_74, x4_11, a4_11, x4_12, a4_12, x4_13, a4_13, x4_14, a4_14, x4_15, a4_15, x4_16, a4_16, x4_17, a4_17, x4_18, a4_18, x4_19, a4_19, x4_21, a4_21, x4_22, a4_22, x4_24, a4_24, x4_25, a4_25, x4_23, a4_23, x4_26, a4_26, x4_27, a4_27, x4_29, a4_29, x4_30, a4_30, x4_28, a4_28, x4_31, a4_31, x4_32, a4_32, x4_34, a4_34, x4_35, a4_35, x4_33, a4_33, x4_20, a4_20, x4_36, a4_36, sxAll, arithA, Nat.reduceEqDiff, Env.keep, qt_eq, isAlloc, resultsA, packA, storeA, fieldA, indexA, unA, fieldAddrA, Rv.part, cellsAt, TD.isAgg, convH, convA, buildA, fillA, setCells, copies, optA, boundA, mapO, ↓Option.bind_some, ↓Option.bind_none, Nat.reduceBEq, Nat.reduceAdd, Nat.reduceMul, Nat.reduceLeDiff, Nat.reduceSub, Nat.reduceLT, Nat.reduceGT, Int.reduceBEq, Int.reduceLT, Int.reduceLE, bne, ↓reduceIte, qt_eq2, cfg2_ty, ix2, ld2, load_ref, lenA_lst, funsL_len, ty26, ty24, ty22, ty23, ← hN, hlt]
    exact ⟨trivial, trivial⟩
  | succ d ih =>
    intro a ha x0 x1 x2 t6 t8 t9 t10 t11 t12 t14 t16 t17 t18 t32 t64 t91 t112 t117 t127 t144 t152 t169 t177 t194
    have hlt : (a < N) = True := by simp; omega
    have hw := wrap_succ (i := a) (by omega)
    obtain ⟨A0, B0, A2, B2, A3, B3, ⟨u0, v0, a0⟩, ⟨u1, v1, b0⟩, ⟨u2, v2, a2⟩, ⟨u3, v3, b2⟩, ⟨u4, v4, a3⟩, ⟨u5, v5, b3⟩, s0, s2, s3, n1, n2, n3, n4, n5, n6⟩ := g a (by omega)
    have L0 := fun t6 t8 t9 t10 t11 t12 t14 t17 t18 t32 t64 t91 t112 t117 t152 t169 t177 t194 => less_in0 p H hn esp0 esp1 esp2 esp3 esq0 esq1 esq2 esq3 zp0 zp1 zp2 zp3 zq0 zq1 zq2 zq3 rp0 rp1 rp2 rp3 rq0 rq1 rq2 rq3 rowp rowq hob0 hl0 hob4 hl4 a x0 x1 x2 t6 t8 t9 t10 t11 t12 t14 t17 t18 t32 t64 t91 t112 t117 t152 t169 t177 t194 u0 u1 v0 v1 A0 B0 a0 b0 s0 n1 n2 B0 0 (by simp) (by omega)
    have L2 := fun t6 t8 t9 t10 t11 t12 t14 t16 t18 t32 t64 t91 t112 t117 t127 t144 t177 t194 => less_in2 p H hn esp0 esp1 esp2 esp3 esq0 esq1 esq2 esq3 zp0 zp1 zp2 zp3 zq0 zq1 zq2 zq3 rp0 rp1 rp2 rp3 rq0 rq1 rq2 rq3 rowp rowq hob0 hl0 hob4 hl4 a x0 x1 x2 t6 t8 t9 t10 t11 t12 t14 t16 t18 t32 t64 t91 t112 t117 t127 t144 t177 t194 u2 u3 v2 v3 A2 B2 a2 b2 s2 n3 n4 B2 0 (by simp) (by omega)
    have L3 := fun t6 t8 t9 t10 t11 t12 t14 t16 t17 t32 t64 t91 t112 t117 t127 t144 t152 t169 => less_in3 p H hn esp0 esp1 esp2 esp3 esq0 esq1 esq2 esq3 zp0 zp1 zp2 zp3 zq0 zq1 zq2 zq3 rp0 rp1 rp2 rp3 rq0 rq1 rq2 rq3 rowp rowq hob0 hl0 hob4 hl4 a x0 x1 x2 t6 t8 t9 t10 t11 t12 t14 t16 t17 t32 t64 t91 t112 t117 t127 t144 t152 t169 u4 u5 v4 v5 A3 B3 a3 b3 s3 n5 n6 B3 0 (by simp) (by omega)
    simp only [Int.natCast_zero, SProg.cells] at L0 L2 L3
    obtain ⟨⟨o0, e0, H0⟩, hx0, ho0, hh0, w0, w1, w2, he0⟩ := L0 t6 t8 t9 t10 t11 t12 t14 t17 t18 t32 t64 t91 t112 (.bool true) t152 t169 t177 t194 t127 t144
    subst ho0 hh0 he0
    obtain ⟨⟨o2, e2, H2⟩, hx2, ho2, hh2, w3, w4, w5, he2⟩ := L2 t6 t8 t9 t10 t11 t12 t14 w0 t18 t32 t64 t91 t112 (.bool true) w1 w2 t177 t194 t152 t169
    subst ho2 hh2 he2
    obtain ⟨⟨o3, e3, H3⟩, hx3, ho3, hh3, w6, w7, w8, he3⟩ := L3 t6 t8 t9 t10 t11 t12 t14 w0 w3 t32 t64 t91 t112 (.bool true) w1 w2 w4 w5 t177 t194
    subst ho3 hh3 he3
    have := ih (a + 1) (by omega)
    rw [got_loop]
    simp only [l4_0, SProg.cells] at this ⊢
    simp only [k4, Tryz.f4, regEnd_nrm (lv4 _), pu4, x4_0, a4_0, im4_3, x4_1, a4_1, sx_guardO g4_1_2, sx_guardO g4_1_8, x4_2, a4_2, x4_3, a4_3, x4_4, a4_4, x4_5, a4_5, x4_6, a4_6, sx_guardO g4_6_2, sx_guardO g4_6_7, x4_7, a4_7, x4_8, a4_8, x4_9, a4_9, im4_66, x4_10, a4_10, im4_74, x4_11, a4_11, x4_12, a4_12, x4_13, a4_13, x4_14, a4_14, x4_15, a4_15, x4_16, a4_16, x4_17, a4_17, x4_18, a4_18, x4_19, a4_19, x4_21, a4_21, x4_22, a4_22, x4_24, a4_24, x4_25, a4_25, x4_23, a4_23, x4_26, a4_26, x4_27, a4_27, x4_29, a4_29, x4_30, a4_30, x4_28, a4_28, x4_31, a4_31, x4_32, a4_32, x4_34, a4_34, x4_35, a4_35, x4_33, a4_33, x4_20, a4_20, x4_36, a4_36, sxAll, arithA, Nat.reduceEqDiff, Env.keep, qt_eq, isAlloc, resultsA, packA, storeA, fieldA, indexA, unA, fieldAddrA, Rv.part, cellsAt, TD.isAgg, convH, convA, buildA, fillA, setCells, copies, optA, boundA, mapO, ↓Option.bind_some, ↓Option.bind_none, Nat.reduceBEq, Nat.reduceAdd, Nat.reduceMul, Nat.reduceLeDiff, Nat.reduceSub, Nat.reduceLT, Nat.reduceGT, Int.reduceBEq, Int.reduceLT, Int.reduceLE, bne, ↓reduceIte, qt_eq2, cfg2_ty, ix2, ld2, load_ref, lenA_lst, funsL_len, ty26, ty24, ty22, ty23, ← hN, hlt, hw, hx0, hx2, hx3] at this ⊢
    exact this _ _ _ _ _ _ _ _ _ _ _ _ _ _ _ _ _ _ _ _ _ _ _ _
end
end
end Go.Proofs.Sx

/-
  The law CallsLess answers true.
-/
set_option linter.unusedSimpArgs false
set_option linter.unusedVariables false
set_option maxRecDepth 100000
set_option maxHeartbeats 8000000
namespace Go.Proofs.Sx
open Go.Rv Go.Proofs
attribute [local congr] bind_left got_left
noncomputable section

theorem cells_msl (o a l z g : Nat) (c : Option Nat) : (AV.msl o a l z g c).cells = [.msl o a l z g c] := rfl
theorem leaf_msl (o a l z g : Nat) (c : Option Nat) : (AV.msl o a l z g c).leaf = true := rfl
theorem group_zero (cs : List AV) (z : Nat) : group 0 cs z = [] := rfl
theorem u64_small {n : Nat} (h : n < 1000000000) : IntKind.u64.wrap (n : Int) = n := by
  simp [IntKind.wrap, IntKind.bits, IntKind.signed]; omega
theorem u64_mod (x : Int) {n : Nat} (h0 : 0 < n) : ∃ k : Nat, (IntKind.u64.wrap x).tmod (n : Int) = (k : Int) ∧ k < n := by
  have h1 : 0 ≤ IntKind.u64.wrap x := by simp [IntKind.wrap, IntKind.bits, IntKind.signed]; omega
  have h2 : 0 ≤ (IntKind.u64.wrap x).tmod (n : Int) := Int.tmod_nonneg _ h1
  have h3 : (IntKind.u64.wrap x).tmod (n : Int) < n := Int.tmod_lt_of_pos _ (by omega)
  exact ⟨((IntKind.u64.wrap x).tmod (n : Int)).toNat, by omega, by omega⟩
theorem idx_code (H : Heap) {l : List SIns} {n : Nat} {i : SIns} (z : Nat) (r : Room) (h : l[n]? = some i) : indexAddrA cfg H 36 (.lst (codeL l) z r) (.int .i64 n) = some (.ref i.cells) := by
  have h1 := codeL_get h
  have h2 : i.cells.length = 6 := rfl
  simp [indexAddrA, ty36, ty42, h1, AV.cells, h2]
theorem idx_msl5 (H : Heap) {o N k : Nat} (hk : k < N) (hl : H.live o 0 = true) : indexAddrA cfg H 24 (.msl o 0 N 5 0 none) (.int .i64 k) = some (.ptr o (k * 5) 0) := by
  simp [indexAddrA, ty24, ty38, hk, hl]
theorem idx_msl6 (H : Heap) {o N k : Nat} (hk : k < N) (hl : H.live o 0 = true) : indexAddrA cfg H 36 (.msl o 0 N 6 0 none) (.int .i64 k) = some (.ptr o (k * 6) 0) := by
  simp [indexAddrA, ty36, ty42, hk, hl]

section
variable {p : SProg} (hm : mayP p = true) {a : Nat} (ha : a < p.funs.length)
include hm ha in
theorem small_cs : ((csP p).getD a []).length < 1000000000 := by
  have F := fits_may hm
  have hCl : (csP p).length = p.funs.length := by rw [csP, List.length_map]
  have := csP_len F _ (List.mem_of_getElem? (getD_get (ls := csP p) (k := a) (by omega)))
  omega
include hm ha in
theorem small_reach : ((reachLs (csP p) p.funs.length).getD a []).length < 1000000000 := by
  have F := fits_may hm
  have hRl : (reachLs (csP p) p.funs.length).length = p.funs.length := by rw [reachLs, List.length_map, List.length_range]
  have := (reachLs_rng _ (List.mem_of_getElem? (getD_get (ls := reachLs (csP p) p.funs.length) (k := a) (by omega)))).2
  have := F.1
  omega
include hm ha in
theorem small_roots : ((rootsGo p p.funs 0 (turnedL (reachLs (csP p) p.funs.length))).getD a []).length < 1000000000 := by
  have F := fits_may hm
  have hRl : (reachLs (csP p) p.funs.length).length = p.funs.length := by rw [reachLs, List.length_map, List.length_range]
  have hget : p.funs[a]? = some p.funs[a] := List.getElem?_eq_getElem ha
  have h := rootsGo_get p p.funs 0 (turnedL (reachLs (csP p) p.funs.length)) a _ hget (by rw [turnedL_len, hRl]; omega)
  rw [Nat.zero_add] at h
  rw [h]
  split
  · simp
  · have h1 := List.length_filter_le (thrB p) ((turnedL (reachLs (csP p) p.funs.length)).getD a [])
    have hRm : ∀ l ∈ reachLs (csP p) p.funs.length, l.length ≤ 300 := fun l hl => by have := (reachLs_rng l hl).2; have := F.1; omega
    have h2 := turnedL_bound (reachLs (csP p) p.funs.length) (fun l hl => by have := hRm l hl; omega) (l := (turnedL (reachLs (csP p) p.funs.length)).getD a []) (List.mem_of_getElem? (getD_get (by rw [turnedL_len]; omega)))
    have := F.1
    omega
include hm ha in
theorem roots_rng {j : Int} (hj : j ∈ (rootsGo p p.funs 0 (turnedL (reachLs (csP p) p.funs.length))).getD a []) : ∃ b : Nat, b < p.funs.length ∧ j = (b : Int) := by
  have hRl : (reachLs (csP p) p.funs.length).length = p.funs.length := by rw [reachLs, List.length_map, List.length_range]
  have hget : p.funs[a]? = some p.funs[a] := List.getElem?_eq_getElem ha
  have h := rootsGo_get p p.funs 0 (turnedL (reachLs (csP p) p.funs.length)) a _ hget (by rw [turnedL_len, hRl]; omega)
  rw [Nat.zero_add] at h
  rw [h] at hj
  split at hj
  · exact ⟨a, ha, List.mem_singleton.1 hj⟩
  · have h1 := (List.mem_filter.1 hj).1
    rw [turnedL_get _ (fun x hx k hk => ((reachLs_rng x hx).1 k hk).1) (by omega)] at h1
    obtain ⟨m, x, h2, h3, _⟩ := h1
    exact ⟨m, by have := (List.getElem?_eq_some_iff.1 h2).1; omega, h3⟩
end

theorem callsLess_eq (p : SProg) (hp : p.wf) (x y : Int) : call cfg2 4 [.agg p.cells, .int .i64 x, .int .i64 y] [] = some (.ret (.bool true), []) := by
  obtain ⟨v, hv, hA⟩ := of2_first p hp
  obtain ⟨N, hN⟩ : ∃ N, N = p.funs.length := ⟨_, rfl⟩
  have hNb : N < 1000000000 := by have := hp.2.2.1; omega
  have hw1 := works2
  rw [call4]
  simp only [SProg.cells] at hv
  by_cases h0 : N = 0
  · have e0 : ((N : Int) == 0) = true := by simp [h0]
    simp only [SProg.cells, k4, Tryz.f4, regEnd_nrm (lv4 _), pu4, x4_0, a4_0, im4_3, x4_1, a4_1, sx_guardO g4_1_2, sx_guardO g4_1_8, x4_2, a4_2, x4_3, a4_3, x4_4, a4_4, x4_5, a4_5, x4_6, a4_6, sx_guardO g4_6_2, sx_guardO g4_6_7, x4_7, a4_7, x4_8, a4_8, x4_9, a4_9, im4_66, x4_10, a4_10, im4_74, x4_11, a4_11, x4_12, a4_12, x4_13, a4_13, x4_14, a4_14, x4_15, a4_15, x4_16, a4_16, x4_17, a4_17, x4_18, a4_18, x4_19, a4_19, x4_21, a4_21, x4_22, a4_22, x4_24, a4_24, x4_25, a4_25, x4_23, a4_23, x4_26, a4_26, x4_27, a4_27, x4_29, a4_29, x4_30, a4_30, x4_28, a4_28, x4_31, a4_31, x4_32, a4_32, x4_34, a4_34, x4_35, a4_35, x4_33, a4_33, x4_20, a4_20, x4_36, a4_36, sxAll, arithA, Nat.reduceEqDiff, Env.keep, qt_eq, isAlloc, resultsA, packA, storeA, fieldA, indexA, unA, fieldAddrA, Rv.part, cellsAt, TD.isAgg, convH, convA, buildA, fillA, setCells, copies, optA, boundA, mapO, ↓Option.bind_some, ↓Option.bind_none, Nat.reduceBEq, Nat.reduceAdd, Nat.reduceMul, Nat.reduceLeDiff, Nat.reduceSub, Nat.reduceLT, Nat.reduceGT, Int.reduceBEq, Int.reduceLT, Int.reduceLE, bne, ↓reduceIte, qt_eq2, cfg2_ty, ix2, ld2, load_ref, lenA_lst, funsL_len, ty26, ty24, ty22, ty23, ← hN, hw1, e0]
    exact leave_pure rfl rfl rfl
  have e0 : ((N : Int) == 0) = false := by simp [h0]
  by_cases h20 : (N : Int) > 20
  · simp only [SProg.cells, k4, Tryz.f4, regEnd_nrm (lv4 _), pu4, x4_0, a4_0, im4_3, x4_1, a4_1, sx_guardO g4_1_2, sx_guardO g4_1_8, x4_2, a4_2, x4_3, a4_3, x4_4, a4_4, x4_5, a4_5, x4_6, a4_6, sx_guardO g4_6_2, sx_guardO g4_6_7, x4_7, a4_7, x4_8, a4_8, x4_9, a4_9, im4_66, x4_10, a4_10, im4_74, x4_11, a4_11, x4_12, a4_12, x4_13, a4_13, x4_14, a4_14, x4_15, a4_15, x4_16, a4_16, x4_17, a4_17, x4_18, a4_18, x4_19, a4_19, x4_21, a4_21, x4_22, a4_22, x4_24, a4_24, x4_25, a4_25, x4_23, a4_23, x4_26, a4_26, x4_27, a4_27, x4_29, a4_29, x4_30, a4_30, x4_28, a4_28, x4_31, a4_31, x4_32, a4_32, x4_34, a4_34, x4_35, a4_35, x4_33, a4_33, x4_20, a4_20, x4_36, a4_36, sxAll, arithA, Nat.reduceEqDiff, Env.keep, qt_eq, isAlloc, resultsA, packA, storeA, fieldA, indexA, unA, fieldAddrA, Rv.part, cellsAt, TD.isAgg, convH, convA, buildA, fillA, setCells, copies, optA, boundA, mapO, ↓Option.bind_some, ↓Option.bind_none, Nat.reduceBEq, Nat.reduceAdd, Nat.reduceMul, Nat.reduceLeDiff, Nat.reduceSub, Nat.reduceLT, Nat.reduceGT, Int.reduceBEq, Int.reduceLT, Int.reduceLE, bne, ↓reduceIte, qt_eq2, cfg2_ty, ix2, ld2, load_ref, lenA_lst, funsL_len, ty26, ty24, ty22, ty23, ← hN, hw1, e0, h20]
    exact leave_pure rfl rfl rfl
  have hN20 : N ≤ 20 := by omega
  obtain ⟨k, hk, hkN⟩ := u64_mod x (n := N) (by omega)
  have w1 := u64_small hNb
  have w3 : IntKind.i64.wrap (k : Int) = k := wrap_id (by omega) (by omega)
  obtain ⟨f, hf⟩ : ∃ f, p.funs[k]? = some f := ⟨_, List.getElem?_eq_getElem (by omega)⟩
  have iff := fun H => idx_fun H p hf
  simp only [SFun.cells] at iff
  obtain ⟨M, hM⟩ : ∃ M, M = f.code.length := ⟨_, rfl⟩
  have hMb : M < 1000000000 := by have := (hp.2.2.2.2.2 f (List.mem_of_getElem? hf)).1; omega
  have hres : (v = .tup [.agg nils, .int .i64 4] ∨ v = .tup [.agg nils, .int .i64 67]) ∨ (mayP p = true ∧ ¬ selfR p ∧ ∃ a0 a1 a2 a3 z r, v = .tup [.agg [a0, a1, a2, a3, .lst (intL (rowGo (csP p) p.funs.length p.funs.length [])) z r], .int .i64 0] ∧
    IsLL a0 (csP p) ∧ IsLL a1 (turnedL (csP p)) ∧ IsLL a2 (reachLs (csP p) p.funs.length) ∧ IsLL a3 (rootsGo p p.funs 0 (turnedL (reachLs (csP p) p.funs.length)))) := by
    rcases hA with ⟨_, h⟩ | ⟨_, _, h⟩ | h
    · exact .inl (.inl h)
    · exact .inl (.inr h)
    · exact .inr h
  rcases hres with (rfl | rfl) | ⟨hm, hno, a0, a1, a2, a3, z, r, rfl, ⟨es0, z0, r0, rfl, l0, g0⟩, ⟨es1, z1, r1, rfl, l1, g1⟩, ⟨es2, z2, r2, rfl, l2, g2⟩, ⟨es3, z3, r3, rfl, l3, g3⟩⟩
  · simp only [nils] at hv
    simp only [SProg.cells, k4, Tryz.f4, regEnd_nrm (lv4 _), pu4, x4_0, a4_0, im4_3, x4_1, a4_1, sx_guardO g4_1_2, sx_guardO g4_1_8, x4_2, a4_2, x4_3, a4_3, x4_4, a4_4, x4_5, a4_5, x4_6, a4_6, sx_guardO g4_6_2, sx_guardO g4_6_7, x4_7, a4_7, x4_8, a4_8, x4_9, a4_9, im4_66, x4_10, a4_10, im4_74, x4_11, a4_11, x4_12, a4_12, x4_13, a4_13, x4_14, a4_14, x4_15, a4_15, x4_16, a4_16, x4_17, a4_17, x4_18, a4_18, x4_19, a4_19, x4_21, a4_21, x4_22, a4_22, x4_24, a4_24, x4_25, a4_25, x4_23, a4_23, x4_26, a4_26, x4_27, a4_27, x4_29, a4_29, x4_30, a4_30, x4_28, a4_28, x4_31, a4_31, x4_32, a4_32, x4_34, a4_34, x4_35, a4_35, x4_33, a4_33, x4_20, a4_20, x4_36, a4_36, sxAll, arithA, Nat.reduceEqDiff, Env.keep, qt_eq, isAlloc, resultsA, packA, storeA, fieldA, indexA, unA, fieldAddrA, Rv.part, cellsAt, TD.isAgg, convH, convA, buildA, fillA, setCells, copies, optA, boundA, mapO, ↓Option.bind_some, ↓Option.bind_none, Nat.reduceBEq, Nat.reduceAdd, Nat.reduceMul, Nat.reduceLeDiff, Nat.reduceSub, Nat.reduceLT, Nat.reduceGT, Int.reduceBEq, Int.reduceLT, Int.reduceLE, bne, ↓reduceIte, qt_eq2, cfg2_ty, ix2, ld2, load_ref, load_ptr, lenA_lst, funsL_len, codeL_len, ty26, ty24, ty22, ty23, ty38, ty36, ty40, ty3, ty31, ty28, ty29, ty4, ty9, ← hN, ← hM, hw1, e0, h20, hv, w1, hk, w3, iff]
    exact leave_pure rfl rfl rfl
  · simp only [nils] at hv
    simp only [SProg.cells, k4, Tryz.f4, regEnd_nrm (lv4 _), pu4, x4_0, a4_0, im4_3, x4_1, a4_1, sx_guardO g4_1_2, sx_guardO g4_1_8, x4_2, a4_2, x4_3, a4_3, x4_4, a4_4, x4_5, a4_5, x4_6, a4_6, sx_guardO g4_6_2, sx_guardO g4_6_7, x4_7, a4_7, x4_8, a4_8, x4_9, a4_9, im4_66, x4_10, a4_10, im4_74, x4_11, a4_11, x4_12, a4_12, x4_13, a4_13, x4_14, a4_14, x4_15, a4_15, x4_16, a4_16, x4_17, a4_17, x4_18, a4_18, x4_19, a4_19, x4_21, a4_21, x4_22, a4_22, x4_24, a4_24, x4_25, a4_25, x4_23, a4_23, x4_26, a4_26, x4_27, a4_27, x4_29, a4_29, x4_30, a4_30, x4_28, a4_28, x4_31, a4_31, x4_32, a4_32, x4_34, a4_34, x4_35, a4_35, x4_33, a4_33, x4_20, a4_20, x4_36, a4_36, sxAll, arithA, Nat.reduceEqDiff, Env.keep, qt_eq, isAlloc, resultsA, packA, storeA, fieldA, indexA, unA, fieldAddrA, Rv.part, cellsAt, TD.isAgg, convH, convA, buildA, fillA, setCells, copies, optA, boundA, mapO, ↓Option.bind_some, ↓Option.bind_none, Nat.reduceBEq, Nat.reduceAdd, Nat.reduceMul, Nat.reduceLeDiff, Nat.reduceSub, Nat.reduceLT, Nat.reduceGT, Int.reduceBEq, Int.reduceLT, Int.reduceLE, bne, ↓reduceIte, qt_eq2, cfg2_ty, ix2, ld2, load_ref, load_ptr, lenA_lst, funsL_len, codeL_len, ty26, ty24, ty22, ty23, ty38, ty36, ty40, ty3, ty31, ty28, ty29, ty4, ty9, ← hN, ← hM, hw1, e0, h20, hv, w1, hk, w3, iff]
    exact leave_pure rfl rfl rfl
  obtain ⟨ro, hro⟩ : ∃ ro, ro = rowGo (csP p) N N [] := ⟨_, rfl⟩
  rw [← hN, ← hro] at hv
  by_cases m0 : M = 0
  · have f0 : ((M : Int) == 0) = true := by simp [m0]
    simp only [SProg.cells, k4, Tryz.f4, regEnd_nrm (lv4 _), pu4, x4_0, a4_0, im4_3, x4_1, a4_1, sx_guardO g4_1_2, sx_guardO g4_1_8, x4_2, a4_2, x4_3, a4_3, x4_4, a4_4, x4_5, a4_5, x4_6, a4_6, sx_guardO g4_6_2, sx_guardO g4_6_7, x4_7, a4_7, x4_8, a4_8, x4_9, a4_9, im4_66, x4_10, a4_10, im4_74, x4_11, a4_11, x4_12, a4_12, x4_13, a4_13, x4_14, a4_14, x4_15, a4_15, x4_16, a4_16, x4_17, a4_17, x4_18, a4_18, x4_19, a4_19, x4_21, a4_21, x4_22, a4_22, x4_24, a4_24, x4_25, a4_25, x4_23, a4_23, x4_26, a4_26, x4_27, a4_27, x4_29, a4_29, x4_30, a4_30, x4_28, a4_28, x4_31, a4_31, x4_32, a4_32, x4_34, a4_34, x4_35, a4_35, x4_33, a4_33, x4_20, a4_20, x4_36, a4_36, sxAll, arithA, Nat.reduceEqDiff, Env.keep, qt_eq, isAlloc, resultsA, packA, storeA, fieldA, indexA, unA, fieldAddrA, Rv.part, cellsAt, TD.isAgg, convH, convA, buildA, fillA, setCells, copies, optA, boundA, mapO, ↓Option.bind_some, ↓Option.bind_none, Nat.reduceBEq, Nat.reduceAdd, Nat.reduceMul, Nat.reduceLeDiff, Nat.reduceSub, Nat.reduceLT, Nat.reduceGT, Int.reduceBEq, Int.reduceLT, Int.reduceLE, bne, ↓reduceIte, qt_eq2, cfg2_ty, ix2, ld2, load_ref, load_ptr, lenA_lst, funsL_len, codeL_len, ty26, ty24, ty22, ty23, ty38, ty36, ty40, ty3, ty31, ty28, ty29, ty4, ty9, ← hN, ← hM, hw1, e0, h20, hv, w1, hk, w3, iff, f0]
    exact leave_pure rfl rfl rfl
  have f0 : ((M : Int) == 0) = false := by simp [m0]
  by_cases m5 : (M : Int) > 500
  · simp only [SProg.cells, k4, Tryz.f4, regEnd_nrm (lv4 _), pu4, x4_0, a4_0, im4_3, x4_1, a4_1, sx_guardO g4_1_2, sx_guardO g4_1_8, x4_2, a4_2, x4_3, a4_3, x4_4, a4_4, x4_5, a4_5, x4_6, a4_6, sx_guardO g4_6_2, sx_guardO g4_6_7, x4_7, a4_7, x4_8, a4_8, x4_9, a4_9, im4_66, x4_10, a4_10, im4_74, x4_11, a4_11, x4_12, a4_12, x4_13, a4_13, x4_14, a4_14, x4_15, a4_15, x4_16, a4_16, x4_17, a4_17, x4_18, a4_18, x4_19, a4_19, x4_21, a4_21, x4_22, a4_22, x4_24, a4_24, x4_25, a4_25, x4_23, a4_23, x4_26, a4_26, x4_27, a4_27, x4_29, a4_29, x4_30, a4_30, x4_28, a4_28, x4_31, a4_31, x4_32, a4_32, x4_34, a4_34, x4_35, a4_35, x4_33, a4_33, x4_20, a4_20, x4_36, a4_36, sxAll, arithA, Nat.reduceEqDiff, Env.keep, qt_eq, isAlloc, resultsA, packA, storeA, fieldA, indexA, unA, fieldAddrA, Rv.part, cellsAt, TD.isAgg, convH, convA, buildA, fillA, setCells, copies, optA, boundA, mapO, ↓Option.bind_some, ↓Option.bind_none, Nat.reduceBEq, Nat.reduceAdd, Nat.reduceMul, Nat.reduceLeDiff, Nat.reduceSub, Nat.reduceLT, Nat.reduceGT, Int.reduceBEq, Int.reduceLT, Int.reduceLE, bne, ↓reduceIte, qt_eq2, cfg2_ty, ix2, ld2, load_ref, load_ptr, lenA_lst, funsL_len, codeL_len, ty26, ty24, ty22, ty23, ty38, ty36, ty40, ty3, ty31, ty28, ty29, ty4, ty9, ← hN, ← hM, hw1, e0, h20, hv, w1, hk, w3, iff, f0, m5]
    exact leave_pure rfl rfl rfl
  obtain ⟨n, hn, hnM⟩ := u64_mod y (n := M) (by omega)
  have w4 := u64_small hMb
  have w5 : IntKind.i64.wrap (n : Int) = n := wrap_id (by omega) (by omega)
  obtain ⟨i, hi⟩ : ∃ i, f.code[n]? = some i := ⟨_, List.getElem?_eq_getElem (by omega)⟩
  have ic := fun H => idx_code H f.cz f.room hi
  simp only [SIns.cells] at ic
  have hfs : ∀ x ∈ funsL p.funs, x.cells.length = 5 := fun x hx => by obtain ⟨g, _, rfl⟩ := List.mem_map.1 hx; rfl
  have hcs : ∀ x ∈ codeL f.code, x.cells.length = 6 := fun x hx => by obtain ⟨g, _, rfl⟩ := List.mem_map.1 hx; rfl
  have fa1 : ∀ h, appendA h 5 (.lst [] 5 (.exact 0)) (funsL p.funs) = some (.msl h.length 0 N 5 0 none, h ++ [.cells (flatC (funsL p.funs)) 0]) := fun h => by
    have := append_lst0 h (sz := 5) (z := 5) (by omega) (ys := funsL p.funs) (by intro hc; have := congrArg List.length hc; simp [funsL_len] at this; rw [this] at hN; exact h0 hN) (fun x hx => by obtain ⟨g, _, rfl⟩ := List.mem_map.1 hx; exact ⟨rfl, rfl⟩) (by rw [funsL_len, ← hN]; simp [mostLen]; omega)
    rw [funsL_len, ← hN] at this
    exact this
  have fa2 : ∀ h, appendA h 6 (.lst [] 6 (.exact 0)) (codeL f.code) = some (.msl h.length 0 M 6 0 none, h ++ [.cells (flatC (codeL f.code)) 0]) := fun h => by
    have := append_lst0 h (sz := 6) (z := 6) (by omega) (ys := codeL f.code) (by intro hc; have := congrArg List.length hc; simp [codeL_len] at this; rw [this] at hM; exact m0 hM) (fun x hx => by obtain ⟨g, _, rfl⟩ := List.mem_map.1 hx; exact ⟨rfl, rfl⟩) (by rw [codeL_len, ← hM]; simp [mostLen]; omega)
    rw [codeL_len, ← hM] at this
    exact this
  have j5 := fun H hl => idx_msl5 H (o := 2) hkN hl
  have j6 := fun H hl => idx_msl6 H (o := 3) hnM hl
  have hkf : (funsL p.funs)[k]? = some (.agg [.str f.name, .bool f.thread, .int .i64 f.params, .int .i64 f.regs, .lst (codeL f.code) f.cz f.room]) := funsL_get hf
  have lf : (flatC (funsL p.funs)).length = N * 5 := by rw [flatC_len hfs, funsL_len, hN]
  have lc : (flatC (codeL f.code)).length = M * 6 := by rw [flatC_len hcs, codeL_len, hM]
  have hs1 : (k * 5 + 4 + 1 ≤ (flatC (funsL p.funs)).length) = True := by rw [lf]; simp; omega
  have hs2 : (n * 6 + 6 ≤ (flatC (codeL f.code)).length) = True := by rw [lc]; simp; omega
  have st1 := flat_set hkf hfs (j := 4) (by simp) (.msl 3 0 M 6 0 none)
  simp only [List.set_cons_succ, List.set_cons_zero] at st1
  obtain ⟨Fs, hFs⟩ : ∃ Fs, Fs = (funsL p.funs).set k (.agg [.str f.name, .bool f.thread, .int .i64 f.params, .int .i64 f.regs, .msl 3 0 M 6 0 none]) := ⟨_, rfl⟩
  rw [← hFs] at st1
  have hkF : Fs[k]? = some (.agg [.str f.name, .bool f.thread, .int .i64 f.params, .int .i64 f.regs, .msl 3 0 M 6 0 none]) := by
    rw [hFs, List.getElem?_set_self (by rw [funsL_len]; omega)]
  have hsF : ∀ x ∈ Fs, x.cells.length = 5 := fun x hx => by
    rw [hFs] at hx
    rcases List.mem_or_eq_of_mem_set hx with h | h
    · exact hfs x h
    · rw [h]; rfl
  have hd1 := flat_drop hkF hsF (j := 4) (by simp)
  simp only [List.getElem?_cons_succ, List.getElem?_cons_zero] at hd1
  by_cases ho : i.op = 10
  case neg =>
    have ob : (i.op != 10) = true := by simp [ho]
    have ob' : (i.op == 10) = false := by simp [ho]
    simp only [SProg.cells, k4, Tryz.f4, regEnd_nrm (lv4 _), pu4, x4_0, a4_0, im4_3, x4_1, a4_1, sx_guardO g4_1_2, sx_guardO g4_1_8, x4_2, a4_2, x4_3, a4_3, x4_4, a4_4, x4_5, a4_5, x4_6, a4_6, sx_guardO g4_6_2, sx_guardO g4_6_7, x4_7, a4_7, x4_8, a4_8, x4_9, a4_9, im4_66, x4_10, a4_10, im4_74, x4_11, a4_11, x4_12, a4_12, x4_13, a4_13, x4_14, a4_14, x4_15, a4_15, x4_16, a4_16, x4_17, a4_17, x4_18, a4_18, x4_19, a4_19, x4_21, a4_21, x4_22, a4_22, x4_24, a4_24, x4_25, a4_25, x4_23, a4_23, x4_26, a4_26, x4_27, a4_27, x4_29, a4_29, x4_30, a4_30, x4_28, a4_28, x4_31, a4_31, x4_32, a4_32, x4_34, a4_34, x4_35, a4_35, x4_33, a4_33, x4_20, a4_20, x4_36, a4_36, sxAll, arithA, Nat.reduceEqDiff, Env.keep, qt_eq, isAlloc, resultsA, packA, storeA, fieldA, indexA, unA, fieldAddrA, Rv.part, cellsAt, TD.isAgg, convH, convA, buildA, fillA, setCells, copies, optA, boundA, mapO, ↓Option.bind_some, ↓Option.bind_none, Nat.reduceBEq, Nat.reduceAdd, Nat.reduceMul, Nat.reduceLeDiff, Nat.reduceSub, Nat.reduceLT, Nat.reduceGT, Int.reduceBEq, Int.reduceLT, Int.reduceLE, bne, ↓reduceIte, sx_76, eqb_ptr, eqb_msl, cells_msl, leaf_msl, group_zero, qt_eq2, cfg2_ty, ix2, ld2, load_ref, load_ptr, lenA_lst, elems, funsL_len, codeL_len, ty26, ty24, ty22, ty23, ty38, ty36, ty42, ty40, ty5, ty3, ty2, ty31, ty28, ty29, ty4, ty9, ← hN, ← hM, hw1, e0, h20, hv, w1, hk, w3, iff, f0, m5, fa1, fa2, j5, j6, hs1, st1, hd1, w4, hn, w5, ic, ob, ob']
    exact leave_pure rfl rfl rfl
  have ob : (i.op != 10) = false := by simp [ho]
  have ob' : (i.op == 10) = true := by simp [ho]
  have st2 := flat_put (k := n) (z := 6) (codeL_get hi) hcs (cs' := (setIns i.r).cells) rfl
  have hce : (codeL f.code).set n (.agg (setIns i.r).cells) = codeL (f.code.set n (setIns i.r)) := by simp [codeL, List.map_set]
  obtain ⟨c', hc'⟩ : ∃ c', c' = f.code.set n (setIns i.r) := ⟨_, rfl⟩
  rw [hce, ← hc'] at st2
  simp only [SIns.cells, setIns, setCells, intL, List.map_nil] at st2
  obtain ⟨q, hq⟩ : ∃ q, q = lessP p k n f i.r .open .open := ⟨_, rfl⟩
  have hqw : q.wf := by
    obtain ⟨b1, b2, b3, b4, b5, b6⟩ := hp
    have hfw := b6 f (List.mem_of_getElem? hf)
    rw [hq]
    refine ⟨b1, b2, by simp [lessP]; omega, b4, b5, fun g hg => ?_⟩
    rcases List.mem_or_eq_of_mem_set hg with h | h
    · exact b6 g h
    · rw [h]
      refine ⟨by simp [lessF]; exact hfw.1, hfw.2.1, fun j hj => ?_⟩
      rcases List.mem_or_eq_of_mem_set hj with h | h
      · exact hfw.2.2 j h
      · rw [h]; simp [SIns.wf, setIns]
  have hqN : q.funs.length = N := by rw [hq, hN]; simp [lessP]
  obtain ⟨v2, hv2, hB⟩ := of2_second p q hqw k n f c' hf
    [.cells [.lst es0 z0 r0, .lst es1 z1 r1, .lst es2 z2 r2, .lst es3 z3 r3, .lst (intL ro) z r] 0, .cells [.lst (memsL p.mems) p.mz p.mroom, .lst (strL p.locks) p.lz p.lroom, .msl 2 0 N 5 0 none] 0, .cells (flatC Fs) 0, .cells (flatC (codeL c')) 0]
    rfl (by rw [hc']; simp) rfl (by rw [hFs, hM]; rfl) (by rw [hq, hc']; rfl)
  rw [← hN] at hv2
  have hkill : killO [2, 3] [.cells [.lst es0 z0 r0, .lst es1 z1 r1, .lst es2 z2 r2, .lst es3 z3 r3, .lst (intL ro) z r] 0, .cells [.lst (memsL p.mems) p.mz p.mroom, .lst (strL p.locks) p.lz p.lroom, .msl 2 0 N 5 0 none] 0, .cells (flatC Fs) 0, .cells (flatC (codeL c')) 0]
      = [.cells [.lst es0 z0 r0, .lst es1 z1 r1, .lst es2 z2 r2, .lst es3 z3 r3, .lst (intL ro) z r] 0, .cells [.lst (memsL p.mems) p.mz p.mroom, .lst (strL p.locks) p.lz p.lroom, .msl 2 0 N 5 0 none] 0, .cells (flatC Fs) 1, .cells (flatC (codeL c')) 1] := by
    simp [killO, killX]
  rw [hkill] at hv2
  have hmq : mayP q = true := by rw [hq]; exact less_may hf hi ho .open .open hm
  have Fp := fits_may hm
  have Fq := fits_may hmq
  have hsub : ∀ a j, j ∈ csOf (csP q) a → j ∈ csOf (csP p) a := fun a j h => by rw [hq] at h; exact less_cs hf ho .open .open a j h
  have hrch : ∀ a j : Int, Rch (csP q) a j → Rch (csP p) a j := fun a j h => by rw [hq] at h; exact less_rch hf ho .open .open h
  have hnoq : ¬ selfR q := by
    rintro ⟨k', h1, h2⟩
    rw [reachOf_mem _ _ _ _ (csP_rng Fq)] at h2
    exact hno ⟨k', by omega, (reachOf_mem _ _ _ _ (csP_rng Fp)).2 (hrch _ _ h2)⟩
  rcases hB with ⟨hx, _⟩ | ⟨_, hs, _⟩ | ⟨_, _, b0, b1, b2, b3, zz, rr, rfl, ⟨fs0, y0, s0, rfl, m0', k0⟩, ⟨fs1, y1, s1, rfl, m1', k1⟩, ⟨fs2, y2, s2, rfl, m2', k2⟩, ⟨fs3, y3, s3, rfl, m3', k3⟩⟩
  · rw [hmq] at hx; cases hx
  · exact absurd hs hnoq
  obtain ⟨rq, hrq⟩ : ∃ rq, rq = rowGo (csP q) q.funs.length q.funs.length [] := ⟨_, rfl⟩
  rw [← hrq] at hv2
  have hCp : (csP p).length = N := by rw [csP, List.length_map, hN]
  have hCq : (csP q).length = N := by rw [csP, List.length_map, hqN]
  have hRp : (reachLs (csP p) p.funs.length).length = N := by rw [reachLs, List.length_map, List.length_range, hN]
  have hRq : (reachLs (csP q) q.funs.length).length = N := by rw [reachLs, List.length_map, List.length_range, hqN]
  have hOp : (rootsGo p p.funs 0 (turnedL (reachLs (csP p) p.funs.length))).length = N := by rw [rootsGo_len, turnedL_len, hRp]
  have hOq : (rootsGo q q.funs 0 (turnedL (reachLs (csP q) q.funs.length))).length = N := by rw [rootsGo_len, turnedL_len, hRq]
  obtain ⟨⟨o, e', H'⟩, hx, hxo, hxh⟩ := less_outer p
    [.cells [.lst es0 z0 r0, .lst es1 z1 r1, .lst es2 z2 r2, .lst es3 z3 r3, .lst (intL ro) z r] 0, .cells [.lst (memsL p.mems) p.mz p.mroom, .lst (strL p.locks) p.lz p.lroom, .msl 2 0 N 5 0 none] 0, .cells (flatC Fs) 1, .cells (flatC (codeL c')) 1,
      .cells [.lst fs0 y0 s0, .lst fs1 y1 s1, .lst fs2 y2 s2, .lst fs3 y3 s3, .lst (intL rq) zz rr] 0]
    rfl es0 es1 es2 es3 fs0 fs1 fs2 fs3 z0 z1 z2 z3 y0 y1 y2 y3 r0 r1 r2 r3 s0 s1 s2 s3 (.lst (intL ro) z r) (.lst (intL rq) zz rr) rfl rfl rfl rfl N hN hN20 (fun a ha => by
      refine ⟨(csP p).getD a [], (csP q).getD a [], (reachLs (csP p) p.funs.length).getD a [], (reachLs (csP q) q.funs.length).getD a [], (rootsGo p p.funs 0 (turnedL (reachLs (csP p) p.funs.length))).getD a [], (rootsGo q q.funs 0 (turnedL (reachLs (csP q) q.funs.length))).getD a [],
        g0 a _ (getD_get (by omega)), k0 a _ (getD_get (by omega)), g2 a _ (getD_get (by omega)), k2 a _ (getD_get (by omega)), g3 a _ (getD_get (by omega)), k3 a _ (getD_get (by omega)), ?_, ?_, ?_,
        small_cs hm (by omega), small_cs hmq (by omega), small_reach hm (by omega), small_reach hmq (by omega), small_roots hm (by omega), small_roots hmq (by omega)⟩
      · intro j hj
        rw [← csOf_get] at hj ⊢
        exact hsub _ _ hj
      · intro j hj
        rw [reachLs_get _ _ (by omega), reachOf_mem _ _ _ _ (csP_rng Fq)] at hj
        rw [reachLs_get _ _ (by omega), reachOf_mem _ _ _ _ (csP_rng Fp)]
        exact hrch _ _ hj
      · intro j hj
        obtain ⟨b, hb, rfl⟩ := roots_rng hmq (by omega) hj
        rw [back_roots hmq (by omega) hb, reachOf_mem _ _ _ _ (csP_rng Fq)] at hj
        rw [back_roots hm (by omega) (by omega), reachOf_mem _ _ _ _ (csP_rng Fp)]
        have ht : thrB q (b : Int) = thrB p (b : Int) := by rw [hq]; exact less_thr hf .open .open (b : Int)
        rw [ht] at hj
        exact ⟨hj.1, hj.2.imp id (hrch _ _)⟩)
    N 0 (by omega) (.agg p.cells) (.int .i64 x) (.int .i64 y) (.bool false) (.int .i64 0) (.int .i64 k) (.lst (codeL f.code) f.cz f.room) (.ptr 1 0 0) (.int .i64 n) (.int .i64 0) .junk .junk .junk (.bool false) (.bool false) (.bool false) (.bool false) .junk .junk .junk .junk .junk .junk .junk
  subst hxo hxh
  simp only [Int.natCast_zero, SProg.cells] at hx
  simp only [SProg.cells, k4, Tryz.f4, regEnd_nrm (lv4 _), pu4, x4_0, a4_0, im4_3, x4_1, a4_1, sx_guardO g4_1_2, sx_guardO g4_1_8, x4_2, a4_2, x4_3, a4_3, x4_4, a4_4, x4_5, a4_5, x4_6, a4_6, sx_guardO g4_6_2, sx_guardO g4_6_7, x4_7, a4_7, x4_8, a4_8, x4_9, a4_9, im4_66, x4_10, a4_10, im4_74, x4_11, a4_11, x4_12, a4_12, x4_13, a4_13, x4_14, a4_14, x4_15, a4_15, x4_16, a4_16, x4_17, a4_17, x4_18, a4_18, x4_19, a4_19, x4_21, a4_21, x4_22, a4_22, x4_24, a4_24, x4_25, a4_25, x4_23, a4_23, x4_26, a4_26, x4_27, a4_27, x4_29, a4_29, x4_30, a4_30, x4_28, a4_28, x4_31, a4_31, x4_32, a4_32, x4_34, a4_34, x4_35, a4_35, x4_33, a4_33, x4_20, a4_20, x4_36, a4_36, sxAll, arithA, Nat.reduceEqDiff, Env.keep, qt_eq, isAlloc, resultsA, packA, storeA, fieldA, indexA, unA, fieldAddrA, Rv.part, cellsAt, TD.isAgg, convH, convA, buildA, fillA, setCells, copies, optA, boundA, mapO, ↓Option.bind_some, ↓Option.bind_none, Nat.reduceBEq, Nat.reduceAdd, Nat.reduceMul, Nat.reduceLeDiff, Nat.reduceSub, Nat.reduceLT, Nat.reduceGT, Int.reduceBEq, Int.reduceLT, Int.reduceLE, bne, ↓reduceIte, sx_76, eqb_ptr, eqb_msl, cells_msl, leaf_msl, group_zero, qt_eq2, cfg2_ty, ix2, ld2, load_ref, load_ptr, lenA_lst, elems, funsL_len, codeL_len, ty26, ty24, ty22, ty23, ty38, ty36, ty42, ty40, ty5, ty3, ty2, ty31, ty28, ty29, ty4, ty9, ← hN, ← hM, hw1, e0, h20, hv, w1, hk, w3, iff, f0, m5, fa1, fa2, j5, j6, hs1, hs2, st1, hd1, st2, w4, hn, w5, ic, ob, ob', hv2, hx]
  exact leave_pure rfl rfl rfl
end
end Go.Proofs.Sx
