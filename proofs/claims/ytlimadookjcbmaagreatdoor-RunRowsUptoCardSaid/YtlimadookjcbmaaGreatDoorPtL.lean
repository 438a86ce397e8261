/-
  How a state of the machine lies in memory: a frame more, a frame less.
-/
import Derived.Test.YtlimadookjcbmaaGreatDoorPtK
set_option linter.unusedSectionVars false
set_option linter.unusedSimpArgs false
set_option linter.unusedVariables false
set_option linter.defProp false
set_option maxHeartbeats 4000000
set_option maxRecDepth 100000
namespace Go.Proofs.Sx
open Go.Rv Go.Proofs
noncomputable section
theorem setCells_three (cs : List AV) (i : Nat) (a b c : AV) : setCells cs i [a, b, c] = ((cs.set i a).set (i + 1) b).set (i + 1 + 1) c := rfl
theorem take_three {cs : List AV} {n : Nat} {xs : List AV} {a b c : AV} (h : cs.take n = xs) (hl : n + 3 ≤ cs.length) : (((cs.set n a).set (n + 1) b).set (n + 1 + 1) c).take (n + 3) = xs ++ [a, b, c] := by
  have hx : xs.length = n := by rw [← h, List.length_take]; omega
  apply List.ext_getElem?
  intro i
  by_cases hi : i < n
  · rw [List.getElem?_take_of_lt (by omega), List.getElem?_set_ne (by omega), List.getElem?_set_ne (by omega), List.getElem?_set_ne (by omega), List.getElem?_append_left (by omega), ← h, List.getElem?_take_of_lt hi]
  · by_cases h3 : i < n + 3
    · rw [List.getElem?_take_of_lt h3, List.getElem?_append_right (by omega), hx]
      obtain ⟨j, rfl⟩ : ∃ j, i = n + j := ⟨i - n, by omega⟩
      rw [show n + j - n = j by omega]
      have : j = 0 ∨ j = 1 ∨ j = 2 := by omega
      rcases this with rfl | rfl | rfl
      · rw [List.getElem?_set_ne (by omega), List.getElem?_set_ne (by omega), Nat.add_zero, List.getElem?_set_self (by omega)]; rfl
      · rw [List.getElem?_set_ne (by omega), List.getElem?_set_self (by simp; omega)]; rfl
      · rw [List.getElem?_set_self (by simp; omega)]; rfl
    · rw [List.getElem?_eq_none (by simp; omega), List.getElem?_eq_none (by simp; omega)]
theorem Stk.push {h : Heap} {ρ : Nat → Role} {t : Nat} {fs : List SFrame} {rvs : List AV} {o g : Nat} {cap : Option Nat} {cs : List AV} (S : Stk h ρ t fs rvs o g cap cs) {f : SFrame} {rv : AV}
    (F : RegS h ρ t fs.length rv f.regs) (hl : fs.length < 1000000000) (fr : ∀ o, h.length ≤ o → ρ o = .other) :
    ∃ v' h' ρ' o' g' cap' cs', appendA h 3 (.msl o 0 fs.length 3 g cap) [.agg [.int .i64 f.fn, .int .i64 f.pc, rv]] = some (v', h') ∧ v' = .msl o' 0 (fs ++ [f]).length 3 g' cap' ∧ Stk h' ρ' t (fs ++ [f]) (rvs ++ [rv]) o' g' cap' cs' ∧
      h.length ≤ h'.length ∧ (∀ x, x < h.length → ρ' x = ρ x) ∧ (∀ x, x < h.length → ρ x ≠ .stack t → h'[x]? = h[x]?) ∧ ∀ o, h'.length ≤ o → ρ' o = .other := by
  obtain ⟨c, hc1, hc2, hcap⟩ := S.room
  have ho := obj_some S.obj
  have hleaf : rv.leaf = true := by obtain ⟨_, _, _, rfl, _⟩ := F; rfl
  have hcells : (([AV.agg [.int .i64 f.fn, .int .i64 f.pc, rv]].map AV.cells).flatten) = [.int .i64 f.fn, .int .i64 f.pc, rv] := rfl
  have pre1 := S.pre
  have flen := frsC_len S.len
  have fapp := frsC_append [f] [rv] S.len
  have hregs : ∀ {h' : Heap} {ρ' : Nat → Role}, (∀ x, x < h.length → ρ x ≠ .stack t → h'[x]? = h[x]?) → (∀ x, x < h.length → ρ' x = ρ x) → ∀ (k : Nat) f' rv', (fs ++ [f])[k]? = some f' → (rvs ++ [rv])[k]? = some rv' → RegS h' ρ' t k rv' f'.regs := by
    intro h' ρ' k1 k2 k f' rv' hf' hv'
    have m : ∀ {k : Nat} {v : AV} {regs : List Int}, RegS h ρ t k v regs → RegS h' ρ' t k v regs := fun A => A.mono fun x hx hr => ⟨k1 x hx (by rw [hr]; simp), (k2 x hx).trans hr⟩
    by_cases hk : k < fs.length
    · rw [List.getElem?_append_left hk] at hf'
      rw [List.getElem?_append_left (by rw [S.len]; exact hk)] at hv'
      exact m (S.regs k f' rv' hf' hv')
    · have hk' : k = fs.length := by have := (List.getElem?_eq_some_iff.1 hf').1; simp at this; omega
      subst hk'
      rw [List.getElem?_append_right (by omega)] at hf'
      rw [List.getElem?_append_right (by rw [S.len]; omega)] at hv'
      simp only [Nat.sub_self, S.len, List.getElem?_cons_zero] at hf' hv'
      injection hf' with hf'; injection hv' with hv'; subst hf' hv'
      exact m F
  by_cases hlt : fs.length < c
  ·
    have hok : capOk cap (fs.length + 1) = true := by
      rcases hcap with rfl | rfl
      · rfl
      · simp only [capOk, decide_eq_true_eq]; omega
    have hkeep : ∀ x, x < h.length → ρ x ≠ .stack t → (h.set o (.cells (((cs.set (fs.length * 3) (.int .i64 f.fn)).set (fs.length * 3 + 1) (.int .i64 f.pc)).set (fs.length * 3 + 1 + 1) rv) g))[x]? = h[x]? := fun x hx hr => by
      rw [List.getElem?_set_ne]; intro he; exact hr (he ▸ S.role)
    refine ⟨.msl o 0 (fs.length + 1) 3 g cap, h.set o (.cells (((cs.set (fs.length * 3) (.int .i64 f.fn)).set (fs.length * 3 + 1) (.int .i64 f.pc)).set (fs.length * 3 + 1 + 1) rv) g), ρ, o, g, cap, (((cs.set (fs.length * 3) (.int .i64 f.fn)).set (fs.length * 3 + 1) (.int .i64 f.pc)).set (fs.length * 3 + 1 + 1) rv), ?_, by simp, ⟨by simp [Heap.obj, ho], S.role, by simp [S.len], ⟨c, by simpa using hc1, by simp; omega, hcap⟩, ?_, hregs hkeep fun _ _ => rfl⟩, by simp, fun _ _ => rfl, hkeep, fun x hx => fr x (by simpa using hx)⟩
    · have hle : fs.length * 3 + 3 ≤ cs.length := by omega
      simp only [appendA, hcells, S.obj, Option.bind_eq_bind, Option.bind_some, List.length_cons, List.length_nil, List.all_cons, leaf_int, hleaf, List.all_nil, List.isEmpty_cons, Nat.zero_add, setCells_three]
      simp [hle, hok]
    · rw [List.length_append, List.length_singleton, Nat.add_mul, fapp, ← pre1]
      exact take_three rfl (by omega)
  ·
    have hfc : fs.length = c := by omega
    have hfull : cs.take (fs.length * 3) = cs := List.take_of_length_le (by omega)
    rw [hfull] at pre1
    have hnle : (fs.length * 3 + 3 ≤ cs.length) = False := by simp; omega
    have he : (fs.length * 3 == cs.length) = true := by simp; omega
    have hml : (fs.length + 1 ≤ mostLen) = True := by simp [mostLen]; omega
    rcases hcap with rfl | rfl
    · have hkeep : ∀ x, x < h.length → ρ x ≠ .stack t → (h.set o (.cells (cs ++ [.int .i64 f.fn, .int .i64 f.pc, rv]) (g + 1)))[x]? = h[x]? := fun x hx hr => by
        rw [List.getElem?_set_ne]; intro he; exact hr (he ▸ S.role)
      refine ⟨.msl o 0 (fs.length + 1) 3 (g + 1) none, h.set o (.cells (cs ++ [.int .i64 f.fn, .int .i64 f.pc, rv]) (g + 1)), ρ, o, g + 1, none, cs ++ [.int .i64 f.fn, .int .i64 f.pc, rv], ?_, by simp, ⟨by simp [Heap.obj, ho], S.role, by simp [S.len], ⟨c + 1, by simp; omega, by simp; omega, .inl rfl⟩, ?_, hregs hkeep fun _ _ => rfl⟩, by simp, fun _ _ => rfl, hkeep, fun x hx => fr x (by simpa using hx)⟩
      · simp only [appendA, growA, hcells, S.obj, Option.bind_eq_bind, Option.bind_some, List.length_cons, List.length_nil, List.all_cons, leaf_int, hleaf, List.all_nil, List.isEmpty_cons, Nat.zero_add, he, hml]
        simp [hnle]
      · rw [fapp, ← pre1]
        rw [List.take_of_length_le (by simp; omega)]
        simp [frsC, frC]
    · have hkeep : ∀ x, x < h.length → ρ x ≠ .stack t → (h ++ [.cells (cs ++ [.int .i64 f.fn, .int .i64 f.pc, rv]) 0] : Heap)[x]? = h[x]? := fun x hx hr => List.getElem?_append_left hx
      have hup : ∀ x, x < h.length → upd ρ h.length (.stack t) x = ρ x := fun x hx => upd_ne (by omega)
      refine ⟨.msl h.length 0 (fs.length + 1) 3 0 none, h ++ [.cells (cs ++ [.int .i64 f.fn, .int .i64 f.pc, rv]) 0], upd ρ h.length (.stack t), h.length, 0, none, cs ++ [.int .i64 f.fn, .int .i64 f.pc, rv], ?_, by simp, ⟨by simp [Heap.obj], upd_self _ _ _, by simp [S.len], ⟨c + 1, by simp; omega, by simp; omega, .inl rfl⟩, ?_, hregs hkeep hup⟩, by simp, hup, hkeep, fun x hx => by
        simp at hx
        rw [upd_ne (by omega)]; exact fr x (by omega)⟩
      · have hck : capOk (some c) (fs.length + 1) = false := by simp only [capOk, decide_eq_false_iff_not]; omega
        simp only [appendA, growA, hcells, S.obj, Option.bind_eq_bind, Option.bind_some, List.length_cons, List.length_nil, List.all_cons, leaf_int, hleaf, List.all_nil, List.isEmpty_cons, Nat.zero_add, he, hml]
        simp [hfc]
        intro hx
        omega
      · rw [fapp, ← pre1]
        rw [List.take_of_length_le (by simp; omega)]
        simp [frsC, frC]
theorem Stk.pop {h : Heap} {ρ : Nat → Role} {t : Nat} {fs : List SFrame} {f : SFrame} {rvs : List AV} {o g : Nat} {cap : Option Nat} {cs : List AV} (S : Stk h ρ t (fs ++ [f]) rvs o g cap cs) : Stk h ρ t fs rvs.dropLast o g cap cs := by
  obtain ⟨rr, rv, rfl, hrr, _⟩ := S.last
  have hd : (rr ++ [rv]).dropLast = rr := by simp
  obtain ⟨c, q1, q2, q3⟩ := S.room
  simp only [List.length_append, List.length_singleton] at q2
  exact {
    obj := S.obj
    role := S.role
    len := by rw [hd, hrr]
    room := ⟨c, q1, by omega, q3⟩
    pre := by
      have hp := congrArg (List.take (fs.length * 3)) S.pre
      rw [List.take_take, List.length_append, List.length_singleton, show min (fs.length * 3) ((fs.length + 1) * 3) = fs.length * 3 by omega, frsC_append _ _ hrr, List.take_left' (frsC_len hrr)] at hp
      rw [hd]; exact hp
    regs := fun k f' rv' hf' hv' => by
      rw [hd] at hv'
      have k1 := (List.getElem?_eq_some_iff.1 hf').1
      exact S.regs k f' rv' (by rw [List.getElem?_append_left k1]; exact hf') (by rw [List.getElem?_append_left (by omega)]; exact hv') }
end
end Go.Proofs.Sx
namespace Go.Proofs.Sx
open Go.Rv Go.Proofs
attribute [local congr] bind_left got_left
noncomputable section
def workC (s t o k g : Nat) (i : SIns) (tr : Bool) : List AV := [.ptr s 0 0, .int .i64 t, .ptr o k g, .int .u8 i.op, .int .i64 i.r, .int .i64 i.a, .int .i64 i.b, .int .i64 i.n, .lst (intL i.args) i.z i.room, .bool tr]
structure WV (H : Heap) (w s t : Nat) (f : SFrame) (i : SIns) (o k g oR gR : Nat) (cp : Option Nat) (c : List AV) : Prop where
  hw : H.obj w 0 = some (workC s t o k g i false)
  ho : H.obj o g = some c
  d1 : c.drop (k + 1) = .int .i64 f.pc :: c.drop (k + 2)
  d2 : c.drop (k + 2) = .msl oR 0 f.regs.length 1 gR cp :: c.drop (k + 3)
  hr : H.obj oR gR = some (intL f.regs)
  wo : w ≠ o
  wr : w ≠ oR
  ro : oR ≠ o
theorem WV.lw {H : Heap} {w s t : Nat} {f : SFrame} {i : SIns} {o k g oR gR : Nat} {cp : Option Nat} {c : List AV} (V : WV H w s t f i o k g oR gR cp c) : H.live w 0 = true := live_of V.hw
theorem WV.lo {H : Heap} {w s t : Nat} {f : SFrame} {i : SIns} {o k g oR gR : Nat} {cp : Option Nat} {c : List AV} (V : WV H w s t f i o k g oR gR cp c) : H.live o g = true := live_of V.ho
theorem WV.len {H : Heap} {w s t : Nat} {f : SFrame} {i : SIns} {o k g oR gR : Nat} {cp : Option Nat} {c : List AV} (V : WV H w s t f i o k g oR gR cp c) : k + 2 < c.length := by
  have := congrArg List.length V.d2
  simp only [List.length_drop, List.length_cons] at this
  omega
theorem regs_drop {f : SFrame} {a : Int} (h0 : 0 ≤ a) (h1 : a < f.regs.length) : (intL f.regs).drop a.toNat = .int .i64 (regV f a) :: (intL f.regs).drop (a.toNat + 1) := by
  have : a.toNat < f.regs.length := by omega
  rw [List.drop_eq_getElem_cons (by simp [intL]; exact this)]
  simp [intL, regV, this]
theorem regs_idx {H : Heap} {oR gR n : Nat} {cp : Option Nat} {cs : List AV} (h : H.obj oR gR = some cs) {a : Int} (h0 : 0 ≤ a) (h1 : a < n) : indexAddrA cfg H 29 (.msl oR 0 n 1 gR cp) (.int .i64 a) = some (.ptr oR a.toNat gR) := by
  have : ¬ a < 0 := by omega
  simp [indexAddrA, ty29, ty2, live_of h, this]
  omega
theorem obj_sets {H : Heap} {o g : Nat} {cs cs' : List AV} (ho : H.obj o g = some cs) (g' : Nat) : Heap.obj (List.set H o (.cells cs' g')) o g' = some cs' := by
  have := obj_some ho
  simp [Heap.obj, this]
theorem obj_setn {H : Heap} {o p g : Nat} (x : AObj) (hn : o ≠ p) : Heap.obj (List.set H p x) o g = Heap.obj H o g := by
  simp [Heap.obj, List.getElem?_set_ne (Ne.symm hn)]
theorem live_setn {H : Heap} {o p g : Nat} (x : AObj) (hn : o ≠ p) : Heap.live (List.set H p x) o g = Heap.live H o g := by
  simp [Heap.live, obj_setn x hn]
theorem store1 {H : Heap} {ty : Nat} {td : TD} {b : Nat} {z : List AV} {o off g : Nat} {cs : List AV} {v : AV} (ht : cfg.ty ty = some ⟨td, 1, b, z⟩) (ho : H.obj o g = some cs) (hl : off < cs.length) (hv : v.cells = [v]) (hf : v.leaf = true) :
    storeA cfg H ty (.ptr o off g) v = some (H.set o (.cells (cs.set off v) g)) := by
  have : off + 1 ≤ cs.length := hl
  simp [storeA, ht, ho, hv, hf, setCells, this]
theorem pu88 : cfg.pure 88 = true := rfl
instance t88 {d : Option Nat} : TightD cfg 88 d := ⟨fun _ _ => rfl⟩
def B88 (p : List Bool) := cA p Tryz.f88.body
def R88 (p : List Bool) (i : Nat) := Code.region i (cA p Tryz.f88.body) false
theorem F88 : (∀ p i, XR cfg 88 (R88 p i) (B88 p) (cA p Tryz.f88.body).toList i false) ∧ RE cfg 88 [0, 1, 4] ∧ cfg.pure 88 = true := ⟨fun _ _ => xr rfl rfl, rE fun _ => rfl, rfl⟩
def k88 : Code := (.seq (R88 [ff] 0) (.seq (R88 [tt, ff] 1) .ret))
theorem call88 (x0 x1 : AV) (h : Heap) : call cfg 88 [x0, x1] h = (exec cfg 88 k88 [(0, x0), (1, x1)] h).bind (callEnd cfg 88 h [.tmp 4]) := call_at2 (fnat Tryz.func88 (b := k88) (by kernel_rfl) (by kernel_rfl)) rfl rfl
theorem pu73 : cfg.pure 73 = true := rfl
instance t73 {d : Option Nat} : TightD cfg 73 d := ⟨fun _ _ => rfl⟩
def B73 (p : List Bool) := cA p Tryz.f73.body
def R73 (p : List Bool) (i : Nat) := Code.region i (cA p Tryz.f73.body) false
theorem F73 : (∀ p i, XR cfg 73 (R73 p i) (B73 p) (cA p Tryz.f73.body).toList i false) ∧ RE cfg 73 [0, 2, 8] ∧ cfg.pure 73 = true := ⟨fun _ _ => xr rfl rfl, rE fun _ => rfl, rfl⟩
def k73 : Code := (.seq (R73 [ff] 0) (.seq (.seq (R73 [tt, ff, ff] 1) (.cond (.tmp 8) (.seq (R73 [tt, ff, tt, ff, ff] 2) .ret) .skip)) (.seq (R73 [tt, tt, ff] 3) .ret)))
theorem call73 (x0 : AV) (h : Heap) : call cfg 73 [x0] h = (exec cfg 73 k73 [(0, x0)] h).bind (callEnd cfg 73 h [.tmp 2]) := call_at2 (fnat Tryz.func73 (b := k73) (by kernel_rfl) (by kernel_rfl)) rfl rfl
theorem pu87 : cfg.pure 87 = false := rfl
instance t87 {d : Option Nat} : TightD cfg 87 d := ⟨fun _ _ => rfl⟩
def B87 (p : List Bool) := cA p Tryz.f87.body
def R87 (p : List Bool) (i : Nat) := Code.region i (cA p Tryz.f87.body) false
def D87 (p : List Bool) (i : Nat) := Code.region i (cA p Tryz.f87.body) true
theorem F87 : (∀ p i, XR cfg 87 (R87 p i) (B87 p) (cA p Tryz.f87.body).toList i false) ∧ XR cfg 87 (D87 [tt, ff] 2) (B87 [tt, ff]) ((cA [tt, ff] Tryz.f87.body).toList) 2 true ∧ RE cfg 87 [0, 1, 2, 7] ∧ cfg.pure 87 = false := ⟨fun _ _ => xr rfl rfl, xd (by kernel_rfl) rfl rfl, rE fun _ => rfl, rfl⟩
def k87 : Code := (.seq (.seq (R87 [ff, ff] 0) (.cond (.tmp 7) (.seq (R87 [ff, tt, ff, ff] 1) .ret) .skip)) (.seq (D87 [tt, ff] 2) (R87 [tt, tt] 3)))
theorem call87 (x0 x1 x2 : AV) (h : Heap) : call cfg 87 [x0, x1, x2] h = (exec cfg 87 k87 [(0, x0), (1, x1), (2, x2)] h).bind (callEnd cfg 87 h []) := call_at2 (fnat Tryz.func87 (b := k87) (by kernel_rfl) (by kernel_rfl)) rfl rfl
theorem pu91 : cfg.pure 91 = false := rfl
instance t91 {d : Option Nat} : TightD cfg 91 d := ⟨fun _ _ => rfl⟩
def B91 (p : List Bool) := cA p Tryz.f91.body
def R91 (p : List Bool) (i : Nat) := Code.region i (cA p Tryz.f91.body) false
theorem F91 : (∀ p i, XR cfg 91 (R91 p i) (B91 p) (cA p Tryz.f91.body).toList i false) ∧ RE cfg 91 [0, 1, 5] ∧ cfg.pure 91 = false := ⟨fun _ _ => xr rfl rfl, rE fun _ => rfl, rfl⟩
def k91 : Code := (.seq (.seq (R91 [ff, ff] 0) (.cond (.tmp 5) (.seq (R91 [ff, tt, ff, ff] 1) .ret) .skip)) (R91 [tt] 2))
theorem call91 (x0 x1 : AV) (h : Heap) : call cfg 91 [x0, x1] h = (exec cfg 91 k91 [(0, x0), (1, x1)] h).bind (callEnd cfg 91 h []) := call_at2 (fnat Tryz.func91 (b := k91) (by kernel_rfl) (by kernel_rfl)) rfl rfl
section
variable {H : Heap} {w s t : Nat} {f : SFrame} {i : SIns} {o k g oR gR : Nat} {cp : Option Nat} {c : List AV} (V : WV H w s t f i o k g oR gR cp c)
include V
theorem reg_eq {a : Int} (h0 : 0 ≤ a) (h1 : a < f.regs.length) : call cfg 88 [.ptr w 0 0, .int .i64 a] H = some (.ret (.int .i64 (regV f a)), H) := by
  rw [call88]
  have hw := V.hw
  have hlw := V.lw
  have hlo := V.lo
  simp only [workC] at hw
  simp only [F88, k88, Tryz.f88, sxAll, cA, Env.keep, qt_eq, resultsA, packA, fieldAddrA, Rv.part, TD.isAgg, ↓Option.bind_some, ↓Option.bind_none, Nat.reduceBEq, Nat.reduceAdd, ↓reduceIte, load_ptr, hw, hlw, hlo, V.ho, V.d2, V.hr, regs_idx V.hr h0 h1, regs_drop h0 h1, ty89, ty74, ty84, ty29, ty2]
  exact leave_kept rfl rfl
theorem place_eq (h0 : i.a = -1 ∨ 0 ≤ i.a ∧ i.a < f.regs.length) : call cfg 73 [.ptr w 0 0] H = some (.ret (.int .i64 (placeOf f i)), H) := by
  rw [call73]
  have hw := V.hw
  have hlw := V.lw
  simp only [workC] at hw
  by_cases h1 : i.a = -1
  · have e1 : (i.a == -1) = true := by simp [h1]
    simp only [F73, k73, Tryz.f73, sxAll, cA, arithA, Env.keep, qt_eq, resultsA, packA, fieldAddrA, Rv.part, TD.isAgg, ↓Option.bind_some, Nat.reduceBEq, Nat.reduceAdd, ↓reduceIte, load_ptr, hw, hlw, ty89, ty49, ty3, placeOf, h1]
    exact leave_kept rfl rfl
  · obtain ⟨h2, h3⟩ := h0.resolve_left h1
    have e1 : (i.a == -1) = false := by simp [h1]
    simp only [F73, k73, Tryz.f73, sxAll, cA, arithA, Env.keep, qt_eq, resultsA, packA, fieldAddrA, Rv.part, TD.isAgg, mapO, ↓Option.bind_some, Nat.reduceBEq, Nat.reduceAdd, ↓reduceIte, load_ptr, hw, hlw, e1, ty89, ty49, ty3, placeOf, h1, reg_eq V h2 h3, pu88]
    exact leave_kept rfl rfl
theorem becomes_eq {v : Int} (h0 : 0 ≤ i.r) (h1 : i.r < f.regs.length) (hpc : f.pc < 1000000) : call cfg 87 [.ptr w 0 0, .int .i64 v, .bool true] H =
    some (.ret (.tup []), (H.set oR (.cells (intL (f.regs.set i.r.toNat v)) gR)).set o (.cells (c.set (k + 1) (.int .i64 ((f.pc + 1 : Nat) : Int))) g)) := by
  rw [call87]
  have hw := V.hw
  have hlw := V.lw
  have hlo := V.lo
  simp only [workC] at hw
  have hL := V.len
  have hst := store1 (v := .int .i64 v) ty2 V.hr (off := i.r.toNat) (by simp [intL]; omega) rfl rfl
  rw [show (intL f.regs).set i.r.toNat (.int .i64 v) = intL (f.regs.set i.r.toNat v) by simp [intL]] at hst
  have hw1 := obj_setn (H := H) (g := 0) (.cells (intL (f.regs.set i.r.toNat v)) gR) V.wr
  have ho1 := obj_setn (H := H) (g := g) (.cells (intL (f.regs.set i.r.toNat v)) gR) (Ne.symm V.ro)
  have hlw1 := live_setn (H := H) (g := 0) (.cells (intL (f.regs.set i.r.toNat v)) gR) V.wr
  have hlo1 := live_setn (H := H) (g := g) (.cells (intL (f.regs.set i.r.toNat v)) gR) (Ne.symm V.ro)
  have hst2 := store1 (v := .int .i64 ((f.pc + 1 : Nat) : Int)) ty3 (ho1.trans V.ho) (off := k + 1) (by omega) rfl rfl
  have hwr := wrap_succ (i := f.pc) (by omega)
  simp only [F87, k87, Tryz.f87, sxAll, cA, arithA, Env.keep, qt_eq, resultsA, packA, unA, fieldAddrA, Rv.part, TD.isAgg, ↓Option.bind_some, ↓Option.bind_none, Nat.reduceBEq, Nat.reduceAdd, ↓reduceIte, load_ptr, hw, hlw, hlo, V.ho, V.d1, V.d2, regs_idx V.hr h0 h1, hst, hw1, ho1, hlw1, hlo1, hwr, hst2, ty89, ty49, ty74, ty84, ty29, ty3]
  exact leave_impure pu87
theorem becomes_no {v : Int} : call cfg 87 [.ptr w 0 0, .int .i64 v, .bool false] H = some (.ret (.tup []), H.set w (.cells (workC s t o k g i true) 0)) := by
  rw [call87]
  have hw := V.hw
  have hlw := V.lw
  simp only [workC] at hw ⊢
  simp only [F87, k87, Tryz.f87, sxAll, cA, Env.keep, resultsA, packA, storeA, unA, fieldAddrA, setCells, ↓Option.bind_some, Nat.reduceBEq, Nat.reduceAdd, Nat.reduceLeDiff, ↓reduceIte, hw, hlw, ty89, ty4]
  exact leave_impure pu87
theorem done_eq (hpc : f.pc < 1000000) : call cfg 91 [.ptr w 0 0, .int .i64 0] H = some (.ret (.tup []), H.set o (.cells (c.set (k + 1) (.int .i64 ((f.pc + 1 : Nat) : Int))) g)) := by
  rw [call91]
  have hw := V.hw
  have hlw := V.lw
  have hlo := V.lo
  simp only [workC] at hw
  have hL := V.len
  have hst2 := store1 (v := .int .i64 ((f.pc + 1 : Nat) : Int)) ty3 V.ho (off := k + 1) (by omega) rfl rfl
  have hwr := wrap_succ (i := f.pc) (by omega)
  simp only [F91, k91, Tryz.f91, sxAll, cA, arithA, Env.keep, qt_eq, resultsA, packA, fieldAddrA, Rv.part, TD.isAgg, ↓Option.bind_some, ↓Option.bind_none, Nat.reduceBEq, Nat.reduceAdd, bne, ↓reduceIte, load_ptr, hw, hlw, hlo, V.ho, V.d1, hwr, hst2, ty89, ty74, ty84, ty3]
  exact leave_impure pu91
theorem done_no {e : Int} (he : e ≠ 0) : call cfg 91 [.ptr w 0 0, .int .i64 e] H = some (.ret (.tup []), H.set w (.cells (workC s t o k g i true) 0)) := by
  rw [call91]
  have hw := V.hw
  have hlw := V.lw
  have e1 : (e == 0) = false := by simp [he]
  simp only [workC] at hw ⊢
  simp only [F91, k91, Tryz.f91, sxAll, cA, arithA, Env.keep, resultsA, packA, storeA, fieldAddrA, setCells, ↓Option.bind_some, Nat.reduceBEq, Nat.reduceAdd, Nat.reduceLeDiff, bne, ↓reduceIte, hw, hlw, e1, ty89, ty4]
  exact leave_impure pu91
end
end
end Go.Proofs.Sx
namespace Go.Proofs.Sx
open Go.Rv Go.Proofs
attribute [local congr] bind_left got_left
noncomputable section
theorem ptr_eq_nil {H : Heap} {t n b : Nat} {z : List AV} {o k g : Nat} (ht : cfg.ty t = some ⟨.ptr, n, b, z⟩) (hl : H.live o g = true) : binA cfg H .eql t (.ptr o k g) .nilPtr = some (.bool false) := by
  simp [binA, ht, eqC, eqA, hl]
theorem ptr_ne_nil {H : Heap} {t n b : Nat} {z : List AV} {o k g : Nat} (ht : cfg.ty t = some ⟨.ptr, n, b, z⟩) (hl : H.live o g = true) : binA cfg H .neq t (.ptr o k g) .nilPtr = some (.bool true) := by
  simp [binA, ht, eqC, eqA, hl]
theorem nil_eq_nil {H : Heap} {t n b : Nat} {z : List AV} (ht : cfg.ty t = some ⟨.ptr, n, b, z⟩) : binA cfg H .eql t .nilPtr .nilPtr = some (.bool true) := by
  simp [binA, ht, eqC, eqA]
theorem nil_ne_nil {H : Heap} {t n b : Nat} {z : List AV} (ht : cfg.ty t = some ⟨.ptr, n, b, z⟩) : binA cfg H .neq t .nilPtr .nilPtr = some (.bool false) := by
  simp [binA, ht, eqC, eqA]
theorem findA_held (l : Int) : ∀ hs : List (Int × Int), findA (.int .i64 l) (heldA hs) = some ((whoHas hs l).map (AV.int .i64))
  | [] => rfl
  | x :: r => by
    have := findA_held l r
    simp only [heldA] at this
    simp only [heldA, List.map_cons, findA, sameK, sameKey, beq_self_eq_true, if_true, Option.bind_eq_bind, Option.bind_some, whoHas, this]
    by_cases h : l = x.1
    · simp [h]
    · simp [h]
theorem putA_held (l w : Int) : ∀ hs : List (Int × Int), whoHas hs l = none → putA (.int .i64 l) (.int .i64 w) (heldA hs) = some (heldA (hs ++ [(l, w)]))
  | [], _ => rfl
  | x :: r, h => by
    by_cases hx : l = x.1
    · simp [whoHas, hx] at h
    · simp only [whoHas, if_neg hx] at h
      have := putA_held l w r h
      simp only [heldA] at this
      have e : (l == x.1) = false := by simp [hx]
      simp only [heldA, List.map_cons, List.cons_append, putA, sameK, sameKey, beq_self_eq_true, if_true, Option.bind_eq_bind, Option.bind_some, this, e, Bool.false_eq_true, if_false, Option.map_some]
theorem eraseA_held (l : Int) : ∀ hs : List (Int × Int), eraseA (.int .i64 l) (heldA hs) = some (heldA (letGo hs l))
  | [] => rfl
  | x :: r => by
    have := eraseA_held l r
    simp only [heldA] at this
    by_cases hx : l = x.1
    · simp [heldA, eraseA, sameK, sameKey, letGo, hx]
    · have e : (l == x.1) = false := by simp [hx]
      simp only [heldA, List.map_cons, eraseA, sameK, sameKey, beq_self_eq_true, if_true, Option.bind_eq_bind, Option.bind_some, this, e, Bool.false_eq_true, if_false, Option.map_some, letGo, if_neg hx]
theorem lookup_held {H : Heap} {mp : Nat} {hs : List (Int × Int)} (h : H[mp]? = some (.map (heldA hs))) (l : Int) : lookupA cfg H 106 (.map mp) (.int .i64 l) true = some (.tup [.int .i64 ((whoHas hs l).getD 0), .bool (whoHas hs l).isSome]) := by
  simp only [lookupA, ty106, ty3, keyTd, Bool.not_true, Bool.false_eq_true, if_false, Heap.ents, Heap.mapAt, h, findA_held, Option.bind_eq_bind, Option.bind_some, Rv.part, TD.isAgg, List.head?_cons]
  cases whoHas hs l <;> rfl
theorem update_held {H : Heap} {mp : Nat} {hs : List (Int × Int)} (h : H[mp]? = some (.map (heldA hs))) {l : Int} (hn : whoHas hs l = none) (w : Int) : updateA cfg H 106 (.map mp) (.int .i64 l) (.int .i64 w) = some (H.set mp (.map (heldA (hs ++ [(l, w)])))) := by
  simp only [updateA, ty106, ty3, keyTd, Bool.not_true, Bool.false_eq_true, if_false, Heap.mapAt, h, putA_held l w hs hn, Option.bind_eq_bind, Option.bind_some]
theorem delete_held {H : Heap} {mp : Nat} {hs : List (Int × Int)} (h : H[mp]? = some (.map (heldA hs))) (l : Int) (u : Nat) : moreA cfg H .delete [106, u] [.map mp, .int .i64 l] = some (.tup [], H.set mp (.map (heldA (letGo hs l)))) := by
  simp only [moreA, ty106, ty3, keyTd, Bool.not_true, Bool.false_eq_true, if_false, Heap.mapAt, h, eraseA_held, Option.bind_eq_bind, Option.bind_some]
theorem pu57 : cfg.pure 57 = true := rfl
instance t57 {d : Option Nat} : TightD cfg 57 d := ⟨fun _ _ => rfl⟩
def B57 (p : List Bool) := cA p Tryz.f57.body
def R57 (p : List Bool) (i : Nat) := Code.region i (cA p Tryz.f57.body) false
theorem F57 : (∀ p i, XR cfg 57 (R57 p i) (B57 p) (cA p Tryz.f57.body).toList i false) ∧ RE cfg 57 [0, 1, 4, 5, 6, 7, 9] ∧ cfg.pure 57 = true := ⟨fun _ _ => xr rfl rfl, rE fun _ => rfl, rfl⟩
def k57 : Code := (.seq (R57 [ff] 0) (.seq (.seq (R57 [tt, ff, ff] 1) (.cond (.tmp 9) (.seq (R57 [tt, ff, tt, ff, ff] 2) .ret) .skip)) (.seq (R57 [tt, tt, ff] 3) (.seq (R57 [tt, tt, tt, ff] 4) .ret))))
theorem call57 (x0 x1 : AV) (h : Heap) : call cfg 57 [x0, x1] h = (exec cfg 57 k57 [(0, x0), (1, x1)] h).bind (callEnd cfg 57 h [.tmp 4, .tmp 5]) := call_at2 (fnat Tryz.func57 (b := k57) (by kernel_rfl) (by kernel_rfl)) rfl rfl
theorem pu112 : cfg.pure 112 = true := rfl
instance t112 {d : Option Nat} : TightD cfg 112 d := ⟨fun _ _ => rfl⟩
def B112 (p : List Bool) := cA p Tryz.f112.body
def R112 (p : List Bool) (i : Nat) := Code.region i (cA p Tryz.f112.body) false
theorem F112 : (∀ p i, XR cfg 112 (R112 p i) (B112 p) (cA p Tryz.f112.body).toList i false) ∧ GO cfg 112 (B112 [tt, ff, ff, tt, tt, ff]) 2 11 ∧ RE cfg 112 [0, 1, 4, 5, 8] ∧ cfg.pure 112 = true := ⟨fun _ _ => xr rfl rfl, gO (by kernel_rfl), rE fun _ => rfl, rfl⟩
def k112 : Code := (.seq (R112 [ff] 0) (.seq (.block 0 (.seq (R112 [tt, ff, ff, ff] 1) (.cond (.tmp 5) (.seq (R112 [tt, ff, ff, tt, ff, ff] 2) .ret) (.seq (R112 [tt, ff, ff, tt, tt, ff] 3) (.cond (.tmp 8) (.seq (R112 [tt, ff, ff, tt, tt, tt, ff, ff] 4) .ret) .skip))))) (.seq (R112 [tt, tt, ff] 5) .ret)))
theorem call112 (x0 x1 : AV) (h : Heap) : call cfg 112 [x0, x1] h = (exec cfg 112 k112 [(0, x0), (1, x1)] h).bind (callEnd cfg 112 h [.tmp 4]) := call_at2 (fnat Tryz.func112 (b := k112) (by kernel_rfl) (by kernel_rfl)) rfl rfl
theorem pu93 : cfg.pure 93 = false := rfl
instance t93 {d : Option Nat} : TightD cfg 93 d := ⟨fun _ _ => rfl⟩
def B93 (p : List Bool) := cA p Tryz.f93.body
def R93 (p : List Bool) (i : Nat) := Code.region i (cA p Tryz.f93.body) false
theorem F93 : (∀ p i, XR cfg 93 (R93 p i) (B93 p) (cA p Tryz.f93.body).toList i false) ∧ RE cfg 93 [0, 1, 2, 6, 7, 9, 14, 25] ∧ cfg.pure 93 = false := ⟨fun _ _ => xr rfl rfl, rE fun _ => rfl, rfl⟩
def k93 : Code := (.seq (R93 [ff] 0) (.seq (.seq (R93 [tt, ff, ff] 1) (.seq (R93 [tt, ff, tt, ff] 2) (.cond (.tmp 14) (.seq (R93 [tt, ff, tt, tt, ff, ff] 3) .ret) .skip))) (.seq (.seq (R93 [tt, tt, ff, ff] 4) (.seq (R93 [tt, tt, ff, tt, ff] 5) (.cond (.tmp 25) (.seq (R93 [tt, tt, ff, tt, tt, ff, ff] 6) .ret) .skip))) (.seq (R93 [tt, tt, tt, ff] 7) (.seq (R93 [tt, tt, tt, tt, ff] 8) .ret)))))
theorem call93 (x0 x1 x2 : AV) (h : Heap) : call cfg 93 [x0, x1, x2] h = (exec cfg 93 k93 [(0, x0), (1, x1), (2, x2)] h).bind (callEnd cfg 93 h [.tmp 6]) := call_at2 (fnat Tryz.func93 (b := k93) (by kernel_rfl) (by kernel_rfl)) rfl rfl
theorem pu94 : cfg.pure 94 = false := rfl
instance t94 {d : Option Nat} : TightD cfg 94 d := ⟨fun _ _ => rfl⟩
def B94 (p : List Bool) := cA p Tryz.f94.body
def R94 (p : List Bool) (i : Nat) := Code.region i (cA p Tryz.f94.body) false
theorem F94 : (∀ p i, XR cfg 94 (R94 p i) (B94 p) (cA p Tryz.f94.body).toList i false) ∧ GO cfg 94 (B94 [tt, tt, ff, tt, ff]) 2 27 ∧ RE cfg 94 [0, 1, 2, 6, 7, 8, 9, 14, 31] ∧ cfg.pure 94 = false := ⟨fun _ _ => xr rfl rfl, gO (by kernel_rfl), rE fun _ => rfl, rfl⟩
def k94 : Code := (.seq (R94 [ff] 0) (.seq (.seq (R94 [tt, ff, ff] 1) (.seq (R94 [tt, ff, tt, ff] 2) (.cond (.tmp 14) (.seq (R94 [tt, ff, tt, tt, ff, ff] 3) .ret) .skip))) (.seq (.seq (R94 [tt, tt, ff, ff] 4) (.seq (R94 [tt, tt, ff, tt, ff] 5) (.cond (.tmp 31) (.seq (R94 [tt, tt, ff, tt, tt, ff, ff] 6) .ret) .skip))) (.seq (R94 [tt, tt, tt, ff] 7) (.seq (R94 [tt, tt, tt, tt, ff] 8) .ret)))))
theorem call94 (x0 x1 x2 : AV) (h : Heap) : call cfg 94 [x0, x1, x2] h = (exec cfg 94 k94 [(0, x0), (1, x1), (2, x2)] h).bind (callEnd cfg 94 h [.tmp 6]) := call_at2 (fnat Tryz.func94 (b := k94) (by kernel_rfl) (by kernel_rfl)) rfl rfl
theorem pu95 : cfg.pure 95 = true := rfl
instance t95 {d : Option Nat} : TightD cfg 95 d := ⟨fun _ _ => rfl⟩
def B95 (p : List Bool) := cA p Tryz.f95.body
def R95 (p : List Bool) (i : Nat) := Code.region i (cA p Tryz.f95.body) false
theorem F95 : (∀ p i, XR cfg 95 (R95 p i) (B95 p) (cA p Tryz.f95.body).toList i false) ∧ GO cfg 95 (B95 [tt, ff, ff, tt, tt, ff]) 2 14 ∧ GO cfg 95 (B95 [tt, ff, ff, tt, tt, tt, tt, ff]) 2 26 ∧ RE cfg 95 [0, 1, 2, 6, 7, 8, 11, 23] ∧ cfg.pure 95 = true := ⟨fun _ _ => xr rfl rfl, gO (by kernel_rfl), gO (by kernel_rfl), rE fun _ => rfl, rfl⟩
def k95 : Code := (.seq (R95 [ff] 0) (.seq (.block 0 (.seq (R95 [tt, ff, ff, ff] 1) (.cond (.tmp 8) (.seq (R95 [tt, ff, ff, tt, ff, ff] 2) .ret) (.seq (R95 [tt, ff, ff, tt, tt, ff] 3) (.cond (.tmp 11) (.seq (R95 [tt, ff, ff, tt, tt, tt, ff, ff] 4) .ret) (.seq (R95 [tt, ff, ff, tt, tt, tt, tt, ff] 5) (.cond (.tmp 23) (.seq (R95 [tt, ff, ff, tt, tt, tt, tt, tt, ff, ff] 6) .ret) .skip))))))) (.seq (R95 [tt, tt, ff] 7) .ret)))
theorem call95 (x0 x1 x2 : AV) (h : Heap) : call cfg 95 [x0, x1, x2] h = (exec cfg 95 k95 [(0, x0), (1, x1), (2, x2)] h).bind (callEnd cfg 95 h [.tmp 6, .tmp 7]) := call_at2 (fnat Tryz.func95 (b := k95) (by kernel_rfl) (by kernel_rfl)) rfl rfl
theorem pu74 : cfg.pure 74 = true := rfl
instance t74 {d : Option Nat} : TightD cfg 74 d := ⟨fun _ _ => rfl⟩
def B74 (p : List Bool) := cA p Tryz.f74.body
def R74 (p : List Bool) (i : Nat) := Code.region i (cA p Tryz.f74.body) false
theorem F74 : (∀ p i, XR cfg 74 (R74 p i) (B74 p) (cA p Tryz.f74.body).toList i false) ∧ RE cfg 74 [0, 1, 2, 6, 7, 8, 9, 18] ∧ cfg.pure 74 = true := ⟨fun _ _ => xr rfl rfl, rE fun _ => rfl, rfl⟩
def k74 : Code := (.seq (R74 [ff] 0) (.seq (R74 [tt, ff] 1) (.seq (.seq (R74 [tt, tt, ff, ff] 2) (.cond (.tmp 18) (.seq (R74 [tt, tt, ff, tt, ff, ff] 3) .ret) .skip)) (.seq (R74 [tt, tt, tt, ff] 4) .ret))))
theorem call74 (x0 x1 x2 : AV) (h : Heap) : call cfg 74 [x0, x1, x2] h = (exec cfg 74 k74 [(0, x0), (1, x1), (2, x2)] h).bind (callEnd cfg 74 h [.tmp 6, .tmp 7]) := call_at2 (fnat Tryz.func74 (b := k74) (by kernel_rfl) (by kernel_rfl)) rfl rfl
theorem pu92 : cfg.pure 92 = false := rfl
instance t92 {d : Option Nat} : TightD cfg 92 d := ⟨fun _ _ => rfl⟩
def B92 (p : List Bool) := cA p Tryz.f92.body
def R92 (p : List Bool) (i : Nat) := Code.region i (cA p Tryz.f92.body) false
theorem F92 : (∀ p i, XR cfg 92 (R92 p i) (B92 p) (cA p Tryz.f92.body).toList i false) ∧ RE cfg 92 [0, 1, 2, 3, 8, 9, 10, 19] ∧ cfg.pure 92 = false := ⟨fun _ _ => xr rfl rfl, rE fun _ => rfl, rfl⟩
def k92 : Code := (.seq (R92 [ff] 0) (.seq (R92 [tt, ff] 1) (.seq (.seq (R92 [tt, tt, ff, ff] 2) (.cond (.tmp 19) (R92 [tt, tt, ff, tt, ff] 3) .skip)) (.seq (R92 [tt, tt, tt, ff] 4) .ret))))
theorem call92 (x0 x1 x2 x3 : AV) (h : Heap) : call cfg 92 [x0, x1, x2, x3] h = (exec cfg 92 k92 [(0, x0), (1, x1), (2, x2), (3, x3)] h).bind (callEnd cfg 92 h [.tmp 8]) := call_at2 (fnat Tryz.func92 (b := k92) (by kernel_rfl) (by kernel_rfl)) rfl rfl
section
variable {H : Heap} {m mp : Nat} {cv : AV} {n : Int} {hs : List (Int × Int)} (hm : H.obj m 0 = some [cv, .int .i64 n, .map mp]) (hh : H[mp]? = some (.map (heldA hs)))
include hm
theorem memLock_eq (l : Int) : call cfg 112 [.ptr m 0 0, .int .i64 l] H = some (.ret (.int .i64 (if l < 0 ∨ n ≤ l then 1 else 0)), H) := by
  rw [call112]
  have hl := live_of hm
  have e0 := ptr_eq_nil (H := H) (k := 0) ty65 hl
  by_cases h1 : l < 0
  · have e1 : (if l < 0 ∨ n ≤ l then (1 : Int) else 0) = 1 := by simp [h1]
    simp only [F112, k112, Tryz.f112, sxAll, cA, arithA, Env.keep, resultsA, packA, ↓Option.bind_some, Nat.reduceBEq, ↓reduceIte, e0, h1]
    exact leave_kept rfl rfl
  · by_cases h2 : l ≥ n
    · have e1 : (if l < 0 ∨ n ≤ l then (1 : Int) else 0) = 1 := by simp [show n ≤ l from h2]
      simp only [F112, k112, Tryz.f112, sxAll, cA, arithA, Env.keep, qt_eq, resultsA, packA, fieldAddrA, Rv.part, TD.isAgg, ↓Option.bind_some, Nat.reduceBEq, Nat.reduceAdd, ↓reduceIte, load_ptr, hm, hl, e0, h1, h2, ty108, ty3]
      exact leave_kept rfl rfl
    · have e1 : (if l < 0 ∨ n ≤ l then (1 : Int) else 0) = 0 := by simp only [ge_iff_le] at h2; simp [h1, h2]
      simp only [F112, k112, Tryz.f112, sxAll, cA, arithA, Env.keep, qt_eq, resultsA, packA, fieldAddrA, Rv.part, TD.isAgg, ↓Option.bind_some, Nat.reduceBEq, Nat.reduceAdd, ↓reduceIte, load_ptr, hm, hl, e0, h1, h2, ty108, ty3]
      exact leave_kept rfl rfl
include hh
theorem memHolder_eq (l : Int) : call cfg 57 [.ptr m 0 0, .int .i64 l] H = some (.ret (.tup [.int .i64 ((whoHas hs l).getD 0), .bool (whoHas hs l).isSome]), H) := by
  rw [call57]
  have hl := live_of hm
  have e0 := ptr_eq_nil (H := H) (k := 0) ty65 hl
  have e2 := lookup_held hh l
  simp only [F57, k57, Tryz.f57, sxAll, cA, Env.keep, qt_eq, resultsA, packA, fieldAddrA, Rv.part, TD.isAgg, ↓Option.bind_some, Nat.reduceBEq, Nat.reduceAdd, ↓reduceIte, load_ptr, hm, hl, e0, e2, ty108, ty106, known_map]
  exact leave_kept rfl rfl
theorem memTake_eq {l : Int} (h0 : 0 ≤ l) (h1 : l < n) (w : Int) : call cfg 93 [.ptr m 0 0, .int .i64 l, .int .i64 w] H =
    if (whoHas hs l).isNone then some (.ret (.int .i64 0), H.set mp (.map (heldA (hs ++ [(l, w)])))) else some (.ret (.int .i64 6), H) := by
  rw [call93]
  have hl := live_of hm
  have e1 : (if l < 0 ∨ n ≤ l then (1 : Int) else 0) = 0 := by rw [if_neg (by omega)]
  have e3 := memLock_eq hm l
  rw [e1] at e3
  have e2 := lookup_held hh l
  cases hw : whoHas hs l with
  | none =>
    rw [hw] at e2
    have e4 := update_held hh hw w
    simp only [F93, k93, Tryz.f93, sxAll, cA, arithA, Env.keep, qt_eq, resultsA, packA, fieldAddrA, Rv.part, TD.isAgg, mapO, ↓Option.bind_some, Nat.reduceBEq, Nat.reduceAdd, bne, ↓reduceIte, load_ptr, hm, hl, e2, e3, e4, pu112, ty108, ty106, known_map, Option.isNone_none]
    exact leave_impure pu93
  | some x =>
    rw [hw] at e2
    simp only [F93, k93, Tryz.f93, sxAll, cA, arithA, Env.keep, qt_eq, resultsA, packA, fieldAddrA, Rv.part, TD.isAgg, mapO, ↓Option.bind_some, Nat.reduceBEq, Nat.reduceAdd, bne, ↓reduceIte, load_ptr, hm, hl, e2, e3, pu112, ty108, ty106, known_map, Option.isNone_some]
    exact leave_impure pu93
theorem memGive_eq {l : Int} (h0 : 0 ≤ l) (h1 : l < n) (w : Int) : call cfg 94 [.ptr m 0 0, .int .i64 l, .int .i64 w] H =
    if whoHas hs l = some w then some (.ret (.int .i64 0), H.set mp (.map (heldA (letGo hs l)))) else some (.ret (.int .i64 69), H) := by
  rw [call94]
  have hl := live_of hm
  have e1 : (if l < 0 ∨ n ≤ l then (1 : Int) else 0) = 0 := by rw [if_neg (by omega)]
  have e3 := memLock_eq hm l
  rw [e1] at e3
  have e2 := lookup_held hh l
  cases hw : whoHas hs l with
  | none =>
    rw [hw] at e2
    simp only [F94, k94, Tryz.f94, sxAll, cA, arithA, Env.keep, qt_eq, resultsA, packA, unA, fieldAddrA, Rv.part, TD.isAgg, mapO, ↓Option.bind_some, Nat.reduceBEq, Nat.reduceAdd, bne, ↓reduceIte, load_ptr, hm, hl, e2, e3, pu112, ty108, ty106, known_map, reduceCtorEq]
    exact leave_impure pu94
  | some x =>
    rw [hw] at e2
    by_cases hx : x = w
    · subst hx
      have e4 := delete_held hh l 3
      simp only [F94, k94, Tryz.f94, sxAll, cA, arithA, Env.keep, qt_eq, resultsA, packA, unA, fieldAddrA, Rv.part, TD.isAgg, mapO, ↓Option.bind_some, Nat.reduceBEq, Nat.reduceAdd, bne, ↓reduceIte, load_ptr, hm, hl, e2, e3, e4, pu112, ty108, ty106, known_map]
      exact leave_impure pu94
    · have hx' : (x == w) = false := by simp [hx]
      simp only [F94, k94, Tryz.f94, sxAll, cA, arithA, Env.keep, qt_eq, resultsA, packA, unA, fieldAddrA, Rv.part, TD.isAgg, mapO, ↓Option.bind_some, Nat.reduceBEq, Nat.reduceAdd, bne, ↓reduceIte, load_ptr, hm, hl, e2, e3, pu112, ty108, ty106, known_map, hx', Option.some.injEq, hx]
      exact leave_impure pu94
end
section
variable {H : Heap} {ρ : Nat → Role} {m mp : Nat} {cv : AV} {cs : List AV} {n : Int} {L : List (List Int)} (hm : H.obj m 0 = some [cv, .int .i64 n, .map mp]) (hA : Arr H ρ .cArr cv cs) (hl : cs.length = L.length)
  (hc : ∀ (i : Nat) v l, cs[i]? = some v → L[i]? = some l → ∃ o g cap, v = .msl o 0 l.length 1 g cap ∧ H.obj o g = some (intL l) ∧ ρ o = .cell i)
theorem Arr.len {H : Heap} {ρ : Nat → Role} {r : Role} {v : AV} {xs : List AV} (A : Arr H ρ r v xs) (e : Nat) : lenA H (.slice e) v = some xs.length := by
  rcases A with ⟨rfl, rfl⟩ | ⟨o, g, cap, rfl, ho, _⟩
  · rfl
  · simp [lenA, Heap.live, ho]
theorem Arr.known {H : Heap} {ρ : Nat → Role} {r : Role} {v : AV} {xs : List AV} (A : Arr H ρ r v xs) : known v = some v := by
  rcases A with ⟨rfl, rfl⟩ | ⟨o, g, cap, rfl, ho, _⟩ <;> rfl
theorem Arr.cells {H : Heap} {ρ : Nat → Role} {r : Role} {v : AV} {xs : List AV} (A : Arr H ρ r v xs) : v.cells = [v] := by
  rcases A with ⟨rfl, rfl⟩ | ⟨o, g, cap, rfl, ho, _⟩ <;> rfl
theorem Arr.leaf {H : Heap} {ρ : Nat → Role} {r : Role} {v : AV} {xs : List AV} (A : Arr H ρ r v xs) : v.leaf = true := by
  rcases A with ⟨rfl, rfl⟩ | ⟨o, g, cap, rfl, ho, _⟩ <;> rfl
theorem Arr.at {H : Heap} {ρ : Nat → Role} {r : Role} {v x : AV} {xs : List AV} (A : Arr H ρ r v xs) {i : Int} (h0 : 0 ≤ i) (hx : xs[i.toNat]? = some x) {st et a b b' : Nat} {z z' : List AV} {td : TD} (hs : cfg.ty st = some ⟨.slice et, a, b, z⟩) (he : cfg.ty et = some ⟨td, 1, b', z'⟩) :
    ∃ o g, indexAddrA cfg H st v (.int .i64 i) = some (.ptr o i.toNat g) ∧ H.obj o g = some xs ∧ ρ o = r ∧ xs.drop i.toNat = x :: xs.drop (i.toNat + 1) := by
  rcases A with ⟨rfl, rfl⟩ | ⟨o, g, cap, rfl, ho, hr, _⟩
  · simp at hx
  · have hi := (List.getElem?_eq_some_iff.1 hx)
    obtain ⟨hi, hx⟩ := hi
    refine ⟨o, g, ?_, ho, hr, ?_⟩
    · have : ¬ i < 0 := by omega
      simp [indexAddrA, hs, he, live_of ho, this]
      omega
    · rw [List.drop_eq_getElem_cons hi, hx]
inductive CellAt (H : Heap) (ρ : Nat → Role) (cs : List AV) (L : List (List Int)) (a b : Int) : AV → Int → Prop where
  | arg : (a < 0 ∨ (L.length : Int) ≤ a) → CellAt H ρ cs L a b .nilPtr 1
  | none : 0 ≤ a → (∃ l, L[a.toNat]? = some l ∧ (b < 0 ∨ (l.length : Int) ≤ b)) → CellAt H ρ cs L a b .nilPtr 5
  | ok {l o g cap} : 0 ≤ a → 0 ≤ b → L[a.toNat]? = some l → b < l.length → cs[a.toNat]? = some (.msl o 0 l.length 1 g cap) → H.obj o g = some (intL l) → ρ o = .cell a.toNat → CellAt H ρ cs L a b (.ptr o b.toNat g) 0
include hm hA hl hc
theorem memCell_eq (a b : Int) : ∃ v e, call cfg 95 [.ptr m 0 0, .int .i64 a, .int .i64 b] H = some (.ret (.tup [v, .int .i64 e]), H) ∧ CellAt H ρ cs L a b v e := by
  have hl0 := live_of hm
  have e0 := ptr_eq_nil (H := H) (k := 0) ty65 hl0
  have kc := hA.known
  have kl := hA.len 29
  by_cases h1 : a < 0
  · refine ⟨.nilPtr, 1, ?_, .arg (.inl h1)⟩
    rw [call95]
    simp only [F95, k95, Tryz.f95, sxAll, cA, arithA, Env.keep, resultsA, packA, ↓Option.bind_some, Nat.reduceBEq, ↓reduceIte, e0, h1]
    exact leave_kept rfl rfl
  by_cases h2 : a ≥ L.length
  · refine ⟨.nilPtr, 1, ?_, .arg (.inr h2)⟩
    rw [call95]
    rw [← hl] at h2
    simp only [F95, k95, Tryz.f95, sxAll, cA, arithA, Env.keep, qt_eq, resultsA, packA, fieldAddrA, Rv.part, TD.isAgg, ↓Option.bind_some, Nat.reduceBEq, Nat.reduceAdd, ↓reduceIte, load_ptr, hm, hl0, e0, h1, h2, ty108, ty30, kc, kl]
    exact leave_kept rfl rfl
  obtain ⟨l, hL⟩ : ∃ l, L[a.toNat]? = some l := ⟨_, List.getElem?_eq_getElem (by omega)⟩
  obtain ⟨v, hv⟩ : ∃ v, cs[a.toNat]? = some v := ⟨_, List.getElem?_eq_getElem (by omega)⟩
  obtain ⟨o, g, cap, rfl, ho, hr⟩ := hc a.toNat v l hv hL
  obtain ⟨o1, g1, i1, i2, i3, i4⟩ := hA.at (i := a) (by omega) hv ty30 ty29
  have lo := live_of ho
  have h2' : (a ≥ cs.length) = False := by simp; omega
  have kv : known (.msl o 0 l.length 1 g cap) = some (.msl o 0 l.length 1 g cap) := rfl
  have kl2 : lenA H (.slice 2) (.msl o 0 l.length 1 g cap) = some l.length := by simp [lenA, lo]
  by_cases h3 : b < 0
  · refine ⟨.nilPtr, 5, ?_, .none (by omega) ⟨l, hL, .inl h3⟩⟩
    rw [call95]
    simp only [F95, k95, Tryz.f95, sxAll, cA, arithA, Env.keep, qt_eq, resultsA, packA, fieldAddrA, Rv.part, TD.isAgg, ↓Option.bind_some, Nat.reduceBEq, Nat.reduceAdd, ↓reduceIte, load_ptr, hm, hl0, e0, h1, h2', h3, ty108, ty30, kc, kl]
    exact leave_kept rfl rfl
  by_cases h4 : b ≥ l.length
  · refine ⟨.nilPtr, 5, ?_, .none (by omega) ⟨l, hL, .inr h4⟩⟩
    rw [call95]
    simp only [F95, k95, Tryz.f95, sxAll, cA, arithA, Env.keep, qt_eq, resultsA, packA, fieldAddrA, Rv.part, TD.isAgg, ↓Option.bind_some, Nat.reduceBEq, Nat.reduceAdd, ↓reduceIte, load_ptr, hm, hl0, e0, h1, h2', h3, h4, ty108, ty30, ty29, kc, kl, i1, i2, i4, kl2]
    exact leave_kept rfl rfl
  have i5 := regs_idx (cp := cap) ho (a := b) (n := l.length) (by omega) (by omega)
  refine ⟨.ptr o b.toNat g, 0, ?_, .ok (by omega) (by omega) hL (by omega) hv ho hr⟩
  rw [call95]
  simp only [F95, k95, Tryz.f95, sxAll, cA, arithA, Env.keep, qt_eq, resultsA, packA, fieldAddrA, Rv.part, TD.isAgg, ↓Option.bind_some, Nat.reduceBEq, Nat.reduceAdd, ↓reduceIte, load_ptr, hm, hl0, e0, h1, h2', h3, h4, ty108, ty30, ty29, kc, kl, i1, i2, i4, i5, kl2]
  have := obj_some ho
  exact leave_kept rfl (by simp [freezeV, mapO, this])
theorem memGet_eq (a b : Int) {σ : SSt} (hσ : σ.cells = L) : ∃ e, call cfg 74 [.ptr m 0 0, .int .i64 a, .int .i64 b] H = some (.ret (.tup [.int .i64 ((cellOf σ a b).getD 0), .int .i64 e]), H) ∧ (e = 0 ↔ (cellOf σ a b).isSome = true) := by
  obtain ⟨v, e, h1, h2⟩ := memCell_eq hm hA hl hc a b
  refine ⟨e, ?_, ?_⟩
  · rw [call74]
    cases h2 with
    | arg h =>
      have : cellOf σ a b = none := by
        unfold cellOf
        split
        · rw [hσ, List.getElem?_eq_none (by omega)]; rfl
        · rfl
      simp only [F74, k74, Tryz.f74, sxAll, cA, arithA, Env.keep, qt_eq, resultsA, packA, mapO, ↓Option.bind_some, Nat.reduceBEq, Int.reduceBEq, bne, ↓reduceIte, h1, pu95, known_nilPtr, this]
      exact leave_kept rfl rfl
    | none h h' =>
      obtain ⟨l, h3, h4⟩ := h'
      have : cellOf σ a b = none := by
        unfold cellOf
        split
        · rw [hσ, h3, Option.bind_some, List.getElem?_eq_none (by omega)]
        · rfl
      simp only [F74, k74, Tryz.f74, sxAll, cA, arithA, Env.keep, qt_eq, resultsA, packA, mapO, ↓Option.bind_some, Nat.reduceBEq, Int.reduceBEq, bne, ↓reduceIte, h1, pu95, known_nilPtr, this]
      exact leave_kept rfl rfl
    | @ok l o g cap h3 h4 h5 h6 h7 h8 h9 =>
      have hlo := live_of h8
      have hb : b.toNat < l.length := by omega
      have : cellOf σ a b = some (l[b.toNat]) := by
        unfold cellOf
        rw [if_pos ⟨h3, h4⟩, hσ, h5, Option.bind_some, List.getElem?_eq_getElem hb]
      have hd : (intL l).drop b.toNat = .int .i64 (l[b.toNat]) :: (intL l).drop (b.toNat + 1) := by
        rw [List.drop_eq_getElem_cons (by simp [intL]; exact hb)]
        simp [intL]
      simp only [F74, k74, Tryz.f74, sxAll, cA, arithA, Env.keep, qt_eq, resultsA, packA, Rv.part, TD.isAgg, mapO, ↓Option.bind_some, Nat.reduceBEq, bne, ↓reduceIte, h1, pu95, this, load_ptr, hlo, h8, hd, ty2]
      exact leave_kept rfl rfl
  · cases h2 with
    | arg h =>
      have : cellOf σ a b = none := by
        unfold cellOf
        split
        · rw [hσ, List.getElem?_eq_none (by omega)]; rfl
        · rfl
      simp [this]
    | none h h' =>
      obtain ⟨l, h3, h4⟩ := h'
      have : cellOf σ a b = none := by
        unfold cellOf
        split
        · rw [hσ, h3, Option.bind_some, List.getElem?_eq_none (by omega)]
        · rfl
      simp [this]
    | @ok l o g cap h3 h4 h5 h6 h7 h8 h9 =>
      have hb : b.toNat < l.length := by omega
      have : cellOf σ a b = some (l[b.toNat]) := by
        unfold cellOf
        rw [if_pos ⟨h3, h4⟩, hσ, h5, Option.bind_some, List.getElem?_eq_getElem hb]
      simp [this]
theorem memSet_eq (a b v : Int) {σ : SSt} (hσ : σ.cells = L) : (cellOf σ a b = none ∧ ∃ e, e ≠ 0 ∧ call cfg 92 [.ptr m 0 0, .int .i64 a, .int .i64 b, .int .i64 v] H = some (.ret (.int .i64 e), H)) ∨
    ((cellOf σ a b).isSome = true ∧ ∃ l o g cap, L[a.toNat]? = some l ∧ cs[a.toNat]? = some (.msl o 0 l.length 1 g cap) ∧ call cfg 92 [.ptr m 0 0, .int .i64 a, .int .i64 b, .int .i64 v] H = some (.ret (.int .i64 0), H.set o (.cells (intL (l.set b.toNat v)) g))) := by
  obtain ⟨w, e, h1, h2⟩ := memCell_eq hm hA hl hc a b
  cases h2 with
  | arg h =>
    left
    have : cellOf σ a b = none := by
      unfold cellOf
      split
      · rw [hσ, List.getElem?_eq_none (by omega)]; rfl
      · rfl
    refine ⟨this, 1, by decide, ?_⟩
    rw [call92]
    simp only [F92, k92, Tryz.f92, sxAll, cA, arithA, Env.keep, qt_eq, resultsA, packA, mapO, ↓Option.bind_some, Nat.reduceBEq, Int.reduceBEq, ↓reduceIte, h1, pu95, known_nilPtr]
    exact leave_impure pu92
  | none h h' =>
    left
    obtain ⟨l, h3, h4⟩ := h'
    have : cellOf σ a b = none := by
      unfold cellOf
      split
      · rw [hσ, h3, Option.bind_some, List.getElem?_eq_none (by omega)]
      · rfl
    refine ⟨this, 5, by decide, ?_⟩
    rw [call92]
    simp only [F92, k92, Tryz.f92, sxAll, cA, arithA, Env.keep, qt_eq, resultsA, packA, mapO, ↓Option.bind_some, Nat.reduceBEq, Int.reduceBEq, ↓reduceIte, h1, pu95, known_nilPtr]
    exact leave_impure pu92
  | @ok l o g cap h3 h4 h5 h6 h7 h8 h9 =>
    right
    have hlo := live_of h8
    have hb : b.toNat < l.length := by omega
    have : cellOf σ a b = some (l[b.toNat]) := by
      unfold cellOf
      rw [if_pos ⟨h3, h4⟩, hσ, h5, Option.bind_some, List.getElem?_eq_getElem hb]
    refine ⟨by rw [this]; rfl, l, o, g, cap, h5, h7, ?_⟩
    have hst := store1 (v := .int .i64 v) ty2 h8 (off := b.toNat) (by simp [intL]; omega) rfl rfl
    rw [show (intL l).set b.toNat (.int .i64 v) = intL (l.set b.toNat v) by simp [intL]] at hst
    rw [call92]
    simp only [F92, k92, Tryz.f92, sxAll, cA, arithA, Env.keep, qt_eq, resultsA, packA, mapO, ↓Option.bind_some, Nat.reduceBEq, ↓reduceIte, h1, pu95, hlo, hst]
    exact leave_impure pu92
end
end
end Go.Proofs.Sx
namespace Go.Proofs.Sx
open Go.Rv Go.Proofs
attribute [local congr] bind_left got_left
noncomputable section
structure Ctx (p : SProg) (H : Heap) (ρ : Nat → Role) (s : Nat) (σ : SSt) (t : Nat) (rest : List SFrame) (f : SFrame) (i : SIns) (w m mp : Nat) (cv tv ov : AV) (cs ts : List AV) (o g : Nat) (cap : Option Nat) (rvs c : List AV) : Prop where
  rep : Rep p H ρ s σ m mp cv tv ov cs ts
  hv : ts[t]? = some (.msl o 0 (rest ++ [f]).length 3 g cap)
  hf : σ.thr[t]? = some (rest ++ [f])
  stk : Stk H ρ t (rest ++ [f]) rvs o g cap c
  hw : H.obj w 0 = some (workC s t o (rest.length * 3) g i false)
  wR : ρ w = .work
def Did (p : SProg) (H : Heap) (ρ : Nat → Role) (s t w : Nat) (i : SIns) (x : SSt × Bool) (H' : Heap) : Prop :=
  ∃ ρ' o k g, At p H' ρ' s x.1 ∧ H'.obj w 0 = some (workC s t o k g i x.2) ∧ ρ' w = .work ∧ Frm H ρ H' ρ'
section
variable {p : SProg} {H : Heap} {ρ : Nat → Role} {s : Nat} {σ : SSt} {t : Nat} {rest : List SFrame} {f : SFrame} {i : SIns} {w m mp : Nat} {cv tv ov : AV} {cs ts : List AV} {o g : Nat} {cap : Option Nat} {rvs c : List AV} (X : Ctx p H ρ s σ t rest f i w m mp cv tv ov cs ts o g cap rvs c)
include X
theorem Ctx.view : ∃ oR gR cp, WV H w s t f i o (rest.length * 3) g oR gR cp c ∧ ρ oR = .regs t rest.length ∧ c[rest.length * 3 + 2]? = some (.msl oR 0 f.regs.length 1 gR cp) := by
  obtain ⟨rr, rv, rfl, hrr, ⟨oR, gR, cp, rfl, hR, hRr⟩, hcl, k0, k1, k2, hd⟩ := X.stk.last
  refine ⟨oR, gR, cp, ⟨X.hw, X.stk.obj, ?_, ?_, hR, ?_, ?_, ?_⟩, hRr, k2⟩
  · have := congrArg (List.drop 1) hd
    simp only [List.drop_drop, List.drop_succ_cons, List.drop_zero] at this
    rw [this]
    congr 1
    have := congrArg (List.drop 2) hd
    simp only [List.drop_drop, List.drop_succ_cons, List.drop_zero] at this
    exact this.symm
  · have := congrArg (List.drop 2) hd
    simp only [List.drop_drop, List.drop_succ_cons, List.drop_zero] at this
    exact this
  · intro hc; have := X.wR; rw [hc, X.stk.role] at this; cases this
  · intro hc; have := X.wR; rw [hc, hRr] at this; cases this
  · intro hc; rw [hc, X.stk.role] at hRr; cases hRr
theorem Ctx.wL : w < H.length := obj_some X.hw
theorem Ctx.topped {oR gR : Nat} {cp : Option Nat} (V : WV H w s t f i o (rest.length * 3) g oR gR cp c) (hRr : ρ oR = .regs t rest.length) (k2 : c[rest.length * 3 + 2]? = some (.msl oR 0 f.regs.length 1 gR cp)) {regs' : List Int} (hl : regs'.length = f.regs.length) (pc' : Nat) :
    Did p H ρ s t w i (setStk σ t (rest ++ [⟨f.fn, pc', regs'⟩]), false) ((H.set oR (.cells (intL regs') gR)).set o (.cells (c.set (rest.length * 3 + 1) (.int .i64 pc')) g)) := by
  have R := X.rep.top X.hv X.hf rfl X.stk ⟨_, V.hr⟩ hRr ⟨_, k2⟩ hl pc'
  refine ⟨ρ, o, rest.length * 3, g, ⟨_, _, _, _, _, _, _, R⟩, ?_, X.wR, ⟨by simp, fun x hx hr => ⟨?_, hr⟩⟩⟩
  · rw [obj_setn _ V.wo, obj_setn _ V.wr]; exact V.hw
  · rw [List.getElem?_set_ne (by intro hc; rw [← hc, X.stk.role] at hr; cases hr), List.getElem?_set_ne (by intro hc; rw [← hc, hRr] at hr; cases hr)]
theorem Ctx.placed {oR gR : Nat} {cp : Option Nat} (V : WV H w s t f i o (rest.length * 3) g oR gR cp c) (hRr : ρ oR = .regs t rest.length) (k2 : c[rest.length * 3 + 2]? = some (.msl oR 0 f.regs.length 1 gR cp)) (pc' : Nat) :
    Did p H ρ s t w i (setStk σ t (rest ++ [⟨f.fn, pc', f.regs⟩]), false) (H.set o (.cells (c.set (rest.length * 3 + 1) (.int .i64 pc')) g)) := by
  have := X.topped V hRr k2 rfl pc'
  rwa [show H.set oR (.cells (intL f.regs) gR) = H from set_get_same (by
    have := V.hr
    unfold Heap.obj at this
    split at this
    · rename_i h1
      split at this
      · rename_i h2
        injection this with this; subst this
        have := beq_iff_eq.1 h2; subst this
        exact h1
      · cases this
    · cases this)] at this
theorem Ctx.trapped : Did p H ρ s t w i (σ, true) (H.set w (.cells (workC s t o (rest.length * 3) g i true) 0)) := by
  have hw := X.wL
  have k : ∀ x, ρ x ≠ .work → (H.set w (.cells (workC s t o (rest.length * 3) g i true) 0))[x]? = H[x]? := fun x hx => by
    rw [List.getElem?_set_ne]; intro hc; exact hx (hc ▸ X.wR)
  refine ⟨ρ, o, rest.length * 3, g, ⟨_, _, _, _, _, _, _, X.rep.mono (by simp) (fun x _ _ h2 => ⟨k x h2, rfl⟩) (fun x hx => X.rep.fresh x (by simpa using hx))⟩, by simp [Heap.obj, hw], X.wR, ⟨by simp, fun x hx hr => ⟨k x (by rw [hr]; simp), hr⟩⟩⟩
omit X in
def RegOk (f : SFrame) (n : Int) : Prop := 0 ≤ n ∧ n < f.regs.length
end
theorem pu60 : cfg.pure 60 = false := rfl
instance t60 {d : Option Nat} : TightD cfg 60 d := ⟨fun _ _ => rfl⟩
def B60 (p : List Bool) := cA p Tryz.f60.body
def R60 (p : List Bool) (i : Nat) := Code.region i (cA p Tryz.f60.body) false
theorem F60 : (∀ p i, XR cfg 60 (R60 p i) (B60 p) (cA p Tryz.f60.body).toList i false) ∧ RE cfg 60 [0] ∧ cfg.pure 60 = false := ⟨fun _ _ => xr rfl rfl, rE fun _ => rfl, rfl⟩
def k60 : Code := (R60 [] 0)
theorem call60 (x0 : AV) (h : Heap) : call cfg 60 [x0] h = (exec cfg 60 k60 [(0, x0)] h).bind (callEnd cfg 60 h []) := call_at2 (fnat Tryz.func60 (b := k60) (by kernel_rfl) (by kernel_rfl)) rfl rfl
theorem pu61 : cfg.pure 61 = false := rfl
instance t61 {d : Option Nat} : TightD cfg 61 d := ⟨fun _ _ => rfl⟩
def B61 (p : List Bool) := cA p Tryz.f61.body
def R61 (p : List Bool) (i : Nat) := Code.region i (cA p Tryz.f61.body) false
theorem F61 : (∀ p i, XR cfg 61 (R61 p i) (B61 p) (cA p Tryz.f61.body).toList i false) ∧ RE cfg 61 [0] ∧ cfg.pure 61 = false := ⟨fun _ _ => xr rfl rfl, rE fun _ => rfl, rfl⟩
def k61 : Code := (R61 [] 0)
theorem call61 (x0 : AV) (h : Heap) : call cfg 61 [x0] h = (exec cfg 61 k61 [(0, x0)] h).bind (callEnd cfg 61 h []) := call_at2 (fnat Tryz.func61 (b := k61) (by kernel_rfl) (by kernel_rfl)) rfl rfl
theorem pu62 : cfg.pure 62 = false := rfl
instance t62 {d : Option Nat} : TightD cfg 62 d := ⟨fun _ _ => rfl⟩
def B62 (p : List Bool) := cA p Tryz.f62.body
def D62 (p : List Bool) (i : Nat) := Code.region i (cA p Tryz.f62.body) true
theorem F62 : XR cfg 62 (D62 [] 0) (B62 []) ((cA [] Tryz.f62.body).toList) 0 true ∧ RE cfg 62 [0] ∧ cfg.pure 62 = false := ⟨xd (by kernel_rfl) rfl rfl, rE fun _ => rfl, rfl⟩
def k62 : Code := (D62 [] 0)
theorem call62 (x0 : AV) (h : Heap) : call cfg 62 [x0] h = (exec cfg 62 k62 [(0, x0)] h).bind (callEnd cfg 62 h []) := call_at2 (fnat Tryz.func62 (b := k62) (by kernel_rfl) (by kernel_rfl)) rfl rfl
theorem pu63 : cfg.pure 63 = false := rfl
instance t63 {d : Option Nat} : TightD cfg 63 d := ⟨fun _ _ => rfl⟩
def B63 (p : List Bool) := cA p Tryz.f63.body
def D63 (p : List Bool) (i : Nat) := Code.region i (cA p Tryz.f63.body) true
theorem F63 : XR cfg 63 (D63 [] 0) (B63 []) (pickL (cA [] Tryz.f63.body).toList [0, 1, 2, 3, 4, 5, 6, 7, 8, 9, 10, 11, 12, 14, 15, 16, 17, 18, 19, 13, 20, 21, 22, 23, 24]) 0 true ∧ RE cfg 63 [0] ∧ cfg.pure 63 = false := ⟨xd (by kernel_rfl) rfl rfl, rE fun _ => rfl, rfl⟩
def k63 : Code := (D63 [] 0)
theorem call63 (x0 : AV) (h : Heap) : call cfg 63 [x0] h = (exec cfg 63 k63 [(0, x0)] h).bind (callEnd cfg 63 h []) := call_at2 (fnat Tryz.func63 (b := k63) (by kernel_rfl) (by kernel_rfl)) rfl rfl
theorem pu64 : cfg.pure 64 = false := rfl
instance t64 {d : Option Nat} : TightD cfg 64 d := ⟨fun _ _ => rfl⟩
def B64 (p : List Bool) := cA p Tryz.f64.body
def R64 (p : List Bool) (i : Nat) := Code.region i (cA p Tryz.f64.body) false
def D64 (p : List Bool) (i : Nat) := Code.region i (cA p Tryz.f64.body) true
theorem F64 : (∀ p i, XR cfg 64 (R64 p i) (B64 p) (cA p Tryz.f64.body).toList i false) ∧ XR cfg 64 (D64 [ff] 0) (B64 [ff]) ((cA [ff] Tryz.f64.body).toList) 0 true ∧ RE cfg 64 [0, 2, 3] ∧ cfg.pure 64 = false := ⟨fun _ _ => xr rfl rfl, xd (by kernel_rfl) rfl rfl, rE fun _ => rfl, rfl⟩
def k64 : Code := (.seq (D64 [ff] 0) (R64 [tt] 1))
theorem call64 (x0 : AV) (h : Heap) : call cfg 64 [x0] h = (exec cfg 64 k64 [(0, x0)] h).bind (callEnd cfg 64 h []) := call_at2 (fnat Tryz.func64 (b := k64) (by kernel_rfl) (by kernel_rfl)) rfl rfl
theorem pu65 : cfg.pure 65 = false := rfl
instance t65 {d : Option Nat} : TightD cfg 65 d := ⟨fun _ _ => rfl⟩
def B65 (p : List Bool) := cA p Tryz.f65.body
def D65 (p : List Bool) (i : Nat) := Code.region i (cA p Tryz.f65.body) true
theorem F65 : XR cfg 65 (D65 [] 0) (B65 []) (pickL (cA [] Tryz.f65.body).toList [0, 1, 2, 3, 4, 5, 6, 7, 8, 9, 10, 11, 12, 13, 15, 16, 17, 18, 19, 20, 14, 21, 22, 23]) 0 true ∧ RE cfg 65 [0] ∧ cfg.pure 65 = false := ⟨xd (by kernel_rfl) rfl rfl, rE fun _ => rfl, rfl⟩
def k65 : Code := (D65 [] 0)
theorem call65 (x0 : AV) (h : Heap) : call cfg 65 [x0] h = (exec cfg 65 k65 [(0, x0)] h).bind (callEnd cfg 65 h []) := call_at2 (fnat Tryz.func65 (b := k65) (by kernel_rfl) (by kernel_rfl)) rfl rfl
theorem pu66 : cfg.pure 66 = false := rfl
instance t66 {d : Option Nat} : TightD cfg 66 d := ⟨fun _ _ => rfl⟩
def B66 (p : List Bool) := cA p Tryz.f66.body
def D66 (p : List Bool) (i : Nat) := Code.region i (cA p Tryz.f66.body) true
theorem F66 : XR cfg 66 (D66 [] 0) (B66 []) ((cA [] Tryz.f66.body).toList) 0 true ∧ RE cfg 66 [0] ∧ cfg.pure 66 = false := ⟨xd (by kernel_rfl) rfl rfl, rE fun _ => rfl, rfl⟩
def k66 : Code := (D66 [] 0)
theorem call66 (x0 : AV) (h : Heap) : call cfg 66 [x0] h = (exec cfg 66 k66 [(0, x0)] h).bind (callEnd cfg 66 h []) := call_at2 (fnat Tryz.func66 (b := k66) (by kernel_rfl) (by kernel_rfl)) rfl rfl
theorem pu67 : cfg.pure 67 = false := rfl
instance t67 {d : Option Nat} : TightD cfg 67 d := ⟨fun _ _ => rfl⟩
def B67 (p : List Bool) := cA p Tryz.f67.body
def D67 (p : List Bool) (i : Nat) := Code.region i (cA p Tryz.f67.body) true
theorem F67 : XR cfg 67 (D67 [] 0) (B67 []) ((cA [] Tryz.f67.body).toList) 0 true ∧ RE cfg 67 [0] ∧ cfg.pure 67 = false := ⟨xd (by kernel_rfl) rfl rfl, rE fun _ => rfl, rfl⟩
def k67 : Code := (D67 [] 0)
theorem call67 (x0 : AV) (h : Heap) : call cfg 67 [x0] h = (exec cfg 67 k67 [(0, x0)] h).bind (callEnd cfg 67 h []) := call_at2 (fnat Tryz.func67 (b := k67) (by kernel_rfl) (by kernel_rfl)) rfl rfl
theorem pu68 : cfg.pure 68 = false := rfl
instance t68_2 : TightD cfg 68 (some 2) := tgS rfl
instance t68_3 : TightD cfg 68 (some 3) := tgS rfl
instance t68_4 : TightD cfg 68 (some 4) := tgS rfl
instance t68_5 : TightD cfg 68 (some 5) := tgS rfl
instance t68_6 : TightD cfg 68 (some 6) := tgS rfl
instance t68_7 : TightD cfg 68 (some 7) := tgS rfl
instance t68_8 : TightD cfg 68 (some 8) := tgS rfl
instance t68_9 : TightD cfg 68 (some 9) := tgS rfl
instance t68_10 : TightD cfg 68 (some 10) := tgS rfl
instance t68_11 : TightD cfg 68 (some 11) := tgS rfl
instance t68_12 : TightD cfg 68 (some 12) := tgS rfl
instance t68_13 : TightD cfg 68 (some 13) := tgS rfl
instance t68_14 : TightD cfg 68 (some 14) := tgS rfl
instance t68_15 : TightD cfg 68 (some 15) := tgS rfl
instance t68_16 : TightD cfg 68 (some 16) := tgS rfl
instance t68_17 : TightD cfg 68 (some 17) := tgS rfl
instance t68_18 : TightD cfg 68 (some 18) := tgS rfl
instance t68_19 : TightD cfg 68 (some 19) := tgS rfl
instance t68_20 : TightD cfg 68 (some 20) := tgS rfl
instance t68_22 : TightD cfg 68 (some 22) := tgS rfl
instance t68_23 : TightD cfg 68 (some 23) := tgS rfl
instance t68_24 : TightD cfg 68 (some 24) := tgS rfl
instance t68_25 : TightD cfg 68 (some 25) := tgS rfl
instance t68_26 : TightD cfg 68 (some 26) := tgS rfl
instance t68_27 : TightD cfg 68 (some 27) := tgS rfl
instance t68_28 : TightD cfg 68 (some 28) := tgS rfl
instance t68_29 : TightD cfg 68 (some 29) := tgS rfl
instance t68_30 : TightD cfg 68 (some 30) := tgS rfl
instance t68_31 : TightD cfg 68 (some 31) := tgS rfl
instance t68_32 : TightD cfg 68 (some 32) := tgS rfl
instance t68_33 : TightD cfg 68 (some 33) := tgS rfl
instance t68_2000_21 : TightD cfg 68 (some (2000 + 21)) := tgS rfl
instance t68_2000_31 : TightD cfg 68 (some (2000 + 31)) := tgS rfl
instance t68_n : TightD cfg 68 none := tgN
def B68 (p : List Bool) := cA p Tryz.f68.body
def R68 (p : List Bool) (i : Nat) := Code.region i (cA p Tryz.f68.body) false
def D68 (p : List Bool) (i : Nat) := Code.region i (cA p Tryz.f68.body) true
theorem F68 : (∀ p i, XR cfg 68 (R68 p i) (B68 p) (cA p Tryz.f68.body).toList i false) ∧ XR cfg 68 (D68 [ff] 0) (B68 [ff]) ((cA [ff] Tryz.f68.body).toList) 0 true ∧ cfg.imm 68 20 = true ∧ RE cfg 68 [0] ∧ cfg.pure 68 = false := ⟨fun _ _ => xr rfl rfl, xd (by kernel_rfl) rfl rfl, by kernel_rfl, rE fun _ => rfl, rfl⟩
theorem lo68_21 : cfg.loose 68 21 = lo 68 21 := rfl
theorem lb68_0_21_1 (e : Env) (h : Heap) : looseB cfg 68 (B68 [ff]) e h 1 = (((known (e.get 2)).bind fun x => nilA h x).map fun v => AV.eqb v (e.get 3)).getD false := lb_nilCheck rfl
theorem lb68_0_21_2 (e : Env) (h : Heap) : looseB cfg 68 (B68 [ff]) e h 2 = (((known (e.get 3)).bind fun x => fieldAddrA cfg h 89 x 0).map fun v => AV.eqb v (e.get 4)).getD false := lb_fieldAddr rfl
theorem lb68_0_21_3 (e : Env) (h : Heap) : looseB cfg 68 (B68 [ff]) e h 3 = (((known (e.get 4)).bind fun x => loadA cfg h 51 x).map fun v => AV.eqb v (e.get 5)).getD false := lb_load rfl rfl
theorem la68_21 (e : Env) (h : Heap) : looseAll cfg 68 (B68 [ff]) (some 21) e h = (((((known (e.get 2)).bind fun x => nilA h x).map fun v => AV.eqb v (e.get 3)).getD false) && (((((known (e.get 3)).bind fun x => fieldAddrA cfg h 89 x 0).map fun v => AV.eqb v (e.get 4)).getD false) && (((((known (e.get 4)).bind fun x => loadA cfg h 51 x).map fun v => AV.eqb v (e.get 5)).getD false)))) := by simp only [looseAll, lo68_21, lo, List.all_cons, List.all_nil, Bool.and_true, lb68_0_21_1, lb68_0_21_2, lb68_0_21_3]
def k68 : Code := (.seq (D68 [ff] 0) (R68 [tt] 1))
theorem call68 (x0 : AV) (h : Heap) : call cfg 68 [x0] h = (exec cfg 68 k68 [(0, x0)] h).bind (callEnd cfg 68 h []) := call_at2 (fnat Tryz.func68 (b := k68) (by kernel_rfl) (by kernel_rfl)) rfl rfl
theorem pu70 : cfg.pure 70 = false := rfl
instance t70 {d : Option Nat} : TightD cfg 70 d := ⟨fun _ _ => rfl⟩
def B70 (p : List Bool) := cA p Tryz.f70.body
def D70 (p : List Bool) (i : Nat) := Code.region i (cA p Tryz.f70.body) true
theorem F70 : XR cfg 70 (D70 [] 0) (B70 []) ((cA [] Tryz.f70.body).toList) 0 true ∧ RE cfg 70 [0] ∧ cfg.pure 70 = false := ⟨xd (by kernel_rfl) rfl rfl, rE fun _ => rfl, rfl⟩
def k70 : Code := (D70 [] 0)
theorem call70 (x0 : AV) (h : Heap) : call cfg 70 [x0] h = (exec cfg 70 k70 [(0, x0)] h).bind (callEnd cfg 70 h []) := call_at2 (fnat Tryz.func70 (b := k70) (by kernel_rfl) (by kernel_rfl)) rfl rfl
theorem pu71 : cfg.pure 71 = false := rfl
instance t71 {d : Option Nat} : TightD cfg 71 d := ⟨fun _ _ => rfl⟩
def B71 (p : List Bool) := cA p Tryz.f71.body
def R71 (p : List Bool) (i : Nat) := Code.region i (cA p Tryz.f71.body) false
def D71 (p : List Bool) (i : Nat) := Code.region i (cA p Tryz.f71.body) true
theorem F71 : (∀ p i, XR cfg 71 (R71 p i) (B71 p) (cA p Tryz.f71.body).toList i false) ∧ XR cfg 71 (D71 [tt, ff] 1) (B71 [tt, ff]) ((cA [tt, ff] Tryz.f71.body).toList) 1 true ∧ RE cfg 71 [0, 9] ∧ cfg.pure 71 = false := ⟨fun _ _ => xr rfl rfl, xd (by kernel_rfl) rfl rfl, rE fun _ => rfl, rfl⟩
def k71 : Code := (.seq (R71 [ff] 0) (.cond (.tmp 9) (D71 [tt, ff] 1) (R71 [tt, tt] 2)))
theorem call71 (x0 : AV) (h : Heap) : call cfg 71 [x0] h = (exec cfg 71 k71 [(0, x0)] h).bind (callEnd cfg 71 h []) := call_at2 (fnat Tryz.func71 (b := k71) (by kernel_rfl) (by kernel_rfl)) rfl rfl
section
variable {p : SProg} {H : Heap} {ρ : Nat → Role} {s : Nat} {σ : SSt} {t : Nat} {rest : List SFrame} {f : SFrame} {i : SIns} {w m mp : Nat} {cv tv ov : AV} {cs ts : List AV} {o g : Nat} {cap : Option Nat} {rvs c : List AV} (X : Ctx p H ρ s σ t rest f i w m mp cv tv ov cs ts o g cap rvs c) (hpc : f.pc < 1000000)
include X hpc
theorem constant_eq (hr : RegOk f i.r) (h1 : i.op = 1) : ∃ H', call cfg 60 [.ptr w 0 0] H = some (.ret (.tup []), H') ∧ Did p H ρ s t w i (exeS p σ t rest f i) H' := by
  obtain ⟨oR, gR, cp, V, hRr, k2⟩ := X.view
  refine ⟨_, ?_, by rw [exeS, if_pos h1]; exact X.topped V hRr k2 (regs' := f.regs.set i.r.toNat i.n) (by simp) (f.pc + 1)⟩
  rw [call60]
  have hw := V.hw
  have hlw := V.lw
  have hb := becomes_eq V (v := i.n) hr.1 hr.2 hpc
  simp only [workC] at hw
  simp only [F60, k60, Tryz.f60, sxAll, cA, Env.keep, qt_eq, resultsA, packA, fieldAddrA, Rv.part, TD.isAgg, mapO, ↓Option.bind_some, Nat.reduceBEq, Nat.reduceAdd, ↓reduceIte, load_ptr, hw, hlw, hb, ty89, ty49, ty2]
  exact leave_impure pu60
theorem move_eq (hr : RegOk f i.r) (ha : RegOk f i.a) (h1 : i.op = 2) : ∃ H', call cfg 61 [.ptr w 0 0] H = some (.ret (.tup []), H') ∧ Did p H ρ s t w i (exeS p σ t rest f i) H' := by
  obtain ⟨oR, gR, cp, V, hRr, k2⟩ := X.view
  refine ⟨_, ?_, by rw [exeS, if_neg (by omega), if_pos h1]; exact X.topped V hRr k2 (regs' := f.regs.set i.r.toNat (regV f i.a)) (by simp) (f.pc + 1)⟩
  rw [call61]
  have hw := V.hw
  have hlw := V.lw
  have hb := becomes_eq V (v := regV f i.a) hr.1 hr.2 hpc
  have hg := reg_eq V ha.1 ha.2
  simp only [workC] at hw
  simp only [F61, k61, Tryz.f61, sxAll, cA, Env.keep, qt_eq, resultsA, packA, fieldAddrA, Rv.part, TD.isAgg, mapO, ↓Option.bind_some, Nat.reduceBEq, Nat.reduceAdd, ↓reduceIte, load_ptr, hw, hlw, hb, hg, pu88, ty89, ty49, ty3]
  exact leave_impure pu61
theorem jump_eq (h0 : 0 ≤ i.n) (h1 : i.op = 11) : ∃ H', call cfg 70 [.ptr w 0 0] H = some (.ret (.tup []), H') ∧ Did p H ρ s t w i (exeS p σ t rest f i) H' := by
  obtain ⟨oR, gR, cp, V, hRr, k2⟩ := X.view
  refine ⟨_, ?_, by rw [exeS]; simp only [h1]; exact X.placed V hRr k2 i.n.toNat⟩
  rw [call70]
  have hw := V.hw
  have hlw := V.lw
  have hlo := V.lo
  have hL := V.len
  have hst2 := store1 (v := .int .i64 (i.n.toNat : Int)) ty3 V.ho (off := rest.length * 3 + 1) (by omega) rfl rfl
  rw [show ((i.n.toNat : Nat) : Int) = i.n by omega] at hst2 ⊢
  simp only [workC] at hw
  simp only [F70, k70, Tryz.f70, sxAll, cA, Env.keep, qt_eq, resultsA, packA, fieldAddrA, Rv.part, TD.isAgg, ↓Option.bind_some, ↓Option.bind_none, Nat.reduceBEq, Nat.reduceAdd, ↓reduceIte, load_ptr, hw, hlw, hlo, hst2, ty89, ty49, ty74, ty84, ty3, ty2]
  exact leave_impure pu70
theorem branch_eq (h0 : 0 ≤ i.n) (ha : RegOk f i.a) (h1 : i.op = 12) : ∃ H', call cfg 71 [.ptr w 0 0] H = some (.ret (.tup []), H') ∧ Did p H ρ s t w i (exeS p σ t rest f i) H' := by
  obtain ⟨oR, gR, cp, V, hRr, k2⟩ := X.view
  have hw := V.hw
  have hlw := V.lw
  have hlo := V.lo
  have hL := V.len
  have hg := reg_eq V ha.1 ha.2
  simp only [workC] at hw
  by_cases hz : regV f i.a = 0
  · refine ⟨_, ?_, by rw [exeS]; simp only [h1]; rw [if_pos hz]; exact X.placed V hRr k2 i.n.toNat⟩
    rw [call71]
    have hst2 := store1 (v := .int .i64 (i.n.toNat : Int)) ty3 V.ho (off := rest.length * 3 + 1) (by omega) rfl rfl
    rw [show ((i.n.toNat : Nat) : Int) = i.n by omega] at hst2 ⊢
    have hz' : (regV f i.a == 0) = true := by simp [hz]
    simp only [F71, k71, Tryz.f71, sxAll, cA, arithA, Env.keep, qt_eq, resultsA, packA, fieldAddrA, Rv.part, TD.isAgg, mapO, ↓Option.bind_some, ↓Option.bind_none, Nat.reduceBEq, Nat.reduceAdd, ↓reduceIte, load_ptr, hw, hlw, hlo, hst2, hg, hz', pu88, ty89, ty49, ty74, ty84, ty3, ty2]
    exact leave_impure pu71
  · refine ⟨_, ?_, by rw [exeS]; simp only [h1]; rw [if_neg hz]; exact X.placed V hRr k2 (f.pc + 1)⟩
    rw [call71]
    have hst2 := store1 (v := .int .i64 ((f.pc + 1 : Nat) : Int)) ty3 V.ho (off := rest.length * 3 + 1) (by omega) rfl rfl
    have hwr := wrap_succ (i := f.pc) (by omega)
    have hz' : (regV f i.a == 0) = false := by simp [hz]
    simp only [F71, k71, Tryz.f71, sxAll, cA, arithA, Env.keep, qt_eq, resultsA, packA, fieldAddrA, Rv.part, TD.isAgg, mapO, ↓Option.bind_some, ↓Option.bind_none, Nat.reduceBEq, Nat.reduceAdd, ↓reduceIte, load_ptr, hw, hlw, hlo, V.ho, V.d1, hwr, hst2, hg, hz', pu88, ty89, ty49, ty74, ty84, ty3]
    exact leave_impure pu71
theorem load_eq (hr : RegOk f i.r) (ha : i.a = -1 ∨ RegOk f i.a) (h1 : i.op = 5) : ∃ H', call cfg 64 [.ptr w 0 0] H = some (.ret (.tup []), H') ∧ Did p H ρ s t w i (exeS p σ t rest f i) H' := by
  obtain ⟨oR, gR, cp, V, hRr, k2⟩ := X.view
  have hw := V.hw
  have hlw := V.lw
  have hs := X.rep.st
  have hls := live_of hs
  have hlm := live_of X.rep.mem
  have hp := place_eq V ha
  obtain ⟨e, hg, hE⟩ := memGet_eq X.rep.mem X.rep.cArr X.rep.cLen X.rep.cell i.n (placeOf f i) (σ := σ) rfl
  simp only [workC] at hw
  simp only [SProg.cells, List.cons_append, List.nil_append] at hs
  have hx : exeS p σ t rest f i = becomesS σ t rest f i.r (cellOf σ i.n (placeOf f i)) := by rw [exeS]; simp only [h1]; rfl
  rw [hx]
  cases hc : cellOf σ i.n (placeOf f i) with
  | none =>
    rw [hc] at hE hg
    have he : (e == 0) = false := by
      have : ¬ e = 0 := fun h => by have := hE.1 h; simp at this
      simp [this]
    refine ⟨_, ?_, X.trapped⟩
    have hb := becomes_no V (v := 0)
    rw [call64]
    simp only [Option.getD_none] at hg
    simp only [F64, k64, Tryz.f64, sxAll, cA, arithA, Env.keep, qt_eq, resultsA, packA, fieldAddrA, Rv.part, TD.isAgg, mapO, ↓Option.bind_some, ↓Option.bind_none, Nat.reduceBEq, Nat.reduceAdd, ↓reduceIte, load_ptr, hw, hlw, hs, hls, hg, hp, he, hb, pu74, pu73, ty89, ty49, ty51, ty71, ty65, ty2]
    exact leave_impure pu64
  | some v =>
    rw [hc] at hE hg
    have he : (e == 0) = true := by simp [hE.2 rfl]
    refine ⟨_, ?_, X.topped V hRr k2 (regs' := f.regs.set i.r.toNat v) (by simp) (f.pc + 1)⟩
    have hb := becomes_eq V (v := v) hr.1 hr.2 hpc
    rw [call64]
    simp only [Option.getD_some] at hg
    simp only [F64, k64, Tryz.f64, sxAll, cA, arithA, Env.keep, qt_eq, resultsA, packA, fieldAddrA, Rv.part, TD.isAgg, mapO, ↓Option.bind_some, ↓Option.bind_none, Nat.reduceBEq, Nat.reduceAdd, ↓reduceIte, load_ptr, hw, hlw, hs, hls, hg, hp, he, hb, pu74, pu73, ty89, ty49, ty51, ty71, ty65, ty2]
    exact leave_impure pu64
end
end
end Go.Proofs.Sx
