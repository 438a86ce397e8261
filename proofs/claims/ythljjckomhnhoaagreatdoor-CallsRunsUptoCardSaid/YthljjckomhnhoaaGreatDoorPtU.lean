/-
  Plain: what frames of a run keep; as long as nothing ends it some thread can go on.
-/
import Derived.Test.YthljjckomhnhoaaGreatDoorPtP
import Derived.Test.YthljjckomhnhoaaGreatDoorPtS
set_option linter.unusedSectionVars false
set_option linter.unusedSimpArgs false
set_option linter.unusedVariables false
set_option linter.defProp false
set_option maxHeartbeats 8000000
set_option maxRecDepth 100000
namespace Go.Proofs.Sx
open Go.Rv Go.Proofs
noncomputable section
def InvT (Q : Nat -> Nat -> Prop) (n : Nat) (th : List (List SFrame)) : Prop := th.length = n /\ ∀ (t : Nat) l, th[t]? = some l -> ∀ f ∈ l, Q t f.fn
theorem InvT.set {Q : Nat -> Nat -> Prop} {n : Nat} {th : List (List SFrame)} (h : InvT Q n th) {t : Nat} {l : List SFrame} (hl : ∀ g ∈ l, Q t g.fn) : InvT Q n (th.set t l) := by
 refine ⟨by rw [List.length_set]; exact h.1, fun k w hw g hg => ?_⟩
 by_cases hk : t = k
 ·subst hk
  by_cases ht : t < th.length
  ·rw [qAz ht] at hw
   injection hw with hw; subst hw
   exact hl g hg
  ·rw [qAt (by simp; omega)] at hw; cases hw
 ·rw [qAw hk] at hw
  exact h.2 k w hw g hg
theorem ite_q {c : Prop} [Decidable c] {P : SSt × Bool -> Prop} {a b : SSt × Bool} (ha : c -> P a) (hb : P b) : P (if c then a else b) := by
 by_cases h : c
 ·rw [if_pos h]; exact ha h
 ·rw [if_neg h]; exact hb
def InvP (Q : Nat -> Nat -> Prop) (n : Nat) (x : SSt × Bool) : Prop := InvT Q n x.1.thr
theorem exe_inv {Q : Nat -> Nat -> Prop} {n : Nat} {p : SProg} {σ : SSt} {t : Nat} {rest : List SFrame} {f : SFrame} {i : SIns} (h : InvT Q n σ.thr) (hf : σ.thr[t]? = some (rest ++ [f])) (hc : i.op = 10 -> Q t i.n.toNat) : InvP Q n (exeS p σ t rest f i) := by
 have hall := h.2 t _ hf
 have hrest : ∀ g ∈ rest, Q t g.fn := fun g hg => hall g (List.mem_append_left _ hg)
 have hfq : Q t f.fn := hall f (by simp)
 have key : ∀ (σ' : SSt) (b : Bool) (g0 : SFrame), σ'.thr = σ.thr -> g0.fn = f.fn -> InvP Q n (setStk σ' t (rest ++ [g0]), b) := fun σ' b g0 e hg => by
  show InvT Q n (σ'.thr.set t _)
  rw [e]
  refine h.set fun g hg' => ?_
  rcases qAp.1 hg' with hg' | hg'
  ·exact hrest g hg'
  ·simp only [qAn] at hg'; subst hg'; rw [hg]; exact hfq
 have bec : ∀ (r : Int) (o : Option Int), InvP Q n (becomesS σ t rest f r o) := fun r o => by
  cases o with
  | none => exact h
  | some v => exact key σ false _ rfl rfl
 unfold exeS
 refine ite_q (fun _ => bec _ _) (ite_q (fun _ => bec _ _) (ite_q (fun _ => bec _ _) (ite_q (fun _ => bec _ _) (ite_q (fun _ => bec _ _) (ite_q (fun _ => ite_q (fun _ => key _ _ _ rfl rfl) h) (ite_q (fun _ => ite_q (fun _ => key _ _ _ rfl rfl) h) (ite_q (fun _ => ite_q (fun _ => key _ _ _ rfl rfl) h) (ite_q (fun _ => key _ _ _ rfl rfl) (ite_q (fun ho => ?_) (ite_q (fun _ => key _ _ _ rfl rfl) (ite_q (fun _ => ?_) (ite_q (fun _ => ?_) h))))))))))))
 ·show InvT Q n (σ.thr.set t _)
  refine h.set fun g hg => ?_
  rcases qAp.1 hg with hg | hg
  ·exact hall g hg
  ·simp only [qAn] at hg; subst hg; exact hc ho
 ·refine key _ _ _ rfl ?_
  split <;> rfl
 ·cases hl : rest.getLast? with
  | none =>
   show InvT Q n (σ.thr.set t _)
   exact h.set hrest
  | some c =>
   show InvT Q n (σ.thr.set t _)
   refine h.set fun g hg => ?_
   rcases qAp.1 hg with hg | hg
   ·exact hrest g ((List.dropLast_sublist rest).subset hg)
   ·simp only [qAn] at hg; subst hg
    exact hrest c (List.mem_of_getLast? hl)
theorem top_last {σ : SSt} {t : Nat} {f : SFrame} (h : σ.top t = some f) : ∃ rest, σ.thr[t]? = some (rest ++ [f]) := by
 unfold SSt.top at h
 cases hg : σ.thr[t]? with
 | none => rw [hg] at h; cases h
 | some l =>
  rw [hg] at h
  have h : l.getLast? = some f := h
  obtain ⟨ys, rfl⟩ := List.getLast?_eq_some_iff.1 h
  exact ⟨ys, rfl⟩
theorem step_inv {Q : Nat -> Nat -> Prop} {n : Nat} {p : SProg} {σ : SSt} (h : InvT Q n σ.thr) (t : Nat) (hc : ∀ f i, Q t f.fn -> insAt p f = some i -> i.op = 10 -> Q t i.n.toNat) : InvT Q n (stepS p σ t).thr := by
 unfold stepS
 cases ht : σ.top t with
 | none => exact h
 | some f =>
  simp only
  cases hi : insAt p f with
  | none => exact h
  | some i =>
   obtain ⟨rest, hf⟩ := top_last ht
   have hg : σ.thr.getD t [] = rest ++ [f] := by rw [qBp, hf]; rfl
   simp only [(endS_cases _ _).2.2.1, hg, List.dropLast_concat]
   exact exe_inv h hf fun ho => hc f i (h.2 t _ hf f (by simp)) hi ho
def LiveA (p : SProg) (σ : SSt) : Prop := σ.ending = 0 -> ableL p σ ≠ []
theorem liveA_end {p : SProg} (σ : SSt) : LiveA p (endS p σ) := by
 unfold endS
 by_cases h1 : σ.ending ≠ 0
 ·rw [if_pos h1]; exact fun h => absurd h h1
 ·rw [if_neg h1]
  by_cases h2 : (σ.thr.all fun x => x.isEmpty) = true
  ·rw [if_pos h2]; intro h; cases h
  ·rw [if_neg h2]
   by_cases h3 : ableL p σ = []
   ·rw [if_pos h3]; intro h; cases h
   ·rw [if_neg h3]; exact fun _ => h3
theorem liveA_step {p : SProg} {σ : SSt} (h : LiveA p σ) (t : Nat) : LiveA p (stepS p σ t) := by
 unfold stepS
 cases ht : σ.top t with
 | none => exact h
 | some f =>
  simp only
  cases hi : insAt p f with
  | none => exact h
  | some i => exact liveA_end _
end
end Go.Proofs.Sx
namespace Go.Proofs.Sx
open Go.Rv Go.Proofs
noncomputable section
theorem pickR_of {CS : List (List Int)} {out : List Int} : ∀ {l : List Nat} {n : Nat}, pickR CS out l = some n -> n ∈ l /\ ready CS out n = true
 | [], n, h => by cases h
 | a :: r, n, h => by
  rw [pickR] at h
  split at h
  ·rename_i ha
   injection h with h; subst h
   exact ⟨qAi .., ha⟩
  ·obtain ⟨h1, h2⟩ := pickR_of h
   exact ⟨qAk _ h1, h2⟩
theorem ready_iff {CS : List (List Int)} {out : List Int} {n : Nat} (h : ready CS out n = true) : (n : Int) ∉ out /\ ∀ j ∈ csOf CS n, j ∈ out := by
 unfold ready at h
 simp only [qAa, qBh, decide_eq_false_iff_not, List.any_eq_false, Classical.not_not] at h
 exact h
def RowOk (CS : List (List Int)) (N : Nat) (row : List Int) : Prop := ∀ (i : Nat) (n : Int), row[i]? = some n -> (0 <= n /\ n < N) /\ n ∉ row.take i /\ ∀ j ∈ csOf CS n, j ∈ row.take i
theorem rowGo_ok (CS : List (List Int)) (N : Nat) : ∀ (d : Nat) (out : List Int), RowOk CS N out -> RowOk CS N (rowGo CS N d out)
 | 0, out, h => h
 | d + 1, out, h => by
  rw [rowGo]
  split
  ·rename_i n hn
   refine rowGo_ok CS N d _ fun i m hi => ?_
   obtain ⟨h1, h2⟩ := pickR_of hn
   obtain ⟨h3, h4⟩ := ready_iff h2
   by_cases hl : i < out.length
   ·rw [qAx hl] at hi
    rw [List.take_append_of_le_length (by omega)]
    exact h i m hi
   ·have hlen := (qAu.1 hi).1
    simp only [qBb, List.length_singleton] at hlen
    obtain rfl : i = out.length := by omega
    rw [qAy (qAr _), Nat.sub_self] at hi
    simp only [qBe, qAf] at hi
    subst hi
    rw [List.take_left']
    ·exact ⟨by have := List.mem_range.1 h1; omega, h3, h4⟩
    ·rfl
  ·exact h
theorem row_ok (CS : List (List Int)) (N : Nat) : RowOk CS N (rowGo CS N N []) := rowGo_ok CS N N [] fun i n h => by simp at h
theorem row_reach {CS : List (List Int)} {N : Nat} {row : List Int} (h : RowOk CS N row) {n x : Int} (hr : Rch CS n x) : ∀ {i : Nat}, row[i]? = some n -> x ∈ row.take i := by
 induction hr with
 | one hj => exact fun {i} hi => (h i _ hi).2.2 _ hj
 | @step k0 j x0 hj _ ih =>
  intro i hi
  have hm := (h i _ hi).2.2 _ hj
  obtain ⟨k, hk, e⟩ := List.getElem_of_mem hm
  have hki : k < i := by simp at hk; omega
  have hk' : row[k]? = some j := by
   rw [List.getElem_take] at e
   rw [qAs (by simp at hk; omega), e]
  have := ih hk'
  exact (List.take_prefix_take_left (show k <= i by omega)).subset this
theorem calleeKeys_keep {a : Int} : ∀ (l : List SIns) (ks : List Int), a ∈ ks -> a ∈ calleeKeys l ks
 | [], _, h => h
 | i :: r, ks, h => by
  show a ∈ calleeKeys r (if i.op == 10 then addKey ks i.n else ks)
  refine calleeKeys_keep r _ ?_
  split
  ·unfold addKey; split
   ·exact h
   ·exact List.mem_append_left _ h
  ·exact h
theorem calleeKeys_mem {x : SIns} (hx : x.op = 10) : ∀ (l : List SIns) (ks : List Int), x ∈ l -> x.n ∈ calleeKeys l ks
 | [], _, h => by simp at h
 | i :: r, ks, h => by
  show x.n ∈ calleeKeys r (if i.op == 10 then addKey ks i.n else ks)
  rcases qAj.1 h with rfl | h
  ·refine calleeKeys_keep r _ ?_
   rw [if_pos (by simp [hx])]
   unfold addKey; split
   ·assumption
   ·simp
  ·exact calleeKeys_mem hx r _ h
theorem calls_cs {p : SProg} {n : Nat} {F : SFun} {x : SIns} (hF : p.funs[n]? = some F) (hx : x ∈ F.code) (ho : x.op = 10) : x.n ∈ csOf (csP p) (n : Int) := by
 rw [csOf, Int.toNat_natCast, csP, qBp, qBc, hF]
 exact isort_mem.2 (calleeKeys_mem ho F.code [] hx)
end
end Go.Proofs.Sx
namespace Go.Proofs.Sx
open Go.Rv Go.Proofs
noncomputable section
def cutC (r : Room) : Room := match r with | .nil => .nil | .exact c => .exact (c - 0) | .open => .open
theorem sliceC_lst (H : Heap) (l : List Int) (z : Nat) (r : Room) (k : Nat) (hk : k <= l.length) (hz : z = 1 ∨ l = []) : sliceA cfg H 27 (.lst (intL l) z r) none (some (.int .i64 k)) none = some (.lst (intL (l.take k)) z (cutC r)) := by
 have h1 : (0 : Int) <= k := by omega
 have h2 : ((k : Int) <= (intL l).length) := by simp [intL]; omega
 have h3 : (z == 1 || (intL l).isEmpty) = true := by rcases hz with rfl | rfl <;> simp [intL]
 simp only [sliceA, ty27, ty3, qAd, qAe, h3, Bool.not_true, qAb, if_false, boundA, h1, h2, decide_true, Bool.and_self, if_true, Int.toNat_natCast]
 cases r <;> simp [intL, cutC, List.map_take]
structure KF (n : Nat) (h : Heap) (ρ : Nat -> Role) (h' : Heap) (ρ' : Nat -> Role) : Prop where
 keep : ∀ o, o < n -> ρ o = .other -> h'[o]? = h[o]? /\ ρ' o = .other
theorem KF.refl (n : Nat) (h : Heap) (ρ : Nat -> Role) : KF n h ρ h ρ := ⟨fun _ _ h => ⟨rfl, h⟩⟩
theorem KF.trans {n : Nat} {h h' h'' : Heap} {ρ ρ' ρ'' : Nat -> Role} (a : KF n h ρ h' ρ') (b : KF n h' ρ' h'' ρ'') : KF n h ρ h'' ρ'' := ⟨fun o ho hr => by
 obtain ⟨a1, a2⟩ := a.keep o ho hr
 obtain ⟨b1, b2⟩ := b.keep o ho a2
 exact ⟨b1.trans a1, b2⟩⟩
theorem KF.obj {n : Nat} {h h' : Heap} {ρ ρ' : Nat -> Role} (a : KF n h ρ h' ρ') {o g : Nat} {cs : List AV} (ho : h.obj o g = some cs) (hr : ρ o = .other) (hn : o < n) : h'.obj o g = some cs := obj_of ho (a.keep o hn hr).1
theorem Frm.kf {n : Nat} {h h' : Heap} {ρ ρ' : Nat -> Role} (a : Frm h ρ h' ρ') (hn : n <= h.length) : KF n h ρ h' ρ' := ⟨fun o ho hr => a.keep o (by omega) hr⟩
theorem reachOf_nat {CS : List (List Int)} {N : Nat} {k y : Int} (h : y ∈ reachOf CS N k) : ∃ m : Nat, y = m /\ m < N := by
 have := (List.mem_filter.1 h).1
 obtain ⟨m, hm, rfl⟩ := qBl.1 this
 exact ⟨m, rfl, List.mem_range.1 hm⟩
theorem reachOf_len (CS : List (List Int)) (N : Nat) (k : Int) : (reachOf CS N k).length <= N := by
 unfold reachOf
 exact Nat.le_trans (List.length_filter_le _ _) (by simp)
theorem reachLs_at (CS : List (List Int)) {N a : Nat} (ha : a < N) : (reachLs CS N)[a]? = some (reachOf CS N (a : Int)) := by
 rw [reachLs, qBc, List.getElem?_range ha]; rfl
theorem csP_at (p : SProg) {n : Nat} (h : n < p.funs.length) : (csP p)[n]? = some (csOf (csP p) (n : Int)) := by
 have hl : (csP p).length = p.funs.length := by rw [csP, qBn]
 rw [csOf, Int.toNat_natCast, qBp, qAs (by omega)]; rfl
theorem csOf_len {p : SProg} (F : Fits p) (k : Int) : (csOf (csP p) k).length <= 1000 := by
 rw [csOf, qBp]
 cases h : (csP p)[k.toNat]? with
 | none => simp
 | some l => exact csP_len F l (qBj h)
theorem rootsGo_at (p : SProg) {k : Nat} (h : k < p.funs.length) : (rootsGo p p.funs 0 (turnedL (reachLs (csP p) p.funs.length)))[k]? = some ((rootsGo p p.funs 0 (turnedL (reachLs (csP p) p.funs.length))).getD k []) := by
 have hRl : (reachLs (csP p) p.funs.length).length = p.funs.length := by rw [reachLs, qBn, List.length_range]
 rw [qBp, qAs (by rw [rootsGo_len, turnedL_len, hRl]; exact h)]; rfl
theorem thr_nat {p : SProg} {n : Int} (h : n ∈ thr p.funs 0) : ∃ b : Nat, n = (b : Int) /\ b < p.funs.length /\ thrB p (b : Int) = true := by
 have key : ∀ (l : List SFun) (i : Nat), n ∈ thr l i -> ∃ k : Nat, n = ((i + k : Nat) : Int) /\ ∃ F, l[k]? = some F /\ F.thread = true := by
  intro l
  induction l with
  | nil => intro i h; simp [thr] at h
  | cons f r ih =>
   intro i h
   simp only [thr, qAp] at h
   rcases h with h | h
   ·cases hf : f.thread with
    | false => rw [hf] at h; simp at h
    | true =>
     rw [hf] at h
     simp only [if_true, qAn] at h
     exact ⟨0, h, f, rfl, hf⟩
   ·obtain ⟨k, h1, F, h2, h3⟩ := ih (i + 1) h
    exact ⟨k + 1, by rw [h1]; omega, F, by simpa using h2, h3⟩
 obtain ⟨k, h1, F, h2, h3⟩ := key _ _ h
 rw [qBg] at h1
 exact ⟨k, h1, (qAu.1 h2).1, by rw [thrB, Int.toNat_natCast, h2]; exact h3⟩
theorem small_may {p : SProg} (hw : p.wf) (hm : mayP p = true) : p.small := by
 have P := prog_ok hm
 have hc := P.count
 exact ⟨by omega, by omega, by omega, fun F hF => by have := (P.funs F hF).len; omega, fun F hF i hi => by
  have := (hw.2.2.2.2.2 F hF).2.2 i hi
  have := this.2.2
  omega⟩
theorem start_sok {p : SProg} (hm : mayP p = true) : SOk (ownP p) 1 (startS (ownP p)) /\ (startS (ownP p)).thr = stacks0 (ownP p) (thr p.funs 0) := by
 have W := (startS_ok hm).1
 have e : startS (ownP p) = endS (ownP p) (start0 (ownP p) (thr p.funs 0)) := by
  unfold startS
  rw [show thr (ownP p).funs 0 = thr p.funs 0 from thr_own p.funs 0]
 rw [e]
 obtain ⟨_, _, e3, _, e5⟩ := endS_cases (ownP p) (start0 (ownP p) (thr p.funs 0))
 exact ⟨⟨by rw [e3]; exact W.fr, by rw [e3]; exact W.call, by rw [e3]; exact W.deep, by rw [e5]; exact W.outs, by rw [e3]; exact W.few⟩, e3⟩
theorem rch_call {p : SProg} (hm : mayP p = true) {T : Int} {f : SFrame} {i : SIns} (h : (f.fn : Int) = T ∨ Rch (csP p) T (f.fn : Int)) (hi : insAt (ownP p) f = some i) (ho : i.op = 10) : Rch (csP p) T i.n /\ 0 <= i.n := by
 unfold insAt at hi
 obtain ⟨G, hG, hc⟩ := qAc.1 hi
 simp only [ownP, qBc, qAl] at hG
 obtain ⟨F, hF, rfl⟩ := hG
 simp only [ownF, qBc, qAl] at hc
 obtain ⟨x, hx, rfl⟩ := hc
 have hcs := calls_cs hF (qBj hx) ho
 have hn := (csP_rng (fits_may hm) _ _ hcs).1
 refine ⟨?_, hn⟩
 rcases h with h | h
 ·rw [← h]; exact .one hcs
 ·exact h.trans (.one hcs)
end
end Go.Proofs.Sx
namespace Go.Proofs.Sx
open Go.Rv Go.Proofs
attribute [local congr] bind_left got_left
noncomputable section
theorem pu15 : cfg.pure 15 = true := rfl
instance t15 {d : Option Nat} : TightD cfg 15 d := ⟨fun _ _ => rfl⟩
def B15 (p : List Bool) := cA p Tryz.f15.body
def R15 (p : List Bool) (i : Nat) := Code.region i (cA p Tryz.f15.body) false
def D15 (p : List Bool) (i : Nat) := Code.region i (cA p Tryz.f15.body) true
theorem F15 : (∀ p i, XR cfg 15 (R15 p i) (B15 p) (cA p Tryz.f15.body).toList i false) /\ XR cfg 15 (D15 [tt, tt, ff, tt, ff, ff, tt, ff, ff, ff] 6) (B15 [tt, tt, ff, tt, ff, ff, tt, ff, ff, ff]) ((cA [tt, tt, ff, tt, ff, ff, tt, ff, ff, ff] Tryz.f15.body).toList) 6 true /\ RE cfg 15 [0, 1, 4, 5, 10, 14, 25] /\ cfg.pure 15 = true := ⟨fun _ _ => xr rfl rfl, xd (by kernel_rfl) rfl rfl, rE fun _ => rfl, rfl⟩
def l15_0 : Code := (.seq (.seq (R15 [tt, tt, ff, tt, ff, ff, ff, ff] 4) (.cond (.tmp 14) .skip (.exit 0))) (.seq (.block 1 (.seq (D15 [tt, tt, ff, tt, ff, ff, tt, ff, ff, ff] 6) (.cond (.tmp 25) (.seq (R15 [tt, tt, ff, tt, ff, ff, tt, ff, ff, tt, ff, ff] 7) .ret) .skip))) (R15 [tt, tt, ff, tt, ff, ff, tt, tt] 5)))
def k15 : Code := (.seq (R15 [ff] 0) (.seq (.seq (R15 [tt, ff, ff] 1) (.cond (.tmp 10) (.seq (R15 [tt, ff, tt, ff, ff] 2) .ret) .skip)) (.seq (.seq (R15 [tt, tt, ff, ff] 3) (.block 0 (.loop l15_0))) (.seq (R15 [tt, tt, tt, ff] 8) .ret))))
theorem call15 (x0 x1 : AV) (h : Heap) : call cfg 15 [x0, x1] h = (exec cfg 15 k15 [(0, x0), (1, x1)] h).bind (callEnd cfg 15 h [.tmp 4]) := call_at2 (fnat Tryz.func15 (b := k15) (by kernel_rfl) (by kernel_rfl)) rfl rfl
theorem ints_loop (xs ys : List Int) (z z' : Nat) (r r' : Room) (h : Heap) (hn : xs.length < 1000000000) : ∀ (s : List Int) (i : Nat), xs.drop i = s -> i <= xs.length -> ∀ t, ys.drop i = t -> s.length = t.length -> ∀ t4 t10 t14 t25,
  Got (exec cfg 15 (.loop l15_0) [(0, .lst (intL xs) z r), (1, .lst (intL ys) z' r'), (4, t4), (5, .int .i64 i), (10, t10), (14, t14), (25, t25)] h) (fun q => q.2.2 = h /\
   ((q.1 = .exit 0 /\ s = t) ∨ (q.1 = .ret /\ q.2.1.get 4 = .bool false /\ s ≠ t))) := by
 intro s
 induction s with
 | nil =>
  intro i hd hi t ht hl t4 t10 t14 t25
  have : t = [] := List.length_eq_zero_iff.1 hl.symm
  rw [got_loop]
  simp only [l15_0, F15, Tryz.f15, sxAll, cA, arithA, Env.keep, ↓qAe, Nat.reduceBEq, ↓reduceIte, lenA_lst, ty27, intL_len, at_end hd]
  exact ⟨trivial, .inl ⟨trivial, this.symm⟩⟩
 | cons y s ih =>
  intro i hd hi t ht hl t4 t10 t14 t25
  cases t with
  | nil => simp at hl
  | cons w t =>
   obtain ⟨hlt, hget, hd'⟩ := at_drop hd
   obtain ⟨_, hget', ht'⟩ := at_drop ht
   have hix := fun H => idx_ints H xs z r i y hget
   have hiy := fun H => idx_ints H ys z' r' i w hget'
   have hw := wrap_succ (i := i) (by omega)
   rw [got_loop]
   by_cases he : y = w
   ·subst he
    have hlo : (y == y) = true := by simp
    have := ih (i + 1) hd' (by simp at hlt; omega) t ht' (by simpa using hl)
    simp only [l15_0] at this ⊢
    simp only [F15, Tryz.f15, sxAll, cA, arithA, Env.keep, qt_eq, ↓qAe, Nat.reduceBEq, bne, ↓reduceIte, lenA_lst, ty27, intL_len, hlt, hix, hiy, load_ints, hw] at this ⊢
    refine Got.mono (this _ _ _ _) fun q hq => ⟨hq.1, ?_⟩
    rcases hq.2 with ⟨h1, h2⟩ | ⟨h1, h2, h3⟩
    ·exact .inl ⟨h1, by rw [h2]⟩
    ·exact .inr ⟨h1, h2, fun e => h3 (List.cons.inj e).2⟩
   ·have hne : (y == w) = false := by simp [he]
    simp only [l15_0, F15, Tryz.f15, sxAll, cA, arithA, Env.keep, qt_eq, ↓qAe, Nat.reduceBEq, bne, ↓reduceIte, lenA_lst, ty27, intL_len, hlt, hix, hiy, load_ints, hne]
    exact ⟨trivial, .inr ⟨trivial, by simp [], fun e => he (List.cons.inj e).1⟩⟩
theorem ints_eq (xs ys : List Int) (z z' : Nat) (r r' : Room) (h : Heap) (hn : xs.length < 1000000000) : call cfg 15 [.lst (intL xs) z r, .lst (intL ys) z' r'] h = some (.ret (.bool (decide (xs = ys))), h) := by
 rw [call15]
 by_cases hl : xs.length = ys.length
 ·obtain ⟨⟨o, e', h'⟩, hx, hh, hq⟩ := ints_loop xs ys z z' r r' h hn xs 0 (by simp) (by omega) ys (by simp) hl (.bool false) (.bool false) .junk .junk
  simp only [qBo] at hx hh hq
  subst hh
  have hll : ((xs.length : Int) == (ys.length : Int)) = true := by simp [hl]
  rcases hq with ⟨rfl, h1⟩ | ⟨rfl, h1, h2⟩
  ·simp only [F15, k15, Tryz.f15, sxAll, cA, arithA, Env.keep, resultsA, packA, ↓qAe, Nat.reduceBEq, bne, ↓reduceIte, lenA_lst, ty27, intL_len, hll, hx, eq_true h1]
   exact leave_kept rfl rfl
  ·simp only [F15, k15, Tryz.f15, sxAll, cA, arithA, Env.keep, resultsA, packA, ↓qAe, Nat.reduceBEq, bne, ↓reduceIte, lenA_lst, ty27, intL_len, hll, hx, h1, h2]
   exact leave_kept rfl rfl
 ·have hne : xs ≠ ys := fun e => hl (by rw [e])
  have hll : ((xs.length : Int) == (ys.length : Int)) = false := by simp; omega
  simp only [F15, k15, Tryz.f15, sxAll, cA, arithA, Env.keep, resultsA, packA, ↓qAe, Nat.reduceBEq, bne, ↓reduceIte, lenA_lst, ty27, intL_len, hll, hne]
  exact leave_kept rfl rfl
theorem pu14 : cfg.pure 14 = true := rfl
instance t14 {d : Option Nat} : TightD cfg 14 d := ⟨fun _ _ => rfl⟩
def B14 (p : List Bool) := cA p Tryz.f14.body
def R14 (p : List Bool) (i : Nat) := Code.region i (cA p Tryz.f14.body) false
def D14 (p : List Bool) (i : Nat) := Code.region i (cA p Tryz.f14.body) true
theorem F14 : (∀ p i, XR cfg 14 (R14 p i) (B14 p) (cA p Tryz.f14.body).toList i false) /\ XR cfg 14 (D14 [tt, tt, ff, tt, ff, ff, tt, ff, ff, ff] 6) (B14 [tt, tt, ff, tt, ff, ff, tt, ff, ff, ff]) ((cA [tt, tt, ff, tt, ff, ff, tt, ff, ff, ff] Tryz.f14.body).toList) 6 true /\ RE cfg 14 [0, 1, 4, 5, 10, 14, 26] /\ cfg.pure 14 = true := ⟨fun _ _ => xr rfl rfl, xd (by kernel_rfl) rfl rfl, rE fun _ => rfl, rfl⟩
def l14_0 : Code := (.seq (.seq (R14 [tt, tt, ff, tt, ff, ff, ff, ff] 4) (.cond (.tmp 14) .skip (.exit 0))) (.seq (.block 1 (.seq (D14 [tt, tt, ff, tt, ff, ff, tt, ff, ff, ff] 6) (.cond (.tmp 26) (.seq (R14 [tt, tt, ff, tt, ff, ff, tt, ff, ff, tt, ff, ff] 7) .ret) .skip))) (R14 [tt, tt, ff, tt, ff, ff, tt, tt] 5)))
def k14 : Code := (.seq (R14 [ff] 0) (.seq (.seq (R14 [tt, ff, ff] 1) (.cond (.tmp 10) (.seq (R14 [tt, ff, tt, ff, ff] 2) .ret) .skip)) (.seq (.seq (R14 [tt, tt, ff, ff] 3) (.block 0 (.loop l14_0))) (.seq (R14 [tt, tt, tt, ff] 8) .ret))))
theorem call14 (x0 x1 : AV) (h : Heap) : call cfg 14 [x0, x1] h = (exec cfg 14 k14 [(0, x0), (1, x1)] h).bind (callEnd cfg 14 h [.tmp 4]) := call_at2 (fnat Tryz.func14 (b := k14) (by kernel_rfl) (by kernel_rfl)) rfl rfl
section
variable (Xs Ys : List (List Int)) (es fs : List AV) (z z' : Nat) (r r' : Room) (h : Heap) (hes : es.length = Xs.length) (hfs : fs.length = Ys.length)
 (g : ∀ (k : Nat) xs, Xs[k]? = some xs -> ∃ z r, es[k]? = some (.lst (intL xs) z r)) (g' : ∀ (k : Nat) xs, Ys[k]? = some xs -> ∃ z r, fs[k]? = some (.lst (intL xs) z r))
 (hn : Xs.length < 1000000000) (hs : ∀ l ∈ Xs, l.length < 1000000000)
include hes g g' hn hs in
theorem lists_loop : ∀ (s : List (List Int)) (i : Nat), Xs.drop i = s -> i <= Xs.length -> ∀ t, Ys.drop i = t -> s.length = t.length -> ∀ t4 t10 t14 t26,
  Got (exec cfg 14 (.loop l14_0) [(0, .lst es z r), (1, .lst fs z' r'), (4, t4), (5, .int .i64 i), (10, t10), (14, t14), (26, t26)] h) (fun q => q.2.2 = h /\
   ((q.1 = .exit 0 /\ s = t) ∨ (q.1 = .ret /\ q.2.1.get 4 = .bool false /\ s ≠ t))) := by
 intro s
 induction s with
 | nil =>
  intro i hd hi t ht hl t4 t10 t14 t26
  have : t = [] := List.length_eq_zero_iff.1 hl.symm
  rw [got_loop]
  simp only [l14_0, F14, Tryz.f14, sxAll, cA, arithA, Env.keep, ↓qAe, Nat.reduceBEq, ↓reduceIte, lenA_lst, ty30, hes, at_end hd]
  exact ⟨trivial, .inl ⟨trivial, this.symm⟩⟩
 | cons y s ih =>
  intro i hd hi t ht hl t4 t10 t14 t26
  cases t with
  | nil => simp at hl
  | cons w t =>
   obtain ⟨hlt, hget, hd'⟩ := at_drop hd
   obtain ⟨_, hget', ht'⟩ := at_drop ht
   obtain ⟨y1, y2, e1⟩ := g i y hget
   obtain ⟨w1, w2, e2⟩ := g' i w hget'
   have i1 := idx_ll h e1 (z := z) (r := r)
   have i2 := idx_ll h e2 (z := z') (r := r')
   have hw := wrap_succ (i := i) (by omega)
   have hi := ints_eq y w y1 w1 y2 w2 h (hs y (qBj hget))
   rw [got_loop]
   by_cases he : y = w
   ·have hdm : decide (y = w) = true := by simp [he]
    rw [hdm] at hi
    have := ih (i + 1) hd' (by simp at hlt; omega) t ht' (by simpa using hl)
    simp only [l14_0] at this ⊢
    simp only [F14, Tryz.f14, sxAll, cA, arithA, Env.keep, qt_eq, unA, mapO, ↓qAe, Nat.reduceBEq, ↓reduceIte, lenA_lst, ty30, hes, hlt, i1, i2, load_ll, hi, hw, pu15] at this ⊢
    refine Got.mono (this _ _ _ _) fun q hq => ⟨hq.1, ?_⟩
    rcases hq.2 with ⟨h1, h2⟩ | ⟨h1, h2, h3⟩
    ·exact .inl ⟨h1, by rw [h2, he]⟩
    ·exact .inr ⟨h1, h2, fun e => h3 (List.cons.inj e).2⟩
   ·have hdm : decide (y = w) = false := by simp [he]
    rw [hdm] at hi
    simp only [l14_0, F14, Tryz.f14, sxAll, cA, arithA, Env.keep, qt_eq, unA, mapO, ↓qAe, Nat.reduceBEq, ↓reduceIte, lenA_lst, ty30, hes, hlt, i1, i2, load_ll, hi, pu15]
    exact ⟨trivial, .inr ⟨trivial, by simp [], fun e => he (List.cons.inj e).1⟩⟩
include hes hfs g g' hn hs in
theorem lists_eq : call cfg 14 [.lst es z r, .lst fs z' r'] h = some (.ret (.bool (decide (Xs = Ys))), h) := by
 rw [call14]
 by_cases hl : Xs.length = Ys.length
 ·obtain ⟨⟨o, e', h'⟩, hx, hh, hq⟩ := lists_loop Xs Ys es fs z z' r r' h hes g g' hn hs Xs 0 (by simp) (by omega) Ys (by simp) hl (.bool false) (.bool false) .junk .junk
  simp only [qBo] at hx hh hq
  subst hh
  have hll : ((Xs.length : Int) == (Ys.length : Int)) = true := by simp [hl]
  rcases hq with ⟨rfl, h1⟩ | ⟨rfl, h1, h2⟩
  ·simp only [F14, k14, Tryz.f14, sxAll, cA, arithA, Env.keep, resultsA, packA, ↓qAe, Nat.reduceBEq, bne, ↓reduceIte, lenA_lst, ty30, hes, hfs, hll, hx, eq_true h1]
   exact leave_kept rfl rfl
  ·simp only [F14, k14, Tryz.f14, sxAll, cA, arithA, Env.keep, resultsA, packA, ↓qAe, Nat.reduceBEq, bne, ↓reduceIte, lenA_lst, ty30, hes, hfs, hll, hx, h1, h2]
   exact leave_kept rfl rfl
 ·have hne : Xs ≠ Ys := fun e => hl (by rw [e])
  have hll : ((Xs.length : Int) == (Ys.length : Int)) = false := by simp; omega
  simp only [F14, k14, Tryz.f14, sxAll, cA, arithA, Env.keep, resultsA, packA, ↓qAe, Nat.reduceBEq, bne, ↓reduceIte, lenA_lst, ty30, hes, hfs, hll, hne]
  exact leave_kept rfl rfl
end
end
end Go.Proofs.Sx
namespace Go.Rv
noncomputable def endQ (C : Cfg) (rs : List ResultVar) (n : Nat) : Option (Out × Env × Heap) -> Option (AV × Heap)
 | some (.nrm, e, h) | some (.ret, e, h) => (resultsA C h e rs).bind fun vs => (freezeV h n 40 (packA vs)).map fun v => (v, h.take n)
 | _ => none
theorem pure_runF {C : Cfg} {f k n : Nat} {c : Code} {e : Env} {h : Heap} {rs : List ResultVar} {v : AV} (hp : C.pure f = true) (hn : h.length = n) (hr : endQ C rs n (execF C k f c e h) = some (v, h)) :
  (exec C f c e h).bind (callEnd C f h rs) = some (.ret v, h) := by
 cases hx : execF C k f c e h with
 | none => rw [hx] at hr; simp [endQ] at hr
 | some x =>
  rw [(exec_iff C).2 ⟨k, hx⟩]
  rw [hx] at hr
  obtain ⟨o, e1, h1⟩ := x
  have key : ((resultsA C h1 e1 rs).bind fun vs => (freezeV h1 n 40 (packA vs)).map fun v => (v, h1.take n)) = some (v, h) -> ((resultsA C h1 e1 rs).bind fun vs => leaveA C f h (packA vs) h1) = some (.ret v, h) := by
   intro H
   obtain ⟨vs, a1, a2⟩ := qAc.1 H
   obtain ⟨w, b1, b2⟩ := qAl.1 a2
   simp only [qAg] at b2
   rw [a1]
   exact leave_pure hp (by rw [hn]; exact b2.2) (by rw [hn, b1, b2.1])
  cases o with
  | nrm => exact key hr
  | ret => exact key hr
  | exit id => simp [endQ] at hr
  | pan v => simp [endQ] at hr
end Go.Rv
namespace Go.Proofs.Sx
open Go.Rv Go.Proofs
attribute [local congr] bind_left got_left
noncomputable section
theorem rch_trans {CS : List (List Int)} (ht : ∀ k j x, j ∈ csOf CS k -> x ∈ csOf CS j -> x ∈ csOf CS k) {k x : Int} (h : Rch CS k x) : x ∈ csOf CS k := by
 induction h with
 | one h => exact h
 | step h _ ih => exact ht _ _ _ h ih
theorem reachOf_trans (CS : List (List Int)) (N : Nat) (ht : ∀ k j x, j ∈ csOf CS k -> x ∈ csOf CS j -> x ∈ csOf CS k) (k : Int) : reachOf CS N k = ((List.range N).map Int.ofNat).filter fun x => decide (x ∈ csOf CS k) := by
 unfold reachOf
 exact List.filter_congr fun x _ => decide_eq_decide.2 ⟨rch_trans ht, .one⟩
def callI (j : Int) : SIns := ⟨10, 0, 0, 0, j, [], 0, .nil⟩
def retI : SIns := ⟨13, 0, 0, 0, 0, [], 0, .nil⟩
def P1 : SProg := ⟨[], 0, .nil, [], 0, .nil, [⟨[97], false, 0, 1, [callI 1, retI], 6, .open⟩, ⟨[98], false, 0, 1, [retI], 6, .open⟩, ⟨[99], true, 0, 1, [callI 0, callI 1, retI], 6, .open⟩], 5, .open⟩
def P2 : SProg := ⟨[], 0, .nil, [], 0, .nil, [⟨[97], false, 0, 1, [callI 0, retI], 6, .open⟩, ⟨[98], true, 0, 1, [retI], 6, .open⟩], 5, .open⟩
theorem P1_wf : P1.wf := by
 simp [SProg.wf, SFun.wf, SIns.wf, P1, callI, retI]
theorem P2_wf : P2.wf := by
 simp [SProg.wf, SFun.wf, SIns.wf, P2, callI, retI]
theorem P1_may : mayP P1 = true := by kernel_rfl
theorem P2_may : mayP P2 = true := by kernel_rfl
theorem P1_cs : csP P1 = [[1], [], [0, 1]] := by kernel_rfl
theorem P2_cs : csP P2 = [[0], []] := by kernel_rfl
theorem P1_trans : ∀ k j x : Int, j ∈ csOf [[1], [], [0, 1]] k -> x ∈ csOf [[1], [], [0, 1]] j -> x ∈ csOf [[1], [], [0, 1]] k := by
 intro k j x hj hx
 unfold csOf at *
 generalize k.toNat = m at hj ⊢
 rcases m with _ | _ | _ | n <;> simp at hj
 ·subst hj; simp at hx
 ·rcases hj with rfl | rfl <;> simp at hx
  subst hx; simp
theorem P1_reach : reachLs [[1], [], [0, 1]] 3 = [[1], [], [0, 1]] := by
 unfold reachLs
 simp only [reachOf_trans _ 3 P1_trans]
 kernel_rfl
theorem P1_self : ¬ selfR P1 := by
 rintro ⟨k, hk, hm⟩
 rw [P1_cs, reachOf_trans _ _ P1_trans] at hm
 have hk : k < 3 := hk
 have hm := (List.mem_filter.1 hm).2
 simp only [decide_eq_true_eq] at hm
 rcases k with _ | _ | _ | k
 ·simp [csOf] at hm
 ·simp [csOf] at hm
 ·simp [csOf] at hm
 ·omega
theorem P2_self : selfR P2 := by
 refine ⟨0, by decide, ?_⟩
 rw [reachOf_mem _ _ _ _ (csP_rng (fits_may P2_may)), P2_cs]
 exact .one (by simp [csOf])
theorem P1_row : rowGo [[1], [], [0, 1]] 3 3 [] = [1, 0, 2] := by kernel_rfl
theorem P1_turned : turnedL [[1], [], [0, 1]] = [[2], [0, 2], []] := by kernel_rfl
theorem P1_roots : rootsGo P1 P1.funs 0 [[2], [0, 2], []] = [[2], [2], [2]] := by kernel_rfl
abbrev intA (n : Int) : AV := .int .i64 n
def arg1 : AV := .lst [.lst [intA 1] 1 (.exact 1), .lst [] 0 .nil, .lst [intA 0, intA 1] 1 (.exact 2)] 1 (.exact 3)
def arg2 : AV := .lst [.lst [intA 0] 1 (.exact 1), .lst [] 0 .nil] 1 (.exact 2)
theorem pu13 : cfg.pure 13 = true := rfl
instance t13 {d : Option Nat} : TightD cfg 13 d := ⟨fun _ _ => rfl⟩
def R13 (p : List Bool) (i : Nat) := Code.region i (cA p Tryz.f13.body) false
def D13 (p : List Bool) (i : Nat) := Code.region i (cA p Tryz.f13.body) true
def l13_1 : Code := (.seq (.seq (R13 [tt, tt, ff, tt, ff, ff, tt, ff, ff, tt, ff, tt, ff, ff, ff, ff] 7) (.cond (.tmp 30) .skip (.exit 2))) (.seq (.block 3 (D13 [tt, tt, ff, tt, ff, ff, tt, ff, ff, tt, ff, tt, ff, ff, tt, ff, ff] 9)) (R13 [tt, tt, ff, tt, ff, ff, tt, ff, ff, tt, ff, tt, ff, ff, tt, tt] 8)))
def l13_0 : Code := (.seq (.seq (R13 [tt, tt, ff, tt, ff, ff, ff, ff] 3) (.cond (.tmp 10) .skip (.exit 0))) (.seq (.block 1 (.seq (R13 [tt, tt, ff, tt, ff, ff, tt, ff, ff, ff] 5) (.seq (.seq (R13 [tt, tt, ff, tt, ff, ff, tt, ff, ff, tt, ff, ff] 6) (.block 2 (.loop l13_1))) (.seq (R13 [tt, tt, ff, tt, ff, ff, tt, ff, ff, tt, tt, ff] 10) (R13 [tt, tt, ff, tt, ff, ff, tt, ff, ff, tt, tt, tt] 11))))) (R13 [tt, tt, ff, tt, ff, ff, tt, tt] 4)))
def k13 : Code := (.seq (R13 [ff] 0) (.seq (R13 [tt, ff] 1) (.seq (.seq (R13 [tt, tt, ff, ff] 2) (.block 0 (.loop l13_0))) (.seq (R13 [tt, tt, tt, ff] 12) .ret))))
theorem call13 (x0 : AV) (h : Heap) : call cfg 13 [x0] h = (exec cfg 13 k13 [(0, x0)] h).bind (callEnd cfg 13 h [.cell 2 26]) := call_at2 (fnat Tryz.func13 (b := k13) (by kernel_rfl) (by kernel_rfl)) rfl rfl
theorem funs_run1 : call cfg 13 [arg1] [] = some (.ret (.agg P1.cells), []) := by
 rw [call13]
 exact pure_runF (k := 100) (n := 0) rfl rfl (by kernel_rfl)
theorem funs_run2 (cs : List AV) : call cfg 13 [arg2] [.cells cs 0] = some (.ret (.agg P2.cells), [.cells cs 0]) := by
 rw [call13]
 exact pure_runF (k := 100) (n := 1) rfl rfl (by kernel_rfl)
def lits (l : List (List Int)) : List AV := l.map fun x => if x = [] then .lst [] 0 .nil else .lst (intL x) 1 (.exact x.length)
theorem lits_get (l : List (List Int)) : ∀ (k : Nat) xs, l[k]? = some xs -> ∃ z r, (lits l)[k]? = some (.lst (intL xs) z r) := by
 intro k xs h
 rw [lits, qBc, h]
 by_cases hx : xs = []
 ·subst hx; exact ⟨_, _, rfl⟩
 ·exact ⟨1, .exact xs.length, by simp [hx]⟩
theorem lits_says (X : List (List Int)) (es : List AV) (z : Nat) (r : Room) (z' : Nat) (r' : Room) (h : Heap) (hes : es.length = X.length) (g : ∀ (k : Nat) xs, X[k]? = some xs -> ∃ z r, es[k]? = some (.lst (intL xs) z r))
  (hX : X.length < 1000000000) (hs : ∀ l ∈ X, l.length < 1000000000) : call cfg 14 [.lst es z r, .lst (lits X) z' r'] h = some (.ret (.bool true), h) := by
 have := lists_eq X X es (lits X) z z' r r' h hes (by simp [lits]) g (lits_get X) hX hs
 simpa using this
theorem one_lst (xs : List AV) (z : Nat) (r : Room) : Rv.one (.lst xs z r) = .lst xs z r := rfl
theorem one_int (k : IntKind) (n : Int) : Rv.one (.int k n) = .int k n := rfl
theorem pu4 : cfg.pure 4 = true := rfl
instance t4 {d : Option Nat} : TightD cfg 4 d := ⟨fun _ _ => rfl⟩
def B4 (p : List Bool) := cA p Tryz.f4.body
def R4 (p : List Bool) (i : Nat) := Code.region i (cA p Tryz.f4.body) false
theorem F4 : (∀ p i, XR cfg 4 (R4 p i) (B4 p) (cA p Tryz.f4.body).toList i false) /\ cfg.imm 4 6 = true /\ cfg.imm 4 7 = true /\ cfg.imm 4 8 = true /\ cfg.imm 4 14 = true /\ cfg.imm 4 15 = true /\ cfg.imm 4 25 = true /\ cfg.imm 4 26 = true /\ cfg.imm 4 27 = true /\ cfg.imm 4 33 = true /\ cfg.imm 4 34 = true /\ cfg.imm 4 35 = true /\ cfg.imm 4 41 = true /\ cfg.imm 4 42 = true /\ cfg.imm 4 43 = true /\ cfg.imm 4 49 = true /\ cfg.imm 4 50 = true /\ cfg.imm 4 51 = true /\ cfg.imm 4 52 = true /\ cfg.imm 4 58 = true /\ GO cfg 4 (B4 [tt, tt, tt, ff]) 2 22 /\ GO cfg 4 (B4 [tt, tt, tt, ff]) 10 30 /\ GO cfg 4 (B4 [tt, tt, tt, ff]) 18 38 /\ GO cfg 4 (B4 [tt, tt, tt, ff]) 26 46 /\ GO cfg 4 (B4 [tt, tt, tt, ff]) 35 55 /\ GO cfg 4 (B4 [tt, tt, tt, ff]) 41 61 /\ RE cfg 4 [0, 1, 2, 4] /\ cfg.pure 4 = true := ⟨fun _ _ => xr rfl rfl, by kernel_rfl, by kernel_rfl, by kernel_rfl, by kernel_rfl, by kernel_rfl, by kernel_rfl, by kernel_rfl, by kernel_rfl, by kernel_rfl, by kernel_rfl, by kernel_rfl, by kernel_rfl, by kernel_rfl, by kernel_rfl, by kernel_rfl, by kernel_rfl, by kernel_rfl, by kernel_rfl, by kernel_rfl, gO (by kernel_rfl), gO (by kernel_rfl), gO (by kernel_rfl), gO (by kernel_rfl), gO (by kernel_rfl), gO (by kernel_rfl), rE fun _ => rfl, rfl⟩
def k4 : Code := (.seq (R4 [ff] 0) (.seq (R4 [tt, ff] 1) (.seq (R4 [tt, tt, ff] 2) (.seq (R4 [tt, tt, tt, ff] 3) .ret))))
theorem call4 (h : Heap) : call cfg 4 [] h = (exec cfg 4 k4 [] h).bind (callEnd cfg 4 h [.tmp 0]) := call_at2 (fnat Tryz.func4 (b := k4) (by kernel_rfl) (by kernel_rfl)) rfl rfl
theorem works_eq : call cfg 4 [] [] = some (.ret (.bool true), []) := by
 obtain ⟨v, hv, hA⟩ := callsOf_eq P1 [] P1_wf
 rcases hA with ⟨hm, _⟩ | ⟨_, hs, _⟩ | ⟨_, _, a0, a1, a2, a3, z, r, rfl, ⟨es0, z0, r0, rfl, l0, g0⟩, ⟨es1, z1, r1, rfl, l1, g1⟩, ⟨es2, z2, r2, rfl, l2, g2⟩, ⟨es3, z3, r3, rfl, l3, g3⟩, _⟩
 ·rw [P1_may] at hm; cases hm
 ·exact absurd hs P1_self
 have hN : P1.funs.length = 3 := rfl
 rw [hN, P1_cs, P1_reach] at l2 g2 l3 g3
 rw [P1_turned, P1_roots] at l3 g3
 rw [P1_cs, P1_turned] at l1 g1
 rw [P1_cs] at l0 g0
 rw [hN, P1_cs, P1_row] at hv
 have hw : ∀ h, ∃ v, call cfg 6 [.agg P2.cells] h = some (.ret v, h) /\ v = .tup [.agg nils, .int .i64 67] := fun h => by
  obtain ⟨w, hw, hB⟩ := callsOf_eq P2 h P2_wf
  rcases hB with ⟨hm, _⟩ | ⟨_, _, rfl⟩ | ⟨_, hno, _⟩
  ·rw [P2_may] at hm; cases hm
  ·exact ⟨_, hw, rfl⟩
  ·exact absurd P2_self hno
 have hw2 : ∀ h, call cfg 6 [.agg P2.cells] h = some (.ret (.tup [.agg nils, .int .i64 67]), h) := fun h => by
  obtain ⟨v, h1, rfl⟩ := hw h; exact h1
 have L0 := fun h => lits_says _ es0 z0 r0 1 (.exact 3) h l0 g0 (by simp) (by simp)
 have L1 := fun h => lits_says _ es1 z1 r1 1 (.exact 3) h l1 g1 (by simp) (by simp)
 have L2 := fun h => lits_says _ es2 z2 r2 1 (.exact 3) h l2 g2 (by simp) (by simp)
 have L3 := fun h => lits_says _ es3 z3 r3 1 (.exact 3) h l3 g3 (by simp) (by simp)
 have L4 : ∀ h, call cfg 15 [.lst (intL [1, 0, 2]) z r, .lst (intL [1, 0, 2]) 1 (.exact 3)] h = some (.ret (.bool true), h) := fun h => by
  have := ints_eq [1, 0, 2] [1, 0, 2] z 1 r (.exact 3) h (by simp)
  simpa using this
 have f1 := funs_run1
 have f2 := funs_run2
 generalize P1.cells = p1 at f1 hv
 generalize P2.cells = p2 at f2 hw2
 simp only [arg1, arg2, intA] at f1 f2
 simp only [lits, intL, qAm, List.map_nil, reduceCtorEq, if_false, if_true, qAv, List.length_nil] at L0 L1 L2 L3 L4
 simp only [nils] at hw2
 rw [call4]
 simp only [intL, qAm, List.map_nil] at hv
 simp only [F4, k4, Tryz.f4, sxAll, cA, arithA, Env.keep, qt_eq, resultsA, packA, storeA, fieldAddrA, Rv.part, TD.isAgg, fillA, setCells, copies, mapO, ↓qAe, Nat.reduceBEq, Nat.reduceAdd, Nat.reduceMul, Nat.reduceLeDiff, Nat.reduceGT, bne, ↓reduceIte, load_ptr, ty30, ty27, ty3, ty32, f1, f2, hv, hw2, L0, L1, L2, L3, L4, pu13, pu6, pu14, pu15, group, one_lst]
 exact leave_pure rfl rfl rfl
end
end Go.Proofs.Sx
