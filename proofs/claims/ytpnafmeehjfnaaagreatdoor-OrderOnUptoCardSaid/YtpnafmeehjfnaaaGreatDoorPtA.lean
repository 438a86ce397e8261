/-
  More rules for going through code with open values.
-/
import Derived.Test.YtpnafmeehjfnaaaGreatDoorSxCore
import Derived.KernelRfl
import Derived.Test.YtpnafmeehjfnaaaGreatDoorRvKeys
import Derived.Test.YtpnafmeehjfnaaaGreatDoorRvTab
set_option linter.unusedSectionVars false
set_option linter.unusedSimpArgs false
set_option linter.unusedVariables false
set_option linter.defProp false
set_option linter.unusedSimpArgs false
set_option linter.unusedVariables false
namespace Go.Rv
theorem built_cells {h : Heap} {v : AV} {xs : List AV} {sz : Nat} (B : Built h v xs sz) : v.cells = [v] := by
  rcases B with ⟨rfl, _⟩ | ⟨o, g, cap, rfl, _⟩ <;> rfl
theorem built_leaf {h : Heap} {v : AV} {xs : List AV} {sz : Nat} (B : Built h v xs sz) : v.leaf = true := by
  rcases B with ⟨rfl, _⟩ | ⟨o, g, cap, rfl, _⟩ <;> rfl
theorem built_lt {h : Heap} {v : AV} {xs : List AV} {sz o : Nat} (B : Built h v xs sz) (ho : objOf v = some o) : o < h.length := by
  rcases B with ⟨rfl, _⟩ | ⟨o', g, cap, rfl, hob, _⟩
  · cases ho
  · simp only [objOf, Option.some.injEq] at ho; subst ho; exact obj_some hob
/-- What is older than that stays as it is. -/
theorem freeze_stay {h : Heap} {v : AV} {xs : List AV} {sz n d : Nat} (B : Built h v xs sz) (hn : h.length ≤ n) : freezeV h n (d + 2) v = some v := by
  rcases B with ⟨rfl, rfl⟩ | ⟨o, g, cap, rfl, hob, _⟩
  · rfl
  · have := obj_some hob
    unfold freezeV
    simp only
    rw [if_pos (by omega)]
theorem loopAt_app0 (h : Heap) (r : ALoop) (X : Heap) : Heap.loopAt (h ++ .loop r :: X) h.length = some r := by simp [Heap.loopAt]
theorem obj_left {h : Heap} (X : Heap) {o : Nat} (g : Nat) (ho : o < h.length) : Heap.obj (h ++ X) o g = Heap.obj h o g := by
  unfold Heap.obj; rw [List.getElem?_append_left ho]
theorem live_left {h : Heap} (X : Heap) {o : Nat} (g : Nat) (ho : o < h.length) : Heap.live (h ++ X) o g = Heap.live h o g := by
  unfold Heap.live; rw [obj_left X g ho]
theorem set_left {h : Heap} (X : Heap) {o : Nat} (x : AObj) (ho : o < h.length) : (h ++ X).set o x = h.set o x ++ X := List.set_append_left _ _ ho
theorem live_of {h : Heap} {o g : Nat} {cs : List AV} (H : h.obj o g = some cs) : h.live o g = true := by simp [Heap.live, H]
theorem known_yld (o : Nat) : known (.yld o) = some (.yld o) := rfl
theorem known_map (o : Nat) : known (.map o) = some (.map o) := rfl
theorem known_nilFunc : known .nilFunc = some .nilFunc := rfl
theorem known_nilPtr : known .nilPtr = some .nilPtr := rfl
theorem cells_clo (g : Nat) (cs : List AV) : AV.cells (.clo g cs) = [.clo g cs] := rfl
theorem cells_map (o : Nat) : AV.cells (.map o) = [.map o] := rfl
theorem cells_msl (o off len z g : Nat) (c : Option Nat) : AV.cells (.msl o off len z g c) = [.msl o off len z g c] := rfl
theorem leaf_clo (g : Nat) (cs : List AV) : AV.leaf (.clo g cs) = true := rfl
theorem leaf_map (o : Nat) : AV.leaf (.map o) = true := rfl
theorem leaf_msl (o off len z g : Nat) (c : Option Nat) : AV.leaf (.msl o off len z g c) = true := rfl
theorem leaf_ptr (o off g : Nat) : AV.leaf (.ptr o off g) = true := rfl
theorem leaf_ref (cs : List AV) : AV.leaf (.ref cs) = true := rfl
theorem cells_nilFunc : AV.cells .nilFunc = [.nilFunc] := rfl
theorem leaf_nilFunc : AV.leaf .nilFunc = true := rfl
theorem obj_leftS {h : Heap} {o g : Nat} {cs : List AV} (X : Heap) (H : h.obj o g = some cs) : Heap.obj (h ++ X) o g = some cs := by rw [obj_left X g (obj_some H), H]
theorem Built.app {h : Heap} {v : AV} {xs : List AV} {sz : Nat} (B : Built h v xs sz) (X : Heap) : Built (h ++ X) v xs sz := by
  rcases B with h1 | ⟨o, g, cap, rfl, hob, hc⟩
  · exact .inl h1
  · exact .inr ⟨o, g, cap, rfl, obj_leftS X hob, hc⟩
/-- Another object is written. -/
theorem Built.other {h h' : Heap} {v : AV} {xs : List AV} {sz : Nat} (B : Built h v xs sz) (K : ∀ o, objOf v = some o → h'[o]? = h[o]?) : Built h' v xs sz := by
  rcases B with h1 | ⟨o, g, cap, rfl, hob, hc⟩
  · exact .inl h1
  · refine .inr ⟨o, g, cap, rfl, ?_, hc⟩
    unfold Heap.obj at *
    rw [K o rfl]; exact hob

/-- A slice of the call's own, behind so many old objects that stay as they are. -/
structure Own (n : Nat) (h0 h : Heap) (v : AV) (xs : List AV) : Prop where
  b : Built h v xs 1
  own : ∀ o, objOf v = some o → n ≤ o
  le : n ≤ h.length
  old : h.take n = h0.take n

theorem take_app {h : Heap} (X : Heap) {n : Nat} (hn : n ≤ h.length) : (h ++ X).take n = h.take n := List.take_append_of_le_length hn
theorem Own.app {n : Nat} {h0 h : Heap} {v : AV} {xs : List AV} (O : Own n h0 h v xs) (X : Heap) : Own n h0 (h ++ X) v xs where
  b := O.b.app X
  own := O.own
  le := by have := O.le; simp; omega
  old := by rw [take_app X O.le, O.old]
theorem Own.kn {n : Nat} {h0 h : Heap} {v : AV} {xs : List AV} (O : Own n h0 h v xs) : known v = some v := known_built O.b
theorem Own.push {n : Nat} {h0 h : Heap} {v : AV} {xs ys : List AV} (O : Own n h0 h v xs) (hx : Plain1 xs) (hy : Plain1 ys) (hl : xs.length + ys.length ≤ mostLen) :
    ∃ v' h', appendA h 1 v ys = some (v', h') ∧ Own n h0 h' v' (xs ++ ys) := by
  obtain ⟨v', h', h1, h2, h4, h5, h6⟩ := append_built O.b hx.size (fun y hm => hy.leafs y hm) (by omega) hl
  refine ⟨v', h', h1, h2, fun o ho => ?_, Nat.le_trans O.le h4, ?_⟩
  · rcases h6 with h6 | h6
    · exact O.own o (h6 ▸ ho)
    · rw [h6] at ho; simp only [Option.some.injEq] at ho; subst ho; exact O.le
  · rw [← O.old]
    apply List.ext_getElem?
    intro i
    by_cases hi : i < n
    · rw [List.getElem?_take_of_lt hi, List.getElem?_take_of_lt hi]
      exact h5 i (Nat.lt_of_lt_of_le hi O.le) fun hc => by have := O.own i hc; omega
    · rw [List.getElem?_eq_none (by simp; omega), List.getElem?_eq_none (by simp; omega)]
theorem Own.nil (h : Heap) : Own h.length h h (.lst [] 0 .nil) [] := ⟨.inl ⟨rfl, rfl⟩, fun _ h => (by cases h), Nat.le_refl _, rfl⟩
theorem Own.leave {h h' : Heap} {v : AV} {xs : List AV} (O : Own h.length h h' v xs) (hx : Plain1 xs) {C : Cfg} {f : Nat} (hp : C.pure f = true) :
    (xs = [] ∧ leaveA C f h v h' = some (.ret (.lst [] 0 .nil), h)) ∨ leaveA C f h v h' = some (.ret (.lst xs 1 .open), h) := by
  have ht : h'.take h.length = h := by rw [O.old]; simp
  rcases freeze_built (n := h.length) (d := 38) O.b hx O.own with ⟨_, rfl, hf⟩ | hf
  · exact .inl ⟨rfl, leave_pure hp ht hf⟩
  · exact .inr (leave_pure hp ht hf)
theorem len_built {h : Heap} {v : AV} {xs : List AV} {sz e : Nat} (B : Built h v xs sz) : lenA h (.slice e) v = some xs.length := by
  rcases B with ⟨rfl, rfl⟩ | ⟨o, g, cap, rfl, hob, _⟩
  · rfl
  · simp [lenA, live_of hob]

/-- What can be read: how long, each element. -/
structure Rd (C : Cfg) (h : Heap) (ts te : Nat) (v : AV) (xs : List AV) : Prop where
  kn : known v = some v
  len : lenA h (.slice te) v = some xs.length
  get : ∀ (i : Nat) x, xs[i]? = some x → ∃ a, indexAddrA C h ts v (.int .i64 i) = some a ∧ known a = some a ∧ loadA C h te a = some x
theorem rd_built {C : Cfg} {h : Heap} {ts te : Nat} {v : AV} {xs : List AV} {ti tei : TI} (hts : C.ty ts = some ti) (hti : ti.td = .slice te) (hte : C.ty te = some tei) (h1 : tei.size = 1) (ha : tei.td.isAgg = false) (B : Built h v xs 1) (H : Plain1 xs) : Rd C h ts te v xs where
  kn := known_built B
  len := len_built B
  get i x hx := by
    have hi : i < xs.length := (List.getElem?_eq_some_iff.1 hx).1
    rcases B with ⟨rfl, rfl⟩ | ⟨o, g, cap, rfl, hob, _⟩
    · simp at hx
    · refine ⟨.ptr o i g, ?_, rfl, ?_⟩
      · simp only [indexAddrA, hts, hti, hte, Option.bind_eq_bind, Option.bind_some, natneg, if_false, Int.toNat_natCast, h1, live_of hob]
        simp [hi]
      · rw [flatC_plain H] at hob
        simp only [loadA, hte, cellsAt, hob, Option.bind_eq_bind, Option.bind_some, Option.map_some, Rv.part, ha]
        simp [List.head?_drop, hx]
theorem rd_lst {C : Cfg} {h : Heap} {ts te : Nat} {xs : List AV} {z : Nat} {r : Room} {ti tei : TI} (hts : C.ty ts = some ti) (hti : ti.td = .slice te) (hte : C.ty te = some tei) (h1 : tei.size = 1) (ha : tei.td.isAgg = false) (H : Plain1 xs) : Rd C h ts te (.lst xs z r) xs where
  kn := rfl
  len := rfl
  get i x hx := by
    have hc := (H x (List.mem_of_getElem? hx)).1
    refine ⟨.ref [x], ?_, rfl, ?_⟩
    · simp only [indexAddrA, hts, hti, hte, Option.bind_eq_bind, Option.bind_some, natneg, if_false, Int.toNat_natCast, h1, hx, hc]
      simp
    · simp [loadA, hte, cellsAt, Rv.part, ha]
theorem binA_str_eql {C : Cfg} (h : Heap) (t : Nat) (a b : List UInt8) : binA C h .eql t (.str a) (.str b) = some (.bool (a == b)) := rfl
theorem binA_str_neq {C : Cfg} (h : Heap) (t : Nat) (a b : List UInt8) : binA C h .neq t (.str a) (.str b) = some (.bool (!(a == b))) := rfl

theorem setCells_at {α : Type} : ∀ (ds cs : List α) (off : Nat), off + ds.length ≤ cs.length → ∀ i, (setCells cs off ds)[i]? = if off ≤ i ∧ i < off + ds.length then ds[i - off]? else cs[i]?
  | [], cs, off, _, i => by
    simp only [setCells, List.length_nil, Nat.add_zero]
    rw [if_neg (by omega)]
  | d :: r, cs, off, h, i => by
    simp only [setCells, List.length_cons] at h ⊢
    rw [setCells_at r (cs.set off d) (off + 1) (by simp; omega) i]
    by_cases h1 : i = off
    · subst h1
      rw [if_neg (by omega), if_pos (by omega), List.getElem?_set_self (by omega)]
      simp
    · by_cases h2 : off + 1 ≤ i ∧ i < off + 1 + r.length
      · rw [if_pos h2, if_pos (by omega), show i - off = (i - (off + 1)) + 1 from by omega, List.getElem?_cons_succ]
      · rw [if_neg h2, if_neg (by omega), List.getElem?_set_ne (by omega)]
theorem setCells_full {α : Type} {cs ds : List α} (h : ds.length = cs.length) : setCells cs 0 ds = ds := by
  apply List.ext_getElem?
  intro i
  rw [setCells_at ds cs 0 (by omega) i]
  by_cases hi : i < ds.length
  · rw [if_pos (by omega)]; rfl
  · rw [if_neg (by omega), List.getElem?_eq_none (by omega), List.getElem?_eq_none (by omega)]


noncomputable def tabC (T : Nat → Bool) : List AV := (List.range 256).map fun k => AV.bool (T k)
theorem tabC_len (T : Nat → Bool) : (tabC T).length = 256 := by simp [tabC]
theorem tabC_get (T : Nat → Bool) {k : Nat} (hk : k < 256) : (tabC T)[k]? = some (.bool (T k)) := by simp [tabC, hk]
theorem tabC_head (T : Nat → Bool) {k : Nat} (hk : k < 256) : ((tabC T).drop k).head? = some (.bool (T k)) := by rw [List.head?_drop, tabC_get T hk]
theorem tabC_set (T : Nat → Bool) {c : Nat} (hc : c < 256) : (tabC T).set c (.bool true) = tabC (fun k => T k || k == c) := by
  apply List.ext_getElem?
  intro i
  by_cases hi : i < 256
  · rw [List.getElem?_set, tabC_get (fun k => T k || k == c) hi]
    by_cases he : c = i
    · subst he; simp [tabC_len, hi]
    · have : (i == c) = false := by simp; omega
      simp [he, tabC_get T hi, this]
  · rw [List.getElem?_eq_none (by simp [tabC_len]; omega), List.getElem?_eq_none (by simp [tabC_len]; omega)]
theorem tabC_leaf (T : Nat → Bool) : (tabC T).all AV.leaf = true := by simp [tabC, AV.leaf]
theorem tabC_dead (T : Nat → Bool) : (tabC T).all AV.dead = true := by simp [tabC, AV.dead]
theorem tabC_zero : copies 256 [AV.bool false] = tabC (fun _ => false) := by kernel_rfl
theorem tabC_take (T : Nat → Bool) : (tabC T).take 256 = tabC T := List.take_of_length_le (by rw [tabC_len]; omega)
theorem tabC_over (T U : Nat → Bool) : setCells (tabC T) 0 (tabC U) = tabC U := setCells_full (by rw [tabC_len, tabC_len])
end Go.Rv

/-
  Maps of numbers to numbers, with open values.
-/
set_option linter.unusedSimpArgs false
set_option linter.unusedVariables false
namespace Go.Rv

def mapE (l : List (Int × Int)) : List (AV × AV) := l.map fun p => (.int .i64 p.1, .int .i64 p.2)
def pget (k : Int) : List (Int × Int) → Option Int
  | [] => none
  | (a, c) :: r => if k = a then some c else pget k r
def pput (k c : Int) : List (Int × Int) → List (Int × Int)
  | [] => [(k, c)]
  | (a, d) :: r => if k = a then (a, c) :: r else (a, d) :: pput k c r
theorem findA_mapE (k : Int) : ∀ l, findA (.int .i64 k) (mapE l) = some ((pget k l).map (AV.int .i64))
  | [] => rfl
  | (a, c) :: r => by
    have ih := findA_mapE k r
    simp only [mapE] at ih
    simp only [mapE, List.map_cons, findA, sameK, sameKey, beq_self_eq_true, if_true, Option.bind_eq_bind, Option.bind_some, ih, pget]
    by_cases h : k = a
    · subst h; simp
    · simp [h]
theorem putA_mapE (k c : Int) : ∀ l, putA (.int .i64 k) (.int .i64 c) (mapE l) = some (mapE (pput k c l))
  | [] => rfl
  | (a, d) :: r => by
    have ih := putA_mapE k c r
    simp only [mapE] at ih
    simp only [mapE, List.map_cons, putA, sameK, sameKey, beq_self_eq_true, if_true, Option.bind_eq_bind, Option.bind_some, ih, pput]
    by_cases h : k = a
    · subst h; simp
    · simp [h]
theorem pput_keys (k c : Int) : ∀ l, (pput k c l).map (·.1) = if k ∈ l.map (·.1) then l.map (·.1) else l.map (·.1) ++ [k]
  | [] => by simp [pput]
  | (a, d) :: r => by
    have ih := pput_keys k c r
    simp only [pput]
    by_cases h : k = a
    · subst h; simp
    · simp only [h, if_false, List.map_cons, ih, List.mem_cons, false_or]
      split <;> simp
theorem pget_none {k : Int} : ∀ {l}, pget k l = none ↔ k ∉ l.map (·.1)
  | [] => by simp [pget]
  | (a, d) :: r => by
    have ih := pget_none (k := k) (l := r)
    simp only [pget]
    by_cases h : k = a
    · subst h; simp
    · simp only [h, if_false, ih, List.map_cons, List.mem_cons, false_or]
theorem pget_mem {k c : Int} : ∀ {l}, pget k l = some c → (k, c) ∈ l
  | [], h => by simp [pget] at h
  | (a, d) :: r, h => by
    simp only [pget] at h
    split at h
    · rename_i he
      simp only [Option.some.injEq] at h
      subst he h; simp
    · exact List.mem_cons_of_mem _ (pget_mem h)
theorem pput_mem {k c : Int} : ∀ {l} {p : Int × Int}, p ∈ pput k c l → p = (k, c) ∨ p ∈ l
  | [], p, h => by simpa [pput] using h
  | (a, d) :: r, p, h => by
    simp only [pput] at h
    split at h
    · rename_i he
      subst he
      rcases List.mem_cons.1 h with rfl | h
      · exact .inl rfl
      · exact .inr (List.mem_cons_of_mem _ h)
    · rcases List.mem_cons.1 h with rfl | h
      · exact .inr (List.mem_cons_self ..)
      · rcases pput_mem h with h | h
        · exact .inl h
        · exact .inr (List.mem_cons_of_mem _ h)
theorem keysI_mapE : ∀ {l : List (Int × Int)}, (∀ k ∈ l.map (·.1), (Lit.int .i64 k).wf = true) → keysI (mapE l) = some (l.map (·.1))
  | [], _ => rfl
  | (a, d) :: r, h => by
    have ih := keysI_mapE (l := r) (fun k hk => h k (by simp at hk ⊢; exact .inr hk))
    have ha := h a (by simp)
    simp only [mapE] at ih
    simp only [mapE, List.map_cons, keysI, beq_self_eq_true, Bool.true_and, ha, if_true, ih, Option.map_some]

theorem mapAt_left {h : Heap} (X : Heap) {o : Nat} (ho : o < h.length) : Heap.mapAt (h ++ X) o = Heap.mapAt h o := by
  unfold Heap.mapAt; rw [List.getElem?_append_left ho]
theorem mapAt_set {h : Heap} {o : Nat} (es : List (AV × AV)) (ho : o < h.length) : Heap.mapAt (h.set o (.map es)) o = some es := by
  simp [Heap.mapAt, List.getElem?_set_self ho]
theorem mapAt_lt {h : Heap} {o : Nat} {es : List (AV × AV)} (H : h.mapAt o = some es) : o < h.length := by
  unfold Heap.mapAt at H
  split at H
  · rename_i hx
    exact (List.getElem?_eq_some_iff.1 hx).1
  · cases H
theorem keysOut_eq (l : List Int) : keysOut l = .lst (l.map (AV.int .i64)) 1 (if l = [] then .nil else .open) := by
  cases l <;> rfl
theorem ents_map (h : Heap) (o : Nat) : Heap.ents h (.map o) = h.mapAt o := rfl
theorem pget_pput (k c : Int) : ∀ l, pget k (pput k c l) = some c
  | [] => by simp [pput, pget]
  | (a, d) :: r => by
    simp only [pput]
    split
    · rename_i h; subst h; simp [pget]
    · rename_i h; simp [pget, h, pget_pput k c r]
theorem pget_some {k : Int} {l : List (Int × Int)} (h : k ∈ l.map (·.1)) : ∃ c, pget k l = some c ∧ (k, c) ∈ l := by
  cases hg : pget k l with
  | none => exact absurd h (pget_none.1 hg)
  | some c => exact ⟨c, rfl, pget_mem hg⟩
end Go.Rv

/-
  The rules for going through code, put together as one fact.
-/
namespace Go.Rv
set_option linter.defProp false in
def sxAll := (And.intro (And.intro (And.intro (And.intro (And.intro (And.intro (And.intro @codeAt_nil @codeAt_seq0) (And.intro @codeAt_seq1 (And.intro @codeAt_cond0 @codeAt_cond1))) (And.intro (And.intro @codeAt_block (And.intro @codeAt_loop @codeAt_scope)) (And.intro @codeAt_range0 (And.intro @codeAt_range1 @codeOps_region)))) (And.intro (And.intro (And.intro @exec_seq @exec_cond) (And.intro @exec_block (And.intro @exec_exit @exec_skip))) (And.intro (And.intro @exec_label (And.intro @exec_scope @exec_ret)) (And.intro @ops_nil (And.intro @sx_move @sx_assign))))) (And.intro (And.intro (And.intro (And.intro @sx_load @sx_store) (And.intro @sx_bin (And.intro @sx_un @sx_conv))) (And.intro (And.intro @sx_fieldAddr (And.intro @sx_field @sx_indexAddr)) (And.intro @sx_index (And.intro @sx_alloc @sx_box)))) (And.intro (And.intro (And.intro @sx_pick @sx_build) (And.intro @sx_buildSlice (And.intro @sx_len @sx_slice))) (And.intro (And.intro @sx_callf (And.intro @sx_callt @sx_makeFunc)) (And.intro @sx_makeSlice (And.intro @sx_makeMap @sx_lookup)))))) (And.intro (And.intro (And.intro (And.intro (And.intro @sx_mapUpdate @sx_insert) (And.intro @sx_nilCheck (And.intro @sx_iface @sx_extract))) (And.intro (And.intro @sx_append (And.intro @sx_cap @sx_clear)) (And.intro @sx_copy (And.intro @sx_delete @sx_max)))) (And.intro (And.intro (And.intro @sx_min @evalA_tmp) (And.intro @evalA_int (And.intro @evalA_bool @evalA_func))) (And.intro (And.intro @evalA_lst (And.intro @evalA_nilFunc @evalA_nilMap)) (And.intro @evalA_nilPtr (And.intro @evalA_str @known_int))))) (And.intro (And.intro (And.intro (And.intro @known_bool @known_str) (And.intro @known_ptr (And.intro @known_ref @known_agg))) (And.intro (And.intro @known_tup (And.intro @known_lst @known_msl)) (And.intro @known_clo (And.intro @cells_int @cells_bool)))) (And.intro (And.intro (And.intro @cells_str (And.intro @cells_ptr @cells_ref)) (And.intro @cells_agg (And.intro @cells_lst @leaf_int))) (And.intro (And.intro @leaf_bool (And.intro @leaf_str @leaf_lst)) (And.intro @one_int (And.intro @one_bool @one_str))))))) (And.intro (And.intro (And.intro (And.intro (And.intro (And.intro @isRef_ref @putAt_some) (And.intro @putAt_none (And.intro @binA_int @pick_true))) (And.intro (And.intro @pick_false (And.intro @parts_nil @parts_cons)) (And.intro @get_hit (And.intro @Env.get_cons @Env.get_nil)))) (And.intro (And.intro (And.intro @Env.put_eq @eq_self.{1}) (And.intro @pickL_nil (And.intro @pickL_cons @obj_app))) (And.intro (And.intro @obj_app0 (And.intro @live_app @live_app0)) (And.intro @set_app (And.intro @set_app0 @obj_zero))))) (And.intro (And.intro (And.intro (And.intro @obj_succ @live_zero) (And.intro @live_succ (And.intro @List.length_append.{0} @List.append_assoc.{0}))) (And.intro (And.intro @callEnd_ret (And.intro @callEnd_nrm @callv_clo)) (And.intro @natlt (And.intro @natneg @Int.toNat_natCast)))) (And.intro (And.intro (And.intro @got_some @go_tt) (And.intro @go_tf (And.intro @go_ft @go_ff))) (And.intro (And.intro @go_tup (And.intro @List.cons_append.{0} @List.nil_append.{0})) (And.intro @List.append_nil.{0} (And.intro @Option.bind_eq_bind.{0} @Option.map_some.{0, 0})))))) (And.intro (And.intro (And.intro (And.intro (And.intro @Option.map_none.{0, 0} @Option.getD_some.{0}) (And.intro @Option.getD_none.{0} (And.intro @Bool.false_eq_true @if_true.{1}))) (And.intro (And.intro @if_false.{1} (And.intro @ite_true.{1} @List.zipIdx_cons.{0})) (And.intro @List.zipIdx_nil.{0} (And.intro @List.map_cons.{0, 0} @List.map_nil.{0, 0})))) (And.intro (And.intro (And.intro @List.length_cons.{0} @List.length_nil.{0}) (And.intro @List.getElem?_cons_zero.{0} (And.intro @List.getElem?_cons_succ.{0} @List.drop_succ_cons.{0}))) (And.intro (And.intro @List.drop_zero.{0} (And.intro @List.head?_cons.{0} @List.set_cons_zero.{0})) (And.intro @List.set_cons_succ.{0} (And.intro @List.headD_cons.{0} @List.contains_cons.{0}))))) (And.intro (And.intro (And.intro (And.intro @List.contains_nil.{0} @Bool.or_false) (And.intro @Bool.false_or (And.intro @Bool.and_true @Bool.true_and))) (And.intro (And.intro @Bool.false_and (And.intro @Bool.and_false @Bool.not_true)) (And.intro @Bool.not_false (And.intro @Bool.true_or @Bool.or_true)))) (And.intro (And.intro (And.intro @decide_true (And.intro @decide_false @decide_eq_true_eq)) (And.intro @List.all_cons.{0} (And.intro @List.all_nil.{0} @List.take_succ_cons.{0}))) (And.intro (And.intro @List.take_zero.{0} (And.intro @beq_self_eq_true.{0} @Option.isSome_none.{0})) (And.intro @Option.isSome_some.{0} (And.intro @List.filter_cons.{0} @List.filter_nil.{0}))))))))
end Go.Rv

/-
  Layers: a call under another told as one step (callP); arguments made immutable for good ahead of it (iceA).
-/
set_option linter.unusedSimpArgs false
set_option linter.unusedVariables false
namespace Go.Rv
noncomputable section

def noLoop (h : Heap) : Bool := h.all fun x => match x with | .loop _ => false | _ => true
def Sim.re (s : Sim) (g : Nat → Nat → List Nat → Code → Code → Prop) : Sim := { s with good := ⟨g, s.good.pin⟩ }
section
variable {s : Sim} {h : Heap} {w : World}
theorem noLoop_at (hn : noLoop h = true) {o : Nat} {r : ALoop} (hx : h[o]? = some (.loop r)) : False := by
  have := List.all_eq_true.1 hn _ (List.mem_of_getElem? hx)
  cases this
theorem Rel.re (g : Nat → Nat → List Nat → Code → Code → Prop) (hn : noLoop h = true) (R : Rel s h w) : Rel (s.re g) h w where
  inj := R.inj
  obj o b hb := by
    obtain ⟨x, hx, hr⟩ := R.obj o b hb
    refine ⟨x, hx, ?_⟩
    cases x with
    | cells cs gn =>
      obtain ⟨bc, el, k1, k2, k3⟩ := hr
      exact ⟨bc, el, k1, k2, fun i c hi => let ⟨v, h1, h2⟩ := k3 i c hi; ⟨v, h1, h2.regood _⟩⟩
    | map es =>
      obtain ⟨es0, hp0, en, cl, k1, k2, k3, k4⟩ := hr
      exact ⟨es0, hp0, en, cl, k1, k2, k3, fun i e hi => let ⟨m, h1, h2, h3⟩ := k4 i e hi; ⟨m, h1, h2.regood _, h3.regood _⟩⟩
    | loop r => exact (noLoop_at hn hx).elim
    | iter k es =>
      obtain ⟨bm, since, seen, last, en, cl, k1, k2, k3, k4, k5⟩ := hr
      refine ⟨bm, since, seen, last, en, cl, k1, k2, k3, fun hk => ?_, fun hk => ?_⟩
      · obtain ⟨q1, q2, q3, q4, q5, es0, hp0, q6⟩ := k4 hk
        exact ⟨q1, q2, q3, q4, q5, es0, hp0, fun i e hi => let ⟨m, hm, h6, h7⟩ := q6 i e hi; ⟨m, hm, h6.regood _, h7.regood _⟩⟩
      · obtain ⟨q1, q2, q3, q4⟩ := k5 hk
        exact ⟨q1, q2, q3, fun e he => let ⟨m, hm, h6, h7, h8⟩ := q4 e he; ⟨m, hm, h6, h7.regood _, h8.regood _⟩⟩
  apart := R.apart
  imm := R.imm
theorem Ext.re {s' : Sim} {h' : Heap} {w' : World} (g : Nat → Nat → List Nat → Code → Code → Prop) (E : Ext (s.re g) h w s' h' w') : Ext s h w (s'.re s.good.good) h' w' where
  size := E.size
  far := E.far
  shape := E.shape
  imm := E.imm
  gen := E.gen
  same := E.same
  kind := E.kind
  own := E.own
  os := E.os
  tape := E.tape
  output := E.output
  kindL := E.kindL
  good := by show (⟨s.good.good, s'.good.pin⟩ : Fixed) = s.good; rw [E.good]; rfl
  old := E.old
  kept := E.kept
end

/-- A call under that told, as one step. -/
def callP (C : Cfg) (f : Nat) (args : List AV) (h : Heap) : Option (CRes × Heap) :=
  if noLoop h then (call C f args h).bind fun x => if noLoop x.2 then some x else none else none

theorem known_of {P : Program} {f : Nat} {fn : Func} {b : Code} (h1 : P.funcs[f]? = some fn) (h2 : fn.body = some b) (h3 : (fn.name == "runtime.NumGoroutine") = false) : Known P f := ⟨fn, b, h1, h2, h3⟩

theorem callP_ok {T : RvTold} {P : Program} (hg : GlobOk (T.cfg P)) (hcl : ∀ g v, T.glob g = some v → ∀ h, freezeV h 0 40 v = some v) (hp : PrimOk P (T.cfg P)) (hm : P.follows .mixedOrders = true) {C : Cfg} (hC : ∀ g v, T.glob g = some v → C.glob g = some v)
    {f : Nat} {args : List AV} {h : Heap} {res : CRes} {h' : Heap} (hc : callP (T.cfg P) f args h = some (res, h')) {s : Sim} {w : World} {vs : List Value} (R : Rel s h w) (G : Glob C s h w) (H : VRs s h w args vs) : CallOk P f vs s h w res h' := by
  unfold callP at hc
  split at hc <;> first | cases hc | skip
  rename_i hn
  obtain ⟨x, hx, hc⟩ := Option.bind_eq_some_iff.1 hc
  split at hc <;> first | cases hc | skip
  rename_i hn'
  have G1 : GG (T.cfg P) (ordOk (T.cfg P)) (s.re (goodOf (ordOk (T.cfg P)))) h w := ⟨fun g v hv => (G g v (hC g v hv)).regood _, rfl⟩
  have := RvTold.sound hg hcl hp hm hx (R.re _ hn) G1 (H.regood _)
  refine Calls.mono this fun e w' he => ?_
  obtain ⟨s', E, R', hv⟩ := he
  refine ⟨s'.re s.good.good, E.re _, R'.re _ hn', ?_⟩
  cases res with
  | ret v =>
    cases e with
    | returned u => exact hv.regood _
    | panicked _ => exact hv.elim
    | outgrown => exact hv.elim
  | pan v =>
    cases e with
    | returned u => exact hv.elim
    | panicked c =>
      obtain ⟨u, h1, h2⟩ := hv
      exact ⟨u, h1, h2.regood _⟩
    | outgrown => exact hv.elim

theorem callP_pure {T : RvTold} {P : Program} (hg : GlobOk (T.cfg P)) (hcl : ∀ g v, T.glob g = some v → ∀ h, freezeV h 0 40 v = some v) (hp : PrimOk P (T.cfg P)) (hm : P.follows .mixedOrders = true)
    {f : Nat} (hpu : T.pure f = true) {args : List AV} {h : Heap} {v : AV} {h' : Heap} (hc : callP (T.cfg P) f args h = some (.ret v, h')) : h' = h := by
  unfold callP at hc
  split at hc <;> first | cases hc | skip
  obtain ⟨x, hx, hc⟩ := Option.bind_eq_some_iff.1 hc
  split at hc <;> first | cases hc | skip
  obtain ⟨k, hk⟩ := (call_iff (T.cfg P)).1 hx
  exact callF_pure (RvTold.ok hg hcl hp hm) hpu hk

/-- The objects that a value comes to. -/
def visV (h : Heap) : Nat → AV → List Nat
  | 0, _ => []
  | d + 1, v =>
    match v with
    | .ptr o off g => o :: (((h.obj o g).getD []).drop off).flatMap (visV h d)
    | .msl o off len sz g _ => o :: ((((h.obj o g).getD []).drop off).take (len * sz)).flatMap (visV h d)
    | .ref cs => cs.flatMap (visV h d)
    | .agg cs => cs.flatMap (visV h d)
    | .tup cs => cs.flatMap (visV h d)
    | .clo _ cs => cs.flatMap (visV h d)
    | .lst xs _ _ => xs.flatMap (visV h d)
    | .iface _ v => visV h d v
    | _ => []
def killX (S : List Nat) (o : Nat) (x : AObj) : AObj :=
  match x with
  | .cells cs g => if S.contains o then .cells cs (g + 1) else .cells cs g
  | .iter k es => if S.contains o then .cells [] 1 else .iter k es
  | x => x
/-- These objects are forgotten: what points to them is old. -/
def killO (S : List Nat) (h : Heap) : Heap := h.mapIdx (killX S)
def iceA (h : Heap) (vs : List AV) : Option (List AV × Heap) := (mapO (freezeV h 0 40) vs).map fun avs => (avs, killO (vs.flatMap (visV h 40)) h)
def Sim.ice (s : Sim) (S : List Nat) : Sim := { μ := fun o => if o ∈ S then none else s.μ o, I := fun b => s.I b ∨ ∃ o ∈ S, s.μ o = some b, good := s.good }

section
variable {s : Sim} {h : Heap} {w : World} {S : List Nat}
theorem killO_get (o : Nat) : (killO S h)[o]? = (h[o]?).map (killX S o) := by
  unfold killO
  rw [List.getElem?_mapIdx]
theorem killX_out {o : Nat} (ho : o ∉ S) (x : AObj) : killX S o x = x := by
  cases x <;> simp [killX, ho]
theorem killO_out {o : Nat} (ho : o ∉ S) : (killO S h)[o]? = h[o]? := by
  rw [killO_get]
  cases h[o]? with
  | none => rfl
  | some x => simp [killX_out ho]
theorem genOf_kill (o g : Nat) (hg : genOf h o = some g) : ∃ g', genOf (killO S h) o = some g' ∧ g ≤ g' ∧ (o ∈ S → isMap h o = false → isLoop h o = false → g < g') := by
  unfold genOf isMap isLoop at *
  rw [killO_get]
  cases hx : h[o]? with
  | none => rw [hx] at hg; cases hg
  | some x =>
    rw [hx] at hg
    cases x with
    | cells cs gn =>
      simp only [Option.some.injEq] at hg
      subst hg
      by_cases ho : o ∈ S
      · exact ⟨gn + 1, by simp [killX, ho], by omega, fun _ _ _ => by omega⟩
      · exact ⟨gn, by simp [killX, ho], by omega, fun h => absurd h ho⟩
    | map es =>
      simp only [Option.some.injEq] at hg
      subst hg
      exact ⟨0, by simp [killX], by omega, fun _ h => by simp at h⟩
    | loop r =>
      simp only [Option.some.injEq] at hg
      subst hg
      exact ⟨0, by simp [killX], by omega, fun _ _ h => by simp at h⟩
    | iter k es =>
      simp only [Option.some.injEq] at hg
      subst hg
      by_cases ho : o ∈ S
      · exact ⟨1, by simp [killX, ho], by omega, fun _ _ _ => by omega⟩
      · exact ⟨0, by simp [killX, ho], by omega, fun h => absurd h ho⟩

/-- All of them have blocks, and are objects of cells. -/
def Has (s : Sim) (h : Heap) (S : List Nat) : Prop := ∀ o ∈ S, (∃ b, s.μ o = some b) ∧ isMap h o = false ∧ isLoop h o = false

theorem ext_ice (hS : Has s h S) : Ext s h w (s.ice S) (killO S h) w where
  size := Nat.le_refl _
  far := fun _ _ _ => rfl
  shape := fun _ _ h => h
  imm := fun b hb => .inl hb
  gen := fun o g hg => let ⟨g', h1, h2, _⟩ := genOf_kill (S := S) o g hg; ⟨g', h1, h2⟩
  same := fun o g hg hg' => by
    obtain ⟨g', h1, h2, h3⟩ := genOf_kill (S := S) o g hg
    rw [hg'] at h1
    injection h1 with h1
    by_cases ho : o ∈ S
    · obtain ⟨_, m1, m2⟩ := hS o ho
      have := h3 ho m1 m2
      omega
    · refine ⟨fun b hb => by simp [Sim.ice, ho, hb], ?_⟩
      unfold lenOf; rw [killO_out ho]
  kind := fun o hm _ => by
    have ho : o ∉ S := fun ho => by rw [(hS o ho).2.1] at hm; cases hm
    unfold isMap at *; rw [killO_out ho]; exact hm
  own := fun o b hb => by
    simp only [Sim.ice] at hb
    split at hb
    · cases hb
    · exact .inl ⟨o, hb⟩
  os := rfl
  tape := rfl
  output := rfl
  kindL := fun o hm => by
    have ho : o ∉ S := fun ho => by rw [(hS o ho).2.2] at hm; cases hm
    unfold isLoop at *; rw [killO_out ho]; exact hm
  good := rfl
  old := fun o b _ hb => by
    simp only [Sim.ice] at hb
    split at hb
    · cases hb
    · exact ⟨b, hb⟩
  kept := fun o _ hn => by
    have ho : o ∉ S := fun ho => by
      obtain ⟨⟨b, hb⟩, _⟩ := hS o ho
      rw [hn] at hb; cases hb
    exact killO_out ho

theorem rel_ice (R : Rel s h w) (hS : Has s h S) : Rel (s.ice S) (killO S h) w where
  inj := fun o o' b h1 h2 => by
    simp only [Sim.ice] at h1 h2
    split at h1 <;> split at h2 <;> first | cases h1 | cases h2 | exact R.inj _ _ _ h1 h2
  obj := fun o b hb => by
    simp only [Sim.ice] at hb
    split at hb
    · cases hb
    · rename_i ho
      obtain ⟨x, hx, hr⟩ := R.obj o b hb
      exact ⟨x, by rw [killO_out ho]; exact hx, hr.ext R.apart (ext_ice hS) rfl⟩
  apart := fun o b hb hI => by
    simp only [Sim.ice] at hb hI
    split at hb
    · cases hb
    · rename_i ho
      rcases hI with hI | ⟨o', ho', hb'⟩
      · exact R.apart o b hb hI
      · have := R.inj o o' b hb hb'
        subst this
        exact ho ho'
  imm := fun b hI => by
    rcases hI with hI | ⟨o', _, hb'⟩
    · exact R.imm b hI
    · exact R.lt hb'

theorem obj_kind {o g : Nat} {cs : List AV} (ho : h.obj o g = some cs) : isMap h o = false ∧ isLoop h o = false := by
  have := (genOf_obj ho).2.1
  unfold isMap isLoop
  rw [this]
  exact ⟨rfl, rfl⟩

/-- What is made immutable has blocks. -/
theorem vis_has (R : Rel s h w) : ∀ (D : Nat) {d : Nat}, d ≤ D → ∀ {v v' : AV} {u : Value}, freezeV h 0 d v = some v' → VR s h w v u → Has s h (visV h d v) := by
  intro D
  induction D with
  | zero =>
    intro d hd v v' u hf _
    obtain rfl : d = 0 := by omega
    simp [freezeV] at hf
  | succ D ih =>
    intro d hd v v' u hf hv
    cases d with
    | zero => simp [freezeV] at hf
    | succ d =>
      have ih' : ∀ {v v' : AV} {u : Value}, freezeV h 0 d v = some v' → VR s h w v u → Has s h (visV h d v) := fun hf hv => ih (d := d) (by omega) hf hv
      have many : ∀ {cs cs' : List AV}, mapO (freezeV h 0 d) cs = some cs' → (∀ (i : Nat) c, cs[i]? = some c → ∃ u, VR s h w c u) → Has s h (cs.flatMap (visV h d)) := by
        intro cs cs' hm hr o ho
        obtain ⟨c, hc, ho⟩ := List.mem_flatMap.1 ho
        obtain ⟨i, hi⟩ := List.mem_iff_getElem?.1 hc
        obtain ⟨b, _, hb⟩ := (mapO_get hm).2 i c hi
        obtain ⟨u, hu⟩ := hr i c hi
        exact ih' hb hu o ho
      have nope : Has s h [] := fun o ho => by simp at ho
      cases v <;> simp only [freezeV, Nat.not_lt_zero, if_false] at hf <;> simp only [visV] <;> try exact nope
      case ptr o off g =>
        simp only [Option.bind_eq_bind] at hf
        obtain ⟨cs, hcs, hf⟩ := Option.bind_eq_some_iff.1 hf
        obtain ⟨cs', hcs', hf⟩ := Option.bind_eq_some_iff.1 hf
        rw [hcs]
        cases hv with
        | ptrOld _ _ _ g' a e1 e2 => have := (genOf_obj hcs).1; rw [this] at e1; injection e1; omega
        | ptr _ _ _ b e1 e2 =>
          have hread := (obj_reads R hcs e2).drop off
          intro o' ho'
          rcases List.mem_cons.1 ho' with ho' | ho'
          · subst ho'; exact ⟨⟨b, e2⟩, obj_kind hcs⟩
          · exact many hcs' (fun i c hi => let ⟨v, _, hvr⟩ := hread i c hi; ⟨v, hvr⟩) o' ho'
      case msl o off len sz g cap =>
        simp only [Option.bind_eq_bind] at hf
        obtain ⟨cs, hcs, hf⟩ := Option.bind_eq_some_iff.1 hf
        split at hf <;> first | cases hf | skip
        obtain ⟨cs', hcs', hf⟩ := Option.bind_eq_some_iff.1 hf
        rw [hcs]
        cases hv with
        | mslOld _ _ _ _ _ _ g' a m c e1 e2 => have := (genOf_obj hcs).1; rw [this] at e1; injection e1; omega
        | msl _ _ _ _ _ _ b c el m off' e0 e1 e2 e3 e4 e5 e6 e7 =>
          have hread := ((obj_reads R hcs e2).drop off).take (len * sz)
          intro o' ho'
          rcases List.mem_cons.1 ho' with ho' | ho'
          · subst ho'; exact ⟨⟨b, e2⟩, obj_kind hcs⟩
          · exact many hcs' (fun i c hi => let ⟨v, _, hvr⟩ := hread i c hi; ⟨v, hvr⟩) o' ho'
      case ref cs =>
        obtain ⟨cs', hcs, rfl⟩ := Option.map_eq_some_iff.1 hf
        cases hv with
        | ref _ b off f e1 e2 e3 => exact many hcs fun i c hi => ⟨_, e3 i c hi⟩
      case lst xs z r =>
        obtain ⟨xs', hxs, rfl⟩ := Option.map_eq_some_iff.1 hf
        cases hv with
        | lstNil => exact nope
        | lstEmpty _ A => exact nope
        | lst _ _ _ b off c f e1 e2 e3 e4 e5 e6 =>
          intro o ho
          obtain ⟨x, hx, ho⟩ := List.mem_flatMap.1 ho
          obtain ⟨i, hi⟩ := List.mem_iff_getElem?.1 hx
          obtain ⟨x', _, hfx⟩ := (mapO_get hxs).2 i x hi
          -- an element is one cell, or cells put together
          cases d with
          | zero => simp [freezeV] at hfx
          | succ d =>
            have hone : x.cells = [x] → Has s h (visV h (d + 1) x) := fun hc => ih' hfx (e6 i 0 x x hi (by rw [hc]; rfl))
            cases x with
            | agg cs =>
              simp only [freezeV] at hfx
              obtain ⟨cs', hcs, _⟩ := Option.map_eq_some_iff.1 hfx
              simp only [visV] at ho
              obtain ⟨c, hc, ho⟩ := List.mem_flatMap.1 ho
              obtain ⟨j, hj⟩ := List.mem_iff_getElem?.1 hc
              obtain ⟨c', _, hfc⟩ := (mapO_get hcs).2 j c hj
              exact ih (d := d) (by omega) hfc (e6 i j _ c hi hj) o ho
            | _ => exact hone rfl o ho
      case clo f cs =>
        obtain ⟨cs', hcs, rfl⟩ := Option.map_eq_some_iff.1 hf
        cases hv with
        | clo _ _ vs hl hr => exact many hcs fun i c hi => ⟨_, hr i c hi⟩
      case agg cs =>
        obtain ⟨cs', hcs, rfl⟩ := Option.map_eq_some_iff.1 hf
        cases hv with
        | agg _ vs hl hr => exact many hcs fun i c hi => ⟨_, hr i c hi⟩
      case tup cs =>
        obtain ⟨cs', hcs, rfl⟩ := Option.map_eq_some_iff.1 hf
        cases hv with
        | tup _ vs hl hr => exact many hcs fun i c hi => ⟨_, hr i c hi⟩
      case iface t x =>
        obtain ⟨x', hx, rfl⟩ := Option.map_eq_some_iff.1 hf
        cases hv with
        | iface _ _ v hv => exact ih' hx hv

theorem ice_rel (R : Rel s h w) : ∀ (D : Nat) {d : Nat}, d ≤ D → ∀ {v v' : AV} {u : Value}, freezeV h 0 d v = some v' → (∀ o ∈ visV h d v, o ∈ S) → VR s h w v u → VR (s.ice S) (killO S h) w v' u := by
  intro D
  induction D with
  | zero =>
    intro d hd v v' u hf _ _
    obtain rfl : d = 0 := by omega
    simp [freezeV] at hf
  | succ D ih =>
    intro d hd v v' u hf hs hv
    cases d with
    | zero => simp [freezeV] at hf
    | succ d =>
      have ih' : ∀ {v v' : AV} {u : Value}, freezeV h 0 d v = some v' → (∀ o ∈ visV h d v, o ∈ S) → VR s h w v u → VR (s.ice S) (killO S h) w v' u := fun hf hs hv => ih (d := d) (by omega) hf hs hv
      have sub : ∀ {cs : List AV}, (∀ o ∈ cs.flatMap (visV h d), o ∈ S) → ∀ {i : Nat} {c : AV}, cs[i]? = some c → ∀ o ∈ visV h d c, o ∈ S := fun hs i c hi o ho => hs o (List.mem_flatMap.2 ⟨c, List.mem_of_getElem? hi, ho⟩)
      cases v <;> simp only [freezeV, Nat.not_lt_zero, if_false] at hf <;> simp only [visV] at hs
      case bool b => injection hf with hf; subst hf; cases hv; exact .bool _
      case int k i => injection hf with hf; subst hf; cases hv; exact .int _ _
      case str l => injection hf with hf; subst hf; cases hv; exact .str _
      case nilPtr => injection hf with hf; subst hf; cases hv; exact .nilPtr
      case nilMap => injection hf with hf; subst hf; cases hv; exact .nilMap
      case nilFunc => injection hf with hf; subst hf; cases hv; exact .nilFunc
      case nilIface => injection hf with hf; subst hf; cases hv; exact .nilIface
      case junk => injection hf with hf; subst hf; exact .junk _
      case yld l => cases hf
      case map o => cases hf
      case ptr o off g =>
        simp only [Option.bind_eq_bind] at hf
        replace hf := Option.bind_eq_some_iff.1 hf
        obtain ⟨cs, hcs, hf⟩ := hf
        replace hf := Option.bind_eq_some_iff.1 hf
        obtain ⟨cs', hcs', hf⟩ := hf
        injection hf with hf; subst hf
        rw [hcs] at hs
        obtain ⟨k1, k2⟩ := mapO_get hcs'
        cases hv with
        | ptrOld _ _ _ g' a e1 e2 => have := (genOf_obj hcs).1; rw [this] at e1; injection e1; omega
        | ptr _ _ _ b e1 e2 =>
          have hread := (obj_reads R hcs e2).drop off
          have key : ∀ (i : Nat) c', cs'[i]? = some c' → ∃ v, w.cell? ⟨b, off + i, none⟩ = some v ∧ VR (s.ice S) (killO S h) w c' v := by
            intro i c' hi
            have hlt : i < (cs.drop off).length := by rw [← k1]; exact (List.getElem?_eq_some_iff.1 hi).1
            obtain ⟨b', hb', hfb⟩ := k2 i _ (List.getElem?_eq_getElem hlt)
            rw [hi] at hb'
            injection hb' with hb'; subst hb'
            obtain ⟨v, hv, hvr⟩ := hread i _ (List.getElem?_eq_getElem hlt)
            exact ⟨v, by simpa using hv, ih' hfb (sub (fun o' ho' => hs o' (List.mem_cons_of_mem _ ho')) (List.getElem?_eq_getElem hlt)) hvr⟩
          refine .ref cs' b off (fun i => (w.cell? ⟨b, off + i, none⟩).getD undef) (fun _ => .inr ⟨o, hs o (List.mem_cons_self ..), e2⟩) (fun i c hi => ?_) (fun i c hi => ?_)
          · obtain ⟨v, hv, _⟩ := key i c hi
            rw [hv]; rfl
          · obtain ⟨v, hv, hvr⟩ := key i c hi
            rw [hv]; exact hvr
      case msl o off len sz g cap =>
        simp only [Option.bind_eq_bind] at hf
        replace hf := Option.bind_eq_some_iff.1 hf
        obtain ⟨cs, hcs, hf⟩ := hf
        split at hf
        · rename_i hle
          replace hf := Option.bind_eq_some_iff.1 hf
          obtain ⟨cs', hcs', hf⟩ := hf
          injection hf with hf; subst hf
          rw [hcs] at hs
          obtain ⟨k1, k2⟩ := mapO_get hcs'
          cases hv with
          | mslOld _ _ _ _ _ _ g' a m c e1 e2 => have := (genOf_obj hcs).1; rw [this] at e1; injection e1; omega
          | msl _ _ _ _ _ _ b c el m off' e0 e1 e2 e3 e4 e5 e6 e7 =>
            by_cases hl0 : len = 0
            · subst hl0
              exact lst_empty _ _ _ _ _ trivial
            · obtain rfl : off' = off := e0.resolve_right (by omega)
              have hread := ((obj_reads R hcs e2).drop off').take (len * sz)
              refine lst_of_cells (fun _ => .inr ⟨o, hs o (List.mem_cons_self ..), e2⟩) (by rw [k1]; simp; omega) (fun i c' hi => ?_) trivial e3
              have hlt : i < ((cs.drop off').take (len * sz)).length := by rw [← k1]; exact (List.getElem?_eq_some_iff.1 hi).1
              obtain ⟨b', hb', hfb⟩ := k2 i _ (List.getElem?_eq_getElem hlt)
              rw [hi] at hb'
              injection hb' with hb'; subst hb'
              obtain ⟨v, hv, hvr⟩ := hread i _ (List.getElem?_eq_getElem hlt)
              exact ⟨v, by simpa using hv, ih' hfb (sub (fun o' ho' => hs o' (List.mem_cons_of_mem _ ho')) (List.getElem?_eq_getElem hlt)) hvr⟩
        · cases hf
      case ref cs =>
        obtain ⟨cs', hcs, rfl⟩ := Option.map_eq_some_iff.1 hf
        obtain ⟨k1, k2⟩ := mapO_get hcs
        cases hv with
        | ref _ b off f e1 e2 e3 =>
          have key : ∀ (i : Nat) c', cs'[i]? = some c' → ∃ c, cs[i]? = some c ∧ freezeV h 0 d c = some c' := by
            intro i c' hi
            have hlt : i < cs.length := by rw [← k1]; exact (List.getElem?_eq_some_iff.1 hi).1
            obtain ⟨b', hb', hfb⟩ := k2 i _ (List.getElem?_eq_getElem hlt)
            rw [hi] at hb'
            injection hb' with hb'; subst hb'
            exact ⟨_, List.getElem?_eq_getElem hlt, hfb⟩
          refine .ref _ b off f (fun h0 => .inl (e1 (by omega))) (fun i c' hi => ?_) (fun i c' hi => ?_)
          · obtain ⟨c, hc, _⟩ := key i c' hi
            exact e2 i c hc
          · obtain ⟨c, hc, hfc⟩ := key i c' hi
            exact ih' hfc (sub hs hc) (e3 i c hc)
      case lst xs z r =>
        obtain ⟨xs', hxs, rfl⟩ := Option.map_eq_some_iff.1 hf
        obtain ⟨k1, k2⟩ := mapO_get hxs
        cases hv with
        | lstNil =>
          simp only [mapO, Option.some.injEq] at hxs
          subst hxs
          exact .lstNil _
        | lstEmpty _ A =>
          simp only [mapO, Option.some.injEq] at hxs
          subst hxs
          exact .lstEmpty _ A
        | lst _ _ _ b off c f e1 e2 e3 e4 e5 e6 =>
          have key : ∀ (i : Nat) x', xs'[i]? = some x' → ∃ x, xs[i]? = some x ∧ freezeV h 0 d x = some x' := by
            intro i x' hi
            have hlt : i < xs.length := by rw [← k1]; exact (List.getElem?_eq_some_iff.1 hi).1
            obtain ⟨b', hb', hfb⟩ := k2 i _ (List.getElem?_eq_getElem hlt)
            rw [hi] at hb'
            injection hb' with hb'; subst hb'
            exact ⟨_, List.getElem?_eq_getElem hlt, hfb⟩
          have cell : ∀ (i j : Nat) x' y', xs'[i]? = some x' → x'.cells[j]? = some y' → ∃ x y d', d' ≤ d ∧ xs[i]? = some x ∧ x.cells[j]? = some y ∧ freezeV h 0 d' y = some y' ∧ ∀ o ∈ visV h d' y, o ∈ S := by
            intro i j x' y' hi hj
            obtain ⟨x, hx, hfx⟩ := key i x' hi
            have hsx := sub hs hx
            cases d with
            | zero => simp [freezeV] at hfx
            | succ d =>
              by_cases hagg : ∃ cs, x = .agg cs
              · obtain ⟨cs, rfl⟩ := hagg
                simp only [freezeV] at hfx
                obtain ⟨cs', hcs, rfl⟩ := Option.map_eq_some_iff.1 hfx
                have hj' : cs'[j]? = some y' := hj
                have hlt : j < cs.length := by rw [← (mapO_get hcs).1]; exact (List.getElem?_eq_some_iff.1 hj').1
                obtain ⟨b', hb', hfb⟩ := (mapO_get hcs).2 j _ (List.getElem?_eq_getElem hlt)
                rw [hj'] at hb'
                injection hb' with hb'; subst hb'
                simp only [visV] at hsx
                exact ⟨_, _, d, by omega, hx, List.getElem?_eq_getElem hlt, hfb, fun o ho => hsx o (List.mem_flatMap.2 ⟨_, List.getElem_mem hlt, ho⟩)⟩
              · obtain ⟨m1, m2⟩ := freeze_cells hfx
                have hxc : x.cells = [x] := by
                  cases x <;> first | rfl | exact (hagg ⟨_, rfl⟩).elim
                have hlt : j < x.cells.length := by rw [← m1]; exact (List.getElem?_eq_some_iff.1 hj).1
                rw [hxc] at hlt
                obtain rfl : j = 0 := by simpa using hlt
                have hxc' : x'.cells = [x'] := by
                  cases x <;> simp only [freezeV, Nat.not_lt_zero, if_false] at hfx <;> first
                    | (injection hfx with hfx; subst hfx; rfl)
                    | (obtain ⟨_, _, rfl⟩ := Option.map_eq_some_iff.1 hfx; first | rfl | exact (hagg ⟨_, rfl⟩).elim)
                    | (simp only [Option.bind_eq_bind] at hfx
                       obtain ⟨_, _, hfx⟩ := Option.bind_eq_some_iff.1 hfx
                       obtain ⟨_, _, hfx⟩ := Option.bind_eq_some_iff.1 hfx
                       injection hfx with hfx; subst hfx; rfl)
                    | (simp only [Option.bind_eq_bind] at hfx
                       obtain ⟨_, _, hfx⟩ := Option.bind_eq_some_iff.1 hfx
                       split at hfx
                       · obtain ⟨_, _, hfx⟩ := Option.bind_eq_some_iff.1 hfx
                         injection hfx with hfx; subst hfx; rfl
                       · cases hfx)
                    | cases hfx
                rw [hxc'] at hj
                simp at hj; subst hj
                exact ⟨x, x, d + 1, Nat.le_refl _, hx, by rw [hxc]; rfl, hfx, hsx⟩
          have := VR.lst (s := s.ice S) (h := killO S h) (w := w) xs' z r b off c f (fun h0 => .inl (e1 (by omega))) e2 (by omega)
            (fun i x' hi => by
              obtain ⟨x, hx, hfx⟩ := key i x' hi
              rw [(freeze_cells hfx).1]; exact e4 i x hx)
            (fun i j x' y' hi hj => by
              obtain ⟨x, y, d', _, hx, hy, _⟩ := cell i j x' y' hi hj
              exact e5 i j x y hx hy)
            (fun i j x' y' hi hj => by
              obtain ⟨x, y, d', hd', hx, hy, hfy, hsy⟩ := cell i j x' y' hi hj
              exact ih (d := d') (by omega) hfy hsy (e6 i j x y hx hy))
          rw [k1] at this
          exact this
      case clo f cs =>
        obtain ⟨cs', hcs, rfl⟩ := Option.map_eq_some_iff.1 hf
        obtain ⟨k1, k2⟩ := mapO_get hcs
        cases hv with
        | clo _ _ vs hl hr =>
          refine .clo _ _ vs (by omega) fun i c' hi => ?_
          have hlt : i < cs.length := by rw [← k1]; exact (List.getElem?_eq_some_iff.1 hi).1
          obtain ⟨b', hb', hfb⟩ := k2 i _ (List.getElem?_eq_getElem hlt)
          rw [hi] at hb'
          injection hb' with hb'; subst hb'
          exact ih' hfb (sub hs (List.getElem?_eq_getElem hlt)) (hr i _ (List.getElem?_eq_getElem hlt))
      case agg cs =>
        obtain ⟨cs', hcs, rfl⟩ := Option.map_eq_some_iff.1 hf
        obtain ⟨k1, k2⟩ := mapO_get hcs
        cases hv with
        | agg _ vs hl hr =>
          refine .agg _ vs (by omega) fun i c' hi => ?_
          have hlt : i < cs.length := by rw [← k1]; exact (List.getElem?_eq_some_iff.1 hi).1
          obtain ⟨b', hb', hfb⟩ := k2 i _ (List.getElem?_eq_getElem hlt)
          rw [hi] at hb'
          injection hb' with hb'; subst hb'
          exact ih' hfb (sub hs (List.getElem?_eq_getElem hlt)) (hr i _ (List.getElem?_eq_getElem hlt))
      case tup cs =>
        obtain ⟨cs', hcs, rfl⟩ := Option.map_eq_some_iff.1 hf
        obtain ⟨k1, k2⟩ := mapO_get hcs
        cases hv with
        | tup _ vs hl hr =>
          refine .tup _ vs (by omega) fun i c' hi => ?_
          have hlt : i < cs.length := by rw [← k1]; exact (List.getElem?_eq_some_iff.1 hi).1
          obtain ⟨b', hb', hfb⟩ := k2 i _ (List.getElem?_eq_getElem hlt)
          rw [hi] at hb'
          injection hb' with hb'; subst hb'
          exact ih' hfb (sub hs (List.getElem?_eq_getElem hlt)) (hr i _ (List.getElem?_eq_getElem hlt))
      case iface t x =>
        obtain ⟨x', hx, rfl⟩ := Option.map_eq_some_iff.1 hf
        cases hv with
        | iface _ _ v hv => exact .iface _ _ _ (ih' hx hs hv)

/-- Arguments made immutable. -/
theorem ice_ok (R : Rel s h w) {args avs : List AV} {h1 : Heap} (hi : iceA h args = some (avs, h1)) {vs : List Value} (H : VRs s h w args vs) : ∃ s1, Ext s h w s1 h1 w ∧ Rel s1 h1 w ∧ VRs s1 h1 w avs vs := by
  unfold iceA at hi
  obtain ⟨as', hm, hx⟩ := Option.map_eq_some_iff.1 hi
  simp only [Prod.mk.injEq] at hx
  obtain ⟨rfl, rfl⟩ := hx
  obtain ⟨k1, k2⟩ := mapO_get hm
  have hS : Has s h (args.flatMap (visV h 40)) := fun o ho => by
    obtain ⟨c, hc, ho⟩ := List.mem_flatMap.1 ho
    obtain ⟨i, hi⟩ := List.mem_iff_getElem?.1 hc
    obtain ⟨b, _, hb⟩ := k2 i c hi
    obtain ⟨v, _, hv⟩ := H.2 i c hi
    exact vis_has R 40 (Nat.le_refl _) hb hv o ho
  refine ⟨_, ext_ice hS, rel_ice R hS, by rw [k1]; exact H.1, fun i c hi => ?_⟩
  have hlt : i < args.length := by rw [← k1]; exact (List.getElem?_eq_some_iff.1 hi).1
  obtain ⟨b, hb, hfb⟩ := k2 i _ (List.getElem?_eq_getElem hlt)
  rw [hi] at hb
  injection hb with hb; subst hb
  obtain ⟨v, hv, hvr⟩ := H.2 i _ (List.getElem?_eq_getElem hlt)
  exact ⟨v, hv, ice_rel R 40 (Nat.le_refl _) hfb (fun o ho => List.mem_flatMap.2 ⟨_, List.getElem_mem hlt, ho⟩) hvr⟩
end

/-- A call under that told, its arguments made immutable for good. -/
def callIce (C : Cfg) (f : Nat) (args : List AV) (h : Heap) : Option (CRes × Heap) := (iceA h args).bind fun x => callP C f x.1 x.2

theorem callIce_ok {T : RvTold} {P : Program} (hg : GlobOk (T.cfg P)) (hcl : ∀ g v, T.glob g = some v → ∀ h, freezeV h 0 40 v = some v) (hp : PrimOk P (T.cfg P)) (hm : P.follows .mixedOrders = true) {C : Cfg} (hC : ∀ g v, T.glob g = some v → C.glob g = some v)
    {f : Nat} {args : List AV} {h : Heap} {res : CRes} {h' : Heap} (hc : callIce (T.cfg P) f args h = some (res, h')) {s : Sim} {w : World} {vs : List Value} (R : Rel s h w) (G : Glob C s h w) (H : VRs s h w args vs) : CallOk P f vs s h w res h' := by
  unfold callIce at hc
  obtain ⟨⟨avs, h1⟩, hi, hc⟩ := Option.bind_eq_some_iff.1 hc
  obtain ⟨s1, E, R1, H1⟩ := ice_ok R hi H
  refine Calls.mono (callP_ok hg hcl hp hm hC hc R1 (G.ext R.apart E) H1) fun e w' he => ?_
  obtain ⟨s', E', R', hv⟩ := he
  exact ⟨s', E.trans E', R', hv⟩
end
end Go.Rv

/-
  Cells put one behind the other, one element changed; what is immutable already; arguments made immutable.
-/
set_option linter.unusedSimpArgs false
set_option linter.unusedVariables false
namespace Go.Rv
noncomputable section

def immB : Nat → AV → Bool
  | 0, _ => false
  | d + 1, v =>
    match v with
    | .ptr _ _ _ => false
    | .msl _ _ _ _ _ _ => false
    | .map _ => false
    | .yld _ => false
    | .ref cs => cs.all (immB d)
    | .agg cs => cs.all (immB d)
    | .tup cs => cs.all (immB d)
    | .clo _ cs => cs.all (immB d)
    | .lst xs _ _ => xs.all (immB d)
    | .iface _ v => immB d v
    | _ => true
theorem mapO_id {α : Type} {f : α → Option α} : ∀ {l : List α}, (∀ x ∈ l, f x = some x) → mapO f l = some l
  | [], _ => rfl
  | x :: r, H => by
    rw [mapO_cons, H x (List.mem_cons_self ..), mapO_id fun y hy => H y (List.mem_cons_of_mem _ hy)]
    rfl
theorem imm_freeze (h : Heap) (n : Nat) : ∀ (d : Nat) (v : AV), immB d v = true → ∀ d', d ≤ d' → freezeV h n d' v = some v
  | 0, v, hv, _, _ => by simp [immB] at hv
  | d + 1, v, hv, d', hd => by
    obtain ⟨e, rfl⟩ : ∃ e, d' = e + 1 := ⟨d' - 1, by omega⟩
    have many : ∀ {cs : List AV}, cs.all (immB d) = true → mapO (freezeV h n e) cs = some cs := fun hc => mapO_id fun x hx => imm_freeze h n d x (List.all_eq_true.1 hc x hx) e (by omega)
    cases v <;> simp only [immB, Bool.false_eq_true] at hv <;> simp only [freezeV] <;> first | (rw [many hv]; rfl) | (rw [imm_freeze h n d _ hv e (by omega)]; rfl) | rfl
theorem imm_vis (h : Heap) : ∀ (d : Nat) (v : AV), immB d v = true → ∀ d', visV h d' v = []
  | 0, v, hv, _ => by simp [immB] at hv
  | d + 1, v, hv, d' => by
    cases d' with
    | zero => rfl
    | succ e =>
      have many : ∀ {cs : List AV}, cs.all (immB d) = true → cs.flatMap (visV h e) = [] := fun hc => List.flatMap_eq_nil_iff.2 fun x hx => imm_vis h d x (List.all_eq_true.1 hc x hx) e
      cases v <;> simp only [immB, Bool.false_eq_true] at hv <;> simp only [visV] <;> first | exact many hv | exact imm_vis h d _ hv e

theorem mapO_app {α β : Type} {f : α → Option β} : ∀ {a b : List α} {a' b' : List β}, mapO f a = some a' → mapO f b = some b' → mapO f (a ++ b) = some (a' ++ b')
  | [], b, a', b', h1, h2 => by
    simp only [mapO, Option.some.injEq] at h1
    subst h1
    exact h2
  | x :: r, b, a', b', h1, h2 => by
    rw [mapO_cons] at h1
    obtain ⟨y, hy, h1⟩ := Option.bind_eq_some_iff.1 h1
    obtain ⟨ys, hys, h1⟩ := Option.bind_eq_some_iff.1 h1
    simp only [Option.some.injEq] at h1
    subst h1
    rw [List.cons_append, mapO_cons, hy, Option.bind_some, mapO_app hys h2]
    rfl
theorem setCells_mid {α : Type} : ∀ (C' C A D : List α), C.length = C'.length → setCells (A ++ (C ++ D)) A.length C' = A ++ (C' ++ D)
  | [], C, A, D, hl => by
    have : C = [] := List.length_eq_zero_iff.1 hl
    subst this; rfl
  | v :: r, [], A, D, hl => by simp at hl
  | v :: r, c :: C, A, D, hl => by
    rw [setCells]
    have e1 : (A ++ (c :: C ++ D)).set A.length v = (A ++ [v]) ++ (C ++ D) := by simp
    rw [e1, show A.length + 1 = (A ++ [v]).length from by simp, setCells_mid r C (A ++ [v]) D (by simpa using hl)]
    simp
theorem flatC_cons (x : AV) (r : List AV) : flatC (x :: r) = x.cells ++ flatC r := by simp [flatC]
theorem flatC_at {xs : List AV} {k : Nat} {x : AV} (hk : xs[k]? = some x) : flatC xs = flatC (xs.take k) ++ (x.cells ++ flatC (xs.drop (k + 1))) := by
  have hlt := (List.getElem?_eq_some_iff.1 hk).1
  have hx : xs[k] = x := (List.getElem?_eq_some_iff.1 hk).2
  conv => lhs; rw [← List.take_append_drop k xs]
  rw [flatC_append, List.drop_eq_getElem_cons hlt, flatC_cons, hx]
theorem flatC_put {xs : List AV} {k : Nat} {x : AV} (hk : xs[k]? = some x) (y : AV) : flatC (xs.set k y) = flatC (xs.take k) ++ (y.cells ++ flatC (xs.drop (k + 1))) := by
  have hlt := (List.getElem?_eq_some_iff.1 hk).1
  have h1 : (xs.set k y)[k]? = some y := List.getElem?_set_self hlt
  rw [flatC_at h1, List.take_set_of_le (Nat.le_refl _), List.drop_set_of_lt (by omega)]
theorem flatC_take {xs : List AV} {k z : Nat} {x : AV} (hk : xs[k]? = some x) (H : ∀ x ∈ xs, x.cells.length = z) : (flatC (xs.take k)).length = k * z := by
  have hlt := (List.getElem?_eq_some_iff.1 hk).1
  rw [flatC_len (sz := z) (fun x hx => H x (List.mem_of_mem_take hx)), List.length_take, Nat.min_eq_left (by omega)]
/-- One cell of one element is set. -/
theorem flat_set {xs : List AV} {k z j : Nat} {cs : List AV} (hk : xs[k]? = some (.agg cs)) (H : ∀ x ∈ xs, x.cells.length = z) (hj : j < cs.length) (v : AV) : (flatC xs).set (k * z + j) v = flatC (xs.set k (.agg (cs.set j v))) := by
  rw [flatC_at hk, flatC_put hk, ← flatC_take hk H, List.set_append, if_neg (by omega), Nat.add_sub_cancel_left]
  congr 1
  show (cs ++ _).set j v = cs.set j v ++ _
  rw [List.set_append, if_pos hj]
/-- One element is set. -/
theorem flat_put {xs : List AV} {k z : Nat} {cs cs' : List AV} (hk : xs[k]? = some (.agg cs)) (H : ∀ x ∈ xs, x.cells.length = z) (hl : cs.length = cs'.length) : setCells (flatC xs) (k * z) cs' = flatC (xs.set k (.agg cs')) := by
  rw [flatC_at hk, flatC_put hk, ← flatC_take hk H]
  exact setCells_mid cs' cs _ _ hl
theorem flat_drop {xs : List AV} {k z j : Nat} {cs : List AV} (hk : xs[k]? = some (.agg cs)) (H : ∀ x ∈ xs, x.cells.length = z) (hj : j < cs.length) : ((flatC xs).drop (k * z + j)).head? = cs[j]? := by
  rw [flatC_at hk, ← flatC_take hk H, List.head?_drop, List.getElem?_append_right (by omega), Nat.add_sub_cancel_left]
  show (cs ++ _)[j]? = _
  rw [List.getElem?_append_left hj]
theorem flat_freeze {h : Heap} {n d : Nat} {xs : List AV} {k : Nat} {cs cs' : List AV} (hk : xs[k]? = some (.agg cs)) (H : ∀ x ∈ xs, x ≠ .agg cs → ∀ c ∈ x.cells, freezeV h n d c = some c)
    (ho : ∀ (i : Nat) x, xs[i]? = some x → i ≠ k → ∀ c ∈ x.cells, freezeV h n d c = some c) (hf : mapO (freezeV h n d) cs = some cs') : mapO (freezeV h n d) (flatC xs) = some (flatC (xs.set k (.agg cs'))) := by
  rw [flatC_at hk, flatC_put hk]
  have hlt := (List.getElem?_eq_some_iff.1 hk).1
  have part : ∀ {ys : List AV}, (∀ y ∈ ys, ∀ c ∈ y.cells, freezeV h n d c = some c) → mapO (freezeV h n d) (flatC ys) = some (flatC ys) := fun hy => mapO_id fun c hc => by
    simp only [flatC, List.mem_flatten, List.mem_map] at hc
    obtain ⟨l, ⟨y, hm, rfl⟩, hc⟩ := hc
    exact hy y hm c hc
  refine mapO_app (part fun y hy => ?_) (mapO_app hf (part fun y hy => ?_))
  · obtain ⟨i, hi⟩ := List.mem_iff_getElem?.1 hy
    rw [List.getElem?_take] at hi
    split at hi
    · exact ho i y hi (by omega)
    · cases hi
  · obtain ⟨i, hi⟩ := List.mem_iff_getElem?.1 hy
    rw [List.getElem?_drop] at hi
    exact ho _ y hi (by omega)
theorem flat_vis {h : Heap} {d : Nat} {xs : List AV} {k : Nat} {cs : List AV} (hk : xs[k]? = some (.agg cs)) (ho : ∀ (i : Nat) x, xs[i]? = some x → i ≠ k → ∀ c ∈ x.cells, visV h d c = []) : (flatC xs).flatMap (visV h d) = cs.flatMap (visV h d) := by
  have part : ∀ {ys : List AV}, (∀ y ∈ ys, ∀ c ∈ y.cells, visV h d c = []) → (flatC ys).flatMap (visV h d) = [] := fun hy => List.flatMap_eq_nil_iff.2 fun c hc => by
    simp only [flatC, List.mem_flatten, List.mem_map] at hc
    obtain ⟨l, ⟨y, hm, rfl⟩, hc⟩ := hc
    exact hy y hm c hc
  rw [flatC_at hk, List.flatMap_append, List.flatMap_append, part, part]
  · simp [AV.cells]
  · intro y hy
    obtain ⟨i, hi⟩ := List.mem_iff_getElem?.1 hy
    rw [List.getElem?_drop] at hi
    exact ho _ y hi (by omega)
  · intro y hy
    obtain ⟨i, hi⟩ := List.mem_iff_getElem?.1 hy
    rw [List.getElem?_take] at hi
    split at hi
    · exact ho i y hi (by omega)
    · cases hi
theorem group_flatC {z : Nat} (hz : z ≠ 1) : ∀ {xs : List AV}, (∀ x ∈ xs, ∃ cs, x = .agg cs ∧ cs.length = z) → group xs.length (flatC xs) z = xs
  | [], _ => rfl
  | x :: r, H => by
    obtain ⟨cs, rfl, hl⟩ := H x (List.mem_cons_self ..)
    have hz' : (z == 1) = false := by simp [hz]
    rw [List.length_cons, group, flatC_cons, hz']
    simp only [AV.cells, Bool.false_eq_true, if_false]
    rw [← hl, List.take_left, List.drop_left, hl, group_flatC hz fun y hy => H y (List.mem_cons_of_mem _ hy)]
/-- append to an empty slice without room. -/
theorem append_lst0 (h : Heap) {sz z : Nat} (hz : 0 < sz) {ys : List AV} (hn : ys ≠ []) (hy : ∀ y ∈ ys, y.cells.length = sz ∧ y.cells.all AV.leaf = true) (hlen : ys.length ≤ mostLen) :
    appendA h sz (.lst [] z (.exact 0)) ys = some (.msl h.length 0 ys.length sz 0 none, h ++ [.cells (flatC ys) 0]) := by
  have hfl := flatC_len (fun y hm => (hy y hm).1)
  have hall : (flatC ys).all AV.leaf = true := by
    rw [List.all_eq_true]
    intro c hc
    simp only [flatC, List.mem_flatten, List.mem_map] at hc
    obtain ⟨l, ⟨y, hm, rfl⟩, hc⟩ := hc
    exact List.all_eq_true.1 (hy y hm).2 c hc
  have h0 : (sz == 0) = false := by simp; omega
  have hfl' : ((flatC ys).length != ys.length * sz) = false := by simp [hfl]
  have hne : ys.isEmpty = false := by cases ys with | nil => exact absurd rfl hn | cons => rfl
  unfold appendA
  simp only
  rw [show (ys.map AV.cells).flatten = flatC ys from rfl, hfl', hall, h0, hne]
  simp [Room.full, hlen]
end
end Go.Rv
