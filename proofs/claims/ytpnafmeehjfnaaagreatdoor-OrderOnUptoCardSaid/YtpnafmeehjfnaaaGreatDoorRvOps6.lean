/-
  Slices that are cut, appended to, made.
-/
import Derived.Test.YtpnafmeehjfnaaaGreatDoorRvOps5
set_option linter.unusedSimpArgs false
set_option linter.unusedVariables false
namespace Go.Rv
section
variable {P : Program} {C : Cfg} {s : Sim} {h : Heap} {w : World}

def VRo (s : Sim) (h : Heap) (w : World) : Option AV → Option Value → Prop
  | none, none => True
  | some x, some v => VR s h w x v
  | _, _ => False

theorem bound_run {x : AV} {u : Value} {d most y n : Nat} (hx : VR s h w x u) (hb : boundA (some x) d most = some n) (hm : most ≤ y) : n ≤ most ∧ ∀ code, (Instr.sliceBound u y code).run P w = .ok n w := by
  unfold boundA at hb
  cases x <;> simp only [reduceCtorEq] at hb
  case int k i =>
    cases hx
    split at hb
    · rename_i hc
      simp only [Bool.and_eq_true, decide_eq_true_eq] at hc
      injection hb with hb; subst hb
      refine ⟨by omega, fun code => ?_⟩
      simp only [Instr.sliceBound, asIntOf, Sem.run_bind, Sem.run_pure, Result.andThen_ok, show 0 ≤ i ∧ i ≤ (y : Int) from ⟨by omega, by omega⟩, and_self, if_true]
    · cases hb

theorem bounds_run {isSlice : Bool} {len cap most a b : Nat} {lo hi : Option AV} {lov hiv : Option Value} (hlo : VRo s h w lo lov) (hhi : VRo s h w hi hiv) (hb : boundA hi len most = some b) (ha : boundA lo 0 b = some a) (hm : most ≤ cap) (hl : len ≤ cap) :
    a ≤ b ∧ b ≤ cap ∧ (hi = none → b = len) ∧ (hi ≠ none → b ≤ most) ∧ (Instr.sliceBounds isSlice len cap lov hiv none).run P w = .ok (a, b, cap) w := by
  have hA : ∀ {a : Nat} {lo : Option AV} {lov : Option Value}, VRo s h w lo lov → boundA lo 0 b = some a → a ≤ b ∧ ∀ x, lov = some x → (Instr.sliceBound x b .sliceB).run P w = .ok a w := by
    intro a lo lov hlo ha
    cases lo with
    | none =>
      cases lov with
      | none =>
        simp only [boundA, Option.some.injEq] at ha
        subst ha
        exact ⟨Nat.zero_le _, fun x hx => by cases hx⟩
      | some v => exact hlo.elim
    | some x =>
      cases lov with
      | none => exact hlo.elim
      | some v =>
        obtain ⟨h3, h4⟩ := bound_run (P := P) hlo ha (Nat.le_refl _)
        exact ⟨h3, fun y hy => by injection hy with hy; subst hy; exact h4 _⟩
  obtain ⟨hab, hrunA⟩ := hA hlo ha
  have hnone : lov = none → a = 0 := by
    rintro rfl
    cases lo with
    | none => simpa [boundA] using ha.symm
    | some x => exact hlo.elim
  cases hi with
  | none =>
    cases hiv with
    | some v => exact hhi.elim
    | none =>
      simp only [boundA, Option.some.injEq] at hb
      subst hb
      refine ⟨hab, hl, fun _ => rfl, fun h => absurd rfl h, ?_⟩
      cases lov with
      | none =>
        obtain rfl := hnone rfl
        simp [Instr.sliceBounds]
      | some x => simp [Instr.sliceBounds, hrunA x rfl]
  | some y =>
    cases hiv with
    | none => exact hhi.elim
    | some v =>
      obtain ⟨h2, h3⟩ := bound_run (P := P) hhi hb hm
      refine ⟨hab, (by omega), (fun h => by cases h), (fun _ => h2), ?_⟩
      cases lov with
      | none =>
        obtain rfl := hnone rfl
        simp [Instr.sliceBounds, h3]
      | some x => simp [Instr.sliceBounds, h3, hrunA x rfl]

theorem lst_empty (z : Nat) (r : Room) (b off c : Nat) (hr : r.ok c) : VR s h w (.lst [] z r) (.slice (some ⟨b, off, none⟩) 0 c) :=
  .lst [] z r b off c (fun _ _ => .nilFunc) (fun h0 => by simp at h0) hr (Nat.zero_le _) (fun i x hx => by simp at hx) (fun i j x y hx => by simp at hx) (fun i j x y hx => by simp at hx)

theorem lst_cut {xs : List AV} {z sz a b b0 off : Nat} {r' : Room} {f : Nat → Nat → Value} (hI : 0 < xs.length → s.I b0) (hz : ∀ (i : Nat) x, xs[i]? = some x → x.cells.length = z)
    (hc : ∀ (i j : Nat) x y, xs[i]? = some x → x.cells[j]? = some y → w.cell? ⟨b0, off + i * z + j, none⟩ = some (f i j)) (hr : ∀ (i j : Nat) x y, xs[i]? = some x → x.cells[j]? = some y → VR s h w y (f i j))
    (hab : a ≤ b) (hb : b ≤ xs.length) (hsz : z = sz ∨ xs = []) (m : Nat) (hm : b ≤ m) (hroom : r'.ok (m - a)) :
    VR s h w (.lst ((xs.take b).drop a) z r') (.slice (some (if m = a then ⟨b0, off, none⟩ else (⟨b0, off, none⟩ : Addr).add (a * sz))) (b - a) (m - a)) := by
  by_cases he : b = a
  · subst he
    have e : (xs.take b).drop b = [] := by apply List.drop_eq_nil_of_le; simp; omega
    rw [e, Nat.sub_self]
    split
    · exact lst_empty _ _ _ _ _ hroom
    · rw [addr_add]; exact lst_empty _ _ _ _ _ hroom
  · have hlt : a < b := by omega
    have hne : xs ≠ [] := by rintro rfl; simp at hb; omega
    obtain rfl : z = sz := hsz.resolve_right hne
    rw [if_neg (by omega), addr_add]
    have hlen : ((xs.take b).drop a).length = b - a := by simp; omega
    have get : ∀ (i : Nat) x, ((xs.take b).drop a)[i]? = some x → xs[a + i]? = some x := fun i x hx => by
      rw [List.getElem?_drop, List.getElem?_take] at hx
      split at hx
      · exact hx
      · cases hx
    have := VR.lst (s := s) (h := h) (w := w) ((xs.take b).drop a) z r' b0 (off + a * z) (m - a) (fun i j => f (a + i) j) (fun _ => hI (by omega)) hroom (by omega)
      (fun i x hx => hz _ x (get i x hx))
      (fun i j x y hx hy => by
        have := hc _ j x y (get i x hx) hy
        rw [Nat.add_mul, ← Nat.add_assoc] at this
        exact this)
      (fun i j x y hx hy => hr _ j x y (get i x hx) hy)
    rw [hlen] at this
    exact this

theorem slice_rel (TT : TabOk P C) (R : Rel s h w) {t : Nat} {a v : AV} {u : Value} {lo hi : Option AV} {lov hiv : Option Value} (ha : VR s h w a u) (hlo : VRo s h w lo lov) (hhi : VRo s h w hi hiv) (hv : sliceA C h t a lo hi none = some v) :
    PRun P s h w (Instr.sliceAt t u lov hiv none) v := by
  unfold sliceA at hv
  simp only [Option.bind_eq_bind] at hv
  replace hv := Option.bind_eq_some_iff.1 hv
  obtain ⟨ti, hti, hv⟩ := hv
  obtain ⟨d, hd, hok⟩ := (TT t ti hti).und
  generalize ti.td = td at hok hv
  split at hv
  · -- a string
    rename_i l
    simp only [Option.isSome_none, Bool.false_eq_true, if_false] at hv
    replace hv := Option.bind_eq_some_iff.1 hv
    obtain ⟨b, hb, hv⟩ := hv
    replace hv := Option.bind_eq_some_iff.1 hv
    obtain ⟨x, hx, hv⟩ := hv
    injection hv with hv; subst hv
    cases ha
    cases d <;> simp only [TD.ok] at hok
    have hsz : (⟨l.toArray⟩ : ByteArray).size = l.length := by simp [ByteArray.size]
    obtain ⟨h1, h2, _, _, h5⟩ := bounds_run (P := P) (isSlice := false) hlo hhi hb hx (Nat.le_refl _) (Nat.le_refl _)
    refine ⟨.string ⟨((l.take b).drop x).toArray⟩, ?_, .str _⟩
    simp only [Instr.sliceAt, Sem.run_bind, run_und hd, Result.andThen_ok, Instr.slice, Option.isSome_none, Bool.false_eq_true, if_false, hsz, h5, Sem.run_pure]
    rw [Lib.extract_eq]
    simp [List.drop_take]
  · -- a slice that is never written
    rename_i e xs z r
    replace hv := Option.bind_eq_some_iff.1 hv
    obtain ⟨te, hte, hv⟩ := hv
    split at hv
    · cases hv
    · rename_i hz0
      have hz1 : z = te.size ∨ xs = [] := by
        simp only [Bool.not_eq_true', Bool.or_eq_false_iff, not_and, Bool.not_eq_false, beq_eq_false_iff_ne, ne_eq] at hz0
        by_cases e1 : z = te.size
        · exact .inl e1
        · exact .inr (by simpa using hz0 e1)
      replace hv := Option.bind_eq_some_iff.1 hv
      obtain ⟨b, hb, hv⟩ := hv
      replace hv := Option.bind_eq_some_iff.1 hv
      obtain ⟨x, hx, hv⟩ := hv
      injection hv with hv
      cases d <;> simp only [TD.ok] at hok
      rw [hok] at hd
      cases ha with
      | lstNil =>
        obtain ⟨h1, h2, _, _, h5⟩ := bounds_run (P := P) (isSlice := true) hlo hhi hb hx (Nat.le_refl _) (Nat.le_refl _)
        have : b = 0 := by simpa using h2
        subst this
        have : x = 0 := by omega
        subst this
        simp only [List.take_zero, List.drop_nil] at hv
        subst hv
        simp only [List.length_nil] at h5
        refine ⟨.slice none 0 0, ?_, .lstNil _⟩
        simp only [Instr.sliceAt, Sem.run_bind, run_und hd, Result.andThen_ok, Instr.slice, h5, run_sizeA (TT _ _ hte), Sem.run_pure]
        rfl
      | lstEmpty _ A =>
        obtain ⟨h1, h2, _, _, h5⟩ := bounds_run (P := P) (isSlice := true) hlo hhi hb hx (Nat.le_refl _) (Nat.le_refl _)
        have : b = 0 := by simpa using h2
        subst this
        have : x = 0 := by omega
        subst this
        simp only [List.take_zero, List.drop_nil] at hv
        subst hv
        simp only [List.length_nil] at h5
        refine ⟨.slice (some A) 0 0, ?_, .lstEmpty _ A⟩
        simp only [Instr.sliceAt, Sem.run_bind, run_und hd, Result.andThen_ok, Instr.slice, h5, run_sizeA (TT _ _ hte), Sem.run_pure]
        rfl
      | lst _ _ _ b0 off c f hI hr hle hz hc hrr =>
        obtain ⟨h1, h2, h3, h4, h5⟩ := bounds_run (P := P) (isSlice := true) hlo hhi hb hx (Nat.le_trans (Nat.le_refl _) hle) hle
        have hbl : b ≤ xs.length := by
          cases hi with
          | none => exact Nat.le_of_eq (h3 rfl)
          | some y => exact h4 (by simp)
        subst hv
        refine ⟨.slice (some (if c = x then ⟨b0, off, none⟩ else (⟨b0, off, none⟩ : Addr).add (x * te.size))) (b - x) (c - x), ?_, ?_⟩
        · simp only [Instr.sliceAt, Sem.run_bind, run_und hd, Result.andThen_ok, Instr.slice, h5, run_sizeA (TT _ _ hte), Sem.run_pure]
          congr 2
          split <;> rfl
        · refine lst_cut hI hz hc hrr h1 hbl hz1 c (by omega) ?_
          cases r with
          | nil => exact hr.elim
          | exact n =>
            have hr' : c = n := hr
            subst hr'
            rfl
          | «open» => trivial
  · -- an object's slice
    rename_i e o off len sz g cap
    replace hv := Option.bind_eq_some_iff.1 hv
    obtain ⟨cs, ho, hv⟩ := hv
    replace hv := Option.bind_eq_some_iff.1 hv
    obtain ⟨te, hte, hv⟩ := hv
    simp only [Option.isSome_none, Bool.false_or, bne_iff_ne, ne_eq, ite_not] at hv
    split at hv
    · rename_i hsz
      replace hv := Option.bind_eq_some_iff.1 hv
      obtain ⟨b, hb, hv⟩ := hv
      replace hv := Option.bind_eq_some_iff.1 hv
      obtain ⟨x, hx, hv⟩ := hv
      injection hv with hv; subst hv
      cases d <;> simp only [TD.ok] at hok
      rw [hok] at hd
      obtain ⟨hg, _, hlen⟩ := genOf_obj ho
      cases ha with
      | msl _ _ _ _ _ _ b0 c el n off' hoff h1 h2 h3 h4 h5 h6 h7 =>
        have hm : (match (generalizing := false) cap with | some c => c | none => if sz == 0 then len else (cs.length - off) / sz) ≤ c := by
          cases cap with
          | some m => exact Nat.le_of_eq (h4 m rfl).symm
          | none =>
            simp only
            split
            · exact h3
            · rename_i hs
              have hs' : 0 < sz := by have : ¬ sz = 0 := by simpa using hs
                                      omega
              have := h5 rfl
              rw [hlen] at this
              exact Nat.le_of_lt_succ ((Nat.div_lt_iff_lt_mul hs').2 (by rw [Nat.succ_mul]; omega))
        obtain ⟨e1, e2, e3, e4, e5⟩ := bounds_run (P := P) (isSlice := true) hlo hhi hb hx hm h3
        refine ⟨.slice (some (if c = x then ⟨b0, off', none⟩ else (⟨b0, off', none⟩ : Addr).add (x * te.size))) (b - x) (c - x), ?_, ?_⟩
        · simp only [Instr.sliceAt, Sem.run_bind, run_und hd, Result.andThen_ok, Instr.slice, e5, run_sizeA (TT _ _ hte), Sem.run_pure]
          congr 2
          split <;> rfl
        · have hcx : off + x * sz + (c - x) * sz = off + c * sz := by
            rw [Nat.add_assoc, ← Nat.add_mul, Nat.add_sub_cancel' (by omega : x ≤ c)]
          have mk : ∀ off'', (off'' = off + x * sz ∨ c - x = 0) → VR s h w (.msl o (off + x * sz) (b - x) sz g (cap.map (· - x))) (.slice (some ⟨b0, off'', none⟩) (b - x) (c - x)) := fun off'' ho'' =>
            .msl _ _ _ _ _ _ b0 (c - x) el n off'' ho'' h1 h2 (by omega) (fun m hm' => by
              obtain ⟨m', hm1, hm2⟩ := Option.map_eq_some_iff.1 hm'
              rw [h4 m' hm1, ← hm2]) (fun hn => by
              have : cap = none := by simpa using hn
              rw [hcx]; exact h5 this) h6 (by rw [hcx]; exact h7)
          split
          · rename_i hcc
            exact mk _ (.inr (by omega))
          · rw [addr_add]
            rcases hoff with hoff | hoff
            · exact mk _ (.inl (by rw [hoff, hsz]))
            · exact mk _ (.inr (by omega))
      | mslOld _ _ _ _ _ _ g' a n c h1 h2 => rw [hg] at h1; injection h1; omega
    · cases hv
  · -- an array of an object
    rename_i len e o off g
    simp only [Option.isSome_none, Bool.false_eq_true, if_false] at hv
    replace hv := Option.bind_eq_some_iff.1 hv
    obtain ⟨cs, ho, hv⟩ := hv
    replace hv := Option.bind_eq_some_iff.1 hv
    obtain ⟨te, hte, hv⟩ := hv
    split at hv
    · cases hv
    rename_i hfit
    replace hv := Option.bind_eq_some_iff.1 hv
    obtain ⟨b, hb, hv⟩ := hv
    replace hv := Option.bind_eq_some_iff.1 hv
    obtain ⟨x, hx, hv⟩ := hv
    injection hv with hv; subst hv
    cases d <;> simp only [TD.ok] at hok
    obtain ⟨ea, eb⟩ := hok
    rw [ea, eb] at hd
    obtain ⟨hg, hobj, hlen⟩ := genOf_obj ho
    obtain ⟨e1, e2, e3, e4, e5⟩ := bounds_run (P := P) (isSlice := false) hlo hhi hb hx (Nat.le_refl _) (Nat.le_refl _)
    cases ha with
    | ptr _ _ _ b0 h1 h2 =>
      obtain ⟨y, hy, hyr⟩ := R.obj o b0 h2
      rw [hobj] at hy
      injection hy with hy; subst hy
      obtain ⟨bc, el, hbc, hbl, _⟩ := hyr
      have hcx : off + x * te.size + (len - x) * te.size = off + len * te.size := by
        rw [Nat.add_assoc, ← Nat.add_mul, Nat.add_sub_cancel' (by omega : x ≤ len)]
      refine ⟨.slice (some (if len = x then ⟨b0, off, none⟩ else (⟨b0, off, none⟩ : Addr).add (x * te.size))) (b - x) (len - x), ?_, ?_⟩
      · simp only [Instr.sliceAt, Sem.run_bind, run_und hd, Result.andThen_ok, Instr.sureAddr, e5, run_sizeA (TT _ _ hte), Sem.run_pure]
      · have mk : ∀ off'', (off'' = off + x * te.size ∨ len - x = 0) → VR s h w (.msl o (off + x * te.size) (b - x) te.size g (some (len - x))) (.slice (some ⟨b0, off'', none⟩) (b - x) (len - x)) := fun off'' ho'' =>
          .msl _ _ _ _ _ _ b0 (len - x) el bc.size off'' ho'' h1 h2 (by omega) (fun m hm' => by injection hm') (fun hn => by cases hn) (by simp [World.shape?, hbc]) (by rw [hcx]; omega)
        split
        · exact mk _ (.inr (by omega))
        · rw [addr_add]; exact mk _ (.inl rfl)
    | ptrOld _ _ _ g' a h1 h2 => rw [hg] at h1; injection h1; omega
  · -- an array that is never written
    rename_i len e cs
    simp only [Option.isSome_none, Bool.false_eq_true, if_false] at hv
    replace hv := Option.bind_eq_some_iff.1 hv
    obtain ⟨te, hte, hv⟩ := hv
    split at hv
    · cases hv
    rename_i hfit
    simp only [Bool.or_eq_true, beq_iff_eq, decide_eq_true_eq, not_or, Nat.not_lt] at hfit
    obtain ⟨hfit0, hfit⟩ := hfit
    replace hv := Option.bind_eq_some_iff.1 hv
    obtain ⟨b, hb, hv⟩ := hv
    replace hv := Option.bind_eq_some_iff.1 hv
    obtain ⟨x, hx, hv⟩ := hv
    injection hv with hv; subst hv
    cases d <;> simp only [TD.ok] at hok
    obtain ⟨ea, eb⟩ := hok
    rw [ea, eb] at hd
    obtain ⟨e1, e2, e3, e4, e5⟩ := bounds_run (P := P) (isSlice := false) hlo hhi hb hx (Nat.le_refl _) (Nat.le_refl _)
    cases ha with
    | ref _ b0 off f hI hc hr =>
      refine ⟨.slice (some (if len = x then ⟨b0, off, none⟩ else (⟨b0, off, none⟩ : Addr).add (x * te.size))) (b - x) (len - x), ?_, ?_⟩
      · simp only [Instr.sliceAt, Sem.run_bind, run_und hd, Result.andThen_ok, Instr.sureAddr, e5, run_sizeA (TT _ _ hte), Sem.run_pure]
      · by_cases he : b = x
        · subst he
          rw [Nat.sub_self]
          simp only [group]
          split
          · exact lst_empty _ _ _ _ _ rfl
          · rw [addr_add]; exact lst_empty _ _ _ _ _ rfl
        · rw [if_neg (by omega), addr_add]
          refine lst_of_cells (cs := cs.drop (x * te.size)) (fun h0 => hI ?_) ?_ (fun i c hi => ?_) rfl (by omega)
          · have : 1 * 1 ≤ len * te.size := Nat.mul_le_mul (by omega) (by omega)
            omega
          · have : (b - x) * te.size + x * te.size ≤ len * te.size := by
              rw [← Nat.add_mul]; exact Nat.mul_le_mul_right _ (by omega)
            simp; omega
          · rw [List.getElem?_drop] at hi
            exact ⟨_, by rw [Nat.add_assoc]; exact hc _ c hi, hr _ c hi⟩
  · cases hv
end
end Go.Rv
