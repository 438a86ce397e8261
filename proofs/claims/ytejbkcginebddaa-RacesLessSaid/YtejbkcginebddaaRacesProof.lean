/-
  'bobbinlaw21.RacesLess' returns true for every two reports, and the reports read behind the call as they read before. No condition: it holds of every input of the given row.
-/
import Derived.Test.YtejbkcginebddaaRows
import Derived.Test.YtejbkcginebddaaRacesLast
import Derived.Test.YtejbkcginebddaaRvEntry
import Derived.ProofKit
set_option linter.unusedVariables false
set_option linter.unusedSimpArgs false
namespace Go.Proofs.Ytejbkcginebddaa
open Go.Rv Go.ChangeShapes Go.WideShapes Go.ChangeAt Go.RowKit Go.Joins Go.Deep

theorem races_own : ownKnob Try.prog.godebug = none := by kernel_rfl
theorem races_cells : Try.prog.cellsOf 23 = 6 := by kernel_rfl

section
variable {H : Type} {enc : TypeId × Value → H} {P : Program} {w : World} {base : Nat} {spare : Nat → Bool} {held : Bool}
theorem open_agg6 {r : Reach} {b0 : Nat} {t : TypeId} {f0 f1 f2 f3 f4 f5 : Field} {v : Value} {d : DataW H} {p : List MemPlace} (hs : P.underlying t = some (.struct #[f0, f1, f2, f3, f4, f5])) (hone : oneCellFields P #[f0, f1, f2, f3, f4, f5] = true) (hC : P.cellsOf t = 6)
    (hv : Value.okWide P w r b0 t v) (h : DataW.Trod enc P w base spare held t v d p) :
    ∃ (v0 v1 v2 v3 v4 v5 : Value) (y0 y1 y2 y3 y4 y5 : DataW H × List MemPlace) (n : Nat), v = .agg #[v0, v1, v2, v3, v4, v5] ∧ d = .agg [y0.1, y1.1, y2.1, y3.1, y4.1, y5.1] ∧ p = y0.2 ++ (y1.2 ++ (y2.2 ++ (y3.2 ++ (y4.2 ++ y5.2)))) ∧
      DataW.trod enc P w base spare held n f0.type [v0] = some y0 ∧ DataW.trod enc P w base spare held n f1.type [v1] = some y1 ∧ DataW.trod enc P w base spare held n f2.type [v2] = some y2 ∧ DataW.trod enc P w base spare held n f3.type [v3] = some y3 ∧ DataW.trod enc P w base spare held n f4.type [v4] = some y4 ∧ DataW.trod enc P w base spare held n f5.type [v5] = some y5 := by
  obtain ⟨cs, rfl, hsz⟩ := okWide_struct hs hv
  obtain ⟨l⟩ := cs
  match l, hsz.trans hC with
  | [c0, c1, c2, c3, c4, c5], _ =>
    obtain ⟨fuel, hf⟩ := h
    obtain ⟨xs, n, _, hx, _, hlen, hg⟩ := DataW.trod_struct hs hf
    obtain ⟨o0, k0⟩ := hone_of hone 0 f0 rfl
    obtain ⟨o1, k1⟩ := hone_of hone 1 f1 rfl
    obtain ⟨o2, k2⟩ := hone_of hone 2 f2 rfl
    obtain ⟨o3, k3⟩ := hone_of hone 3 f3 rfl
    obtain ⟨o4, k4⟩ := hone_of hone 4 f4 rfl
    obtain ⟨o5, k5⟩ := hone_of hone 5 f5 rfl
    match xs, hlen with
    | [y0, y1, y2, y3, y4, y5], _ =>
      simp only [Prod.mk.injEq] at hx
      exact ⟨c0, c1, c2, c3, c4, c5, y0, y1, y2, y3, y4, y5, n, rfl, by simpa using hx.1, by simpa using hx.2, by simpa [Value.cells, o0, k0] using hg 0 f0 rfl, by simpa [Value.cells, o1, k1] using hg 1 f1 rfl, by simpa [Value.cells, o2, k2] using hg 2 f2 rfl, by simpa [Value.cells, o3, k3] using hg 3 f3 rfl, by simpa [Value.cells, o4, k4] using hg 4 f4 rfl, by simpa [Value.cells, o5, k5] using hg 5 f5 rfl⟩
end

theorem vr_report (s : Sim) (h : Heap) (w : World) (a b c d e f : Int) : VR s h w (.agg [.int .u8 a, .int .i64 b, .int .i64 c, .int .i64 d, .int .i64 e, .int .i64 f]) (.agg #[.int .u8 a, .int .i64 b, .int .i64 c, .int .i64 d, .int .i64 e, .int .i64 f]) := by
  refine .agg _ _ rfl fun i x hi => ?_
  rcases i with _ | _ | _ | _ | _ | _ | i <;> simp at hi <;> subst hi <;> exact .int _ _

theorem report_reads {H : Type} {enc : TypeId × Value → H} {w : World} {base : Nat} {sp : Nat → Bool} {held : Bool} {a b c d e f : Int} (wa : (Lit.int .u8 a).wf = true) (wb : (Lit.int .i64 b).wf = true) (wc : (Lit.int .i64 c).wf = true) (wd : (Lit.int .i64 d).wf = true) (we : (Lit.int .i64 e).wf = true) (wf : (Lit.int .i64 f).wf = true) :
    DataW.Trod enc Try.prog w base sp held 23 (.agg #[.int .u8 a, .int .i64 b, .int .i64 c, .int .i64 d, .int .i64 e, .int .i64 f]) (.agg [.lit (.int .u8 a), .lit (.int .i64 b), .lit (.int .i64 c), .lit (.int .i64 d), .lit (.int .i64 e), .lit (.int .i64 f)]) [] := by
  have c5 : Try.prog.cellsOf 5 = 1 := by kernel_rfl
  have c3 : Try.prog.cellsOf 3 = 1 := by kernel_rfl
  have i0 := trod_int_mk (enc := enc) (w := w) (base := base) (spare := sp) (held := held) 0 Try.underlying5 wa
  have i1 := trod_int_mk (enc := enc) (w := w) (base := base) (spare := sp) (held := held) 0 Try.underlying3 wb
  have i2 := trod_int_mk (enc := enc) (w := w) (base := base) (spare := sp) (held := held) 0 Try.underlying3 wc
  have i3 := trod_int_mk (enc := enc) (w := w) (base := base) (spare := sp) (held := held) 0 Try.underlying3 wd
  have i4 := trod_int_mk (enc := enc) (w := w) (base := base) (spare := sp) (held := held) 0 Try.underlying3 we
  have i5 := trod_int_mk (enc := enc) (w := w) (base := base) (spare := sp) (held := held) 0 Try.underlying3 wf
  refine ⟨2, ?_⟩
  have := trod_struct_mk (enc := enc) (w := w) (base := base) (spare := sp) (held := held) (n := 1) (cs := [.int .u8 a, .int .i64 b, .int .i64 c, .int .i64 d, .int .i64 e, .int .i64 f]) (xs := [(.lit (.int .u8 a), []), (.lit (.int .i64 b), []), (.lit (.int .i64 c), []), (.lit (.int .i64 d), []), (.lit (.int .i64 e), []), (.lit (.int .i64 f), [])]) Try.underlying23 (by simp [races_cells]) (by simp [c5, c3, i0, i1, i2, i3, i4, i5])
  simpa [Value.cells] using this

theorem u8_has {a : Int} (wa : (Lit.int .u8 a).wf = true) : 0 ≤ a ∧ a < 256 := by
  simp [Lit.wf, IntKind.min, IntKind.max, IntKind.signed, IntKind.bits] at wa
  omega

theorem races_walk (a b c d e f a' b' c' d' e' f' : Int) (W : World) (ha : 0 ≤ a) (ha1 : a < 256) (hb : 0 ≤ a') (hb1 : a' < 256) :
    Calls Try.prog 3 #[(.agg #[.int .u8 a, .int .i64 b, .int .i64 c, .int .i64 d, .int .i64 e, .int .i64 f]), (.agg #[.int .u8 a', .int .i64 b', .int .i64 c', .int .i64 d', .int .i64 e', .int .i64 f'])] W (fun e W' => Same W W' ∧ e = .returned (.bool true)) := by
  have hc := Races.w3 a b c d e f a' b' c' d' e' f' [] ha ha1 hb hb1
  refine Calls.mono (entry (T := Races.told) (P := Try.prog) (vs := [(.agg #[.int .u8 a, .int .i64 b, .int .i64 c, .int .i64 d, .int .i64 e, .int .i64 f]), (.agg #[.int .u8 a', .int .i64 b', .int .i64 c', .int .i64 d', .int .i64 e', .int .i64 f'])]) (fun _ => rfl) (fun _ => rfl) (by kernel_rfl) hc ⟨rfl, fun i x hi => ?_⟩) fun e W' he => ?_
  · rcases i with _ | _ | i
    · simp at hi; subst hi; exact ⟨_, rfl, vr_report _ _ _ _ _ _ _ _ _⟩
    · simp at hi; subst hi; exact ⟨_, rfl, vr_report _ _ _ _ _ _ _ _ _⟩
    · simp at hi
  · obtain ⟨h1, u, s', rfl, hv⟩ := he
    cases hv
    exact ⟨h1, rfl⟩

set_option maxRecDepth 100000 in
theorem races_lifted (os : Os) (started : os.Started) (H : Type) (enc : TypeId × Value → H) :
    ReturnsInHanded {} Try.checked os 3 .any (Rows.racesLessSpec.pre6 enc Try.prog Try.f3 Rows.racesLessRow.domain false) (Rows.racesLessSpec.post enc Try.prog Try.f3 false true false false) := by
  refine returnsInHanded_of_change (C := Try.checked) races_own started (by kernel_rfl) Try.func3
    (ChangeSpec.witness6 (enc := enc) (C := Try.checked) false ⟨#[], #[.agg #[.int .u8 0, .int .i64 0, .int .i64 0, .int .i64 0, .int .i64 0, .int .i64 0], .agg #[.int .u8 0, .int .i64 0, .int .i64 0, .int .i64 0, .int .i64 0, .int .i64 0]], []⟩ 8 (by kernel_rfl) (by kernel_rfl) (by kernel_rfl) (by kernel_rfl)) ?_
  intro W base args ds gs before hval0 hW _ _
  have hval : ∀ (j : Nat) t v, Try.f3.params[j]? = some t → args[j]? = some v → Value.okWide Try.prog W .any base t v := hval0
  have hW' := hW
  obtain ⟨p, q, hA0, hV, rfl, _, _⟩ := hW
  have hA : DataW.TrodAll enc Try.prog W 0 (fun _ => true) true Try.f3.params.toList args.toList ds p := hA0
  rw [Try.params3] at hA hval
  obtain ⟨v0, v1, d0, d1, p0, p1, rfl, rfl, rfl, h0, h1⟩ := trodAll_two hA
  obtain ⟨rfl, rfl⟩ := trodVars_none hV
  obtain ⟨c0, c1, c2, c3, c4, c5, y0, y1, y2, y3, y4, y5, m, rfl, rfl, rfl, hy0, hy1, hy2, hy3, hy4, hy5⟩ := open_agg6 Try.underlying23 (by kernel_rfl) races_cells (hval 0 23 v0 rfl rfl) h0
  obtain ⟨g0, g1, g2, g3, g4, g5, z0, z1, z2, z3, z4, z5, m', rfl, rfl, rfl, hz0, hz1, hz2, hz3, hz4, hz5⟩ := open_agg6 Try.underlying23 (by kernel_rfl) races_cells (hval 1 23 v1 rfl rfl) h1
  obtain ⟨a, qy0, rfl, wya⟩ := DataW.trod_int Try.underlying5 hy0
  obtain ⟨b, qy1, rfl, wyb⟩ := DataW.trod_int Try.underlying3 hy1
  obtain ⟨c, qy2, rfl, wyc⟩ := DataW.trod_int Try.underlying3 hy2
  obtain ⟨d, qy3, rfl, wyd⟩ := DataW.trod_int Try.underlying3 hy3
  obtain ⟨e, qy4, rfl, wye⟩ := DataW.trod_int Try.underlying3 hy4
  obtain ⟨f, qy5, rfl, wyf⟩ := DataW.trod_int Try.underlying3 hy5
  obtain ⟨a', qz0, rfl, wza⟩ := DataW.trod_int Try.underlying5 hz0
  obtain ⟨b', qz1, rfl, wzb⟩ := DataW.trod_int Try.underlying3 hz1
  obtain ⟨c', qz2, rfl, wzc⟩ := DataW.trod_int Try.underlying3 hz2
  obtain ⟨d', qz3, rfl, wzd⟩ := DataW.trod_int Try.underlying3 hz3
  obtain ⟨e', qz4, rfl, wze⟩ := DataW.trod_int Try.underlying3 hz4
  obtain ⟨f', qz5, rfl, wzf⟩ := DataW.trod_int Try.underlying3 hz5
  simp at qy0 qy1 qy2 qy3 qy4 qy5 qz0 qz1 qz2 qz3 qz4 qz5
  subst qy0 qy1 qy2 qy3 qy4 qy5 qz0 qz1 qz2 qz3 qz4 qz5
  clear hA0 hval0
  simp only [List.append_nil] at hW'
  have reads : ∀ (W' : World) (sp : Nat → Bool), DataW.TrodAll enc Try.prog W' 0 sp true [23, 23] [(.agg #[.int .u8 a, .int .i64 b, .int .i64 c, .int .i64 d, .int .i64 e, .int .i64 f]), (.agg #[.int .u8 a', .int .i64 b', .int .i64 c', .int .i64 d', .int .i64 e', .int .i64 f'])] [(.agg [.lit (.int .u8 a), .lit (.int .i64 b), .lit (.int .i64 c), .lit (.int .i64 d), .lit (.int .i64 e), .lit (.int .i64 f)]), (.agg [.lit (.int .u8 a'), .lit (.int .i64 b'), .lit (.int .i64 c'), .lit (.int .i64 d'), .lit (.int .i64 e'), .lit (.int .i64 f')])] [] := fun W' sp =>
    trodAll_mk2 (report_reads wya wyb wyc wyd wye wyf) (report_reads wza wzb wzc wzd wze wzf)
  have ha := u8_has wya
  have hb := u8_has wza
  refine (races_walk a b c d e f a' b' c' d' e' f' W ha.1 ha.2 hb.1 hb.2).mono fun e W' ⟨hS, he⟩ => ?_
  subst he
  exact ⟨_, rfl, post_of_kept (pa := []) (pv := []) hW' (fun _ _ _ => trodAll_mk1 (shut_bool Try.underlying4 true)) (fun sp _ => by rw [Try.params3]; exact reads _ sp) (fun _ _ => rfl) rfl hS (ok_one (by kernel_rfl) rfl (okWide_bool_mk Try.underlying4 true))⟩

theorem racesLess_holds : Rows.RacesLessSaid :=
  OpenClaim.holds_of_wide 3 Try.f3 rfl rfl rfl rfl rfl rfl rfl ⟨rfl, rfl, rfl, rfl, rfl⟩ rfl rfl rfl rfl rfl (by kernel_rfl) Try.func3 (by kernel_rfl)
    (of_decide_eq_true (by kernel_rfl)) (by unfold Func.isWrapper; rw [if_neg (by decide +kernel)]; exact ⟨rfl, rfl⟩)
    (fun os started H enc _ => races_lifted os started H enc)
#print axioms racesLess_holds
end Go.Proofs.Ytejbkcginebddaa
