/-
  The operations that read, compute and make memory.
-/
import Derived.Test.YtpnafmeehjfnaaaGreatDoorRvOps2
import Derived.Lib.Strings
import Derived.Laws.StructEq
set_option linter.unusedSimpArgs false
set_option linter.unusedVariables false
namespace Go.Rv
section
variable {P : Program} {C : Cfg} {s : Sim} {h : Heap} {w : World}

/-- It comes to a value, the world as it was. -/
def PRun (P : Program) (s : Sim) (h : Heap) (w : World) (m : Sem Value) (v : AV) : Prop := ∃ x, m.run P w = .ok x w ∧ VR s h w v x
/-- It comes to a value in a later world. -/
def HRun (P : Program) (s : Sim) (h : Heap) (w : World) (m : Sem Value) (v : AV) (h' : Heap) : Prop :=
  ∃ s' w' x, m.run P w = .ok x w' ∧ Ext s h w s' h' w' ∧ Rel s' h' w' ∧ VR s' h' w' v x
theorem PRun.heap (R : Rel s h w) {m : Sem Value} {v : AV} (H : PRun P s h w m v) : HRun P s h w m v h := by
  obtain ⟨x, h1, h2⟩ := H
  exact ⟨s, w, x, h1, Ext.refl _ _ _, R, h2⟩

def scalarB : Option TypeDesc → AV → Bool
  | some .bool, .bool _ => true
  | some (.int _), .int _ _ => true
  | some .string, .str _ => true
  | _, _ => false
def flatFs (P : Program) : Nat → List Field → List AV → Bool
  | _, [], [] => true
  | i, f :: r, c :: cs => (f.name != "_") && Nat.beq f.offset i && scalarB (P.underlying f.type) c && flatFs P (i + 1) r cs
  | _, _, _ => false
/-- Is that a struct's value, its fields plain? -/
def flatKey (P : Program) (t : Nat) (cs : List AV) : Bool :=
  match P.underlying t with
  | some (.struct fs) => !P.stoodInHeld t && flatFs P 0 fs.toList cs
  | _ => false

structure TabOk (P : Program) (C : Cfg) : Prop where
  tab : ∀ t ti, C.ty t = some ti → TyOk P t ti
  flat : ∀ t cs, C.flat t cs = true → flatKey P t cs = true
  guard : ∀ t cs, C.flat t cs = true → P.eqGuardType P.depth t = false
instance : CoeFun (TabOk P C) (fun _ => ∀ t ti, C.ty t = some ti → TyOk P t ti) := ⟨TabOk.tab⟩

/-! ### Numbers, strings, tests -/

theorem bin_int {op : BinOp} {t : TypeId} {x y : Operand} {k : IntKind} {a b : Int} {v : AV} (hv : arithA op k a b = some v) :
    PRun P s h w (do eqGuard op t x y (.int k a) (.int k b); binOp op t (.int k a) (.int k b)) v := by
  have hg : (eqGuard op t x y (.int k a) (.int k b)).run P w = .ok () w := by
    unfold eqGuard
    cases op <;> rfl
  unfold PRun
  simp only [Sem.run_bind, hg, Result.andThen_ok]
  cases op <;> simp only [arithA, reduceCtorEq, Option.some.injEq] at hv
  case add => subst hv; exact ⟨_, by simp [binOp, Op.intArith], .int _ _⟩
  case sub => subst hv; exact ⟨_, by simp [binOp, Op.intArith], .int _ _⟩
  case mul => subst hv; exact ⟨_, by simp [binOp, Op.intArith], .int _ _⟩
  case quo =>
    split at hv
    · cases hv
    · rename_i hb
      have hb' : ¬ b = 0 := by simpa using hb
      injection hv with hv; subst hv
      exact ⟨_, by simp [binOp, Op.intDiv, hb'], .int _ _⟩
  case rem =>
    split at hv
    · cases hv
    · rename_i hb
      have hb' : ¬ b = 0 := by simpa using hb
      injection hv with hv; subst hv
      exact ⟨_, by simp [binOp, Op.intDiv, hb'], .int _ _⟩
  case eql => subst hv; exact ⟨_, by simp [binOp, Op.intCmp], .bool _⟩
  case neq => subst hv; exact ⟨_, by simp [binOp, Op.intCmp], .bool _⟩
  case lss => subst hv; exact ⟨_, by simp [binOp, Op.intCmp], .bool _⟩
  case leq => subst hv; exact ⟨_, by simp [binOp, Op.intCmp], .bool _⟩
  case gtr => subst hv; exact ⟨_, by simp [binOp, Op.intCmp], .bool _⟩
  case geq => subst hv; exact ⟨_, by simp [binOp, Op.intCmp], .bool _⟩
  case and => subst hv; exact ⟨_, by simp [binOp, Op.intBits], .int _ _⟩
  case or => subst hv; exact ⟨_, by simp [binOp, Op.intBits], .int _ _⟩
  case xor => subst hv; exact ⟨_, by simp [binOp, Op.intBits], .int _ _⟩
  case shl =>
    split at hv
    · cases hv
    · rename_i hb
      injection hv with hv; subst hv
      exact ⟨.int k (k.wrap (a * 2 ^ Nat.min b.toNat k.bits)), by simp only [binOp, Op.shift, if_neg hb]; rfl, .int _ _⟩
  case shr =>
    split at hv
    · cases hv
    · rename_i hb
      injection hv with hv; subst hv
      exact ⟨.int k (a.fdiv (2 ^ Nat.min b.toNat k.bits)), by simp only [binOp, Op.shift, if_neg hb]; rfl, .int _ _⟩

theorem bytes_append (a b : List UInt8) : (⟨a.toArray⟩ : ByteArray) ++ ⟨b.toArray⟩ = ⟨(a ++ b).toArray⟩ := by
  apply ByteArray.ext
  simp

theorem bin_str {op : BinOp} {t : TypeId} {x y : Operand} {a b : List UInt8} {v : AV} (hv : binA C h op t (.str a) (.str b) = some v) :
    PRun P s h w (do eqGuard op t x y (.string ⟨a.toArray⟩) (.string ⟨b.toArray⟩); binOp op t (.string ⟨a.toArray⟩) (.string ⟨b.toArray⟩)) v := by
  have hg : (eqGuard op t x y (.string ⟨a.toArray⟩) (.string ⟨b.toArray⟩)).run P w = .ok () w := by
    unfold eqGuard
    cases op <;> rfl
  have e1 : (⟨a.toArray⟩ : ByteArray).toList = a := by rw [Lib.toList_data]
  have e2 : (⟨b.toArray⟩ : ByteArray).toList = b := by rw [Lib.toList_data]
  unfold PRun
  simp only [Sem.run_bind, hg, Result.andThen_ok]
  cases op <;> simp only [binA, reduceCtorEq, Option.some.injEq] at hv
  case add =>
    split at hv
    · rename_i hl
      injection hv with hv; subst hv
      have hsz : ¬ (((⟨a.toArray⟩ : ByteArray).size + (⟨b.toArray⟩ : ByteArray).size : Nat) : Int) > IntKind.i64.max := by
        have : IntKind.i64.max = 9223372036854775807 := by decide
        rw [this]
        simp only [ByteArray.size, List.size_toArray]
        simp only [mostLen] at hl
        omega
      refine ⟨.string ((⟨a.toArray⟩ : ByteArray) ++ ⟨b.toArray⟩), by simp only [binOp, Op.stringOp, hsz, if_false, Sem.run_pure], ?_⟩
      rw [bytes_append]
      exact .str _
    · cases hv
  all_goals (subst hv; exact ⟨_, by simp only [binOp, Op.stringOp, e1, e2, Sem.run_pure], .bool _⟩)

theorem guard_plain {op : BinOp} {t : TypeId} {x y : Operand} {u v : Value} (h1 : u ≠ .nilIface ∨ v ≠ .nilIface) (h2 : ∀ c, u ≠ .agg c) (w : World) : (eqGuard op t x y u v).run P w = .ok () w := by
  have key : ∀ m : Sem Unit, ∀ m' : Sem Unit, (match u, v with | .nilIface, .nilIface => m | .agg _, .agg _ => m' | _, _ => (pure () : Sem Unit)) = pure () := by
    intro m m'
    split
    · rcases h1 with h1 | h1 <;> exact absurd rfl h1
    · rename_i c _; exact absurd rfl (h2 c)
    · rfl
  cases op <;> first | rfl | skip
  all_goals
    simp only [eqGuard, Bool.not_true, Bool.false_eq_true, if_false]
    exact (congrArg (fun m : Sem Unit => m.run P w) (key _ _)).trans rfl

theorem equal_in {t : Nat} {ti : TI} (T : TyOk P t ti) {x y : AV} {u v : Value} {b : Bool} (hx : VR s h w x u) (hy : VR s h w y v) (hb : eqA h ti.td x y = some b) :
    (∀ n, (Op.equalIn (n + 1) t u v).run P w = .ok b w) ∧ (u ≠ .nilIface ∨ v ≠ .nilIface) ∧ (∀ c, u ≠ .agg c) ∧ (∀ k a, u ≠ .int k a) ∧ (∀ c, u ≠ .string c) ∧ (∀ k a, u ≠ .float k a) ∧ (∀ k a c, u ≠ .complex k a c) := by
  obtain ⟨d, hd, hok⟩ := T.und
  have live : ∀ {o off g : Nat} {u : Value}, VR s h w (.ptr o off g) u → h.live o g = true → ∃ a, u = .pointer (some a) := by
    intro o off g u hu hl
    have hg := genOf_live hl
    cases hu with
    | ptr _ _ _ b h1 h2 => exact ⟨_, rfl⟩
    | ptrOld _ _ _ g' a h1 h2 => rw [hg] at h1; injection h1; omega
  have liveS : ∀ {o off len sz g : Nat} {cap : Option Nat} {u : Value}, VR s h w (.msl o off len sz g cap) u → h.live o g = true → ∃ a n c, u = .slice (some a) n c := by
    intro o off len sz g cap u hu hl
    have hg := genOf_live hl
    cases hu with
    | msl _ _ _ _ _ _ b c el n off' h1 => exact ⟨_, _, _, rfl⟩
    | mslOld _ _ _ _ _ _ g' a n c h1 h2 => rw [hg] at h1; injection h1; omega
  have lstv : ∀ {xs : List AV} {z : Nat} {r : Room} {u : Value}, VR s h w (.lst xs z r) u → ∃ a n c, u = .slice a n c ∧ (a.isNone = (r == .nil)) := by
    intro xs z r u hu
    cases hu with
    | lstNil => exact ⟨_, _, _, rfl, rfl⟩
    | lstEmpty => exact ⟨_, _, _, rfl, rfl⟩
    | lst _ _ _ b off c f h1 h2 => exact ⟨_, _, _, rfl, by cases r <;> first | exact h2.elim | rfl⟩
  have nilv : ∀ {xs : List AV} {z : Nat} {u : Value}, VR s h w (.lst xs z .nil) u → u = .slice none 0 0 := by
    intro xs z u hu
    cases hu with
    | lstNil => rfl
    | lst _ _ _ b off c f h1 h2 => exact h2.elim
  generalize ti.td = td at hok hb
  unfold eqA at hb
  simp only [Op.equalIn, Sem.run_bind, run_und hd, Result.andThen_ok]
  split at hb
  · cases hx <;> cases hy <;>
    (cases d <;> simp only [TD.ok] at hok
     injection hb with hb; subst hb
     exact ⟨fun _ => rfl, by simp, by simp, by simp, by simp, by simp, by simp⟩)
  · cases hx <;> cases hy <;>
    (cases d <;> simp only [TD.ok] at hok
     injection hb with hb; subst hb
     exact ⟨fun _ => rfl, by simp, by simp, by simp, by simp, by simp, by simp⟩)
  · cases hx <;> cases hy <;>
    (cases d <;> simp only [TD.ok] at hok
     injection hb with hb; subst hb
     exact ⟨fun _ => rfl, by simp, by simp, by simp, by simp, by simp, by simp⟩)
  · cases hx <;> cases hy <;>
    (cases d <;> simp only [TD.ok] at hok
     injection hb with hb; subst hb
     exact ⟨fun _ => rfl, by simp, by simp, by simp, by simp, by simp, by simp⟩)
  · split at hb
    · rename_i hl
      cases hx
      obtain ⟨a, rfl⟩ := live hy hl
      cases d <;> simp only [TD.ok] at hok
      injection hb with hb; subst hb
      exact ⟨fun _ => rfl, by simp, by simp, by simp, by simp, by simp, by simp⟩
    · cases hb
  · split at hb
    · rename_i hl
      cases hy
      obtain ⟨a, rfl⟩ := live hx hl
      cases d <;> simp only [TD.ok] at hok
      injection hb with hb; subst hb
      exact ⟨fun _ => rfl, by simp, by simp, by simp, by simp, by simp, by simp⟩
    · cases hb
  · obtain ⟨a, n, c, rfl, ha⟩ := lstv hx
    obtain rfl := nilv hy
    cases d <;> simp only [TD.ok] at hok
    injection hb with hb; subst hb
    cases a with
    | none => exact ⟨fun _ => by rw [← ha]; rfl, by simp, by simp, by simp, by simp, by simp, by simp⟩
    | some a => exact ⟨fun _ => by rw [← ha]; rfl, by simp, by simp, by simp, by simp, by simp, by simp⟩
  · obtain ⟨a, n, c, rfl, ha⟩ := lstv hy
    obtain rfl := nilv hx
    cases d <;> simp only [TD.ok] at hok
    injection hb with hb; subst hb
    exact ⟨fun _ => by rw [← ha]; rfl, by simp, by simp, by simp, by simp, by simp, by simp⟩
  · split at hb
    · rename_i hl
      obtain ⟨a, n, c, rfl⟩ := liveS hx hl
      obtain rfl := nilv hy
      cases d <;> simp only [TD.ok] at hok
      injection hb with hb; subst hb
      exact ⟨fun _ => rfl, by simp, by simp, by simp, by simp, by simp, by simp⟩
    · cases hb
  · split at hb
    · rename_i hl
      obtain ⟨a, n, c, rfl⟩ := liveS hy hl
      obtain rfl := nilv hx
      cases d <;> simp only [TD.ok] at hok
      injection hb with hb; subst hb
      exact ⟨fun _ => rfl, by simp, by simp, by simp, by simp, by simp, by simp⟩
    · cases hb
  · cases hx <;> cases hy <;>
    (cases d <;> simp only [TD.ok] at hok
     injection hb with hb; subst hb
     exact ⟨fun _ => rfl, by simp, by simp, by simp, by simp, by simp, by simp⟩)
  · cases hx <;> cases hy <;>
    (cases d <;> simp only [TD.ok] at hok
     injection hb with hb; subst hb
     exact ⟨fun _ => rfl, by simp, by simp, by simp, by simp, by simp, by simp⟩)
  · cases hx <;> cases hy <;>
    (cases d <;> simp only [TD.ok] at hok
     injection hb with hb; subst hb
     exact ⟨fun _ => rfl, by simp, by simp, by simp, by simp, by simp, by simp⟩)
  · cases hx <;> cases hy <;>
    (cases d <;> simp only [TD.ok] at hok
     injection hb with hb; subst hb
     exact ⟨fun _ => rfl, by simp, by simp, by simp, by simp, by simp, by simp⟩)
  · cases hx <;> cases hy <;>
    (cases d <;> simp only [TD.ok] at hok
     injection hb with hb; subst hb
     exact ⟨fun _ => rfl, by simp, by simp, by simp, by simp, by simp, by simp⟩)
  · cases hx <;> cases hy <;>
    (cases d <;> simp only [TD.ok] at hok
     injection hb with hb; subst hb
     exact ⟨fun _ => rfl, by simp, by simp, by simp, by simp, by simp, by simp⟩)
  · cases hb

theorem equal_any {t : Nat} {ti : TI} (T : TyOk P t ti) {x y : AV} {u v : Value} {b : Bool} (hx : VR s h w x u) (hy : VR s h w y v) (hb : eqA h ti.td x y = some b) :
    (Op.equal t u v).run P w = .ok b w ∧ (u ≠ .nilIface ∨ v ≠ .nilIface) ∧ (∀ c, u ≠ .agg c) ∧ (∀ k a, u ≠ .int k a) ∧ (∀ c, u ≠ .string c) ∧ (∀ k a, u ≠ .float k a) ∧ (∀ k a c, u ≠ .complex k a c) := by
  have := equal_in T hx hy hb
  exact ⟨this.1 9999, this.2⟩

/-- Two structs of plain fields, compared. -/
def AggEq (P : Program) (C : Cfg) (s : Sim) (h : Heap) (w : World) : Prop := ∀ {t : Nat} {cs ds : List AV} {u v : Value} {p : Bool}, C.flat t cs = true → VR s h w (.agg cs) u → VR s h w (.agg ds) v → sameKeys cs ds = some p → (Op.equal t u v).run P w = .ok p w

theorem eqC_cases {t : Nat} {td : TD} {a b : AV} {r : Bool} (hr : eqC C h t td a b = some r) : eqA h td a b = some r ∨ ∃ cs ds, a = .agg cs ∧ b = .agg ds ∧ C.flat t cs = true ∧ sameKeys cs ds = some r := by
  unfold eqC at hr
  split at hr
  · split at hr
    · exact .inr ⟨_, _, rfl, rfl, by assumption, hr⟩
    · cases hr
  · exact .inl hr

theorem bin_rel (TT : TabOk P C) (hAgg : AggEq P C s h w) {op : BinOp} {t : Nat} {x y : Operand} {a b v : AV} {u u' : Value} (ha : VR s h w a u) (hb : VR s h w b u') (hv : binA C h op t a b = some v) :
    PRun P s h w (do eqGuard op t x y u u'; binOp op t u u') v := by
  unfold binA at hv
  split at hv
  · cases ha; cases hb
    split at hv
    · rename_i k a k' b hk
      have : k = k' := by simpa using hk
      subst this
      exact bin_int hv
    · cases hv
  · cases ha; cases hb
    exact bin_str (C := C) (h := h) (by unfold binA; exact hv)
  · simp only [Option.bind_eq_bind] at hv
    replace hv := Option.bind_eq_some_iff.1 hv
    obtain ⟨ti, hti, hv⟩ := hv
    split at hv
    · obtain ⟨r, hr, rfl⟩ := Option.map_eq_some_iff.1 hv
      rcases eqC_cases hr with hr | ⟨cs, ds, rfl, rfl, hfl, hk⟩
      rotate_left
      · have he := hAgg hfl ha hb hk
        refine ⟨.bool r, ?_, .bool r⟩
        obtain ⟨xs, rfl⟩ : ∃ xs, u = .agg xs := by cases ha; exact ⟨_, rfl⟩
        obtain ⟨ys, rfl⟩ : ∃ ys, u' = .agg ys := by cases hb; exact ⟨_, rfl⟩
        have : binOp .eql t (.agg xs) (.agg ys) = (do pure (.bool (← Op.equal t (.agg xs) (.agg ys)))) := rfl
        simp only [Sem.run_bind, run_eqGuard_agg (P := P) _ _ _ _ _ _ _ (TT.guard t cs hfl), Result.andThen_ok, this, he, Sem.run_pure]
      obtain ⟨h1, h2, h3, h4, h5, h6, h7⟩ := equal_any (TT t ti hti) ha hb hr
      refine ⟨.bool r, ?_, .bool r⟩
      simp only [Sem.run_bind, guard_plain h2 h3, Result.andThen_ok]
      have : binOp .eql t u u' = (do pure (.bool (← Op.equal t u u'))) := by
        cases u <;> cases u' <;> first | rfl | exact absurd rfl (h4 _ _) | exact absurd rfl (h5 _) | exact absurd rfl (h6 _ _) | exact absurd rfl (h7 _ _ _)
      rw [this]
      simp [h1]
    · obtain ⟨r, hr, rfl⟩ := Option.map_eq_some_iff.1 hv
      rcases eqC_cases hr with hr | ⟨cs, ds, rfl, rfl, hfl, hk⟩
      rotate_left
      · have he := hAgg hfl ha hb hk
        refine ⟨.bool (!r), ?_, .bool (!r)⟩
        obtain ⟨xs, rfl⟩ : ∃ xs, u = .agg xs := by cases ha; exact ⟨_, rfl⟩
        obtain ⟨ys, rfl⟩ : ∃ ys, u' = .agg ys := by cases hb; exact ⟨_, rfl⟩
        have : binOp .neq t (.agg xs) (.agg ys) = (do pure (.bool (!(← Op.equal t (.agg xs) (.agg ys))))) := rfl
        simp only [Sem.run_bind, run_eqGuard_agg (P := P) _ _ _ _ _ _ _ (TT.guard t cs hfl), Result.andThen_ok, this, he, Sem.run_pure]
      obtain ⟨h1, h2, h3, h4, h5, h6, h7⟩ := equal_any (TT t ti hti) ha hb hr
      refine ⟨.bool (!r), ?_, .bool (!r)⟩
      simp only [Sem.run_bind, guard_plain h2 h3, Result.andThen_ok]
      have : binOp .neq t u u' = (do pure (.bool (!(← Op.equal t u u')))) := by
        cases u <;> cases u' <;> first | rfl | exact absurd rfl (h4 _ _) | exact absurd rfl (h5 _) | exact absurd rfl (h6 _ _) | exact absurd rfl (h7 _ _ _)
      rw [this]
      simp [h1]
    · cases hv

theorem un_rel {op : UnOp} {a v : AV} {u : Value} (ha : VR s h w a u) (hv : unA op a = some v) : PRun P s h w (Op.unary op u) v := by
  cases a <;> simp only [unA, reduceCtorEq] at hv
  case bool b =>
    cases ha
    cases op <;> simp at hv
    subst hv
    exact ⟨_, rfl, .bool _⟩
  case int k n =>
    cases ha
    cases op <;> simp at hv
    subst hv
    rw [show -n = 0 - n by omega]
    exact ⟨_, rfl, .int _ _⟩

theorem conv_rel (TT : TabOk P C) {src dst : Nat} (hsrc : ∃ d, P.underlying src = some d) {a v : AV} {u : Value} (ha : VR s h w a u) (hv : convA C dst a = some v) : PRun P s h w (convert src dst u) v := by
  obtain ⟨ds, hds⟩ := hsrc
  unfold convA at hv
  simp only [Option.bind_eq_bind] at hv
  replace hv := Option.bind_eq_some_iff.1 hv
  obtain ⟨ti, hti, hv⟩ := hv
  obtain ⟨d, hd, hok⟩ := (TT dst ti hti).und
  generalize ti.td = td at hok hv
  split at hv
  · cases ha
    injection hv with hv; subst hv
    cases d <;> simp only [TD.ok] at hok
    subst hok
    refine ⟨_, ?_, .int _ _⟩
    simp only [convert, Sem.run_bind, run_und hd, run_und hds, Result.andThen_ok]
    rfl
  · cases ha
    injection hv with hv; subst hv
    cases d <;> simp only [TD.ok] at hok
    refine ⟨_, ?_, .str _⟩
    simp only [convert, Sem.run_bind, run_und hd, run_und hds, Result.andThen_ok]
    rfl
  · cases hv

/-! ### Addresses -/

theorem fieldAddr_rel (TT : TabOk P C) {t k : Nat} {a v : AV} {u : Value} (ha : VR s h w a u) (hv : fieldAddrA C h t a k = some v) : PRun P s h w (Instr.fieldAt t u k) v := by
  unfold fieldAddrA at hv
  simp only [Option.bind_eq_bind] at hv
  replace hv := Option.bind_eq_some_iff.1 hv
  obtain ⟨ti, hti, hv⟩ := hv
  obtain ⟨d, hd, hok⟩ := (TT t ti hti).und
  generalize ti.td = td at hok hv
  split at hv
  · rename_i fs
    replace hv := Option.bind_eq_some_iff.1 hv
    obtain ⟨⟨ft, off⟩, hf, hv⟩ := hv
    replace hv := Option.bind_eq_some_iff.1 hv
    obtain ⟨tf, htf, hv⟩ := hv
    cases d with
    | struct l =>
      simp only [TD.ok] at hok
      have hfl : ∃ fld, l[k]? = some fld ∧ fld.type = ft ∧ fld.offset = off := by
        rw [← hok] at hf
        simp only [List.getElem?_map, Option.map_eq_some_iff, Prod.mk.injEq] at hf
        obtain ⟨fld, h1, h2, h3⟩ := hf
        exact ⟨fld, by simpa using h1, h2, h3⟩
      obtain ⟨fld, hfld, rfl, rfl⟩ := hfl
      split at hv
      · cases hv
      · rename_i hz
        have hz' : ¬ tf.size = 0 := by simpa using hz
        have run : ∀ b off', (Instr.fieldAt t (.pointer (some ⟨b, off', none⟩)) k).run P w = .ok (.pointer (some ⟨b, off' + fld.offset, none⟩)) w := by
          intro b off'
          simp only [Instr.fieldAt, Sem.run_bind, run_und hd, Result.andThen_ok, hfld, Instr.sureAddr, Sem.run_pure, fieldPlace, run_sizeA (TT _ _ htf), hz', if_false, addr_add]
        split at hv
        · injection hv with hv; subst hv
          cases ha with
          | ref cs b off' f hI hc hr =>
            refine ⟨_, run b off', .ref _ b _ (fun i => f (fld.offset + i)) (fun h0 => hI (by simp at h0; omega)) (fun i c hi => ?_) (fun i c hi => ?_)⟩
            · rw [Nat.add_assoc]; exact hc _ c (by simpa using hi)
            · exact hr _ c (by simpa using hi)
        · rename_i o off' g
          split at hv
          · rename_i hl
            injection hv with hv; subst hv
            cases ha with
            | ptr _ _ _ b h1 h2 => exact ⟨_, run b off', .ptr _ _ _ b h1 h2⟩
            | ptrOld _ _ _ g' a h1 h2 => have := genOf_live hl; rw [this] at h1; injection h1; omega
          · cases hv
        · cases hv
    | _ => simp only [TD.ok] at hok
  · cases hv

theorem indexAddr_rel (TT : TabOk P C) {t : Nat} {a i v : AV} {u ui : Value} (ha : VR s h w a u) (hi : VR s h w i ui) (hv : indexAddrA C h t a i = some v) : PRun P s h w (Instr.indexAt t u ui) v := by
  unfold indexAddrA at hv
  simp only [Option.bind_eq_bind] at hv
  replace hv := Option.bind_eq_some_iff.1 hv
  obtain ⟨ti, hti, hv⟩ := hv
  obtain ⟨d, hd, hok⟩ := (TT t ti hti).und
  generalize ti.td = td at hok hv
  cases i <;> simp only [reduceCtorEq] at hv
  case int kk n =>
    cases hi
    split at hv
    · cases hv
    rename_i hn
    split at hv
    · -- an immutable slice
      rename_i e xs z r
      replace hv := Option.bind_eq_some_iff.1 hv
      obtain ⟨x, hx, hv⟩ := hv
      replace hv := Option.bind_eq_some_iff.1 hv
      obtain ⟨te, hte, hv⟩ := hv
      split at hv
      · rename_i hsz
        injection hv with hv; subst hv
        have hsz' : x.cells.length = te.size := by simpa using hsz
        cases d <;> simp only [TD.ok] at hok
        subst hok
        have hlt : n.toNat < xs.length := (List.getElem?_eq_some_iff.1 hx).1
        cases ha with
        | lstNil => simp at hlt
        | lstEmpty => simp at hlt
        | lst _ _ _ b off c f hI hr hle hz hc hrr =>
          have ez : z = te.size := by rw [← hz _ x hx]; exact hsz'
          subst ez
          refine ⟨.pointer (some ⟨b, off + n.toNat * te.size, none⟩), ?_, .ref _ b _ (fun j => f n.toNat j) (fun _ => hI (by omega)) (fun j y hj => hc _ j x y hx hj) (fun j y hj => hrr _ j x y hx hj)⟩
          have h0 : 0 ≤ n ∧ n < (xs.length : Int) := ⟨by omega, by omega⟩
          simp only [Instr.indexAt, asIntOf, Sem.run_bind, Sem.run_pure, Result.andThen_ok, run_und hd, h0, and_self, if_true, run_sizeA (TT _ _ hte), addr_add]
      · cases hv
    · -- an object's slice
      rename_i e o off len sz g cap
      replace hv := Option.bind_eq_some_iff.1 hv
      obtain ⟨te, hte, hv⟩ := hv
      split at hv
      · rename_i hcond
        injection hv with hv; subst hv
        simp only [Bool.and_eq_true, decide_eq_true_eq, beq_iff_eq] at hcond
        obtain ⟨⟨hlt, rfl⟩, hl⟩ := hcond
        cases d <;> simp only [TD.ok] at hok
        subst hok
        cases ha with
        | msl _ _ _ _ _ _ b c el m off' h0 h1 h2 h3 h4 h5 h6 h7 =>
          obtain rfl : off' = off := h0.resolve_right (by omega)
          refine ⟨.pointer (some ⟨b, _ + n.toNat * te.size, none⟩), ?_, .ptr _ _ _ b h1 h2⟩
          have h0 : 0 ≤ n ∧ n < (len : Int) := ⟨by omega, by omega⟩
          simp only [Instr.indexAt, asIntOf, Sem.run_bind, Sem.run_pure, Result.andThen_ok, run_und hd, h0, and_self, if_true, run_sizeA (TT _ _ hte), addr_add]
        | mslOld _ _ _ _ _ _ g' a n c h1 h2 => have := genOf_live hl; rw [this] at h1; injection h1; omega
      · cases hv
    · -- an array that is never written
      rename_i len e cs
      split at hv
      · rename_i hlt
        replace hv := Option.bind_eq_some_iff.1 hv
        obtain ⟨te, hte, hv⟩ := hv
        injection hv with hv; subst hv
        cases d <;> simp only [TD.ok] at hok
        obtain ⟨ea, eb⟩ := hok
        rw [ea, eb] at hd
        cases ha with
        | ref _ b off f hI hc hr =>
          refine ⟨.pointer (some ⟨b, off + n.toNat * te.size, none⟩), ?_, .ref _ b _ (fun j => f (n.toNat * te.size + j)) (fun h0 => hI (by simp at h0; omega)) (fun j y hj => ?_) (fun j y hj => hr _ y (by simpa using hj))⟩
          · have h0 : 0 ≤ n ∧ n < (len : Int) := ⟨by omega, by omega⟩
            simp only [Instr.indexAt, asIntOf, Sem.run_bind, Sem.run_pure, Result.andThen_ok, run_und hd, Instr.sureAddr, h0, and_self, if_true, run_sizeA (TT _ _ hte), addr_add]
          · rw [Nat.add_assoc]; exact hc _ y (by simpa using hj)
      · cases hv
    · -- an array of an object
      rename_i len e o off g
      split at hv
      · rename_i hcond
        simp only [Bool.and_eq_true, decide_eq_true_eq] at hcond
        obtain ⟨hlt, hl⟩ := hcond
        replace hv := Option.bind_eq_some_iff.1 hv
        obtain ⟨te, hte, hv⟩ := hv
        injection hv with hv; subst hv
        cases d <;> simp only [TD.ok] at hok
        obtain ⟨ea, eb⟩ := hok
        rw [ea, eb] at hd
        cases ha with
        | ptr _ _ _ b h1 h2 =>
          refine ⟨.pointer (some ⟨b, _ + n.toNat * te.size, none⟩), ?_, .ptr _ _ _ b h1 h2⟩
          have h0 : 0 ≤ n ∧ n < (len : Int) := ⟨by omega, by omega⟩
          simp only [Instr.indexAt, asIntOf, Sem.run_bind, Sem.run_pure, Result.andThen_ok, run_und hd, Instr.sureAddr, h0, and_self, if_true, run_sizeA (TT _ _ hte), addr_add]
        | ptrOld _ _ _ g' a h1 h2 => have := genOf_live hl; rw [this] at h1; injection h1; omega
      · cases hv
    · cases hv
end
end Go.Rv
