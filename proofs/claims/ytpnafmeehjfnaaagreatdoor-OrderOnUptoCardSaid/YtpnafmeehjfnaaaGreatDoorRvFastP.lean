/-
  The steps taken at once, as the quick twin takes them.
-/
import Derived.Test.YtpnafmeehjfnaaaGreatDoorRvFast
import Derived.Test.YtpnafmeehjfnaaaGreatDoorRvMapsP
import Derived.Test.YtpnafmeehjfnaaaGreatDoorRvSort
import Derived.Test.YtpnafmeehjfnaaaGreatDoorRvKeysM
set_option linter.unusedSimpArgs false
set_option linter.unusedVariables false
namespace Go.Rv
noncomputable section

/-- A function's code, without a look at its orders. -/
def fnsB (P : Program) (f : Nat) : Option FI :=
  match P.funcs[f]? with
  | some fn => match fn.body with
    | some b => some ⟨fn.params.size + fn.nfree, fn.results.toList, b⟩
    | none => none
  | none => none
def fnOk (P : Program) (C : Cfg) (f : Nat) : Bool :=
  match P.funcs[f]? with
  | some fn => match fn.body with
    | some b => okB C f fn b
    | none => true
  | none => true
theorem fnsB_eq {P : Program} {C : Cfg} {f : Nat} (h : fnOk P C f = true) : fnsOf P C f = fnsB P f := by
  unfold fnOk at h
  unfold fnsOf fnsB
  revert h
  generalize P.funcs[f]? = x
  intro h
  cases x with
  | none => rfl
  | some fn =>
    revert h
    show (match fn.body with | some b => okB C f fn b | none => true) = true → (match fn.body with | some b => if okB C f fn b then some (FI.mk (fn.params.size + fn.nfree) fn.results.toList b) else none | none => none) = (match fn.body with | some b => some (FI.mk (fn.params.size + fn.nfree) fn.results.toList b) | none => none)
    cases fn.body with
    | none => intro _; rfl
    | some b => intro h; exact if_pos h

def cloneF (args : List AV) (R : Rdr) (n : Nat) : Option (CRes × Eff) :=
  match args with
  | [.map o] => (R.map o).bind fun es => match intEs es with
    | some l => some (.ret (.map n), .push (.map (ofInts (sortE l))))
    | none => some (.ret (.map n), .push (.map es))
  | _ => none
def copyF (args : List AV) (R : Rdr) (n : Nat) : Option (CRes × Eff) :=
  match args with
  | [.map o, .map o'] => match Nat.beq o o' with
    | true => none
    | false => (R.map o).bind fun ds => (intEs ds).bind fun d => (R.map o').bind fun ss => (intEs ss).bind fun s =>
      if d.length + s.length ≤ 1000000 then some (.ret (.tup []), .set o (.map (ofInts (sortE (mergeE d s))))) else none
  | _ => none
def strikeF (clo : Nat) (args : List AV) (R : Rdr) (n : Nat) : Option (CRes × Eff) :=
  match args with
  | [.map o, .clo g [.ptr p 0 gen]] => match Nat.beq g clo with
    | false => none
    | true => (R.obj p gen).bind fun cs => match cs with
      | .map t :: _ => (match Nat.beq o t with
        | true => none
        | false =>
        (R.map o).bind fun ds => (intEs ds).bind fun d => (R.map t).bind fun ts => (intEs ts).bind fun u =>
          if d.length + u.length ≤ 1000000 then some (.ret (.tup []), .set o (.map (ofInts (d.filter fun q => bearsE u q.1)))) else none)
      | _ => none
  | _ => none
def sortedF (clo : Nat) (args : List AV) (R : Rdr) (n : Nat) : Option (CRes × Eff) :=
  match args with
  | [.clo g [.ptr o 0 gen]] => match Nat.beq g clo with
    | false => none
    | true => (R.obj o gen).bind fun cs => match cs with
      | .map m :: _ => (R.map m).bind fun es => (keysI es).bind fun ks => if es.length ≤ 1000000 then some (.ret (keysOut (isort ks)), .keep) else none
      | _ => none
  | _ => none
def sortStrF (args : List AV) (R : Rdr) (n : Nat) : Option (CRes × Eff) :=
  match args with
  | [.lst [] _ _] => some (.ret (.tup []), .keep)
  | [.msl o 0 len 1 g _] => (R.obj o g).bind fun cs => if cs.length = len ∧ len ≤ 1000000000 then (strsOf cs).map fun ss => (.ret (.tup []), .set o (.cells ((sortedS ss).map AV.str) g)) else none
  | _ => none
def sortedMF (clo : Nat) (args : List AV) (R : Rdr) (n : Nat) : Option (CRes × Eff) :=
  match args with
  | [.clo g [.ptr o 0 gen]] => match Nat.beq g clo with
    | false => none
    | true => (R.obj o gen).bind fun cs => match cs with
      | .map m :: _ => (R.map m).bind fun es => (keysI es).bind fun ks => if es.length ≤ 1000000 then (match isort ks with
        | [] => some (.ret (.lst [] 1 .nil), .keep)
        | x :: r => some (.ret (.msl n 0 (x :: r).length 1 0 none), .push (.cells (intCells (x :: r)) 0))) else none
      | _ => none
  | _ => none
/-- A function without arguments whose answer is known. -/
def constP (v : AV) (args : List AV) (h : Heap) : Option (CRes × Heap) := match args with
  | [] => some (.ret v, h)
  | _ => none
def constF (v : AV) (args : List AV) (R : Rdr) (n : Nat) : Option (CRes × Eff) := match args with
  | [] => some (.ret v, .keep)
  | _ => none

def TwinP (q : List AV → Rdr → Nat → Option (CRes × Eff)) (p : List AV → Heap → Option (CRes × Heap)) : Prop :=
  ∀ args h res y, q args (Rdr.of h) h.length = some (res, y) → p args h = some (res, y.app h)

theorem const_twin (v : AV) : TwinP (constF v) (constP v) := fun args h res y hq => by
  cases args with
  | nil =>
    simp only [constF, Option.some.injEq, Prod.mk.injEq] at hq
    obtain ⟨rfl, rfl⟩ := hq
    rfl
  | cons a r => cases hq

theorem clone_twin : TwinP cloneF cloneMap := fun args h res y hq => by
  unfold cloneF at hq
  split at hq <;> first | (cases hq; done) | skip
  rename_i o
  obtain ⟨es, hes, hq⟩ := Option.bind_eq_some_iff.1 hq
  have hes : h.mapAt o = some es := hes
  simp only [cloneMap, hes, Option.bind_some]
  cases hi : intEs es with
  | some l =>
    rw [hi] at hq
    simp only [Option.some.injEq, Prod.mk.injEq] at hq
    obtain ⟨rfl, rfl⟩ := hq
    rfl
  | none =>
    rw [hi] at hq
    simp only [Option.some.injEq, Prod.mk.injEq] at hq
    obtain ⟨rfl, rfl⟩ := hq
    rfl

theorem copy_twin : TwinP copyF copyMap := fun args h res y hq => by
  unfold copyF at hq
  split at hq <;> first | (cases hq; done) | skip
  rename_i o o'
  cases hb : Nat.beq o o' with
  | true => rw [hb] at hq; cases hq
  | false =>
    rw [hb] at hq
    have hne := Nat.ne_of_beq_eq_false hb
    obtain ⟨ds, hds, hq⟩ := Option.bind_eq_some_iff.1 hq
    obtain ⟨d, hd, hq⟩ := Option.bind_eq_some_iff.1 hq
    obtain ⟨ss, hss, hq⟩ := Option.bind_eq_some_iff.1 hq
    obtain ⟨s, hs, hq⟩ := Option.bind_eq_some_iff.1 hq
    have hds : h.mapAt o = some ds := hds
    have hss : h.mapAt o' = some ss := hss
    simp only [copyMap, hne, if_false, hds, hd, hss, hs, Option.bind_some]
    split at hq
    · rename_i hl
      rw [if_pos hl]
      simp only [Option.some.injEq, Prod.mk.injEq] at hq
      obtain ⟨rfl, rfl⟩ := hq
      rfl
    · cases hq

theorem strike_twin (clo : Nat) : TwinP (strikeF clo) (strikeMap clo) := fun args h res y hq => by
  unfold strikeF at hq
  split at hq <;> first | (cases hq; done) | skip
  rename_i o g p gen
  cases hb : Nat.beq g clo with
  | false => rw [hb] at hq; cases hq
  | true =>
    rw [hb] at hq
    have hg := Nat.eq_of_beq_eq_true hb
    obtain ⟨cs, hcs, hq⟩ := Option.bind_eq_some_iff.1 hq
    have hcs : h.obj p gen = some cs := hcs
    simp only [strikeMap, hg, if_true, hcs, Option.bind_some]
    split at hq <;> first | (cases hq; done) | skip
    rename_i t cr _
    cases hb2 : Nat.beq o t with
    | true => rw [hb2] at hq; cases hq
    | false =>
      rw [hb2] at hq
      have hne := Nat.ne_of_beq_eq_false hb2
      obtain ⟨ds, hds, hq⟩ := Option.bind_eq_some_iff.1 hq
      obtain ⟨d, hd, hq⟩ := Option.bind_eq_some_iff.1 hq
      obtain ⟨ss, hss, hq⟩ := Option.bind_eq_some_iff.1 hq
      obtain ⟨s, hs, hq⟩ := Option.bind_eq_some_iff.1 hq
      have hds : h.mapAt o = some ds := hds
      have hss : h.mapAt t = some ss := hss
      simp only [hne, if_false, hds, hd, hss, hs, Option.bind_some]
      split at hq
      · rename_i hl
        rw [if_pos hl]
        simp only [Option.some.injEq, Prod.mk.injEq] at hq
        obtain ⟨rfl, rfl⟩ := hq
        rfl
      · cases hq

theorem sortedM_twin (clo : Nat) : TwinP (sortedMF clo) (sortedKeysM clo) := fun args h res y hq => by
  unfold sortedMF at hq
  split at hq <;> first | (cases hq; done) | skip
  rename_i g o gen
  cases hb : Nat.beq g clo with
  | false => rw [hb] at hq; cases hq
  | true =>
    rw [hb] at hq
    have hg := Nat.eq_of_beq_eq_true hb
    obtain ⟨cs, hcs, hq⟩ := Option.bind_eq_some_iff.1 hq
    have hcs : h.obj o gen = some cs := hcs
    simp only [sortedKeysM, hg, if_true, hcs, Option.bind_some]
    split at hq <;> first | (cases hq; done) | skip
    rename_i m cr _
    obtain ⟨es, hes, hq⟩ := Option.bind_eq_some_iff.1 hq
    obtain ⟨ks, hks, hq⟩ := Option.bind_eq_some_iff.1 hq
    have hes : h.mapAt m = some es := hes
    simp only [hes, hks, Option.bind_some]
    split at hq
    · rename_i hl
      rw [if_pos hl]
      cases hi : isort ks with
      | nil =>
        rw [hi] at hq
        simp only [Option.some.injEq, Prod.mk.injEq] at hq
        obtain ⟨rfl, rfl⟩ := hq
        rfl
      | cons x r =>
        rw [hi] at hq
        simp only [Option.some.injEq, Prod.mk.injEq] at hq
        obtain ⟨rfl, rfl⟩ := hq
        rfl
    · cases hq

theorem sortStr_twin : TwinP sortStrF sortStr := fun args h res y hq => by
  unfold sortStrF at hq
  split at hq
  · simp only [Option.some.injEq, Prod.mk.injEq] at hq
    obtain ⟨rfl, rfl⟩ := hq
    rfl
  · rename_i o len g cap
    obtain ⟨cs, hcs, hq⟩ := Option.bind_eq_some_iff.1 hq
    have hcs : h.obj o g = some cs := hcs
    simp only [sortStr, hcs, Option.bind_some]
    split at hq
    · rename_i hl
      rw [if_pos hl]
      obtain ⟨ss, hss, hq⟩ := Option.map_eq_some_iff.1 hq
      simp only [Prod.mk.injEq] at hq
      obtain ⟨rfl, rfl⟩ := hq
      simp only [hss, Option.map_some]
      rfl
    · cases hq
  · cases hq
end
end Go.Rv
