/-
  A library call at several closures, as one step.
-/
import Derived.Test.YtfdcbnhndpkngaaGreatDoorPtH
set_option linter.unusedSimpArgs false
set_option linter.unusedVariables false
namespace Go.Rv
noncomputable section
def isClo (n : Nat) (args : List AV) : Bool := match args with
  | .clo f _ :: _ => Nat.beq f n
  | _ => false
/-- That step where the first argument is that closure; the other one else. -/
def selP (n : Nat) (p q : List AV → Heap → Option (CRes × Heap)) (args : List AV) (h : Heap) : Option (CRes × Heap) := match isClo n args with
  | true => p args h
  | false => q args h
def selF (n : Nat) (p q : List AV → Rdr → Nat → Option (CRes × Eff)) (args : List AV) (R : Rdr) (m : Nat) : Option (CRes × Eff) := match isClo n args with
  | true => p args R m
  | false => q args R m
theorem sel_twin {n : Nat} {f g : List AV → Rdr → Nat → Option (CRes × Eff)} {p q : List AV → Heap → Option (CRes × Heap)} (h1 : TwinP f p) (h2 : TwinP g q) : TwinP (selF n f g) (selP n p q) := fun args h res y hq => by
  unfold selF at hq
  unfold selP
  cases hc : isClo n args with
  | true => rw [hc] at hq; exact h1 args h res y hq
  | false => rw [hc] at hq; exact h2 args h res y hq
theorem sel_of {n : Nat} {p q : List AV → Heap → Option (CRes × Heap)} {args : List AV} {h : Heap} {x : CRes × Heap} (hq : selP n p q args h = some x) : p args h = some x ∨ q args h = some x := by
  unfold selP at hq
  cases hc : isClo n args with
  | true => rw [hc] at hq; exact .inl hq
  | false => rw [hc] at hq; exact .inr hq
end
end Go.Rv
