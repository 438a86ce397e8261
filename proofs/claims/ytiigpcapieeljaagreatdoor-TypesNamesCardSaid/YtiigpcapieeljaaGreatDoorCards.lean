/-
  DERIVED. GIVEN WITH THE SEED: THE CARDS: each row of YtiigpcapieeljaaGreatDoorRows.lean that lists a variable, with what it lists TIED to the program's text (the seventh form; the later family's looks); each row that meets fmt, with fmt's text TOLD by the authors' own Lean function (tested against real Go, not proved from fmt's source: count such statements apart). THE CARD IS WHAT COUNTS. Prove the row's statement (the work); the ties are given (YtiigpcapieeljaaGreatDoorTie.lean); close each card by the builder's one call (the guide's Derived/Test/ToyasCard.lean, 'card_holds'). Laid BY PROGRAM, IN A SANDBOX (cutbox-door.mjs). By AI agents, Wed Nov 11 2026. No macro, syntax, notation, axiom, sorry.
-/
import Derived.Test.YtiigpcapieeljaaGreatDoorRows
import GoSem.ClaimSeven
namespace Go.Proofs.YtiigpcapieeljaaGreatDoor
namespace Rows

/-- THE TIED CARD OF 'bobbinlaw05.TypesNames'. -/
def typesNamesCard : Claim7 := { stood := { row := typesNamesRow, standIns := [], harness := (true, "ce9d43134e3bf1e59b0348622fa995573e8f71d93bcb7f62760556cfd116bae2"), looks := true }, kinds := [], alts := [], laidByText := true, laidKinds := [.data, .data, .data, .data, .sentinel, .sentinel, .widerDeep, .widerDeep, .data, .data, .pinned], laidTests := true, laidLooks := .later }
def TypesNamesCardSaid : Prop := Claim7.holds Tryz.pinned (.plain (OpenSpec.ofChange typesNamesSpec)) typesNamesCard

/-- THE TIED CARD OF 'bobbinlaw09.StepNames'. -/
def stepNamesCard : Claim7 := { stood := { row := stepNamesRow, standIns := [], harness := (true, "ce9d43134e3bf1e59b0348622fa995573e8f71d93bcb7f62760556cfd116bae2"), looks := true }, kinds := [], alts := [], laidByText := true, laidKinds := [.data, .data, .data, .data, .sentinel, .sentinel, .widerDeep, .widerDeep, .data, .data, .data, .pinned], laidTests := true, laidLooks := .later }
def StepNamesCardSaid : Prop := Claim7.holds Tryz.pinned (.plain (OpenSpec.ofChange stepNamesSpec)) stepNamesCard

/-- THE TIED CARD OF 'bobbinlaw03.ParseNames'. -/
def parseNamesCard : Claim7 := { stood := { row := parseNamesRow, standIns := [], harness := (true, "ce9d43134e3bf1e59b0348622fa995573e8f71d93bcb7f62760556cfd116bae2"), looks := true }, kinds := [], alts := [], laidByText := true, laidKinds := [.data, .data, .data, .data, .sentinel, .sentinel, .widerDeep, .widerDeep, .data, .data, .pinned], laidTests := true, laidLooks := .later }
def ParseNamesCardSaid : Prop := Claim7.holds Tryz.pinned (.plain (OpenSpec.ofChange parseNamesSpec)) parseNamesCard

/-- THE SECOND FORM's CARD OF 'bobbinlaw05.TypesNames'. -/
def typesNamesUptoCard : Claim7 := { stood := { row := typesNamesUptoRow, standIns := [], harness := (true, "ce9d43134e3bf1e59b0348622fa995573e8f71d93bcb7f62760556cfd116bae2"), looks := true }, kinds := [], alts := [], laidByText := true, laidKinds := [.data, .data, .data, .data, .sentinel, .sentinel, .widerDeep, .widerDeep, .data, .data, .pinned], laidTests := true, laidLooks := .later }
def TypesNamesUptoCardSaid : Prop := Claim7.holds Tryz.pinned (.plain (OpenSpec.upto typesNamesSpec)) typesNamesUptoCard

/-- THE SECOND FORM's CARD OF 'bobbinlaw09.StepNames'. -/
def stepNamesUptoCard : Claim7 := { stood := { row := stepNamesUptoRow, standIns := [], harness := (true, "ce9d43134e3bf1e59b0348622fa995573e8f71d93bcb7f62760556cfd116bae2"), looks := true }, kinds := [], alts := [], laidByText := true, laidKinds := [.data, .data, .data, .data, .sentinel, .sentinel, .widerDeep, .widerDeep, .data, .data, .data, .pinned], laidTests := true, laidLooks := .later }
def StepNamesUptoCardSaid : Prop := Claim7.holds Tryz.pinned (.plain (OpenSpec.upto stepNamesSpec)) stepNamesUptoCard

/-- THE SECOND FORM's CARD OF 'bobbinlaw03.ParseNames'. -/
def parseNamesUptoCard : Claim7 := { stood := { row := parseNamesUptoRow, standIns := [], harness := (true, "ce9d43134e3bf1e59b0348622fa995573e8f71d93bcb7f62760556cfd116bae2"), looks := true }, kinds := [], alts := [], laidByText := true, laidKinds := [.data, .data, .data, .data, .sentinel, .sentinel, .widerDeep, .widerDeep, .data, .data, .pinned], laidTests := true, laidLooks := .later }
def ParseNamesUptoCardSaid : Prop := Claim7.holds Tryz.pinned (.plain (OpenSpec.upto parseNamesSpec)) parseNamesUptoCard
end Rows
end Go.Proofs.YtiigpcapieeljaaGreatDoor
