/-
  DERIVED. GIVEN WITH THE SEED: THE CARDS: each row of YtfdcbnhndpkngaaGreatDoorRows.lean that lists a variable, with what it lists TIED to the program's text (the seventh form; the later family's looks); each row that meets fmt, with fmt's text TOLD by the authors' own Lean function (tested against real Go, not proved from fmt's source: count such statements apart). THE CARD IS WHAT COUNTS. Prove the row's statement (the work); the ties are given (YtfdcbnhndpkngaaGreatDoorTie.lean); close each card by the builder's one call (the guide's Derived/Test/ToyasCard.lean, 'card_holds'). Laid BY PROGRAM, IN A SANDBOX (cutbox-door.mjs). By AI agents, Wed Nov 11 2026. No macro, syntax, notation, axiom, sorry.
-/
import Derived.Test.YtfdcbnhndpkngaaGreatDoorRows
import GoSem.ClaimSeven
namespace Go.Proofs.YtfdcbnhndpkngaaGreatDoor
namespace Rows

/-- THE TIED CARD OF 'bobbinlaw19.LocalNames'. -/
def localNamesCard : Claim7 := { stood := { row := localNamesRow, standIns := [], harness := (true, "13f9bdaddd7c28479633e7c81e5688fd31e792c6f96fca4de222392aeb13b7f7"), looks := true }, kinds := [], alts := [], laidByText := true, laidKinds := [.data, .data, .data, .data, .sentinel, .sentinel, .widerDeep, .widerDeep, .data, .data, .data, .pinned], laidTests := true, laidLooks := .later }
def LocalNamesCardSaid : Prop := Claim7.holds Tryz.pinned (.plain (OpenSpec.ofChange localNamesSpec)) localNamesCard

/-- THE TIED CARD OF 'bobbinlaw23.DeadNames'. -/
def deadNamesCard : Claim7 := { stood := { row := deadNamesRow, standIns := [], harness := (true, "13f9bdaddd7c28479633e7c81e5688fd31e792c6f96fca4de222392aeb13b7f7"), looks := true }, kinds := [], alts := [], laidByText := true, laidKinds := [.data, .data, .data, .data, .sentinel, .sentinel, .widerDeep, .widerDeep, .data, .data, .data, .pinned], laidTests := true, laidLooks := .later }
def DeadNamesCardSaid : Prop := Claim7.holds Tryz.pinned (.plain (OpenSpec.ofChange deadNamesSpec)) deadNamesCard

/-- THE TIED CARD OF 'bobbinlaw21.RacesNames'. -/
def racesNamesCard : Claim7 := { stood := { row := racesNamesRow, standIns := [], harness := (true, "13f9bdaddd7c28479633e7c81e5688fd31e792c6f96fca4de222392aeb13b7f7"), looks := true }, kinds := [], alts := [], laidByText := true, laidKinds := [.data, .data, .data, .data, .sentinel, .sentinel, .widerDeep, .widerDeep, .data, .data, .data, .pinned], laidTests := true, laidLooks := .later }
def RacesNamesCardSaid : Prop := Claim7.holds Tryz.pinned (.plain (OpenSpec.ofChange racesNamesSpec)) racesNamesCard

/-- THE TIED CARD OF 'bobbinlaw05.TypesNames'. -/
def typesNamesCard : Claim7 := { stood := { row := typesNamesRow, standIns := [], harness := (true, "13f9bdaddd7c28479633e7c81e5688fd31e792c6f96fca4de222392aeb13b7f7"), looks := true }, kinds := [], alts := [], laidByText := true, laidKinds := [.data, .data, .data, .data, .sentinel, .sentinel, .widerDeep, .widerDeep, .data, .data, .pinned], laidTests := true, laidLooks := .later }
def TypesNamesCardSaid : Prop := Claim7.holds Tryz.pinned (.plain (OpenSpec.ofChange typesNamesSpec)) typesNamesCard

/-- THE SECOND FORM's CARD OF 'bobbinlaw19.LocalNames'. -/
def localNamesUptoCard : Claim7 := { stood := { row := localNamesUptoRow, standIns := [], harness := (true, "13f9bdaddd7c28479633e7c81e5688fd31e792c6f96fca4de222392aeb13b7f7"), looks := true }, kinds := [], alts := [], laidByText := true, laidKinds := [.data, .data, .data, .data, .sentinel, .sentinel, .widerDeep, .widerDeep, .data, .data, .data, .pinned], laidTests := true, laidLooks := .later }
def LocalNamesUptoCardSaid : Prop := Claim7.holds Tryz.pinned (.plain (OpenSpec.upto localNamesSpec)) localNamesUptoCard

/-- THE SECOND FORM's CARD OF 'bobbinlaw23.DeadNames'. -/
def deadNamesUptoCard : Claim7 := { stood := { row := deadNamesUptoRow, standIns := [], harness := (true, "13f9bdaddd7c28479633e7c81e5688fd31e792c6f96fca4de222392aeb13b7f7"), looks := true }, kinds := [], alts := [], laidByText := true, laidKinds := [.data, .data, .data, .data, .sentinel, .sentinel, .widerDeep, .widerDeep, .data, .data, .data, .pinned], laidTests := true, laidLooks := .later }
def DeadNamesUptoCardSaid : Prop := Claim7.holds Tryz.pinned (.plain (OpenSpec.upto deadNamesSpec)) deadNamesUptoCard

/-- THE SECOND FORM's CARD OF 'bobbinlaw21.RacesNames'. -/
def racesNamesUptoCard : Claim7 := { stood := { row := racesNamesUptoRow, standIns := [], harness := (true, "13f9bdaddd7c28479633e7c81e5688fd31e792c6f96fca4de222392aeb13b7f7"), looks := true }, kinds := [], alts := [], laidByText := true, laidKinds := [.data, .data, .data, .data, .sentinel, .sentinel, .widerDeep, .widerDeep, .data, .data, .data, .pinned], laidTests := true, laidLooks := .later }
def RacesNamesUptoCardSaid : Prop := Claim7.holds Tryz.pinned (.plain (OpenSpec.upto racesNamesSpec)) racesNamesUptoCard

/-- THE SECOND FORM's CARD OF 'bobbinlaw05.TypesNames'. -/
def typesNamesUptoCard : Claim7 := { stood := { row := typesNamesUptoRow, standIns := [], harness := (true, "13f9bdaddd7c28479633e7c81e5688fd31e792c6f96fca4de222392aeb13b7f7"), looks := true }, kinds := [], alts := [], laidByText := true, laidKinds := [.data, .data, .data, .data, .sentinel, .sentinel, .widerDeep, .widerDeep, .data, .data, .pinned], laidTests := true, laidLooks := .later }
def TypesNamesUptoCardSaid : Prop := Claim7.holds Tryz.pinned (.plain (OpenSpec.upto typesNamesSpec)) typesNamesUptoCard
end Rows
end Go.Proofs.YtfdcbnhndpkngaaGreatDoor
