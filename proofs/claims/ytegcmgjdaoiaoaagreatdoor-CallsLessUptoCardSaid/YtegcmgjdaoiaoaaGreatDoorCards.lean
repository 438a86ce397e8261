/-
  DERIVED. GIVEN WITH THE SEED: THE CARDS: each row of YtegcmgjdaoiaoaaGreatDoorRows.lean that lists a variable, with what it lists TIED to the program's text (the seventh form; the later family's looks); each row that meets fmt, with fmt's text TOLD by the authors' own Lean function (tested against real Go, not proved from fmt's source: count such statements apart). THE CARD IS WHAT COUNTS. Prove the row's statement (the work); the ties are given (YtegcmgjdaoiaoaaGreatDoorTie.lean); close each card by the builder's one call (the guide's Derived/Test/ToyasCard.lean, 'card_holds'). Laid BY PROGRAM, IN A SANDBOX (cutbox-door.mjs). By AI agents, Wed Nov 11 2026. No macro, syntax, notation, axiom, sorry.
-/
import Derived.Test.YtegcmgjdaoiaoaaGreatDoorRows
import GoSem.ClaimSeven
namespace Go.Proofs.YtegcmgjdaoiaoaaGreatDoor
namespace Rows

/-- THE TIED CARD OF 'bobbinlaw17.CallsBack'. -/
def callsBackCard : Claim7 := { stood := { row := callsBackRow, standIns := [], harness := (true, "f39c5522cdaaaece02ff49fd32b4c835b8c39e10cff4a95685b1e49a59772730"), looks := false }, kinds := [], alts := [], laidByText := true, laidKinds := [.data, .widerDeep, .data, .pinned], laidTests := true, laidLooks := .later }
def CallsBackCardSaid : Prop := Claim7.holds Tryz.pinned (.plain (OpenSpec.ofChange callsBackSpec)) callsBackCard

/-- THE TIED CARD OF 'bobbinlaw17.CallsLess'. -/
def callsLessCard : Claim7 := { stood := { row := callsLessRow, standIns := [], harness := (true, "f39c5522cdaaaece02ff49fd32b4c835b8c39e10cff4a95685b1e49a59772730"), looks := false }, kinds := [], alts := [], laidByText := true, laidKinds := [.data, .widerDeep, .data, .pinned], laidTests := true, laidLooks := .later }
def CallsLessCardSaid : Prop := Claim7.holds Tryz.pinned (.plain (OpenSpec.ofChange callsLessSpec)) callsLessCard

/-- THE TIED CARD OF 'bobbinlaw17.CallsTells'. -/
def callsTellsCard : Claim7 := { stood := { row := callsTellsRow, standIns := [], harness := (true, "f39c5522cdaaaece02ff49fd32b4c835b8c39e10cff4a95685b1e49a59772730"), looks := false }, kinds := [], alts := [], laidByText := true, laidKinds := [.data, .widerDeep, .data, .pinned], laidTests := true, laidLooks := .later }
def CallsTellsCardSaid : Prop := Claim7.holds Tryz.pinned (.plain (OpenSpec.ofChange callsTellsSpec)) callsTellsCard

/-- THE SECOND FORM's CARD OF 'bobbinlaw17.CallsBack'. -/
def callsBackUptoCard : Claim7 := { stood := { row := callsBackUptoRow, standIns := [], harness := (true, "f39c5522cdaaaece02ff49fd32b4c835b8c39e10cff4a95685b1e49a59772730"), looks := false }, kinds := [], alts := [], laidByText := true, laidKinds := [.data, .widerDeep, .data, .pinned], laidTests := true, laidLooks := .later }
def CallsBackUptoCardSaid : Prop := Claim7.holds Tryz.pinned (.plain (OpenSpec.upto callsBackSpec)) callsBackUptoCard

/-- THE SECOND FORM's CARD OF 'bobbinlaw17.CallsLess'. -/
def callsLessUptoCard : Claim7 := { stood := { row := callsLessUptoRow, standIns := [], harness := (true, "f39c5522cdaaaece02ff49fd32b4c835b8c39e10cff4a95685b1e49a59772730"), looks := false }, kinds := [], alts := [], laidByText := true, laidKinds := [.data, .widerDeep, .data, .pinned], laidTests := true, laidLooks := .later }
def CallsLessUptoCardSaid : Prop := Claim7.holds Tryz.pinned (.plain (OpenSpec.upto callsLessSpec)) callsLessUptoCard

/-- THE SECOND FORM's CARD OF 'bobbinlaw17.CallsTells'. -/
def callsTellsUptoCard : Claim7 := { stood := { row := callsTellsUptoRow, standIns := [], harness := (true, "f39c5522cdaaaece02ff49fd32b4c835b8c39e10cff4a95685b1e49a59772730"), looks := false }, kinds := [], alts := [], laidByText := true, laidKinds := [.data, .widerDeep, .data, .pinned], laidTests := true, laidLooks := .later }
def CallsTellsUptoCardSaid : Prop := Claim7.holds Tryz.pinned (.plain (OpenSpec.upto callsTellsSpec)) callsTellsUptoCard
end Rows
end Go.Proofs.YtegcmgjdaoiaoaaGreatDoor
