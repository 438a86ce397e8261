/-
  DERIVED. GIVEN WITH THE SEED: THE CARDS: each row of YtpnafmeehjfnaaaGreatDoorRows.lean that lists a variable, with what it lists TIED to the program's text (the seventh form; the later family's looks); each row that meets fmt, with fmt's text TOLD by the authors' own Lean function (tested against real Go, not proved from fmt's source: count such statements apart). THE CARD IS WHAT COUNTS. Prove the row's statement (the work); the ties are given (YtpnafmeehjfnaaaGreatDoorTie.lean); close each card by the builder's one call (the guide's Derived/Test/ToyasCard.lean, 'card_holds'). Laid BY PROGRAM, IN A SANDBOX (cutbox-door.mjs). By AI agents, Wed Nov 11 2026. No macro, syntax, notation, axiom, sorry.
-/
import Derived.Test.YtpnafmeehjfnaaaGreatDoorRows
import GoSem.ClaimSeven
namespace Go.Proofs.YtpnafmeehjfnaaaGreatDoor
namespace Rows

/-- THE TIED CARD OF 'bobbinlaw20.HeldNames'. -/
def heldNamesCard : Claim7 := { stood := { row := heldNamesRow, standIns := [], harness := (true, "e85f112cbd1f4ebc7727156908f1ffc8f5b4f7fad03b3358955cc05ce357305f"), looks := true }, kinds := [], alts := [], laidByText := true, laidKinds := [.data, .widerDeep, .data, .pinned], laidTests := true, laidLooks := .later }
def HeldNamesCardSaid : Prop := Claim7.holds Tryz.pinned (.plain (OpenSpec.ofChange heldNamesSpec)) heldNamesCard

/-- THE TIED CARD OF 'bobbinlaw22.OrderNames'. -/
def orderNamesCard : Claim7 := { stood := { row := orderNamesRow, standIns := [], harness := (true, "e85f112cbd1f4ebc7727156908f1ffc8f5b4f7fad03b3358955cc05ce357305f"), looks := true }, kinds := [], alts := [], laidByText := true, laidKinds := [.data, .widerDeep, .data, .pinned], laidTests := true, laidLooks := .later }
def OrderNamesCardSaid : Prop := Claim7.holds Tryz.pinned (.plain (OpenSpec.ofChange orderNamesSpec)) orderNamesCard

/-- THE TIED CARD OF 'bobbinlaw22.OrderOn'. -/
def orderOnCard : Claim7 := { stood := { row := orderOnRow, standIns := [], harness := (true, "e85f112cbd1f4ebc7727156908f1ffc8f5b4f7fad03b3358955cc05ce357305f"), looks := true }, kinds := [], alts := [], laidByText := true, laidKinds := [.data, .widerDeep, .data, .pinned], laidTests := true, laidLooks := .later }
def OrderOnCardSaid : Prop := Claim7.holds Tryz.pinned (.plain (OpenSpec.ofChange orderOnSpec)) orderOnCard

/-- THE TIED CARD OF 'bobbinlaw22.OrderTurned'. -/
def orderTurnedCard : Claim7 := { stood := { row := orderTurnedRow, standIns := [], harness := (true, "e85f112cbd1f4ebc7727156908f1ffc8f5b4f7fad03b3358955cc05ce357305f"), looks := true }, kinds := [], alts := [], laidByText := true, laidKinds := [.data, .widerDeep, .data, .pinned], laidTests := true, laidLooks := .later }
def OrderTurnedCardSaid : Prop := Claim7.holds Tryz.pinned (.plain (OpenSpec.ofChange orderTurnedSpec)) orderTurnedCard

/-- THE TIED CARD OF 'bobbinlaw22.OrderGraphs'. -/
def orderGraphsCard : Claim7 := { stood := { row := orderGraphsRow, standIns := [], harness := (true, "e85f112cbd1f4ebc7727156908f1ffc8f5b4f7fad03b3358955cc05ce357305f"), looks := true }, kinds := [], alts := [], laidByText := true, laidKinds := [.data, .widerDeep, .data, .pinned], laidTests := true, laidLooks := .later }
def OrderGraphsCardSaid : Prop := Claim7.holds Tryz.pinned (.plain (OpenSpec.ofChange orderGraphsSpec)) orderGraphsCard

/-- THE SECOND FORM's CARD OF 'bobbinlaw20.HeldNames'. -/
def heldNamesUptoCard : Claim7 := { stood := { row := heldNamesUptoRow, standIns := [], harness := (true, "e85f112cbd1f4ebc7727156908f1ffc8f5b4f7fad03b3358955cc05ce357305f"), looks := true }, kinds := [], alts := [], laidByText := true, laidKinds := [.data, .widerDeep, .data, .pinned], laidTests := true, laidLooks := .later }
def HeldNamesUptoCardSaid : Prop := Claim7.holds Tryz.pinned (.plain (OpenSpec.upto heldNamesSpec)) heldNamesUptoCard

/-- THE SECOND FORM's CARD OF 'bobbinlaw22.OrderNames'. -/
def orderNamesUptoCard : Claim7 := { stood := { row := orderNamesUptoRow, standIns := [], harness := (true, "e85f112cbd1f4ebc7727156908f1ffc8f5b4f7fad03b3358955cc05ce357305f"), looks := true }, kinds := [], alts := [], laidByText := true, laidKinds := [.data, .widerDeep, .data, .pinned], laidTests := true, laidLooks := .later }
def OrderNamesUptoCardSaid : Prop := Claim7.holds Tryz.pinned (.plain (OpenSpec.upto orderNamesSpec)) orderNamesUptoCard

/-- THE SECOND FORM's CARD OF 'bobbinlaw22.OrderOn'. -/
def orderOnUptoCard : Claim7 := { stood := { row := orderOnUptoRow, standIns := [], harness := (true, "e85f112cbd1f4ebc7727156908f1ffc8f5b4f7fad03b3358955cc05ce357305f"), looks := true }, kinds := [], alts := [], laidByText := true, laidKinds := [.data, .widerDeep, .data, .pinned], laidTests := true, laidLooks := .later }
def OrderOnUptoCardSaid : Prop := Claim7.holds Tryz.pinned (.plain (OpenSpec.upto orderOnSpec)) orderOnUptoCard

/-- THE SECOND FORM's CARD OF 'bobbinlaw22.OrderTurned'. -/
def orderTurnedUptoCard : Claim7 := { stood := { row := orderTurnedUptoRow, standIns := [], harness := (true, "e85f112cbd1f4ebc7727156908f1ffc8f5b4f7fad03b3358955cc05ce357305f"), looks := true }, kinds := [], alts := [], laidByText := true, laidKinds := [.data, .widerDeep, .data, .pinned], laidTests := true, laidLooks := .later }
def OrderTurnedUptoCardSaid : Prop := Claim7.holds Tryz.pinned (.plain (OpenSpec.upto orderTurnedSpec)) orderTurnedUptoCard

/-- THE SECOND FORM's CARD OF 'bobbinlaw22.OrderGraphs'. -/
def orderGraphsUptoCard : Claim7 := { stood := { row := orderGraphsUptoRow, standIns := [], harness := (true, "e85f112cbd1f4ebc7727156908f1ffc8f5b4f7fad03b3358955cc05ce357305f"), looks := true }, kinds := [], alts := [], laidByText := true, laidKinds := [.data, .widerDeep, .data, .pinned], laidTests := true, laidLooks := .later }
def OrderGraphsUptoCardSaid : Prop := Claim7.holds Tryz.pinned (.plain (OpenSpec.upto orderGraphsSpec)) orderGraphsUptoCard
end Rows
end Go.Proofs.YtpnafmeehjfnaaaGreatDoor
