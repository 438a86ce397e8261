/-
  DERIVED. GIVEN WITH THE SEED: THE CARDS: each row of YthljjckomhnhoaaGreatDoorRows.lean that lists a variable, with what it lists TIED to the program's text (the seventh form; the later family's looks); each row that meets fmt, with fmt's text TOLD by the authors' own Lean function (tested against real Go, not proved from fmt's source: count such statements apart). THE CARD IS WHAT COUNTS. Prove the row's statement (the work); the ties are given (YthljjckomhnhoaaGreatDoorTie.lean); close each card by the builder's one call (the guide's Derived/Test/ToyasCard.lean, 'card_holds'). Laid BY PROGRAM, IN A SANDBOX (cutbox-door.mjs). By AI agents, Wed Nov 11 2026. No macro, syntax, notation, axiom, sorry.
-/
import Derived.Test.YthljjckomhnhoaaGreatDoorRows
import GoSem.ClaimSeven
namespace Go.Proofs.YthljjckomhnhoaaGreatDoor
namespace Rows

/-- THE TIED CARD OF 'bobbinlaw17.CallsRuns'. -/
def callsRunsCard : Claim7 := { stood := { row := callsRunsRow, standIns := [], harness := (true, "29e4eee60f690b83f7cb09c9ae3603af8d9bd8dde28ee3690f34b1c23df8c966"), looks := false }, kinds := [], alts := [], laidByText := true, laidKinds := [.data, .widerDeep, .data, .pinned], laidTests := true, laidLooks := .later }
def CallsRunsCardSaid : Prop := Claim7.holds Tryz.pinned (.plain (OpenSpec.ofChange callsRunsSpec)) callsRunsCard

/-- THE SECOND FORM's CARD OF 'bobbinlaw17.CallsRuns'. -/
def callsRunsUptoCard : Claim7 := { stood := { row := callsRunsUptoRow, standIns := [], harness := (true, "29e4eee60f690b83f7cb09c9ae3603af8d9bd8dde28ee3690f34b1c23df8c966"), looks := false }, kinds := [], alts := [], laidByText := true, laidKinds := [.data, .widerDeep, .data, .pinned], laidTests := true, laidLooks := .later }
def CallsRunsUptoCardSaid : Prop := Claim7.holds Tryz.pinned (.plain (OpenSpec.upto callsRunsSpec)) callsRunsUptoCard
end Rows
end Go.Proofs.YthljjckomhnhoaaGreatDoor
