/-
  DERIVED. GIVEN WITH THE SEED: THE CARDS: each row of YtlimadookjcbmaaGreatDoorRows.lean that lists a variable, with what it lists TIED to the program's text (the seventh form; the later family's looks); each row that meets fmt, with fmt's text TOLD by the authors' own Lean function (tested against real Go, not proved from fmt's source: count such statements apart). THE CARD IS WHAT COUNTS. Prove the row's statement (the work); the ties are given (YtlimadookjcbmaaGreatDoorTie.lean); close each card by the builder's one call (the guide's Derived/Test/ToyasCard.lean, 'card_holds'). Laid BY PROGRAM, IN A SANDBOX (cutbox-door.mjs). By AI agents, Wed Nov 11 2026. No macro, syntax, notation, axiom, sorry.
-/
import Derived.Test.YtlimadookjcbmaaGreatDoorRows
import GoSem.ClaimSeven
namespace Go.Proofs.YtlimadookjcbmaaGreatDoor
namespace Rows

/-- THE TIED CARD OF 'bobbinlaw10.RunOn'. -/
def runOnCard : Claim7 := { stood := { row := runOnRow, standIns := [], harness := (true, "3388ea096524dcd1a6d7484dff745b89db538555962411c2f13caf6d34fe5539"), looks := false }, kinds := [], alts := [], laidByText := true, laidKinds := [.data, .widerDeep, .data, .pinned], laidTests := true, laidLooks := .later }
def RunOnCardSaid : Prop := Claim7.holds Tryz.pinned (.plain (OpenSpec.ofChange runOnSpec)) runOnCard

/-- THE TIED CARD OF 'bobbinlaw10.RunFirst'. -/
def runFirstCard : Claim7 := { stood := { row := runFirstRow, standIns := [], harness := (true, "3388ea096524dcd1a6d7484dff745b89db538555962411c2f13caf6d34fe5539"), looks := false }, kinds := [], alts := [], laidByText := true, laidKinds := [.data, .widerDeep, .data, .pinned], laidTests := true, laidLooks := .later }
def RunFirstCardSaid : Prop := Claim7.holds Tryz.pinned (.plain (OpenSpec.ofChange runFirstSpec)) runFirstCard

/-- THE TIED CARD OF 'bobbinlaw10.RunRows'. -/
def runRowsCard : Claim7 := { stood := { row := runRowsRow, standIns := [], harness := (true, "3388ea096524dcd1a6d7484dff745b89db538555962411c2f13caf6d34fe5539"), looks := false }, kinds := [], alts := [], laidByText := true, laidKinds := [.data, .widerDeep, .data, .pinned], laidTests := true, laidLooks := .later }
def RunRowsCardSaid : Prop := Claim7.holds Tryz.pinned (.plain (OpenSpec.ofChange runRowsSpec)) runRowsCard

/-- THE TIED CARD OF 'bobbinlaw10.RunRaces'. -/
def runRacesCard : Claim7 := { stood := { row := runRacesRow, standIns := [], harness := (true, "3388ea096524dcd1a6d7484dff745b89db538555962411c2f13caf6d34fe5539"), looks := false }, kinds := [], alts := [], laidByText := true, laidKinds := [.data, .widerDeep, .data, .pinned], laidTests := true, laidLooks := .later }
def RunRacesCardSaid : Prop := Claim7.holds Tryz.pinned (.plain (OpenSpec.ofChange runRacesSpec)) runRacesCard

/-- THE SECOND FORM's CARD OF 'bobbinlaw10.RunOn'. -/
def runOnUptoCard : Claim7 := { stood := { row := runOnUptoRow, standIns := [], harness := (true, "3388ea096524dcd1a6d7484dff745b89db538555962411c2f13caf6d34fe5539"), looks := false }, kinds := [], alts := [], laidByText := true, laidKinds := [.data, .widerDeep, .data, .pinned], laidTests := true, laidLooks := .later }
def RunOnUptoCardSaid : Prop := Claim7.holds Tryz.pinned (.plain (OpenSpec.upto runOnSpec)) runOnUptoCard

/-- THE SECOND FORM's CARD OF 'bobbinlaw10.RunFirst'. -/
def runFirstUptoCard : Claim7 := { stood := { row := runFirstUptoRow, standIns := [], harness := (true, "3388ea096524dcd1a6d7484dff745b89db538555962411c2f13caf6d34fe5539"), looks := false }, kinds := [], alts := [], laidByText := true, laidKinds := [.data, .widerDeep, .data, .pinned], laidTests := true, laidLooks := .later }
def RunFirstUptoCardSaid : Prop := Claim7.holds Tryz.pinned (.plain (OpenSpec.upto runFirstSpec)) runFirstUptoCard

/-- THE SECOND FORM's CARD OF 'bobbinlaw10.RunRows'. -/
def runRowsUptoCard : Claim7 := { stood := { row := runRowsUptoRow, standIns := [], harness := (true, "3388ea096524dcd1a6d7484dff745b89db538555962411c2f13caf6d34fe5539"), looks := false }, kinds := [], alts := [], laidByText := true, laidKinds := [.data, .widerDeep, .data, .pinned], laidTests := true, laidLooks := .later }
def RunRowsUptoCardSaid : Prop := Claim7.holds Tryz.pinned (.plain (OpenSpec.upto runRowsSpec)) runRowsUptoCard

/-- THE SECOND FORM's CARD OF 'bobbinlaw10.RunRaces'. -/
def runRacesUptoCard : Claim7 := { stood := { row := runRacesUptoRow, standIns := [], harness := (true, "3388ea096524dcd1a6d7484dff745b89db538555962411c2f13caf6d34fe5539"), looks := false }, kinds := [], alts := [], laidByText := true, laidKinds := [.data, .widerDeep, .data, .pinned], laidTests := true, laidLooks := .later }
def RunRacesUptoCardSaid : Prop := Claim7.holds Tryz.pinned (.plain (OpenSpec.upto runRacesSpec)) runRacesUptoCard
end Rows
end Go.Proofs.YtlimadookjcbmaaGreatDoor
