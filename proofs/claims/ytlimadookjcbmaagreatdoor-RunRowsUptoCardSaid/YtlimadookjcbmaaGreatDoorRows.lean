/-
  NARROWER THAN 'FOR EVERY INPUT', by the rows' own cells (each row's printed sentence says how): RunOn: laid · RunFirst: laid · RunRows: laid · RunRaces: laid.
  DERIVED. THE GIVEN ROWS OF THIS SEAT. 4 by the template 'for every input the law returns true; each argument reads behind the call as it read before'; 0 by the template 'total and deterministic' (their statements: YtlimadookjcbmaaGreatDoorTotals.lean).
  GIVEN WITH THE SEED: the statements are not yours to turn. If you find one false, say at which input.
  Laid BY PROGRAM, IN A SANDBOX (cutbox-rows.mjs): the forced cells as the released guide's own fill.sh prints them over the translation c8881db248b8131d… (all of the seat's roots in one cut). By AI agents, Wed Nov 11 2026. No macro, syntax, notation, axiom, sorry.
-/
import Derived.Test.YtlimadookjcbmaaGreatDoorChecked
import GoSem.PinnedTables
import GoSem.Claim
import GoSem.ClaimJoined
import GoSem.ClaimMapViews
import Derived.JoinedTies
import Derived.KernelRfl
namespace Go.Proofs.YtlimadookjcbmaaGreatDoor
/- THE CELL 'sum', in the pinned program and in every row, IS THE sha256 OF THE DUMP (.gsa) THAT YtlimadookjcbmaaGreatDoorProg.lean LOADS. Nothing in Lean hashes anything: it is a label: what it is worth is what the hold of that sum in a sandbox is worth. -/
noncomputable def Tryz.pinned : Pinned := { name := "ytlimadookjcbmaagreatdoor", sum := "c8881db248b8131d856dc8b604a2545ba9a470e5de8409f64ef55a4658a4d4df", checked := Tryz.checked }
namespace Rows
def none {H : Type} : Left H := { results := [], args := [] }

/- WHAT THE LISTED PACKAGE-LEVEL VARIABLES READ AS WHEN THE CALL BEGINS. Each datum BY PROGRAM (the guide's laid-datum.mjs) off the statement by which the dump's own 'gosem.cut.vars' lays the variable. In a bare row this is a premise. The card (YtlimadookjcbmaaGreatDoorCards.lean) ties it to the program's text. -/
def laid_unicode_utf8_acceptRanges {H : Type} : DataW H := .agg [.agg [.lit (.int .u8 128), .lit (.int .u8 191)], .agg [.lit (.int .u8 160), .lit (.int .u8 191)], .agg [.lit (.int .u8 128), .lit (.int .u8 159)], .agg [.lit (.int .u8 144), .lit (.int .u8 191)], .agg [.lit (.int .u8 128), .lit (.int .u8 143)], .agg [.lit (.int .u8 0), .lit (.int .u8 0)], .agg [.lit (.int .u8 0), .lit (.int .u8 0)], .agg [.lit (.int .u8 0), .lit (.int .u8 0)], .agg [.lit (.int .u8 0), .lit (.int .u8 0)], .agg [.lit (.int .u8 0), .lit (.int .u8 0)], .agg [.lit (.int .u8 0), .lit (.int .u8 0)], .agg [.lit (.int .u8 0), .lit (.int .u8 0)], .agg [.lit (.int .u8 0), .lit (.int .u8 0)], .agg [.lit (.int .u8 0), .lit (.int .u8 0)], .agg [.lit (.int .u8 0), .lit (.int .u8 0)], .agg [.lit (.int .u8 0), .lit (.int .u8 0)]]
def laid_bobbin_tree_reserved {H : Type} : DataW H := .agg [.lit (.string [103, 108, 111, 98, 97, 108]), .lit (.string [97, 114, 114, 97, 121]), .lit (.string [108, 111, 99, 107]), .lit (.string [102, 117, 110, 99]), .lit (.string [116, 104, 114, 101, 97, 100]), .lit (.string [118, 97, 114]), .lit (.string [105, 102]), .lit (.string [101, 108, 115, 101]), .lit (.string [119, 104, 105, 108, 101]), .lit (.string [119, 105, 116, 104]), .lit (.string [112, 114, 105, 110, 116]), .lit (.string [99, 97, 108, 108]), .lit (.string [114, 101, 116, 117, 114, 110]), .lit (.string [116, 114, 117, 101]), .lit (.string [102, 97, 108, 115, 101])]
def laid_bobbin_code_ops {H : Type} : DataW H := .agg [.agg [.lit (.bool false), .lit (.bool false), .lit (.bool false), .lit (.bool false), .lit (.int .i64 0)], .agg [.lit (.bool true), .lit (.bool false), .lit (.bool false), .lit (.bool false), .lit (.int .i64 1)], .agg [.lit (.bool true), .lit (.bool true), .lit (.bool false), .lit (.bool false), .lit (.int .i64 0)], .agg [.lit (.bool true), .lit (.bool true), .lit (.bool false), .lit (.bool false), .lit (.int .i64 2)], .agg [.lit (.bool true), .lit (.bool true), .lit (.bool true), .lit (.bool false), .lit (.int .i64 3)], .agg [.lit (.bool true), .lit (.bool true), .lit (.bool false), .lit (.bool true), .lit (.int .i64 4)], .agg [.lit (.bool false), .lit (.bool true), .lit (.bool true), .lit (.bool true), .lit (.int .i64 4)], .agg [.lit (.bool false), .lit (.bool false), .lit (.bool false), .lit (.bool false), .lit (.int .i64 5)], .agg [.lit (.bool false), .lit (.bool false), .lit (.bool false), .lit (.bool false), .lit (.int .i64 5)], .agg [.lit (.bool false), .lit (.bool true), .lit (.bool false), .lit (.bool false), .lit (.int .i64 0)], .agg [.lit (.bool true), .lit (.bool false), .lit (.bool false), .lit (.bool false), .lit (.int .i64 6)], .agg [.lit (.bool false), .lit (.bool false), .lit (.bool false), .lit (.bool false), .lit (.int .i64 7)], .agg [.lit (.bool false), .lit (.bool true), .lit (.bool false), .lit (.bool false), .lit (.int .i64 7)], .agg [.lit (.bool false), .lit (.bool true), .lit (.bool false), .lit (.bool false), .lit (.int .i64 0)]]
/-- One of Go's own tables, pinned by name: the form's constant. -/
def laid_unicode_utf8_first : DataW Unit := Go.Pinned.utf8First

/-- 'bobbinlaw10.RunOn': WHATEVER THE INPUT: true; the input reads as it did. -/
def runOnSpec : ChangeSpec := { name := "runOn", fn := fun _ => fun
  | [d1, d2, d3] => { results := [.lit (.bool true)], args := [d1, d2, d3] }
  | _ => none }
def runOnRow : OpenClaim := { program := "ytlimadookjcbmaagreatdoor", sum := "c8881db248b8131d856dc8b604a2545ba9a470e5de8409f64ef55a4658a4d4df", func := "bobbin/bobbinlaw10.RunOn", spec := "runOn", inPlace := ["internal/bytealg.IndexByteString", "internal/bytealg.IndexString"], unfollowed := true, recurses := true, named := ["bobbin/tree.reserved", "unicode/utf8.first", "unicode/utf8.acceptRanges", "bobbin/code.ops", "internal/bytealg.MaxLen"], apart := false, laid := [("unicode/utf8.acceptRanges", laid_unicode_utf8_acceptRanges), ("bobbin/tree.reserved", laid_bobbin_tree_reserved), ("bobbin/code.ops", laid_bobbin_code_ops), ("unicode/utf8.first", laid_unicode_utf8_first)] }
def RunOnSaid : Prop := runOnRow.holds Tryz.pinned (OpenSpec.ofChange runOnSpec)

/-- ITS FALSE NEIGHBOUR: 'it returns false'. Refute it at one input. -/
def runOnWrong : ChangeSpec := { name := "runOn", fn := fun _ => fun
  | [d1, d2, d3] => { results := [.lit (.bool false)], args := [d1, d2, d3] }
  | _ => none }
def RunOnWrongFalsely : Prop := runOnRow.holds Tryz.pinned (OpenSpec.ofChange runOnWrong)

/-- 'bobbinlaw10.RunFirst': WHATEVER THE INPUT: true; the input reads as it did. -/
def runFirstSpec : ChangeSpec := { name := "runFirst", fn := fun _ => fun
  | [d1, d2, d3] => { results := [.lit (.bool true)], args := [d1, d2, d3] }
  | _ => none }
def runFirstRow : OpenClaim := { program := "ytlimadookjcbmaagreatdoor", sum := "c8881db248b8131d856dc8b604a2545ba9a470e5de8409f64ef55a4658a4d4df", func := "bobbin/bobbinlaw10.RunFirst", spec := "runFirst", inPlace := ["internal/bytealg.IndexByteString", "internal/bytealg.IndexString"], unfollowed := true, recurses := true, named := ["bobbin/tree.reserved", "unicode/utf8.first", "unicode/utf8.acceptRanges", "bobbin/code.ops", "internal/bytealg.MaxLen"], apart := false, laid := [("unicode/utf8.acceptRanges", laid_unicode_utf8_acceptRanges), ("bobbin/tree.reserved", laid_bobbin_tree_reserved), ("bobbin/code.ops", laid_bobbin_code_ops), ("unicode/utf8.first", laid_unicode_utf8_first)] }
def RunFirstSaid : Prop := runFirstRow.holds Tryz.pinned (OpenSpec.ofChange runFirstSpec)

/-- ITS FALSE NEIGHBOUR: 'it returns false'. Refute it at one input. -/
def runFirstWrong : ChangeSpec := { name := "runFirst", fn := fun _ => fun
  | [d1, d2, d3] => { results := [.lit (.bool false)], args := [d1, d2, d3] }
  | _ => none }
def RunFirstWrongFalsely : Prop := runFirstRow.holds Tryz.pinned (OpenSpec.ofChange runFirstWrong)

/-- 'bobbinlaw10.RunRows': WHATEVER THE INPUT: true; the input reads as it did. -/
def runRowsSpec : ChangeSpec := { name := "runRows", fn := fun _ => fun
  | [d1, d2, d3] => { results := [.lit (.bool true)], args := [d1, d2, d3] }
  | _ => none }
def runRowsRow : OpenClaim := { program := "ytlimadookjcbmaagreatdoor", sum := "c8881db248b8131d856dc8b604a2545ba9a470e5de8409f64ef55a4658a4d4df", func := "bobbin/bobbinlaw10.RunRows", spec := "runRows", inPlace := ["internal/bytealg.IndexByteString", "internal/bytealg.IndexString"], unfollowed := true, recurses := true, named := ["bobbin/tree.reserved", "unicode/utf8.first", "unicode/utf8.acceptRanges", "bobbin/code.ops", "internal/bytealg.MaxLen"], apart := false, laid := [("unicode/utf8.acceptRanges", laid_unicode_utf8_acceptRanges), ("bobbin/tree.reserved", laid_bobbin_tree_reserved), ("bobbin/code.ops", laid_bobbin_code_ops), ("unicode/utf8.first", laid_unicode_utf8_first)] }
def RunRowsSaid : Prop := runRowsRow.holds Tryz.pinned (OpenSpec.ofChange runRowsSpec)

/-- ITS FALSE NEIGHBOUR: 'it returns false'. Refute it at one input. -/
def runRowsWrong : ChangeSpec := { name := "runRows", fn := fun _ => fun
  | [d1, d2, d3] => { results := [.lit (.bool false)], args := [d1, d2, d3] }
  | _ => none }
def RunRowsWrongFalsely : Prop := runRowsRow.holds Tryz.pinned (OpenSpec.ofChange runRowsWrong)

/-- 'bobbinlaw10.RunRaces': WHATEVER THE INPUT: true; the input reads as it did. -/
def runRacesSpec : ChangeSpec := { name := "runRaces", fn := fun _ => fun
  | [d1, d2] => { results := [.lit (.bool true)], args := [d1, d2] }
  | _ => none }
def runRacesRow : OpenClaim := { program := "ytlimadookjcbmaagreatdoor", sum := "c8881db248b8131d856dc8b604a2545ba9a470e5de8409f64ef55a4658a4d4df", func := "bobbin/bobbinlaw10.RunRaces", spec := "runRaces", inPlace := ["internal/bytealg.IndexByteString", "internal/bytealg.IndexString"], unfollowed := true, recurses := true, named := ["bobbin/tree.reserved", "unicode/utf8.first", "unicode/utf8.acceptRanges", "bobbin/code.ops", "internal/bytealg.MaxLen"], apart := false, laid := [("unicode/utf8.acceptRanges", laid_unicode_utf8_acceptRanges), ("bobbin/tree.reserved", laid_bobbin_tree_reserved), ("bobbin/code.ops", laid_bobbin_code_ops), ("unicode/utf8.first", laid_unicode_utf8_first)] }
def RunRacesSaid : Prop := runRacesRow.holds Tryz.pinned (OpenSpec.ofChange runRacesSpec)

/-- ITS FALSE NEIGHBOUR: 'it returns false'. Refute it at one input. -/
def runRacesWrong : ChangeSpec := { name := "runRaces", fn := fun _ => fun
  | [d1, d2] => { results := [.lit (.bool false)], args := [d1, d2] }
  | _ => none }
def RunRacesWrongFalsely : Prop := runRacesRow.holds Tryz.pinned (OpenSpec.ofChange runRacesWrong)

/- THE SECOND FORM. 'bulk': how many values and letters a reading holds, each counted each time it is reached (what is shared counts as often as it is met; a slice's spare places count too). A statement '..UptoSaid' is the law's where the arguments, and the package variables that the reading takes, are together of bulk at most 1048576: NARROWER than '..Said'. Prove '..Said' where nothing that the law and all that it calls make is longer than what came in: it says more and counts as full. Else prove '..UptoSaid'. A law counts once. -/
mutual
def uptoBulk {H : Type} : DataW H → Nat
  | .lit (.string bytes) => bytes.length + 1
  | .lit _ => 1
  | .nil => 1
  | .ptr d => uptoBulk d + 1
  | .slice elems spare => uptoBulkAll elems + uptoBulkAll spare + 1
  | .agg parts => uptoBulkAll parts + 1
  | .iface _ d => uptoBulk d + 1
  | .map entries => uptoBulkEntries entries + 1
  | .held _ => 1
def uptoBulkAll {H : Type} : List (DataW H) → Nat
  | [] => 0
  | d :: r => uptoBulk d + uptoBulkAll r
def uptoBulkEntries {H : Type} : List (Lit × DataW H) → Nat
  | [] => 0
  | x :: r => uptoBulkEntry x + uptoBulkEntries r
def uptoBulkEntry {H : Type} : Lit × DataW H → Nat
  | (.string bytes, d) => bytes.length + uptoBulk d + 1
  | (_, d) => uptoBulk d + 1
 end
def uptoSmall : (H : Type) → List (DataW H) → Bool := fun _ ds => decide (uptoBulkAll ds ≤ 1048576)
def OpenSpec.upto (s : _root_.Go.ChangeSpec) : _root_.Go.OpenSpec := { _root_.Go.OpenSpec.ofChange s with cond := some uptoSmall }

/-- 'bobbinlaw10.RunOn', WHERE WHAT IT READS IS OF BULK AT MOST 1048576: true; the input reads as it did. -/
def runOnUptoRow : OpenClaim := { program := "ytlimadookjcbmaagreatdoor", sum := "c8881db248b8131d856dc8b604a2545ba9a470e5de8409f64ef55a4658a4d4df", func := "bobbin/bobbinlaw10.RunOn", spec := "runOn", inPlace := ["internal/bytealg.IndexByteString", "internal/bytealg.IndexString"], unfollowed := true, recurses := true, named := ["bobbin/tree.reserved", "unicode/utf8.first", "unicode/utf8.acceptRanges", "bobbin/code.ops", "internal/bytealg.MaxLen"], apart := false, laid := [("unicode/utf8.acceptRanges", laid_unicode_utf8_acceptRanges), ("bobbin/tree.reserved", laid_bobbin_tree_reserved), ("bobbin/code.ops", laid_bobbin_code_ops), ("unicode/utf8.first", laid_unicode_utf8_first)], narrowed := true }
def RunOnUptoSaid : Prop := runOnUptoRow.holds Tryz.pinned (OpenSpec.upto runOnSpec)

/-- 'bobbinlaw10.RunFirst', WHERE WHAT IT READS IS OF BULK AT MOST 1048576: true; the input reads as it did. -/
def runFirstUptoRow : OpenClaim := { program := "ytlimadookjcbmaagreatdoor", sum := "c8881db248b8131d856dc8b604a2545ba9a470e5de8409f64ef55a4658a4d4df", func := "bobbin/bobbinlaw10.RunFirst", spec := "runFirst", inPlace := ["internal/bytealg.IndexByteString", "internal/bytealg.IndexString"], unfollowed := true, recurses := true, named := ["bobbin/tree.reserved", "unicode/utf8.first", "unicode/utf8.acceptRanges", "bobbin/code.ops", "internal/bytealg.MaxLen"], apart := false, laid := [("unicode/utf8.acceptRanges", laid_unicode_utf8_acceptRanges), ("bobbin/tree.reserved", laid_bobbin_tree_reserved), ("bobbin/code.ops", laid_bobbin_code_ops), ("unicode/utf8.first", laid_unicode_utf8_first)], narrowed := true }
def RunFirstUptoSaid : Prop := runFirstUptoRow.holds Tryz.pinned (OpenSpec.upto runFirstSpec)

/-- 'bobbinlaw10.RunRows', WHERE WHAT IT READS IS OF BULK AT MOST 1048576: true; the input reads as it did. -/
def runRowsUptoRow : OpenClaim := { program := "ytlimadookjcbmaagreatdoor", sum := "c8881db248b8131d856dc8b604a2545ba9a470e5de8409f64ef55a4658a4d4df", func := "bobbin/bobbinlaw10.RunRows", spec := "runRows", inPlace := ["internal/bytealg.IndexByteString", "internal/bytealg.IndexString"], unfollowed := true, recurses := true, named := ["bobbin/tree.reserved", "unicode/utf8.first", "unicode/utf8.acceptRanges", "bobbin/code.ops", "internal/bytealg.MaxLen"], apart := false, laid := [("unicode/utf8.acceptRanges", laid_unicode_utf8_acceptRanges), ("bobbin/tree.reserved", laid_bobbin_tree_reserved), ("bobbin/code.ops", laid_bobbin_code_ops), ("unicode/utf8.first", laid_unicode_utf8_first)], narrowed := true }
def RunRowsUptoSaid : Prop := runRowsUptoRow.holds Tryz.pinned (OpenSpec.upto runRowsSpec)

/-- 'bobbinlaw10.RunRaces', WHERE WHAT IT READS IS OF BULK AT MOST 1048576: true; the input reads as it did. -/
def runRacesUptoRow : OpenClaim := { program := "ytlimadookjcbmaagreatdoor", sum := "c8881db248b8131d856dc8b604a2545ba9a470e5de8409f64ef55a4658a4d4df", func := "bobbin/bobbinlaw10.RunRaces", spec := "runRaces", inPlace := ["internal/bytealg.IndexByteString", "internal/bytealg.IndexString"], unfollowed := true, recurses := true, named := ["bobbin/tree.reserved", "unicode/utf8.first", "unicode/utf8.acceptRanges", "bobbin/code.ops", "internal/bytealg.MaxLen"], apart := false, laid := [("unicode/utf8.acceptRanges", laid_unicode_utf8_acceptRanges), ("bobbin/tree.reserved", laid_bobbin_tree_reserved), ("bobbin/code.ops", laid_bobbin_code_ops), ("unicode/utf8.first", laid_unicode_utf8_first)], narrowed := true }
def RunRacesUptoSaid : Prop := runRacesUptoRow.holds Tryz.pinned (OpenSpec.upto runRacesSpec)

end Rows
end Go.Proofs.YtlimadookjcbmaaGreatDoor
