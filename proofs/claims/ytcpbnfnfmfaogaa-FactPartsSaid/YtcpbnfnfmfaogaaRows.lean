/-
  No cell of these rows narrows 'for every input' (looked for: loops, veiled, ifaces, maps, wideKeys, modest, calm, conditions, laid).
  DERIVED. THE GIVEN ROWS OF THIS SEAT. 12 by the template 'for every input the law returns true; each argument reads behind the call as it read before'; 0 by the template 'total and deterministic' (their statements: YtcpbnfnfmfaogaaTotals.lean).
  GIVEN WITH THE SEED: the statements are not yours to turn. If you find one false, say at which input.
  Laid BY PROGRAM, IN A SANDBOX (cutbox-rows.mjs): the forced cells as the released guide's own fill.sh prints them over the translation 81d798ae16817262… (all of the seat's roots in one cut). By AI agents, Wed Nov 11 2026. No macro, syntax, notation, axiom, sorry.
-/
import Derived.Test.YtcpbnfnfmfaogaaChecked
import GoSem.Claim
import GoSem.ClaimJoined
import GoSem.ClaimMapViews
import Derived.JoinedTies
import Derived.KernelRfl
namespace Go.Proofs.Ytcpbnfnfmfaogaa
/- THE CELL 'sum', in the pinned program and in every row, IS THE sha256 OF THE DUMP (.gsa) THAT YtcpbnfnfmfaogaaProg.lean LOADS. Nothing in Lean hashes anything: it is a label: what it is worth is what the hold of that sum in a sandbox is worth. -/
noncomputable def Try.pinned : Pinned := { name := "ytcpbnfnfmfaogaa", sum := "81d798ae16817262dbc8e4b895a1cf1d8c55cffe5eddbb64ec9df87450d93433", checked := Try.checked }
namespace Rows
def none {H : Type} : Left H := { results := [], args := [] }

/-- 'avowallaw04.FactCompares': WHATEVER THE INPUT: true; the input reads as it did. -/
def factComparesSpec : ChangeSpec := { name := "factCompares", fn := fun _ => fun
  | [d1, d2] => { results := [.lit (.bool true)], args := [d1, d2] }
  | _ => none }
def factComparesRow : OpenClaim := { program := "ytcpbnfnfmfaogaa", sum := "81d798ae16817262dbc8e4b895a1cf1d8c55cffe5eddbb64ec9df87450d93433", func := "avowal/avowallaw04.FactCompares", spec := "factCompares", unfollowed := true, recurses := true, apart := false }
def FactComparesSaid : Prop := factComparesRow.holds Try.pinned (OpenSpec.ofChange factComparesSpec)

/-- ITS FALSE NEIGHBOUR: 'it returns false'. Refute it at one input. -/
def factComparesWrong : ChangeSpec := { name := "factCompares", fn := fun _ => fun
  | [d1, d2] => { results := [.lit (.bool false)], args := [d1, d2] }
  | _ => none }
def FactComparesWrongFalsely : Prop := factComparesRow.holds Try.pinned (OpenSpec.ofChange factComparesWrong)

/-- 'avowallaw04.FactOrders': WHATEVER THE INPUT: true; the input reads as it did. -/
def factOrdersSpec : ChangeSpec := { name := "factOrders", fn := fun _ => fun
  | [d1, d2, d3] => { results := [.lit (.bool true)], args := [d1, d2, d3] }
  | _ => none }
def factOrdersRow : OpenClaim := { program := "ytcpbnfnfmfaogaa", sum := "81d798ae16817262dbc8e4b895a1cf1d8c55cffe5eddbb64ec9df87450d93433", func := "avowal/avowallaw04.FactOrders", spec := "factOrders", unfollowed := true, recurses := true, apart := false }
def FactOrdersSaid : Prop := factOrdersRow.holds Try.pinned (OpenSpec.ofChange factOrdersSpec)

/-- ITS FALSE NEIGHBOUR: 'it returns false'. Refute it at one input. -/
def factOrdersWrong : ChangeSpec := { name := "factOrders", fn := fun _ => fun
  | [d1, d2, d3] => { results := [.lit (.bool false)], args := [d1, d2, d3] }
  | _ => none }
def FactOrdersWrongFalsely : Prop := factOrdersRow.holds Try.pinned (OpenSpec.ofChange factOrdersWrong)

/-- 'avowallaw04.FactSorts': WHATEVER THE INPUT: true; the input reads as it did. -/
def factSortsSpec : ChangeSpec := { name := "factSorts", fn := fun _ => fun
  | [d] => { results := [.lit (.bool true)], args := [d] }
  | _ => none }
def factSortsRow : OpenClaim := { program := "ytcpbnfnfmfaogaa", sum := "81d798ae16817262dbc8e4b895a1cf1d8c55cffe5eddbb64ec9df87450d93433", func := "avowal/avowallaw04.FactSorts", spec := "factSorts", unfollowed := true, recurses := true, apart := false }
def FactSortsSaid : Prop := factSortsRow.holds Try.pinned (OpenSpec.ofChange factSortsSpec)

/-- ITS FALSE NEIGHBOUR: 'it returns false'. Refute it at one input. -/
def factSortsWrong : ChangeSpec := { name := "factSorts", fn := fun _ => fun
  | [d] => { results := [.lit (.bool false)], args := [d] }
  | _ => none }
def FactSortsWrongFalsely : Prop := factSortsRow.holds Try.pinned (OpenSpec.ofChange factSortsWrong)

/-- 'avowallaw04.FactOwns': WHATEVER THE INPUT: true; the input reads as it did. -/
def factOwnsSpec : ChangeSpec := { name := "factOwns", fn := fun _ => fun
  | [d1, d2, d3] => { results := [.lit (.bool true)], args := [d1, d2, d3] }
  | _ => none }
def factOwnsRow : OpenClaim := { program := "ytcpbnfnfmfaogaa", sum := "81d798ae16817262dbc8e4b895a1cf1d8c55cffe5eddbb64ec9df87450d93433", func := "avowal/avowallaw04.FactOwns", spec := "factOwns", unfollowed := true, recurses := true, apart := false }
def FactOwnsSaid : Prop := factOwnsRow.holds Try.pinned (OpenSpec.ofChange factOwnsSpec)

/-- ITS FALSE NEIGHBOUR: 'it returns false'. Refute it at one input. -/
def factOwnsWrong : ChangeSpec := { name := "factOwns", fn := fun _ => fun
  | [d1, d2, d3] => { results := [.lit (.bool false)], args := [d1, d2, d3] }
  | _ => none }
def FactOwnsWrongFalsely : Prop := factOwnsRow.holds Try.pinned (OpenSpec.ofChange factOwnsWrong)

/-- 'avowallaw04.FactChecks': WHATEVER THE INPUT: true; the input reads as it did. -/
def factChecksSpec : ChangeSpec := { name := "factChecks", fn := fun _ => fun
  | [d1, d2] => { results := [.lit (.bool true)], args := [d1, d2] }
  | _ => none }
def factChecksRow : OpenClaim := { program := "ytcpbnfnfmfaogaa", sum := "81d798ae16817262dbc8e4b895a1cf1d8c55cffe5eddbb64ec9df87450d93433", func := "avowal/avowallaw04.FactChecks", spec := "factChecks", unfollowed := true, recurses := true, apart := false }
def FactChecksSaid : Prop := factChecksRow.holds Try.pinned (OpenSpec.ofChange factChecksSpec)

/-- ITS FALSE NEIGHBOUR: 'it returns false'. Refute it at one input. -/
def factChecksWrong : ChangeSpec := { name := "factChecks", fn := fun _ => fun
  | [d1, d2] => { results := [.lit (.bool false)], args := [d1, d2] }
  | _ => none }
def FactChecksWrongFalsely : Prop := factChecksRow.holds Try.pinned (OpenSpec.ofChange factChecksWrong)

/-- 'avowallaw04.FactSets': WHATEVER THE INPUT: true; the input reads as it did. -/
def factSetsSpec : ChangeSpec := { name := "factSets", fn := fun _ => fun
  | [d1, d2, d3] => { results := [.lit (.bool true)], args := [d1, d2, d3] }
  | _ => none }
def factSetsRow : OpenClaim := { program := "ytcpbnfnfmfaogaa", sum := "81d798ae16817262dbc8e4b895a1cf1d8c55cffe5eddbb64ec9df87450d93433", func := "avowal/avowallaw04.FactSets", spec := "factSets", unfollowed := true, recurses := true, apart := false }
def FactSetsSaid : Prop := factSetsRow.holds Try.pinned (OpenSpec.ofChange factSetsSpec)

/-- ITS FALSE NEIGHBOUR: 'it returns false'. Refute it at one input. -/
def factSetsWrong : ChangeSpec := { name := "factSets", fn := fun _ => fun
  | [d1, d2, d3] => { results := [.lit (.bool false)], args := [d1, d2, d3] }
  | _ => none }
def FactSetsWrongFalsely : Prop := factSetsRow.holds Try.pinned (OpenSpec.ofChange factSetsWrong)

/-- 'avowallaw04.FactParts': WHATEVER THE INPUT: true; the input reads as it did. -/
def factPartsSpec : ChangeSpec := { name := "factParts", fn := fun _ => fun
  | [d1, d2] => { results := [.lit (.bool true)], args := [d1, d2] }
  | _ => none }
def factPartsRow : OpenClaim := { program := "ytcpbnfnfmfaogaa", sum := "81d798ae16817262dbc8e4b895a1cf1d8c55cffe5eddbb64ec9df87450d93433", func := "avowal/avowallaw04.FactParts", spec := "factParts", unfollowed := true, recurses := true, apart := false }
def FactPartsSaid : Prop := factPartsRow.holds Try.pinned (OpenSpec.ofChange factPartsSpec)

/-- ITS FALSE NEIGHBOUR: 'it returns false'. Refute it at one input. -/
def factPartsWrong : ChangeSpec := { name := "factParts", fn := fun _ => fun
  | [d1, d2] => { results := [.lit (.bool false)], args := [d1, d2] }
  | _ => none }
def FactPartsWrongFalsely : Prop := factPartsRow.holds Try.pinned (OpenSpec.ofChange factPartsWrong)

/-- 'avowallaw16.BookFounds': WHATEVER THE INPUT: true; the input reads as it did. -/
def bookFoundsSpec : ChangeSpec := { name := "bookFounds", fn := fun _ => fun
  | [d1, d2] => { results := [.lit (.bool true)], args := [d1, d2] }
  | _ => none }
def bookFoundsRow : OpenClaim := { program := "ytcpbnfnfmfaogaa", sum := "81d798ae16817262dbc8e4b895a1cf1d8c55cffe5eddbb64ec9df87450d93433", func := "avowal/avowallaw16.BookFounds", spec := "bookFounds", inPlace := ["slices.overlaps[avowal/api.Deriv]", "slices.overlaps[avowal/api.Fact]"], unfollowed := true, recurses := true, apart := false }
def BookFoundsSaid : Prop := bookFoundsRow.holds Try.pinned (OpenSpec.ofChange bookFoundsSpec)

/-- ITS FALSE NEIGHBOUR: 'it returns false'. Refute it at one input. -/
def bookFoundsWrong : ChangeSpec := { name := "bookFounds", fn := fun _ => fun
  | [d1, d2] => { results := [.lit (.bool false)], args := [d1, d2] }
  | _ => none }
def BookFoundsWrongFalsely : Prop := bookFoundsRow.holds Try.pinned (OpenSpec.ofChange bookFoundsWrong)

/-- 'avowallaw16.BookFirm': WHATEVER THE INPUT: true; the input reads as it did. -/
def bookFirmSpec : ChangeSpec := { name := "bookFirm", fn := fun _ => fun
  | [d1, d2, d3] => { results := [.lit (.bool true)], args := [d1, d2, d3] }
  | _ => none }
def bookFirmRow : OpenClaim := { program := "ytcpbnfnfmfaogaa", sum := "81d798ae16817262dbc8e4b895a1cf1d8c55cffe5eddbb64ec9df87450d93433", func := "avowal/avowallaw16.BookFirm", spec := "bookFirm", inPlace := ["slices.overlaps[avowal/api.Deriv]", "slices.overlaps[avowal/api.Fact]"], unfollowed := true, recurses := true, apart := false }
def BookFirmSaid : Prop := bookFirmRow.holds Try.pinned (OpenSpec.ofChange bookFirmSpec)

/-- ITS FALSE NEIGHBOUR: 'it returns false'. Refute it at one input. -/
def bookFirmWrong : ChangeSpec := { name := "bookFirm", fn := fun _ => fun
  | [d1, d2, d3] => { results := [.lit (.bool false)], args := [d1, d2, d3] }
  | _ => none }
def BookFirmWrongFalsely : Prop := bookFirmRow.holds Try.pinned (OpenSpec.ofChange bookFirmWrong)

/-- 'avowallaw16.BookBoth': WHATEVER THE INPUT: true; the input reads as it did. -/
def bookBothSpec : ChangeSpec := { name := "bookBoth", fn := fun _ => fun
  | [d] => { results := [.lit (.bool true)], args := [d] }
  | _ => none }
def bookBothRow : OpenClaim := { program := "ytcpbnfnfmfaogaa", sum := "81d798ae16817262dbc8e4b895a1cf1d8c55cffe5eddbb64ec9df87450d93433", func := "avowal/avowallaw16.BookBoth", spec := "bookBoth", inPlace := ["slices.overlaps[avowal/api.Deriv]", "slices.overlaps[avowal/api.Fact]"], unfollowed := true, recurses := true, apart := false }
def BookBothSaid : Prop := bookBothRow.holds Try.pinned (OpenSpec.ofChange bookBothSpec)

/-- ITS FALSE NEIGHBOUR: 'it returns false'. Refute it at one input. -/
def bookBothWrong : ChangeSpec := { name := "bookBoth", fn := fun _ => fun
  | [d] => { results := [.lit (.bool false)], args := [d] }
  | _ => none }
def BookBothWrongFalsely : Prop := bookBothRow.holds Try.pinned (OpenSpec.ofChange bookBothWrong)

/-- 'avowallaw16.BookDoes': WHATEVER THE INPUT: true; the input reads as it did. -/
def bookDoesSpec : ChangeSpec := { name := "bookDoes", fn := fun _ => fun
  | [d1, d2] => { results := [.lit (.bool true)], args := [d1, d2] }
  | _ => none }
def bookDoesRow : OpenClaim := { program := "ytcpbnfnfmfaogaa", sum := "81d798ae16817262dbc8e4b895a1cf1d8c55cffe5eddbb64ec9df87450d93433", func := "avowal/avowallaw16.BookDoes", spec := "bookDoes", inPlace := ["slices.overlaps[avowal/api.Deriv]", "slices.overlaps[avowal/api.Fact]"], unfollowed := true, recurses := true, apart := false }
def BookDoesSaid : Prop := bookDoesRow.holds Try.pinned (OpenSpec.ofChange bookDoesSpec)

/-- ITS FALSE NEIGHBOUR: 'it returns false'. Refute it at one input. -/
def bookDoesWrong : ChangeSpec := { name := "bookDoes", fn := fun _ => fun
  | [d1, d2] => { results := [.lit (.bool false)], args := [d1, d2] }
  | _ => none }
def BookDoesWrongFalsely : Prop := bookDoesRow.holds Try.pinned (OpenSpec.ofChange bookDoesWrong)

/-- 'avowallaw16.BookNone': WHATEVER THE INPUT: true; the input reads as it did. -/
def bookNoneSpec : ChangeSpec := { name := "bookNone", fn := fun _ => fun
  | [d1, d2] => { results := [.lit (.bool true)], args := [d1, d2] }
  | _ => none }
def bookNoneRow : OpenClaim := { program := "ytcpbnfnfmfaogaa", sum := "81d798ae16817262dbc8e4b895a1cf1d8c55cffe5eddbb64ec9df87450d93433", func := "avowal/avowallaw16.BookNone", spec := "bookNone", inPlace := ["slices.overlaps[avowal/api.Deriv]", "slices.overlaps[avowal/api.Fact]"], unfollowed := true, recurses := true, apart := false }
def BookNoneSaid : Prop := bookNoneRow.holds Try.pinned (OpenSpec.ofChange bookNoneSpec)

/-- ITS FALSE NEIGHBOUR: 'it returns false'. Refute it at one input. -/
def bookNoneWrong : ChangeSpec := { name := "bookNone", fn := fun _ => fun
  | [d1, d2] => { results := [.lit (.bool false)], args := [d1, d2] }
  | _ => none }
def BookNoneWrongFalsely : Prop := bookNoneRow.holds Try.pinned (OpenSpec.ofChange bookNoneWrong)

/- THE SECOND FORM. 'bulk': how many values and letters a reading holds, each counted each time it is reached (what is shared counts as often as it is met; a slice's spare places count too). A statement '..UptoSaid' is the law's where the arguments, and the package variables that the reading takes, are together of bulk at most 1048576: NARROWER than '..Said'. Prove '..Said' where nothing that the law and all that it calls make is longer than what came in: it says more and counts as full. Else prove '..UptoSaid'. A law counts once. -/
mutual
def uptoBulk {H : Type} : DataW H → Nat
  | .lit (.string bytes) => bytes.length + 1
  | .lit _ => 1
  | .nil => 1
  | .ptr d => uptoBulk d + 1
  | .slice elems spare => uptoBulkAll elems + uptoBulkAll spare + 1
  | .agg parts => uptoBulkAll parts + 1
  | .iface _ d => uptoBulk d + 1
  | .map entries => uptoBulkEntries entries + 1
  | .held _ => 1
def uptoBulkAll {H : Type} : List (DataW H) → Nat
  | [] => 0
  | d :: r => uptoBulk d + uptoBulkAll r
def uptoBulkEntries {H : Type} : List (Lit × DataW H) → Nat
  | [] => 0
  | x :: r => uptoBulkEntry x + uptoBulkEntries r
def uptoBulkEntry {H : Type} : Lit × DataW H → Nat
  | (.string bytes, d) => bytes.length + uptoBulk d + 1
  | (_, d) => uptoBulk d + 1
 end
def uptoSmall : (H : Type) → List (DataW H) → Bool := fun _ ds => decide (uptoBulkAll ds ≤ 1048576)
def OpenSpec.upto (s : _root_.Go.ChangeSpec) : _root_.Go.OpenSpec := { _root_.Go.OpenSpec.ofChange s with cond := some uptoSmall }

/-- 'avowallaw04.FactCompares', WHERE WHAT IT READS IS OF BULK AT MOST 1048576: true; the input reads as it did. -/
def factComparesUptoRow : OpenClaim := { program := "ytcpbnfnfmfaogaa", sum := "81d798ae16817262dbc8e4b895a1cf1d8c55cffe5eddbb64ec9df87450d93433", func := "avowal/avowallaw04.FactCompares", spec := "factCompares", unfollowed := true, recurses := true, apart := false, narrowed := true }
def FactComparesUptoSaid : Prop := factComparesUptoRow.holds Try.pinned (OpenSpec.upto factComparesSpec)

/-- 'avowallaw04.FactOrders', WHERE WHAT IT READS IS OF BULK AT MOST 1048576: true; the input reads as it did. -/
def factOrdersUptoRow : OpenClaim := { program := "ytcpbnfnfmfaogaa", sum := "81d798ae16817262dbc8e4b895a1cf1d8c55cffe5eddbb64ec9df87450d93433", func := "avowal/avowallaw04.FactOrders", spec := "factOrders", unfollowed := true, recurses := true, apart := false, narrowed := true }
def FactOrdersUptoSaid : Prop := factOrdersUptoRow.holds Try.pinned (OpenSpec.upto factOrdersSpec)

/-- 'avowallaw04.FactSorts', WHERE WHAT IT READS IS OF BULK AT MOST 1048576: true; the input reads as it did. -/
def factSortsUptoRow : OpenClaim := { program := "ytcpbnfnfmfaogaa", sum := "81d798ae16817262dbc8e4b895a1cf1d8c55cffe5eddbb64ec9df87450d93433", func := "avowal/avowallaw04.FactSorts", spec := "factSorts", unfollowed := true, recurses := true, apart := false, narrowed := true }
def FactSortsUptoSaid : Prop := factSortsUptoRow.holds Try.pinned (OpenSpec.upto factSortsSpec)

/-- 'avowallaw04.FactOwns', WHERE WHAT IT READS IS OF BULK AT MOST 1048576: true; the input reads as it did. -/
def factOwnsUptoRow : OpenClaim := { program := "ytcpbnfnfmfaogaa", sum := "81d798ae16817262dbc8e4b895a1cf1d8c55cffe5eddbb64ec9df87450d93433", func := "avowal/avowallaw04.FactOwns", spec := "factOwns", unfollowed := true, recurses := true, apart := false, narrowed := true }
def FactOwnsUptoSaid : Prop := factOwnsUptoRow.holds Try.pinned (OpenSpec.upto factOwnsSpec)

/-- 'avowallaw04.FactChecks', WHERE WHAT IT READS IS OF BULK AT MOST 1048576: true; the input reads as it did. -/
def factChecksUptoRow : OpenClaim := { program := "ytcpbnfnfmfaogaa", sum := "81d798ae16817262dbc8e4b895a1cf1d8c55cffe5eddbb64ec9df87450d93433", func := "avowal/avowallaw04.FactChecks", spec := "factChecks", unfollowed := true, recurses := true, apart := false, narrowed := true }
def FactChecksUptoSaid : Prop := factChecksUptoRow.holds Try.pinned (OpenSpec.upto factChecksSpec)

/-- 'avowallaw04.FactSets', WHERE WHAT IT READS IS OF BULK AT MOST 1048576: true; the input reads as it did. -/
def factSetsUptoRow : OpenClaim := { program := "ytcpbnfnfmfaogaa", sum := "81d798ae16817262dbc8e4b895a1cf1d8c55cffe5eddbb64ec9df87450d93433", func := "avowal/avowallaw04.FactSets", spec := "factSets", unfollowed := true, recurses := true, apart := false, narrowed := true }
def FactSetsUptoSaid : Prop := factSetsUptoRow.holds Try.pinned (OpenSpec.upto factSetsSpec)

/-- 'avowallaw04.FactParts', WHERE WHAT IT READS IS OF BULK AT MOST 1048576: true; the input reads as it did. -/
def factPartsUptoRow : OpenClaim := { program := "ytcpbnfnfmfaogaa", sum := "81d798ae16817262dbc8e4b895a1cf1d8c55cffe5eddbb64ec9df87450d93433", func := "avowal/avowallaw04.FactParts", spec := "factParts", unfollowed := true, recurses := true, apart := false, narrowed := true }
def FactPartsUptoSaid : Prop := factPartsUptoRow.holds Try.pinned (OpenSpec.upto factPartsSpec)

/-- 'avowallaw16.BookFounds', WHERE WHAT IT READS IS OF BULK AT MOST 1048576: true; the input reads as it did. -/
def bookFoundsUptoRow : OpenClaim := { program := "ytcpbnfnfmfaogaa", sum := "81d798ae16817262dbc8e4b895a1cf1d8c55cffe5eddbb64ec9df87450d93433", func := "avowal/avowallaw16.BookFounds", spec := "bookFounds", inPlace := ["slices.overlaps[avowal/api.Deriv]", "slices.overlaps[avowal/api.Fact]"], unfollowed := true, recurses := true, apart := false, narrowed := true }
def BookFoundsUptoSaid : Prop := bookFoundsUptoRow.holds Try.pinned (OpenSpec.upto bookFoundsSpec)

/-- 'avowallaw16.BookFirm', WHERE WHAT IT READS IS OF BULK AT MOST 1048576: true; the input reads as it did. -/
def bookFirmUptoRow : OpenClaim := { program := "ytcpbnfnfmfaogaa", sum := "81d798ae16817262dbc8e4b895a1cf1d8c55cffe5eddbb64ec9df87450d93433", func := "avowal/avowallaw16.BookFirm", spec := "bookFirm", inPlace := ["slices.overlaps[avowal/api.Deriv]", "slices.overlaps[avowal/api.Fact]"], unfollowed := true, recurses := true, apart := false, narrowed := true }
def BookFirmUptoSaid : Prop := bookFirmUptoRow.holds Try.pinned (OpenSpec.upto bookFirmSpec)

/-- 'avowallaw16.BookBoth', WHERE WHAT IT READS IS OF BULK AT MOST 1048576: true; the input reads as it did. -/
def bookBothUptoRow : OpenClaim := { program := "ytcpbnfnfmfaogaa", sum := "81d798ae16817262dbc8e4b895a1cf1d8c55cffe5eddbb64ec9df87450d93433", func := "avowal/avowallaw16.BookBoth", spec := "bookBoth", inPlace := ["slices.overlaps[avowal/api.Deriv]", "slices.overlaps[avowal/api.Fact]"], unfollowed := true, recurses := true, apart := false, narrowed := true }
def BookBothUptoSaid : Prop := bookBothUptoRow.holds Try.pinned (OpenSpec.upto bookBothSpec)

/-- 'avowallaw16.BookDoes', WHERE WHAT IT READS IS OF BULK AT MOST 1048576: true; the input reads as it did. -/
def bookDoesUptoRow : OpenClaim := { program := "ytcpbnfnfmfaogaa", sum := "81d798ae16817262dbc8e4b895a1cf1d8c55cffe5eddbb64ec9df87450d93433", func := "avowal/avowallaw16.BookDoes", spec := "bookDoes", inPlace := ["slices.overlaps[avowal/api.Deriv]", "slices.overlaps[avowal/api.Fact]"], unfollowed := true, recurses := true, apart := false, narrowed := true }
def BookDoesUptoSaid : Prop := bookDoesUptoRow.holds Try.pinned (OpenSpec.upto bookDoesSpec)

/-- 'avowallaw16.BookNone', WHERE WHAT IT READS IS OF BULK AT MOST 1048576: true; the input reads as it did. -/
def bookNoneUptoRow : OpenClaim := { program := "ytcpbnfnfmfaogaa", sum := "81d798ae16817262dbc8e4b895a1cf1d8c55cffe5eddbb64ec9df87450d93433", func := "avowal/avowallaw16.BookNone", spec := "bookNone", inPlace := ["slices.overlaps[avowal/api.Deriv]", "slices.overlaps[avowal/api.Fact]"], unfollowed := true, recurses := true, apart := false, narrowed := true }
def BookNoneUptoSaid : Prop := bookNoneUptoRow.holds Try.pinned (OpenSpec.upto bookNoneSpec)

end Rows
end Go.Proofs.Ytcpbnfnfmfaogaa
