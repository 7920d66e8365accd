/-
  No cell of these rows narrows 'for every input' (looked for: loops, veiled, ifaces, maps, wideKeys, modest, calm, conditions, laid).
  DERIVED. THE GIVEN ROWS OF THIS SEAT. 5 by the template 'for every input the law returns true; each argument reads behind the call as it read before'; 0 by the template 'total and deterministic' (their statements: YtkgiabbndbmmbaaTotals.lean).
  GIVEN WITH THE SEED: the statements are not yours to turn. If you find one false, say at which input.
  Laid BY PROGRAM, IN A SANDBOX (cutbox-rows.mjs): the forced cells as the released guide's own fill.sh prints them over the translation 012e85abedb48556… (all of the seat's roots in one cut). By AI agents, Wed Nov 11 2026. No macro, syntax, notation, axiom, sorry.
-/
import Derived.Test.YtkgiabbndbmmbaaChecked
import GoSem.Claim
import GoSem.ClaimJoined
import GoSem.ClaimMapViews
import Derived.JoinedTies
import Derived.KernelRfl
namespace Go.Proofs.Ytkgiabbndbmmbaa
/- THE CELL 'sum', in the pinned program and in every row, IS THE sha256 OF THE DUMP (.gsa) THAT YtkgiabbndbmmbaaProg.lean LOADS. Nothing in Lean hashes anything: it is a label: what it is worth is what the hold of that sum in a sandbox is worth. -/
noncomputable def Try.pinned : Pinned := { name := "ytkgiabbndbmmbaa", sum := "012e85abedb4855634a6bf042b93c54d0dc9b3d95fd710aded8f1b8ba1755754", checked := Try.checked }
namespace Rows
def none {H : Type} : Left H := { results := [], args := [] }

/-- 'avowallaw16.BookFounds': WHATEVER THE INPUT: true; the input reads as it did. -/
def bookFoundsSpec : ChangeSpec := { name := "bookFounds", fn := fun _ => fun
  | [d1, d2] => { results := [.lit (.bool true)], args := [d1, d2] }
  | _ => none }
def bookFoundsRow : OpenClaim := { program := "ytkgiabbndbmmbaa", sum := "012e85abedb4855634a6bf042b93c54d0dc9b3d95fd710aded8f1b8ba1755754", func := "avowal/avowallaw16.BookFounds", spec := "bookFounds", inPlace := ["slices.overlaps[avowal/api.Deriv]", "slices.overlaps[avowal/api.Fact]"], unfollowed := true, recurses := true, apart := false }
def BookFoundsSaid : Prop := bookFoundsRow.holds Try.pinned (OpenSpec.ofChange bookFoundsSpec)

/-- ITS FALSE NEIGHBOUR: 'it returns false'. Refute it at one input. -/
def bookFoundsWrong : ChangeSpec := { name := "bookFounds", fn := fun _ => fun
  | [d1, d2] => { results := [.lit (.bool false)], args := [d1, d2] }
  | _ => none }
def BookFoundsWrongFalsely : Prop := bookFoundsRow.holds Try.pinned (OpenSpec.ofChange bookFoundsWrong)

/-- 'avowallaw16.BookFirm': WHATEVER THE INPUT: true; the input reads as it did. -/
def bookFirmSpec : ChangeSpec := { name := "bookFirm", fn := fun _ => fun
  | [d1, d2, d3] => { results := [.lit (.bool true)], args := [d1, d2, d3] }
  | _ => none }
def bookFirmRow : OpenClaim := { program := "ytkgiabbndbmmbaa", sum := "012e85abedb4855634a6bf042b93c54d0dc9b3d95fd710aded8f1b8ba1755754", func := "avowal/avowallaw16.BookFirm", spec := "bookFirm", inPlace := ["slices.overlaps[avowal/api.Deriv]", "slices.overlaps[avowal/api.Fact]"], unfollowed := true, recurses := true, apart := false }
def BookFirmSaid : Prop := bookFirmRow.holds Try.pinned (OpenSpec.ofChange bookFirmSpec)

/-- ITS FALSE NEIGHBOUR: 'it returns false'. Refute it at one input. -/
def bookFirmWrong : ChangeSpec := { name := "bookFirm", fn := fun _ => fun
  | [d1, d2, d3] => { results := [.lit (.bool false)], args := [d1, d2, d3] }
  | _ => none }
def BookFirmWrongFalsely : Prop := bookFirmRow.holds Try.pinned (OpenSpec.ofChange bookFirmWrong)

/-- 'avowallaw16.BookBoth': WHATEVER THE INPUT: true; the input reads as it did. -/
def bookBothSpec : ChangeSpec := { name := "bookBoth", fn := fun _ => fun
  | [d] => { results := [.lit (.bool true)], args := [d] }
  | _ => none }
def bookBothRow : OpenClaim := { program := "ytkgiabbndbmmbaa", sum := "012e85abedb4855634a6bf042b93c54d0dc9b3d95fd710aded8f1b8ba1755754", func := "avowal/avowallaw16.BookBoth", spec := "bookBoth", inPlace := ["slices.overlaps[avowal/api.Deriv]", "slices.overlaps[avowal/api.Fact]"], unfollowed := true, recurses := true, apart := false }
def BookBothSaid : Prop := bookBothRow.holds Try.pinned (OpenSpec.ofChange bookBothSpec)

/-- ITS FALSE NEIGHBOUR: 'it returns false'. Refute it at one input. -/
def bookBothWrong : ChangeSpec := { name := "bookBoth", fn := fun _ => fun
  | [d] => { results := [.lit (.bool false)], args := [d] }
  | _ => none }
def BookBothWrongFalsely : Prop := bookBothRow.holds Try.pinned (OpenSpec.ofChange bookBothWrong)

/-- 'avowallaw16.BookDoes': WHATEVER THE INPUT: true; the input reads as it did. -/
def bookDoesSpec : ChangeSpec := { name := "bookDoes", fn := fun _ => fun
  | [d1, d2] => { results := [.lit (.bool true)], args := [d1, d2] }
  | _ => none }
def bookDoesRow : OpenClaim := { program := "ytkgiabbndbmmbaa", sum := "012e85abedb4855634a6bf042b93c54d0dc9b3d95fd710aded8f1b8ba1755754", func := "avowal/avowallaw16.BookDoes", spec := "bookDoes", inPlace := ["slices.overlaps[avowal/api.Deriv]", "slices.overlaps[avowal/api.Fact]"], unfollowed := true, recurses := true, apart := false }
def BookDoesSaid : Prop := bookDoesRow.holds Try.pinned (OpenSpec.ofChange bookDoesSpec)

/-- ITS FALSE NEIGHBOUR: 'it returns false'. Refute it at one input. -/
def bookDoesWrong : ChangeSpec := { name := "bookDoes", fn := fun _ => fun
  | [d1, d2] => { results := [.lit (.bool false)], args := [d1, d2] }
  | _ => none }
def BookDoesWrongFalsely : Prop := bookDoesRow.holds Try.pinned (OpenSpec.ofChange bookDoesWrong)

/-- 'avowallaw16.BookNone': WHATEVER THE INPUT: true; the input reads as it did. -/
def bookNoneSpec : ChangeSpec := { name := "bookNone", fn := fun _ => fun
  | [d1, d2] => { results := [.lit (.bool true)], args := [d1, d2] }
  | _ => none }
def bookNoneRow : OpenClaim := { program := "ytkgiabbndbmmbaa", sum := "012e85abedb4855634a6bf042b93c54d0dc9b3d95fd710aded8f1b8ba1755754", func := "avowal/avowallaw16.BookNone", spec := "bookNone", inPlace := ["slices.overlaps[avowal/api.Deriv]", "slices.overlaps[avowal/api.Fact]"], unfollowed := true, recurses := true, apart := false }
def BookNoneSaid : Prop := bookNoneRow.holds Try.pinned (OpenSpec.ofChange bookNoneSpec)

/-- ITS FALSE NEIGHBOUR: 'it returns false'. Refute it at one input. -/
def bookNoneWrong : ChangeSpec := { name := "bookNone", fn := fun _ => fun
  | [d1, d2] => { results := [.lit (.bool false)], args := [d1, d2] }
  | _ => none }
def BookNoneWrongFalsely : Prop := bookNoneRow.holds Try.pinned (OpenSpec.ofChange bookNoneWrong)

/- THE SECOND FORM. 'bulk': how many values and letters a reading holds, each counted each time it is reached (what is shared counts as often as it is met; a slice's spare places count too). A statement '..UptoSaid' is the law's where the arguments, and the package variables that the reading takes, are together of bulk at most 1048576: NARROWER than '..Said'. Prove '..Said' where nothing that the law and all that it calls make is longer than what came in: it says more and counts as full. Else prove '..UptoSaid'. A law counts once. -/
mutual
def uptoBulk {H : Type} : DataW H → Nat
  | .lit (.string bytes) => bytes.length + 1
  | .lit _ => 1
  | .nil => 1
  | .ptr d => uptoBulk d + 1
  | .slice elems spare => uptoBulkAll elems + uptoBulkAll spare + 1
  | .agg parts => uptoBulkAll parts + 1
  | .iface _ d => uptoBulk d + 1
  | .map entries => uptoBulkEntries entries + 1
  | .held _ => 1
def uptoBulkAll {H : Type} : List (DataW H) → Nat
  | [] => 0
  | d :: r => uptoBulk d + uptoBulkAll r
def uptoBulkEntries {H : Type} : List (Lit × DataW H) → Nat
  | [] => 0
  | x :: r => uptoBulkEntry x + uptoBulkEntries r
def uptoBulkEntry {H : Type} : Lit × DataW H → Nat
  | (.string bytes, d) => bytes.length + uptoBulk d + 1
  | (_, d) => uptoBulk d + 1
 end
def uptoSmall : (H : Type) → List (DataW H) → Bool := fun _ ds => decide (uptoBulkAll ds ≤ 1048576)
def OpenSpec.upto (s : _root_.Go.ChangeSpec) : _root_.Go.OpenSpec := { _root_.Go.OpenSpec.ofChange s with cond := some uptoSmall }

/-- 'avowallaw16.BookFounds', WHERE WHAT IT READS IS OF BULK AT MOST 1048576: true; the input reads as it did. -/
def bookFoundsUptoRow : OpenClaim := { program := "ytkgiabbndbmmbaa", sum := "012e85abedb4855634a6bf042b93c54d0dc9b3d95fd710aded8f1b8ba1755754", func := "avowal/avowallaw16.BookFounds", spec := "bookFounds", inPlace := ["slices.overlaps[avowal/api.Deriv]", "slices.overlaps[avowal/api.Fact]"], unfollowed := true, recurses := true, apart := false, narrowed := true }
def BookFoundsUptoSaid : Prop := bookFoundsUptoRow.holds Try.pinned (OpenSpec.upto bookFoundsSpec)

/-- 'avowallaw16.BookFirm', WHERE WHAT IT READS IS OF BULK AT MOST 1048576: true; the input reads as it did. -/
def bookFirmUptoRow : OpenClaim := { program := "ytkgiabbndbmmbaa", sum := "012e85abedb4855634a6bf042b93c54d0dc9b3d95fd710aded8f1b8ba1755754", func := "avowal/avowallaw16.BookFirm", spec := "bookFirm", inPlace := ["slices.overlaps[avowal/api.Deriv]", "slices.overlaps[avowal/api.Fact]"], unfollowed := true, recurses := true, apart := false, narrowed := true }
def BookFirmUptoSaid : Prop := bookFirmUptoRow.holds Try.pinned (OpenSpec.upto bookFirmSpec)

/-- 'avowallaw16.BookBoth', WHERE WHAT IT READS IS OF BULK AT MOST 1048576: true; the input reads as it did. -/
def bookBothUptoRow : OpenClaim := { program := "ytkgiabbndbmmbaa", sum := "012e85abedb4855634a6bf042b93c54d0dc9b3d95fd710aded8f1b8ba1755754", func := "avowal/avowallaw16.BookBoth", spec := "bookBoth", inPlace := ["slices.overlaps[avowal/api.Deriv]", "slices.overlaps[avowal/api.Fact]"], unfollowed := true, recurses := true, apart := false, narrowed := true }
def BookBothUptoSaid : Prop := bookBothUptoRow.holds Try.pinned (OpenSpec.upto bookBothSpec)

/-- 'avowallaw16.BookDoes', WHERE WHAT IT READS IS OF BULK AT MOST 1048576: true; the input reads as it did. -/
def bookDoesUptoRow : OpenClaim := { program := "ytkgiabbndbmmbaa", sum := "012e85abedb4855634a6bf042b93c54d0dc9b3d95fd710aded8f1b8ba1755754", func := "avowal/avowallaw16.BookDoes", spec := "bookDoes", inPlace := ["slices.overlaps[avowal/api.Deriv]", "slices.overlaps[avowal/api.Fact]"], unfollowed := true, recurses := true, apart := false, narrowed := true }
def BookDoesUptoSaid : Prop := bookDoesUptoRow.holds Try.pinned (OpenSpec.upto bookDoesSpec)

/-- 'avowallaw16.BookNone', WHERE WHAT IT READS IS OF BULK AT MOST 1048576: true; the input reads as it did. -/
def bookNoneUptoRow : OpenClaim := { program := "ytkgiabbndbmmbaa", sum := "012e85abedb4855634a6bf042b93c54d0dc9b3d95fd710aded8f1b8ba1755754", func := "avowal/avowallaw16.BookNone", spec := "bookNone", inPlace := ["slices.overlaps[avowal/api.Deriv]", "slices.overlaps[avowal/api.Fact]"], unfollowed := true, recurses := true, apart := false, narrowed := true }
def BookNoneUptoSaid : Prop := bookNoneUptoRow.holds Try.pinned (OpenSpec.upto bookNoneSpec)

end Rows
end Go.Proofs.Ytkgiabbndbmmbaa
