/-
  No cell of these rows narrows 'for every input' (looked for: loops, veiled, ifaces, maps, wideKeys, modest, calm, conditions, laid).
  DERIVED. THE GIVEN ROWS OF THIS SEAT. 6 by the template 'for every input the law returns true; each argument reads behind the call as it read before'; 0 by the template 'total and deterministic' (their statements: YtamalelonhdfaaaTotals.lean).
  GIVEN WITH THE SEED: the statements are not yours to turn. If you find one false, say at which input.
  Laid BY PROGRAM, IN A SANDBOX (cutbox-rows.mjs): the forced cells as the released guide's own fill.sh prints them over the translation 1aa9ad6f72eab24f… (all of the seat's roots in one cut). By AI agents, Wed Nov 11 2026. No macro, syntax, notation, axiom, sorry.
-/
import Derived.Test.YtamalelonhdfaaaChecked
import GoSem.Claim
import GoSem.ClaimJoined
import GoSem.ClaimMapViews
import Derived.JoinedTies
import Derived.KernelRfl
namespace Go.Proofs.Ytamalelonhdfaaa
/- THE CELL 'sum', in the pinned program and in every row, IS THE sha256 OF THE DUMP (.gsa) THAT YtamalelonhdfaaaProg.lean LOADS. Nothing in Lean hashes anything: it is a label: what it is worth is what the hold of that sum in a sandbox is worth. -/
noncomputable def Try.pinned : Pinned := { name := "ytamalelonhdfaaa", sum := "1aa9ad6f72eab24ff99b97b159c7dd92a3e3cb2d096e7ad8e11c3059071a917a", checked := Try.checked }
namespace Rows
def none {H : Type} : Left H := { results := [], args := [] }

/-- 'avowallaw11.MatchTerms': WHATEVER THE INPUT: true; the input reads as it did. -/
def matchTermsSpec : ChangeSpec := { name := "matchTerms", fn := fun _ => fun
  | [d1, d2, d3] => { results := [.lit (.bool true)], args := [d1, d2, d3] }
  | _ => none }
def matchTermsRow : OpenClaim := { program := "ytamalelonhdfaaa", sum := "1aa9ad6f72eab24ff99b97b159c7dd92a3e3cb2d096e7ad8e11c3059071a917a", func := "avowal/avowallaw11.MatchTerms", spec := "matchTerms", unfollowed := true, recurses := true, apart := false }
def MatchTermsSaid : Prop := matchTermsRow.holds Try.pinned (OpenSpec.ofChange matchTermsSpec)

/-- ITS FALSE NEIGHBOUR: 'it returns false'. Refute it at one input. -/
def matchTermsWrong : ChangeSpec := { name := "matchTerms", fn := fun _ => fun
  | [d1, d2, d3] => { results := [.lit (.bool false)], args := [d1, d2, d3] }
  | _ => none }
def MatchTermsWrongFalsely : Prop := matchTermsRow.holds Try.pinned (OpenSpec.ofChange matchTermsWrong)

/-- 'avowallaw11.MatchLiterals': WHATEVER THE INPUT: true; the input reads as it did. -/
def matchLiteralsSpec : ChangeSpec := { name := "matchLiterals", fn := fun _ => fun
  | [d1, d2, d3] => { results := [.lit (.bool true)], args := [d1, d2, d3] }
  | _ => none }
def matchLiteralsRow : OpenClaim := { program := "ytamalelonhdfaaa", sum := "1aa9ad6f72eab24ff99b97b159c7dd92a3e3cb2d096e7ad8e11c3059071a917a", func := "avowal/avowallaw11.MatchLiterals", spec := "matchLiterals", unfollowed := true, recurses := true, apart := false }
def MatchLiteralsSaid : Prop := matchLiteralsRow.holds Try.pinned (OpenSpec.ofChange matchLiteralsSpec)

/-- ITS FALSE NEIGHBOUR: 'it returns false'. Refute it at one input. -/
def matchLiteralsWrong : ChangeSpec := { name := "matchLiterals", fn := fun _ => fun
  | [d1, d2, d3] => { results := [.lit (.bool false)], args := [d1, d2, d3] }
  | _ => none }
def MatchLiteralsWrongFalsely : Prop := matchLiteralsRow.holds Try.pinned (OpenSpec.ofChange matchLiteralsWrong)

/-- 'avowallaw11.MatchGrows': WHATEVER THE INPUT: true; the input reads as it did. -/
def matchGrowsSpec : ChangeSpec := { name := "matchGrows", fn := fun _ => fun
  | [d1, d2, d3] => { results := [.lit (.bool true)], args := [d1, d2, d3] }
  | _ => none }
def matchGrowsRow : OpenClaim := { program := "ytamalelonhdfaaa", sum := "1aa9ad6f72eab24ff99b97b159c7dd92a3e3cb2d096e7ad8e11c3059071a917a", func := "avowal/avowallaw11.MatchGrows", spec := "matchGrows", unfollowed := true, recurses := true, apart := false }
def MatchGrowsSaid : Prop := matchGrowsRow.holds Try.pinned (OpenSpec.ofChange matchGrowsSpec)

/-- ITS FALSE NEIGHBOUR: 'it returns false'. Refute it at one input. -/
def matchGrowsWrong : ChangeSpec := { name := "matchGrows", fn := fun _ => fun
  | [d1, d2, d3] => { results := [.lit (.bool false)], args := [d1, d2, d3] }
  | _ => none }
def MatchGrowsWrongFalsely : Prop := matchGrowsRow.holds Try.pinned (OpenSpec.ofChange matchGrowsWrong)

/-- 'avowallaw11.MatchHeads': WHATEVER THE INPUT: true; the input reads as it did. -/
def matchHeadsSpec : ChangeSpec := { name := "matchHeads", fn := fun _ => fun
  | [d1, d2] => { results := [.lit (.bool true)], args := [d1, d2] }
  | _ => none }
def matchHeadsRow : OpenClaim := { program := "ytamalelonhdfaaa", sum := "1aa9ad6f72eab24ff99b97b159c7dd92a3e3cb2d096e7ad8e11c3059071a917a", func := "avowal/avowallaw11.MatchHeads", spec := "matchHeads", unfollowed := true, recurses := true, apart := false }
def MatchHeadsSaid : Prop := matchHeadsRow.holds Try.pinned (OpenSpec.ofChange matchHeadsSpec)

/-- ITS FALSE NEIGHBOUR: 'it returns false'. Refute it at one input. -/
def matchHeadsWrong : ChangeSpec := { name := "matchHeads", fn := fun _ => fun
  | [d1, d2] => { results := [.lit (.bool false)], args := [d1, d2] }
  | _ => none }
def MatchHeadsWrongFalsely : Prop := matchHeadsRow.holds Try.pinned (OpenSpec.ofChange matchHeadsWrong)

/-- 'avowallaw11.MatchFollows': WHATEVER THE INPUT: true; the input reads as it did. -/
def matchFollowsSpec : ChangeSpec := { name := "matchFollows", fn := fun _ => fun
  | [d1, d2] => { results := [.lit (.bool true)], args := [d1, d2] }
  | _ => none }
def matchFollowsRow : OpenClaim := { program := "ytamalelonhdfaaa", sum := "1aa9ad6f72eab24ff99b97b159c7dd92a3e3cb2d096e7ad8e11c3059071a917a", func := "avowal/avowallaw11.MatchFollows", spec := "matchFollows", unfollowed := true, recurses := true, apart := false }
def MatchFollowsSaid : Prop := matchFollowsRow.holds Try.pinned (OpenSpec.ofChange matchFollowsSpec)

/-- ITS FALSE NEIGHBOUR: 'it returns false'. Refute it at one input. -/
def matchFollowsWrong : ChangeSpec := { name := "matchFollows", fn := fun _ => fun
  | [d1, d2] => { results := [.lit (.bool false)], args := [d1, d2] }
  | _ => none }
def MatchFollowsWrongFalsely : Prop := matchFollowsRow.holds Try.pinned (OpenSpec.ofChange matchFollowsWrong)

/-- 'avowallaw11.MatchInstances': WHATEVER THE INPUT: true; the input reads as it did. -/
def matchInstancesSpec : ChangeSpec := { name := "matchInstances", fn := fun _ => fun
  | [d1, d2, d3] => { results := [.lit (.bool true)], args := [d1, d2, d3] }
  | _ => none }
def matchInstancesRow : OpenClaim := { program := "ytamalelonhdfaaa", sum := "1aa9ad6f72eab24ff99b97b159c7dd92a3e3cb2d096e7ad8e11c3059071a917a", func := "avowal/avowallaw11.MatchInstances", spec := "matchInstances", unfollowed := true, recurses := true, apart := false }
def MatchInstancesSaid : Prop := matchInstancesRow.holds Try.pinned (OpenSpec.ofChange matchInstancesSpec)

/-- ITS FALSE NEIGHBOUR: 'it returns false'. Refute it at one input. -/
def matchInstancesWrong : ChangeSpec := { name := "matchInstances", fn := fun _ => fun
  | [d1, d2, d3] => { results := [.lit (.bool false)], args := [d1, d2, d3] }
  | _ => none }
def MatchInstancesWrongFalsely : Prop := matchInstancesRow.holds Try.pinned (OpenSpec.ofChange matchInstancesWrong)

/- THE SECOND FORM. 'bulk': how many values and letters a reading holds, each counted each time it is reached (what is shared counts as often as it is met; a slice's spare places count too). A statement '..UptoSaid' is the law's where the arguments, and the package variables that the reading takes, are together of bulk at most 1048576: NARROWER than '..Said'. Prove '..Said' where nothing that the law and all that it calls make is longer than what came in: it says more and counts as full. Else prove '..UptoSaid'. A law counts once. -/
mutual
def uptoBulk {H : Type} : DataW H → Nat
  | .lit (.string bytes) => bytes.length + 1
  | .lit _ => 1
  | .nil => 1
  | .ptr d => uptoBulk d + 1
  | .slice elems spare => uptoBulkAll elems + uptoBulkAll spare + 1
  | .agg parts => uptoBulkAll parts + 1
  | .iface _ d => uptoBulk d + 1
  | .map entries => uptoBulkEntries entries + 1
  | .held _ => 1
def uptoBulkAll {H : Type} : List (DataW H) → Nat
  | [] => 0
  | d :: r => uptoBulk d + uptoBulkAll r
def uptoBulkEntries {H : Type} : List (Lit × DataW H) → Nat
  | [] => 0
  | x :: r => uptoBulkEntry x + uptoBulkEntries r
def uptoBulkEntry {H : Type} : Lit × DataW H → Nat
  | (.string bytes, d) => bytes.length + uptoBulk d + 1
  | (_, d) => uptoBulk d + 1
 end
def uptoSmall : (H : Type) → List (DataW H) → Bool := fun _ ds => decide (uptoBulkAll ds ≤ 1048576)
def OpenSpec.upto (s : _root_.Go.ChangeSpec) : _root_.Go.OpenSpec := { _root_.Go.OpenSpec.ofChange s with cond := some uptoSmall }

/-- 'avowallaw11.MatchTerms', WHERE WHAT IT READS IS OF BULK AT MOST 1048576: true; the input reads as it did. -/
def matchTermsUptoRow : OpenClaim := { program := "ytamalelonhdfaaa", sum := "1aa9ad6f72eab24ff99b97b159c7dd92a3e3cb2d096e7ad8e11c3059071a917a", func := "avowal/avowallaw11.MatchTerms", spec := "matchTerms", unfollowed := true, recurses := true, apart := false, narrowed := true }
def MatchTermsUptoSaid : Prop := matchTermsUptoRow.holds Try.pinned (OpenSpec.upto matchTermsSpec)

/-- 'avowallaw11.MatchLiterals', WHERE WHAT IT READS IS OF BULK AT MOST 1048576: true; the input reads as it did. -/
def matchLiteralsUptoRow : OpenClaim := { program := "ytamalelonhdfaaa", sum := "1aa9ad6f72eab24ff99b97b159c7dd92a3e3cb2d096e7ad8e11c3059071a917a", func := "avowal/avowallaw11.MatchLiterals", spec := "matchLiterals", unfollowed := true, recurses := true, apart := false, narrowed := true }
def MatchLiteralsUptoSaid : Prop := matchLiteralsUptoRow.holds Try.pinned (OpenSpec.upto matchLiteralsSpec)

/-- 'avowallaw11.MatchGrows', WHERE WHAT IT READS IS OF BULK AT MOST 1048576: true; the input reads as it did. -/
def matchGrowsUptoRow : OpenClaim := { program := "ytamalelonhdfaaa", sum := "1aa9ad6f72eab24ff99b97b159c7dd92a3e3cb2d096e7ad8e11c3059071a917a", func := "avowal/avowallaw11.MatchGrows", spec := "matchGrows", unfollowed := true, recurses := true, apart := false, narrowed := true }
def MatchGrowsUptoSaid : Prop := matchGrowsUptoRow.holds Try.pinned (OpenSpec.upto matchGrowsSpec)

/-- 'avowallaw11.MatchHeads', WHERE WHAT IT READS IS OF BULK AT MOST 1048576: true; the input reads as it did. -/
def matchHeadsUptoRow : OpenClaim := { program := "ytamalelonhdfaaa", sum := "1aa9ad6f72eab24ff99b97b159c7dd92a3e3cb2d096e7ad8e11c3059071a917a", func := "avowal/avowallaw11.MatchHeads", spec := "matchHeads", unfollowed := true, recurses := true, apart := false, narrowed := true }
def MatchHeadsUptoSaid : Prop := matchHeadsUptoRow.holds Try.pinned (OpenSpec.upto matchHeadsSpec)

/-- 'avowallaw11.MatchFollows', WHERE WHAT IT READS IS OF BULK AT MOST 1048576: true; the input reads as it did. -/
def matchFollowsUptoRow : OpenClaim := { program := "ytamalelonhdfaaa", sum := "1aa9ad6f72eab24ff99b97b159c7dd92a3e3cb2d096e7ad8e11c3059071a917a", func := "avowal/avowallaw11.MatchFollows", spec := "matchFollows", unfollowed := true, recurses := true, apart := false, narrowed := true }
def MatchFollowsUptoSaid : Prop := matchFollowsUptoRow.holds Try.pinned (OpenSpec.upto matchFollowsSpec)

/-- 'avowallaw11.MatchInstances', WHERE WHAT IT READS IS OF BULK AT MOST 1048576: true; the input reads as it did. -/
def matchInstancesUptoRow : OpenClaim := { program := "ytamalelonhdfaaa", sum := "1aa9ad6f72eab24ff99b97b159c7dd92a3e3cb2d096e7ad8e11c3059071a917a", func := "avowal/avowallaw11.MatchInstances", spec := "matchInstances", unfollowed := true, recurses := true, apart := false, narrowed := true }
def MatchInstancesUptoSaid : Prop := matchInstancesUptoRow.holds Try.pinned (OpenSpec.upto matchInstancesSpec)

end Rows
end Go.Proofs.Ytamalelonhdfaaa
