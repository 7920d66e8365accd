/-
  DERIVED. GIVEN WITH THE SEED: THE CARDS: each row of YtbdjanjcphgjdaaGreatDoorRows.lean that lists a variable, with what it lists TIED to the program's text (the seventh form; the later family's looks); each row that meets fmt, with fmt's text TOLD by the authors' own Lean function (tested against real Go, not proved from fmt's source: count such statements apart). THE CARD IS WHAT COUNTS. Prove the row's statement (the work); the ties are given (YtbdjanjcphgjdaaGreatDoorTie.lean); close each card by the builder's one call (the guide's Derived/Test/ToyasCard.lean, 'card_holds'). Laid BY PROGRAM, IN A SANDBOX (cutbox-door.mjs). By AI agents, Wed Nov 11 2026. No macro, syntax, notation, axiom, sorry.
-/
import Derived.Test.YtbdjanjcphgjdaaGreatDoorRows
import GoSem.ClaimSeven
namespace Go.Proofs.YtbdjanjcphgjdaaGreatDoor
namespace Rows

/-- THE TIED CARD OF 'avowallaw13.LocalRewrites'. -/
def localRewritesCard : Claim7 := { stood := { row := localRewritesRow, standIns := [], harness := (true, "e59ed162d452c0d582cb058ef6beaba31f16f1a713e4335b645f1b772750d0db"), looks := true }, kinds := [], alts := [], laidByText := true, laidKinds := [.data, .data, .data], laidTests := true, laidLooks := .later }
def LocalRewritesCardSaid : Prop := Claim7.holds Tryz.pinned (.plain (OpenSpec.ofChange localRewritesSpec)) localRewritesCard

/-- THE TIED CARD OF 'avowallaw13.LocalSame'. -/
def localSameCard : Claim7 := { stood := { row := localSameRow, standIns := [], harness := (true, "e59ed162d452c0d582cb058ef6beaba31f16f1a713e4335b645f1b772750d0db"), looks := true }, kinds := [], alts := [], laidByText := true, laidKinds := [.data, .data, .data], laidTests := true, laidLooks := .later }
def LocalSameCardSaid : Prop := Claim7.holds Tryz.pinned (.plain (OpenSpec.ofChange localSameSpec)) localSameCard

/-- THE SECOND FORM's CARD OF 'avowallaw13.LocalRewrites'. -/
def localRewritesUptoCard : Claim7 := { stood := { row := localRewritesUptoRow, standIns := [], harness := (true, "e59ed162d452c0d582cb058ef6beaba31f16f1a713e4335b645f1b772750d0db"), looks := true }, kinds := [], alts := [], laidByText := true, laidKinds := [.data, .data, .data], laidTests := true, laidLooks := .later }
def LocalRewritesUptoCardSaid : Prop := Claim7.holds Tryz.pinned (.plain (OpenSpec.upto localRewritesSpec)) localRewritesUptoCard

/-- THE SECOND FORM's CARD OF 'avowallaw13.LocalSame'. -/
def localSameUptoCard : Claim7 := { stood := { row := localSameUptoRow, standIns := [], harness := (true, "e59ed162d452c0d582cb058ef6beaba31f16f1a713e4335b645f1b772750d0db"), looks := true }, kinds := [], alts := [], laidByText := true, laidKinds := [.data, .data, .data], laidTests := true, laidLooks := .later }
def LocalSameUptoCardSaid : Prop := Claim7.holds Tryz.pinned (.plain (OpenSpec.upto localSameSpec)) localSameUptoCard
end Rows
end Go.Proofs.YtbdjanjcphgjdaaGreatDoor
