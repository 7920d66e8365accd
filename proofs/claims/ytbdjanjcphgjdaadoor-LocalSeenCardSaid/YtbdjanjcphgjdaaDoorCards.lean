/-
  DERIVED. GIVEN WITH THE SEED: THE CARDS: each row of YtbdjanjcphgjdaaDoorRows.lean that lists a variable, with what it lists TIED to the program's text (the seventh form; the later family's looks); each row that meets fmt, with fmt's text TOLD by the authors' own Lean function (tested against real Go, not proved from fmt's source: count such statements apart). THE CARD IS WHAT COUNTS. Prove the row's statement (the work); the ties are given (YtbdjanjcphgjdaaDoorTie.lean); close each card by the builder's one call (the guide's Derived/Test/ToyasCard.lean, 'card_holds'). Laid BY PROGRAM, IN A SANDBOX (cutbox-door.mjs). By AI agents, Wed Nov 11 2026. No macro, syntax, notation, axiom, sorry.
-/
import Derived.Test.YtbdjanjcphgjdaaDoorRows
import GoSem.ClaimSeven
namespace Go.Proofs.YtbdjanjcphgjdaaDoor
namespace Rows

/-- THE TIED CARD OF 'avowallaw13.LocalSingle'. -/
def localSingleCard : Claim7 := { stood := { row := localSingleRow, standIns := [], harness := (true, "7b0ce176068fbd498a1e57c05df9ef93773bfc34c8aab88d51b894663e2edcb6"), looks := true }, kinds := [], alts := [], laidByText := true, laidKinds := [.data, .data, .data], laidTests := true, laidLooks := .later }
def LocalSingleCardSaid : Prop := Claim7.holds Tryd.pinned (.plain (OpenSpec.ofChange localSingleSpec)) localSingleCard

/-- THE TIED CARD OF 'avowallaw13.LocalFresh'. -/
def localFreshCard : Claim7 := { stood := { row := localFreshRow, standIns := [], harness := (true, "7b0ce176068fbd498a1e57c05df9ef93773bfc34c8aab88d51b894663e2edcb6"), looks := true }, kinds := [], alts := [], laidByText := true, laidKinds := [.data, .data, .data], laidTests := true, laidLooks := .later }
def LocalFreshCardSaid : Prop := Claim7.holds Tryd.pinned (.plain (OpenSpec.ofChange localFreshSpec)) localFreshCard

/-- THE TIED CARD OF 'avowallaw13.LocalPlain'. -/
def localPlainCard : Claim7 := { stood := { row := localPlainRow, standIns := [], harness := (true, "7b0ce176068fbd498a1e57c05df9ef93773bfc34c8aab88d51b894663e2edcb6"), looks := true }, kinds := [], alts := [], laidByText := true, laidKinds := [.data, .data, .data], laidTests := true, laidLooks := .later }
def LocalPlainCardSaid : Prop := Claim7.holds Tryd.pinned (.plain (OpenSpec.ofChange localPlainSpec)) localPlainCard

/-- THE TIED CARD OF 'avowallaw13.LocalSeen'. -/
def localSeenCard : Claim7 := { stood := { row := localSeenRow, standIns := [], harness := (true, "7b0ce176068fbd498a1e57c05df9ef93773bfc34c8aab88d51b894663e2edcb6"), looks := true }, kinds := [], alts := [], laidByText := true, laidKinds := [.data, .data, .data], laidTests := true, laidLooks := .later }
def LocalSeenCardSaid : Prop := Claim7.holds Tryd.pinned (.plain (OpenSpec.ofChange localSeenSpec)) localSeenCard

/-- THE SECOND FORM's CARD OF 'avowallaw13.LocalSingle'. -/
def localSingleUptoCard : Claim7 := { stood := { row := localSingleUptoRow, standIns := [], harness := (true, "7b0ce176068fbd498a1e57c05df9ef93773bfc34c8aab88d51b894663e2edcb6"), looks := true }, kinds := [], alts := [], laidByText := true, laidKinds := [.data, .data, .data], laidTests := true, laidLooks := .later }
def LocalSingleUptoCardSaid : Prop := Claim7.holds Tryd.pinned (.plain (OpenSpec.upto localSingleSpec)) localSingleUptoCard

/-- THE SECOND FORM's CARD OF 'avowallaw13.LocalFresh'. -/
def localFreshUptoCard : Claim7 := { stood := { row := localFreshUptoRow, standIns := [], harness := (true, "7b0ce176068fbd498a1e57c05df9ef93773bfc34c8aab88d51b894663e2edcb6"), looks := true }, kinds := [], alts := [], laidByText := true, laidKinds := [.data, .data, .data], laidTests := true, laidLooks := .later }
def LocalFreshUptoCardSaid : Prop := Claim7.holds Tryd.pinned (.plain (OpenSpec.upto localFreshSpec)) localFreshUptoCard

/-- THE SECOND FORM's CARD OF 'avowallaw13.LocalPlain'. -/
def localPlainUptoCard : Claim7 := { stood := { row := localPlainUptoRow, standIns := [], harness := (true, "7b0ce176068fbd498a1e57c05df9ef93773bfc34c8aab88d51b894663e2edcb6"), looks := true }, kinds := [], alts := [], laidByText := true, laidKinds := [.data, .data, .data], laidTests := true, laidLooks := .later }
def LocalPlainUptoCardSaid : Prop := Claim7.holds Tryd.pinned (.plain (OpenSpec.upto localPlainSpec)) localPlainUptoCard

/-- THE SECOND FORM's CARD OF 'avowallaw13.LocalSeen'. -/
def localSeenUptoCard : Claim7 := { stood := { row := localSeenUptoRow, standIns := [], harness := (true, "7b0ce176068fbd498a1e57c05df9ef93773bfc34c8aab88d51b894663e2edcb6"), looks := true }, kinds := [], alts := [], laidByText := true, laidKinds := [.data, .data, .data], laidTests := true, laidLooks := .later }
def LocalSeenUptoCardSaid : Prop := Claim7.holds Tryd.pinned (.plain (OpenSpec.upto localSeenSpec)) localSeenUptoCard
end Rows
end Go.Proofs.YtbdjanjcphgjdaaDoor
