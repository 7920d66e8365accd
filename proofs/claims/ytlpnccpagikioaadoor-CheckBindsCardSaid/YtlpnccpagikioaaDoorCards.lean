/-
  DERIVED. GIVEN WITH THE SEED: THE CARDS: each row of YtlpnccpagikioaaDoorRows.lean that lists a variable, with what it lists TIED to the program's text (the seventh form; the later family's looks); each row that meets fmt, with fmt's text TOLD by the authors' own Lean function (tested against real Go, not proved from fmt's source: count such statements apart). THE CARD IS WHAT COUNTS. Prove the row's statement (the work); the ties are given (YtlpnccpagikioaaDoorTie.lean); close each card by the builder's one call (the guide's Derived/Test/ToyasCard.lean, 'card_holds'). Laid BY PROGRAM, IN A SANDBOX (cutbox-door.mjs). By AI agents, Wed Nov 11 2026. No macro, syntax, notation, axiom, sorry.
-/
import Derived.Test.YtlpnccpagikioaaDoorRows
import GoSem.ClaimSeven
namespace Go.Proofs.YtlpnccpagikioaaDoor
namespace Rows

/-- THE TIED CARD OF 'avowallaw09.ShowTerms'. -/
def showTermsCard : Claim7 := { stood := { row := showTermsRow, standIns := [], harness := (true, "f952174a73a2350e8ca471c6dc90b4bf5810e390e6b385c6378f1dc1b0e6c72e"), looks := true }, kinds := [], alts := [], laidByText := true, laidKinds := [.data, .data, .data], laidTests := true, laidLooks := .later }
def ShowTermsCardSaid : Prop := Claim7.holds Tryd.pinned (.plain (OpenSpec.ofChange showTermsSpec)) showTermsCard

/-- THE TIED CARD OF 'avowallaw09.ShowApart'. -/
def showApartCard : Claim7 := { stood := { row := showApartRow, standIns := [], harness := (true, "f952174a73a2350e8ca471c6dc90b4bf5810e390e6b385c6378f1dc1b0e6c72e"), looks := true }, kinds := [], alts := [], laidByText := true, laidKinds := [.data, .data, .data], laidTests := true, laidLooks := .later }
def ShowApartCardSaid : Prop := Claim7.holds Tryd.pinned (.plain (OpenSpec.ofChange showApartSpec)) showApartCard

/-- THE TIED CARD OF 'avowallaw09.ShowRules'. -/
def showRulesCard : Claim7 := { stood := { row := showRulesRow, standIns := [], harness := (true, "f952174a73a2350e8ca471c6dc90b4bf5810e390e6b385c6378f1dc1b0e6c72e"), looks := true }, kinds := [], alts := [], laidByText := true, laidKinds := [.data, .data, .data], laidTests := true, laidLooks := .later }
def ShowRulesCardSaid : Prop := Claim7.holds Tryd.pinned (.plain (OpenSpec.ofChange showRulesSpec)) showRulesCard

/-- THE TIED CARD OF 'avowallaw09.ShowBack'. -/
def showBackCard : Claim7 := { stood := { row := showBackRow, standIns := [], harness := (true, "f952174a73a2350e8ca471c6dc90b4bf5810e390e6b385c6378f1dc1b0e6c72e"), looks := true }, kinds := [], alts := [], laidByText := true, laidKinds := [.data, .data, .data], laidTests := true, laidLooks := .later }
def ShowBackCardSaid : Prop := Claim7.holds Tryd.pinned (.plain (OpenSpec.ofChange showBackSpec)) showBackCard

/-- THE TIED CARD OF 'avowallaw09.ShowAgain'. -/
def showAgainCard : Claim7 := { stood := { row := showAgainRow, standIns := [], harness := (true, "f952174a73a2350e8ca471c6dc90b4bf5810e390e6b385c6378f1dc1b0e6c72e"), looks := true }, kinds := [], alts := [], laidByText := true, laidKinds := [.data, .data, .data], laidTests := true, laidLooks := .later }
def ShowAgainCardSaid : Prop := Claim7.holds Tryd.pinned (.plain (OpenSpec.ofChange showAgainSpec)) showAgainCard

/-- THE TIED CARD OF 'avowallaw10.CheckVars'. -/
def checkVarsCard : Claim7 := { stood := { row := checkVarsRow, standIns := [], harness := (true, "f952174a73a2350e8ca471c6dc90b4bf5810e390e6b385c6378f1dc1b0e6c72e"), looks := true }, kinds := [], alts := [], laidByText := true, laidKinds := [.data, .data, .data], laidTests := true, laidLooks := .later }
def CheckVarsCardSaid : Prop := Claim7.holds Tryd.pinned (.plain (OpenSpec.ofChange checkVarsSpec)) checkVarsCard

/-- THE TIED CARD OF 'avowallaw10.CheckSome'. -/
def checkSomeCard : Claim7 := { stood := { row := checkSomeRow, standIns := [], harness := (true, "f952174a73a2350e8ca471c6dc90b4bf5810e390e6b385c6378f1dc1b0e6c72e"), looks := true }, kinds := [], alts := [], laidByText := true, laidKinds := [.data, .data, .data], laidTests := true, laidLooks := .later }
def CheckSomeCardSaid : Prop := Claim7.holds Tryd.pinned (.plain (OpenSpec.ofChange checkSomeSpec)) checkSomeCard

/-- THE TIED CARD OF 'avowallaw10.CheckRenames'. -/
def checkRenamesCard : Claim7 := { stood := { row := checkRenamesRow, standIns := [], harness := (true, "f952174a73a2350e8ca471c6dc90b4bf5810e390e6b385c6378f1dc1b0e6c72e"), looks := true }, kinds := [], alts := [], laidByText := true, laidKinds := [.data, .data, .data], laidTests := true, laidLooks := .later }
def CheckRenamesCardSaid : Prop := Claim7.holds Tryd.pinned (.plain (OpenSpec.ofChange checkRenamesSpec)) checkRenamesCard

/-- THE TIED CARD OF 'avowallaw10.CheckBinds'. -/
def checkBindsCard : Claim7 := { stood := { row := checkBindsRow, standIns := [], harness := (true, "f952174a73a2350e8ca471c6dc90b4bf5810e390e6b385c6378f1dc1b0e6c72e"), looks := true }, kinds := [], alts := [], laidByText := true, laidKinds := [.data, .data, .data], laidTests := true, laidLooks := .later }
def CheckBindsCardSaid : Prop := Claim7.holds Tryd.pinned (.plain (OpenSpec.ofChange checkBindsSpec)) checkBindsCard

/-- THE SECOND FORM's CARD OF 'avowallaw09.ShowTerms'. -/
def showTermsUptoCard : Claim7 := { stood := { row := showTermsUptoRow, standIns := [], harness := (true, "f952174a73a2350e8ca471c6dc90b4bf5810e390e6b385c6378f1dc1b0e6c72e"), looks := true }, kinds := [], alts := [], laidByText := true, laidKinds := [.data, .data, .data], laidTests := true, laidLooks := .later }
def ShowTermsUptoCardSaid : Prop := Claim7.holds Tryd.pinned (.plain (OpenSpec.upto showTermsSpec)) showTermsUptoCard

/-- THE SECOND FORM's CARD OF 'avowallaw09.ShowApart'. -/
def showApartUptoCard : Claim7 := { stood := { row := showApartUptoRow, standIns := [], harness := (true, "f952174a73a2350e8ca471c6dc90b4bf5810e390e6b385c6378f1dc1b0e6c72e"), looks := true }, kinds := [], alts := [], laidByText := true, laidKinds := [.data, .data, .data], laidTests := true, laidLooks := .later }
def ShowApartUptoCardSaid : Prop := Claim7.holds Tryd.pinned (.plain (OpenSpec.upto showApartSpec)) showApartUptoCard

/-- THE SECOND FORM's CARD OF 'avowallaw09.ShowRules'. -/
def showRulesUptoCard : Claim7 := { stood := { row := showRulesUptoRow, standIns := [], harness := (true, "f952174a73a2350e8ca471c6dc90b4bf5810e390e6b385c6378f1dc1b0e6c72e"), looks := true }, kinds := [], alts := [], laidByText := true, laidKinds := [.data, .data, .data], laidTests := true, laidLooks := .later }
def ShowRulesUptoCardSaid : Prop := Claim7.holds Tryd.pinned (.plain (OpenSpec.upto showRulesSpec)) showRulesUptoCard

/-- THE SECOND FORM's CARD OF 'avowallaw09.ShowBack'. -/
def showBackUptoCard : Claim7 := { stood := { row := showBackUptoRow, standIns := [], harness := (true, "f952174a73a2350e8ca471c6dc90b4bf5810e390e6b385c6378f1dc1b0e6c72e"), looks := true }, kinds := [], alts := [], laidByText := true, laidKinds := [.data, .data, .data], laidTests := true, laidLooks := .later }
def ShowBackUptoCardSaid : Prop := Claim7.holds Tryd.pinned (.plain (OpenSpec.upto showBackSpec)) showBackUptoCard

/-- THE SECOND FORM's CARD OF 'avowallaw09.ShowAgain'. -/
def showAgainUptoCard : Claim7 := { stood := { row := showAgainUptoRow, standIns := [], harness := (true, "f952174a73a2350e8ca471c6dc90b4bf5810e390e6b385c6378f1dc1b0e6c72e"), looks := true }, kinds := [], alts := [], laidByText := true, laidKinds := [.data, .data, .data], laidTests := true, laidLooks := .later }
def ShowAgainUptoCardSaid : Prop := Claim7.holds Tryd.pinned (.plain (OpenSpec.upto showAgainSpec)) showAgainUptoCard

/-- THE SECOND FORM's CARD OF 'avowallaw10.CheckVars'. -/
def checkVarsUptoCard : Claim7 := { stood := { row := checkVarsUptoRow, standIns := [], harness := (true, "f952174a73a2350e8ca471c6dc90b4bf5810e390e6b385c6378f1dc1b0e6c72e"), looks := true }, kinds := [], alts := [], laidByText := true, laidKinds := [.data, .data, .data], laidTests := true, laidLooks := .later }
def CheckVarsUptoCardSaid : Prop := Claim7.holds Tryd.pinned (.plain (OpenSpec.upto checkVarsSpec)) checkVarsUptoCard

/-- THE SECOND FORM's CARD OF 'avowallaw10.CheckSome'. -/
def checkSomeUptoCard : Claim7 := { stood := { row := checkSomeUptoRow, standIns := [], harness := (true, "f952174a73a2350e8ca471c6dc90b4bf5810e390e6b385c6378f1dc1b0e6c72e"), looks := true }, kinds := [], alts := [], laidByText := true, laidKinds := [.data, .data, .data], laidTests := true, laidLooks := .later }
def CheckSomeUptoCardSaid : Prop := Claim7.holds Tryd.pinned (.plain (OpenSpec.upto checkSomeSpec)) checkSomeUptoCard

/-- THE SECOND FORM's CARD OF 'avowallaw10.CheckRenames'. -/
def checkRenamesUptoCard : Claim7 := { stood := { row := checkRenamesUptoRow, standIns := [], harness := (true, "f952174a73a2350e8ca471c6dc90b4bf5810e390e6b385c6378f1dc1b0e6c72e"), looks := true }, kinds := [], alts := [], laidByText := true, laidKinds := [.data, .data, .data], laidTests := true, laidLooks := .later }
def CheckRenamesUptoCardSaid : Prop := Claim7.holds Tryd.pinned (.plain (OpenSpec.upto checkRenamesSpec)) checkRenamesUptoCard

/-- THE SECOND FORM's CARD OF 'avowallaw10.CheckBinds'. -/
def checkBindsUptoCard : Claim7 := { stood := { row := checkBindsUptoRow, standIns := [], harness := (true, "f952174a73a2350e8ca471c6dc90b4bf5810e390e6b385c6378f1dc1b0e6c72e"), looks := true }, kinds := [], alts := [], laidByText := true, laidKinds := [.data, .data, .data], laidTests := true, laidLooks := .later }
def CheckBindsUptoCardSaid : Prop := Claim7.holds Tryd.pinned (.plain (OpenSpec.upto checkBindsSpec)) checkBindsUptoCard
end Rows
end Go.Proofs.YtlpnccpagikioaaDoor
