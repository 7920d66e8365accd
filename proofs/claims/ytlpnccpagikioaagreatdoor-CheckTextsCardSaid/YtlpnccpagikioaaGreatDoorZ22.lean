import Derived.Test.YtlpnccpagikioaaGreatDoorZ20
import Derived.Test.YtlpnccpagikioaaGreatDoorZ21
set_option linter.unusedVariables false
set_option linter.unusedSimpArgs false
set_option linter.unusedSectionVars false
namespace Go.Den
open Go.Proofs
def bigN : Nat := reachBytes + 20000
theorem bigN_big : 10000 < bigN := by unfold bigN; omega
structure RulesOk (l : Rows) : Prop where
  len : l.length ≤ 300
  ok : ∀ r ∈ l, RuleOk bigN r
  copy : ∀ r ∈ l, CopyOk bigN r
  small : ∀ r ∈ l, Small2 bigN r
end Go.Den
