import Derived.Test.YtkgiabbndbmmbaaZ26
set_option linter.unusedVariables false
set_option linter.unusedSimpArgs false
set_option linter.unusedSectionVars false
namespace Go.Den
open Go.Proofs
section
variable {n : Nat} (hn : 1000 < n)
include hn
end
end Go.Den
