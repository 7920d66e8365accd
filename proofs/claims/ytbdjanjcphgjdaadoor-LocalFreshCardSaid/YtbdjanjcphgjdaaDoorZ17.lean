import Derived.Test.YtbdjanjcphgjdaaDoorZ16
set_option linter.unusedVariables false
set_option linter.unusedSimpArgs false
set_option linter.unusedSectionVars false
namespace Go.Den
open Go.Proofs
section
variable {n : Nat} {s0 : ByteArray} {b1 : Bool} {r2 : Rows}
end
end Go.Den
