import Derived.Test.YtkgiabbndbmmbaaZ14
import Derived.Test.YtkgiabbndbmmbaaZ17
import Derived.Test.YtkgiabbndbmmbaaZ18
set_option linter.unusedVariables false
set_option linter.unusedSimpArgs false
set_option linter.unusedSectionVars false
namespace Go.Den
open Go.Proofs
section
variable {n : Nat} {s0 s1 s2 s5 s6 s7 : ByteArray} {b3 b8 : Bool} {r4 r9 : Rows}
end
end Go.Den
