import Derived.Test.YtbdjanjcphgjdaaDoorZ17
set_option linter.unusedVariables false
set_option linter.unusedSimpArgs false
set_option linter.unusedSectionVars false
namespace Go.Den
open Go.Proofs
section
variable {n : Nat} {s0 : ByteArray} {b1 : Bool} {j2 : Int} {s3 s4 : ByteArray} {b5 : Bool} {r6 : Rows} {s7 : ByteArray} {b8 : Bool} {j9 : Int} {s10 : ByteArray} {b11 : Bool} {r12 : Rows}
end
section
variable {n : Nat} {b0 : Bool} {r1 : Rows} (hn : 10000 < n) (hr : ∀ r ∈ r1, RuleOk n r) (hl : r1.length ≤ 16)
include hn hr hl
end
end Go.Den
