import Derived.Test.YtkgiabbndbmmbaaZ27
set_option linter.unusedVariables false
set_option linter.unusedSimpArgs false
set_option linter.unusedSectionVars false
namespace Go.Den
open Go.Proofs
@[reducible] def hd (r : Row) : Row := [DV.val (Value.string (Row.S r 1)), DV.val (Value.string (Row.S r 2)), DV.val (Value.string (Row.S r 3)), DV.sl (Row.N r 4) [Kd.b, Kd.i IntKind.i64, Kd.s] (Row.R r 4)]
section
variable {n : Nat} {b0 : Bool} {most : Int} (hm0 : 0 ≤ most) (hm : most ≤ 1000000)
include hm0 hm
end
section
variable {n : Nat} (hn : 1000 < n)
include hn
end
end Go.Den
