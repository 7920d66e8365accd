import Derived.Test.YtbdjanjcphgjdaaDoorZ36
set_option linter.unusedVariables false
set_option linter.unusedSimpArgs false
set_option linter.unusedSectionVars false
namespace Go.Den
open Go.Proofs
set_option maxRecDepth 20000
set_option linter.unusedVariables false
def remB (home : Tm) (a : LitD) : Bool := !decide (a.2.2.2 = zeroT) && !decide (a.2.2.2 = home)
theorem remN_cons (home : Tm) (a : LitD) (l : List LitD) : remN home (a :: l) = (bif remB home a then 2 else 0) + remN home l := by
  unfold remB
  rw [remN]
  cases decide (a.2.2.2 = zeroT) <;> cases decide (a.2.2.2 = home) <;> rfl
theorem Remote_q {n : Nat} {r : Row} {j : Nat} (hj : j < (Row.R r 10).length) : ref13_Remote_v n (Row.S r 0) (Row.B r 1) (Row.I r 2) (Row.S r 3) (Row.S r 4) (Row.N r 5) (Row.R r 5) (Row.S r 6) (Row.B r 7) (Row.I r 8) (Row.S r 9) (Row.N r 10) (Row.R r 10) (j : Int) = some (remB (ruleD r).1 (litD (Row.R r 10)[j]), ()) := by
  have h1 : (j : Int) < ((Row.R r 10).length : Int) := by omega
  have hz : (Row.S (Row.R r 10)[j] 6 == ByteArray.mk #[] && (Row.B (Row.R r 10)[j] 7 == false && (Row.I (Row.R r 10)[j] 8 == 0 && (Row.S (Row.R r 10)[j] 9 == ByteArray.mk #[] && true)))) = decide ((litD (Row.R r 10)[j]).2.2.2 = zeroT) := sameT_eq (tmAt (Row.R r 10)[j] 6) zeroT
  have hh : (Row.S (Row.R r 10)[j] 6 == Row.S r 0 && (Row.B (Row.R r 10)[j] 7 == Row.B r 1 && (Row.I (Row.R r 10)[j] 8 == Row.I r 2 && (Row.S (Row.R r 10)[j] 9 == Row.S r 3 && true)))) = decide ((litD (Row.R r 10)[j]).2.2.2 = (ruleD r).1) := sameT_eq (tmAt (Row.R r 10)[j] 6) (tmAt r 0)
  rw [ref13_Remote_e]
  simp only [h1, natj, if_true, Int.toNat_natCast, getD_get hj, hz, hh]
  unfold remB
  cases decide ((litD (Row.R r 10)[j]).2.2.2 = zeroT) <;> rfl
end Go.Den
