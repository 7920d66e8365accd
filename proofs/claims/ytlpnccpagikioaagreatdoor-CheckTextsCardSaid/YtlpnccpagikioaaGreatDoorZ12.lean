import Derived.Test.YtlpnccpagikioaaGreatDoorZ09
set_option linter.unusedVariables false
set_option linter.unusedSimpArgs false
set_option linter.unusedSectionVars false
namespace Go.Den
open Go.Proofs
abbrev Tm := ByteArray × Bool × Int × ByteArray
def tmAt (r : Row) (o : Nat) : Tm := (Row.S r o, Row.B r (o + 1), Row.I r (o + 2), Row.S r (o + 3))
abbrev LitD := Tm × ByteArray × List Tm × Tm
abbrev RuleD := Tm × ByteArray × List Tm × Tm × List LitD
instance decTms : DecidableEq (List Tm × Tm) := inferInstance
instance decLit1 : DecidableEq (ByteArray × List Tm × Tm) := @instDecidableEqProd ByteArray (List Tm × Tm) inferInstance decTms
instance decLit : DecidableEq LitD := @instDecidableEqProd Tm (ByteArray × List Tm × Tm) inferInstance decLit1
instance decLits : DecidableEq (List LitD) := @instDecidableEqList LitD decLit
instance decRule3 : DecidableEq (Tm × List LitD) := @instDecidableEqProd Tm (List LitD) inferInstance decLits
instance decRule2 : DecidableEq (List Tm × Tm × List LitD) := @instDecidableEqProd (List Tm) (Tm × List LitD) inferInstance decRule3
instance decRule1 : DecidableEq (ByteArray × List Tm × Tm × List LitD) := @instDecidableEqProd ByteArray (List Tm × Tm × List LitD) inferInstance decRule2
instance decRule : DecidableEq RuleD := @instDecidableEqProd Tm (ByteArray × List Tm × Tm × List LitD) inferInstance decRule1
instance decRules : DecidableEq (List RuleD) := @instDecidableEqList RuleD decRule
def tms (l : Rows) : List Tm := l.map fun r => tmAt r 0
def litD (l : Row) : LitD := (tmAt l 0, Row.S l 4, tms (Row.R l 5), tmAt l 6)
def ruleD (r : Row) : RuleD := (tmAt r 0, Row.S r 4, tms (Row.R r 5), tmAt r 6, (Row.R r 10).map litD)
theorem tms_len (l : Rows) : (tms l).length = l.length := List.length_map ..
structure Small (n : Nat) (l : Rows) : Prop where
  len : l.length < big ∧ l.length < n
  in_ : ∀ r ∈ l, (Row.R r 5).length < big ∧ (Row.R r 5).length < n
section
variable {n : Nat} {s0 : ByteArray} {b1 : Bool} {j2 : Int} {s3 s4 : ByteArray} {b5 : Bool} {r6 : Rows} {s7 : ByteArray} {b8 : Bool} {j9 : Int} {s10 : ByteArray} {b11 : Bool} {r12 : Rows}
variable {s13 : ByteArray} {b14 : Bool} {j15 : Int} {s16 s17 : ByteArray} {b18 : Bool} {r19 : Rows} {s20 : ByteArray} {b21 : Bool} {j22 : Int} {s23 : ByteArray} {b24 : Bool} {r25 : Rows}
end
structure Small2 (n : Nat) (r : Row) : Prop where
  a : (Row.R r 5).length < big ∧ (Row.R r 5).length < n
  b : Small n (Row.R r 10)
end Go.Den
