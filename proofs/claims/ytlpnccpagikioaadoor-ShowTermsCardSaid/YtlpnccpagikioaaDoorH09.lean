import Derived.Test.YtlpnccpagikioaaDoorE09a
import Derived.Test.YtlpnccpagikioaaDoorDenI
import Derived.Test.YtlpnccpagikioaaDoorSL09
set_option linter.unusedVariables false
set_option linter.unusedSimpArgs false
set_option linter.unusedSectionVars false
/- strconv.Itoa. -/
namespace Go.Den
open Go.Proofs
def strconv_Itoa_v (n : Nat) (j0 : Int) : Option (ByteArray × Unit) :=
  match decide (-9223372036854775808 ≤ j0) && decide (j0 ≤ 9223372036854775807) with
  | true => some (⟨(Go.Lib.itoa j0).toArray⟩, ())
  | false => none
theorem strconv_Itoa_c (n : Nat) (j0 : Int) (y : ByteArray × Unit) (h : strconv_Itoa_v n j0 = some y) : Contract Tryd.prog 35 [AV.dv (DV.val (Value.int IntKind.i64 j0))] [] (OSh.enc (OSh.plain (.s) []) y) := by
  unfold strconv_Itoa_v at h
  split at h
  · rename_i hc
    cases h
    simp only [Bool.and_eq_true, decide_eq_true_eq] at hc
    exact itoa_contract ⟨Tryd.f35, Tryd.func35, by kernel_rfl, by decide⟩ (by kernel_rfl) (by kernel_rfl) j0 (fun w hw => Any.strconv_Itoa itoaLays j0 hc.1 hc.2 w hw)
  · cases h
end Go.Den
