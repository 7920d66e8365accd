import Derived.Test.YtcpbnfnfmfaogaaO1
import Derived.Test.YtcpbnfnfmfaogaaE04a
set_option linter.unusedVariables false
set_option linter.unusedSimpArgs false
set_option linter.unusedSectionVars false
/- The document's order. -/
namespace Go.Den
open Go.Proofs
theorem ref04_texts_q (n : Nat) (a b : ByteArray) : ref04_texts_v n a b = some (texts a b, ()) := by
  rw [ref04_texts_e]
  unfold texts less
  cases Op.bytesLess (ByteArray.toList a) (ByteArray.toList b) with
  | true => rfl
  | false => cases a == b <;> rfl
theorem ref04_Compare_q (n : Nat) (b0 b3 : Bool) (j1 j4 : Int) (s2 s5 : ByteArray) : ref04_Compare_v n b0 j1 s2 b3 j4 s5 = some (cmpC (b0, j1, s2) (b3, j4, s5), ()) := by
  rw [ref04_Compare_e]
  simp only [ref04_texts_q, obind_some]
  unfold cmpC
  cases b0 <;> cases b3 <;> cases decide (j1 < j4) <;> cases decide (j1 > j4) <;> rfl
end Go.Den
