import Derived.Test.YtlpnccpagikioaaGreatDoorZ38
set_option linter.unusedVariables false
set_option linter.unusedSimpArgs false
set_option linter.unusedSectionVars false
namespace Go.Den
open Go.Proofs
set_option linter.unusedVariables false
theorem bigN_2 : 2000000 < bigN := by unfold bigN reachBytes; omega
theorem obs {α β : Type} (a : α) (f : α → Option β) : obind (some a) f = f a := rfl
end Go.Den
