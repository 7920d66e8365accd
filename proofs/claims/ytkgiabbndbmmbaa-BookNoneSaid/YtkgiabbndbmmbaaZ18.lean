import Derived.Test.YtkgiabbndbmmbaaZ03
set_option linter.unusedVariables false
set_option linter.unusedSimpArgs false
set_option linter.unusedSectionVars false
namespace Go.Den
end Go.Den
