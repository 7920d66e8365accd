import Derived.Test.YtlpnccpagikioaaGreatDoorZ03
set_option linter.unusedVariables false
set_option linter.unusedSimpArgs false
set_option linter.unusedSectionVars false
namespace Go.Den
@[reducible] def kT : List Kd := [.s, .b, .i .i64, .s]
@[reducible] def kC : List Kd := [.b, .i .i64, .s]
@[reducible] def kL : List Kd := [.s, .b, .i .i64, .s, .s, .sl kT, .s, .b, .i .i64, .s]
@[reducible] def kR : List Kd := [.s, .b, .i .i64, .s, .s, .sl kT, .s, .b, .i .i64, .s, .sl kL]
@[reducible] def kF : List Kd := [.s, .s, .s, .sl kC]
end Go.Den
