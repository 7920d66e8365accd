import Derived.Test.YtamalelonhdfaaaDen23
import Derived.Test.YtamalelonhdfaaaS11
import Derived.Test.YtamalelonhdfaaaProg
import Derived.KernelRfl
namespace Go.Den
open Go.Proofs
set_option maxRecDepth 100000
def lv14 : Live := [(4, [0, 1, 5], [1000, 1001, 1002, 1003])]
noncomputable def Φ14 (n : Nat) : Orc := with_ Try.prog Spec.none [] n 0 []

noncomputable def f14_l4 (n : Nat) (nl0 : Bool) (r0 : Rows) (nl1 : Bool) (r1 : Rows) (i0 : Nat) (j0 : Int) : Option Out :=
  loopFn Try.prog (Φ14 n) lv14 n Try.f14 false [] some 4 [] i0 (St.mk [AV.sl nl0 [Kd.s, Kd.b, Kd.i IntKind.i64, Kd.s] r0 Right.no, AV.sl nl1 [Kd.s, Kd.b, Kd.i IntKind.i64, Kd.s] r1 Right.no, AV.junk, AV.junk, AV.junk, AV.dv (DV.val (Value.int IntKind.i64 j0)), AV.junk, AV.junk, AV.junk, AV.junk, AV.junk, AV.junk, AV.junk, AV.junk, AV.junk, AV.junk, AV.junk, AV.junk, AV.junk, AV.junk, AV.junk, AV.junk, AV.junk, AV.junk, AV.junk, AV.junk] [])
theorem f14_s4 (n : Nat) (nl0 : Bool) (r0 : Rows) (nl1 : Bool) (r1 : Rows) (i0 : Nat) (j0 : Int) : f14_l4 n nl0 r0 nl1 r1 (i0 + 1) j0 =
  bif decide (j0 < (↑(List.length r0) : Int)) then
    if 0 ≤ j0 then
      if j0 < (↑(List.length r0) : Int) then
        if 0 ≤ j0 then
          if j0 < (↑(List.length r1) : Int) then
            bif !(Row.S (List.getD r0 (Int.toNat j0) []) 0 == Row.S (List.getD r1 (Int.toNat j0) []) 0 && (Row.B (List.getD r0 (Int.toNat j0) []) 1 == Row.B (List.getD r1 (Int.toNat j0) []) 1 && (Row.I (List.getD r0 (Int.toNat j0) []) 2 == Row.I (List.getD r1 (Int.toNat j0) []) 2 && (Row.S (List.getD r0 (Int.toNat j0) []) 3 == Row.S (List.getD r1 (Int.toNat j0) []) 3 && true)))) then
              some (Out.mk false (AV.dv (DV.val (Value.bool false))) [])
            else f14_l4 n nl0 r0 nl1 r1 i0 (IntKind.wrap IntKind.i64 (j0 + 1))
          else none
        else none
      else none
    else none
  else some (Out.mk false (AV.dv (DV.val (Value.bool true))) []) := by kernel_rfl
theorem f14_e (n : Nat) (nl0 : Bool) (r0 : Rows) (nl1 : Bool) (r1 : Rows) : denFn Try.prog (Φ14 n) lv14 n Try.f14 false [AV.sl nl0 [Kd.s, Kd.b, Kd.i IntKind.i64, Kd.s] r0 Right.no, AV.sl nl1 [Kd.s, Kd.b, Kd.i IntKind.i64, Kd.s] r1 Right.no] [] some =
  bif (↑(List.length r0) : Int) != (↑(List.length r1) : Int) then
    some (Out.mk false (AV.dv (DV.val (Value.bool false))) [])
  else f14_l4 n nl0 r0 nl1 r1 n (0) := by kernel_rfl

end Go.Den
