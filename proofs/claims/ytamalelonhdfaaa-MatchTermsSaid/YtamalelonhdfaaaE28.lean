import Derived.Test.YtamalelonhdfaaaDen23
import Derived.Test.YtamalelonhdfaaaS11
import Derived.Test.YtamalelonhdfaaaProg
import Derived.KernelRfl
namespace Go.Den
open Go.Proofs
set_option maxRecDepth 100000
def lv28 : Live := [(2, [0, 1, 7, 8], [1000, 1001, 1002, 1003])]
noncomputable def Φ28 (n : Nat) : Orc := with_ Try.prog Spec.none [(29, [], [])] n 1 []

noncomputable def f28_l2 (n : Nat) (nl : Bool) (rows : Rows) (v : ByteArray) (b : Bool) (i : Int) (s : ByteArray) (i0 : Nat) (j0 : Int) : Option Out :=
  loopFn Try.prog (Φ28 n) lv28 n Try.f28 false [[AV.dv (DV.val (Value.string v)), AV.dv (DV.val (Value.bool b)), AV.dv (DV.val (Value.int IntKind.i64 i)), AV.dv (DV.val (Value.string s))]] some 2 [] i0 (St.mk [AV.sl nl [Kd.s, Kd.b, Kd.i IntKind.i64, Kd.s] rows Right.no, AV.fn 29 [AV.pl 1000 0], AV.junk, AV.junk, AV.junk, AV.junk, AV.junk, AV.dv (DV.val (Value.int IntKind.i64 (↑(List.length rows) : Int))), AV.dv (DV.val (Value.int IntKind.i64 j0)), AV.junk, AV.junk, AV.junk, AV.junk, AV.junk, AV.junk, AV.junk, AV.junk, AV.junk, AV.junk] [(1000, [AV.dv (DV.val (Value.string v)), AV.dv (DV.val (Value.bool b)), AV.dv (DV.val (Value.int IntKind.i64 i)), AV.dv (DV.val (Value.string s))])])
theorem f28_s2 (n : Nat) (nl : Bool) (rows : Rows) (v : ByteArray) (b : Bool) (i : Int) (s : ByteArray) (i0 : Nat) (j0 : Int) : f28_l2 n nl rows v b i s (i0 + 1) j0 =
  bif decide (j0 < (↑(List.length rows) : Int)) then
    if 0 ≤ j0 then
      if j0 < (↑(List.length rows) : Int) then
        bif Row.S (List.getD rows (Int.toNat j0) []) 0 == v then
          some (Out.mk false (AV.dv (DV.val (Value.int IntKind.i64 j0))) [[AV.dv (DV.val (Value.string v)), AV.dv (DV.val (Value.bool b)), AV.dv (DV.val (Value.int IntKind.i64 i)), AV.dv (DV.val (Value.string s))]])
        else f28_l2 n nl rows v b i s i0 (IntKind.wrap IntKind.i64 (j0 + 1))
      else none
    else none
  else some (Out.mk false (AV.dv (DV.val (Value.int IntKind.i64 (-1)))) [[AV.dv (DV.val (Value.string v)), AV.dv (DV.val (Value.bool b)), AV.dv (DV.val (Value.int IntKind.i64 i)), AV.dv (DV.val (Value.string s))]]) := by kernel_rfl
theorem f28_e (n : Nat) (nl : Bool) (rows : Rows) (v : ByteArray) (b : Bool) (i : Int) (s : ByteArray) : denFn Try.prog (Φ28 n) lv28 n Try.f28 false [AV.sl nl [Kd.s, Kd.b, Kd.i IntKind.i64, Kd.s] rows Right.no, AV.fn 29 [AV.pl 1000 0]] [[AV.dv (DV.val (Value.string v)), AV.dv (DV.val (Value.bool b)), AV.dv (DV.val (Value.int IntKind.i64 i)), AV.dv (DV.val (Value.string s))]] some =
  f28_l2 n nl rows v b i s n (0) := by kernel_rfl

end Go.Den
