import Derived.Test.YtamalelonhdfaaaDen23
import Derived.Test.YtamalelonhdfaaaS11
import Derived.Test.YtamalelonhdfaaaProg
import Derived.KernelRfl
namespace Go.Den
open Go.Proofs
set_option maxRecDepth 100000
def lv11 : Live := [(6, [1, 2, 4, 6], [2, 4, 1000, 1001, 1002, 1003])]
noncomputable def Φ10 (n : Nat) : Orc := with_ Try.prog (sp 28 g28 Spec.none) [(30, [], [])] n 1 []

theorem f10_e (n : Nat) (v : ByteArray) (b : Bool) (i : Int) (s : ByteArray) (nl : Bool) (rows : Rows) : denFn Try.prog (Φ10 n) ([] : Live) n Try.f10 false [AV.agg [AV.dv (DV.val (Value.string v)), AV.dv (DV.val (Value.bool b)), AV.dv (DV.val (Value.int IntKind.i64 i)), AV.dv (DV.val (Value.string s))], AV.sl nl [Kd.s, Kd.b, Kd.i IntKind.i64, Kd.s] rows Right.no] [] some =
  bif v == ByteArray.mk #[] && (b == false && (i == 0 && (s == ByteArray.mk #[] && true))) then
    some (Out.mk false (AV.tup [AV.agg [AV.dv (DV.val (Value.bool false)), AV.dv (DV.val (Value.int IntKind.i64 0)), AV.dv (DV.val (Value.string (ByteArray.mk #[])))], AV.dv (DV.val (Value.bool false))]) [])
  else bif v == ByteArray.mk #[] then
    some (Out.mk false (AV.tup [AV.agg [AV.dv (DV.val (Value.bool b)), AV.dv (DV.val (Value.int IntKind.i64 i)), AV.dv (DV.val (Value.string s))], AV.dv (DV.val (Value.bool true))]) [])
  else if List.length rows < 4611686018427387904 then
    bif decide (lookN v rows < 0) then
      some (Out.mk false (AV.tup [AV.agg [AV.dv (DV.val (Value.bool false)), AV.dv (DV.val (Value.int IntKind.i64 0)), AV.dv (DV.val (Value.string (ByteArray.mk #[])))], AV.dv (DV.val (Value.bool false))]) [])
    else if 0 ≤ lookN v rows then
      if lookN v rows < (↑(List.length rows) : Int) then
        some (Out.mk false (AV.tup [AV.agg [AV.dv (DV.val (Value.bool (Row.B (List.getD rows (Int.toNat (lookN v rows)) []) 1))), AV.dv (DV.val (Value.int IntKind.i64 (Row.I (List.getD rows (Int.toNat (lookN v rows)) []) 2))), AV.dv (DV.val (Value.string (Row.S (List.getD rows (Int.toNat (lookN v rows)) []) 3)))], AV.dv (DV.val (Value.bool true))]) [])
      else none
    else none
  else none := by kernel_rfl
noncomputable def f11_l6 (n : Nat) (v : ByteArray) (b : Bool) (i : Int) (s : ByteArray) (nl : Bool) (rows : Rows) (i0 : Nat) (j0 : Int) : Option Out :=
  loopFn Try.prog (Φ10 n) lv11 n Try.f11 false [] some 6 [] i0 (St.mk [AV.junk, AV.sl nl [Kd.s, Kd.b, Kd.i IntKind.i64, Kd.s] rows Right.no, AV.pl 2 0, AV.junk, AV.pl 4 0, AV.junk, AV.dv (DV.val (Value.int IntKind.i64 j0)), AV.junk, AV.junk, AV.junk, AV.junk, AV.junk, AV.junk, AV.junk, AV.junk, AV.junk, AV.junk, AV.junk, AV.junk, AV.junk, AV.junk, AV.junk, AV.junk, AV.junk, AV.junk, AV.junk, AV.junk, AV.junk, AV.junk, AV.junk, AV.junk, AV.junk, AV.junk, AV.junk, AV.junk] [(2, [AV.dv (DV.val (Value.string v)), AV.dv (DV.val (Value.bool b)), AV.dv (DV.val (Value.int IntKind.i64 i)), AV.dv (DV.val (Value.string s))]), (4, [AV.dv (DV.val (Value.bool false)), AV.dv (DV.val (Value.int IntKind.i64 0)), AV.dv (DV.val (Value.string (ByteArray.mk #[])))])])
theorem f11_s6 (n : Nat) (v : ByteArray) (b : Bool) (i : Int) (s : ByteArray) (nl : Bool) (rows : Rows) (i0 : Nat) (j0 : Int) : f11_l6 n v b i s nl rows (i0 + 1) j0 =
  bif decide (j0 < (↑(List.length rows) : Int)) then
    if 0 ≤ j0 then
      if j0 < (↑(List.length rows) : Int) then
        bif Row.S (List.getD rows (Int.toNat j0) []) 0 == v then
          if 0 ≤ j0 then
            if j0 < (↑(List.length rows) : Int) then
              some (Out.mk false (AV.tup [AV.agg [AV.dv (DV.val (Value.bool (Row.B (List.getD rows (Int.toNat j0) []) 1))), AV.dv (DV.val (Value.int IntKind.i64 (Row.I (List.getD rows (Int.toNat j0) []) 2))), AV.dv (DV.val (Value.string (Row.S (List.getD rows (Int.toNat j0) []) 3)))], AV.dv (DV.val (Value.bool true))]) [])
            else none
          else none
        else f11_l6 n v b i s nl rows i0 (IntKind.wrap IntKind.i64 (j0 + 1))
      else none
    else none
  else some (Out.mk false (AV.tup [AV.agg [AV.dv (DV.val (Value.bool false)), AV.dv (DV.val (Value.int IntKind.i64 0)), AV.dv (DV.val (Value.string (ByteArray.mk #[])))], AV.dv (DV.val (Value.bool false))]) []) := by kernel_rfl
theorem f11_e (n : Nat) (v : ByteArray) (b : Bool) (i : Int) (s : ByteArray) (nl : Bool) (rows : Rows) : denFn Try.prog (Φ10 n) lv11 n Try.f11 false [AV.agg [AV.dv (DV.val (Value.string v)), AV.dv (DV.val (Value.bool b)), AV.dv (DV.val (Value.int IntKind.i64 i)), AV.dv (DV.val (Value.string s))], AV.sl nl [Kd.s, Kd.b, Kd.i IntKind.i64, Kd.s] rows Right.no] [] some =
  bif v == ByteArray.mk #[] && (b == false && (i == 0 && (s == ByteArray.mk #[] && true))) then
    some (Out.mk false (AV.tup [AV.agg [AV.dv (DV.val (Value.bool false)), AV.dv (DV.val (Value.int IntKind.i64 0)), AV.dv (DV.val (Value.string (ByteArray.mk #[])))], AV.dv (DV.val (Value.bool false))]) [])
  else bif v == ByteArray.mk #[] then
    some (Out.mk false (AV.tup [AV.agg [AV.dv (DV.val (Value.bool b)), AV.dv (DV.val (Value.int IntKind.i64 i)), AV.dv (DV.val (Value.string s))], AV.dv (DV.val (Value.bool true))]) [])
  else f11_l6 n v b i s nl rows n (0) := by kernel_rfl

end Go.Den
