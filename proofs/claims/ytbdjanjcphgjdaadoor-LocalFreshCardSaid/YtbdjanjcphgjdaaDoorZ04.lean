import Derived.Test.YtbdjanjcphgjdaaDoorZ03
import Derived.Shelf.Strconv.Itoa3
import Derived.Test.YtbdjanjcphgjdaaDoorProg
import Derived.Shelf.RegionOpenPlain
import Derived.Lib.Strings
import Derived.Lib.Slices
import Derived.Lib.Walk
import Derived.Lib.Builder
import Derived.Lib.AppendStr
import Derived.Lib.UnsafeStr
import Derived.WalkKit
import Derived.BigCall
import Derived.Laws.Externs
import Derived.Laws.IdiomCopy
set_option linter.unusedVariables false
set_option linter.unusedSimpArgs false
set_option linter.unusedSectionVars false
namespace Go.Den
noncomputable section
open Go.Proofs
set_option maxRecDepth 100000
def ref04_Weight_lv : Live := [(3, [0, 1, 5, 6], [1000, 1001, 1002, 1003]), (7, [0, 1, 5, 6, 7], [1000, 1001, 1002, 1003])]
def ref04_Weight_σ (n : Nat) : Spec := Spec.none
theorem ref04_Weight_σok (n : Nat) : SpecOk Tryd.prog (ref04_Weight_σ n) := (SpecOk.none _)
def ref04_Weight_Φ (n : Nat) : Orc := with_ Tryd.prog (ref04_Weight_σ n) [] n 0 hsL
def ref04_Weight_v (n : Nat) (b0 : Bool) (r1 : Rows) (j2 : Int) : Option (Int × Unit) :=
 DM.denFn tm (ref04_Weight_Φ n) ref04_Weight_lv n Tryd.f15 false [AV.sl b0 kdF r1 Right.no, aI j2] [] (OSh.chk (OSh.plain (.i .i64) []))
def ref04_Weight_l3 (n : Nat) (b0 : Bool) (r1 : Rows) (j2 : Int) (i0 : Nat) (j5 : Int) (j6 : Int) : Option (Int × Unit) :=
 DM.loopFn tm (ref04_Weight_Φ n) ref04_Weight_lv n Tryd.f15 false [] (OSh.chk (OSh.plain (.i .i64) [])) 3 [] i0 (St.mk ([AV.sl b0 kdF r1 Right.no, aI j2, Jk, Jk, Jk, aI j5, aI j6] ++ jk 72) [])
def ref04_Weight_l7 (n : Nat) (b0 : Bool) (r1 : Rows) (j2 : Int) (i0 i1 : Nat) (j3 : Int) (j4 : Int) (j7 : Int) : Option (Int × Unit) :=
 DM.loopFn tm (ref04_Weight_Φ n) ref04_Weight_lv n Tryd.f15 false [] (OSh.chk (OSh.plain (.i .i64) [])) 7 [i0] i1 (St.mk ([AV.sl b0 kdF r1 Right.no, aI j2, Jk, Jk, Jk, aI j3, aI j7, aI j4] ++ jk 71) [])
theorem ref04_Weight_s3 (n : Nat) (b0 : Bool) (r1 : Rows) (j2 : Int) (i0 : Nat) (j5 : Int) (j6 : Int) : ref04_Weight_l3 n b0 r1 j2 (i0 + 1) j5 j6 =
 bif decide (j6 < (↑(List.length r1) : Int)) then
 bif decide (j5 ≤ j2) then
 if 0 ≤ j6 then
 if j6 < (↑(List.length r1) : Int) then
 if 0 ≤ j6 then
 if j6 < (↑(List.length r1) : Int) then
 if 0 ≤ j6 then
 if j6 < (↑(List.length r1) : Int) then
 if 0 ≤ j6 then
 if j6 < (↑(List.length r1) : Int) then
 ref04_Weight_l7 n b0 r1 j2 i0 n (IntKind.wrap IntKind.i64 (j5 + IntKind.wrap IntKind.i64 (IntKind.wrap IntKind.i64 (1 + (↑(List.length (Row.R (List.getD r1 (Int.toNat j6) []) 3)) : Int)) + IntKind.wrap IntKind.i64 (Int.tdiv (IntKind.wrap IntKind.i64 (IntKind.wrap IntKind.i64 ((↑(ByteArray.size (Row.S (List.getD r1 (Int.toNat j6) []) 0)) : Int) + (↑(ByteArray.size (Row.S (List.getD r1 (Int.toNat j6) []) 1)) : Int)) + (↑(ByteArray.size (Row.S (List.getD r1 (Int.toNat j6) []) 2)) : Int))) 16)))) 0 j6
 else none
 else none
 else none
 else none
 else none
 else none
 else none
 else none
 else some (j5, ())
 else some (j5, ()) := by kernel_rfl
theorem ref04_Weight_s7 (n : Nat) (b0 : Bool) (r1 : Rows) (j2 : Int) (i0 i1 : Nat) (j3 : Int) (j4 : Int) (j7 : Int) : ref04_Weight_l7 n b0 r1 j2 i0 (i1 + 1) j3 j4 j7 =
 if 0 ≤ j7 then
 if j7 < (↑(List.length r1) : Int) then
 bif decide (j4 < (↑(List.length (Row.R (List.getD r1 (Int.toNat j7) []) 3)) : Int)) then
 bif decide (j3 ≤ j2) then
 if 0 ≤ j7 then
 if j7 < (↑(List.length r1) : Int) then
 if 0 ≤ j4 then
 if j4 < (↑(List.length (Row.R (List.getD r1 (Int.toNat j7) []) 3)) : Int) then
 ref04_Weight_l7 n b0 r1 j2 i0 i1 (IntKind.wrap IntKind.i64 (j3 + IntKind.wrap IntKind.i64 (Int.tdiv (↑(ByteArray.size (Row.S (List.getD (Row.R (List.getD r1 (Int.toNat j7) []) 3) (Int.toNat j4) []) 2)) : Int) 16))) (IntKind.wrap IntKind.i64 (j4 + 1)) j7
 else none
 else none
 else none
 else none
 else ref04_Weight_l3 n b0 r1 j2 i0 j3 (IntKind.wrap IntKind.i64 (j7 + 1))
 else ref04_Weight_l3 n b0 r1 j2 i0 j3 (IntKind.wrap IntKind.i64 (j7 + 1))
 else none
 else none := by kernel_rfl
theorem ref04_Weight_e (n : Nat) (b0 : Bool) (r1 : Rows) (j2 : Int) : ref04_Weight_v n b0 r1 j2 =
 ref04_Weight_l3 n b0 r1 j2 n 0 0 := by kernel_rfl
theorem ref04_Weight_c (n : Nat) (b0 : Bool) (r1 : Rows) (j2 : Int) (y : Int × Unit) (h : ref04_Weight_v n b0 r1 j2 = some y) : Contract Tryd.prog 15 [AV.sl b0 kdF r1 Right.no, aI j2] [] (OSh.enc (OSh.plain (.i .i64) []) y) :=
 ac (OSh.plain (.i .i64) []) (ref04_Weight_σok n) Tryd.func15 (by decide) h
def lex_blank_lv : Live := []
def lex_blank_σ (n : Nat) : Spec := Spec.none
theorem lex_blank_σok (n : Nat) : SpecOk Tryd.prog (lex_blank_σ n) := (SpecOk.none _)
def lex_blank_Φ (n : Nat) : Orc := with_ Tryd.prog (lex_blank_σ n) [] n 0 hsL
def lex_blank_v (n : Nat) (j0 : Int) : Option (Bool × Unit) :=
 DM.denFn tm (lex_blank_Φ n) lex_blank_lv n Tryd.f69 false [AV.dv (DV.val (Value.int IntKind.u8 j0))] [] (OSh.chk (OSh.plain (.b) []))
theorem lex_blank_e (n : Nat) (j0 : Int) : lex_blank_v n j0 =
 bif j0 == 32 then
 some (true, ())
 else bif j0 == 9 then
 some (true, ())
 else bif j0 == 10 then
 some (true, ())
 else some (j0 == 13, ()) := by kernel_rfl
theorem lex_blank_c (n : Nat) (j0 : Int) (y : Bool × Unit) (h : lex_blank_v n j0 = some y) : Contract Tryd.prog 69 [AV.dv (DV.val (Value.int IntKind.u8 j0))] [] (OSh.enc (OSh.plain (.b) []) y) :=
 ac (OSh.plain (.b) []) (lex_blank_σok n) Tryd.func69 (by decide) h
def lo_blank_lv : Live := [(1, [0, 1, 2], [1000, 1001, 1002, 1003])]
def lo_blank_σ (n : Nat) : Spec := (inst 69 [.i IntKind.u8] [] (OSh.plain (.b) []) (fun x e => lex_blank_v n x.1) Spec.none)
theorem lo_blank_σok (n : Nat) : SpecOk Tryd.prog (lo_blank_σ n) := (inst_ok (fun x e y h => lex_blank_c n x.1 y h) (SpecOk.none _))
def lo_blank_Φ (n : Nat) : Orc := with_ Tryd.prog (lo_blank_σ n) [] n 0 hsL
def lo_blank_v (n : Nat) (s0 : ByteArray) (j1 : Int) : Option (Int × Unit) :=
 DM.denFn tm (lo_blank_Φ n) lo_blank_lv n Tryd.f70 false [aS s0, aI j1, AV.fn 69 []] [] (OSh.chk (OSh.plain (.i .i64) []))
def lo_blank_l1 (n : Nat) (s0 : ByteArray) (j1 : Int) (i0 : Nat) (j3 : Int) : Option (Int × Unit) :=
 DM.loopFn tm (lo_blank_Φ n) lo_blank_lv n Tryd.f70 false [] (OSh.chk (OSh.plain (.i .i64) [])) 1 [] i0 (St.mk ([aS s0, aI j3, AV.fn 69 []] ++ jk 18) [])
theorem lo_blank_s1 (n : Nat) (s0 : ByteArray) (j1 : Int) (i0 : Nat) (j3 : Int) : lo_blank_l1 n s0 j1 (i0 + 1) j3 =
 bif decide (j3 < (↑(ByteArray.size s0) : Int)) then
 if 0 ≤ j3 then
 if j3 < (↑(ByteArray.size s0) : Int) then
 obind (lex_blank_v n (bt s0 j3)) fun y4 =>
 bif y4.fst then
 lo_blank_l1 n s0 j1 i0 (IntKind.wrap IntKind.i64 (j3 + 1))
 else some (j3, ())
 else none
 else none
 else some (j3, ()) := by kernel_rfl
theorem lo_blank_e (n : Nat) (s0 : ByteArray) (j1 : Int) : lo_blank_v n s0 j1 =
 lo_blank_l1 n s0 j1 n j1 := by kernel_rfl
theorem lo_blank_c (n : Nat) (s0 : ByteArray) (j1 : Int) (y : Int × Unit) (h : lo_blank_v n s0 j1 = some y) : Contract Tryd.prog 70 [aS s0, aI j1, AV.fn 69 []] [] (OSh.enc (OSh.plain (.i .i64) []) y) :=
 ac (OSh.plain (.i .i64) []) (lo_blank_σok n) Tryd.func70 (by decide) h
def lex_skip_1_lv : Live := []
def lex_skip_1_σ (n : Nat) : Spec := Spec.none
theorem lex_skip_1_σok (n : Nat) : SpecOk Tryd.prog (lex_skip_1_σ n) := (SpecOk.none _)
def lex_skip_1_Φ (n : Nat) : Orc := with_ Tryd.prog (lex_skip_1_σ n) [] n 0 hsL
def lex_skip_1_v (n : Nat) (j0 : Int) : Option (Bool × Unit) :=
 DM.denFn tm (lex_skip_1_Φ n) lex_skip_1_lv n Tryd.f71 false [AV.dv (DV.val (Value.int IntKind.u8 j0))] [] (OSh.chk (OSh.plain (.b) []))
theorem lex_skip_1_e (n : Nat) (j0 : Int) : lex_skip_1_v n j0 =
 some (j0 != 10, ()) := by kernel_rfl
theorem lex_skip_1_c (n : Nat) (j0 : Int) (y : Bool × Unit) (h : lex_skip_1_v n j0 = some y) : Contract Tryd.prog 71 [AV.dv (DV.val (Value.int IntKind.u8 j0))] [] (OSh.enc (OSh.plain (.b) []) y) :=
 ac (OSh.plain (.b) []) (lex_skip_1_σok n) Tryd.func71 (by decide) h
def lo_skip_1_lv : Live := [(1, [0, 1, 2], [1000, 1001, 1002, 1003])]
def lo_skip_1_σ (n : Nat) : Spec := (inst 71 [.i IntKind.u8] [] (OSh.plain (.b) []) (fun x e => lex_skip_1_v n x.1) Spec.none)
theorem lo_skip_1_σok (n : Nat) : SpecOk Tryd.prog (lo_skip_1_σ n) := (inst_ok (fun x e y h => lex_skip_1_c n x.1 y h) (SpecOk.none _))
def lo_skip_1_Φ (n : Nat) : Orc := with_ Tryd.prog (lo_skip_1_σ n) [] n 0 hsL
def lo_skip_1_v (n : Nat) (s0 : ByteArray) (j1 : Int) : Option (Int × Unit) :=
 DM.denFn tm (lo_skip_1_Φ n) lo_skip_1_lv n Tryd.f70 false [aS s0, aI j1, AV.fn 71 []] [] (OSh.chk (OSh.plain (.i .i64) []))
def lo_skip_1_l1 (n : Nat) (s0 : ByteArray) (j1 : Int) (i0 : Nat) (j3 : Int) : Option (Int × Unit) :=
 DM.loopFn tm (lo_skip_1_Φ n) lo_skip_1_lv n Tryd.f70 false [] (OSh.chk (OSh.plain (.i .i64) [])) 1 [] i0 (St.mk ([aS s0, aI j3, AV.fn 71 []] ++ jk 18) [])
theorem lo_skip_1_s1 (n : Nat) (s0 : ByteArray) (j1 : Int) (i0 : Nat) (j3 : Int) : lo_skip_1_l1 n s0 j1 (i0 + 1) j3 =
 bif decide (j3 < (↑(ByteArray.size s0) : Int)) then
 if 0 ≤ j3 then
 if j3 < (↑(ByteArray.size s0) : Int) then
 obind (lex_skip_1_v n (bt s0 j3)) fun y4 =>
 bif y4.fst then
 lo_skip_1_l1 n s0 j1 i0 (IntKind.wrap IntKind.i64 (j3 + 1))
 else some (j3, ())
 else none
 else none
 else some (j3, ()) := by kernel_rfl
theorem lo_skip_1_e (n : Nat) (s0 : ByteArray) (j1 : Int) : lo_skip_1_v n s0 j1 =
 lo_skip_1_l1 n s0 j1 n j1 := by kernel_rfl
theorem lo_skip_1_c (n : Nat) (s0 : ByteArray) (j1 : Int) (y : Int × Unit) (h : lo_skip_1_v n s0 j1 = some y) : Contract Tryd.prog 70 [aS s0, aI j1, AV.fn 71 []] [] (OSh.enc (OSh.plain (.i .i64) []) y) :=
 ac (OSh.plain (.i .i64) []) (lo_skip_1_σok n) Tryd.func70 (by decide) h
def lex_skip_lv : Live := [(1, [0, 1], [1000, 1001, 1002, 1003])]
def lex_skip_σ (n : Nat) : Spec := (inst 69 [.i IntKind.u8] [] (OSh.plain (.b) []) (fun x e => lex_blank_v n x.1) (inst 70 [.s, .i .i64, .fn 69 []] [] (OSh.plain (.i .i64) []) (fun x e => lo_blank_v n x.1 x.2.1) (inst 70 [.s, .i .i64, .fn 71 []] [] (OSh.plain (.i .i64) []) (fun x e => lo_skip_1_v n x.1 x.2.1) Spec.none)))
theorem lex_skip_σok (n : Nat) : SpecOk Tryd.prog (lex_skip_σ n) := (inst_ok (fun x e y h => lex_blank_c n x.1 y h) (inst_ok (fun x e y h => lo_blank_c n x.1 x.2.1 y h) (inst_ok (fun x e y h => lo_skip_1_c n x.1 x.2.1 y h) (SpecOk.none _))))
def lex_skip_Φ (n : Nat) : Orc := with_ Tryd.prog (lex_skip_σ n) [] n 0 hsL
def lex_skip_v (n : Nat) (s0 : ByteArray) (j1 : Int) : Option (Int × Unit) :=
 DM.denFn tm (lex_skip_Φ n) lex_skip_lv n Tryd.f43 false [aS s0, aI j1] [] (OSh.chk (OSh.plain (.i .i64) []))
def lex_skip_l1 (n : Nat) (s0 : ByteArray) (j1 : Int) (i0 : Nat) (j5 : Int) : Option (Int × Unit) :=
 DM.loopFn tm (lex_skip_Φ n) lex_skip_lv n Tryd.f43 false [] (OSh.chk (OSh.plain (.i .i64) [])) 1 [] i0 (St.mk ([aS s0, aI j5] ++ jk 24) [])
theorem lex_skip_s1 (n : Nat) (s0 : ByteArray) (j1 : Int) (i0 : Nat) (j5 : Int) : lex_skip_l1 n s0 j1 (i0 + 1) j5 =
 bif decide (j5 < (↑(ByteArray.size s0) : Int)) then
 if 0 ≤ j5 then
 if j5 < (↑(ByteArray.size s0) : Int) then
 obind (lex_blank_v n (bt s0 j5)) fun y6 =>
 bif y6.fst then
 obind (lo_blank_v n s0 j5) fun y7 =>
 lex_skip_l1 n s0 j1 i0 y7.fst
 else if 0 ≤ j5 then
 if j5 < (↑(ByteArray.size s0) : Int) then
 bif bt s0 j5 == 37 then
 obind (lo_skip_1_v n s0 j5) fun y8 =>
 lex_skip_l1 n s0 j1 i0 y8.fst
 else some (j5, ())
 else none
 else none
 else none
 else none
 else some (j5, ()) := by kernel_rfl
theorem lex_skip_e (n : Nat) (s0 : ByteArray) (j1 : Int) : lex_skip_v n s0 j1 =
 lex_skip_l1 n s0 j1 n j1 := by kernel_rfl
theorem lex_skip_c (n : Nat) (s0 : ByteArray) (j1 : Int) (y : Int × Unit) (h : lex_skip_v n s0 j1 = some y) : Contract Tryd.prog 43 [aS s0, aI j1] [] (OSh.enc (OSh.plain (.i .i64) []) y) :=
 ac (OSh.plain (.i .i64) []) (lex_skip_σok n) Tryd.func43 (by decide) h
def lex_small_lv : Live := []
def lex_small_σ (n : Nat) : Spec := Spec.none
theorem lex_small_σok (n : Nat) : SpecOk Tryd.prog (lex_small_σ n) := (SpecOk.none _)
def lex_small_Φ (n : Nat) : Orc := with_ Tryd.prog (lex_small_σ n) [] n 0 hsL
def lex_small_v (n : Nat) (j0 : Int) : Option (Bool × Unit) :=
 DM.denFn tm (lex_small_Φ n) lex_small_lv n Tryd.f73 false [AV.dv (DV.val (Value.int IntKind.u8 j0))] [] (OSh.chk (OSh.plain (.b) []))
theorem lex_small_e (n : Nat) (j0 : Int) : lex_small_v n j0 =
 bif decide (j0 ≥ 97) then
 some (decide (j0 ≤ 122), ())
 else some (false, ()) := by kernel_rfl
theorem lex_small_c (n : Nat) (j0 : Int) (y : Bool × Unit) (h : lex_small_v n j0 = some y) : Contract Tryd.prog 73 [AV.dv (DV.val (Value.int IntKind.u8 j0))] [] (OSh.enc (OSh.plain (.b) []) y) :=
 ac (OSh.plain (.b) []) (lex_small_σok n) Tryd.func73 (by decide) h
def lex_great_lv : Live := []
def lex_great_σ (n : Nat) : Spec := Spec.none
theorem lex_great_σok (n : Nat) : SpecOk Tryd.prog (lex_great_σ n) := (SpecOk.none _)
def lex_great_Φ (n : Nat) : Orc := with_ Tryd.prog (lex_great_σ n) [] n 0 hsL
def lex_great_v (n : Nat) (j0 : Int) : Option (Bool × Unit) :=
 DM.denFn tm (lex_great_Φ n) lex_great_lv n Tryd.f74 false [AV.dv (DV.val (Value.int IntKind.u8 j0))] [] (OSh.chk (OSh.plain (.b) []))
theorem lex_great_e (n : Nat) (j0 : Int) : lex_great_v n j0 =
 bif decide (j0 ≥ 65) then
 some (decide (j0 ≤ 90), ())
 else some (false, ()) := by kernel_rfl
theorem lex_great_c (n : Nat) (j0 : Int) (y : Bool × Unit) (h : lex_great_v n j0 = some y) : Contract Tryd.prog 74 [AV.dv (DV.val (Value.int IntKind.u8 j0))] [] (OSh.enc (OSh.plain (.b) []) y) :=
 ac (OSh.plain (.b) []) (lex_great_σok n) Tryd.func74 (by decide) h
def lex_digit_lv : Live := []
def lex_digit_σ (n : Nat) : Spec := Spec.none
theorem lex_digit_σok (n : Nat) : SpecOk Tryd.prog (lex_digit_σ n) := (SpecOk.none _)
def lex_digit_Φ (n : Nat) : Orc := with_ Tryd.prog (lex_digit_σ n) [] n 0 hsL
def lex_digit_v (n : Nat) (j0 : Int) : Option (Bool × Unit) :=
 DM.denFn tm (lex_digit_Φ n) lex_digit_lv n Tryd.f75 false [AV.dv (DV.val (Value.int IntKind.u8 j0))] [] (OSh.chk (OSh.plain (.b) []))
theorem lex_digit_e (n : Nat) (j0 : Int) : lex_digit_v n j0 =
 bif decide (j0 ≥ 48) then
 some (decide (j0 ≤ 57), ())
 else some (false, ()) := by kernel_rfl
theorem lex_digit_c (n : Nat) (j0 : Int) (y : Bool × Unit) (h : lex_digit_v n j0 = some y) : Contract Tryd.prog 75 [AV.dv (DV.val (Value.int IntKind.u8 j0))] [] (OSh.enc (OSh.plain (.b) []) y) :=
 ac (OSh.plain (.b) []) (lex_digit_σok n) Tryd.func75 (by decide) h
def lex_one_1_lv : Live := []
def lex_one_1_σ (n : Nat) : Spec := (inst 73 [.i IntKind.u8] [] (OSh.plain (.b) []) (fun x e => lex_small_v n x.1) (inst 74 [.i IntKind.u8] [] (OSh.plain (.b) []) (fun x e => lex_great_v n x.1) (inst 75 [.i IntKind.u8] [] (OSh.plain (.b) []) (fun x e => lex_digit_v n x.1) Spec.none)))
theorem lex_one_1_σok (n : Nat) : SpecOk Tryd.prog (lex_one_1_σ n) := (inst_ok (fun x e y h => lex_small_c n x.1 y h) (inst_ok (fun x e y h => lex_great_c n x.1 y h) (inst_ok (fun x e y h => lex_digit_c n x.1 y h) (SpecOk.none _))))
def lex_one_1_Φ (n : Nat) : Orc := with_ Tryd.prog (lex_one_1_σ n) [] n 0 hsL
def lex_one_1_v (n : Nat) (j0 : Int) : Option (Bool × Unit) :=
 DM.denFn tm (lex_one_1_Φ n) lex_one_1_lv n Tryd.f72 false [AV.dv (DV.val (Value.int IntKind.u8 j0))] [] (OSh.chk (OSh.plain (.b) []))
theorem lex_one_1_e (n : Nat) (j0 : Int) : lex_one_1_v n j0 =
 obind (lex_small_v n j0) fun y1 =>
 bif y1.fst then
 some (true, ())
 else obind (lex_great_v n j0) fun y2 =>
 bif y2.fst then
 some (true, ())
 else obind (lex_digit_v n j0) fun y3 =>
 bif y3.fst then
 some (true, ())
 else some (j0 == 95, ()) := by kernel_rfl
theorem lex_one_1_c (n : Nat) (j0 : Int) (y : Bool × Unit) (h : lex_one_1_v n j0 = some y) : Contract Tryd.prog 72 [AV.dv (DV.val (Value.int IntKind.u8 j0))] [] (OSh.enc (OSh.plain (.b) []) y) :=
 ac (OSh.plain (.b) []) (lex_one_1_σok n) Tryd.func72 (by decide) h
def lo_one_1_lv : Live := [(1, [0, 1, 2], [1000, 1001, 1002, 1003])]
def lo_one_1_σ (n : Nat) : Spec := (inst 72 [.i IntKind.u8] [] (OSh.plain (.b) []) (fun x e => lex_one_1_v n x.1) Spec.none)
theorem lo_one_1_σok (n : Nat) : SpecOk Tryd.prog (lo_one_1_σ n) := (inst_ok (fun x e y h => lex_one_1_c n x.1 y h) (SpecOk.none _))
def lo_one_1_Φ (n : Nat) : Orc := with_ Tryd.prog (lo_one_1_σ n) [] n 0 hsL
def lo_one_1_v (n : Nat) (s0 : ByteArray) (j1 : Int) : Option (Int × Unit) :=
 DM.denFn tm (lo_one_1_Φ n) lo_one_1_lv n Tryd.f70 false [aS s0, aI j1, AV.fn 72 []] [] (OSh.chk (OSh.plain (.i .i64) []))
def lo_one_1_l1 (n : Nat) (s0 : ByteArray) (j1 : Int) (i0 : Nat) (j3 : Int) : Option (Int × Unit) :=
 DM.loopFn tm (lo_one_1_Φ n) lo_one_1_lv n Tryd.f70 false [] (OSh.chk (OSh.plain (.i .i64) [])) 1 [] i0 (St.mk ([aS s0, aI j3, AV.fn 72 []] ++ jk 18) [])
theorem lo_one_1_s1 (n : Nat) (s0 : ByteArray) (j1 : Int) (i0 : Nat) (j3 : Int) : lo_one_1_l1 n s0 j1 (i0 + 1) j3 =
 bif decide (j3 < (↑(ByteArray.size s0) : Int)) then
 if 0 ≤ j3 then
 if j3 < (↑(ByteArray.size s0) : Int) then
 obind (lex_one_1_v n (bt s0 j3)) fun y4 =>
 bif y4.fst then
 lo_one_1_l1 n s0 j1 i0 (IntKind.wrap IntKind.i64 (j3 + 1))
 else some (j3, ())
 else none
 else none
 else some (j3, ()) := by kernel_rfl
theorem lo_one_1_e (n : Nat) (s0 : ByteArray) (j1 : Int) : lo_one_1_v n s0 j1 =
 lo_one_1_l1 n s0 j1 n j1 := by kernel_rfl
theorem lo_one_1_c (n : Nat) (s0 : ByteArray) (j1 : Int) (y : Int × Unit) (h : lo_one_1_v n s0 j1 = some y) : Contract Tryd.prog 70 [aS s0, aI j1, AV.fn 72 []] [] (OSh.enc (OSh.plain (.i .i64) []) y) :=
 ac (OSh.plain (.i .i64) []) (lo_one_1_σok n) Tryd.func70 (by decide) h
def lo_digit_lv : Live := [(1, [0, 1, 2], [1000, 1001, 1002, 1003])]
def lo_digit_σ (n : Nat) : Spec := (inst 75 [.i IntKind.u8] [] (OSh.plain (.b) []) (fun x e => lex_digit_v n x.1) Spec.none)
theorem lo_digit_σok (n : Nat) : SpecOk Tryd.prog (lo_digit_σ n) := (inst_ok (fun x e y h => lex_digit_c n x.1 y h) (SpecOk.none _))
def lo_digit_Φ (n : Nat) : Orc := with_ Tryd.prog (lo_digit_σ n) [] n 0 hsL
def lo_digit_v (n : Nat) (s0 : ByteArray) (j1 : Int) : Option (Int × Unit) :=
 DM.denFn tm (lo_digit_Φ n) lo_digit_lv n Tryd.f70 false [aS s0, aI j1, AV.fn 75 []] [] (OSh.chk (OSh.plain (.i .i64) []))
def lo_digit_l1 (n : Nat) (s0 : ByteArray) (j1 : Int) (i0 : Nat) (j3 : Int) : Option (Int × Unit) :=
 DM.loopFn tm (lo_digit_Φ n) lo_digit_lv n Tryd.f70 false [] (OSh.chk (OSh.plain (.i .i64) [])) 1 [] i0 (St.mk ([aS s0, aI j3, AV.fn 75 []] ++ jk 18) [])
theorem lo_digit_s1 (n : Nat) (s0 : ByteArray) (j1 : Int) (i0 : Nat) (j3 : Int) : lo_digit_l1 n s0 j1 (i0 + 1) j3 =
 bif decide (j3 < (↑(ByteArray.size s0) : Int)) then
 if 0 ≤ j3 then
 if j3 < (↑(ByteArray.size s0) : Int) then
 obind (lex_digit_v n (bt s0 j3)) fun y4 =>
 bif y4.fst then
 lo_digit_l1 n s0 j1 i0 (IntKind.wrap IntKind.i64 (j3 + 1))
 else some (j3, ())
 else none
 else none
 else some (j3, ()) := by kernel_rfl
theorem lo_digit_e (n : Nat) (s0 : ByteArray) (j1 : Int) : lo_digit_v n s0 j1 =
 lo_digit_l1 n s0 j1 n j1 := by kernel_rfl
theorem lo_digit_c (n : Nat) (s0 : ByteArray) (j1 : Int) (y : Int × Unit) (h : lo_digit_v n s0 j1 = some y) : Contract Tryd.prog 70 [aS s0, aI j1, AV.fn 75 []] [] (OSh.enc (OSh.plain (.i .i64) []) y) :=
 ac (OSh.plain (.i .i64) []) (lo_digit_σok n) Tryd.func70 (by decide) h
def lex_number_lv : Live := [(8, [0, 4, 5, 30, 31], [1000, 1001, 1002, 1003])]
def lex_number_σ (n : Nat) : Spec := Spec.none
theorem lex_number_σok (n : Nat) : SpecOk Tryd.prog (lex_number_σ n) := (SpecOk.none _)
def lex_number_Φ (n : Nat) : Orc := with_ Tryd.prog (lex_number_σ n) [] n 0 hsL
def lex_number_v (n : Nat) (s0 : ByteArray) : Option ((Int × Bool × Unit) × Unit) :=
 DM.denFn tm (lex_number_Φ n) lex_number_lv n Tryd.f76 false [aS s0] [] (OSh.chk (OSh.plain (.tup [.i .i64, .b]) []))
def lex_number_l8 (n : Nat) (s0 : ByteArray) (i0 : Nat) (s1 : ByteArray) (j2 : Int) (j3 : Int) (j4 : Int) : Option ((Int × Bool × Unit) × Unit) :=
 DM.loopFn tm (lex_number_Φ n) lex_number_lv n Tryd.f76 false [] (OSh.chk (OSh.plain (.tup [.i .i64, .b]) [])) 8 [] i0 (St.mk ([aS s1, Jk, Jk, Jk, AV.dv (DV.val (Value.bool (bt s0 0 == 45))), aI j3, Jk, Jk, Jk, Jk, Jk, Jk, Jk, Jk, Jk, Jk, Jk, Jk, Jk, Jk, Jk, Jk, Jk, Jk, Jk, Jk, Jk, Jk, Jk, Jk, aI j2, aI j4] ++ jk 23) [])
theorem lex_number_s8 (n : Nat) (s0 : ByteArray) (i0 : Nat) (s1 : ByteArray) (j2 : Int) (j3 : Int) (j4 : Int) : lex_number_l8 n s0 (i0 + 1) s1 j2 j3 j4 =
 bif decide (j4 < j2) then
 if 0 ≤ j4 then
 if j4 < (↑(ByteArray.size s1) : Int) then
 bif decide (j3 < IntKind.wrap IntKind.i64 (Int.tdiv (IntKind.wrap IntKind.i64 (-9223372036854775808 + IntKind.wrap IntKind.i64 (IntKind.wrap IntKind.u8 (bt s1 j4 - 48)))) 10)) then
 some ((0, (false, ())), ())
 else lex_number_l8 n s0 i0 s1 j2 (IntKind.wrap IntKind.i64 (IntKind.wrap IntKind.i64 (10 * j3) - IntKind.wrap IntKind.i64 (IntKind.wrap IntKind.u8 (bt s1 j4 - 48)))) (IntKind.wrap IntKind.i64 (j4 + 1))
 else none
 else none
 else bif bt s0 0 == 45 then
 some ((j3, (true, ())), ())
 else some ((IntKind.wrap IntKind.i64 (0 - j3), (j3 != -9223372036854775808, ())), ()) := by kernel_rfl
theorem lex_number_e (n : Nat) (s0 : ByteArray) : lex_number_v n s0 =
 if 0 < (↑(ByteArray.size s0) : Int) then
 bif bt s0 0 == 45 then
 if 1 ≤ (↑(ByteArray.size s0) : Int) then
 if (↑(ByteArray.size s0) : Int) ≤ (↑(ByteArray.size s0) : Int) then
 bif ByteArray.extract s0 1 (Int.toNat (↑(ByteArray.size s0) : Int)) == ByteArray.mk #[] then
 some ((0, (false, ())), ())
 else if 0 < (↑(ByteArray.size (ByteArray.extract s0 1 (Int.toNat (↑(ByteArray.size s0) : Int)))) : Int) then
 bif bt (ByteArray.extract s0 1 (Int.toNat (↑(ByteArray.size s0) : Int))) 0 == 48 then
 bif bt s0 0 == 45 then
 some ((0, (false, ())), ())
 else bif decide ((↑(ByteArray.size (ByteArray.extract s0 1 (Int.toNat (↑(ByteArray.size s0) : Int)))) : Int) > 1) then
 some ((0, (false, ())), ())
 else lex_number_l8 n s0 n (ByteArray.extract s0 1 (Int.toNat (↑(ByteArray.size s0) : Int))) ((↑(ByteArray.size (ByteArray.extract s0 1 (Int.toNat (↑(ByteArray.size s0) : Int)))) : Int)) 0 0
 else lex_number_l8 n s0 n (ByteArray.extract s0 1 (Int.toNat (↑(ByteArray.size s0) : Int))) ((↑(ByteArray.size (ByteArray.extract s0 1 (Int.toNat (↑(ByteArray.size s0) : Int)))) : Int)) 0 0
 else none
 else none
 else none
 else bif s0 == ByteArray.mk #[] then
 some ((0, (false, ())), ())
 else if 0 < (↑(ByteArray.size s0) : Int) then
 bif bt s0 0 == 48 then
 bif bt s0 0 == 45 then
 some ((0, (false, ())), ())
 else bif decide ((↑(ByteArray.size s0) : Int) > 1) then
 some ((0, (false, ())), ())
 else lex_number_l8 n s0 n s0 ((↑(ByteArray.size s0) : Int)) 0 0
 else lex_number_l8 n s0 n s0 ((↑(ByteArray.size s0) : Int)) 0 0
 else none
 else none := by kernel_rfl
theorem lex_number_c (n : Nat) (s0 : ByteArray) (y : (Int × Bool × Unit) × Unit) (h : lex_number_v n s0 = some y) : Contract Tryd.prog 76 [aS s0] [] (OSh.enc (OSh.plain (.tup [.i .i64, .b]) []) y) :=
 ac (OSh.plain (.tup [.i .i64, .b]) []) (lex_number_σok n) Tryd.func76 (by decide) h
def lex_quoted_1_lv : Live := []
def lex_quoted_1_σ (n : Nat) : Spec := Spec.none
theorem lex_quoted_1_σok (n : Nat) : SpecOk Tryd.prog (lex_quoted_1_σ n) := (SpecOk.none _)
def lex_quoted_1_Φ (n : Nat) : Orc := with_ Tryd.prog (lex_quoted_1_σ n) [] n 0 hsL
def lex_quoted_1_v (n : Nat) (j0 : Int) : Option (Bool × Unit) :=
 DM.denFn tm (lex_quoted_1_Φ n) lex_quoted_1_lv n Tryd.f85 false [AV.dv (DV.val (Value.int IntKind.u8 j0))] [] (OSh.chk (OSh.plain (.b) []))
theorem lex_quoted_1_e (n : Nat) (j0 : Int) : lex_quoted_1_v n j0 =
 bif decide (j0 ≥ 32) then
 bif decide (j0 ≤ 126) then
 bif j0 != 34 then
 some (j0 != 92, ())
 else some (false, ())
 else some (false, ())
 else some (false, ()) := by kernel_rfl
theorem lex_quoted_1_c (n : Nat) (j0 : Int) (y : Bool × Unit) (h : lex_quoted_1_v n j0 = some y) : Contract Tryd.prog 85 [AV.dv (DV.val (Value.int IntKind.u8 j0))] [] (OSh.enc (OSh.plain (.b) []) y) :=
 ac (OSh.plain (.b) []) (lex_quoted_1_σok n) Tryd.func85 (by decide) h
def lo_quoted_1_lv : Live := [(1, [0, 1, 2], [1000, 1001, 1002, 1003])]
def lo_quoted_1_σ (n : Nat) : Spec := (inst 85 [.i IntKind.u8] [] (OSh.plain (.b) []) (fun x e => lex_quoted_1_v n x.1) Spec.none)
theorem lo_quoted_1_σok (n : Nat) : SpecOk Tryd.prog (lo_quoted_1_σ n) := (inst_ok (fun x e y h => lex_quoted_1_c n x.1 y h) (SpecOk.none _))
def lo_quoted_1_Φ (n : Nat) : Orc := with_ Tryd.prog (lo_quoted_1_σ n) [] n 0 hsL
def lo_quoted_1_v (n : Nat) (s0 : ByteArray) (j1 : Int) : Option (Int × Unit) :=
 DM.denFn tm (lo_quoted_1_Φ n) lo_quoted_1_lv n Tryd.f70 false [aS s0, aI j1, AV.fn 85 []] [] (OSh.chk (OSh.plain (.i .i64) []))
def lo_quoted_1_l1 (n : Nat) (s0 : ByteArray) (j1 : Int) (i0 : Nat) (j3 : Int) : Option (Int × Unit) :=
 DM.loopFn tm (lo_quoted_1_Φ n) lo_quoted_1_lv n Tryd.f70 false [] (OSh.chk (OSh.plain (.i .i64) [])) 1 [] i0 (St.mk ([aS s0, aI j3, AV.fn 85 []] ++ jk 18) [])
theorem lo_quoted_1_s1 (n : Nat) (s0 : ByteArray) (j1 : Int) (i0 : Nat) (j3 : Int) : lo_quoted_1_l1 n s0 j1 (i0 + 1) j3 =
 bif decide (j3 < (↑(ByteArray.size s0) : Int)) then
 if 0 ≤ j3 then
 if j3 < (↑(ByteArray.size s0) : Int) then
 obind (lex_quoted_1_v n (bt s0 j3)) fun y4 =>
 bif y4.fst then
 lo_quoted_1_l1 n s0 j1 i0 (IntKind.wrap IntKind.i64 (j3 + 1))
 else some (j3, ())
 else none
 else none
 else some (j3, ()) := by kernel_rfl
theorem lo_quoted_1_e (n : Nat) (s0 : ByteArray) (j1 : Int) : lo_quoted_1_v n s0 j1 =
 lo_quoted_1_l1 n s0 j1 n j1 := by kernel_rfl
theorem lo_quoted_1_c (n : Nat) (s0 : ByteArray) (j1 : Int) (y : Int × Unit) (h : lo_quoted_1_v n s0 j1 = some y) : Contract Tryd.prog 70 [aS s0, aI j1, AV.fn 85 []] [] (OSh.enc (OSh.plain (.i .i64) []) y) :=
 ac (OSh.plain (.i .i64) []) (lo_quoted_1_σok n) Tryd.func70 (by decide) h
def lex_quoted_lv : Live := []
def lex_quoted_σ (n : Nat) : Spec := (inst 70 [.s, .i .i64, .fn 85 []] [] (OSh.plain (.i .i64) []) (fun x e => lo_quoted_1_v n x.1 x.2.1) Spec.none)
theorem lex_quoted_σok (n : Nat) : SpecOk Tryd.prog (lex_quoted_σ n) := (inst_ok (fun x e y h => lo_quoted_1_c n x.1 x.2.1 y h) (SpecOk.none _))
def lex_quoted_Φ (n : Nat) : Orc := with_ Tryd.prog (lex_quoted_σ n) [] n 0 hsL
def lex_quoted_v (n : Nat) (s0 : ByteArray) (j1 : Int) : Option ((ByteArray × Int × Bool × Unit) × Unit) :=
 DM.denFn tm (lex_quoted_Φ n) lex_quoted_lv n Tryd.f77 false [aS s0, aI j1] [] (OSh.chk (OSh.plain (.tup [.s, .i .i64, .b]) []))
theorem lex_quoted_e (n : Nat) (s0 : ByteArray) (j1 : Int) : lex_quoted_v n s0 j1 =
 obind (lo_quoted_1_v n s0 (IntKind.wrap IntKind.i64 (j1 + 1))) fun y2 =>
 bif decide (y2.fst ≥ (↑(ByteArray.size s0) : Int)) then
 some ((ByteArray.mk #[], (0, (false, ()))), ())
 else if 0 ≤ y2.fst then
 if y2.fst < (↑(ByteArray.size s0) : Int) then
 bif bt s0 y2.fst != 34 then
 some ((ByteArray.mk #[], (0, (false, ()))), ())
 else if 0 ≤ IntKind.wrap IntKind.i64 (j1 + 1) then
 if IntKind.wrap IntKind.i64 (j1 + 1) ≤ y2.fst then
 if y2.fst ≤ (↑(ByteArray.size s0) : Int) then
 some ((ByteArray.extract s0 (Int.toNat (IntKind.wrap IntKind.i64 (j1 + 1))) (Int.toNat y2.fst), (IntKind.wrap IntKind.i64 (y2.fst + 1), (true, ()))), ())
 else none
 else none
 else none
 else none
 else none := by kernel_rfl
theorem lex_quoted_c (n : Nat) (s0 : ByteArray) (j1 : Int) (y : (ByteArray × Int × Bool × Unit) × Unit) (h : lex_quoted_v n s0 j1 = some y) : Contract Tryd.prog 77 [aS s0, aI j1] [] (OSh.enc (OSh.plain (.tup [.s, .i .i64, .b]) []) y) :=
 ac (OSh.plain (.tup [.s, .i .i64, .b]) []) (lex_quoted_σok n) Tryd.func77 (by decide) h
def lex_one_lv : Live := []
def lex_one_σ (n : Nat) : Spec := (inst 73 [.i IntKind.u8] [] (OSh.plain (.b) []) (fun x e => lex_small_v n x.1) (inst 70 [.s, .i .i64, .fn 72 []] [] (OSh.plain (.i .i64) []) (fun x e => lo_one_1_v n x.1 x.2.1) (inst 74 [.i IntKind.u8] [] (OSh.plain (.b) []) (fun x e => lex_great_v n x.1) (inst 75 [.i IntKind.u8] [] (OSh.plain (.b) []) (fun x e => lex_digit_v n x.1) (inst 70 [.s, .i .i64, .fn 75 []] [] (OSh.plain (.i .i64) []) (fun x e => lo_digit_v n x.1 x.2.1) (inst 76 [.s] [] (OSh.plain (.tup [.i .i64, .b]) []) (fun x e => lex_number_v n x.1) (inst 77 [.s, .i .i64] [] (OSh.plain (.tup [.s, .i .i64, .b]) []) (fun x e => lex_quoted_v n x.1 x.2.1) Spec.none)))))))
theorem lex_one_σok (n : Nat) : SpecOk Tryd.prog (lex_one_σ n) := (inst_ok (fun x e y h => lex_small_c n x.1 y h) (inst_ok (fun x e y h => lo_one_1_c n x.1 x.2.1 y h) (inst_ok (fun x e y h => lex_great_c n x.1 y h) (inst_ok (fun x e y h => lex_digit_c n x.1 y h) (inst_ok (fun x e y h => lo_digit_c n x.1 x.2.1 y h) (inst_ok (fun x e y h => lex_number_c n x.1 y h) (inst_ok (fun x e y h => lex_quoted_c n x.1 x.2.1 y h) (SpecOk.none _))))))))
def lex_one_Φ (n : Nat) : Orc := with_ Tryd.prog (lex_one_σ n) [] n 0 hsL
def lex_one_v (n : Nat) (s0 : ByteArray) (j1 : Int) : Option (((Int × ByteArray × Int × Int × Unit) × Int × Int × Unit) × Unit) :=
 DM.denFn tm (lex_one_Φ n) lex_one_lv n Tryd.f44 false [aS s0, aI j1] [] (OSh.chk (OSh.plain (.tup [.agg [.i .i64, .s, .i .i64, .i .i64], .i .i64, .i .i64]) []))
theorem lex_one_e (n : Nat) (s0 : ByteArray) (j1 : Int) : lex_one_v n s0 j1 =
 if 0 ≤ j1 then
 if j1 < (↑(ByteArray.size s0) : Int) then
 obind (lex_small_v n (bt s0 j1)) fun y2 =>
 bif y2.fst then
 obind (lo_one_1_v n s0 j1) fun y3 =>
 if 0 ≤ j1 then
 if j1 ≤ y3.fst then
 if y3.fst ≤ (↑(ByteArray.size s0) : Int) then
 bif decide ((↑(ByteArray.size (ByteArray.extract s0 (Int.toNat j1) (Int.toNat y3.fst))) : Int) > 32) then
 some (((1, (ByteArray.extract s0 (Int.toNat j1) (Int.toNat y3.fst), (0, (j1, ())))), (0, (71, ()))), ())
 else some (((1, (ByteArray.extract s0 (Int.toNat j1) (Int.toNat y3.fst), (0, (j1, ())))), (y3.fst, (0, ()))), ())
 else none
 else none
 else none
 else obind (lex_great_v n (bt s0 j1)) fun y4 =>
 bif y4.fst then
 obind (lo_one_1_v n s0 j1) fun y5 =>
 if 0 ≤ j1 then
 if j1 ≤ y5.fst then
 if y5.fst ≤ (↑(ByteArray.size s0) : Int) then
 bif decide ((↑(ByteArray.size (ByteArray.extract s0 (Int.toNat j1) (Int.toNat y5.fst))) : Int) > 32) then
 some (((2, (ByteArray.extract s0 (Int.toNat j1) (Int.toNat y5.fst), (0, (j1, ())))), (0, (71, ()))), ())
 else some (((2, (ByteArray.extract s0 (Int.toNat j1) (Int.toNat y5.fst), (0, (j1, ())))), (y5.fst, (0, ()))), ())
 else none
 else none
 else none
 else obind (lex_digit_v n (bt s0 j1)) fun y6 =>
 bif y6.fst then
 obind (lo_digit_v n s0 (IntKind.wrap IntKind.i64 (j1 + 1))) fun y7 =>
 if 0 ≤ j1 then
 if j1 ≤ y7.fst then
 if y7.fst ≤ (↑(ByteArray.size s0) : Int) then
 obind (lex_number_v n (ByteArray.extract s0 (Int.toNat j1) (Int.toNat y7.fst))) fun y8 =>
 bif !y8.fst.snd.fst then
 some (((0, (ByteArray.mk #[], (0, (j1, ())))), (0, (70, ()))), ())
 else some (((3, (ByteArray.mk #[], (y8.fst.fst, (j1, ())))), (y7.fst, (0, ()))), ())
 else none
 else none
 else none
 else bif bt s0 j1 == 45 then
 obind (lo_digit_v n s0 (IntKind.wrap IntKind.i64 (j1 + 1))) fun y9 =>
 if 0 ≤ j1 then
 if j1 ≤ y9.fst then
 if y9.fst ≤ (↑(ByteArray.size s0) : Int) then
 obind (lex_number_v n (ByteArray.extract s0 (Int.toNat j1) (Int.toNat y9.fst))) fun y10 =>
 bif !y10.fst.snd.fst then
 some (((0, (ByteArray.mk #[], (0, (j1, ())))), (0, (70, ()))), ())
 else some (((3, (ByteArray.mk #[], (y10.fst.fst, (j1, ())))), (y9.fst, (0, ()))), ())
 else none
 else none
 else none
 else bif bt s0 j1 == 34 then
 obind (lex_quoted_v n s0 j1) fun y11 =>
 bif !y11.fst.snd.snd.fst then
 some (((0, (ByteArray.mk #[], (0, (j1, ())))), (0, (70, ()))), ())
 else bif decide ((↑(ByteArray.size y11.fst.fst) : Int) > 32) then
 some (((4, (y11.fst.fst, (0, (j1, ())))), (0, (71, ()))), ())
 else some (((4, (y11.fst.fst, (0, (j1, ())))), (y11.fst.snd.fst, (0, ()))), ())
 else bif bt s0 j1 == 58 then
 bif decide (IntKind.wrap IntKind.i64 (j1 + 1) < (↑(ByteArray.size s0) : Int)) then
 if 0 ≤ IntKind.wrap IntKind.i64 (j1 + 1) then
 if IntKind.wrap IntKind.i64 (j1 + 1) < (↑(ByteArray.size s0) : Int) then
 bif bt s0 (IntKind.wrap IntKind.i64 (j1 + 1)) == 45 then
 if 0 ≤ j1 then
 if j1 ≤ IntKind.wrap IntKind.i64 (IntKind.wrap IntKind.i64 (j1 + 1) + 1) then
 if IntKind.wrap IntKind.i64 (IntKind.wrap IntKind.i64 (j1 + 1) + 1) ≤ (↑(ByteArray.size s0) : Int) then
 bif decide ((↑(ByteArray.size (ByteArray.extract s0 (Int.toNat j1) (Int.toNat (IntKind.wrap IntKind.i64 (IntKind.wrap IntKind.i64 (j1 + 1) + 1))))) : Int) > 32) then
 some (((5, (ByteArray.extract s0 (Int.toNat j1) (Int.toNat (IntKind.wrap IntKind.i64 (IntKind.wrap IntKind.i64 (j1 + 1) + 1))), (0, (j1, ())))), (0, (71, ()))), ())
 else some (((5, (ByteArray.extract s0 (Int.toNat j1) (Int.toNat (IntKind.wrap IntKind.i64 (IntKind.wrap IntKind.i64 (j1 + 1) + 1))), (0, (j1, ())))), (IntKind.wrap IntKind.i64 (IntKind.wrap IntKind.i64 (j1 + 1) + 1), (0, ()))), ())
 else none
 else none
 else none
 else bif bt s0 j1 == 40 then
 if 0 ≤ j1 then
 if j1 ≤ IntKind.wrap IntKind.i64 (j1 + 1) then
 if IntKind.wrap IntKind.i64 (j1 + 1) ≤ (↑(ByteArray.size s0) : Int) then
 bif decide ((↑(ByteArray.size (ByteArray.extract s0 (Int.toNat j1) (Int.toNat (IntKind.wrap IntKind.i64 (j1 + 1))))) : Int) > 32) then
 some (((5, (ByteArray.extract s0 (Int.toNat j1) (Int.toNat (IntKind.wrap IntKind.i64 (j1 + 1))), (0, (j1, ())))), (0, (71, ()))), ())
 else some (((5, (ByteArray.extract s0 (Int.toNat j1) (Int.toNat (IntKind.wrap IntKind.i64 (j1 + 1))), (0, (j1, ())))), (IntKind.wrap IntKind.i64 (j1 + 1), (0, ()))), ())
 else none
 else none
 else none
 else bif bt s0 j1 == 41 then
 if 0 ≤ j1 then
 if j1 ≤ IntKind.wrap IntKind.i64 (j1 + 1) then
 if IntKind.wrap IntKind.i64 (j1 + 1) ≤ (↑(ByteArray.size s0) : Int) then
 bif decide ((↑(ByteArray.size (ByteArray.extract s0 (Int.toNat j1) (Int.toNat (IntKind.wrap IntKind.i64 (j1 + 1))))) : Int) > 32) then
 some (((5, (ByteArray.extract s0 (Int.toNat j1) (Int.toNat (IntKind.wrap IntKind.i64 (j1 + 1))), (0, (j1, ())))), (0, (71, ()))), ())
 else some (((5, (ByteArray.extract s0 (Int.toNat j1) (Int.toNat (IntKind.wrap IntKind.i64 (j1 + 1))), (0, (j1, ())))), (IntKind.wrap IntKind.i64 (j1 + 1), (0, ()))), ())
 else none
 else none
 else none
 else bif bt s0 j1 == 44 then
 if 0 ≤ j1 then
 if j1 ≤ IntKind.wrap IntKind.i64 (j1 + 1) then
 if IntKind.wrap IntKind.i64 (j1 + 1) ≤ (↑(ByteArray.size s0) : Int) then
 bif decide ((↑(ByteArray.size (ByteArray.extract s0 (Int.toNat j1) (Int.toNat (IntKind.wrap IntKind.i64 (j1 + 1))))) : Int) > 32) then
 some (((5, (ByteArray.extract s0 (Int.toNat j1) (Int.toNat (IntKind.wrap IntKind.i64 (j1 + 1))), (0, (j1, ())))), (0, (71, ()))), ())
 else some (((5, (ByteArray.extract s0 (Int.toNat j1) (Int.toNat (IntKind.wrap IntKind.i64 (j1 + 1))), (0, (j1, ())))), (IntKind.wrap IntKind.i64 (j1 + 1), (0, ()))), ())
 else none
 else none
 else none
 else bif bt s0 j1 == 46 then
 if 0 ≤ j1 then
 if j1 ≤ IntKind.wrap IntKind.i64 (j1 + 1) then
 if IntKind.wrap IntKind.i64 (j1 + 1) ≤ (↑(ByteArray.size s0) : Int) then
 bif decide ((↑(ByteArray.size (ByteArray.extract s0 (Int.toNat j1) (Int.toNat (IntKind.wrap IntKind.i64 (j1 + 1))))) : Int) > 32) then
 some (((5, (ByteArray.extract s0 (Int.toNat j1) (Int.toNat (IntKind.wrap IntKind.i64 (j1 + 1))), (0, (j1, ())))), (0, (71, ()))), ())
 else some (((5, (ByteArray.extract s0 (Int.toNat j1) (Int.toNat (IntKind.wrap IntKind.i64 (j1 + 1))), (0, (j1, ())))), (IntKind.wrap IntKind.i64 (j1 + 1), (0, ()))), ())
 else none
 else none
 else none
 else bif bt s0 j1 == 58 then
 if 0 ≤ j1 then
 if j1 ≤ IntKind.wrap IntKind.i64 (j1 + 1) then
 if IntKind.wrap IntKind.i64 (j1 + 1) ≤ (↑(ByteArray.size s0) : Int) then
 bif decide ((↑(ByteArray.size (ByteArray.extract s0 (Int.toNat j1) (Int.toNat (IntKind.wrap IntKind.i64 (j1 + 1))))) : Int) > 32) then
 some (((5, (ByteArray.extract s0 (Int.toNat j1) (Int.toNat (IntKind.wrap IntKind.i64 (j1 + 1))), (0, (j1, ())))), (0, (71, ()))), ())
 else some (((5, (ByteArray.extract s0 (Int.toNat j1) (Int.toNat (IntKind.wrap IntKind.i64 (j1 + 1))), (0, (j1, ())))), (IntKind.wrap IntKind.i64 (j1 + 1), (0, ()))), ())
 else none
 else none
 else none
 else some (((0, (ByteArray.mk #[], (0, (j1, ())))), (0, (70, ()))), ())
 else none
 else none
 else bif bt s0 j1 == 40 then
 if 0 ≤ j1 then
 if j1 ≤ IntKind.wrap IntKind.i64 (j1 + 1) then
 if IntKind.wrap IntKind.i64 (j1 + 1) ≤ (↑(ByteArray.size s0) : Int) then
 bif decide ((↑(ByteArray.size (ByteArray.extract s0 (Int.toNat j1) (Int.toNat (IntKind.wrap IntKind.i64 (j1 + 1))))) : Int) > 32) then
 some (((5, (ByteArray.extract s0 (Int.toNat j1) (Int.toNat (IntKind.wrap IntKind.i64 (j1 + 1))), (0, (j1, ())))), (0, (71, ()))), ())
 else some (((5, (ByteArray.extract s0 (Int.toNat j1) (Int.toNat (IntKind.wrap IntKind.i64 (j1 + 1))), (0, (j1, ())))), (IntKind.wrap IntKind.i64 (j1 + 1), (0, ()))), ())
 else none
 else none
 else none
 else bif bt s0 j1 == 41 then
 if 0 ≤ j1 then
 if j1 ≤ IntKind.wrap IntKind.i64 (j1 + 1) then
 if IntKind.wrap IntKind.i64 (j1 + 1) ≤ (↑(ByteArray.size s0) : Int) then
 bif decide ((↑(ByteArray.size (ByteArray.extract s0 (Int.toNat j1) (Int.toNat (IntKind.wrap IntKind.i64 (j1 + 1))))) : Int) > 32) then
 some (((5, (ByteArray.extract s0 (Int.toNat j1) (Int.toNat (IntKind.wrap IntKind.i64 (j1 + 1))), (0, (j1, ())))), (0, (71, ()))), ())
 else some (((5, (ByteArray.extract s0 (Int.toNat j1) (Int.toNat (IntKind.wrap IntKind.i64 (j1 + 1))), (0, (j1, ())))), (IntKind.wrap IntKind.i64 (j1 + 1), (0, ()))), ())
 else none
 else none
 else none
 else bif bt s0 j1 == 44 then
 if 0 ≤ j1 then
 if j1 ≤ IntKind.wrap IntKind.i64 (j1 + 1) then
 if IntKind.wrap IntKind.i64 (j1 + 1) ≤ (↑(ByteArray.size s0) : Int) then
 bif decide ((↑(ByteArray.size (ByteArray.extract s0 (Int.toNat j1) (Int.toNat (IntKind.wrap IntKind.i64 (j1 + 1))))) : Int) > 32) then
 some (((5, (ByteArray.extract s0 (Int.toNat j1) (Int.toNat (IntKind.wrap IntKind.i64 (j1 + 1))), (0, (j1, ())))), (0, (71, ()))), ())
 else some (((5, (ByteArray.extract s0 (Int.toNat j1) (Int.toNat (IntKind.wrap IntKind.i64 (j1 + 1))), (0, (j1, ())))), (IntKind.wrap IntKind.i64 (j1 + 1), (0, ()))), ())
 else none
 else none
 else none
 else bif bt s0 j1 == 46 then
 if 0 ≤ j1 then
 if j1 ≤ IntKind.wrap IntKind.i64 (j1 + 1) then
 if IntKind.wrap IntKind.i64 (j1 + 1) ≤ (↑(ByteArray.size s0) : Int) then
 bif decide ((↑(ByteArray.size (ByteArray.extract s0 (Int.toNat j1) (Int.toNat (IntKind.wrap IntKind.i64 (j1 + 1))))) : Int) > 32) then
 some (((5, (ByteArray.extract s0 (Int.toNat j1) (Int.toNat (IntKind.wrap IntKind.i64 (j1 + 1))), (0, (j1, ())))), (0, (71, ()))), ())
 else some (((5, (ByteArray.extract s0 (Int.toNat j1) (Int.toNat (IntKind.wrap IntKind.i64 (j1 + 1))), (0, (j1, ())))), (IntKind.wrap IntKind.i64 (j1 + 1), (0, ()))), ())
 else none
 else none
 else none
 else bif bt s0 j1 == 58 then
 if 0 ≤ j1 then
 if j1 ≤ IntKind.wrap IntKind.i64 (j1 + 1) then
 if IntKind.wrap IntKind.i64 (j1 + 1) ≤ (↑(ByteArray.size s0) : Int) then
 bif decide ((↑(ByteArray.size (ByteArray.extract s0 (Int.toNat j1) (Int.toNat (IntKind.wrap IntKind.i64 (j1 + 1))))) : Int) > 32) then
 some (((5, (ByteArray.extract s0 (Int.toNat j1) (Int.toNat (IntKind.wrap IntKind.i64 (j1 + 1))), (0, (j1, ())))), (0, (71, ()))), ())
 else some (((5, (ByteArray.extract s0 (Int.toNat j1) (Int.toNat (IntKind.wrap IntKind.i64 (j1 + 1))), (0, (j1, ())))), (IntKind.wrap IntKind.i64 (j1 + 1), (0, ()))), ())
 else none
 else none
 else none
 else some (((0, (ByteArray.mk #[], (0, (j1, ())))), (0, (70, ()))), ())
 else bif bt s0 j1 == 40 then
 if 0 ≤ j1 then
 if j1 ≤ IntKind.wrap IntKind.i64 (j1 + 1) then
 if IntKind.wrap IntKind.i64 (j1 + 1) ≤ (↑(ByteArray.size s0) : Int) then
 bif decide ((↑(ByteArray.size (ByteArray.extract s0 (Int.toNat j1) (Int.toNat (IntKind.wrap IntKind.i64 (j1 + 1))))) : Int) > 32) then
 some (((5, (ByteArray.extract s0 (Int.toNat j1) (Int.toNat (IntKind.wrap IntKind.i64 (j1 + 1))), (0, (j1, ())))), (0, (71, ()))), ())
 else some (((5, (ByteArray.extract s0 (Int.toNat j1) (Int.toNat (IntKind.wrap IntKind.i64 (j1 + 1))), (0, (j1, ())))), (IntKind.wrap IntKind.i64 (j1 + 1), (0, ()))), ())
 else none
 else none
 else none
 else bif bt s0 j1 == 41 then
 if 0 ≤ j1 then
 if j1 ≤ IntKind.wrap IntKind.i64 (j1 + 1) then
 if IntKind.wrap IntKind.i64 (j1 + 1) ≤ (↑(ByteArray.size s0) : Int) then
 bif decide ((↑(ByteArray.size (ByteArray.extract s0 (Int.toNat j1) (Int.toNat (IntKind.wrap IntKind.i64 (j1 + 1))))) : Int) > 32) then
 some (((5, (ByteArray.extract s0 (Int.toNat j1) (Int.toNat (IntKind.wrap IntKind.i64 (j1 + 1))), (0, (j1, ())))), (0, (71, ()))), ())
 else some (((5, (ByteArray.extract s0 (Int.toNat j1) (Int.toNat (IntKind.wrap IntKind.i64 (j1 + 1))), (0, (j1, ())))), (IntKind.wrap IntKind.i64 (j1 + 1), (0, ()))), ())
 else none
 else none
 else none
 else bif bt s0 j1 == 44 then
 if 0 ≤ j1 then
 if j1 ≤ IntKind.wrap IntKind.i64 (j1 + 1) then
 if IntKind.wrap IntKind.i64 (j1 + 1) ≤ (↑(ByteArray.size s0) : Int) then
 bif decide ((↑(ByteArray.size (ByteArray.extract s0 (Int.toNat j1) (Int.toNat (IntKind.wrap IntKind.i64 (j1 + 1))))) : Int) > 32) then
 some (((5, (ByteArray.extract s0 (Int.toNat j1) (Int.toNat (IntKind.wrap IntKind.i64 (j1 + 1))), (0, (j1, ())))), (0, (71, ()))), ())
 else some (((5, (ByteArray.extract s0 (Int.toNat j1) (Int.toNat (IntKind.wrap IntKind.i64 (j1 + 1))), (0, (j1, ())))), (IntKind.wrap IntKind.i64 (j1 + 1), (0, ()))), ())
 else none
 else none
 else none
 else bif bt s0 j1 == 46 then
 if 0 ≤ j1 then
 if j1 ≤ IntKind.wrap IntKind.i64 (j1 + 1) then
 if IntKind.wrap IntKind.i64 (j1 + 1) ≤ (↑(ByteArray.size s0) : Int) then
 bif decide ((↑(ByteArray.size (ByteArray.extract s0 (Int.toNat j1) (Int.toNat (IntKind.wrap IntKind.i64 (j1 + 1))))) : Int) > 32) then
 some (((5, (ByteArray.extract s0 (Int.toNat j1) (Int.toNat (IntKind.wrap IntKind.i64 (j1 + 1))), (0, (j1, ())))), (0, (71, ()))), ())
 else some (((5, (ByteArray.extract s0 (Int.toNat j1) (Int.toNat (IntKind.wrap IntKind.i64 (j1 + 1))), (0, (j1, ())))), (IntKind.wrap IntKind.i64 (j1 + 1), (0, ()))), ())
 else none
 else none
 else none
 else bif bt s0 j1 == 58 then
 if 0 ≤ j1 then
 if j1 ≤ IntKind.wrap IntKind.i64 (j1 + 1) then
 if IntKind.wrap IntKind.i64 (j1 + 1) ≤ (↑(ByteArray.size s0) : Int) then
 bif decide ((↑(ByteArray.size (ByteArray.extract s0 (Int.toNat j1) (Int.toNat (IntKind.wrap IntKind.i64 (j1 + 1))))) : Int) > 32) then
 some (((5, (ByteArray.extract s0 (Int.toNat j1) (Int.toNat (IntKind.wrap IntKind.i64 (j1 + 1))), (0, (j1, ())))), (0, (71, ()))), ())
 else some (((5, (ByteArray.extract s0 (Int.toNat j1) (Int.toNat (IntKind.wrap IntKind.i64 (j1 + 1))), (0, (j1, ())))), (IntKind.wrap IntKind.i64 (j1 + 1), (0, ()))), ())
 else none
 else none
 else none
 else some (((0, (ByteArray.mk #[], (0, (j1, ())))), (0, (70, ()))), ())
 else none
 else none := by kernel_rfl
theorem lex_one_c (n : Nat) (s0 : ByteArray) (j1 : Int) (y : ((Int × ByteArray × Int × Int × Unit) × Int × Int × Unit) × Unit) (h : lex_one_v n s0 j1 = some y) : Contract Tryd.prog 44 [aS s0, aI j1] [] (OSh.enc (OSh.plain (.tup [.agg [.i .i64, .s, .i .i64, .i .i64], .i .i64, .i .i64]) []) y) :=
 ac (OSh.plain (.tup [.agg [.i .i64, .s, .i .i64, .i .i64], .i .i64, .i .i64]) []) (lex_one_σok n) Tryd.func44 (by decide) h
def lex_Tokens_lv : Live := [(4, [0, 2, 3], [1000, 1001, 1002, 1003])]
def lex_Tokens_σ (n : Nat) : Spec := (inst 43 [.s, .i .i64] [] (OSh.plain (.i .i64) []) (fun x e => lex_skip_v n x.1 x.2.1) (inst 44 [.s, .i .i64] [] (OSh.plain (.tup [.agg [.i .i64, .s, .i .i64, .i .i64], .i .i64, .i .i64]) []) (fun x e => lex_one_v n x.1 x.2.1) Spec.none))
theorem lex_Tokens_σok (n : Nat) : SpecOk Tryd.prog (lex_Tokens_σ n) := (inst_ok (fun x e y h => lex_skip_c n x.1 x.2.1 y h) (inst_ok (fun x e y h => lex_one_c n x.1 x.2.1 y h) (SpecOk.none _)))
def lex_Tokens_Φ (n : Nat) : Orc := with_ Tryd.prog (lex_Tokens_σ n) [] n 0 hsL
def lex_Tokens_v (n : Nat) (s0 : ByteArray) : Option (((Bool × Rows) × Int × Int × Unit) × Unit) :=
 DM.denFn tm (lex_Tokens_Φ n) lex_Tokens_lv n Tryd.f26 false [aS s0] [] (OSh.chk (OSh.plain (.tup [.sl kdK, .i .i64, .i .i64]) []))
def lex_Tokens_l4 (n : Nat) (s0 : ByteArray) (i0 : Nat) (j2 : Int) (b5 : Bool) (r6 : List (List DV)) : Option (((Bool × Rows) × Int × Int × Unit) × Unit) :=
 DM.loopFn tm (lex_Tokens_Φ n) lex_Tokens_lv n Tryd.f26 false [] (OSh.chk (OSh.plain (.tup [.sl kdK, .i .i64, .i .i64]) [])) 4 [] i0 (St.mk ([aS s0, Jk, AV.sl b5 kdK r6 (Right.tok 2), aI j2] ++ jk 32) [])
theorem lex_Tokens_s4 (n : Nat) (s0 : ByteArray) (i0 : Nat) (j2 : Int) (b5 : Bool) (r6 : List (List DV)) : lex_Tokens_l4 n s0 (i0 + 1) j2 b5 r6 =
 bif decide (j2 < (↑(ByteArray.size s0) : Int)) then
 obind (lex_one_v n s0 j2) fun y7 =>
 bif y7.fst.snd.snd.fst != 0 then
 some (((true, []), (j2, (y7.fst.snd.snd.fst, ()))), ())
 else if (List.length r6 + List.length [[DV.val (Value.int .i64 y7.fst.fst.fst), DV.val (Value.string y7.fst.fst.snd.fst), DV.val (Value.int .i64 y7.fst.fst.snd.snd.fst), DV.val (Value.int .i64 y7.fst.fst.snd.snd.snd.fst)]]) * 40 ≤ 140737488355328 then
 obind (lex_skip_v n s0 y7.fst.snd.fst) fun y8 =>
 lex_Tokens_l4 n s0 i0 y8.fst (b5 && List.isEmpty [[DV.val (Value.int .i64 y7.fst.fst.fst), DV.val (Value.string y7.fst.fst.snd.fst), DV.val (Value.int .i64 y7.fst.fst.snd.snd.fst), DV.val (Value.int .i64 y7.fst.fst.snd.snd.snd.fst)]]) (appX r6 [[DV.val (Value.int .i64 y7.fst.fst.fst), DV.val (Value.string y7.fst.fst.snd.fst), DV.val (Value.int .i64 y7.fst.fst.snd.snd.fst), DV.val (Value.int .i64 y7.fst.fst.snd.snd.snd.fst)]])
 else none
 else some (((b5, r6), (0, (0, ()))), ()) := by kernel_rfl
theorem lex_Tokens_e (n : Nat) (s0 : ByteArray) : lex_Tokens_v n s0 =
 bif decide ((↑(ByteArray.size s0) : Int) > 4096) then
 some (((true, []), (0, (3, ()))), ())
 else obind (lex_skip_v n s0 0) fun y1 =>
 lex_Tokens_l4 n s0 n y1.fst true [] := by kernel_rfl
theorem lex_Tokens_c (n : Nat) (s0 : ByteArray) (y : ((Bool × Rows) × Int × Int × Unit) × Unit) (h : lex_Tokens_v n s0 = some y) : Contract Tryd.prog 26 [aS s0] [] (OSh.enc (OSh.plain (.tup [.sl kdK, .i .i64, .i .i64]) []) y) :=
 ac (OSh.plain (.tup [.sl kdK, .i .i64, .i .i64]) []) (lex_Tokens_σok n) Tryd.func26 (by decide) h
def pp_next_lv : Live := []
def pp_next_σ (n : Nat) : Spec := Spec.none
theorem pp_next_σok (n : Nat) : SpecOk Tryd.prog (pp_next_σ n) := (SpecOk.none _)
def pp_next_Φ (n : Nat) : Orc := with_ Tryd.prog (pp_next_σ n) [] n 0 hsL
def pp_next_v (n : Nat) (b0 : Bool) (r1 : Rows) (j2 : Int) : Option ((Int × ByteArray × Int × Int × Unit) × ((Bool × Rows) × Int × Unit) × Unit) :=
 DM.denFn tm (pp_next_Φ n) pp_next_lv n Tryd.f45 false [AV.pl 1000 0] [[AV.sl b0 kdK r1 Right.no, aI j2]] (OSh.chk (OSh.plain (.agg [.i .i64, .s, .i .i64, .i .i64]) [[.sl kdK, .i .i64]]))
theorem pp_next_e (n : Nat) (b0 : Bool) (r1 : Rows) (j2 : Int) : pp_next_v n b0 r1 j2 =
 bif (↑(List.length r1) : Int) == 0 then
 some ((0, (ByteArray.mk #[], (0, (j2, ())))), (((b0, r1), (j2, ())), ()))
 else if 0 < (↑(List.length r1) : Int) then
 some ((Row.I (List.getD r1 0 []) 0, (Row.S (List.getD r1 0 []) 1, (Row.I (List.getD r1 0 []) 2, (Row.I (List.getD r1 0 []) 3, ())))), (((b0, r1), (j2, ())), ()))
 else none := by kernel_rfl
theorem pp_next_c (n : Nat) (b0 : Bool) (r1 : Rows) (j2 : Int) (y : (Int × ByteArray × Int × Int × Unit) × ((Bool × Rows) × Int × Unit) × Unit) (h : pp_next_v n b0 r1 j2 = some y) : Contract Tryd.prog 45 [AV.pl 1000 0] [[AV.sl b0 kdK r1 Right.no, aI j2]] (OSh.enc (OSh.plain (.agg [.i .i64, .s, .i .i64, .i .i64]) [[.sl kdK, .i .i64]]) y) :=
 ac (OSh.plain (.agg [.i .i64, .s, .i .i64, .i .i64]) [[.sl kdK, .i .i64]]) (pp_next_σok n) Tryd.func45 (by decide) h
def parse_kept_lv : Live := []
def parse_kept_σ (n : Nat) : Spec := Spec.none
theorem parse_kept_σok (n : Nat) : SpecOk Tryd.prog (parse_kept_σ n) := (SpecOk.none _)
def parse_kept_Φ (n : Nat) : Orc := with_ Tryd.prog (parse_kept_σ n) [] n 0 hsL
def parse_kept_v (n : Nat) (s0 : ByteArray) : Option (Bool × Unit) :=
 DM.denFn tm (parse_kept_Φ n) parse_kept_lv n Tryd.f46 false [aS s0] [] (OSh.chk (OSh.plain (.b) []))
theorem parse_kept_e (n : Nat) (s0 : ByteArray) : parse_kept_v n s0 =
 bif s0 == ByteArray.mk #[115, 97, 121, 115] then
 some (true, ())
 else bif s0 == ByteArray.mk #[116, 111] then
 some (true, ())
 else some (s0 == ByteArray.mk #[97, 116], ()) := by kernel_rfl
theorem parse_kept_c (n : Nat) (s0 : ByteArray) (y : Bool × Unit) (h : parse_kept_v n s0 = some y) : Contract Tryd.prog 46 [aS s0] [] (OSh.enc (OSh.plain (.b) []) y) :=
 ac (OSh.plain (.b) []) (parse_kept_σok n) Tryd.func46 (by decide) h
def pp_begins_lv : Live := []
def pp_begins_σ (n : Nat) : Spec := (inst 45 [.pl 1000 0] [[.sl kdK, .i .i64]] (OSh.plain (.agg [.i .i64, .s, .i .i64, .i .i64]) [[.sl kdK, .i .i64]]) (fun x e => pp_next_v n e.1.1.1 e.1.1.2 e.1.2.1) (inst 46 [.s] [] (OSh.plain (.b) []) (fun x e => parse_kept_v n x.1) Spec.none))
theorem pp_begins_σok (n : Nat) : SpecOk Tryd.prog (pp_begins_σ n) := (inst_ok (fun x e y h => pp_next_c n e.1.1.1 e.1.1.2 e.1.2.1 y h) (inst_ok (fun x e y h => parse_kept_c n x.1 y h) (SpecOk.none _)))
def pp_begins_Φ (n : Nat) : Orc := with_ Tryd.prog (pp_begins_σ n) [] n 0 hsL
def pp_begins_v (n : Nat) (b0 : Bool) (r1 : Rows) (j2 : Int) : Option (Bool × ((Bool × Rows) × Int × Unit) × Unit) :=
 DM.denFn tm (pp_begins_Φ n) pp_begins_lv n Tryd.f28 false [AV.pl 1000 0] [[AV.sl b0 kdK r1 Right.no, aI j2]] (OSh.chk (OSh.plain (.b) [[.sl kdK, .i .i64]]))
theorem pp_begins_e (n : Nat) (b0 : Bool) (r1 : Rows) (j2 : Int) : pp_begins_v n b0 r1 j2 =
 obind (pp_next_v n b0 r1 j2) fun y3 =>
 bif y3.fst.fst == 2 then
 some (true, (((y3.snd.fst.fst.fst, y3.snd.fst.fst.snd), (y3.snd.fst.snd.fst, ())), ()))
 else bif y3.fst.fst == 3 then
 some (true, (((y3.snd.fst.fst.fst, y3.snd.fst.fst.snd), (y3.snd.fst.snd.fst, ())), ()))
 else bif y3.fst.fst == 1 then
 obind (parse_kept_v n y3.fst.snd.fst) fun y4 =>
 bif !y4.fst then
 some (true, (((y3.snd.fst.fst.fst, y3.snd.fst.fst.snd), (y3.snd.fst.snd.fst, ())), ()))
 else bif y3.fst.fst == 4 then
 some (!y3.fst.snd.fst == ByteArray.mk #[], (((y3.snd.fst.fst.fst, y3.snd.fst.fst.snd), (y3.snd.fst.snd.fst, ())), ()))
 else some (false, (((y3.snd.fst.fst.fst, y3.snd.fst.fst.snd), (y3.snd.fst.snd.fst, ())), ()))
 else bif y3.fst.fst == 4 then
 some (!y3.fst.snd.fst == ByteArray.mk #[], (((y3.snd.fst.fst.fst, y3.snd.fst.fst.snd), (y3.snd.fst.snd.fst, ())), ()))
 else some (false, (((y3.snd.fst.fst.fst, y3.snd.fst.fst.snd), (y3.snd.fst.snd.fst, ())), ())) := by kernel_rfl
theorem pp_begins_c (n : Nat) (b0 : Bool) (r1 : Rows) (j2 : Int) (y : Bool × ((Bool × Rows) × Int × Unit) × Unit) (h : pp_begins_v n b0 r1 j2 = some y) : Contract Tryd.prog 28 [AV.pl 1000 0] [[AV.sl b0 kdK r1 Right.no, aI j2]] (OSh.enc (OSh.plain (.b) [[.sl kdK, .i .i64]]) y) :=
 ac (OSh.plain (.b) [[.sl kdK, .i .i64]]) (pp_begins_σok n) Tryd.func28 (by decide) h
def pp_fail_lv : Live := []
def pp_fail_σ (n : Nat) : Spec := (inst 45 [.pl 1000 0] [[.sl kdK, .i .i64]] (OSh.plain (.agg [.i .i64, .s, .i .i64, .i .i64]) [[.sl kdK, .i .i64]]) (fun x e => pp_next_v n e.1.1.1 e.1.1.2 e.1.2.1) Spec.none)
theorem pp_fail_σok (n : Nat) : SpecOk Tryd.prog (pp_fail_σ n) := (inst_ok (fun x e y h => pp_next_c n e.1.1.1 e.1.1.2 e.1.2.1 y h) (SpecOk.none _))
def pp_fail_Φ (n : Nat) : Orc := with_ Tryd.prog (pp_fail_σ n) [] n 0 hsL
def pp_fail_v (n : Nat) (j0 : Int) (b1 : Bool) (r2 : Rows) (j3 : Int) : Option (Bool × Unit × (Int × Int × Unit) × ((Bool × Rows) × Int × Unit) × Unit) :=
 DM.denFn tm (pp_fail_Φ n) pp_fail_lv n Tryd.f29 false [AV.pl 1000 0, aI j0] [[AV.sl b1 kdK r2 Right.no, aI j3]] (OSh.chk (OSh.pan (.junk) (.ifc 67 (.agg [.i .i64, .i .i64])) [[.sl kdK, .i .i64]]))
theorem pp_fail_e (n : Nat) (j0 : Int) (b1 : Bool) (r2 : Rows) (j3 : Int) : pp_fail_v n j0 b1 r2 j3 =
 obind (pp_next_v n b1 r2 j3) fun y4 =>
 some (true, Sh.dflt (.junk), (y4.fst.snd.snd.snd.fst, (j0, ())), (((y4.snd.fst.fst.fst, y4.snd.fst.fst.snd), (y4.snd.fst.snd.fst, ())), ())) := by kernel_rfl
theorem pp_fail_c (n : Nat) (j0 : Int) (b1 : Bool) (r2 : Rows) (j3 : Int) (y : Bool × Unit × (Int × Int × Unit) × ((Bool × Rows) × Int × Unit) × Unit) (h : pp_fail_v n j0 b1 r2 j3 = some y) : Contract Tryd.prog 29 [AV.pl 1000 0, aI j0] [[AV.sl b1 kdK r2 Right.no, aI j3]] (OSh.enc (OSh.pan (.junk) (.ifc 67 (.agg [.i .i64, .i .i64])) [[.sl kdK, .i .i64]]) y) :=
 ac (OSh.pan (.junk) (.ifc 67 (.agg [.i .i64, .i .i64])) [[.sl kdK, .i .i64]]) (pp_fail_σok n) Tryd.func29 (by decide) h
def pp_term_lv : Live := []
def pp_term_σ (n : Nat) : Spec := (inst 28 [.pl 1000 0] [[.sl kdK, .i .i64]] (OSh.plain (.b) [[.sl kdK, .i .i64]]) (fun x e => pp_begins_v n e.1.1.1 e.1.1.2 e.1.2.1) (inst 29 [.pl 1000 0, .i .i64] [[.sl kdK, .i .i64]] (OSh.pan (.junk) (.ifc 67 (.agg [.i .i64, .i .i64])) [[.sl kdK, .i .i64]]) (fun x e => pp_fail_v n x.2.1 e.1.1.1 e.1.1.2 e.1.2.1) (inst 45 [.pl 1000 0] [[.sl kdK, .i .i64]] (OSh.plain (.agg [.i .i64, .s, .i .i64, .i .i64]) [[.sl kdK, .i .i64]]) (fun x e => pp_next_v n e.1.1.1 e.1.1.2 e.1.2.1) Spec.none)))
theorem pp_term_σok (n : Nat) : SpecOk Tryd.prog (pp_term_σ n) := (inst_ok (fun x e y h => pp_begins_c n e.1.1.1 e.1.1.2 e.1.2.1 y h) (inst_ok (fun x e y h => pp_fail_c n x.2.1 e.1.1.1 e.1.1.2 e.1.2.1 y h) (inst_ok (fun x e y h => pp_next_c n e.1.1.1 e.1.1.2 e.1.2.1 y h) (SpecOk.none _))))
def pp_term_Φ (n : Nat) : Orc := with_ Tryd.prog (pp_term_σ n) [] n 0 hsL
def pp_term_v (n : Nat) (b0 : Bool) (r1 : Rows) (j2 : Int) : Option (Bool × (ByteArray × Bool × Int × ByteArray × Unit) × (Int × Int × Unit) × ((Bool × Rows) × Int × Unit) × Unit) :=
 DM.denFn tm (pp_term_Φ n) pp_term_lv n Tryd.f47 false [AV.pl 1000 0] [[AV.sl b0 kdK r1 Right.no, aI j2]] (OSh.chk (OSh.pan (.agg [.s, .b, .i .i64, .s]) (.ifc 67 (.agg [.i .i64, .i .i64])) [[.sl kdK, .i .i64]]))
theorem pp_term_e (n : Nat) (b0 : Bool) (r1 : Rows) (j2 : Int) : pp_term_v n b0 r1 j2 =
 obind (pp_begins_v n b0 r1 j2) fun y3 =>
 bif !y3.fst then
 obind (pp_fail_v n 80 y3.snd.fst.fst.fst y3.snd.fst.fst.snd y3.snd.fst.snd.fst) fun y4 =>
 bif y4.fst then
 some (true, Sh.dflt (.agg [.s, .b, .i .i64, .s]), (y4.snd.snd.fst.fst, (y4.snd.snd.fst.snd.fst, ())), (((y4.snd.snd.snd.fst.fst.fst, y4.snd.snd.snd.fst.fst.snd), (y4.snd.snd.snd.fst.snd.fst, ())), ()))
 else obind (pp_next_v n y4.snd.snd.snd.fst.fst.fst y4.snd.snd.snd.fst.fst.snd y4.snd.snd.snd.fst.snd.fst) fun y5 =>
 if 1 ≤ (↑(List.length y5.snd.fst.fst.snd) : Int) then
 if (↑(List.length y5.snd.fst.fst.snd) : Int) ≤ (↑(List.length y5.snd.fst.fst.snd) : Int) then
 bif y5.fst.fst == 2 then
 some (false, (y5.fst.snd.fst, (false, (0, (ByteArray.mk #[], ())))), Sh.dflt (.ifc 67 (.agg [.i .i64, .i .i64])), (((y5.snd.fst.fst.fst, List.drop 1 (List.take (Int.toNat (↑(List.length y5.snd.fst.fst.snd) : Int)) y5.snd.fst.fst.snd)), (y5.snd.fst.snd.fst, ())), ()))
 else bif y5.fst.fst == 3 then
 some (false, (ByteArray.mk #[], (true, (y5.fst.snd.snd.fst, (ByteArray.mk #[], ())))), Sh.dflt (.ifc 67 (.agg [.i .i64, .i .i64])), (((y5.snd.fst.fst.fst, List.drop 1 (List.take (Int.toNat (↑(List.length y5.snd.fst.fst.snd) : Int)) y5.snd.fst.fst.snd)), (y5.snd.fst.snd.fst, ())), ()))
 else some (false, (ByteArray.mk #[], (false, (0, (y5.fst.snd.fst, ())))), Sh.dflt (.ifc 67 (.agg [.i .i64, .i .i64])), (((y5.snd.fst.fst.fst, List.drop 1 (List.take (Int.toNat (↑(List.length y5.snd.fst.fst.snd) : Int)) y5.snd.fst.fst.snd)), (y5.snd.fst.snd.fst, ())), ()))
 else none
 else none
 else obind (pp_next_v n y3.snd.fst.fst.fst y3.snd.fst.fst.snd y3.snd.fst.snd.fst) fun y6 =>
 if 1 ≤ (↑(List.length y6.snd.fst.fst.snd) : Int) then
 if (↑(List.length y6.snd.fst.fst.snd) : Int) ≤ (↑(List.length y6.snd.fst.fst.snd) : Int) then
 bif y6.fst.fst == 2 then
 some (false, (y6.fst.snd.fst, (false, (0, (ByteArray.mk #[], ())))), Sh.dflt (.ifc 67 (.agg [.i .i64, .i .i64])), (((y6.snd.fst.fst.fst, List.drop 1 (List.take (Int.toNat (↑(List.length y6.snd.fst.fst.snd) : Int)) y6.snd.fst.fst.snd)), (y6.snd.fst.snd.fst, ())), ()))
 else bif y6.fst.fst == 3 then
 some (false, (ByteArray.mk #[], (true, (y6.fst.snd.snd.fst, (ByteArray.mk #[], ())))), Sh.dflt (.ifc 67 (.agg [.i .i64, .i .i64])), (((y6.snd.fst.fst.fst, List.drop 1 (List.take (Int.toNat (↑(List.length y6.snd.fst.fst.snd) : Int)) y6.snd.fst.fst.snd)), (y6.snd.fst.snd.fst, ())), ()))
 else some (false, (ByteArray.mk #[], (false, (0, (y6.fst.snd.fst, ())))), Sh.dflt (.ifc 67 (.agg [.i .i64, .i .i64])), (((y6.snd.fst.fst.fst, List.drop 1 (List.take (Int.toNat (↑(List.length y6.snd.fst.fst.snd) : Int)) y6.snd.fst.fst.snd)), (y6.snd.fst.snd.fst, ())), ()))
 else none
 else none := by kernel_rfl
theorem pp_term_c (n : Nat) (b0 : Bool) (r1 : Rows) (j2 : Int) (y : Bool × (ByteArray × Bool × Int × ByteArray × Unit) × (Int × Int × Unit) × ((Bool × Rows) × Int × Unit) × Unit) (h : pp_term_v n b0 r1 j2 = some y) : Contract Tryd.prog 47 [AV.pl 1000 0] [[AV.sl b0 kdK r1 Right.no, aI j2]] (OSh.enc (OSh.pan (.agg [.s, .b, .i .i64, .s]) (.ifc 67 (.agg [.i .i64, .i .i64])) [[.sl kdK, .i .i64]]) y) :=
 ac (OSh.pan (.agg [.s, .b, .i .i64, .s]) (.ifc 67 (.agg [.i .i64, .i .i64])) [[.sl kdK, .i .i64]]) (pp_term_σok n) Tryd.func47 (by decide) h
def pp_is_lv : Live := []
def pp_is_σ (n : Nat) : Spec := (inst 45 [.pl 1000 0] [[.sl kdK, .i .i64]] (OSh.plain (.agg [.i .i64, .s, .i .i64, .i .i64]) [[.sl kdK, .i .i64]]) (fun x e => pp_next_v n e.1.1.1 e.1.1.2 e.1.2.1) (inst 46 [.s] [] (OSh.plain (.b) []) (fun x e => parse_kept_v n x.1) Spec.none))
theorem pp_is_σok (n : Nat) : SpecOk Tryd.prog (pp_is_σ n) := (inst_ok (fun x e y h => pp_next_c n e.1.1.1 e.1.1.2 e.1.2.1 y h) (inst_ok (fun x e y h => parse_kept_c n x.1 y h) (SpecOk.none _)))
def pp_is_Φ (n : Nat) : Orc := with_ Tryd.prog (pp_is_σ n) [] n 0 hsL
def pp_is_v (n : Nat) (s0 : ByteArray) (b1 : Bool) (r2 : Rows) (j3 : Int) : Option (Bool × ((Bool × Rows) × Int × Unit) × Unit) :=
 DM.denFn tm (pp_is_Φ n) pp_is_lv n Tryd.f78 false [AV.pl 1000 0, aS s0] [[AV.sl b1 kdK r2 Right.no, aI j3]] (OSh.chk (OSh.plain (.b) [[.sl kdK, .i .i64]]))
theorem pp_is_e (n : Nat) (s0 : ByteArray) (b1 : Bool) (r2 : Rows) (j3 : Int) : pp_is_v n s0 b1 r2 j3 =
 obind (pp_next_v n b1 r2 j3) fun y4 =>
 bif y4.fst.snd.fst == s0 then
 bif y4.fst.fst == 5 then
 some (true, (((y4.snd.fst.fst.fst, y4.snd.fst.fst.snd), (y4.snd.fst.snd.fst, ())), ()))
 else bif y4.fst.fst == 1 then
 obind (parse_kept_v n s0) fun y5 =>
 some (y5.fst, (((y4.snd.fst.fst.fst, y4.snd.fst.fst.snd), (y4.snd.fst.snd.fst, ())), ()))
 else some (false, (((y4.snd.fst.fst.fst, y4.snd.fst.fst.snd), (y4.snd.fst.snd.fst, ())), ()))
 else some (false, (((y4.snd.fst.fst.fst, y4.snd.fst.fst.snd), (y4.snd.fst.snd.fst, ())), ())) := by kernel_rfl
theorem pp_is_c (n : Nat) (s0 : ByteArray) (b1 : Bool) (r2 : Rows) (j3 : Int) (y : Bool × ((Bool × Rows) × Int × Unit) × Unit) (h : pp_is_v n s0 b1 r2 j3 = some y) : Contract Tryd.prog 78 [AV.pl 1000 0, aS s0] [[AV.sl b1 kdK r2 Right.no, aI j3]] (OSh.enc (OSh.plain (.b) [[.sl kdK, .i .i64]]) y) :=
 ac (OSh.plain (.b) [[.sl kdK, .i .i64]]) (pp_is_σok n) Tryd.func78 (by decide) h
def pp_pass_lv : Live := []
def pp_pass_σ (n : Nat) : Spec := (inst 78 [.pl 1000 0, .s] [[.sl kdK, .i .i64]] (OSh.plain (.b) [[.sl kdK, .i .i64]]) (fun x e => pp_is_v n x.2.1 e.1.1.1 e.1.1.2 e.1.2.1) Spec.none)
theorem pp_pass_σok (n : Nat) : SpecOk Tryd.prog (pp_pass_σ n) := (inst_ok (fun x e y h => pp_is_c n x.2.1 e.1.1.1 e.1.1.2 e.1.2.1 y h) (SpecOk.none _))
def pp_pass_Φ (n : Nat) : Orc := with_ Tryd.prog (pp_pass_σ n) [] n 0 hsL
def pp_pass_v (n : Nat) (s0 : ByteArray) (b1 : Bool) (r2 : Rows) (j3 : Int) : Option (Bool × ((Bool × Rows) × Int × Unit) × Unit) :=
 DM.denFn tm (pp_pass_Φ n) pp_pass_lv n Tryd.f51 false [AV.pl 1000 0, aS s0] [[AV.sl b1 kdK r2 Right.no, aI j3]] (OSh.chk (OSh.plain (.b) [[.sl kdK, .i .i64]]))
theorem pp_pass_e (n : Nat) (s0 : ByteArray) (b1 : Bool) (r2 : Rows) (j3 : Int) : pp_pass_v n s0 b1 r2 j3 =
 obind (pp_is_v n s0 b1 r2 j3) fun y4 =>
 bif !y4.fst then
 some (false, (((y4.snd.fst.fst.fst, y4.snd.fst.fst.snd), (y4.snd.fst.snd.fst, ())), ()))
 else if 1 ≤ (↑(List.length y4.snd.fst.fst.snd) : Int) then
 if (↑(List.length y4.snd.fst.fst.snd) : Int) ≤ (↑(List.length y4.snd.fst.fst.snd) : Int) then
 some (true, (((y4.snd.fst.fst.fst, List.drop 1 (List.take (Int.toNat (↑(List.length y4.snd.fst.fst.snd) : Int)) y4.snd.fst.fst.snd)), (y4.snd.fst.snd.fst, ())), ()))
 else none
 else none := by kernel_rfl
theorem pp_pass_c (n : Nat) (s0 : ByteArray) (b1 : Bool) (r2 : Rows) (j3 : Int) (y : Bool × ((Bool × Rows) × Int × Unit) × Unit) (h : pp_pass_v n s0 b1 r2 j3 = some y) : Contract Tryd.prog 51 [AV.pl 1000 0, aS s0] [[AV.sl b1 kdK r2 Right.no, aI j3]] (OSh.enc (OSh.plain (.b) [[.sl kdK, .i .i64]]) y) :=
 ac (OSh.plain (.b) [[.sl kdK, .i .i64]]) (pp_pass_σok n) Tryd.func51 (by decide) h
def pp_must_lv : Live := []
def pp_must_σ (n : Nat) : Spec := (inst 51 [.pl 1000 0, .s] [[.sl kdK, .i .i64]] (OSh.plain (.b) [[.sl kdK, .i .i64]]) (fun x e => pp_pass_v n x.2.1 e.1.1.1 e.1.1.2 e.1.2.1) (inst 29 [.pl 1000 0, .i .i64] [[.sl kdK, .i .i64]] (OSh.pan (.junk) (.ifc 67 (.agg [.i .i64, .i .i64])) [[.sl kdK, .i .i64]]) (fun x e => pp_fail_v n x.2.1 e.1.1.1 e.1.1.2 e.1.2.1) Spec.none))
theorem pp_must_σok (n : Nat) : SpecOk Tryd.prog (pp_must_σ n) := (inst_ok (fun x e y h => pp_pass_c n x.2.1 e.1.1.1 e.1.1.2 e.1.2.1 y h) (inst_ok (fun x e y h => pp_fail_c n x.2.1 e.1.1.1 e.1.1.2 e.1.2.1 y h) (SpecOk.none _)))
def pp_must_Φ (n : Nat) : Orc := with_ Tryd.prog (pp_must_σ n) [] n 0 hsL
def pp_must_v (n : Nat) (s0 : ByteArray) (b1 : Bool) (r2 : Rows) (j3 : Int) : Option (Bool × Unit × (Int × Int × Unit) × ((Bool × Rows) × Int × Unit) × Unit) :=
 DM.denFn tm (pp_must_Φ n) pp_must_lv n Tryd.f48 false [AV.pl 1000 0, aS s0] [[AV.sl b1 kdK r2 Right.no, aI j3]] (OSh.chk (OSh.pan (.tup []) (.ifc 67 (.agg [.i .i64, .i .i64])) [[.sl kdK, .i .i64]]))
theorem pp_must_e (n : Nat) (s0 : ByteArray) (b1 : Bool) (r2 : Rows) (j3 : Int) : pp_must_v n s0 b1 r2 j3 =
 obind (pp_pass_v n s0 b1 r2 j3) fun y4 =>
 bif !y4.fst then
 obind (pp_fail_v n 80 y4.snd.fst.fst.fst y4.snd.fst.fst.snd y4.snd.fst.snd.fst) fun y5 =>
 bif y5.fst then
 some (true, Sh.dflt (.tup []), (y5.snd.snd.fst.fst, (y5.snd.snd.fst.snd.fst, ())), (((y5.snd.snd.snd.fst.fst.fst, y5.snd.snd.snd.fst.fst.snd), (y5.snd.snd.snd.fst.snd.fst, ())), ()))
 else some (false, (), Sh.dflt (.ifc 67 (.agg [.i .i64, .i .i64])), (((y5.snd.snd.snd.fst.fst.fst, y5.snd.snd.snd.fst.fst.snd), (y5.snd.snd.snd.fst.snd.fst, ())), ()))
 else some (false, (), Sh.dflt (.ifc 67 (.agg [.i .i64, .i .i64])), (((y4.snd.fst.fst.fst, y4.snd.fst.fst.snd), (y4.snd.fst.snd.fst, ())), ())) := by kernel_rfl
theorem pp_must_c (n : Nat) (s0 : ByteArray) (b1 : Bool) (r2 : Rows) (j3 : Int) (y : Bool × Unit × (Int × Int × Unit) × ((Bool × Rows) × Int × Unit) × Unit) (h : pp_must_v n s0 b1 r2 j3 = some y) : Contract Tryd.prog 48 [AV.pl 1000 0, aS s0] [[AV.sl b1 kdK r2 Right.no, aI j3]] (OSh.enc (OSh.pan (.tup []) (.ifc 67 (.agg [.i .i64, .i .i64])) [[.sl kdK, .i .i64]]) y) :=
 ac (OSh.pan (.tup []) (.ifc 67 (.agg [.i .i64, .i .i64])) [[.sl kdK, .i .i64]]) (pp_must_σok n) Tryd.func48 (by decide) h
def pp_word_lv : Live := []
def pp_word_σ (n : Nat) : Spec := (inst 45 [.pl 1000 0] [[.sl kdK, .i .i64]] (OSh.plain (.agg [.i .i64, .s, .i .i64, .i .i64]) [[.sl kdK, .i .i64]]) (fun x e => pp_next_v n e.1.1.1 e.1.1.2 e.1.2.1) (inst 29 [.pl 1000 0, .i .i64] [[.sl kdK, .i .i64]] (OSh.pan (.junk) (.ifc 67 (.agg [.i .i64, .i .i64])) [[.sl kdK, .i .i64]]) (fun x e => pp_fail_v n x.2.1 e.1.1.1 e.1.1.2 e.1.2.1) (inst 46 [.s] [] (OSh.plain (.b) []) (fun x e => parse_kept_v n x.1) Spec.none)))
theorem pp_word_σok (n : Nat) : SpecOk Tryd.prog (pp_word_σ n) := (inst_ok (fun x e y h => pp_next_c n e.1.1.1 e.1.1.2 e.1.2.1 y h) (inst_ok (fun x e y h => pp_fail_c n x.2.1 e.1.1.1 e.1.1.2 e.1.2.1 y h) (inst_ok (fun x e y h => parse_kept_c n x.1 y h) (SpecOk.none _))))
def pp_word_Φ (n : Nat) : Orc := with_ Tryd.prog (pp_word_σ n) [] n 0 hsL
def pp_word_v (n : Nat) (b0 : Bool) (r1 : Rows) (j2 : Int) : Option (Bool × ByteArray × (Int × Int × Unit) × ((Bool × Rows) × Int × Unit) × Unit) :=
 DM.denFn tm (pp_word_Φ n) pp_word_lv n Tryd.f49 false [AV.pl 1000 0] [[AV.sl b0 kdK r1 Right.no, aI j2]] (OSh.chk (OSh.pan (.s) (.ifc 67 (.agg [.i .i64, .i .i64])) [[.sl kdK, .i .i64]]))
theorem pp_word_e (n : Nat) (b0 : Bool) (r1 : Rows) (j2 : Int) : pp_word_v n b0 r1 j2 =
 obind (pp_next_v n b0 r1 j2) fun y3 =>
 bif y3.fst.fst != 1 then
 obind (pp_fail_v n 80 y3.snd.fst.fst.fst y3.snd.fst.fst.snd y3.snd.fst.snd.fst) fun y4 =>
 bif y4.fst then
 some (true, Sh.dflt (.s), (y4.snd.snd.fst.fst, (y4.snd.snd.fst.snd.fst, ())), (((y4.snd.snd.snd.fst.fst.fst, y4.snd.snd.snd.fst.fst.snd), (y4.snd.snd.snd.fst.snd.fst, ())), ()))
 else if 1 ≤ (↑(List.length y4.snd.snd.snd.fst.fst.snd) : Int) then
 if (↑(List.length y4.snd.snd.snd.fst.fst.snd) : Int) ≤ (↑(List.length y4.snd.snd.snd.fst.fst.snd) : Int) then
 some (false, y3.fst.snd.fst, Sh.dflt (.ifc 67 (.agg [.i .i64, .i .i64])), (((y4.snd.snd.snd.fst.fst.fst, List.drop 1 (List.take (Int.toNat (↑(List.length y4.snd.snd.snd.fst.fst.snd) : Int)) y4.snd.snd.snd.fst.fst.snd)), (y4.snd.snd.snd.fst.snd.fst, ())), ()))
 else none
 else none
 else obind (parse_kept_v n y3.fst.snd.fst) fun y5 =>
 bif y5.fst then
 obind (pp_fail_v n 80 y3.snd.fst.fst.fst y3.snd.fst.fst.snd y3.snd.fst.snd.fst) fun y6 =>
 bif y6.fst then
 some (true, Sh.dflt (.s), (y6.snd.snd.fst.fst, (y6.snd.snd.fst.snd.fst, ())), (((y6.snd.snd.snd.fst.fst.fst, y6.snd.snd.snd.fst.fst.snd), (y6.snd.snd.snd.fst.snd.fst, ())), ()))
 else if 1 ≤ (↑(List.length y6.snd.snd.snd.fst.fst.snd) : Int) then
 if (↑(List.length y6.snd.snd.snd.fst.fst.snd) : Int) ≤ (↑(List.length y6.snd.snd.snd.fst.fst.snd) : Int) then
 some (false, y3.fst.snd.fst, Sh.dflt (.ifc 67 (.agg [.i .i64, .i .i64])), (((y6.snd.snd.snd.fst.fst.fst, List.drop 1 (List.take (Int.toNat (↑(List.length y6.snd.snd.snd.fst.fst.snd) : Int)) y6.snd.snd.snd.fst.fst.snd)), (y6.snd.snd.snd.fst.snd.fst, ())), ()))
 else none
 else none
 else if 1 ≤ (↑(List.length y3.snd.fst.fst.snd) : Int) then
 if (↑(List.length y3.snd.fst.fst.snd) : Int) ≤ (↑(List.length y3.snd.fst.fst.snd) : Int) then
 some (false, y3.fst.snd.fst, Sh.dflt (.ifc 67 (.agg [.i .i64, .i .i64])), (((y3.snd.fst.fst.fst, List.drop 1 (List.take (Int.toNat (↑(List.length y3.snd.fst.fst.snd) : Int)) y3.snd.fst.fst.snd)), (y3.snd.fst.snd.fst, ())), ()))
 else none
 else none := by kernel_rfl
theorem pp_word_c (n : Nat) (b0 : Bool) (r1 : Rows) (j2 : Int) (y : Bool × ByteArray × (Int × Int × Unit) × ((Bool × Rows) × Int × Unit) × Unit) (h : pp_word_v n b0 r1 j2 = some y) : Contract Tryd.prog 49 [AV.pl 1000 0] [[AV.sl b0 kdK r1 Right.no, aI j2]] (OSh.enc (OSh.pan (.s) (.ifc 67 (.agg [.i .i64, .i .i64])) [[.sl kdK, .i .i64]]) y) :=
 ac (OSh.pan (.s) (.ifc 67 (.agg [.i .i64, .i .i64])) [[.sl kdK, .i .i64]]) (pp_word_σok n) Tryd.func49 (by decide) h
def pp_args_lv : Live := [(5, [0, 3], [1000, 1001, 1002, 1003])]
def pp_args_σ (n : Nat) : Spec := (inst 48 [.pl 1000 0, .s] [[.sl kdK, .i .i64]] (OSh.pan (.tup []) (.ifc 67 (.agg [.i .i64, .i .i64])) [[.sl kdK, .i .i64]]) (fun x e => pp_must_v n x.2.1 e.1.1.1 e.1.1.2 e.1.2.1) (inst 51 [.pl 1000 0, .s] [[.sl kdK, .i .i64]] (OSh.plain (.b) [[.sl kdK, .i .i64]]) (fun x e => pp_pass_v n x.2.1 e.1.1.1 e.1.1.2 e.1.2.1) (inst 28 [.pl 1000 0] [[.sl kdK, .i .i64]] (OSh.plain (.b) [[.sl kdK, .i .i64]]) (fun x e => pp_begins_v n e.1.1.1 e.1.1.2 e.1.2.1) (inst 47 [.pl 1000 0] [[.sl kdK, .i .i64]] (OSh.pan (.agg [.s, .b, .i .i64, .s]) (.ifc 67 (.agg [.i .i64, .i .i64])) [[.sl kdK, .i .i64]]) (fun x e => pp_term_v n e.1.1.1 e.1.1.2 e.1.2.1) (inst 29 [.pl 1000 0, .i .i64] [[.sl kdK, .i .i64]] (OSh.pan (.junk) (.ifc 67 (.agg [.i .i64, .i .i64])) [[.sl kdK, .i .i64]]) (fun x e => pp_fail_v n x.2.1 e.1.1.1 e.1.1.2 e.1.2.1) Spec.none)))))
theorem pp_args_σok (n : Nat) : SpecOk Tryd.prog (pp_args_σ n) := (inst_ok (fun x e y h => pp_must_c n x.2.1 e.1.1.1 e.1.1.2 e.1.2.1 y h) (inst_ok (fun x e y h => pp_pass_c n x.2.1 e.1.1.1 e.1.1.2 e.1.2.1 y h) (inst_ok (fun x e y h => pp_begins_c n e.1.1.1 e.1.1.2 e.1.2.1 y h) (inst_ok (fun x e y h => pp_term_c n e.1.1.1 e.1.1.2 e.1.2.1 y h) (inst_ok (fun x e y h => pp_fail_c n x.2.1 e.1.1.1 e.1.1.2 e.1.2.1 y h) (SpecOk.none _))))))
def pp_args_Φ (n : Nat) : Orc := with_ Tryd.prog (pp_args_σ n) [] n 0 hsL
def pp_args_v (n : Nat) (b0 : Bool) (r1 : Rows) (j2 : Int) : Option (Bool × (Bool × Rows) × (Int × Int × Unit) × ((Bool × Rows) × Int × Unit) × Unit) :=
 DM.denFn tm (pp_args_Φ n) pp_args_lv n Tryd.f50 true [AV.pl 1000 0] [[AV.sl b0 kdK r1 Right.no, aI j2]] (OSh.chk (OSh.pan (.slt kdT 0) (.ifc 67 (.agg [.i .i64, .i .i64])) [[.sl kdK, .i .i64]]))
def pp_args_l5 (n : Nat) (b0 : Bool) (r1 : Rows) (j2 : Int) (i0 : Nat) (b5 : Bool) (r6 : List (List DV)) (j7 : Int) (b15 : Bool) (r16 : List (List DV)) : Option (Bool × (Bool × Rows) × (Int × Int × Unit) × ((Bool × Rows) × Int × Unit) × Unit) :=
 DM.loopFn tm (pp_args_Φ n) pp_args_lv n Tryd.f50 true [[AV.sl b0 kdK r1 Right.no, aI j2]] (OSh.chk (OSh.pan (.slt kdT 0) (.ifc 67 (.agg [.i .i64, .i .i64])) [[.sl kdK, .i .i64]])) 5 [] i0 (St.mk ([AV.pl 1000 0, Jk, Jk, AV.sl b15 kdT r16 (Right.tok 3)] ++ jk 23) [(1000, [AV.sl b5 kdK r6 Right.no, aI j7])])
theorem pp_args_s5 (n : Nat) (b0 : Bool) (r1 : Rows) (j2 : Int) (i0 : Nat) (b5 : Bool) (r6 : List (List DV)) (j7 : Int) (b15 : Bool) (r16 : List (List DV)) : pp_args_l5 n b0 r1 j2 (i0 + 1) b5 r6 j7 b15 r16 =
 obind (pp_begins_v n b5 r6 j7) fun y17 =>
 bif y17.fst then
 bif (↑(List.length r16) : Int) == 4 then
 obind (pp_fail_v n 81 y17.snd.fst.fst.fst y17.snd.fst.fst.snd y17.snd.fst.snd.fst) fun y18 =>
 bif y18.fst then
 some (true, Sh.dflt (.slt kdT 0), (y18.snd.snd.fst.fst, (y18.snd.snd.fst.snd.fst, ())), (((y18.snd.snd.snd.fst.fst.fst, y18.snd.snd.snd.fst.fst.snd), (y18.snd.snd.snd.fst.snd.fst, ())), ()))
 else obind (pp_term_v n y18.snd.snd.snd.fst.fst.fst y18.snd.snd.snd.fst.fst.snd y18.snd.snd.snd.fst.snd.fst) fun y19 =>
 bif y19.fst then
 some (true, Sh.dflt (.slt kdT 0), (y19.snd.snd.fst.fst, (y19.snd.snd.fst.snd.fst, ())), (((y19.snd.snd.snd.fst.fst.fst, y19.snd.snd.snd.fst.fst.snd), (y19.snd.snd.snd.fst.snd.fst, ())), ()))
 else if (List.length r16 + List.length [[DV.val (Value.string y19.snd.fst.fst), DV.val (Value.bool y19.snd.fst.snd.fst), DV.val (Value.int .i64 y19.snd.fst.snd.snd.fst), DV.val (Value.string y19.snd.fst.snd.snd.snd.fst)]]) * 48 ≤ 140737488355328 then
 obind (pp_pass_v n (ByteArray.mk #[41]) y19.snd.snd.snd.fst.fst.fst y19.snd.snd.snd.fst.fst.snd y19.snd.snd.snd.fst.snd.fst) fun y20 =>
 bif y20.fst then
 some (false, (b15 && List.isEmpty [[DV.val (Value.string y19.snd.fst.fst), DV.val (Value.bool y19.snd.fst.snd.fst), DV.val (Value.int .i64 y19.snd.fst.snd.snd.fst), DV.val (Value.string y19.snd.fst.snd.snd.snd.fst)]], appX r16 [[DV.val (Value.string y19.snd.fst.fst), DV.val (Value.bool y19.snd.fst.snd.fst), DV.val (Value.int .i64 y19.snd.fst.snd.snd.fst), DV.val (Value.string y19.snd.fst.snd.snd.snd.fst)]]), Sh.dflt (.ifc 67 (.agg [.i .i64, .i .i64])), (((y20.snd.fst.fst.fst, y20.snd.fst.fst.snd), (y20.snd.fst.snd.fst, ())), ()))
 else obind (pp_must_v n (ByteArray.mk #[44]) y20.snd.fst.fst.fst y20.snd.fst.fst.snd y20.snd.fst.snd.fst) fun y21 =>
 bif y21.fst then
 some (true, Sh.dflt (.slt kdT 0), (y21.snd.snd.fst.fst, (y21.snd.snd.fst.snd.fst, ())), (((y21.snd.snd.snd.fst.fst.fst, y21.snd.snd.snd.fst.fst.snd), (y21.snd.snd.snd.fst.snd.fst, ())), ()))
 else pp_args_l5 n b0 r1 j2 i0 y21.snd.snd.snd.fst.fst.fst y21.snd.snd.snd.fst.fst.snd y21.snd.snd.snd.fst.snd.fst (b15 && List.isEmpty [[DV.val (Value.string y19.snd.fst.fst), DV.val (Value.bool y19.snd.fst.snd.fst), DV.val (Value.int .i64 y19.snd.fst.snd.snd.fst), DV.val (Value.string y19.snd.fst.snd.snd.snd.fst)]]) (appX r16 [[DV.val (Value.string y19.snd.fst.fst), DV.val (Value.bool y19.snd.fst.snd.fst), DV.val (Value.int .i64 y19.snd.fst.snd.snd.fst), DV.val (Value.string y19.snd.fst.snd.snd.snd.fst)]])
 else none
 else obind (pp_term_v n y17.snd.fst.fst.fst y17.snd.fst.fst.snd y17.snd.fst.snd.fst) fun y22 =>
 bif y22.fst then
 some (true, Sh.dflt (.slt kdT 0), (y22.snd.snd.fst.fst, (y22.snd.snd.fst.snd.fst, ())), (((y22.snd.snd.snd.fst.fst.fst, y22.snd.snd.snd.fst.fst.snd), (y22.snd.snd.snd.fst.snd.fst, ())), ()))
 else if (List.length r16 + List.length [[DV.val (Value.string y22.snd.fst.fst), DV.val (Value.bool y22.snd.fst.snd.fst), DV.val (Value.int .i64 y22.snd.fst.snd.snd.fst), DV.val (Value.string y22.snd.fst.snd.snd.snd.fst)]]) * 48 ≤ 140737488355328 then
 obind (pp_pass_v n (ByteArray.mk #[41]) y22.snd.snd.snd.fst.fst.fst y22.snd.snd.snd.fst.fst.snd y22.snd.snd.snd.fst.snd.fst) fun y23 =>
 bif y23.fst then
 some (false, (b15 && List.isEmpty [[DV.val (Value.string y22.snd.fst.fst), DV.val (Value.bool y22.snd.fst.snd.fst), DV.val (Value.int .i64 y22.snd.fst.snd.snd.fst), DV.val (Value.string y22.snd.fst.snd.snd.snd.fst)]], appX r16 [[DV.val (Value.string y22.snd.fst.fst), DV.val (Value.bool y22.snd.fst.snd.fst), DV.val (Value.int .i64 y22.snd.fst.snd.snd.fst), DV.val (Value.string y22.snd.fst.snd.snd.snd.fst)]]), Sh.dflt (.ifc 67 (.agg [.i .i64, .i .i64])), (((y23.snd.fst.fst.fst, y23.snd.fst.fst.snd), (y23.snd.fst.snd.fst, ())), ()))
 else obind (pp_must_v n (ByteArray.mk #[44]) y23.snd.fst.fst.fst y23.snd.fst.fst.snd y23.snd.fst.snd.fst) fun y24 =>
 bif y24.fst then
 some (true, Sh.dflt (.slt kdT 0), (y24.snd.snd.fst.fst, (y24.snd.snd.fst.snd.fst, ())), (((y24.snd.snd.snd.fst.fst.fst, y24.snd.snd.snd.fst.fst.snd), (y24.snd.snd.snd.fst.snd.fst, ())), ()))
 else pp_args_l5 n b0 r1 j2 i0 y24.snd.snd.snd.fst.fst.fst y24.snd.snd.snd.fst.fst.snd y24.snd.snd.snd.fst.snd.fst (b15 && List.isEmpty [[DV.val (Value.string y22.snd.fst.fst), DV.val (Value.bool y22.snd.fst.snd.fst), DV.val (Value.int .i64 y22.snd.fst.snd.snd.fst), DV.val (Value.string y22.snd.fst.snd.snd.snd.fst)]]) (appX r16 [[DV.val (Value.string y22.snd.fst.fst), DV.val (Value.bool y22.snd.fst.snd.fst), DV.val (Value.int .i64 y22.snd.fst.snd.snd.fst), DV.val (Value.string y22.snd.fst.snd.snd.snd.fst)]])
 else none
 else obind (pp_term_v n y17.snd.fst.fst.fst y17.snd.fst.fst.snd y17.snd.fst.snd.fst) fun y25 =>
 bif y25.fst then
 some (true, Sh.dflt (.slt kdT 0), (y25.snd.snd.fst.fst, (y25.snd.snd.fst.snd.fst, ())), (((y25.snd.snd.snd.fst.fst.fst, y25.snd.snd.snd.fst.fst.snd), (y25.snd.snd.snd.fst.snd.fst, ())), ()))
 else if (List.length r16 + List.length [[DV.val (Value.string y25.snd.fst.fst), DV.val (Value.bool y25.snd.fst.snd.fst), DV.val (Value.int .i64 y25.snd.fst.snd.snd.fst), DV.val (Value.string y25.snd.fst.snd.snd.snd.fst)]]) * 48 ≤ 140737488355328 then
 obind (pp_pass_v n (ByteArray.mk #[41]) y25.snd.snd.snd.fst.fst.fst y25.snd.snd.snd.fst.fst.snd y25.snd.snd.snd.fst.snd.fst) fun y26 =>
 bif y26.fst then
 some (false, (b15 && List.isEmpty [[DV.val (Value.string y25.snd.fst.fst), DV.val (Value.bool y25.snd.fst.snd.fst), DV.val (Value.int .i64 y25.snd.fst.snd.snd.fst), DV.val (Value.string y25.snd.fst.snd.snd.snd.fst)]], appX r16 [[DV.val (Value.string y25.snd.fst.fst), DV.val (Value.bool y25.snd.fst.snd.fst), DV.val (Value.int .i64 y25.snd.fst.snd.snd.fst), DV.val (Value.string y25.snd.fst.snd.snd.snd.fst)]]), Sh.dflt (.ifc 67 (.agg [.i .i64, .i .i64])), (((y26.snd.fst.fst.fst, y26.snd.fst.fst.snd), (y26.snd.fst.snd.fst, ())), ()))
 else obind (pp_must_v n (ByteArray.mk #[44]) y26.snd.fst.fst.fst y26.snd.fst.fst.snd y26.snd.fst.snd.fst) fun y27 =>
 bif y27.fst then
 some (true, Sh.dflt (.slt kdT 0), (y27.snd.snd.fst.fst, (y27.snd.snd.fst.snd.fst, ())), (((y27.snd.snd.snd.fst.fst.fst, y27.snd.snd.snd.fst.fst.snd), (y27.snd.snd.snd.fst.snd.fst, ())), ()))
 else pp_args_l5 n b0 r1 j2 i0 y27.snd.snd.snd.fst.fst.fst y27.snd.snd.snd.fst.fst.snd y27.snd.snd.snd.fst.snd.fst (b15 && List.isEmpty [[DV.val (Value.string y25.snd.fst.fst), DV.val (Value.bool y25.snd.fst.snd.fst), DV.val (Value.int .i64 y25.snd.fst.snd.snd.fst), DV.val (Value.string y25.snd.fst.snd.snd.snd.fst)]]) (appX r16 [[DV.val (Value.string y25.snd.fst.fst), DV.val (Value.bool y25.snd.fst.snd.fst), DV.val (Value.int .i64 y25.snd.fst.snd.snd.fst), DV.val (Value.string y25.snd.fst.snd.snd.snd.fst)]])
 else none := by kernel_rfl
theorem pp_args_e (n : Nat) (b0 : Bool) (r1 : Rows) (j2 : Int) : pp_args_v n b0 r1 j2 =
 obind (pp_must_v n (ByteArray.mk #[40]) b0 r1 j2) fun y3 =>
 bif y3.fst then
 some (true, Sh.dflt (.slt kdT 0), (y3.snd.snd.fst.fst, (y3.snd.snd.fst.snd.fst, ())), (((y3.snd.snd.snd.fst.fst.fst, y3.snd.snd.snd.fst.fst.snd), (y3.snd.snd.snd.fst.snd.fst, ())), ()))
 else obind (pp_pass_v n (ByteArray.mk #[41]) y3.snd.snd.snd.fst.fst.fst y3.snd.snd.snd.fst.fst.snd y3.snd.snd.snd.fst.snd.fst) fun y4 =>
 bif y4.fst then
 some (false, (true, []), Sh.dflt (.ifc 67 (.agg [.i .i64, .i .i64])), (((y4.snd.fst.fst.fst, y4.snd.fst.fst.snd), (y4.snd.fst.snd.fst, ())), ()))
 else pp_args_l5 n b0 r1 j2 n y4.snd.fst.fst.fst y4.snd.fst.fst.snd y4.snd.fst.snd.fst true [] := by kernel_rfl
theorem pp_args_c (n : Nat) (b0 : Bool) (r1 : Rows) (j2 : Int) (y : Bool × (Bool × Rows) × (Int × Int × Unit) × ((Bool × Rows) × Int × Unit) × Unit) (h : pp_args_v n b0 r1 j2 = some y) : Contract Tryd.prog 50 [AV.pl 1000 0] [[AV.sl b0 kdK r1 Right.no, aI j2]] (OSh.enc (OSh.pan (.slt kdT 0) (.ifc 67 (.agg [.i .i64, .i .i64])) [[.sl kdK, .i .i64]]) y) :=
 ac (OSh.pan (.slt kdT 0) (.ifc 67 (.agg [.i .i64, .i .i64])) [[.sl kdK, .i .i64]]) (pp_args_σok n) Tryd.func50 (by decide) h
def pp_literal_lv : Live := []
def pp_literal_σ (n : Nat) : Spec := (inst 45 [.pl 1000 0] [[.sl kdK, .i .i64]] (OSh.plain (.agg [.i .i64, .s, .i .i64, .i .i64]) [[.sl kdK, .i .i64]]) (fun x e => pp_next_v n e.1.1.1 e.1.1.2 e.1.2.1) (inst 47 [.pl 1000 0] [[.sl kdK, .i .i64]] (OSh.pan (.agg [.s, .b, .i .i64, .s]) (.ifc 67 (.agg [.i .i64, .i .i64])) [[.sl kdK, .i .i64]]) (fun x e => pp_term_v n e.1.1.1 e.1.1.2 e.1.2.1) (inst 48 [.pl 1000 0, .s] [[.sl kdK, .i .i64]] (OSh.pan (.tup []) (.ifc 67 (.agg [.i .i64, .i .i64])) [[.sl kdK, .i .i64]]) (fun x e => pp_must_v n x.2.1 e.1.1.1 e.1.1.2 e.1.2.1) (inst 49 [.pl 1000 0] [[.sl kdK, .i .i64]] (OSh.pan (.s) (.ifc 67 (.agg [.i .i64, .i .i64])) [[.sl kdK, .i .i64]]) (fun x e => pp_word_v n e.1.1.1 e.1.1.2 e.1.2.1) (inst 50 [.pl 1000 0] [[.sl kdK, .i .i64]] (OSh.pan (.slt kdT 0) (.ifc 67 (.agg [.i .i64, .i .i64])) [[.sl kdK, .i .i64]]) (fun x e => pp_args_v n e.1.1.1 e.1.1.2 e.1.2.1) (inst 51 [.pl 1000 0, .s] [[.sl kdK, .i .i64]] (OSh.plain (.b) [[.sl kdK, .i .i64]]) (fun x e => pp_pass_v n x.2.1 e.1.1.1 e.1.1.2 e.1.2.1) Spec.none))))))
theorem pp_literal_σok (n : Nat) : SpecOk Tryd.prog (pp_literal_σ n) := (inst_ok (fun x e y h => pp_next_c n e.1.1.1 e.1.1.2 e.1.2.1 y h) (inst_ok (fun x e y h => pp_term_c n e.1.1.1 e.1.1.2 e.1.2.1 y h) (inst_ok (fun x e y h => pp_must_c n x.2.1 e.1.1.1 e.1.1.2 e.1.2.1 y h) (inst_ok (fun x e y h => pp_word_c n e.1.1.1 e.1.1.2 e.1.2.1 y h) (inst_ok (fun x e y h => pp_args_c n e.1.1.1 e.1.1.2 e.1.2.1 y h) (inst_ok (fun x e y h => pp_pass_c n x.2.1 e.1.1.1 e.1.1.2 e.1.2.1 y h) (SpecOk.none _)))))))
def pp_literal_Φ (n : Nat) : Orc := with_ Tryd.prog (pp_literal_σ n) [] n 0 hsL
def pp_literal_v (n : Nat) (b0 : Bool) (r1 : Rows) (j2 : Int) : Option (Bool × (ByteArray × Bool × Int × ByteArray × ByteArray × (Bool × Rows) × ByteArray × Bool × Int × ByteArray × Unit) × (Int × Int × Unit) × ((Bool × Rows) × Int × Unit) × Unit) :=
 DM.denFn tm (pp_literal_Φ n) pp_literal_lv n Tryd.f52 false [AV.pl 1000 0] [[AV.sl b0 kdK r1 Right.no, aI j2]] (OSh.chk (OSh.pan (.agg [.s, .b, .i .i64, .s, .s, .sl kdT, .s, .b, .i .i64, .s]) (.ifc 67 (.agg [.i .i64, .i .i64])) [[.sl kdK, .i .i64]]))
theorem pp_literal_e (n : Nat) (b0 : Bool) (r1 : Rows) (j2 : Int) : pp_literal_v n b0 r1 j2 =
 obind (pp_next_v n b0 r1 j2) fun y3 =>
 bif decide ((↑(List.length y3.snd.fst.fst.snd) : Int) > 1) then
 if 1 < (↑(List.length y3.snd.fst.fst.snd) : Int) then
 bif Row.I (List.getD y3.snd.fst.fst.snd 1 []) 0 == 1 then
 if 1 < (↑(List.length y3.snd.fst.fst.snd) : Int) then
 bif Row.S (List.getD y3.snd.fst.fst.snd 1 []) 1 == ByteArray.mk #[115, 97, 121, 115] then
 obind (pp_term_v n y3.snd.fst.fst.fst y3.snd.fst.fst.snd y3.snd.fst.snd.fst) fun y4 =>
 bif y4.fst then
 some (true, Sh.dflt (.agg [.s, .b, .i .i64, .s, .s, .sl kdT, .s, .b, .i .i64, .s]), (y4.snd.snd.fst.fst, (y4.snd.snd.fst.snd.fst, ())), (((y4.snd.snd.snd.fst.fst.fst, y4.snd.snd.snd.fst.fst.snd), (y4.snd.snd.snd.fst.snd.fst, ())), ()))
 else obind (pp_must_v n (ByteArray.mk #[115, 97, 121, 115]) y4.snd.snd.snd.fst.fst.fst y4.snd.snd.snd.fst.fst.snd y4.snd.snd.snd.fst.snd.fst) fun y5 =>
 bif y5.fst then
 some (true, Sh.dflt (.agg [.s, .b, .i .i64, .s, .s, .sl kdT, .s, .b, .i .i64, .s]), (y5.snd.snd.fst.fst, (y5.snd.snd.fst.snd.fst, ())), (((y5.snd.snd.snd.fst.fst.fst, y5.snd.snd.snd.fst.fst.snd), (y5.snd.snd.snd.fst.snd.fst, ())), ()))
 else obind (pp_word_v n y5.snd.snd.snd.fst.fst.fst y5.snd.snd.snd.fst.fst.snd y5.snd.snd.snd.fst.snd.fst) fun y6 =>
 bif y6.fst then
 some (true, Sh.dflt (.agg [.s, .b, .i .i64, .s, .s, .sl kdT, .s, .b, .i .i64, .s]), (y6.snd.snd.fst.fst, (y6.snd.snd.fst.snd.fst, ())), (((y6.snd.snd.snd.fst.fst.fst, y6.snd.snd.snd.fst.fst.snd), (y6.snd.snd.snd.fst.snd.fst, ())), ()))
 else obind (pp_args_v n y6.snd.snd.snd.fst.fst.fst y6.snd.snd.snd.fst.fst.snd y6.snd.snd.snd.fst.snd.fst) fun y7 =>
 bif y7.fst then
 some (true, Sh.dflt (.agg [.s, .b, .i .i64, .s, .s, .sl kdT, .s, .b, .i .i64, .s]), (y7.snd.snd.fst.fst, (y7.snd.snd.fst.snd.fst, ())), (((y7.snd.snd.snd.fst.fst.fst, y7.snd.snd.snd.fst.fst.snd), (y7.snd.snd.snd.fst.snd.fst, ())), ()))
 else obind (pp_pass_v n (ByteArray.mk #[97, 116]) y7.snd.snd.snd.fst.fst.fst y7.snd.snd.snd.fst.fst.snd y7.snd.snd.snd.fst.snd.fst) fun y8 =>
 bif y8.fst then
 obind (pp_term_v n y8.snd.fst.fst.fst y8.snd.fst.fst.snd y8.snd.fst.snd.fst) fun y9 =>
 bif y9.fst then
 some (true, Sh.dflt (.agg [.s, .b, .i .i64, .s, .s, .sl kdT, .s, .b, .i .i64, .s]), (y9.snd.snd.fst.fst, (y9.snd.snd.fst.snd.fst, ())), (((y9.snd.snd.snd.fst.fst.fst, y9.snd.snd.snd.fst.fst.snd), (y9.snd.snd.snd.fst.snd.fst, ())), ()))
 else some (false, (y4.snd.fst.fst, (y4.snd.fst.snd.fst, (y4.snd.fst.snd.snd.fst, (y4.snd.fst.snd.snd.snd.fst, (y6.snd.fst, ((y7.snd.fst.fst, y7.snd.fst.snd), (y9.snd.fst.fst, (y9.snd.fst.snd.fst, (y9.snd.fst.snd.snd.fst, (y9.snd.fst.snd.snd.snd.fst, ())))))))))), Sh.dflt (.ifc 67 (.agg [.i .i64, .i .i64])), (((y9.snd.snd.snd.fst.fst.fst, y9.snd.snd.snd.fst.fst.snd), (y9.snd.snd.snd.fst.snd.fst, ())), ()))
 else some (false, (y4.snd.fst.fst, (y4.snd.fst.snd.fst, (y4.snd.fst.snd.snd.fst, (y4.snd.fst.snd.snd.snd.fst, (y6.snd.fst, ((y7.snd.fst.fst, y7.snd.fst.snd), (ByteArray.mk #[], (false, (0, (ByteArray.mk #[], ())))))))))), Sh.dflt (.ifc 67 (.agg [.i .i64, .i .i64])), (((y8.snd.fst.fst.fst, y8.snd.fst.fst.snd), (y8.snd.fst.snd.fst, ())), ()))
 else bif y3.fst.fst != 1 then
 obind (pp_term_v n y3.snd.fst.fst.fst y3.snd.fst.fst.snd y3.snd.fst.snd.fst) fun y10 =>
 bif y10.fst then
 some (true, Sh.dflt (.agg [.s, .b, .i .i64, .s, .s, .sl kdT, .s, .b, .i .i64, .s]), (y10.snd.snd.fst.fst, (y10.snd.snd.fst.snd.fst, ())), (((y10.snd.snd.snd.fst.fst.fst, y10.snd.snd.snd.fst.fst.snd), (y10.snd.snd.snd.fst.snd.fst, ())), ()))
 else obind (pp_must_v n (ByteArray.mk #[115, 97, 121, 115]) y10.snd.snd.snd.fst.fst.fst y10.snd.snd.snd.fst.fst.snd y10.snd.snd.snd.fst.snd.fst) fun y11 =>
 bif y11.fst then
 some (true, Sh.dflt (.agg [.s, .b, .i .i64, .s, .s, .sl kdT, .s, .b, .i .i64, .s]), (y11.snd.snd.fst.fst, (y11.snd.snd.fst.snd.fst, ())), (((y11.snd.snd.snd.fst.fst.fst, y11.snd.snd.snd.fst.fst.snd), (y11.snd.snd.snd.fst.snd.fst, ())), ()))
 else obind (pp_word_v n y11.snd.snd.snd.fst.fst.fst y11.snd.snd.snd.fst.fst.snd y11.snd.snd.snd.fst.snd.fst) fun y12 =>
 bif y12.fst then
 some (true, Sh.dflt (.agg [.s, .b, .i .i64, .s, .s, .sl kdT, .s, .b, .i .i64, .s]), (y12.snd.snd.fst.fst, (y12.snd.snd.fst.snd.fst, ())), (((y12.snd.snd.snd.fst.fst.fst, y12.snd.snd.snd.fst.fst.snd), (y12.snd.snd.snd.fst.snd.fst, ())), ()))
 else obind (pp_args_v n y12.snd.snd.snd.fst.fst.fst y12.snd.snd.snd.fst.fst.snd y12.snd.snd.snd.fst.snd.fst) fun y13 =>
 bif y13.fst then
 some (true, Sh.dflt (.agg [.s, .b, .i .i64, .s, .s, .sl kdT, .s, .b, .i .i64, .s]), (y13.snd.snd.fst.fst, (y13.snd.snd.fst.snd.fst, ())), (((y13.snd.snd.snd.fst.fst.fst, y13.snd.snd.snd.fst.fst.snd), (y13.snd.snd.snd.fst.snd.fst, ())), ()))
 else obind (pp_pass_v n (ByteArray.mk #[97, 116]) y13.snd.snd.snd.fst.fst.fst y13.snd.snd.snd.fst.fst.snd y13.snd.snd.snd.fst.snd.fst) fun y14 =>
 bif y14.fst then
 obind (pp_term_v n y14.snd.fst.fst.fst y14.snd.fst.fst.snd y14.snd.fst.snd.fst) fun y15 =>
 bif y15.fst then
 some (true, Sh.dflt (.agg [.s, .b, .i .i64, .s, .s, .sl kdT, .s, .b, .i .i64, .s]), (y15.snd.snd.fst.fst, (y15.snd.snd.fst.snd.fst, ())), (((y15.snd.snd.snd.fst.fst.fst, y15.snd.snd.snd.fst.fst.snd), (y15.snd.snd.snd.fst.snd.fst, ())), ()))
 else some (false, (y10.snd.fst.fst, (y10.snd.fst.snd.fst, (y10.snd.fst.snd.snd.fst, (y10.snd.fst.snd.snd.snd.fst, (y12.snd.fst, ((y13.snd.fst.fst, y13.snd.fst.snd), (y15.snd.fst.fst, (y15.snd.fst.snd.fst, (y15.snd.fst.snd.snd.fst, (y15.snd.fst.snd.snd.snd.fst, ())))))))))), Sh.dflt (.ifc 67 (.agg [.i .i64, .i .i64])), (((y15.snd.snd.snd.fst.fst.fst, y15.snd.snd.snd.fst.fst.snd), (y15.snd.snd.snd.fst.snd.fst, ())), ()))
 else some (false, (y10.snd.fst.fst, (y10.snd.fst.snd.fst, (y10.snd.fst.snd.snd.fst, (y10.snd.fst.snd.snd.snd.fst, (y12.snd.fst, ((y13.snd.fst.fst, y13.snd.fst.snd), (ByteArray.mk #[], (false, (0, (ByteArray.mk #[], ())))))))))), Sh.dflt (.ifc 67 (.agg [.i .i64, .i .i64])), (((y14.snd.fst.fst.fst, y14.snd.fst.fst.snd), (y14.snd.fst.snd.fst, ())), ()))
 else obind (pp_word_v n y3.snd.fst.fst.fst y3.snd.fst.fst.snd y3.snd.fst.snd.fst) fun y16 =>
 bif y16.fst then
 some (true, Sh.dflt (.agg [.s, .b, .i .i64, .s, .s, .sl kdT, .s, .b, .i .i64, .s]), (y16.snd.snd.fst.fst, (y16.snd.snd.fst.snd.fst, ())), (((y16.snd.snd.snd.fst.fst.fst, y16.snd.snd.snd.fst.fst.snd), (y16.snd.snd.snd.fst.snd.fst, ())), ()))
 else obind (pp_args_v n y16.snd.snd.snd.fst.fst.fst y16.snd.snd.snd.fst.fst.snd y16.snd.snd.snd.fst.snd.fst) fun y17 =>
 bif y17.fst then
 some (true, Sh.dflt (.agg [.s, .b, .i .i64, .s, .s, .sl kdT, .s, .b, .i .i64, .s]), (y17.snd.snd.fst.fst, (y17.snd.snd.fst.snd.fst, ())), (((y17.snd.snd.snd.fst.fst.fst, y17.snd.snd.snd.fst.fst.snd), (y17.snd.snd.snd.fst.snd.fst, ())), ()))
 else obind (pp_pass_v n (ByteArray.mk #[97, 116]) y17.snd.snd.snd.fst.fst.fst y17.snd.snd.snd.fst.fst.snd y17.snd.snd.snd.fst.snd.fst) fun y18 =>
 bif y18.fst then
 obind (pp_term_v n y18.snd.fst.fst.fst y18.snd.fst.fst.snd y18.snd.fst.snd.fst) fun y19 =>
 bif y19.fst then
 some (true, Sh.dflt (.agg [.s, .b, .i .i64, .s, .s, .sl kdT, .s, .b, .i .i64, .s]), (y19.snd.snd.fst.fst, (y19.snd.snd.fst.snd.fst, ())), (((y19.snd.snd.snd.fst.fst.fst, y19.snd.snd.snd.fst.fst.snd), (y19.snd.snd.snd.fst.snd.fst, ())), ()))
 else some (false, (ByteArray.mk #[], (false, (0, (ByteArray.mk #[], (y16.snd.fst, ((y17.snd.fst.fst, y17.snd.fst.snd), (y19.snd.fst.fst, (y19.snd.fst.snd.fst, (y19.snd.fst.snd.snd.fst, (y19.snd.fst.snd.snd.snd.fst, ())))))))))), Sh.dflt (.ifc 67 (.agg [.i .i64, .i .i64])), (((y19.snd.snd.snd.fst.fst.fst, y19.snd.snd.snd.fst.fst.snd), (y19.snd.snd.snd.fst.snd.fst, ())), ()))
 else some (false, (ByteArray.mk #[], (false, (0, (ByteArray.mk #[], (y16.snd.fst, ((y17.snd.fst.fst, y17.snd.fst.snd), (ByteArray.mk #[], (false, (0, (ByteArray.mk #[], ())))))))))), Sh.dflt (.ifc 67 (.agg [.i .i64, .i .i64])), (((y18.snd.fst.fst.fst, y18.snd.fst.fst.snd), (y18.snd.fst.snd.fst, ())), ()))
 else none
 else bif y3.fst.fst != 1 then
 obind (pp_term_v n y3.snd.fst.fst.fst y3.snd.fst.fst.snd y3.snd.fst.snd.fst) fun y20 =>
 bif y20.fst then
 some (true, Sh.dflt (.agg [.s, .b, .i .i64, .s, .s, .sl kdT, .s, .b, .i .i64, .s]), (y20.snd.snd.fst.fst, (y20.snd.snd.fst.snd.fst, ())), (((y20.snd.snd.snd.fst.fst.fst, y20.snd.snd.snd.fst.fst.snd), (y20.snd.snd.snd.fst.snd.fst, ())), ()))
 else obind (pp_must_v n (ByteArray.mk #[115, 97, 121, 115]) y20.snd.snd.snd.fst.fst.fst y20.snd.snd.snd.fst.fst.snd y20.snd.snd.snd.fst.snd.fst) fun y21 =>
 bif y21.fst then
 some (true, Sh.dflt (.agg [.s, .b, .i .i64, .s, .s, .sl kdT, .s, .b, .i .i64, .s]), (y21.snd.snd.fst.fst, (y21.snd.snd.fst.snd.fst, ())), (((y21.snd.snd.snd.fst.fst.fst, y21.snd.snd.snd.fst.fst.snd), (y21.snd.snd.snd.fst.snd.fst, ())), ()))
 else obind (pp_word_v n y21.snd.snd.snd.fst.fst.fst y21.snd.snd.snd.fst.fst.snd y21.snd.snd.snd.fst.snd.fst) fun y22 =>
 bif y22.fst then
 some (true, Sh.dflt (.agg [.s, .b, .i .i64, .s, .s, .sl kdT, .s, .b, .i .i64, .s]), (y22.snd.snd.fst.fst, (y22.snd.snd.fst.snd.fst, ())), (((y22.snd.snd.snd.fst.fst.fst, y22.snd.snd.snd.fst.fst.snd), (y22.snd.snd.snd.fst.snd.fst, ())), ()))
 else obind (pp_args_v n y22.snd.snd.snd.fst.fst.fst y22.snd.snd.snd.fst.fst.snd y22.snd.snd.snd.fst.snd.fst) fun y23 =>
 bif y23.fst then
 some (true, Sh.dflt (.agg [.s, .b, .i .i64, .s, .s, .sl kdT, .s, .b, .i .i64, .s]), (y23.snd.snd.fst.fst, (y23.snd.snd.fst.snd.fst, ())), (((y23.snd.snd.snd.fst.fst.fst, y23.snd.snd.snd.fst.fst.snd), (y23.snd.snd.snd.fst.snd.fst, ())), ()))
 else obind (pp_pass_v n (ByteArray.mk #[97, 116]) y23.snd.snd.snd.fst.fst.fst y23.snd.snd.snd.fst.fst.snd y23.snd.snd.snd.fst.snd.fst) fun y24 =>
 bif y24.fst then
 obind (pp_term_v n y24.snd.fst.fst.fst y24.snd.fst.fst.snd y24.snd.fst.snd.fst) fun y25 =>
 bif y25.fst then
 some (true, Sh.dflt (.agg [.s, .b, .i .i64, .s, .s, .sl kdT, .s, .b, .i .i64, .s]), (y25.snd.snd.fst.fst, (y25.snd.snd.fst.snd.fst, ())), (((y25.snd.snd.snd.fst.fst.fst, y25.snd.snd.snd.fst.fst.snd), (y25.snd.snd.snd.fst.snd.fst, ())), ()))
 else some (false, (y20.snd.fst.fst, (y20.snd.fst.snd.fst, (y20.snd.fst.snd.snd.fst, (y20.snd.fst.snd.snd.snd.fst, (y22.snd.fst, ((y23.snd.fst.fst, y23.snd.fst.snd), (y25.snd.fst.fst, (y25.snd.fst.snd.fst, (y25.snd.fst.snd.snd.fst, (y25.snd.fst.snd.snd.snd.fst, ())))))))))), Sh.dflt (.ifc 67 (.agg [.i .i64, .i .i64])), (((y25.snd.snd.snd.fst.fst.fst, y25.snd.snd.snd.fst.fst.snd), (y25.snd.snd.snd.fst.snd.fst, ())), ()))
 else some (false, (y20.snd.fst.fst, (y20.snd.fst.snd.fst, (y20.snd.fst.snd.snd.fst, (y20.snd.fst.snd.snd.snd.fst, (y22.snd.fst, ((y23.snd.fst.fst, y23.snd.fst.snd), (ByteArray.mk #[], (false, (0, (ByteArray.mk #[], ())))))))))), Sh.dflt (.ifc 67 (.agg [.i .i64, .i .i64])), (((y24.snd.fst.fst.fst, y24.snd.fst.fst.snd), (y24.snd.fst.snd.fst, ())), ()))
 else obind (pp_word_v n y3.snd.fst.fst.fst y3.snd.fst.fst.snd y3.snd.fst.snd.fst) fun y26 =>
 bif y26.fst then
 some (true, Sh.dflt (.agg [.s, .b, .i .i64, .s, .s, .sl kdT, .s, .b, .i .i64, .s]), (y26.snd.snd.fst.fst, (y26.snd.snd.fst.snd.fst, ())), (((y26.snd.snd.snd.fst.fst.fst, y26.snd.snd.snd.fst.fst.snd), (y26.snd.snd.snd.fst.snd.fst, ())), ()))
 else obind (pp_args_v n y26.snd.snd.snd.fst.fst.fst y26.snd.snd.snd.fst.fst.snd y26.snd.snd.snd.fst.snd.fst) fun y27 =>
 bif y27.fst then
 some (true, Sh.dflt (.agg [.s, .b, .i .i64, .s, .s, .sl kdT, .s, .b, .i .i64, .s]), (y27.snd.snd.fst.fst, (y27.snd.snd.fst.snd.fst, ())), (((y27.snd.snd.snd.fst.fst.fst, y27.snd.snd.snd.fst.fst.snd), (y27.snd.snd.snd.fst.snd.fst, ())), ()))
 else obind (pp_pass_v n (ByteArray.mk #[97, 116]) y27.snd.snd.snd.fst.fst.fst y27.snd.snd.snd.fst.fst.snd y27.snd.snd.snd.fst.snd.fst) fun y28 =>
 bif y28.fst then
 obind (pp_term_v n y28.snd.fst.fst.fst y28.snd.fst.fst.snd y28.snd.fst.snd.fst) fun y29 =>
 bif y29.fst then
 some (true, Sh.dflt (.agg [.s, .b, .i .i64, .s, .s, .sl kdT, .s, .b, .i .i64, .s]), (y29.snd.snd.fst.fst, (y29.snd.snd.fst.snd.fst, ())), (((y29.snd.snd.snd.fst.fst.fst, y29.snd.snd.snd.fst.fst.snd), (y29.snd.snd.snd.fst.snd.fst, ())), ()))
 else some (false, (ByteArray.mk #[], (false, (0, (ByteArray.mk #[], (y26.snd.fst, ((y27.snd.fst.fst, y27.snd.fst.snd), (y29.snd.fst.fst, (y29.snd.fst.snd.fst, (y29.snd.fst.snd.snd.fst, (y29.snd.fst.snd.snd.snd.fst, ())))))))))), Sh.dflt (.ifc 67 (.agg [.i .i64, .i .i64])), (((y29.snd.snd.snd.fst.fst.fst, y29.snd.snd.snd.fst.fst.snd), (y29.snd.snd.snd.fst.snd.fst, ())), ()))
 else some (false, (ByteArray.mk #[], (false, (0, (ByteArray.mk #[], (y26.snd.fst, ((y27.snd.fst.fst, y27.snd.fst.snd), (ByteArray.mk #[], (false, (0, (ByteArray.mk #[], ())))))))))), Sh.dflt (.ifc 67 (.agg [.i .i64, .i .i64])), (((y28.snd.fst.fst.fst, y28.snd.fst.fst.snd), (y28.snd.fst.snd.fst, ())), ()))
 else none
 else bif y3.fst.fst != 1 then
 obind (pp_term_v n y3.snd.fst.fst.fst y3.snd.fst.fst.snd y3.snd.fst.snd.fst) fun y30 =>
 bif y30.fst then
 some (true, Sh.dflt (.agg [.s, .b, .i .i64, .s, .s, .sl kdT, .s, .b, .i .i64, .s]), (y30.snd.snd.fst.fst, (y30.snd.snd.fst.snd.fst, ())), (((y30.snd.snd.snd.fst.fst.fst, y30.snd.snd.snd.fst.fst.snd), (y30.snd.snd.snd.fst.snd.fst, ())), ()))
 else obind (pp_must_v n (ByteArray.mk #[115, 97, 121, 115]) y30.snd.snd.snd.fst.fst.fst y30.snd.snd.snd.fst.fst.snd y30.snd.snd.snd.fst.snd.fst) fun y31 =>
 bif y31.fst then
 some (true, Sh.dflt (.agg [.s, .b, .i .i64, .s, .s, .sl kdT, .s, .b, .i .i64, .s]), (y31.snd.snd.fst.fst, (y31.snd.snd.fst.snd.fst, ())), (((y31.snd.snd.snd.fst.fst.fst, y31.snd.snd.snd.fst.fst.snd), (y31.snd.snd.snd.fst.snd.fst, ())), ()))
 else obind (pp_word_v n y31.snd.snd.snd.fst.fst.fst y31.snd.snd.snd.fst.fst.snd y31.snd.snd.snd.fst.snd.fst) fun y32 =>
 bif y32.fst then
 some (true, Sh.dflt (.agg [.s, .b, .i .i64, .s, .s, .sl kdT, .s, .b, .i .i64, .s]), (y32.snd.snd.fst.fst, (y32.snd.snd.fst.snd.fst, ())), (((y32.snd.snd.snd.fst.fst.fst, y32.snd.snd.snd.fst.fst.snd), (y32.snd.snd.snd.fst.snd.fst, ())), ()))
 else obind (pp_args_v n y32.snd.snd.snd.fst.fst.fst y32.snd.snd.snd.fst.fst.snd y32.snd.snd.snd.fst.snd.fst) fun y33 =>
 bif y33.fst then
 some (true, Sh.dflt (.agg [.s, .b, .i .i64, .s, .s, .sl kdT, .s, .b, .i .i64, .s]), (y33.snd.snd.fst.fst, (y33.snd.snd.fst.snd.fst, ())), (((y33.snd.snd.snd.fst.fst.fst, y33.snd.snd.snd.fst.fst.snd), (y33.snd.snd.snd.fst.snd.fst, ())), ()))
 else obind (pp_pass_v n (ByteArray.mk #[97, 116]) y33.snd.snd.snd.fst.fst.fst y33.snd.snd.snd.fst.fst.snd y33.snd.snd.snd.fst.snd.fst) fun y34 =>
 bif y34.fst then
 obind (pp_term_v n y34.snd.fst.fst.fst y34.snd.fst.fst.snd y34.snd.fst.snd.fst) fun y35 =>
 bif y35.fst then
 some (true, Sh.dflt (.agg [.s, .b, .i .i64, .s, .s, .sl kdT, .s, .b, .i .i64, .s]), (y35.snd.snd.fst.fst, (y35.snd.snd.fst.snd.fst, ())), (((y35.snd.snd.snd.fst.fst.fst, y35.snd.snd.snd.fst.fst.snd), (y35.snd.snd.snd.fst.snd.fst, ())), ()))
 else some (false, (y30.snd.fst.fst, (y30.snd.fst.snd.fst, (y30.snd.fst.snd.snd.fst, (y30.snd.fst.snd.snd.snd.fst, (y32.snd.fst, ((y33.snd.fst.fst, y33.snd.fst.snd), (y35.snd.fst.fst, (y35.snd.fst.snd.fst, (y35.snd.fst.snd.snd.fst, (y35.snd.fst.snd.snd.snd.fst, ())))))))))), Sh.dflt (.ifc 67 (.agg [.i .i64, .i .i64])), (((y35.snd.snd.snd.fst.fst.fst, y35.snd.snd.snd.fst.fst.snd), (y35.snd.snd.snd.fst.snd.fst, ())), ()))
 else some (false, (y30.snd.fst.fst, (y30.snd.fst.snd.fst, (y30.snd.fst.snd.snd.fst, (y30.snd.fst.snd.snd.snd.fst, (y32.snd.fst, ((y33.snd.fst.fst, y33.snd.fst.snd), (ByteArray.mk #[], (false, (0, (ByteArray.mk #[], ())))))))))), Sh.dflt (.ifc 67 (.agg [.i .i64, .i .i64])), (((y34.snd.fst.fst.fst, y34.snd.fst.fst.snd), (y34.snd.fst.snd.fst, ())), ()))
 else obind (pp_word_v n y3.snd.fst.fst.fst y3.snd.fst.fst.snd y3.snd.fst.snd.fst) fun y36 =>
 bif y36.fst then
 some (true, Sh.dflt (.agg [.s, .b, .i .i64, .s, .s, .sl kdT, .s, .b, .i .i64, .s]), (y36.snd.snd.fst.fst, (y36.snd.snd.fst.snd.fst, ())), (((y36.snd.snd.snd.fst.fst.fst, y36.snd.snd.snd.fst.fst.snd), (y36.snd.snd.snd.fst.snd.fst, ())), ()))
 else obind (pp_args_v n y36.snd.snd.snd.fst.fst.fst y36.snd.snd.snd.fst.fst.snd y36.snd.snd.snd.fst.snd.fst) fun y37 =>
 bif y37.fst then
 some (true, Sh.dflt (.agg [.s, .b, .i .i64, .s, .s, .sl kdT, .s, .b, .i .i64, .s]), (y37.snd.snd.fst.fst, (y37.snd.snd.fst.snd.fst, ())), (((y37.snd.snd.snd.fst.fst.fst, y37.snd.snd.snd.fst.fst.snd), (y37.snd.snd.snd.fst.snd.fst, ())), ()))
 else obind (pp_pass_v n (ByteArray.mk #[97, 116]) y37.snd.snd.snd.fst.fst.fst y37.snd.snd.snd.fst.fst.snd y37.snd.snd.snd.fst.snd.fst) fun y38 =>
 bif y38.fst then
 obind (pp_term_v n y38.snd.fst.fst.fst y38.snd.fst.fst.snd y38.snd.fst.snd.fst) fun y39 =>
 bif y39.fst then
 some (true, Sh.dflt (.agg [.s, .b, .i .i64, .s, .s, .sl kdT, .s, .b, .i .i64, .s]), (y39.snd.snd.fst.fst, (y39.snd.snd.fst.snd.fst, ())), (((y39.snd.snd.snd.fst.fst.fst, y39.snd.snd.snd.fst.fst.snd), (y39.snd.snd.snd.fst.snd.fst, ())), ()))
 else some (false, (ByteArray.mk #[], (false, (0, (ByteArray.mk #[], (y36.snd.fst, ((y37.snd.fst.fst, y37.snd.fst.snd), (y39.snd.fst.fst, (y39.snd.fst.snd.fst, (y39.snd.fst.snd.snd.fst, (y39.snd.fst.snd.snd.snd.fst, ())))))))))), Sh.dflt (.ifc 67 (.agg [.i .i64, .i .i64])), (((y39.snd.snd.snd.fst.fst.fst, y39.snd.snd.snd.fst.fst.snd), (y39.snd.snd.snd.fst.snd.fst, ())), ()))
 else some (false, (ByteArray.mk #[], (false, (0, (ByteArray.mk #[], (y36.snd.fst, ((y37.snd.fst.fst, y37.snd.fst.snd), (ByteArray.mk #[], (false, (0, (ByteArray.mk #[], ())))))))))), Sh.dflt (.ifc 67 (.agg [.i .i64, .i .i64])), (((y38.snd.fst.fst.fst, y38.snd.fst.fst.snd), (y38.snd.fst.snd.fst, ())), ())) := by kernel_rfl
theorem pp_literal_c (n : Nat) (b0 : Bool) (r1 : Rows) (j2 : Int) (y : Bool × (ByteArray × Bool × Int × ByteArray × ByteArray × (Bool × Rows) × ByteArray × Bool × Int × ByteArray × Unit) × (Int × Int × Unit) × ((Bool × Rows) × Int × Unit) × Unit) (h : pp_literal_v n b0 r1 j2 = some y) : Contract Tryd.prog 52 [AV.pl 1000 0] [[AV.sl b0 kdK r1 Right.no, aI j2]] (OSh.enc (OSh.pan (.agg [.s, .b, .i .i64, .s, .s, .sl kdT, .s, .b, .i .i64, .s]) (.ifc 67 (.agg [.i .i64, .i .i64])) [[.sl kdK, .i .i64]]) y) :=
 ac (OSh.pan (.agg [.s, .b, .i .i64, .s, .s, .sl kdT, .s, .b, .i .i64, .s]) (.ifc 67 (.agg [.i .i64, .i .i64])) [[.sl kdK, .i .i64]]) (pp_literal_σok n) Tryd.func52 (by decide) h
end
end Go.Den
namespace Go.Proofs
open Go.Shelf
def itoaLays_ren : Go.Shelf.Ren := ⟨fun | 171 => 36 | 243 => 66 | 246 => 84 | 283 => 89 | 284 => 90 | 285 => 91 | 286 => 92 | 129 => 94 | 317 => 93 | 318 => 95 | 319 => 96 | 320 => 97 | 337 => 98 | 338 => 99 | n => n, fun | 3 => 3 | 9 => 9 | 2 => 2 | 4 => 4 | 171 => 130 | 0 => 0 | 53 => 131 | 37 => 96 | 5 => 5 | 173 => 134 | 212 => 138 | 51 => 139 | 20 => 20 | 213 => 140 | 46 => 142 | 232 => 145 | 233 => 146 | n => n, fun | 17 => 0 | 18 => 1 | 19 => 2 | n => n⟩
theorem itoaLays : Go.Proofs.LaysM.n171 Tryd.prog itoaLays_ren := {
  mixed := by kernel_rfl
  f129 := Tryd.func94.trans (congrArg some (by kernel_rfl))
  f171 := Tryd.func36.trans (congrArg some (by kernel_rfl))
  f243 := Tryd.func66.trans (congrArg some (by kernel_rfl))
  f246 := Tryd.func84.trans (congrArg some (by kernel_rfl))
  f283 := Tryd.func89.trans (congrArg some (by kernel_rfl))
  f284 := Tryd.func90.trans (congrArg some (by kernel_rfl))
  f285 := Tryd.func91.trans (congrArg some (by kernel_rfl))
  f286 := Tryd.func92.trans (congrArg some (by kernel_rfl))
  f317 := Tryd.func93.trans (congrArg some (by kernel_rfl))
  f318 := Tryd.func95.trans (congrArg some (by kernel_rfl))
  f319 := Tryd.func96.trans (congrArg some (by kernel_rfl))
  f320 := Tryd.func97.trans (congrArg some (by kernel_rfl))
  f337 := Tryd.func98.trans (congrArg some (by kernel_rfl))
  f338 := Tryd.func99.trans (congrArg some (by kernel_rfl))
  t0 := Tryd.underlying0
  a0 := Tryd.isAgg0
  z0 := Tryd.sizeOf0
  v0 := Tryd.zeroValue0
  t2 := Tryd.underlying2
  a2 := Tryd.isAgg2
  z2 := Tryd.sizeOf2
  v2 := Tryd.zeroValue2
  t3 := Tryd.underlying3
  a3 := Tryd.isAgg3
  z3 := Tryd.sizeOf3
  v3 := Tryd.zeroValue3
  t4 := Tryd.underlying4
  a4 := Tryd.isAgg4
  z4 := Tryd.sizeOf4
  v4 := Tryd.zeroValue4
  t5 := Tryd.underlying5
  a5 := Tryd.isAgg5
  z5 := Tryd.sizeOf5
  v5 := Tryd.zeroValue5
  t9 := Tryd.underlying9
  a9 := Tryd.isAgg9
  z9 := Tryd.sizeOf9
  v9 := Tryd.zeroValue9
  t20 := Tryd.underlying20
  a20 := Tryd.isAgg20
  z20 := Tryd.sizeOf20
  v20 := Tryd.zeroValue20
  t37 := Tryd.underlying96
  a37 := Tryd.isAgg96
  z37 := Tryd.sizeOf96
  v37 := Tryd.zeroValue96
  t46 := Tryd.underlying142
  a46 := Tryd.isAgg142
  z46 := Tryd.sizeOf142
  v46 := Tryd.zeroValue142
  t51 := Tryd.underlying139
  a51 := Tryd.isAgg139
  z51 := Tryd.sizeOf139
  v51 := Tryd.zeroValue139
  t53 := Tryd.underlying131
  a53 := Tryd.isAgg131
  z53 := Tryd.sizeOf131
  v53 := Tryd.zeroValue131
  t171 := Tryd.underlying130
  a171 := Tryd.isAgg130
  z171 := Tryd.sizeOf130
  v171 := Tryd.zeroValue130
  t173 := Tryd.underlying134
  a173 := Tryd.isAgg134
  z173 := Tryd.sizeOf134
  v173 := Tryd.zeroValue134
  t212 := Tryd.underlying138
  a212 := Tryd.isAgg138
  z212 := Tryd.sizeOf138
  v212 := Tryd.zeroValue138
  t213 := Tryd.underlying140
  a213 := Tryd.isAgg140
  z213 := Tryd.sizeOf140
  t232 := Tryd.underlying145
  a232 := Tryd.isAgg145
  z232 := Tryd.sizeOf145
  v232 := Tryd.zeroValue145
  t233 := Tryd.underlying146
  a233 := Tryd.isAgg146
  z233 := Tryd.sizeOf146
  v233 := Tryd.zeroValue146
  g17 := by kernel_rfl
  g18 := by kernel_rfl
  g19 := by kernel_rfl
  i0 := by kernel_rfl
  i2 := by kernel_rfl
  i3 := by kernel_rfl
  i4 := by kernel_rfl
  i5 := by kernel_rfl
  i9 := by kernel_rfl
  i20 := by kernel_rfl
  i37 := by kernel_rfl
  i46 := by kernel_rfl
  i51 := by kernel_rfl
  i53 := by kernel_rfl
  i171 := by kernel_rfl
  i173 := by kernel_rfl
  i212 := by kernel_rfl
  i232 := by kernel_rfl
  i233 := by kernel_rfl
  m17 := by kernel_rfl
  m18 := by kernel_rfl
  m19 := by kernel_rfl }
end Go.Proofs
namespace Go.Den
open Go.Proofs Go.RowKit
set_option maxHeartbeats 1000000 in
set_option maxRecDepth 100000 in
theorem copy_used (b : Nat) (w : World) (h0 : w.cell? ⟨b, 0, none⟩ = some (.pointer (some ⟨b, 0, none⟩))) :
    Calls Tryd.prog 80 #[.pointer (some ⟨b, 0, none⟩)] w fun e w' => e = .returned (.tuple #[]) ∧ w' = w := by
  obtain ⟨j, hj, _⟩ := Option.map_eq_some_iff.1 (show (Tryd.prog.info? 98).map (·.size) = some 2 by kernel_rfl)
  have mixed : Tryd.prog.follows .mixedOrders = true := by kernel_rfl
  go_enter Tryd.func80, Tryd.ntmps80
  go_wp2
  rw [Lib.run_neq_ptr_same w _ Tryd.underlying95 hj]
  go_wp2
  go_end0
  exact ⟨rfl, rfl⟩
set_option maxHeartbeats 1000000 in
set_option maxRecDepth 100000 in
theorem copy_new (b : Nat) (w : World) (h0 : w.cell? ⟨b, 0, none⟩ = some (.pointer none)) (hsh : w.shape? b = some (100, 3)) (hfz : w.frozen? ⟨b, 0, none⟩ = false) :
    Calls Tryd.prog 80 #[.pointer (some ⟨b, 0, none⟩)] w fun e w' => e = .returned (.tuple #[]) ∧ w' = w.setCell ⟨b, 0, none⟩ (.pointer (some ⟨b, 0, none⟩)) := by
  obtain ⟨j, hj, hjs⟩ := Option.map_eq_some_iff.1 (show (Tryd.prog.info? 98).map (·.size) = some 2 by kernel_rfl)
  have mixed : Tryd.prog.follows .mixedOrders = true := by kernel_rfl
  go_enter Tryd.func80, Tryd.ntmps80
  go_wp2
  rw [Lib.run_to_unsafe w ⟨b, 0, none⟩ Tryd.underlying95 Tryd.underlying128 hj (by rw [hjs]; decide) hsh (Nat.zero_lt_succ 2)]
  simp only [Result.andThen]
  rw [Oper.upon_value]
  go_wp2
  rw [run_callFunc_extern Tryd.func88 (by kernel_rfl) (by kernel_rfl) (by kernel_rfl) (e := Extern.AbiNoEscape.same) (by kernel_rfl)]
  rw [Lib.run_noEscape]
  simp only [Result.andThen]
  rw [Oper.upon_value]
  go_wp2
  rw [Lib.run_from_unsafe w ⟨b, 0, none⟩ Tryd.underlying128 Tryd.underlying95 hj hsh (by kernel_rfl)]
  simp only [Result.andThen]
  rw [Oper.upon_value]
  go_wp2
  go_end0
  exact ⟨rfl, rfl⟩
set_option maxHeartbeats 1000000 in
set_option maxRecDepth 100000 in
theorem string_walk (b g cap : Nat) (l : List UInt8) (h0 : l ≠ []) (cur : Array Value) (w : World) (hc1 : w.cell? ⟨b, 1, none⟩ = some (.slice (some ⟨g, 0, none⟩) l.length cap)) (hg : w.heap[g]? = some (.cells cur 5 (0, 0)))
    (hn : l.length ≤ cap) (hcm : cap ≤ maxLen) (hcs : l.length ≤ cur.size) (hcell : ∀ j x, l[j]? = some x → w.cell? ((⟨g, 0, none⟩ : Addr).add j) = some (.int .u8 x.toNat)) :
    Calls Tryd.prog 57 #[.pointer (some ⟨b, 0, none⟩)] w fun e w' => e = .returned (.string ⟨l.toArray⟩) ∧ w' = w.drew.freeze ⟨g, 0, none⟩ l.length := by
  have hl0 : l.length ≠ 0 := by simpa using h0
  have c1 : w.drew.cell? ⟨b, 1, none⟩ = some (.slice (some ⟨g, 0, none⟩) l.length cap) := hc1
  have hSD : (Builtin.unsafeSliceData_ #[96] 124 #[.slice (some ⟨g, 0, none⟩) l.length cap]).run Tryd.prog w.drew = .ok (.pointer (some ⟨g, 0, none⟩)) w.drew :=
    Lib.run_unsafeSliceData_row _ _ _ _ _ _ (by omega)
  have hUS : (Builtin.unsafeString_ #[124, 3] 9 #[.pointer (some ⟨g, 0, none⟩), .int .i64 l.length]).run Tryd.prog w.drew = .ok (.string ⟨l.toArray⟩) (w.drew.freeze ⟨g, 0, none⟩ l.length) := by
    refine Lib.run_unsafeString_row w.drew 124 3 9 5 Tryd.underlying124 (by kernel_rfl) g cur.size (by have hg' : w.drew.heap[g]? = some (.cells cur 5 (0, 0)) := hg; simp [World.shape?, hg']) l h0 (by omega) (by unfold maxLen at hcm; omega) ?_
    intro j x hx
    exact hcell j x hx
  have mixed : Tryd.prog.follows .mixedOrders = true := by kernel_rfl
  go_enter Tryd.func57, Tryd.ntmps57
  go_wp2
  go_region_o
  all_goals (go_wp2; go_ret; exact ⟨rfl, rfl⟩)
end Go.Den
namespace Go.Den
open Go.Proofs
set_option maxRecDepth 100000
def strconv_Itoa_v (n : Nat) (j0 : Int) : Option (ByteArray × Unit) :=
  match decide (-9223372036854775808 ≤ j0) && decide (j0 ≤ 9223372036854775807) with
  | true => some (⟨(Go.Lib.itoa j0).toArray⟩, ())
  | false => none
theorem strconv_Itoa_c (n : Nat) (j0 : Int) (y : ByteArray × Unit) (h : strconv_Itoa_v n j0 = some y) : Contract Tryd.prog 36 [AV.dv (DV.val (Value.int IntKind.i64 j0))] [] (OSh.enc (OSh.plain (.s) []) y) := by
  unfold strconv_Itoa_v at h
  split at h
  · rename_i hc
    cases h
    simp only [Bool.and_eq_true, decide_eq_true_eq] at hc
    exact itoa_contract ⟨Tryd.f36, Tryd.func36, by kernel_rfl, by decide⟩ (by kernel_rfl) (by kernel_rfl) j0 (fun w hw => Any.strconv_Itoa itoaLays j0 hc.1 hc.2 w hw)
  · cases h
theorem vt_only (t : TypeId) (h : vtOk Tryd.prog t = true) : t = 100 := only_of (fun _ => vt_lt) (by kernel_rfl) t h
theorem u8_only (t : TypeId) (h : u8Ok Tryd.prog t = true) : t = 5 := only_of (fun _ => u8_lt) (by kernel_rfl) t h
def sB_copyCheck_nilp_v (n : Nat) (b1 : Bool) (r2 : Rows) (b3 : Bool) : Option (Unit × (Unit × (Bool × Rows) × Bool × Unit) × Unit) :=
  match b1, r2 with
  | true, [] => some ((), (((), ((true, []), (b3, ()))), ()))
  | _, _ => none
theorem sB_copyCheck_nilp_c (n : Nat) (b1 : Bool) (r2 : Rows) (b3 : Bool) (y : Unit × (Unit × (Bool × Rows) × Bool × Unit) × Unit) (h : sB_copyCheck_nilp_v n b1 r2 b3 = some y) :
    Contract Tryd.prog 80 [AV.pl 1000 0] [[AV.dv (DV.val (Value.pointer none)), AV.sl b1 [Kd.i IntKind.u8] r2 (Right.tok 500002), AV.dv (DV.val (Value.bool b3))]] (OSh.enc (OSh.plain (.tup []) [[.pl 1000 0, .slt [Kd.i IntKind.u8] 1, .b]]) y) := by
  unfold sB_copyCheck_nilp_v at h
  split at h
  · cases h
    exact copyCheck_new ⟨Tryd.f80, Tryd.func80, by kernel_rfl, by decide⟩ vt_only copy_new 500002 b3
  · cases h
def sB_copyCheck_v (n : Nat) (b1 : Bool) (r2 : Rows) (b3 : Bool) : Option (Unit × (Unit × (Bool × Rows) × Bool × Unit) × Unit) := some ((), (((), ((b1, r2), (b3, ()))), ()))
theorem sB_copyCheck_c (n : Nat) (b1 : Bool) (r2 : Rows) (b3 : Bool) (y : Unit × (Unit × (Bool × Rows) × Bool × Unit) × Unit) (h : sB_copyCheck_v n b1 r2 b3 = some y) :
    Contract Tryd.prog 80 [AV.pl 1000 0] [[AV.pl 1000 0, AV.sl b1 [Kd.i IntKind.u8] r2 (Right.tok 500002), AV.dv (DV.val (Value.bool b3))]] (OSh.enc (OSh.plain (.tup []) [[.pl 1000 0, .slt [Kd.i IntKind.u8] 1, .b]]) y) := by
  cases h
  exact copyCheck_used ⟨Tryd.f80, Tryd.func80, by kernel_rfl, by decide⟩ copy_used 500002 b1 r2 b3
def sB_String_v (n : Nat) (b1 : Bool) (r2 : Rows) (b3 : Bool) : Option (ByteArray × (Unit × (Bool × Rows) × Bool × Unit) × Unit) :=
  match !r2.isEmpty && okBytes r2 with
  | true => some (bytesOf r2, (((), ((b1, r2), (b3, ()))), ()))
  | false => none
theorem sB_String_c (n : Nat) (b1 : Bool) (r2 : Rows) (b3 : Bool) (y : ByteArray × (Unit × (Bool × Rows) × Bool × Unit) × Unit) (h : sB_String_v n b1 r2 b3 = some y) :
    Contract Tryd.prog 57 [AV.pl 1000 0] [[AV.pl 1000 0, AV.sl b1 [Kd.i IntKind.u8] r2 (Right.tok 500002), AV.dv (DV.val (Value.bool b3))]] (OSh.enc (OSh.plain (.s) [[.pl 1000 0, .sl [Kd.i IntKind.u8], .b]]) y) := by
  unfold sB_String_v at h
  split at h
  · rename_i hc
    simp only [Bool.and_eq_true, Bool.not_eq_true'] at hc
    cases h
    exact string_contract ⟨Tryd.f57, Tryd.func57, by kernel_rfl, by decide⟩ u8_only string_walk 500002 b1 r2 b3 (fun h0 => by rw [h0] at hc; exact absurd hc.1 (by simp)) hc.2
  · cases h
end Go.Den
namespace Go.Den
noncomputable section
open Go.Proofs
set_option maxRecDepth 100000
def pp_rule_lv : Live := [(8, [0, 2, 3], [2, 3, 1000, 1001, 1002, 1003])]
def pp_rule_σ (n : Nat) : Spec := (inst 47 [.pl 1000 0] [[.sl kdK, .i .i64]] (OSh.pan (.agg [.s, .b, .i .i64, .s]) (.ifc 67 (.agg [.i .i64, .i .i64])) [[.sl kdK, .i .i64]]) (fun x e => pp_term_v n e.1.1.1 e.1.1.2 e.1.2.1) (inst 48 [.pl 1000 0, .s] [[.sl kdK, .i .i64]] (OSh.pan (.tup []) (.ifc 67 (.agg [.i .i64, .i .i64])) [[.sl kdK, .i .i64]]) (fun x e => pp_must_v n x.2.1 e.1.1.1 e.1.1.2 e.1.2.1) (inst 49 [.pl 1000 0] [[.sl kdK, .i .i64]] (OSh.pan (.s) (.ifc 67 (.agg [.i .i64, .i .i64])) [[.sl kdK, .i .i64]]) (fun x e => pp_word_v n e.1.1.1 e.1.1.2 e.1.2.1) (inst 50 [.pl 1000 0] [[.sl kdK, .i .i64]] (OSh.pan (.slt kdT 0) (.ifc 67 (.agg [.i .i64, .i .i64])) [[.sl kdK, .i .i64]]) (fun x e => pp_args_v n e.1.1.1 e.1.1.2 e.1.2.1) (inst 51 [.pl 1000 0, .s] [[.sl kdK, .i .i64]] (OSh.plain (.b) [[.sl kdK, .i .i64]]) (fun x e => pp_pass_v n x.2.1 e.1.1.1 e.1.1.2 e.1.2.1) (inst 28 [.pl 1000 0] [[.sl kdK, .i .i64]] (OSh.plain (.b) [[.sl kdK, .i .i64]]) (fun x e => pp_begins_v n e.1.1.1 e.1.1.2 e.1.2.1) (inst 52 [.pl 1000 0] [[.sl kdK, .i .i64]] (OSh.pan (.agg [.s, .b, .i .i64, .s, .s, .sl kdT, .s, .b, .i .i64, .s]) (.ifc 67 (.agg [.i .i64, .i .i64])) [[.sl kdK, .i .i64]]) (fun x e => pp_literal_v n e.1.1.1 e.1.1.2 e.1.2.1) (inst 29 [.pl 1000 0, .i .i64] [[.sl kdK, .i .i64]] (OSh.pan (.junk) (.ifc 67 (.agg [.i .i64, .i .i64])) [[.sl kdK, .i .i64]]) (fun x e => pp_fail_v n x.2.1 e.1.1.1 e.1.1.2 e.1.2.1) Spec.none))))))))
theorem pp_rule_σok (n : Nat) : SpecOk Tryd.prog (pp_rule_σ n) := (inst_ok (fun x e y h => pp_term_c n e.1.1.1 e.1.1.2 e.1.2.1 y h) (inst_ok (fun x e y h => pp_must_c n x.2.1 e.1.1.1 e.1.1.2 e.1.2.1 y h) (inst_ok (fun x e y h => pp_word_c n e.1.1.1 e.1.1.2 e.1.2.1 y h) (inst_ok (fun x e y h => pp_args_c n e.1.1.1 e.1.1.2 e.1.2.1 y h) (inst_ok (fun x e y h => pp_pass_c n x.2.1 e.1.1.1 e.1.1.2 e.1.2.1 y h) (inst_ok (fun x e y h => pp_begins_c n e.1.1.1 e.1.1.2 e.1.2.1 y h) (inst_ok (fun x e y h => pp_literal_c n e.1.1.1 e.1.1.2 e.1.2.1 y h) (inst_ok (fun x e y h => pp_fail_c n x.2.1 e.1.1.1 e.1.1.2 e.1.2.1 y h) (SpecOk.none _)))))))))
def pp_rule_Φ (n : Nat) : Orc := with_ Tryd.prog (pp_rule_σ n) [] n 0 hsL
def pp_rule_v (n : Nat) (b0 : Bool) (r1 : Rows) (j2 : Int) : Option (Bool × (ByteArray × Bool × Int × ByteArray × ByteArray × (Bool × Rows) × ByteArray × Bool × Int × ByteArray × (Bool × Rows) × Unit) × (Int × Int × Unit) × ((Bool × Rows) × Int × Unit) × Unit) :=
 DM.denFn tm (pp_rule_Φ n) pp_rule_lv n Tryd.f30 false [AV.pl 1000 0] [[AV.sl b0 kdK r1 Right.no, aI j2]] (OSh.chk (OSh.pan (.agg [.s, .b, .i .i64, .s, .s, .sl kdT, .s, .b, .i .i64, .s, .sl kdL]) (.ifc 67 (.agg [.i .i64, .i .i64])) [[.sl kdK, .i .i64]]))
def pp_rule_l8 (n : Nat) (b0 : Bool) (r1 : Rows) (j2 : Int) (i0 : Nat) (b11 : Bool) (r12 : List (List DV)) (j13 : Int) (s14 : ByteArray) (b15 : Bool) (j16 : Int) (s17 : ByteArray) (s18 : ByteArray) (b19 : Bool) (r20 : List (List DV)) (s21 : ByteArray) (b22 : Bool) (j23 : Int) (s24 : ByteArray) (b32 : Bool) (r33 : List (List DV)) : Option (Bool × (ByteArray × Bool × Int × ByteArray × ByteArray × (Bool × Rows) × ByteArray × Bool × Int × ByteArray × (Bool × Rows) × Unit) × (Int × Int × Unit) × ((Bool × Rows) × Int × Unit) × Unit) :=
 DM.loopFn tm (pp_rule_Φ n) pp_rule_lv n Tryd.f30 false [[AV.sl b0 kdK r1 Right.no, aI j2]] (OSh.chk (OSh.pan (.agg [.s, .b, .i .i64, .s, .s, .sl kdT, .s, .b, .i .i64, .s, .sl kdL]) (.ifc 67 (.agg [.i .i64, .i .i64])) [[.sl kdK, .i .i64]])) 8 [] i0 (St.mk ([AV.pl 1000 0, Jk, AV.pl 2 0, AV.pl 3 0] ++ jk 40) [(1000, [AV.sl b11 kdK r12 Right.no, aI j13]), (2, [AV.dv (DV.val (Value.string (ByteArray.mk #[]))), aB false, aI 0, AV.dv (DV.val (Value.string (ByteArray.mk #[]))), AV.dv (DV.val (Value.string (ByteArray.mk #[]))), AV.sl true kdT [] (Right.tok 20133), AV.dv (DV.val (Value.string (ByteArray.mk #[]))), aB false, aI 0, AV.dv (DV.val (Value.string (ByteArray.mk #[]))), AV.sl true kdL [] (Right.tok 20138)]), (3, [aS s14, aB b15, aI j16, aS s17, aS s18, AV.sl b19 kdT r20 (Right.tok 20197), aS s21, aB b22, aI j23, aS s24, AV.sl b32 kdL r33 (Right.tok 20202)])])
theorem pp_rule_s8 (n : Nat) (b0 : Bool) (r1 : Rows) (j2 : Int) (i0 : Nat) (b11 : Bool) (r12 : List (List DV)) (j13 : Int) (s14 : ByteArray) (b15 : Bool) (j16 : Int) (s17 : ByteArray) (s18 : ByteArray) (b19 : Bool) (r20 : List (List DV)) (s21 : ByteArray) (b22 : Bool) (j23 : Int) (s24 : ByteArray) (b32 : Bool) (r33 : List (List DV)) : pp_rule_l8 n b0 r1 j2 (i0 + 1) b11 r12 j13 s14 b15 j16 s17 s18 b19 r20 s21 b22 j23 s24 b32 r33 =
 obind (pp_begins_v n b11 r12 j13) fun y34 =>
 bif y34.fst then
 bif (↑(List.length r33) : Int) == 4 then
 obind (pp_fail_v n 81 y34.snd.fst.fst.fst y34.snd.fst.fst.snd y34.snd.fst.snd.fst) fun y35 =>
 bif y35.fst then
 some (true, Sh.dflt (.agg [.s, .b, .i .i64, .s, .s, .sl kdT, .s, .b, .i .i64, .s, .sl kdL]), (y35.snd.snd.fst.fst, (y35.snd.snd.fst.snd.fst, ())), (((y35.snd.snd.snd.fst.fst.fst, y35.snd.snd.snd.fst.fst.snd), (y35.snd.snd.snd.fst.snd.fst, ())), ()))
 else obind (pp_literal_v n y35.snd.snd.snd.fst.fst.fst y35.snd.snd.snd.fst.fst.snd y35.snd.snd.snd.fst.snd.fst) fun y36 =>
 bif y36.fst then
 some (true, Sh.dflt (.agg [.s, .b, .i .i64, .s, .s, .sl kdT, .s, .b, .i .i64, .s, .sl kdL]), (y36.snd.snd.fst.fst, (y36.snd.snd.fst.snd.fst, ())), (((y36.snd.snd.snd.fst.fst.fst, y36.snd.snd.snd.fst.fst.snd), (y36.snd.snd.snd.fst.snd.fst, ())), ()))
 else if (List.length r33 + List.length [[DV.val (Value.string y36.snd.fst.fst), DV.val (Value.bool y36.snd.fst.snd.fst), DV.val (Value.int .i64 y36.snd.fst.snd.snd.fst), DV.val (Value.string y36.snd.fst.snd.snd.snd.fst), DV.val (Value.string y36.snd.fst.snd.snd.snd.snd.fst), DV.sl y36.snd.fst.snd.snd.snd.snd.snd.fst.fst kdT y36.snd.fst.snd.snd.snd.snd.snd.fst.snd, DV.val (Value.string y36.snd.fst.snd.snd.snd.snd.snd.snd.fst), DV.val (Value.bool y36.snd.fst.snd.snd.snd.snd.snd.snd.snd.fst), DV.val (Value.int .i64 y36.snd.fst.snd.snd.snd.snd.snd.snd.snd.snd.fst), DV.val (Value.string y36.snd.fst.snd.snd.snd.snd.snd.snd.snd.snd.snd.fst)]]) * 136 ≤ 140737488355328 then
 obind (pp_pass_v n (ByteArray.mk #[46]) y36.snd.snd.snd.fst.fst.fst y36.snd.snd.snd.fst.fst.snd y36.snd.snd.snd.fst.snd.fst) fun y37 =>
 bif y37.fst then
 some (false, (s14, (b15, (j16, (s17, (s18, ((b19, r20), (s21, (b22, (j23, (s24, ((b32 && List.isEmpty [[DV.val (Value.string y36.snd.fst.fst), DV.val (Value.bool y36.snd.fst.snd.fst), DV.val (Value.int .i64 y36.snd.fst.snd.snd.fst), DV.val (Value.string y36.snd.fst.snd.snd.snd.fst), DV.val (Value.string y36.snd.fst.snd.snd.snd.snd.fst), DV.sl y36.snd.fst.snd.snd.snd.snd.snd.fst.fst kdT y36.snd.fst.snd.snd.snd.snd.snd.fst.snd, DV.val (Value.string y36.snd.fst.snd.snd.snd.snd.snd.snd.fst), DV.val (Value.bool y36.snd.fst.snd.snd.snd.snd.snd.snd.snd.fst), DV.val (Value.int .i64 y36.snd.fst.snd.snd.snd.snd.snd.snd.snd.snd.fst), DV.val (Value.string y36.snd.fst.snd.snd.snd.snd.snd.snd.snd.snd.snd.fst)]], appX r33 [[DV.val (Value.string y36.snd.fst.fst), DV.val (Value.bool y36.snd.fst.snd.fst), DV.val (Value.int .i64 y36.snd.fst.snd.snd.fst), DV.val (Value.string y36.snd.fst.snd.snd.snd.fst), DV.val (Value.string y36.snd.fst.snd.snd.snd.snd.fst), DV.sl y36.snd.fst.snd.snd.snd.snd.snd.fst.fst kdT y36.snd.fst.snd.snd.snd.snd.snd.fst.snd, DV.val (Value.string y36.snd.fst.snd.snd.snd.snd.snd.snd.fst), DV.val (Value.bool y36.snd.fst.snd.snd.snd.snd.snd.snd.snd.fst), DV.val (Value.int .i64 y36.snd.fst.snd.snd.snd.snd.snd.snd.snd.snd.fst), DV.val (Value.string y36.snd.fst.snd.snd.snd.snd.snd.snd.snd.snd.snd.fst)]]), ()))))))))))), Sh.dflt (.ifc 67 (.agg [.i .i64, .i .i64])), (((y37.snd.fst.fst.fst, y37.snd.fst.fst.snd), (y37.snd.fst.snd.fst, ())), ()))
 else obind (pp_must_v n (ByteArray.mk #[44]) y37.snd.fst.fst.fst y37.snd.fst.fst.snd y37.snd.fst.snd.fst) fun y38 =>
 bif y38.fst then
 some (true, Sh.dflt (.agg [.s, .b, .i .i64, .s, .s, .sl kdT, .s, .b, .i .i64, .s, .sl kdL]), (y38.snd.snd.fst.fst, (y38.snd.snd.fst.snd.fst, ())), (((y38.snd.snd.snd.fst.fst.fst, y38.snd.snd.snd.fst.fst.snd), (y38.snd.snd.snd.fst.snd.fst, ())), ()))
 else pp_rule_l8 n b0 r1 j2 i0 y38.snd.snd.snd.fst.fst.fst y38.snd.snd.snd.fst.fst.snd y38.snd.snd.snd.fst.snd.fst s14 b15 j16 s17 s18 b19 r20 s21 b22 j23 s24 (b32 && List.isEmpty [[DV.val (Value.string y36.snd.fst.fst), DV.val (Value.bool y36.snd.fst.snd.fst), DV.val (Value.int .i64 y36.snd.fst.snd.snd.fst), DV.val (Value.string y36.snd.fst.snd.snd.snd.fst), DV.val (Value.string y36.snd.fst.snd.snd.snd.snd.fst), DV.sl y36.snd.fst.snd.snd.snd.snd.snd.fst.fst kdT y36.snd.fst.snd.snd.snd.snd.snd.fst.snd, DV.val (Value.string y36.snd.fst.snd.snd.snd.snd.snd.snd.fst), DV.val (Value.bool y36.snd.fst.snd.snd.snd.snd.snd.snd.snd.fst), DV.val (Value.int .i64 y36.snd.fst.snd.snd.snd.snd.snd.snd.snd.snd.fst), DV.val (Value.string y36.snd.fst.snd.snd.snd.snd.snd.snd.snd.snd.snd.fst)]]) (appX r33 [[DV.val (Value.string y36.snd.fst.fst), DV.val (Value.bool y36.snd.fst.snd.fst), DV.val (Value.int .i64 y36.snd.fst.snd.snd.fst), DV.val (Value.string y36.snd.fst.snd.snd.snd.fst), DV.val (Value.string y36.snd.fst.snd.snd.snd.snd.fst), DV.sl y36.snd.fst.snd.snd.snd.snd.snd.fst.fst kdT y36.snd.fst.snd.snd.snd.snd.snd.fst.snd, DV.val (Value.string y36.snd.fst.snd.snd.snd.snd.snd.snd.fst), DV.val (Value.bool y36.snd.fst.snd.snd.snd.snd.snd.snd.snd.fst), DV.val (Value.int .i64 y36.snd.fst.snd.snd.snd.snd.snd.snd.snd.snd.fst), DV.val (Value.string y36.snd.fst.snd.snd.snd.snd.snd.snd.snd.snd.snd.fst)]])
 else none
 else obind (pp_literal_v n y34.snd.fst.fst.fst y34.snd.fst.fst.snd y34.snd.fst.snd.fst) fun y39 =>
 bif y39.fst then
 some (true, Sh.dflt (.agg [.s, .b, .i .i64, .s, .s, .sl kdT, .s, .b, .i .i64, .s, .sl kdL]), (y39.snd.snd.fst.fst, (y39.snd.snd.fst.snd.fst, ())), (((y39.snd.snd.snd.fst.fst.fst, y39.snd.snd.snd.fst.fst.snd), (y39.snd.snd.snd.fst.snd.fst, ())), ()))
 else if (List.length r33 + List.length [[DV.val (Value.string y39.snd.fst.fst), DV.val (Value.bool y39.snd.fst.snd.fst), DV.val (Value.int .i64 y39.snd.fst.snd.snd.fst), DV.val (Value.string y39.snd.fst.snd.snd.snd.fst), DV.val (Value.string y39.snd.fst.snd.snd.snd.snd.fst), DV.sl y39.snd.fst.snd.snd.snd.snd.snd.fst.fst kdT y39.snd.fst.snd.snd.snd.snd.snd.fst.snd, DV.val (Value.string y39.snd.fst.snd.snd.snd.snd.snd.snd.fst), DV.val (Value.bool y39.snd.fst.snd.snd.snd.snd.snd.snd.snd.fst), DV.val (Value.int .i64 y39.snd.fst.snd.snd.snd.snd.snd.snd.snd.snd.fst), DV.val (Value.string y39.snd.fst.snd.snd.snd.snd.snd.snd.snd.snd.snd.fst)]]) * 136 ≤ 140737488355328 then
 obind (pp_pass_v n (ByteArray.mk #[46]) y39.snd.snd.snd.fst.fst.fst y39.snd.snd.snd.fst.fst.snd y39.snd.snd.snd.fst.snd.fst) fun y40 =>
 bif y40.fst then
 some (false, (s14, (b15, (j16, (s17, (s18, ((b19, r20), (s21, (b22, (j23, (s24, ((b32 && List.isEmpty [[DV.val (Value.string y39.snd.fst.fst), DV.val (Value.bool y39.snd.fst.snd.fst), DV.val (Value.int .i64 y39.snd.fst.snd.snd.fst), DV.val (Value.string y39.snd.fst.snd.snd.snd.fst), DV.val (Value.string y39.snd.fst.snd.snd.snd.snd.fst), DV.sl y39.snd.fst.snd.snd.snd.snd.snd.fst.fst kdT y39.snd.fst.snd.snd.snd.snd.snd.fst.snd, DV.val (Value.string y39.snd.fst.snd.snd.snd.snd.snd.snd.fst), DV.val (Value.bool y39.snd.fst.snd.snd.snd.snd.snd.snd.snd.fst), DV.val (Value.int .i64 y39.snd.fst.snd.snd.snd.snd.snd.snd.snd.snd.fst), DV.val (Value.string y39.snd.fst.snd.snd.snd.snd.snd.snd.snd.snd.snd.fst)]], appX r33 [[DV.val (Value.string y39.snd.fst.fst), DV.val (Value.bool y39.snd.fst.snd.fst), DV.val (Value.int .i64 y39.snd.fst.snd.snd.fst), DV.val (Value.string y39.snd.fst.snd.snd.snd.fst), DV.val (Value.string y39.snd.fst.snd.snd.snd.snd.fst), DV.sl y39.snd.fst.snd.snd.snd.snd.snd.fst.fst kdT y39.snd.fst.snd.snd.snd.snd.snd.fst.snd, DV.val (Value.string y39.snd.fst.snd.snd.snd.snd.snd.snd.fst), DV.val (Value.bool y39.snd.fst.snd.snd.snd.snd.snd.snd.snd.fst), DV.val (Value.int .i64 y39.snd.fst.snd.snd.snd.snd.snd.snd.snd.snd.fst), DV.val (Value.string y39.snd.fst.snd.snd.snd.snd.snd.snd.snd.snd.snd.fst)]]), ()))))))))))), Sh.dflt (.ifc 67 (.agg [.i .i64, .i .i64])), (((y40.snd.fst.fst.fst, y40.snd.fst.fst.snd), (y40.snd.fst.snd.fst, ())), ()))
 else obind (pp_must_v n (ByteArray.mk #[44]) y40.snd.fst.fst.fst y40.snd.fst.fst.snd y40.snd.fst.snd.fst) fun y41 =>
 bif y41.fst then
 some (true, Sh.dflt (.agg [.s, .b, .i .i64, .s, .s, .sl kdT, .s, .b, .i .i64, .s, .sl kdL]), (y41.snd.snd.fst.fst, (y41.snd.snd.fst.snd.fst, ())), (((y41.snd.snd.snd.fst.fst.fst, y41.snd.snd.snd.fst.fst.snd), (y41.snd.snd.snd.fst.snd.fst, ())), ()))
 else pp_rule_l8 n b0 r1 j2 i0 y41.snd.snd.snd.fst.fst.fst y41.snd.snd.snd.fst.fst.snd y41.snd.snd.snd.fst.snd.fst s14 b15 j16 s17 s18 b19 r20 s21 b22 j23 s24 (b32 && List.isEmpty [[DV.val (Value.string y39.snd.fst.fst), DV.val (Value.bool y39.snd.fst.snd.fst), DV.val (Value.int .i64 y39.snd.fst.snd.snd.fst), DV.val (Value.string y39.snd.fst.snd.snd.snd.fst), DV.val (Value.string y39.snd.fst.snd.snd.snd.snd.fst), DV.sl y39.snd.fst.snd.snd.snd.snd.snd.fst.fst kdT y39.snd.fst.snd.snd.snd.snd.snd.fst.snd, DV.val (Value.string y39.snd.fst.snd.snd.snd.snd.snd.snd.fst), DV.val (Value.bool y39.snd.fst.snd.snd.snd.snd.snd.snd.snd.fst), DV.val (Value.int .i64 y39.snd.fst.snd.snd.snd.snd.snd.snd.snd.snd.fst), DV.val (Value.string y39.snd.fst.snd.snd.snd.snd.snd.snd.snd.snd.snd.fst)]]) (appX r33 [[DV.val (Value.string y39.snd.fst.fst), DV.val (Value.bool y39.snd.fst.snd.fst), DV.val (Value.int .i64 y39.snd.fst.snd.snd.fst), DV.val (Value.string y39.snd.fst.snd.snd.snd.fst), DV.val (Value.string y39.snd.fst.snd.snd.snd.snd.fst), DV.sl y39.snd.fst.snd.snd.snd.snd.snd.fst.fst kdT y39.snd.fst.snd.snd.snd.snd.snd.fst.snd, DV.val (Value.string y39.snd.fst.snd.snd.snd.snd.snd.snd.fst), DV.val (Value.bool y39.snd.fst.snd.snd.snd.snd.snd.snd.snd.fst), DV.val (Value.int .i64 y39.snd.fst.snd.snd.snd.snd.snd.snd.snd.snd.fst), DV.val (Value.string y39.snd.fst.snd.snd.snd.snd.snd.snd.snd.snd.snd.fst)]])
 else none
 else obind (pp_literal_v n y34.snd.fst.fst.fst y34.snd.fst.fst.snd y34.snd.fst.snd.fst) fun y42 =>
 bif y42.fst then
 some (true, Sh.dflt (.agg [.s, .b, .i .i64, .s, .s, .sl kdT, .s, .b, .i .i64, .s, .sl kdL]), (y42.snd.snd.fst.fst, (y42.snd.snd.fst.snd.fst, ())), (((y42.snd.snd.snd.fst.fst.fst, y42.snd.snd.snd.fst.fst.snd), (y42.snd.snd.snd.fst.snd.fst, ())), ()))
 else if (List.length r33 + List.length [[DV.val (Value.string y42.snd.fst.fst), DV.val (Value.bool y42.snd.fst.snd.fst), DV.val (Value.int .i64 y42.snd.fst.snd.snd.fst), DV.val (Value.string y42.snd.fst.snd.snd.snd.fst), DV.val (Value.string y42.snd.fst.snd.snd.snd.snd.fst), DV.sl y42.snd.fst.snd.snd.snd.snd.snd.fst.fst kdT y42.snd.fst.snd.snd.snd.snd.snd.fst.snd, DV.val (Value.string y42.snd.fst.snd.snd.snd.snd.snd.snd.fst), DV.val (Value.bool y42.snd.fst.snd.snd.snd.snd.snd.snd.snd.fst), DV.val (Value.int .i64 y42.snd.fst.snd.snd.snd.snd.snd.snd.snd.snd.fst), DV.val (Value.string y42.snd.fst.snd.snd.snd.snd.snd.snd.snd.snd.snd.fst)]]) * 136 ≤ 140737488355328 then
 obind (pp_pass_v n (ByteArray.mk #[46]) y42.snd.snd.snd.fst.fst.fst y42.snd.snd.snd.fst.fst.snd y42.snd.snd.snd.fst.snd.fst) fun y43 =>
 bif y43.fst then
 some (false, (s14, (b15, (j16, (s17, (s18, ((b19, r20), (s21, (b22, (j23, (s24, ((b32 && List.isEmpty [[DV.val (Value.string y42.snd.fst.fst), DV.val (Value.bool y42.snd.fst.snd.fst), DV.val (Value.int .i64 y42.snd.fst.snd.snd.fst), DV.val (Value.string y42.snd.fst.snd.snd.snd.fst), DV.val (Value.string y42.snd.fst.snd.snd.snd.snd.fst), DV.sl y42.snd.fst.snd.snd.snd.snd.snd.fst.fst kdT y42.snd.fst.snd.snd.snd.snd.snd.fst.snd, DV.val (Value.string y42.snd.fst.snd.snd.snd.snd.snd.snd.fst), DV.val (Value.bool y42.snd.fst.snd.snd.snd.snd.snd.snd.snd.fst), DV.val (Value.int .i64 y42.snd.fst.snd.snd.snd.snd.snd.snd.snd.snd.fst), DV.val (Value.string y42.snd.fst.snd.snd.snd.snd.snd.snd.snd.snd.snd.fst)]], appX r33 [[DV.val (Value.string y42.snd.fst.fst), DV.val (Value.bool y42.snd.fst.snd.fst), DV.val (Value.int .i64 y42.snd.fst.snd.snd.fst), DV.val (Value.string y42.snd.fst.snd.snd.snd.fst), DV.val (Value.string y42.snd.fst.snd.snd.snd.snd.fst), DV.sl y42.snd.fst.snd.snd.snd.snd.snd.fst.fst kdT y42.snd.fst.snd.snd.snd.snd.snd.fst.snd, DV.val (Value.string y42.snd.fst.snd.snd.snd.snd.snd.snd.fst), DV.val (Value.bool y42.snd.fst.snd.snd.snd.snd.snd.snd.snd.fst), DV.val (Value.int .i64 y42.snd.fst.snd.snd.snd.snd.snd.snd.snd.snd.fst), DV.val (Value.string y42.snd.fst.snd.snd.snd.snd.snd.snd.snd.snd.snd.fst)]]), ()))))))))))), Sh.dflt (.ifc 67 (.agg [.i .i64, .i .i64])), (((y43.snd.fst.fst.fst, y43.snd.fst.fst.snd), (y43.snd.fst.snd.fst, ())), ()))
 else obind (pp_must_v n (ByteArray.mk #[44]) y43.snd.fst.fst.fst y43.snd.fst.fst.snd y43.snd.fst.snd.fst) fun y44 =>
 bif y44.fst then
 some (true, Sh.dflt (.agg [.s, .b, .i .i64, .s, .s, .sl kdT, .s, .b, .i .i64, .s, .sl kdL]), (y44.snd.snd.fst.fst, (y44.snd.snd.fst.snd.fst, ())), (((y44.snd.snd.snd.fst.fst.fst, y44.snd.snd.snd.fst.fst.snd), (y44.snd.snd.snd.fst.snd.fst, ())), ()))
 else pp_rule_l8 n b0 r1 j2 i0 y44.snd.snd.snd.fst.fst.fst y44.snd.snd.snd.fst.fst.snd y44.snd.snd.snd.fst.snd.fst s14 b15 j16 s17 s18 b19 r20 s21 b22 j23 s24 (b32 && List.isEmpty [[DV.val (Value.string y42.snd.fst.fst), DV.val (Value.bool y42.snd.fst.snd.fst), DV.val (Value.int .i64 y42.snd.fst.snd.snd.fst), DV.val (Value.string y42.snd.fst.snd.snd.snd.fst), DV.val (Value.string y42.snd.fst.snd.snd.snd.snd.fst), DV.sl y42.snd.fst.snd.snd.snd.snd.snd.fst.fst kdT y42.snd.fst.snd.snd.snd.snd.snd.fst.snd, DV.val (Value.string y42.snd.fst.snd.snd.snd.snd.snd.snd.fst), DV.val (Value.bool y42.snd.fst.snd.snd.snd.snd.snd.snd.snd.fst), DV.val (Value.int .i64 y42.snd.fst.snd.snd.snd.snd.snd.snd.snd.snd.fst), DV.val (Value.string y42.snd.fst.snd.snd.snd.snd.snd.snd.snd.snd.snd.fst)]]) (appX r33 [[DV.val (Value.string y42.snd.fst.fst), DV.val (Value.bool y42.snd.fst.snd.fst), DV.val (Value.int .i64 y42.snd.fst.snd.snd.fst), DV.val (Value.string y42.snd.fst.snd.snd.snd.fst), DV.val (Value.string y42.snd.fst.snd.snd.snd.snd.fst), DV.sl y42.snd.fst.snd.snd.snd.snd.snd.fst.fst kdT y42.snd.fst.snd.snd.snd.snd.snd.fst.snd, DV.val (Value.string y42.snd.fst.snd.snd.snd.snd.snd.snd.fst), DV.val (Value.bool y42.snd.fst.snd.snd.snd.snd.snd.snd.snd.fst), DV.val (Value.int .i64 y42.snd.fst.snd.snd.snd.snd.snd.snd.snd.snd.fst), DV.val (Value.string y42.snd.fst.snd.snd.snd.snd.snd.snd.snd.snd.snd.fst)]])
 else none := by kernel_rfl
theorem pp_rule_e (n : Nat) (b0 : Bool) (r1 : Rows) (j2 : Int) : pp_rule_v n b0 r1 j2 =
 obind (pp_term_v n b0 r1 j2) fun y3 =>
 bif y3.fst then
 some (true, Sh.dflt (.agg [.s, .b, .i .i64, .s, .s, .sl kdT, .s, .b, .i .i64, .s, .sl kdL]), (y3.snd.snd.fst.fst, (y3.snd.snd.fst.snd.fst, ())), (((y3.snd.snd.snd.fst.fst.fst, y3.snd.snd.snd.fst.fst.snd), (y3.snd.snd.snd.fst.snd.fst, ())), ()))
 else obind (pp_must_v n (ByteArray.mk #[58]) y3.snd.snd.snd.fst.fst.fst y3.snd.snd.snd.fst.fst.snd y3.snd.snd.snd.fst.snd.fst) fun y4 =>
 bif y4.fst then
 some (true, Sh.dflt (.agg [.s, .b, .i .i64, .s, .s, .sl kdT, .s, .b, .i .i64, .s, .sl kdL]), (y4.snd.snd.fst.fst, (y4.snd.snd.fst.snd.fst, ())), (((y4.snd.snd.snd.fst.fst.fst, y4.snd.snd.snd.fst.fst.snd), (y4.snd.snd.snd.fst.snd.fst, ())), ()))
 else obind (pp_word_v n y4.snd.snd.snd.fst.fst.fst y4.snd.snd.snd.fst.fst.snd y4.snd.snd.snd.fst.snd.fst) fun y5 =>
 bif y5.fst then
 some (true, Sh.dflt (.agg [.s, .b, .i .i64, .s, .s, .sl kdT, .s, .b, .i .i64, .s, .sl kdL]), (y5.snd.snd.fst.fst, (y5.snd.snd.fst.snd.fst, ())), (((y5.snd.snd.snd.fst.fst.fst, y5.snd.snd.snd.fst.fst.snd), (y5.snd.snd.snd.fst.snd.fst, ())), ()))
 else obind (pp_args_v n y5.snd.snd.snd.fst.fst.fst y5.snd.snd.snd.fst.fst.snd y5.snd.snd.snd.fst.snd.fst) fun y6 =>
 bif y6.fst then
 some (true, Sh.dflt (.agg [.s, .b, .i .i64, .s, .s, .sl kdT, .s, .b, .i .i64, .s, .sl kdL]), (y6.snd.snd.fst.fst, (y6.snd.snd.fst.snd.fst, ())), (((y6.snd.snd.snd.fst.fst.fst, y6.snd.snd.snd.fst.fst.snd), (y6.snd.snd.snd.fst.snd.fst, ())), ()))
 else obind (pp_pass_v n (ByteArray.mk #[116, 111]) y6.snd.snd.snd.fst.fst.fst y6.snd.snd.snd.fst.fst.snd y6.snd.snd.snd.fst.snd.fst) fun y7 =>
 bif y7.fst then
 obind (pp_term_v n y7.snd.fst.fst.fst y7.snd.fst.fst.snd y7.snd.fst.snd.fst) fun y8 =>
 bif y8.fst then
 some (true, Sh.dflt (.agg [.s, .b, .i .i64, .s, .s, .sl kdT, .s, .b, .i .i64, .s, .sl kdL]), (y8.snd.snd.fst.fst, (y8.snd.snd.fst.snd.fst, ())), (((y8.snd.snd.snd.fst.fst.fst, y8.snd.snd.snd.fst.fst.snd), (y8.snd.snd.snd.fst.snd.fst, ())), ()))
 else obind (pp_must_v n (ByteArray.mk #[58, 45]) y8.snd.snd.snd.fst.fst.fst y8.snd.snd.snd.fst.fst.snd y8.snd.snd.snd.fst.snd.fst) fun y9 =>
 bif y9.fst then
 some (true, Sh.dflt (.agg [.s, .b, .i .i64, .s, .s, .sl kdT, .s, .b, .i .i64, .s, .sl kdL]), (y9.snd.snd.fst.fst, (y9.snd.snd.fst.snd.fst, ())), (((y9.snd.snd.snd.fst.fst.fst, y9.snd.snd.snd.fst.fst.snd), (y9.snd.snd.snd.fst.snd.fst, ())), ()))
 else pp_rule_l8 n b0 r1 j2 n y9.snd.snd.snd.fst.fst.fst y9.snd.snd.snd.fst.fst.snd y9.snd.snd.snd.fst.snd.fst y3.snd.fst.fst y3.snd.fst.snd.fst y3.snd.fst.snd.snd.fst y3.snd.fst.snd.snd.snd.fst y5.snd.fst y6.snd.fst.fst y6.snd.fst.snd y8.snd.fst.fst y8.snd.fst.snd.fst y8.snd.fst.snd.snd.fst y8.snd.fst.snd.snd.snd.fst true []
 else obind (pp_must_v n (ByteArray.mk #[58, 45]) y7.snd.fst.fst.fst y7.snd.fst.fst.snd y7.snd.fst.snd.fst) fun y10 =>
 bif y10.fst then
 some (true, Sh.dflt (.agg [.s, .b, .i .i64, .s, .s, .sl kdT, .s, .b, .i .i64, .s, .sl kdL]), (y10.snd.snd.fst.fst, (y10.snd.snd.fst.snd.fst, ())), (((y10.snd.snd.snd.fst.fst.fst, y10.snd.snd.snd.fst.fst.snd), (y10.snd.snd.snd.fst.snd.fst, ())), ()))
 else pp_rule_l8 n b0 r1 j2 n y10.snd.snd.snd.fst.fst.fst y10.snd.snd.snd.fst.fst.snd y10.snd.snd.snd.fst.snd.fst y3.snd.fst.fst y3.snd.fst.snd.fst y3.snd.fst.snd.snd.fst y3.snd.fst.snd.snd.snd.fst y5.snd.fst y6.snd.fst.fst y6.snd.fst.snd (ByteArray.mk #[]) false 0 (ByteArray.mk #[]) true [] := by kernel_rfl
theorem pp_rule_c (n : Nat) (b0 : Bool) (r1 : Rows) (j2 : Int) (y : Bool × (ByteArray × Bool × Int × ByteArray × ByteArray × (Bool × Rows) × ByteArray × Bool × Int × ByteArray × (Bool × Rows) × Unit) × (Int × Int × Unit) × ((Bool × Rows) × Int × Unit) × Unit) (h : pp_rule_v n b0 r1 j2 = some y) : Contract Tryd.prog 30 [AV.pl 1000 0] [[AV.sl b0 kdK r1 Right.no, aI j2]] (OSh.enc (OSh.pan (.agg [.s, .b, .i .i64, .s, .s, .sl kdT, .s, .b, .i .i64, .s, .sl kdL]) (.ifc 67 (.agg [.i .i64, .i .i64])) [[.sl kdK, .i .i64]]) y) :=
 ac (OSh.pan (.agg [.s, .b, .i .i64, .s, .s, .sl kdT, .s, .b, .i .i64, .s, .sl kdL]) (.ifc 67 (.agg [.i .i64, .i .i64])) [[.sl kdK, .i .i64]]) (pp_rule_σok n) Tryd.func30 (by decide) h
def parse_Program_lv : Live := [(6, [2, 3, 4, 6], [2, 3, 4, 21, 1000, 1001, 1002, 1003])]
def parse_Program_σ (n : Nat) : Spec := (inst 26 [.s] [] (OSh.plain (.tup [.sl kdK, .i .i64, .i .i64]) []) (fun x e => lex_Tokens_v n x.1) (inst 28 [.pl 1000 0] [[.sl kdK, .i .i64]] (OSh.plain (.b) [[.sl kdK, .i .i64]]) (fun x e => pp_begins_v n e.1.1.1 e.1.1.2 e.1.2.1) (inst 30 [.pl 1000 0] [[.sl kdK, .i .i64]] (OSh.pan (.agg [.s, .b, .i .i64, .s, .s, .sl kdT, .s, .b, .i .i64, .s, .sl kdL]) (.ifc 67 (.agg [.i .i64, .i .i64])) [[.sl kdK, .i .i64]]) (fun x e => pp_rule_v n e.1.1.1 e.1.1.2 e.1.2.1) (inst 29 [.pl 1000 0, .i .i64] [[.sl kdK, .i .i64]] (OSh.pan (.junk) (.ifc 67 (.agg [.i .i64, .i .i64])) [[.sl kdK, .i .i64]]) (fun x e => pp_fail_v n x.2.1 e.1.1.1 e.1.1.2 e.1.2.1) Spec.none))))
theorem parse_Program_σok (n : Nat) : SpecOk Tryd.prog (parse_Program_σ n) := (inst_ok (fun x e y h => lex_Tokens_c n x.1 y h) (inst_ok (fun x e y h => pp_begins_c n e.1.1.1 e.1.1.2 e.1.2.1 y h) (inst_ok (fun x e y h => pp_rule_c n e.1.1.1 e.1.1.2 e.1.2.1 y h) (inst_ok (fun x e y h => pp_fail_c n x.2.1 e.1.1.1 e.1.1.2 e.1.2.1 y h) (SpecOk.none _)))))
def parse_Program_Φ (n : Nat) : Orc := with_ Tryd.prog (parse_Program_σ n) [] n 0 hsL
def parse_Program_v (n : Nat) (s0 : ByteArray) : Option (((Bool × Rows) × Int × Int × Unit) × Unit) :=
 DM.denFnD tm (parse_Program_Φ n) parse_Program_lv n Tryd.f20 Tryd.f27 27 ([]) [aS s0] (OSh.chk (OSh.plain (.tup [.sl kdR, .i .i64, .i .i64]) []))
def parse_Program_l6 (n : Nat) (s0 : ByteArray) (i0 : Nat) (b2 : Bool) (r3 : List (List DV)) (j4 : Int) (j5 : Int) (j9 : Int) (b10 : Bool) (r11 : List (List DV)) : Option (((Bool × Rows) × Int × Int × Unit) × Unit) :=
 DM.loopFnD tm (parse_Program_Φ n) parse_Program_lv n Tryd.f20 Tryd.f27 27 ([]) [.pl 1001 0, .pl 1002 0, .pl 1003 0] (OSh.chk (OSh.plain (.tup [.sl kdR, .i .i64, .i .i64]) [])) 6 [] i0 (St.mk ([Jk, Jk, AV.pl 1001 0, AV.pl 1002 0, AV.pl 1003 0, Jk, AV.pl 1000 0] ++ jk 37) [(1000, [AV.sl b2 kdK r3 Right.no, aI j9]), (1001, [AV.sl b10 kdR r11 (Right.tok 84064)]), (1002, [aI j4]), (1003, [aI j5])])
theorem parse_Program_s6 (n : Nat) (s0 : ByteArray) (i0 : Nat) (b2 : Bool) (r3 : List (List DV)) (j4 : Int) (j5 : Int) (j9 : Int) (b10 : Bool) (r11 : List (List DV)) : parse_Program_l6 n s0 (i0 + 1) b2 r3 j4 j5 j9 b10 r11 =
 bif decide ((↑(List.length r3) : Int) > 0) then
 obind (pp_begins_v n b2 r3 j9) fun y12 =>
 bif y12.fst then
 bif (↑(List.length r11) : Int) == 16 then
 obind (pp_fail_v n 81 y12.snd.fst.fst.fst y12.snd.fst.fst.snd y12.snd.fst.snd.fst) fun y13 =>
 bif y13.fst then
 some (((true, []), (y13.snd.snd.fst.fst, (y13.snd.snd.fst.snd.fst, ()))), ())
 else obind (pp_rule_v n y13.snd.snd.snd.fst.fst.fst y13.snd.snd.snd.fst.fst.snd y13.snd.snd.snd.fst.snd.fst) fun y14 =>
 bif y14.fst then
 some (((true, []), (y14.snd.snd.fst.fst, (y14.snd.snd.fst.snd.fst, ()))), ())
 else if (List.length r11 + List.length [[DV.val (Value.string y14.snd.fst.fst), DV.val (Value.bool y14.snd.fst.snd.fst), DV.val (Value.int .i64 y14.snd.fst.snd.snd.fst), DV.val (Value.string y14.snd.fst.snd.snd.snd.fst), DV.val (Value.string y14.snd.fst.snd.snd.snd.snd.fst), DV.sl y14.snd.fst.snd.snd.snd.snd.snd.fst.fst kdT y14.snd.fst.snd.snd.snd.snd.snd.fst.snd, DV.val (Value.string y14.snd.fst.snd.snd.snd.snd.snd.snd.fst), DV.val (Value.bool y14.snd.fst.snd.snd.snd.snd.snd.snd.snd.fst), DV.val (Value.int .i64 y14.snd.fst.snd.snd.snd.snd.snd.snd.snd.snd.fst), DV.val (Value.string y14.snd.fst.snd.snd.snd.snd.snd.snd.snd.snd.snd.fst), DV.sl y14.snd.fst.snd.snd.snd.snd.snd.snd.snd.snd.snd.snd.fst.fst kdL y14.snd.fst.snd.snd.snd.snd.snd.snd.snd.snd.snd.snd.fst.snd]]) * 160 ≤ 140737488355328 then
 parse_Program_l6 n s0 i0 y14.snd.snd.snd.fst.fst.fst y14.snd.snd.snd.fst.fst.snd j4 j5 y14.snd.snd.snd.fst.snd.fst (b10 && List.isEmpty [[DV.val (Value.string y14.snd.fst.fst), DV.val (Value.bool y14.snd.fst.snd.fst), DV.val (Value.int .i64 y14.snd.fst.snd.snd.fst), DV.val (Value.string y14.snd.fst.snd.snd.snd.fst), DV.val (Value.string y14.snd.fst.snd.snd.snd.snd.fst), DV.sl y14.snd.fst.snd.snd.snd.snd.snd.fst.fst kdT y14.snd.fst.snd.snd.snd.snd.snd.fst.snd, DV.val (Value.string y14.snd.fst.snd.snd.snd.snd.snd.snd.fst), DV.val (Value.bool y14.snd.fst.snd.snd.snd.snd.snd.snd.snd.fst), DV.val (Value.int .i64 y14.snd.fst.snd.snd.snd.snd.snd.snd.snd.snd.fst), DV.val (Value.string y14.snd.fst.snd.snd.snd.snd.snd.snd.snd.snd.snd.fst), DV.sl y14.snd.fst.snd.snd.snd.snd.snd.snd.snd.snd.snd.snd.fst.fst kdL y14.snd.fst.snd.snd.snd.snd.snd.snd.snd.snd.snd.snd.fst.snd]]) (appX r11 [[DV.val (Value.string y14.snd.fst.fst), DV.val (Value.bool y14.snd.fst.snd.fst), DV.val (Value.int .i64 y14.snd.fst.snd.snd.fst), DV.val (Value.string y14.snd.fst.snd.snd.snd.fst), DV.val (Value.string y14.snd.fst.snd.snd.snd.snd.fst), DV.sl y14.snd.fst.snd.snd.snd.snd.snd.fst.fst kdT y14.snd.fst.snd.snd.snd.snd.snd.fst.snd, DV.val (Value.string y14.snd.fst.snd.snd.snd.snd.snd.snd.fst), DV.val (Value.bool y14.snd.fst.snd.snd.snd.snd.snd.snd.snd.fst), DV.val (Value.int .i64 y14.snd.fst.snd.snd.snd.snd.snd.snd.snd.snd.fst), DV.val (Value.string y14.snd.fst.snd.snd.snd.snd.snd.snd.snd.snd.snd.fst), DV.sl y14.snd.fst.snd.snd.snd.snd.snd.snd.snd.snd.snd.snd.fst.fst kdL y14.snd.fst.snd.snd.snd.snd.snd.snd.snd.snd.snd.snd.fst.snd]])
 else none
 else obind (pp_rule_v n y12.snd.fst.fst.fst y12.snd.fst.fst.snd y12.snd.fst.snd.fst) fun y15 =>
 bif y15.fst then
 some (((true, []), (y15.snd.snd.fst.fst, (y15.snd.snd.fst.snd.fst, ()))), ())
 else if (List.length r11 + List.length [[DV.val (Value.string y15.snd.fst.fst), DV.val (Value.bool y15.snd.fst.snd.fst), DV.val (Value.int .i64 y15.snd.fst.snd.snd.fst), DV.val (Value.string y15.snd.fst.snd.snd.snd.fst), DV.val (Value.string y15.snd.fst.snd.snd.snd.snd.fst), DV.sl y15.snd.fst.snd.snd.snd.snd.snd.fst.fst kdT y15.snd.fst.snd.snd.snd.snd.snd.fst.snd, DV.val (Value.string y15.snd.fst.snd.snd.snd.snd.snd.snd.fst), DV.val (Value.bool y15.snd.fst.snd.snd.snd.snd.snd.snd.snd.fst), DV.val (Value.int .i64 y15.snd.fst.snd.snd.snd.snd.snd.snd.snd.snd.fst), DV.val (Value.string y15.snd.fst.snd.snd.snd.snd.snd.snd.snd.snd.snd.fst), DV.sl y15.snd.fst.snd.snd.snd.snd.snd.snd.snd.snd.snd.snd.fst.fst kdL y15.snd.fst.snd.snd.snd.snd.snd.snd.snd.snd.snd.snd.fst.snd]]) * 160 ≤ 140737488355328 then
 parse_Program_l6 n s0 i0 y15.snd.snd.snd.fst.fst.fst y15.snd.snd.snd.fst.fst.snd j4 j5 y15.snd.snd.snd.fst.snd.fst (b10 && List.isEmpty [[DV.val (Value.string y15.snd.fst.fst), DV.val (Value.bool y15.snd.fst.snd.fst), DV.val (Value.int .i64 y15.snd.fst.snd.snd.fst), DV.val (Value.string y15.snd.fst.snd.snd.snd.fst), DV.val (Value.string y15.snd.fst.snd.snd.snd.snd.fst), DV.sl y15.snd.fst.snd.snd.snd.snd.snd.fst.fst kdT y15.snd.fst.snd.snd.snd.snd.snd.fst.snd, DV.val (Value.string y15.snd.fst.snd.snd.snd.snd.snd.snd.fst), DV.val (Value.bool y15.snd.fst.snd.snd.snd.snd.snd.snd.snd.fst), DV.val (Value.int .i64 y15.snd.fst.snd.snd.snd.snd.snd.snd.snd.snd.fst), DV.val (Value.string y15.snd.fst.snd.snd.snd.snd.snd.snd.snd.snd.snd.fst), DV.sl y15.snd.fst.snd.snd.snd.snd.snd.snd.snd.snd.snd.snd.fst.fst kdL y15.snd.fst.snd.snd.snd.snd.snd.snd.snd.snd.snd.snd.fst.snd]]) (appX r11 [[DV.val (Value.string y15.snd.fst.fst), DV.val (Value.bool y15.snd.fst.snd.fst), DV.val (Value.int .i64 y15.snd.fst.snd.snd.fst), DV.val (Value.string y15.snd.fst.snd.snd.snd.fst), DV.val (Value.string y15.snd.fst.snd.snd.snd.snd.fst), DV.sl y15.snd.fst.snd.snd.snd.snd.snd.fst.fst kdT y15.snd.fst.snd.snd.snd.snd.snd.fst.snd, DV.val (Value.string y15.snd.fst.snd.snd.snd.snd.snd.snd.fst), DV.val (Value.bool y15.snd.fst.snd.snd.snd.snd.snd.snd.snd.fst), DV.val (Value.int .i64 y15.snd.fst.snd.snd.snd.snd.snd.snd.snd.snd.fst), DV.val (Value.string y15.snd.fst.snd.snd.snd.snd.snd.snd.snd.snd.snd.fst), DV.sl y15.snd.fst.snd.snd.snd.snd.snd.snd.snd.snd.snd.snd.fst.fst kdL y15.snd.fst.snd.snd.snd.snd.snd.snd.snd.snd.snd.snd.fst.snd]])
 else none
 else obind (pp_rule_v n y12.snd.fst.fst.fst y12.snd.fst.fst.snd y12.snd.fst.snd.fst) fun y16 =>
 bif y16.fst then
 some (((true, []), (y16.snd.snd.fst.fst, (y16.snd.snd.fst.snd.fst, ()))), ())
 else if (List.length r11 + List.length [[DV.val (Value.string y16.snd.fst.fst), DV.val (Value.bool y16.snd.fst.snd.fst), DV.val (Value.int .i64 y16.snd.fst.snd.snd.fst), DV.val (Value.string y16.snd.fst.snd.snd.snd.fst), DV.val (Value.string y16.snd.fst.snd.snd.snd.snd.fst), DV.sl y16.snd.fst.snd.snd.snd.snd.snd.fst.fst kdT y16.snd.fst.snd.snd.snd.snd.snd.fst.snd, DV.val (Value.string y16.snd.fst.snd.snd.snd.snd.snd.snd.fst), DV.val (Value.bool y16.snd.fst.snd.snd.snd.snd.snd.snd.snd.fst), DV.val (Value.int .i64 y16.snd.fst.snd.snd.snd.snd.snd.snd.snd.snd.fst), DV.val (Value.string y16.snd.fst.snd.snd.snd.snd.snd.snd.snd.snd.snd.fst), DV.sl y16.snd.fst.snd.snd.snd.snd.snd.snd.snd.snd.snd.snd.fst.fst kdL y16.snd.fst.snd.snd.snd.snd.snd.snd.snd.snd.snd.snd.fst.snd]]) * 160 ≤ 140737488355328 then
 parse_Program_l6 n s0 i0 y16.snd.snd.snd.fst.fst.fst y16.snd.snd.snd.fst.fst.snd j4 j5 y16.snd.snd.snd.fst.snd.fst (b10 && List.isEmpty [[DV.val (Value.string y16.snd.fst.fst), DV.val (Value.bool y16.snd.fst.snd.fst), DV.val (Value.int .i64 y16.snd.fst.snd.snd.fst), DV.val (Value.string y16.snd.fst.snd.snd.snd.fst), DV.val (Value.string y16.snd.fst.snd.snd.snd.snd.fst), DV.sl y16.snd.fst.snd.snd.snd.snd.snd.fst.fst kdT y16.snd.fst.snd.snd.snd.snd.snd.fst.snd, DV.val (Value.string y16.snd.fst.snd.snd.snd.snd.snd.snd.fst), DV.val (Value.bool y16.snd.fst.snd.snd.snd.snd.snd.snd.snd.fst), DV.val (Value.int .i64 y16.snd.fst.snd.snd.snd.snd.snd.snd.snd.snd.fst), DV.val (Value.string y16.snd.fst.snd.snd.snd.snd.snd.snd.snd.snd.snd.fst), DV.sl y16.snd.fst.snd.snd.snd.snd.snd.snd.snd.snd.snd.snd.fst.fst kdL y16.snd.fst.snd.snd.snd.snd.snd.snd.snd.snd.snd.snd.fst.snd]]) (appX r11 [[DV.val (Value.string y16.snd.fst.fst), DV.val (Value.bool y16.snd.fst.snd.fst), DV.val (Value.int .i64 y16.snd.fst.snd.snd.fst), DV.val (Value.string y16.snd.fst.snd.snd.snd.fst), DV.val (Value.string y16.snd.fst.snd.snd.snd.snd.fst), DV.sl y16.snd.fst.snd.snd.snd.snd.snd.fst.fst kdT y16.snd.fst.snd.snd.snd.snd.snd.fst.snd, DV.val (Value.string y16.snd.fst.snd.snd.snd.snd.snd.snd.fst), DV.val (Value.bool y16.snd.fst.snd.snd.snd.snd.snd.snd.snd.fst), DV.val (Value.int .i64 y16.snd.fst.snd.snd.snd.snd.snd.snd.snd.snd.fst), DV.val (Value.string y16.snd.fst.snd.snd.snd.snd.snd.snd.snd.snd.snd.fst), DV.sl y16.snd.fst.snd.snd.snd.snd.snd.snd.snd.snd.snd.snd.fst.fst kdL y16.snd.fst.snd.snd.snd.snd.snd.snd.snd.snd.snd.snd.fst.snd]])
 else none
 else some (((b10, r11), (0, (0, ()))), ()) := by kernel_rfl
theorem parse_Program_e (n : Nat) (s0 : ByteArray) : parse_Program_v n s0 =
 obind (lex_Tokens_v n s0) fun y1 =>
 bif y1.fst.snd.snd.fst != 0 then
 some (((true, []), (y1.fst.snd.fst, (y1.fst.snd.snd.fst, ()))), ())
 else parse_Program_l6 n s0 n y1.fst.fst.fst y1.fst.fst.snd y1.fst.snd.fst y1.fst.snd.snd.fst ((↑(ByteArray.size s0) : Int)) true [] := by kernel_rfl
theorem parse_Program_c (n : Nat) (s0 : ByteArray) (y : ((Bool × Rows) × Int × Int × Unit) × Unit) (h : parse_Program_v n s0 = some y) : Contract Tryd.prog 20 [aS s0] [] (OSh.enc (OSh.plain (.tup [.sl kdR, .i .i64, .i .i64]) []) y) :=
 autoD_okM tm_std (with_ok mixed (by kernel_rfl) (parse_Program_σok n) n 0 hsL) mixed Tryd.func20 (by decide) Tryd.func27 (by decide) (by decide) (o := (OSh.plain (.tup [.sl kdR, .i .i64, .i .i64]) [])) h
def show_variable_lv : Live := []
def show_variable_σ (n : Nat) : Spec := (inst 26 [.s] [] (OSh.plain (.tup [.sl kdK, .i .i64, .i .i64]) []) (fun x e => lex_Tokens_v n x.1) Spec.none)
theorem show_variable_σok (n : Nat) : SpecOk Tryd.prog (show_variable_σ n) := (inst_ok (fun x e y h => lex_Tokens_c n x.1 y h) (SpecOk.none _))
def show_variable_Φ (n : Nat) : Orc := with_ Tryd.prog (show_variable_σ n) [] n 0 hsL
def show_variable_v (n : Nat) (s0 : ByteArray) : Option (Bool × Unit) :=
 DM.denFn tm (show_variable_Φ n) show_variable_lv n Tryd.f86 false [aS s0] [] (OSh.chk (OSh.plain (.b) []))
theorem show_variable_e (n : Nat) (s0 : ByteArray) : show_variable_v n s0 =
 obind (lex_Tokens_v n s0) fun y1 =>
 bif y1.fst.snd.snd.fst == 0 then
 bif (↑(List.length y1.fst.fst.snd) : Int) == 1 then
 if 0 < (↑(List.length y1.fst.fst.snd) : Int) then
 bif Row.I (List.getD y1.fst.fst.snd 0 []) 0 == 2 then
 if 0 < (↑(List.length y1.fst.fst.snd) : Int) then
 some (Row.S (List.getD y1.fst.fst.snd 0 []) 1 == s0, ())
 else none
 else some (false, ())
 else none
 else some (false, ())
 else some (false, ()) := by kernel_rfl
theorem show_variable_c (n : Nat) (s0 : ByteArray) (y : Bool × Unit) (h : show_variable_v n s0 = some y) : Contract Tryd.prog 86 [aS s0] [] (OSh.enc (OSh.plain (.b) []) y) :=
 ac (OSh.plain (.b) []) (show_variable_σok n) Tryd.func86 (by decide) h
def show_plain_lv : Live := [(2, [0, 5, 6], [1000, 1001, 1002, 1003])]
def show_plain_σ (n : Nat) : Spec := Spec.none
theorem show_plain_σok (n : Nat) : SpecOk Tryd.prog (show_plain_σ n) := (SpecOk.none _)
def show_plain_Φ (n : Nat) : Orc := with_ Tryd.prog (show_plain_σ n) [] n 0 hsL
def show_plain_v (n : Nat) (s0 : ByteArray) : Option (Bool × Unit) :=
 DM.denFn tm (show_plain_Φ n) show_plain_lv n Tryd.f87 false [aS s0] [] (OSh.chk (OSh.plain (.b) []))
def show_plain_l2 (n : Nat) (s0 : ByteArray) (i0 : Nat) (j1 : Int) : Option (Bool × Unit) :=
 DM.loopFn tm (show_plain_Φ n) show_plain_lv n Tryd.f87 false [] (OSh.chk (OSh.plain (.b) [])) 2 [] i0 (St.mk ([aS s0, Jk, Jk, Jk, Jk, AV.dv (DV.val (Value.int .i64 (↑(ByteArray.size s0) : Int))), aI j1] ++ jk 33) [])
theorem show_plain_s2 (n : Nat) (s0 : ByteArray) (i0 : Nat) (j1 : Int) : show_plain_l2 n s0 (i0 + 1) j1 =
 bif decide (j1 < (↑(ByteArray.size s0) : Int)) then
 if 0 ≤ j1 then
 if j1 < (↑(ByteArray.size s0) : Int) then
 bif decide (bt s0 j1 < 32) then
 some (false, ())
 else if 0 ≤ j1 then
 if j1 < (↑(ByteArray.size s0) : Int) then
 bif decide (bt s0 j1 > 126) then
 some (false, ())
 else if 0 ≤ j1 then
 if j1 < (↑(ByteArray.size s0) : Int) then
 bif bt s0 j1 == 34 then
 some (false, ())
 else if 0 ≤ j1 then
 if j1 < (↑(ByteArray.size s0) : Int) then
 bif bt s0 j1 == 92 then
 some (false, ())
 else show_plain_l2 n s0 i0 (IntKind.wrap IntKind.i64 (j1 + 1))
 else none
 else none
 else none
 else none
 else none
 else none
 else none
 else none
 else bif decide ((↑(ByteArray.size s0) : Int) ≥ 1) then
 some (decide ((↑(ByteArray.size s0) : Int) ≤ 32), ())
 else some (false, ()) := by kernel_rfl
theorem show_plain_e (n : Nat) (s0 : ByteArray) : show_plain_v n s0 =
 show_plain_l2 n s0 n 0 := by kernel_rfl
theorem show_plain_c (n : Nat) (s0 : ByteArray) (y : Bool × Unit) (h : show_plain_v n s0 = some y) : Contract Tryd.prog 87 [aS s0] [] (OSh.enc (OSh.plain (.b) []) y) :=
 ac (OSh.plain (.b) []) (show_plain_σok n) Tryd.func87 (by decide) h
def show_word_lv : Live := []
def show_word_σ (n : Nat) : Spec := (inst 26 [.s] [] (OSh.plain (.tup [.sl kdK, .i .i64, .i .i64]) []) (fun x e => lex_Tokens_v n x.1) Spec.none)
theorem show_word_σok (n : Nat) : SpecOk Tryd.prog (show_word_σ n) := (inst_ok (fun x e y h => lex_Tokens_c n x.1 y h) (SpecOk.none _))
def show_word_Φ (n : Nat) : Orc := with_ Tryd.prog (show_word_σ n) [] n 0 hsL
def show_word_v (n : Nat) (s0 : ByteArray) : Option (Bool × Unit) :=
 DM.denFn tm (show_word_Φ n) show_word_lv n Tryd.f81 false [aS s0] [] (OSh.chk (OSh.plain (.b) []))
theorem show_word_e (n : Nat) (s0 : ByteArray) : show_word_v n s0 =
 obind (lex_Tokens_v n s0) fun y1 =>
 bif y1.fst.snd.snd.fst == 0 then
 bif (↑(List.length y1.fst.fst.snd) : Int) == 1 then
 if 0 < (↑(List.length y1.fst.fst.snd) : Int) then
 bif Row.I (List.getD y1.fst.fst.snd 0 []) 0 == 1 then
 if 0 < (↑(List.length y1.fst.fst.snd) : Int) then
 bif Row.S (List.getD y1.fst.fst.snd 0 []) 1 == s0 then
 bif !s0 == ByteArray.mk #[115, 97, 121, 115] then
 bif !s0 == ByteArray.mk #[116, 111] then
 some (!s0 == ByteArray.mk #[97, 116], ())
 else some (false, ())
 else some (false, ())
 else some (false, ())
 else none
 else some (false, ())
 else none
 else some (false, ())
 else some (false, ()) := by kernel_rfl
theorem show_word_c (n : Nat) (s0 : ByteArray) (y : Bool × Unit) (h : show_word_v n s0 = some y) : Contract Tryd.prog 81 [aS s0] [] (OSh.enc (OSh.plain (.b) []) y) :=
 ac (OSh.plain (.b) []) (show_word_σok n) Tryd.func81 (by decide) h
end
end Go.Den
