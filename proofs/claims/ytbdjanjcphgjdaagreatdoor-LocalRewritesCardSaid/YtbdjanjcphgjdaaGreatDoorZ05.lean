import Derived.Test.YtbdjanjcphgjdaaGreatDoorZ04
set_option linter.unusedVariables false
set_option linter.unusedSimpArgs false
set_option linter.unusedSectionVars false
namespace Go.Den
noncomputable section
open Go.Proofs
set_option maxRecDepth 100000
def z21_lv : Live := [(5, [0, 5, 6], [1000, 1001, 1002, 1003])]
def z21_σ (n : Nat) : Spec := (inst 46 [.agg [.s, .b, .i .i64, .s, .s, .sl kdT, .s, .b, .i .i64, .s, .sl kdL]] [] (OSh.plain (.tup [.s, .i .i64]) []) (fun x e => z58_v n x.1.1 x.1.2.1 x.1.2.2.1 x.1.2.2.2.1 x.1.2.2.2.2.1 x.1.2.2.2.2.2.1.1 x.1.2.2.2.2.2.1.2 x.1.2.2.2.2.2.2.1 x.1.2.2.2.2.2.2.2.1 x.1.2.2.2.2.2.2.2.2.1 x.1.2.2.2.2.2.2.2.2.2.1 x.1.2.2.2.2.2.2.2.2.2.2.1.1 x.1.2.2.2.2.2.2.2.2.2.2.1.2) (inst 47 [.agg [.s, .b, .i .i64, .s, .s, .sl kdT, .s, .b, .i .i64, .s, .sl kdL]] [] (OSh.plain (.i .i64) []) (fun x e => z25_v n x.1.1 x.1.2.1 x.1.2.2.1 x.1.2.2.2.1 x.1.2.2.2.2.1 x.1.2.2.2.2.2.1.1 x.1.2.2.2.2.2.1.2 x.1.2.2.2.2.2.2.1 x.1.2.2.2.2.2.2.2.1 x.1.2.2.2.2.2.2.2.2.1 x.1.2.2.2.2.2.2.2.2.2.1 x.1.2.2.2.2.2.2.2.2.2.2.1.1 x.1.2.2.2.2.2.2.2.2.2.2.1.2) (inst 48 [.slt [Kd.s, Kd.i .i64] 500000, .agg [.s, .b, .i .i64, .s, .s, .sl kdT, .s, .b, .i .i64, .s, .sl kdL]] [] (OSh.plain (.tup [.slt [Kd.s, Kd.i .i64] 0, .i .i64]) []) (fun x e => z17_v n x.1.1 x.1.2 x.2.1.1 x.2.1.2.1 x.2.1.2.2.1 x.2.1.2.2.2.1 x.2.1.2.2.2.2.1 x.2.1.2.2.2.2.2.1.1 x.2.1.2.2.2.2.2.1.2 x.2.1.2.2.2.2.2.2.1 x.2.1.2.2.2.2.2.2.2.1 x.2.1.2.2.2.2.2.2.2.2.1 x.2.1.2.2.2.2.2.2.2.2.2.1 x.2.1.2.2.2.2.2.2.2.2.2.2.1.1 x.2.1.2.2.2.2.2.2.2.2.2.2.1.2) (inst 49 [.agg [.s, .b, .i .i64, .s, .s, .sl kdT, .s, .b, .i .i64, .s, .sl kdL]] [] (OSh.plain (.i .i64) []) (fun x e => z62_v n x.1.1 x.1.2.1 x.1.2.2.1 x.1.2.2.2.1 x.1.2.2.2.2.1 x.1.2.2.2.2.2.1.1 x.1.2.2.2.2.2.1.2 x.1.2.2.2.2.2.2.1 x.1.2.2.2.2.2.2.2.1 x.1.2.2.2.2.2.2.2.2.1 x.1.2.2.2.2.2.2.2.2.2.1 x.1.2.2.2.2.2.2.2.2.2.2.1.1 x.1.2.2.2.2.2.2.2.2.2.2.1.2) (inst 50 [.agg [.s, .b, .i .i64, .s, .s, .sl kdT, .s, .b, .i .i64, .s, .sl kdL]] [] (OSh.plain (.b) []) (fun x e => z70_v n x.1.1 x.1.2.1 x.1.2.2.1 x.1.2.2.2.1 x.1.2.2.2.2.1 x.1.2.2.2.2.2.1.1 x.1.2.2.2.2.2.1.2 x.1.2.2.2.2.2.2.1 x.1.2.2.2.2.2.2.2.1 x.1.2.2.2.2.2.2.2.2.1 x.1.2.2.2.2.2.2.2.2.2.1 x.1.2.2.2.2.2.2.2.2.2.2.1.1 x.1.2.2.2.2.2.2.2.2.2.2.1.2) Spec.none)))))
theorem z21_σok (n : Nat) : SpecOk Tryz.prog (z21_σ n) := (inst_ok (fun x e y h => z58_c n x.1.1 x.1.2.1 x.1.2.2.1 x.1.2.2.2.1 x.1.2.2.2.2.1 x.1.2.2.2.2.2.1.1 x.1.2.2.2.2.2.1.2 x.1.2.2.2.2.2.2.1 x.1.2.2.2.2.2.2.2.1 x.1.2.2.2.2.2.2.2.2.1 x.1.2.2.2.2.2.2.2.2.2.1 x.1.2.2.2.2.2.2.2.2.2.2.1.1 x.1.2.2.2.2.2.2.2.2.2.2.1.2 y h) (inst_ok (fun x e y h => z25_c n x.1.1 x.1.2.1 x.1.2.2.1 x.1.2.2.2.1 x.1.2.2.2.2.1 x.1.2.2.2.2.2.1.1 x.1.2.2.2.2.2.1.2 x.1.2.2.2.2.2.2.1 x.1.2.2.2.2.2.2.2.1 x.1.2.2.2.2.2.2.2.2.1 x.1.2.2.2.2.2.2.2.2.2.1 x.1.2.2.2.2.2.2.2.2.2.2.1.1 x.1.2.2.2.2.2.2.2.2.2.2.1.2 y h) (inst_ok (fun x e y h => z17_c n x.1.1 x.1.2 x.2.1.1 x.2.1.2.1 x.2.1.2.2.1 x.2.1.2.2.2.1 x.2.1.2.2.2.2.1 x.2.1.2.2.2.2.2.1.1 x.2.1.2.2.2.2.2.1.2 x.2.1.2.2.2.2.2.2.1 x.2.1.2.2.2.2.2.2.2.1 x.2.1.2.2.2.2.2.2.2.2.1 x.2.1.2.2.2.2.2.2.2.2.2.1 x.2.1.2.2.2.2.2.2.2.2.2.2.1.1 x.2.1.2.2.2.2.2.2.2.2.2.2.1.2 y h) (inst_ok (fun x e y h => z62_c n x.1.1 x.1.2.1 x.1.2.2.1 x.1.2.2.2.1 x.1.2.2.2.2.1 x.1.2.2.2.2.2.1.1 x.1.2.2.2.2.2.1.2 x.1.2.2.2.2.2.2.1 x.1.2.2.2.2.2.2.2.1 x.1.2.2.2.2.2.2.2.2.1 x.1.2.2.2.2.2.2.2.2.2.1 x.1.2.2.2.2.2.2.2.2.2.2.1.1 x.1.2.2.2.2.2.2.2.2.2.2.1.2 y h) (inst_ok (fun x e y h => z70_c n x.1.1 x.1.2.1 x.1.2.2.1 x.1.2.2.2.1 x.1.2.2.2.2.1 x.1.2.2.2.2.2.1.1 x.1.2.2.2.2.2.1.2 x.1.2.2.2.2.2.2.1 x.1.2.2.2.2.2.2.2.1 x.1.2.2.2.2.2.2.2.2.1 x.1.2.2.2.2.2.2.2.2.2.1 x.1.2.2.2.2.2.2.2.2.2.2.1.1 x.1.2.2.2.2.2.2.2.2.2.2.1.2 y h) (SpecOk.none _))))))
def z21_Φ (n : Nat) : Orc := with_ Tryz.prog (z21_σ n) [] n 0 hsL
def z21_v (n : Nat) (b0 : Bool) (r1 : Rows) : Option ((Int × Int × Int × Unit) × Unit) :=
 DM.denFn tm (z21_Φ n) z21_lv n Tryz.f21 false [AV.sl b0 kdR r1 Right.no] [] (OSh.chk (OSh.plain (.tup [.i .i64, .i .i64, .i .i64]) []))
def z21_l5 (n : Nat) (b0 : Bool) (r1 : Rows) (i0 : Nat) (b7 : Bool) (r8 : List (List DV)) (j9 : Int) : Option ((Int × Int × Int × Unit) × Unit) :=
 DM.loopFn tm (z21_Φ n) z21_lv n Tryz.f21 false [] (OSh.chk (OSh.plain (.tup [.i .i64, .i .i64, .i .i64]) [])) 5 [] i0 (St.mk ([AV.sl b0 kdR r1 Right.no, Jk, Jk, Jk, Jk, AV.sl b7 [Kd.s, Kd.i .i64] r8 (Right.tok 5), aI j9] ++ jk 60) [])
theorem z21_s5 (n : Nat) (b0 : Bool) (r1 : Rows) (i0 : Nat) (b7 : Bool) (r8 : List (List DV)) (j9 : Int) : z21_l5 n b0 r1 (i0 + 1) b7 r8 j9 =
 bif decide (j9 < (↑(List.length r1) : Int)) then
 if 0 ≤ j9 then
 if j9 < (↑(List.length r1) : Int) then
 obind (z58_v n (Row.S (List.getD r1 (Int.toNat j9) []) 0) (Row.B (List.getD r1 (Int.toNat j9) []) 1) (Row.I (List.getD r1 (Int.toNat j9) []) 2) (Row.S (List.getD r1 (Int.toNat j9) []) 3) (Row.S (List.getD r1 (Int.toNat j9) []) 4) (Row.N (List.getD r1 (Int.toNat j9) []) 5) (Row.R (List.getD r1 (Int.toNat j9) []) 5) (Row.S (List.getD r1 (Int.toNat j9) []) 6) (Row.B (List.getD r1 (Int.toNat j9) []) 7) (Row.I (List.getD r1 (Int.toNat j9) []) 8) (Row.S (List.getD r1 (Int.toNat j9) []) 9) (Row.N (List.getD r1 (Int.toNat j9) []) 10) (Row.R (List.getD r1 (Int.toNat j9) []) 10)) fun y10 =>
 bif y10.fst.snd.fst != 0 then
 some ((100, (j9, (-1, ()))), ())
 else if 0 ≤ j9 then
 if j9 < (↑(List.length r1) : Int) then
 obind (z25_v n (Row.S (List.getD r1 (Int.toNat j9) []) 0) (Row.B (List.getD r1 (Int.toNat j9) []) 1) (Row.I (List.getD r1 (Int.toNat j9) []) 2) (Row.S (List.getD r1 (Int.toNat j9) []) 3) (Row.S (List.getD r1 (Int.toNat j9) []) 4) (Row.N (List.getD r1 (Int.toNat j9) []) 5) (Row.R (List.getD r1 (Int.toNat j9) []) 5) (Row.S (List.getD r1 (Int.toNat j9) []) 6) (Row.B (List.getD r1 (Int.toNat j9) []) 7) (Row.I (List.getD r1 (Int.toNat j9) []) 8) (Row.S (List.getD r1 (Int.toNat j9) []) 9) (Row.N (List.getD r1 (Int.toNat j9) []) 10) (Row.R (List.getD r1 (Int.toNat j9) []) 10)) fun y11 =>
 bif decide (y11.fst > -2) then
 some ((101, (j9, (y11.fst, ()))), ())
 else if 0 ≤ j9 then
 if j9 < (↑(List.length r1) : Int) then
 obind (z17_v n b7 r8 (Row.S (List.getD r1 (Int.toNat j9) []) 0) (Row.B (List.getD r1 (Int.toNat j9) []) 1) (Row.I (List.getD r1 (Int.toNat j9) []) 2) (Row.S (List.getD r1 (Int.toNat j9) []) 3) (Row.S (List.getD r1 (Int.toNat j9) []) 4) (Row.N (List.getD r1 (Int.toNat j9) []) 5) (Row.R (List.getD r1 (Int.toNat j9) []) 5) (Row.S (List.getD r1 (Int.toNat j9) []) 6) (Row.B (List.getD r1 (Int.toNat j9) []) 7) (Row.I (List.getD r1 (Int.toNat j9) []) 8) (Row.S (List.getD r1 (Int.toNat j9) []) 9) (Row.N (List.getD r1 (Int.toNat j9) []) 10) (Row.R (List.getD r1 (Int.toNat j9) []) 10)) fun y12 =>
 bif decide (y12.fst.snd.fst > -2) then
 some ((102, (j9, (y12.fst.snd.fst, ()))), ())
 else if 0 ≤ j9 then
 if j9 < (↑(List.length r1) : Int) then
 obind (z62_v n (Row.S (List.getD r1 (Int.toNat j9) []) 0) (Row.B (List.getD r1 (Int.toNat j9) []) 1) (Row.I (List.getD r1 (Int.toNat j9) []) 2) (Row.S (List.getD r1 (Int.toNat j9) []) 3) (Row.S (List.getD r1 (Int.toNat j9) []) 4) (Row.N (List.getD r1 (Int.toNat j9) []) 5) (Row.R (List.getD r1 (Int.toNat j9) []) 5) (Row.S (List.getD r1 (Int.toNat j9) []) 6) (Row.B (List.getD r1 (Int.toNat j9) []) 7) (Row.I (List.getD r1 (Int.toNat j9) []) 8) (Row.S (List.getD r1 (Int.toNat j9) []) 9) (Row.N (List.getD r1 (Int.toNat j9) []) 10) (Row.R (List.getD r1 (Int.toNat j9) []) 10)) fun y13 =>
 bif decide (y13.fst > -2) then
 some ((103, (j9, (y13.fst, ()))), ())
 else if 0 ≤ j9 then
 if j9 < (↑(List.length r1) : Int) then
 obind (z70_v n (Row.S (List.getD r1 (Int.toNat j9) []) 0) (Row.B (List.getD r1 (Int.toNat j9) []) 1) (Row.I (List.getD r1 (Int.toNat j9) []) 2) (Row.S (List.getD r1 (Int.toNat j9) []) 3) (Row.S (List.getD r1 (Int.toNat j9) []) 4) (Row.N (List.getD r1 (Int.toNat j9) []) 5) (Row.R (List.getD r1 (Int.toNat j9) []) 5) (Row.S (List.getD r1 (Int.toNat j9) []) 6) (Row.B (List.getD r1 (Int.toNat j9) []) 7) (Row.I (List.getD r1 (Int.toNat j9) []) 8) (Row.S (List.getD r1 (Int.toNat j9) []) 9) (Row.N (List.getD r1 (Int.toNat j9) []) 10) (Row.R (List.getD r1 (Int.toNat j9) []) 10)) fun y14 =>
 bif y14.fst then
 some ((104, (j9, (-1, ()))), ())
 else z21_l5 n b0 r1 i0 y12.fst.fst.fst y12.fst.fst.snd (IntKind.wrap IntKind.i64 (j9 + 1))
 else none
 else none
 else none
 else none
 else none
 else none
 else none
 else none
 else none
 else none
 else some ((0, (-1, (-1, ()))), ()) := by kernel_rfl
theorem z21_e (n : Nat) (b0 : Bool) (r1 : Rows) : z21_v n b0 r1 =
 bif decide ((↑(List.length r1) : Int) > 16) then
 some ((81, (-1, (-1, ()))), ())
 else z21_l5 n b0 r1 n true [] 0 := by kernel_rfl
theorem z21_c (n : Nat) (b0 : Bool) (r1 : Rows) (y : (Int × Int × Int × Unit) × Unit) (h : z21_v n b0 r1 = some y) : Contract Tryz.prog 21 [AV.sl b0 kdR r1 Right.no] [] (OSh.enc (OSh.plain (.tup [.i .i64, .i .i64, .i .i64]) []) y) :=
 ac (OSh.plain (.tup [.i .i64, .i .i64, .i .i64]) []) (z21_σok n) Tryz.func21 (by decide) h
def z29_lv : Live := []
def z29_σ (n : Nat) : Spec := Spec.none
theorem z29_σok (n : Nat) : SpecOk Tryz.prog (z29_σ n) := (SpecOk.none _)
def z29_Φ (n : Nat) : Orc := with_ Tryz.prog (z29_σ n) [] n 0 hsL
def z29_v (n : Nat) (s0 : ByteArray) (b1 : Bool) (j2 : Int) (s3 : ByteArray) (s4 : ByteArray) (b5 : Bool) (r6 : Rows) (s7 : ByteArray) (b8 : Bool) (j9 : Int) (s10 : ByteArray) (b11 : Bool) (r12 : Rows) (j13 : Int) : Option (Bool × Unit) :=
 DM.denFn tm (z29_Φ n) z29_lv n Tryz.f51 false [AV.agg [aS s0, aB b1, aI j2, aS s3, aS s4, AV.sl b5 kdT r6 Right.no, aS s7, aB b8, aI j9, aS s10, AV.sl b11 kdL r12 Right.no], aI j13] [] (OSh.chk (OSh.plain (.b) []))
theorem z29_e (n : Nat) (s0 : ByteArray) (b1 : Bool) (j2 : Int) (s3 : ByteArray) (s4 : ByteArray) (b5 : Bool) (r6 : Rows) (s7 : ByteArray) (b8 : Bool) (j9 : Int) (s10 : ByteArray) (b11 : Bool) (r12 : Rows) (j13 : Int) : z29_v n s0 b1 j2 s3 s4 b5 r6 s7 b8 j9 s10 b11 r12 j13 =
 if 0 ≤ j13 then
 if j13 < (↑(List.length r12) : Int) then
 bif !(Row.S (List.getD r12 (Int.toNat j13) []) 6 == ByteArray.mk #[] && (Row.B (List.getD r12 (Int.toNat j13) []) 7 == false && (Row.I (List.getD r12 (Int.toNat j13) []) 8 == 0 && (Row.S (List.getD r12 (Int.toNat j13) []) 9 == ByteArray.mk #[] && true)))) then
 if 0 ≤ j13 then
 if j13 < (↑(List.length r12) : Int) then
 some (!(Row.S (List.getD r12 (Int.toNat j13) []) 6 == s0 && (Row.B (List.getD r12 (Int.toNat j13) []) 7 == b1 && (Row.I (List.getD r12 (Int.toNat j13) []) 8 == j2 && (Row.S (List.getD r12 (Int.toNat j13) []) 9 == s3 && true)))), ())
 else none
 else none
 else some (false, ())
 else none
 else none := by kernel_rfl
theorem z29_c (n : Nat) (s0 : ByteArray) (b1 : Bool) (j2 : Int) (s3 : ByteArray) (s4 : ByteArray) (b5 : Bool) (r6 : Rows) (s7 : ByteArray) (b8 : Bool) (j9 : Int) (s10 : ByteArray) (b11 : Bool) (r12 : Rows) (j13 : Int) (y : Bool × Unit) (h : z29_v n s0 b1 j2 s3 s4 b5 r6 s7 b8 j9 s10 b11 r12 j13 = some y) : Contract Tryz.prog 51 [AV.agg [aS s0, aB b1, aI j2, aS s3, aS s4, AV.sl b5 kdT r6 Right.no, aS s7, aB b8, aI j9, aS s10, AV.sl b11 kdL r12 Right.no], aI j13] [] (OSh.enc (OSh.plain (.b) []) y) :=
 ac (OSh.plain (.b) []) (z29_σok n) Tryz.func51 (by decide) h
def z8_lv : Live := [(3, [0, 3, 4], [1000, 1001, 1002, 1003])]
def z8_σ (n : Nat) : Spec := Spec.none
theorem z8_σok (n : Nat) : SpecOk Tryz.prog (z8_σ n) := (SpecOk.none _)
def z8_Φ (n : Nat) : Orc := with_ Tryz.prog (z8_σ n) [] n 0 hsL
def z8_v (n : Nat) (b0 : Bool) (r1 : Rows) : Option ((Bool × Rows) × Unit) :=
 DM.denFn tm (z8_Φ n) z8_lv n Tryz.f53 true [AV.sl b0 [Kd.s] r1 Right.no] [] (OSh.chk (OSh.plain (.slt kdT 0) []))
def z8_l3 (n : Nat) (b0 : Bool) (r1 : Rows) (i0 : Nat) (b2 : Bool) (r3 : List (List DV)) (j4 : Int) : Option ((Bool × Rows) × Unit) :=
 DM.loopFn tm (z8_Φ n) z8_lv n Tryz.f53 true [] (OSh.chk (OSh.plain (.slt kdT 0) [])) 3 [] i0 (St.mk ([AV.sl b0 [Kd.s] r1 Right.no, Jk, Jk, AV.sl b2 kdT r3 (Right.tok 3), aI j4] ++ jk 15) [])
theorem z8_s3 (n : Nat) (b0 : Bool) (r1 : Rows) (i0 : Nat) (b2 : Bool) (r3 : List (List DV)) (j4 : Int) : z8_l3 n b0 r1 (i0 + 1) b2 r3 j4 =
 bif decide (j4 < (↑(List.length r1) : Int)) then
 if 0 ≤ j4 then
 if j4 < (↑(List.length r1) : Int) then
 if (List.length r3 + List.length [[DV.val (Value.string (Row.S (List.getD r1 (Int.toNat j4) []) 0)), DV.val (Value.bool false), DV.val (Value.int .i64 0), DV.val (Value.string (ByteArray.mk #[]))]]) * 48 ≤ 140737488355328 then
 z8_l3 n b0 r1 i0 (b2 && List.isEmpty [[DV.val (Value.string (Row.S (List.getD r1 (Int.toNat j4) []) 0)), DV.val (Value.bool false), DV.val (Value.int .i64 0), DV.val (Value.string (ByteArray.mk #[]))]]) (appX r3 [[DV.val (Value.string (Row.S (List.getD r1 (Int.toNat j4) []) 0)), DV.val (Value.bool false), DV.val (Value.int .i64 0), DV.val (Value.string (ByteArray.mk #[]))]]) (IntKind.wrap IntKind.i64 (j4 + 1))
 else none
 else none
 else none
 else some ((b2, r3), ()) := by kernel_rfl
theorem z8_e (n : Nat) (b0 : Bool) (r1 : Rows) : z8_v n b0 r1 =
 z8_l3 n b0 r1 n true [] 0 := by kernel_rfl
theorem z8_c (n : Nat) (b0 : Bool) (r1 : Rows) (y : (Bool × Rows) × Unit) (h : z8_v n b0 r1 = some y) : Contract Tryz.prog 53 [AV.sl b0 [Kd.s] r1 Right.no] [] (OSh.enc (OSh.plain (.slt kdT 0) []) y) :=
 ac (OSh.plain (.slt kdT 0) []) (z8_σok n) Tryz.func53 (by decide) h
def z75_lv : Live := [(4, [0, 3, 5, 6, 7], [3, 1000, 1001, 1002, 1003])]
def z75_σ (n : Nat) : Spec := (inst 51 [.agg [.s, .b, .i .i64, .s, .s, .sl kdT, .s, .b, .i .i64, .s, .sl kdL], .i .i64] [] (OSh.plain (.b) []) (fun x e => z29_v n x.1.1 x.1.2.1 x.1.2.2.1 x.1.2.2.2.1 x.1.2.2.2.2.1 x.1.2.2.2.2.2.1.1 x.1.2.2.2.2.2.1.2 x.1.2.2.2.2.2.2.1 x.1.2.2.2.2.2.2.2.1 x.1.2.2.2.2.2.2.2.2.1 x.1.2.2.2.2.2.2.2.2.2.1 x.1.2.2.2.2.2.2.2.2.2.2.1.1 x.1.2.2.2.2.2.2.2.2.2.2.1.2 x.2.1) (inst 52 [.i .i64] [] (OSh.plain (.s) []) (fun x e => z22_v n x.1) (inst 54 [.agg [.s, .b, .i .i64, .s, .s, .sl kdT, .s, .b, .i .i64, .s, .sl kdL], .i .i64] [] (OSh.plain (.slt [Kd.s] 0) []) (fun x e => z37_v n x.1.1 x.1.2.1 x.1.2.2.1 x.1.2.2.2.1 x.1.2.2.2.2.1 x.1.2.2.2.2.2.1.1 x.1.2.2.2.2.2.1.2 x.1.2.2.2.2.2.2.1 x.1.2.2.2.2.2.2.2.1 x.1.2.2.2.2.2.2.2.2.1 x.1.2.2.2.2.2.2.2.2.2.1 x.1.2.2.2.2.2.2.2.2.2.2.1.1 x.1.2.2.2.2.2.2.2.2.2.2.1.2 x.2.1) (inst 53 [.sl [Kd.s]] [] (OSh.plain (.slt kdT 0) []) (fun x e => z8_v n x.1.1 x.1.2) Spec.none))))
theorem z75_σok (n : Nat) : SpecOk Tryz.prog (z75_σ n) := (inst_ok (fun x e y h => z29_c n x.1.1 x.1.2.1 x.1.2.2.1 x.1.2.2.2.1 x.1.2.2.2.2.1 x.1.2.2.2.2.2.1.1 x.1.2.2.2.2.2.1.2 x.1.2.2.2.2.2.2.1 x.1.2.2.2.2.2.2.2.1 x.1.2.2.2.2.2.2.2.2.1 x.1.2.2.2.2.2.2.2.2.2.1 x.1.2.2.2.2.2.2.2.2.2.2.1.1 x.1.2.2.2.2.2.2.2.2.2.2.1.2 x.2.1 y h) (inst_ok (fun x e y h => z22_c n x.1 y h) (inst_ok (fun x e y h => z37_c n x.1.1 x.1.2.1 x.1.2.2.1 x.1.2.2.2.1 x.1.2.2.2.2.1 x.1.2.2.2.2.2.1.1 x.1.2.2.2.2.2.1.2 x.1.2.2.2.2.2.2.1 x.1.2.2.2.2.2.2.2.1 x.1.2.2.2.2.2.2.2.2.1 x.1.2.2.2.2.2.2.2.2.2.1 x.1.2.2.2.2.2.2.2.2.2.2.1.1 x.1.2.2.2.2.2.2.2.2.2.2.1.2 x.2.1 y h) (inst_ok (fun x e y h => z8_c n x.1.1 x.1.2 y h) (SpecOk.none _)))))
def z75_Φ (n : Nat) : Orc := with_ Tryz.prog (z75_σ n) [] n 0 [2000091, 1000048, 1000080, 1000081, 1000082, 1000083, 1000084, 1000093, 1000099, 1000102, 1000132]
def z75_v (n : Nat) (j0 : Int) (s1 : ByteArray) (b2 : Bool) (j3 : Int) (s4 : ByteArray) (s5 : ByteArray) (b6 : Bool) (r7 : Rows) (s8 : ByteArray) (b9 : Bool) (j10 : Int) (s11 : ByteArray) (b12 : Bool) (r13 : Rows) : Option ((Bool × Rows) × Unit) :=
 DM.denFn tm (z75_Φ n) z75_lv n Tryz.f22 true [aI j0, AV.agg [aS s1, aB b2, aI j3, aS s4, aS s5, AV.sl b6 kdT r7 Right.no, aS s8, aB b9, aI j10, aS s11, AV.sl b12 kdL r13 Right.no]] [] (OSh.chk (OSh.plain (.slt kdR 0) []))
def z75_l4 (n : Nat) (j0 : Int) (s1 : ByteArray) (b2 : Bool) (j3 : Int) (s4 : ByteArray) (s5 : ByteArray) (b6 : Bool) (r7 : Rows) (s8 : ByteArray) (b9 : Bool) (j10 : Int) (s11 : ByteArray) (b12 : Bool) (r13 : Rows) (i0 : Nat) (b21 : Bool) (r22 : List (List DV)) (j23 : Int) (b24 : Bool) (r25 : List (List DV)) : Option ((Bool × Rows) × Unit) :=
 DM.loopFn tm (z75_Φ n) z75_lv n Tryz.f22 true [] (OSh.chk (OSh.plain (.slt kdR 0) [])) 4 [] i0 (St.mk ([aI j0, Jk, Jk, AV.pl 3 0, Jk, AV.sl b24 kdR r25 (Right.tok 5), AV.sl b21 kdL r22 (Right.tok 6), aI j23] ++ jk 97) [(3, [aS s1, aB b2, aI j3, aS s4, aS s5, AV.sl b6 kdT r7 Right.no, aS s8, aB b9, aI j10, aS s11, AV.sl b12 kdL r13 Right.no])])
theorem z75_s4 (n : Nat) (j0 : Int) (s1 : ByteArray) (b2 : Bool) (j3 : Int) (s4 : ByteArray) (s5 : ByteArray) (b6 : Bool) (r7 : Rows) (s8 : ByteArray) (b9 : Bool) (j10 : Int) (s11 : ByteArray) (b12 : Bool) (r13 : Rows) (i0 : Nat) (b21 : Bool) (r22 : List (List DV)) (j23 : Int) (b24 : Bool) (r25 : List (List DV)) : z75_l4 n j0 s1 b2 j3 s4 s5 b6 r7 s8 b9 j10 s11 b12 r13 (i0 + 1) b21 r22 j23 b24 r25 =
 bif decide (j23 < (↑(List.length r13) : Int)) then
 if 0 ≤ j23 then
 if j23 < (↑(List.length r13) : Int) then
 obind (z29_v n s1 b2 j3 s4 s5 b6 r7 s8 b9 j10 s11 b12 r13 j23) fun y26 =>
 bif !y26.fst then
 if (List.length r22 + List.length [[DV.val (Value.string (Row.S (List.getD r13 (Int.toNat j23) []) 0)), DV.val (Value.bool (Row.B (List.getD r13 (Int.toNat j23) []) 1)), DV.val (Value.int .i64 (Row.I (List.getD r13 (Int.toNat j23) []) 2)), DV.val (Value.string (Row.S (List.getD r13 (Int.toNat j23) []) 3)), DV.val (Value.string (Row.S (List.getD r13 (Int.toNat j23) []) 4)), DV.sl (Row.N (List.getD r13 (Int.toNat j23) []) 5) kdT (Row.R (List.getD r13 (Int.toNat j23) []) 5), DV.val (Value.string (ByteArray.mk #[])), DV.val (Value.bool false), DV.val (Value.int .i64 0), DV.val (Value.string (ByteArray.mk #[]))]]) * 136 ≤ 140737488355328 then
 z75_l4 n j0 s1 b2 j3 s4 s5 b6 r7 s8 b9 j10 s11 b12 r13 i0 (b21 && List.isEmpty [[DV.val (Value.string (Row.S (List.getD r13 (Int.toNat j23) []) 0)), DV.val (Value.bool (Row.B (List.getD r13 (Int.toNat j23) []) 1)), DV.val (Value.int .i64 (Row.I (List.getD r13 (Int.toNat j23) []) 2)), DV.val (Value.string (Row.S (List.getD r13 (Int.toNat j23) []) 3)), DV.val (Value.string (Row.S (List.getD r13 (Int.toNat j23) []) 4)), DV.sl (Row.N (List.getD r13 (Int.toNat j23) []) 5) kdT (Row.R (List.getD r13 (Int.toNat j23) []) 5), DV.val (Value.string (ByteArray.mk #[])), DV.val (Value.bool false), DV.val (Value.int .i64 0), DV.val (Value.string (ByteArray.mk #[]))]]) (appX r22 [[DV.val (Value.string (Row.S (List.getD r13 (Int.toNat j23) []) 0)), DV.val (Value.bool (Row.B (List.getD r13 (Int.toNat j23) []) 1)), DV.val (Value.int .i64 (Row.I (List.getD r13 (Int.toNat j23) []) 2)), DV.val (Value.string (Row.S (List.getD r13 (Int.toNat j23) []) 3)), DV.val (Value.string (Row.S (List.getD r13 (Int.toNat j23) []) 4)), DV.sl (Row.N (List.getD r13 (Int.toNat j23) []) 5) kdT (Row.R (List.getD r13 (Int.toNat j23) []) 5), DV.val (Value.string (ByteArray.mk #[])), DV.val (Value.bool false), DV.val (Value.int .i64 0), DV.val (Value.string (ByteArray.mk #[]))]]) (IntKind.wrap IntKind.i64 (j23 + 1)) b24 r25
 else none
 else obind (z22_v n j0) fun y27 =>
 if ByteArray.size y27.fst + 1 < 4611686018427387904 then
 obind (z22_v n j23) fun y28 =>
 if ByteArray.size (y27.fst ++ ByteArray.mk #[46]) + ByteArray.size y28.fst < 4611686018427387904 then
 obind (z37_v n s1 b2 j3 s4 s5 b6 r7 s8 b9 j10 s11 b12 r13 j23) fun y29 =>
 obind (z8_v n y29.fst.fst y29.fst.snd) fun y30 =>
 obind (z37_v n s1 b2 j3 s4 s5 b6 r7 s8 b9 j10 s11 b12 r13 (IntKind.wrap IntKind.i64 (j23 + 1))) fun y31 =>
 obind (z8_v n y31.fst.fst y31.fst.snd) fun y32 =>
 if 4 + ByteArray.size (y27.fst ++ ByteArray.mk #[46] ++ y28.fst) < 4611686018427387904 then
 if (0 + List.length r22) * 136 ≤ 140737488355328 then
 if 4 + ByteArray.size (y27.fst ++ ByteArray.mk #[46] ++ y28.fst) < 4611686018427387904 then
 if 5 + ByteArray.size (y27.fst ++ ByteArray.mk #[46] ++ y28.fst) < 4611686018427387904 then
 if (List.length r25 + List.length [[DV.val (Value.string s1), DV.val (Value.bool b2), DV.val (Value.int .i64 j3), DV.val (Value.string s4), DV.val (Value.string (ByteArray.mk #[126, 97, 115, 107] ++ (y27.fst ++ ByteArray.mk #[46] ++ y28.fst))), DV.sl y30.fst.fst kdT y30.fst.snd, DV.val (Value.string (Row.S (List.getD r13 (Int.toNat j23) []) 6)), DV.val (Value.bool (Row.B (List.getD r13 (Int.toNat j23) []) 7)), DV.val (Value.int .i64 (Row.I (List.getD r13 (Int.toNat j23) []) 8)), DV.val (Value.string (Row.S (List.getD r13 (Int.toNat j23) []) 9)), DV.sl (false && List.isEmpty r22) kdL (appX [] r22)], [DV.val (Value.string (Row.S (List.getD r13 (Int.toNat j23) []) 6)), DV.val (Value.bool (Row.B (List.getD r13 (Int.toNat j23) []) 7)), DV.val (Value.int .i64 (Row.I (List.getD r13 (Int.toNat j23) []) 8)), DV.val (Value.string (Row.S (List.getD r13 (Int.toNat j23) []) 9)), DV.val (Value.string (ByteArray.mk #[126, 116, 101, 108, 108] ++ (y27.fst ++ ByteArray.mk #[46] ++ y28.fst))), DV.sl y32.fst.fst kdT y32.fst.snd, DV.val (Value.string s1), DV.val (Value.bool b2), DV.val (Value.int .i64 j3), DV.val (Value.string s4), DV.sl false kdL [[DV.val (Value.string s1), DV.val (Value.bool b2), DV.val (Value.int .i64 j3), DV.val (Value.string s4), DV.val (Value.string (ByteArray.mk #[126, 97, 115, 107] ++ (y27.fst ++ ByteArray.mk #[46] ++ y28.fst))), DV.sl y30.fst.fst kdT y30.fst.snd, DV.val (Value.string (ByteArray.mk #[])), DV.val (Value.bool false), DV.val (Value.int .i64 0), DV.val (Value.string (ByteArray.mk #[]))], [DV.val (Value.string (Row.S (List.getD r13 (Int.toNat j23) []) 0)), DV.val (Value.bool (Row.B (List.getD r13 (Int.toNat j23) []) 1)), DV.val (Value.int .i64 (Row.I (List.getD r13 (Int.toNat j23) []) 2)), DV.val (Value.string (Row.S (List.getD r13 (Int.toNat j23) []) 3)), DV.val (Value.string (Row.S (List.getD r13 (Int.toNat j23) []) 4)), DV.sl (Row.N (List.getD r13 (Int.toNat j23) []) 5) kdT (Row.R (List.getD r13 (Int.toNat j23) []) 5), DV.val (Value.string (ByteArray.mk #[])), DV.val (Value.bool false), DV.val (Value.int .i64 0), DV.val (Value.string (ByteArray.mk #[]))]]]]) * 160 ≤ 140737488355328 then
 if 5 + ByteArray.size (y27.fst ++ ByteArray.mk #[46] ++ y28.fst) < 4611686018427387904 then
 z75_l4 n j0 s1 b2 j3 s4 s5 b6 r7 s8 b9 j10 s11 b12 r13 i0 false ([[DV.val (Value.string (Row.S (List.getD r13 (Int.toNat j23) []) 6)), DV.val (Value.bool (Row.B (List.getD r13 (Int.toNat j23) []) 7)), DV.val (Value.int .i64 (Row.I (List.getD r13 (Int.toNat j23) []) 8)), DV.val (Value.string (Row.S (List.getD r13 (Int.toNat j23) []) 9)), DV.val (Value.string (ByteArray.mk #[126, 116, 101, 108, 108] ++ (y27.fst ++ ByteArray.mk #[46] ++ y28.fst))), DV.sl y32.fst.fst kdT y32.fst.snd, DV.val (Value.string (ByteArray.mk #[])), DV.val (Value.bool false), DV.val (Value.int .i64 0), DV.val (Value.string (ByteArray.mk #[]))]]) (IntKind.wrap IntKind.i64 (j23 + 1)) (b24 && List.isEmpty [[DV.val (Value.string s1), DV.val (Value.bool b2), DV.val (Value.int .i64 j3), DV.val (Value.string s4), DV.val (Value.string (ByteArray.mk #[126, 97, 115, 107] ++ (y27.fst ++ ByteArray.mk #[46] ++ y28.fst))), DV.sl y30.fst.fst kdT y30.fst.snd, DV.val (Value.string (Row.S (List.getD r13 (Int.toNat j23) []) 6)), DV.val (Value.bool (Row.B (List.getD r13 (Int.toNat j23) []) 7)), DV.val (Value.int .i64 (Row.I (List.getD r13 (Int.toNat j23) []) 8)), DV.val (Value.string (Row.S (List.getD r13 (Int.toNat j23) []) 9)), DV.sl (false && List.isEmpty r22) kdL (appX [] r22)], [DV.val (Value.string (Row.S (List.getD r13 (Int.toNat j23) []) 6)), DV.val (Value.bool (Row.B (List.getD r13 (Int.toNat j23) []) 7)), DV.val (Value.int .i64 (Row.I (List.getD r13 (Int.toNat j23) []) 8)), DV.val (Value.string (Row.S (List.getD r13 (Int.toNat j23) []) 9)), DV.val (Value.string (ByteArray.mk #[126, 116, 101, 108, 108] ++ (y27.fst ++ ByteArray.mk #[46] ++ y28.fst))), DV.sl y32.fst.fst kdT y32.fst.snd, DV.val (Value.string s1), DV.val (Value.bool b2), DV.val (Value.int .i64 j3), DV.val (Value.string s4), DV.sl false kdL [[DV.val (Value.string s1), DV.val (Value.bool b2), DV.val (Value.int .i64 j3), DV.val (Value.string s4), DV.val (Value.string (ByteArray.mk #[126, 97, 115, 107] ++ (y27.fst ++ ByteArray.mk #[46] ++ y28.fst))), DV.sl y30.fst.fst kdT y30.fst.snd, DV.val (Value.string (ByteArray.mk #[])), DV.val (Value.bool false), DV.val (Value.int .i64 0), DV.val (Value.string (ByteArray.mk #[]))], [DV.val (Value.string (Row.S (List.getD r13 (Int.toNat j23) []) 0)), DV.val (Value.bool (Row.B (List.getD r13 (Int.toNat j23) []) 1)), DV.val (Value.int .i64 (Row.I (List.getD r13 (Int.toNat j23) []) 2)), DV.val (Value.string (Row.S (List.getD r13 (Int.toNat j23) []) 3)), DV.val (Value.string (Row.S (List.getD r13 (Int.toNat j23) []) 4)), DV.sl (Row.N (List.getD r13 (Int.toNat j23) []) 5) kdT (Row.R (List.getD r13 (Int.toNat j23) []) 5), DV.val (Value.string (ByteArray.mk #[])), DV.val (Value.bool false), DV.val (Value.int .i64 0), DV.val (Value.string (ByteArray.mk #[]))]]]]) (appX r25 [[DV.val (Value.string s1), DV.val (Value.bool b2), DV.val (Value.int .i64 j3), DV.val (Value.string s4), DV.val (Value.string (ByteArray.mk #[126, 97, 115, 107] ++ (y27.fst ++ ByteArray.mk #[46] ++ y28.fst))), DV.sl y30.fst.fst kdT y30.fst.snd, DV.val (Value.string (Row.S (List.getD r13 (Int.toNat j23) []) 6)), DV.val (Value.bool (Row.B (List.getD r13 (Int.toNat j23) []) 7)), DV.val (Value.int .i64 (Row.I (List.getD r13 (Int.toNat j23) []) 8)), DV.val (Value.string (Row.S (List.getD r13 (Int.toNat j23) []) 9)), DV.sl (false && List.isEmpty r22) kdL (appX [] r22)], [DV.val (Value.string (Row.S (List.getD r13 (Int.toNat j23) []) 6)), DV.val (Value.bool (Row.B (List.getD r13 (Int.toNat j23) []) 7)), DV.val (Value.int .i64 (Row.I (List.getD r13 (Int.toNat j23) []) 8)), DV.val (Value.string (Row.S (List.getD r13 (Int.toNat j23) []) 9)), DV.val (Value.string (ByteArray.mk #[126, 116, 101, 108, 108] ++ (y27.fst ++ ByteArray.mk #[46] ++ y28.fst))), DV.sl y32.fst.fst kdT y32.fst.snd, DV.val (Value.string s1), DV.val (Value.bool b2), DV.val (Value.int .i64 j3), DV.val (Value.string s4), DV.sl false kdL [[DV.val (Value.string s1), DV.val (Value.bool b2), DV.val (Value.int .i64 j3), DV.val (Value.string s4), DV.val (Value.string (ByteArray.mk #[126, 97, 115, 107] ++ (y27.fst ++ ByteArray.mk #[46] ++ y28.fst))), DV.sl y30.fst.fst kdT y30.fst.snd, DV.val (Value.string (ByteArray.mk #[])), DV.val (Value.bool false), DV.val (Value.int .i64 0), DV.val (Value.string (ByteArray.mk #[]))], [DV.val (Value.string (Row.S (List.getD r13 (Int.toNat j23) []) 0)), DV.val (Value.bool (Row.B (List.getD r13 (Int.toNat j23) []) 1)), DV.val (Value.int .i64 (Row.I (List.getD r13 (Int.toNat j23) []) 2)), DV.val (Value.string (Row.S (List.getD r13 (Int.toNat j23) []) 3)), DV.val (Value.string (Row.S (List.getD r13 (Int.toNat j23) []) 4)), DV.sl (Row.N (List.getD r13 (Int.toNat j23) []) 5) kdT (Row.R (List.getD r13 (Int.toNat j23) []) 5), DV.val (Value.string (ByteArray.mk #[])), DV.val (Value.bool false), DV.val (Value.int .i64 0), DV.val (Value.string (ByteArray.mk #[]))]]]])
 else none
 else none
 else none
 else none
 else none
 else none
 else none
 else none
 else none
 else none
 else if (List.length r25 + List.length [[DV.val (Value.string s1), DV.val (Value.bool b2), DV.val (Value.int .i64 j3), DV.val (Value.string s4), DV.val (Value.string s5), DV.sl b6 kdT r7, DV.val (Value.string s8), DV.val (Value.bool b9), DV.val (Value.int .i64 j10), DV.val (Value.string s11), DV.sl b21 kdL r22]]) * 160 ≤ 140737488355328 then
 some ((b24 && List.isEmpty [[DV.val (Value.string s1), DV.val (Value.bool b2), DV.val (Value.int .i64 j3), DV.val (Value.string s4), DV.val (Value.string s5), DV.sl b6 kdT r7, DV.val (Value.string s8), DV.val (Value.bool b9), DV.val (Value.int .i64 j10), DV.val (Value.string s11), DV.sl b21 kdL r22]], appX r25 [[DV.val (Value.string s1), DV.val (Value.bool b2), DV.val (Value.int .i64 j3), DV.val (Value.string s4), DV.val (Value.string s5), DV.sl b6 kdT r7, DV.val (Value.string s8), DV.val (Value.bool b9), DV.val (Value.int .i64 j10), DV.val (Value.string s11), DV.sl b21 kdL r22]]), ())
 else none := by kernel_rfl
theorem z75_e (n : Nat) (j0 : Int) (s1 : ByteArray) (b2 : Bool) (j3 : Int) (s4 : ByteArray) (s5 : ByteArray) (b6 : Bool) (r7 : Rows) (s8 : ByteArray) (b9 : Bool) (j10 : Int) (s11 : ByteArray) (b12 : Bool) (r13 : Rows) : z75_v n j0 s1 b2 j3 s4 s5 b6 r7 s8 b9 j10 s11 b12 r13 =
 z75_l4 n j0 s1 b2 j3 s4 s5 b6 r7 s8 b9 j10 s11 b12 r13 n true [] 0 true [] := by kernel_rfl
theorem z75_c (n : Nat) (j0 : Int) (s1 : ByteArray) (b2 : Bool) (j3 : Int) (s4 : ByteArray) (s5 : ByteArray) (b6 : Bool) (r7 : Rows) (s8 : ByteArray) (b9 : Bool) (j10 : Int) (s11 : ByteArray) (b12 : Bool) (r13 : Rows) (y : (Bool × Rows) × Unit) (h : z75_v n j0 s1 b2 j3 s4 s5 b6 r7 s8 b9 j10 s11 b12 r13 = some y) : Contract Tryz.prog 22 [aI j0, AV.agg [aS s1, aB b2, aI j3, aS s4, aS s5, AV.sl b6 kdT r7 Right.no, aS s8, aB b9, aI j10, aS s11, AV.sl b12 kdL r13 Right.no]] [] (OSh.enc (OSh.plain (.slt kdR 0) []) y) :=
 ac (OSh.plain (.slt kdR 0) []) (z75_σok n) Tryz.func22 (by decide) h
def z16_lv : Live := [(6, [0, 7, 8], [1000, 1001, 1002, 1003])]
def z16_σ (n : Nat) : Spec := (inst 21 [.sl kdR] [] (OSh.plain (.tup [.i .i64, .i .i64, .i .i64]) []) (fun x e => z21_v n x.1.1 x.1.2) (inst 22 [.i .i64, .agg [.s, .b, .i .i64, .s, .s, .sl kdT, .s, .b, .i .i64, .s, .sl kdL]] [] (OSh.plain (.slt kdR 0) []) (fun x e => z75_v n x.1 x.2.1.1 x.2.1.2.1 x.2.1.2.2.1 x.2.1.2.2.2.1 x.2.1.2.2.2.2.1 x.2.1.2.2.2.2.2.1.1 x.2.1.2.2.2.2.2.1.2 x.2.1.2.2.2.2.2.2.1 x.2.1.2.2.2.2.2.2.2.1 x.2.1.2.2.2.2.2.2.2.2.1 x.2.1.2.2.2.2.2.2.2.2.2.1 x.2.1.2.2.2.2.2.2.2.2.2.2.1.1 x.2.1.2.2.2.2.2.2.2.2.2.2.1.2) Spec.none))
theorem z16_σok (n : Nat) : SpecOk Tryz.prog (z16_σ n) := (inst_ok (fun x e y h => z21_c n x.1.1 x.1.2 y h) (inst_ok (fun x e y h => z75_c n x.1 x.2.1.1 x.2.1.2.1 x.2.1.2.2.1 x.2.1.2.2.2.1 x.2.1.2.2.2.2.1 x.2.1.2.2.2.2.2.1.1 x.2.1.2.2.2.2.2.1.2 x.2.1.2.2.2.2.2.2.1 x.2.1.2.2.2.2.2.2.2.1 x.2.1.2.2.2.2.2.2.2.2.1 x.2.1.2.2.2.2.2.2.2.2.2.1 x.2.1.2.2.2.2.2.2.2.2.2.2.1.1 x.2.1.2.2.2.2.2.2.2.2.2.2.1.2 y h) (SpecOk.none _)))
def z16_Φ (n : Nat) : Orc := with_ Tryz.prog (z16_σ n) [] n 0 hsL
def z16_v (n : Nat) (b0 : Bool) (r1 : Rows) : Option (((Bool × Rows) × Int × Unit) × Unit) :=
 DM.denFn tm (z16_Φ n) z16_lv n Tryz.f9 true [AV.sl b0 kdR r1 Right.no] [] (OSh.chk (OSh.plain (.tup [.slt kdR 0, .i .i64]) []))
def z16_l6 (n : Nat) (b0 : Bool) (r1 : Rows) (i0 : Nat) (b4 : Bool) (r5 : List (List DV)) (j6 : Int) : Option (((Bool × Rows) × Int × Unit) × Unit) :=
 DM.loopFn tm (z16_Φ n) z16_lv n Tryz.f9 true [] (OSh.chk (OSh.plain (.tup [.slt kdR 0, .i .i64]) [])) 6 [] i0 (St.mk ([AV.sl b0 kdR r1 Right.no, Jk, Jk, Jk, Jk, Jk, Jk, AV.sl b4 kdR r5 (Right.tok 7), aI j6] ++ jk 24) [])
theorem z16_s6 (n : Nat) (b0 : Bool) (r1 : Rows) (i0 : Nat) (b4 : Bool) (r5 : List (List DV)) (j6 : Int) : z16_l6 n b0 r1 (i0 + 1) b4 r5 j6 =
 bif decide (j6 < (↑(List.length r1) : Int)) then
 if 0 ≤ j6 then
 if j6 < (↑(List.length r1) : Int) then
 obind (z75_v n j6 (Row.S (List.getD r1 (Int.toNat j6) []) 0) (Row.B (List.getD r1 (Int.toNat j6) []) 1) (Row.I (List.getD r1 (Int.toNat j6) []) 2) (Row.S (List.getD r1 (Int.toNat j6) []) 3) (Row.S (List.getD r1 (Int.toNat j6) []) 4) (Row.N (List.getD r1 (Int.toNat j6) []) 5) (Row.R (List.getD r1 (Int.toNat j6) []) 5) (Row.S (List.getD r1 (Int.toNat j6) []) 6) (Row.B (List.getD r1 (Int.toNat j6) []) 7) (Row.I (List.getD r1 (Int.toNat j6) []) 8) (Row.S (List.getD r1 (Int.toNat j6) []) 9) (Row.N (List.getD r1 (Int.toNat j6) []) 10) (Row.R (List.getD r1 (Int.toNat j6) []) 10)) fun y7 =>
 if (List.length r5 + List.length y7.fst.snd) * 160 ≤ 140737488355328 then
 z16_l6 n b0 r1 i0 (b4 && List.isEmpty y7.fst.snd) (appX r5 y7.fst.snd) (IntKind.wrap IntKind.i64 (j6 + 1))
 else none
 else none
 else none
 else some (((b4, r5), (0, ())), ()) := by kernel_rfl
theorem z16_e (n : Nat) (b0 : Bool) (r1 : Rows) : z16_v n b0 r1 =
 obind (z21_v n b0 r1) fun y2 =>
 bif y2.fst.fst != 0 then
 some (((true, []), (y2.fst.fst, ())), ())
 else z16_l6 n b0 r1 n true [] 0 := by kernel_rfl
theorem z16_c (n : Nat) (b0 : Bool) (r1 : Rows) (y : ((Bool × Rows) × Int × Unit) × Unit) (h : z16_v n b0 r1 = some y) : Contract Tryz.prog 9 [AV.sl b0 kdR r1 Right.no] [] (OSh.enc (OSh.plain (.tup [.slt kdR 0, .i .i64]) []) y) :=
 ac (OSh.plain (.tup [.slt kdR 0, .i .i64]) []) (z16_σok n) Tryz.func9 (by decide) h
def z44_lv : Live := [(4, [0, 1, 5], [1000, 1001, 1002, 1003])]
def z44_σ (n : Nat) : Spec := Spec.none
theorem z44_σok (n : Nat) : SpecOk Tryz.prog (z44_σ n) := (SpecOk.none _)
def z44_Φ (n : Nat) : Orc := with_ Tryz.prog (z44_σ n) [] n 0 hsL
def z44_v (n : Nat) (b0 : Bool) (r1 : Rows) (b2 : Bool) (r3 : Rows) : Option (Bool × Unit) :=
 DM.denFn tm (z44_Φ n) z44_lv n Tryz.f55 false [AV.sl b0 kdT r1 Right.no, AV.sl b2 kdT r3 Right.no] [] (OSh.chk (OSh.plain (.b) []))
def z44_l4 (n : Nat) (b0 : Bool) (r1 : Rows) (b2 : Bool) (r3 : Rows) (i0 : Nat) (j4 : Int) : Option (Bool × Unit) :=
 DM.loopFn tm (z44_Φ n) z44_lv n Tryz.f55 false [] (OSh.chk (OSh.plain (.b) [])) 4 [] i0 (St.mk ([AV.sl b0 kdT r1 Right.no, AV.sl b2 kdT r3 Right.no, Jk, Jk, Jk, aI j4] ++ jk 20) [])
theorem z44_s4 (n : Nat) (b0 : Bool) (r1 : Rows) (b2 : Bool) (r3 : Rows) (i0 : Nat) (j4 : Int) : z44_l4 n b0 r1 b2 r3 (i0 + 1) j4 =
 bif decide (j4 < (↑(List.length r1) : Int)) then
 if 0 ≤ j4 then
 if j4 < (↑(List.length r1) : Int) then
 if 0 ≤ j4 then
 if j4 < (↑(List.length r3) : Int) then
 bif !(Row.S (List.getD r1 (Int.toNat j4) []) 0 == Row.S (List.getD r3 (Int.toNat j4) []) 0 && (Row.B (List.getD r1 (Int.toNat j4) []) 1 == Row.B (List.getD r3 (Int.toNat j4) []) 1 && (Row.I (List.getD r1 (Int.toNat j4) []) 2 == Row.I (List.getD r3 (Int.toNat j4) []) 2 && (Row.S (List.getD r1 (Int.toNat j4) []) 3 == Row.S (List.getD r3 (Int.toNat j4) []) 3 && true)))) then
 some (false, ())
 else z44_l4 n b0 r1 b2 r3 i0 (IntKind.wrap IntKind.i64 (j4 + 1))
 else none
 else none
 else none
 else none
 else some (true, ()) := by kernel_rfl
theorem z44_e (n : Nat) (b0 : Bool) (r1 : Rows) (b2 : Bool) (r3 : Rows) : z44_v n b0 r1 b2 r3 =
 bif (↑(List.length r1) : Int) != (↑(List.length r3) : Int) then
 some (false, ())
 else z44_l4 n b0 r1 b2 r3 n 0 := by kernel_rfl
theorem z44_c (n : Nat) (b0 : Bool) (r1 : Rows) (b2 : Bool) (r3 : Rows) (y : Bool × Unit) (h : z44_v n b0 r1 b2 r3 = some y) : Contract Tryz.prog 55 [AV.sl b0 kdT r1 Right.no, AV.sl b2 kdT r3 Right.no] [] (OSh.enc (OSh.plain (.b) []) y) :=
 ac (OSh.plain (.b) []) (z44_σok n) Tryz.func55 (by decide) h
def z11_lv : Live := [(4, [2, 3, 5], [2, 3, 1000, 1001, 1002, 1003])]
def z11_σ (n : Nat) : Spec := (inst 55 [.sl kdT, .sl kdT] [] (OSh.plain (.b) []) (fun x e => z44_v n x.1.1 x.1.2 x.2.1.1 x.2.1.2) Spec.none)
theorem z11_σok (n : Nat) : SpecOk Tryz.prog (z11_σ n) := (inst_ok (fun x e y h => z44_c n x.1.1 x.1.2 x.2.1.1 x.2.1.2 y h) (SpecOk.none _))
def z11_Φ (n : Nat) : Orc := with_ Tryz.prog (z11_σ n) [] n 0 hsL
def z11_v (n : Nat) (s0 : ByteArray) (b1 : Bool) (j2 : Int) (s3 : ByteArray) (s4 : ByteArray) (b5 : Bool) (r6 : Rows) (s7 : ByteArray) (b8 : Bool) (j9 : Int) (s10 : ByteArray) (b11 : Bool) (r12 : Rows) (s13 : ByteArray) (b14 : Bool) (j15 : Int) (s16 : ByteArray) (s17 : ByteArray) (b18 : Bool) (r19 : Rows) (s20 : ByteArray) (b21 : Bool) (j22 : Int) (s23 : ByteArray) (b24 : Bool) (r25 : Rows) : Option (Bool × Unit) :=
 DM.denFn tm (z11_Φ n) z11_lv n Tryz.f23 false [AV.agg [aS s0, aB b1, aI j2, aS s3, aS s4, AV.sl b5 kdT r6 Right.no, aS s7, aB b8, aI j9, aS s10, AV.sl b11 kdL r12 Right.no], AV.agg [aS s13, aB b14, aI j15, aS s16, aS s17, AV.sl b18 kdT r19 Right.no, aS s20, aB b21, aI j22, aS s23, AV.sl b24 kdL r25 Right.no]] [] (OSh.chk (OSh.plain (.b) []))
def z11_l4 (n : Nat) (s0 : ByteArray) (b1 : Bool) (j2 : Int) (s3 : ByteArray) (s4 : ByteArray) (b5 : Bool) (r6 : Rows) (s7 : ByteArray) (b8 : Bool) (j9 : Int) (s10 : ByteArray) (b11 : Bool) (r12 : Rows) (s13 : ByteArray) (b14 : Bool) (j15 : Int) (s16 : ByteArray) (s17 : ByteArray) (b18 : Bool) (r19 : Rows) (s20 : ByteArray) (b21 : Bool) (j22 : Int) (s23 : ByteArray) (b24 : Bool) (r25 : Rows) (i0 : Nat) (j28 : Int) : Option (Bool × Unit) :=
 DM.loopFn tm (z11_Φ n) z11_lv n Tryz.f23 false [] (OSh.chk (OSh.plain (.b) [])) 4 [] i0 (St.mk ([Jk, Jk, AV.pl 2 0, AV.pl 3 0, Jk, aI j28] ++ jk 82) [(2, [aS s0, aB b1, aI j2, aS s3, aS s4, AV.sl b5 kdT r6 Right.no, aS s7, aB b8, aI j9, aS s10, AV.sl b11 kdL r12 Right.no]), (3, [aS s13, aB b14, aI j15, aS s16, aS s17, AV.sl b18 kdT r19 Right.no, aS s20, aB b21, aI j22, aS s23, AV.sl b24 kdL r25 Right.no])])
theorem z11_s4 (n : Nat) (s0 : ByteArray) (b1 : Bool) (j2 : Int) (s3 : ByteArray) (s4 : ByteArray) (b5 : Bool) (r6 : Rows) (s7 : ByteArray) (b8 : Bool) (j9 : Int) (s10 : ByteArray) (b11 : Bool) (r12 : Rows) (s13 : ByteArray) (b14 : Bool) (j15 : Int) (s16 : ByteArray) (s17 : ByteArray) (b18 : Bool) (r19 : Rows) (s20 : ByteArray) (b21 : Bool) (j22 : Int) (s23 : ByteArray) (b24 : Bool) (r25 : Rows) (i0 : Nat) (j28 : Int) : z11_l4 n s0 b1 j2 s3 s4 b5 r6 s7 b8 j9 s10 b11 r12 s13 b14 j15 s16 s17 b18 r19 s20 b21 j22 s23 b24 r25 (i0 + 1) j28 =
 bif decide (j28 < (↑(List.length r12) : Int)) then
 if 0 ≤ j28 then
 if j28 < (↑(List.length r12) : Int) then
 if 0 ≤ j28 then
 if j28 < (↑(List.length r25) : Int) then
 bif !(Row.S (List.getD r12 (Int.toNat j28) []) 0 == Row.S (List.getD r25 (Int.toNat j28) []) 0 && (Row.B (List.getD r12 (Int.toNat j28) []) 1 == Row.B (List.getD r25 (Int.toNat j28) []) 1 && (Row.I (List.getD r12 (Int.toNat j28) []) 2 == Row.I (List.getD r25 (Int.toNat j28) []) 2 && (Row.S (List.getD r12 (Int.toNat j28) []) 3 == Row.S (List.getD r25 (Int.toNat j28) []) 3 && true)))) then
 some (false, ())
 else bif !Row.S (List.getD r12 (Int.toNat j28) []) 4 == Row.S (List.getD r25 (Int.toNat j28) []) 4 then
 some (false, ())
 else bif !(Row.S (List.getD r12 (Int.toNat j28) []) 6 == Row.S (List.getD r25 (Int.toNat j28) []) 6 && (Row.B (List.getD r12 (Int.toNat j28) []) 7 == Row.B (List.getD r25 (Int.toNat j28) []) 7 && (Row.I (List.getD r12 (Int.toNat j28) []) 8 == Row.I (List.getD r25 (Int.toNat j28) []) 8 && (Row.S (List.getD r12 (Int.toNat j28) []) 9 == Row.S (List.getD r25 (Int.toNat j28) []) 9 && true)))) then
 some (false, ())
 else obind (z44_v n (Row.N (List.getD r12 (Int.toNat j28) []) 5) (Row.R (List.getD r12 (Int.toNat j28) []) 5) (Row.N (List.getD r25 (Int.toNat j28) []) 5) (Row.R (List.getD r25 (Int.toNat j28) []) 5)) fun y29 =>
 bif !y29.fst then
 some (false, ())
 else z11_l4 n s0 b1 j2 s3 s4 b5 r6 s7 b8 j9 s10 b11 r12 s13 b14 j15 s16 s17 b18 r19 s20 b21 j22 s23 b24 r25 i0 (IntKind.wrap IntKind.i64 (j28 + 1))
 else none
 else none
 else none
 else none
 else some (true, ()) := by kernel_rfl
theorem z11_e (n : Nat) (s0 : ByteArray) (b1 : Bool) (j2 : Int) (s3 : ByteArray) (s4 : ByteArray) (b5 : Bool) (r6 : Rows) (s7 : ByteArray) (b8 : Bool) (j9 : Int) (s10 : ByteArray) (b11 : Bool) (r12 : Rows) (s13 : ByteArray) (b14 : Bool) (j15 : Int) (s16 : ByteArray) (s17 : ByteArray) (b18 : Bool) (r19 : Rows) (s20 : ByteArray) (b21 : Bool) (j22 : Int) (s23 : ByteArray) (b24 : Bool) (r25 : Rows) : z11_v n s0 b1 j2 s3 s4 b5 r6 s7 b8 j9 s10 b11 r12 s13 b14 j15 s16 s17 b18 r19 s20 b21 j22 s23 b24 r25 =
 bif !(s0 == s13 && (b1 == b14 && (j2 == j15 && (s3 == s16 && true)))) then
 some (false, ())
 else bif !s4 == s17 then
 some (false, ())
 else bif !(s7 == s20 && (b8 == b21 && (j9 == j22 && (s10 == s23 && true)))) then
 some (false, ())
 else obind (z44_v n b5 r6 b18 r19) fun y26 =>
 bif !y26.fst then
 some (false, ())
 else bif (↑(List.length r12) : Int) != (↑(List.length r25) : Int) then
 some (false, ())
 else z11_l4 n s0 b1 j2 s3 s4 b5 r6 s7 b8 j9 s10 b11 r12 s13 b14 j15 s16 s17 b18 r19 s20 b21 j22 s23 b24 r25 n 0 := by kernel_rfl
theorem z11_c (n : Nat) (s0 : ByteArray) (b1 : Bool) (j2 : Int) (s3 : ByteArray) (s4 : ByteArray) (b5 : Bool) (r6 : Rows) (s7 : ByteArray) (b8 : Bool) (j9 : Int) (s10 : ByteArray) (b11 : Bool) (r12 : Rows) (s13 : ByteArray) (b14 : Bool) (j15 : Int) (s16 : ByteArray) (s17 : ByteArray) (b18 : Bool) (r19 : Rows) (s20 : ByteArray) (b21 : Bool) (j22 : Int) (s23 : ByteArray) (b24 : Bool) (r25 : Rows) (y : Bool × Unit) (h : z11_v n s0 b1 j2 s3 s4 b5 r6 s7 b8 j9 s10 b11 r12 s13 b14 j15 s16 s17 b18 r19 s20 b21 j22 s23 b24 r25 = some y) : Contract Tryz.prog 23 [AV.agg [aS s0, aB b1, aI j2, aS s3, aS s4, AV.sl b5 kdT r6 Right.no, aS s7, aB b8, aI j9, aS s10, AV.sl b11 kdL r12 Right.no], AV.agg [aS s13, aB b14, aI j15, aS s16, aS s17, AV.sl b18 kdT r19 Right.no, aS s20, aB b21, aI j22, aS s23, AV.sl b24 kdL r25 Right.no]] [] (OSh.enc (OSh.plain (.b) []) y) :=
 ac (OSh.plain (.b) []) (z11_σok n) Tryz.func23 (by decide) h
def z53_lv : Live := [(4, [0, 1, 5], [1000, 1001, 1002, 1003])]
def z53_σ (n : Nat) : Spec := (inst 23 [.agg [.s, .b, .i .i64, .s, .s, .sl kdT, .s, .b, .i .i64, .s, .sl kdL], .agg [.s, .b, .i .i64, .s, .s, .sl kdT, .s, .b, .i .i64, .s, .sl kdL]] [] (OSh.plain (.b) []) (fun x e => z11_v n x.1.1 x.1.2.1 x.1.2.2.1 x.1.2.2.2.1 x.1.2.2.2.2.1 x.1.2.2.2.2.2.1.1 x.1.2.2.2.2.2.1.2 x.1.2.2.2.2.2.2.1 x.1.2.2.2.2.2.2.2.1 x.1.2.2.2.2.2.2.2.2.1 x.1.2.2.2.2.2.2.2.2.2.1 x.1.2.2.2.2.2.2.2.2.2.2.1.1 x.1.2.2.2.2.2.2.2.2.2.2.1.2 x.2.1.1 x.2.1.2.1 x.2.1.2.2.1 x.2.1.2.2.2.1 x.2.1.2.2.2.2.1 x.2.1.2.2.2.2.2.1.1 x.2.1.2.2.2.2.2.1.2 x.2.1.2.2.2.2.2.2.1 x.2.1.2.2.2.2.2.2.2.1 x.2.1.2.2.2.2.2.2.2.2.1 x.2.1.2.2.2.2.2.2.2.2.2.1 x.2.1.2.2.2.2.2.2.2.2.2.2.1.1 x.2.1.2.2.2.2.2.2.2.2.2.2.1.2) Spec.none)
theorem z53_σok (n : Nat) : SpecOk Tryz.prog (z53_σ n) := (inst_ok (fun x e y h => z11_c n x.1.1 x.1.2.1 x.1.2.2.1 x.1.2.2.2.1 x.1.2.2.2.2.1 x.1.2.2.2.2.2.1.1 x.1.2.2.2.2.2.1.2 x.1.2.2.2.2.2.2.1 x.1.2.2.2.2.2.2.2.1 x.1.2.2.2.2.2.2.2.2.1 x.1.2.2.2.2.2.2.2.2.2.1 x.1.2.2.2.2.2.2.2.2.2.2.1.1 x.1.2.2.2.2.2.2.2.2.2.2.1.2 x.2.1.1 x.2.1.2.1 x.2.1.2.2.1 x.2.1.2.2.2.1 x.2.1.2.2.2.2.1 x.2.1.2.2.2.2.2.1.1 x.2.1.2.2.2.2.2.1.2 x.2.1.2.2.2.2.2.2.1 x.2.1.2.2.2.2.2.2.2.1 x.2.1.2.2.2.2.2.2.2.2.1 x.2.1.2.2.2.2.2.2.2.2.2.1 x.2.1.2.2.2.2.2.2.2.2.2.2.1.1 x.2.1.2.2.2.2.2.2.2.2.2.2.1.2 y h) (SpecOk.none _))
def z53_Φ (n : Nat) : Orc := with_ Tryz.prog (z53_σ n) [] n 0 hsL
def z53_v (n : Nat) (b0 : Bool) (r1 : Rows) (b2 : Bool) (r3 : Rows) : Option (Bool × Unit) :=
 DM.denFn tm (z53_Φ n) z53_lv n Tryz.f10 false [AV.sl b0 kdR r1 Right.no, AV.sl b2 kdR r3 Right.no] [] (OSh.chk (OSh.plain (.b) []))
def z53_l4 (n : Nat) (b0 : Bool) (r1 : Rows) (b2 : Bool) (r3 : Rows) (i0 : Nat) (j5 : Int) : Option (Bool × Unit) :=
 DM.loopFn tm (z53_Φ n) z53_lv n Tryz.f10 false [] (OSh.chk (OSh.plain (.b) [])) 4 [] i0 (St.mk ([AV.sl b0 kdR r1 Right.no, AV.sl b2 kdR r3 Right.no, Jk, Jk, Jk, aI j5] ++ jk 21) [])
theorem z53_s4 (n : Nat) (b0 : Bool) (r1 : Rows) (b2 : Bool) (r3 : Rows) (i0 : Nat) (j5 : Int) : z53_l4 n b0 r1 b2 r3 (i0 + 1) j5 =
 bif decide (j5 < (↑(List.length r1) : Int)) then
 if 0 ≤ j5 then
 if j5 < (↑(List.length r1) : Int) then
 if 0 ≤ j5 then
 if j5 < (↑(List.length r3) : Int) then
 obind (z11_v n (Row.S (List.getD r1 (Int.toNat j5) []) 0) (Row.B (List.getD r1 (Int.toNat j5) []) 1) (Row.I (List.getD r1 (Int.toNat j5) []) 2) (Row.S (List.getD r1 (Int.toNat j5) []) 3) (Row.S (List.getD r1 (Int.toNat j5) []) 4) (Row.N (List.getD r1 (Int.toNat j5) []) 5) (Row.R (List.getD r1 (Int.toNat j5) []) 5) (Row.S (List.getD r1 (Int.toNat j5) []) 6) (Row.B (List.getD r1 (Int.toNat j5) []) 7) (Row.I (List.getD r1 (Int.toNat j5) []) 8) (Row.S (List.getD r1 (Int.toNat j5) []) 9) (Row.N (List.getD r1 (Int.toNat j5) []) 10) (Row.R (List.getD r1 (Int.toNat j5) []) 10) (Row.S (List.getD r3 (Int.toNat j5) []) 0) (Row.B (List.getD r3 (Int.toNat j5) []) 1) (Row.I (List.getD r3 (Int.toNat j5) []) 2) (Row.S (List.getD r3 (Int.toNat j5) []) 3) (Row.S (List.getD r3 (Int.toNat j5) []) 4) (Row.N (List.getD r3 (Int.toNat j5) []) 5) (Row.R (List.getD r3 (Int.toNat j5) []) 5) (Row.S (List.getD r3 (Int.toNat j5) []) 6) (Row.B (List.getD r3 (Int.toNat j5) []) 7) (Row.I (List.getD r3 (Int.toNat j5) []) 8) (Row.S (List.getD r3 (Int.toNat j5) []) 9) (Row.N (List.getD r3 (Int.toNat j5) []) 10) (Row.R (List.getD r3 (Int.toNat j5) []) 10)) fun y6 =>
 bif !y6.fst then
 some (false, ())
 else z53_l4 n b0 r1 b2 r3 i0 (IntKind.wrap IntKind.i64 (j5 + 1))
 else none
 else none
 else none
 else none
 else some (true, ()) := by kernel_rfl
theorem z53_e (n : Nat) (b0 : Bool) (r1 : Rows) (b2 : Bool) (r3 : Rows) : z53_v n b0 r1 b2 r3 =
 bif (↑(List.length r1) : Int) != (↑(List.length r3) : Int) then
 some (false, ())
 else z53_l4 n b0 r1 b2 r3 n 0 := by kernel_rfl
theorem z53_c (n : Nat) (b0 : Bool) (r1 : Rows) (b2 : Bool) (r3 : Rows) (y : Bool × Unit) (h : z53_v n b0 r1 b2 r3 = some y) : Contract Tryz.prog 10 [AV.sl b0 kdR r1 Right.no, AV.sl b2 kdR r3 Right.no] [] (OSh.enc (OSh.plain (.b) []) y) :=
 ac (OSh.plain (.b) []) (z53_σok n) Tryz.func10 (by decide) h
def z2_lv : Live := []
def z2_σ (n : Nat) : Spec := (inst 5 [.sl kdR, .i .i64] [] (OSh.plain (.i .i64) []) (fun x e => z27_v n x.1.1 x.1.2 x.2.1) (inst 6 [] [] (OSh.plain (.b) []) (fun x e => z51_v n) (inst 7 [.sl kdR] [] (OSh.plain (.slt kdR 0) []) (fun x e => z52_v n x.1.1 x.1.2) (inst 8 [.sl kdR] [] (OSh.plain (.tup [.slt kdR 0, .i .i64]) []) (fun x e => z18_v n x.1.1 x.1.2) (inst 9 [.sl kdR] [] (OSh.plain (.tup [.slt kdR 0, .i .i64]) []) (fun x e => z16_v n x.1.1 x.1.2) (inst 10 [.sl kdR, .sl kdR] [] (OSh.plain (.b) []) (fun x e => z53_v n x.1.1 x.1.2 x.2.1.1 x.2.1.2) Spec.none))))))
theorem z2_σok (n : Nat) : SpecOk Tryz.prog (z2_σ n) := (inst_ok (fun x e y h => z27_c n x.1.1 x.1.2 x.2.1 y h) (inst_ok (fun x e y h => z51_c n y h) (inst_ok (fun x e y h => z52_c n x.1.1 x.1.2 y h) (inst_ok (fun x e y h => z18_c n x.1.1 x.1.2 y h) (inst_ok (fun x e y h => z16_c n x.1.1 x.1.2 y h) (inst_ok (fun x e y h => z53_c n x.1.1 x.1.2 x.2.1.1 x.2.1.2 y h) (SpecOk.none _)))))))
def z2_Φ (n : Nat) : Orc := with_ Tryz.prog (z2_σ n) [] n 0 hsL
def z2_v (n : Nat) (b0 : Bool) (r1 : Rows) : Option (Bool × Unit) :=
 DM.denFn tm (z2_Φ n) z2_lv n Tryz.f3 false [AV.sl b0 kdR r1 Right.no] [] (OSh.chk (OSh.plain (.b) []))
theorem z2_e (n : Nat) (b0 : Bool) (r1 : Rows) : z2_v n b0 r1 =
 obind (z27_v n b0 r1 200) fun y2 =>
 bif decide (y2.fst > 200) then
 obind (z51_v n) fun y3 =>
 some (y3.fst, ())
 else obind (z52_v n b0 r1) fun y4 =>
 obind (z18_v n y4.fst.fst y4.fst.snd) fun y5 =>
 obind (z16_v n b0 r1) fun y6 =>
 obind (z53_v n y5.fst.fst.fst y5.fst.fst.snd y6.fst.fst.fst y6.fst.fst.snd) fun y7 =>
 bif y7.fst then
 bif y5.fst.snd.fst == y6.fst.snd.fst then
 obind (z53_v n y4.fst.fst y4.fst.snd b0 r1) fun y8 =>
 bif y8.fst then
 obind (z51_v n) fun y9 =>
 some (y9.fst, ())
 else some (false, ())
 else some (false, ())
 else some (false, ()) := by kernel_rfl
theorem z2_c (n : Nat) (b0 : Bool) (r1 : Rows) (y : Bool × Unit) (h : z2_v n b0 r1 = some y) : Contract Tryz.prog 3 [AV.sl b0 kdR r1 Right.no] [] (OSh.enc (OSh.plain (.b) []) y) :=
 ac (OSh.plain (.b) []) (z2_σok n) Tryz.func3 (by decide) h
end
end Go.Den

