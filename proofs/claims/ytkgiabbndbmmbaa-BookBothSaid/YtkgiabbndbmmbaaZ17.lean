import Derived.Test.YtkgiabbndbmmbaaZ16
set_option linter.unusedVariables false
set_option linter.unusedSimpArgs false
set_option linter.unusedSectionVars false
namespace Go.Den
open Go.Proofs
set_option maxRecDepth 100000
def z36_lv : Live := [(3, [3, 6, 7, 8], [1000, 1001, 1002, 1003]), (1000008, [0, 3, 3], []), (1999998, [1, 2], [])]
noncomputable def z36_σ (n : Nat) : Spec := (inst 57 [.sl [Kd.b, Kd.i IntKind.i64, Kd.s]] [] (OSh.plain (.slt [Kd.b, Kd.i IntKind.i64, Kd.s] 0) []) (fun x e => z17_v n x.1.1 x.1.2) (inst 58 [.sl [Kd.s, Kd.s, Kd.s, Kd.sl [Kd.b, Kd.i IntKind.i64, Kd.s]], .fn 40 []] [] (OSh.plain (.tup []) []) (fun x e => slices_SortFunc_fact_Order_v n x.1.1 x.1.2) (inst 59 [.slt [Kd.s, Kd.s, Kd.s, Kd.sl [Kd.b, Kd.i IntKind.i64, Kd.s]] 500000, .fn 60 []] [] (OSh.plain (.slt [Kd.s, Kd.s, Kd.s, Kd.sl [Kd.b, Kd.i IntKind.i64, Kd.s]] 0) []) (fun x e => z4_v n x.1.1 x.1.2) (inst 58 [.ms0 1000 [Kd.s, Kd.s, Kd.s, Kd.sl [Kd.b, Kd.i IntKind.i64, Kd.s]], .fn 40 []] [[.arr [Kd.s, Kd.s, Kd.s, Kd.sl [Kd.b, Kd.i IntKind.i64, Kd.s]]]] (OSh.plain (.tup []) [[.arr [Kd.s, Kd.s, Kd.s, Kd.sl [Kd.b, Kd.i IntKind.i64, Kd.s]]]]) (fun x e => slices_SortFunc_mz_fact_Order_v n x.1.1 x.1.2 e.1.1) (inst 59 [.ms0 1000 [Kd.s, Kd.s, Kd.s, Kd.sl [Kd.b, Kd.i IntKind.i64, Kd.s]], .fn 60 []] [[.arr [Kd.s, Kd.s, Kd.s, Kd.sl [Kd.b, Kd.i IntKind.i64, Kd.s]]]] (OSh.plain (.ms0 1000 [Kd.s, Kd.s, Kd.s, Kd.sl [Kd.b, Kd.i IntKind.i64, Kd.s]]) [[.arr [Kd.s, Kd.s, Kd.s, Kd.sl [Kd.b, Kd.i IntKind.i64, Kd.s]]]]) (fun x e => z1_v n x.1.1 x.1.2 e.1.1) (bookH Spec.none))))))
theorem z36_σok (n : Nat) : SpecOk Try.prog (z36_σ n) := (inst_ok (fun x e y h => z17_c n x.1.1 x.1.2 y h) (inst_ok (fun x e y h => slices_SortFunc_fact_Order_c n x.1.1 x.1.2 y h) (inst_ok (fun x e y h => z4_c n x.1.1 x.1.2 y h) (inst_ok (fun x e y h => slices_SortFunc_mz_fact_Order_c n x.1.1 x.1.2 e.1.1 y h) (inst_ok (fun x e y h => z1_c n x.1.1 x.1.2 e.1.1 y h) (bookH_ok (SpecOk.none _)))))))
noncomputable def z36_Φ (n : Nat) : Orc := with_ Try.prog (z36_σ n) [] n 0 [1000045, 1000059]
noncomputable def z36_v (n : Nat) (b0 : Bool) (r1 : Rows) : Option ((Bool × Rows) × Unit) :=
 DM.denFn tm (z36_Φ n) z36_lv n Try.f37 true [AV.sl b0 [Kd.s, Kd.s, Kd.s, Kd.sl [Kd.b, Kd.i IntKind.i64, Kd.s]] r1 Right.no] [] (OSh.chk (OSh.plain (.slt [Kd.s, Kd.s, Kd.s, Kd.sl [Kd.b, Kd.i IntKind.i64, Kd.s]] 0) []))
noncomputable def z36_l3 (n : Nat) (b0 : Bool) (r1 : Rows) (i0 : Nat) (b5 : Bool) (r6 : List (List DV)) (j7 : Int) : Option ((Bool × Rows) × Unit) :=
 DM.loopFn tm (z36_Φ n) z36_lv n Try.f37 true [] (OSh.chk (OSh.plain (.slt [Kd.s, Kd.s, Kd.s, Kd.sl [Kd.b, Kd.i IntKind.i64, Kd.s]] 0) [])) 3 [] i0 (St.mk [AV.junk, AV.junk, AV.junk, AV.sl b5 [Kd.s, Kd.s, Kd.s, Kd.sl [Kd.b, Kd.i IntKind.i64, Kd.s]] r6 (Right.tok 3), AV.junk, AV.junk, AV.sl b0 [Kd.s, Kd.s, Kd.s, Kd.sl [Kd.b, Kd.i IntKind.i64, Kd.s]] r1 Right.no, AV.dv (DV.val (Value.int IntKind.i64 (↑(List.length r1) : Int))), AV.dv (DV.val (Value.int IntKind.i64 j7)), AV.junk, AV.junk, AV.junk, AV.junk, AV.junk, AV.junk, AV.junk, AV.junk, AV.junk, AV.junk, AV.junk, AV.junk, AV.junk, AV.junk, AV.junk, AV.junk] [])
theorem z36_s3 (n : Nat) (b0 : Bool) (r1 : Rows) (i0 : Nat) (b5 : Bool) (r6 : List (List DV)) (j7 : Int) : z36_l3 n b0 r1 (i0 + 1) b5 r6 j7 =
 bif decide (j7 < (↑(List.length r1) : Int)) then
  if 0 ≤ j7 then
   if j7 < (↑(List.length r1) : Int) then
    obind (z17_v n (Row.N (List.getD r1 (Int.toNat j7) []) 3) (Row.R (List.getD r1 (Int.toNat j7) []) 3)) fun y8 =>
    if (List.length r6 + List.length [[DV.val (Value.string (Row.S (List.getD r1 (Int.toNat j7) []) 0)), DV.val (Value.string (Row.S (List.getD r1 (Int.toNat j7) []) 1)), DV.val (Value.string (Row.S (List.getD r1 (Int.toNat j7) []) 2)), DV.sl y8.fst.fst [Kd.b, Kd.i IntKind.i64, Kd.s] y8.fst.snd]]) * 72 ≤ 140737488355328 then
     z36_l3 n b0 r1 i0 (b5 && List.isEmpty [[DV.val (Value.string (Row.S (List.getD r1 (Int.toNat j7) []) 0)), DV.val (Value.string (Row.S (List.getD r1 (Int.toNat j7) []) 1)), DV.val (Value.string (Row.S (List.getD r1 (Int.toNat j7) []) 2)), DV.sl y8.fst.fst [Kd.b, Kd.i IntKind.i64, Kd.s] y8.fst.snd]]) (appX r6 [[DV.val (Value.string (Row.S (List.getD r1 (Int.toNat j7) []) 0)), DV.val (Value.string (Row.S (List.getD r1 (Int.toNat j7) []) 1)), DV.val (Value.string (Row.S (List.getD r1 (Int.toNat j7) []) 2)), DV.sl y8.fst.fst [Kd.b, Kd.i IntKind.i64, Kd.s] y8.fst.snd]]) (IntKind.wrap IntKind.i64 (j7 + 1))
    else none
   else none
  else none
 else bif b5 || List.isEmpty r6 then
  obind (slices_SortFunc_fact_Order_v n b5 []) fun y9 =>
  obind (z4_v n b5 []) fun y10 =>
  some ((y10.fst.fst, y10.fst.snd), ())
 else obind (slices_SortFunc_mz_fact_Order_v n (List.length r6) (List.length r6) r6) fun y11 =>
 obind (z1_v n (List.length r6) (List.length r6) y11.snd.fst.fst) fun y12 =>
 if 0 + y12.fst.fst ≤ List.length y12.snd.fst.fst then
  some ((false, List.take y12.fst.fst (List.drop 0 y12.snd.fst.fst)), ())
 else none := by kernel_rfl
theorem z36_e (n : Nat) (b0 : Bool) (r1 : Rows) : z36_v n b0 r1 =
 z36_l3 n b0 r1 n true [] 0 := by kernel_rfl
theorem z36_c (n : Nat) (b0 : Bool) (r1 : Rows) (y : (Bool × Rows) × Unit) (h : z36_v n b0 r1 = some y) : Contract Try.prog 37 [AV.sl b0 [Kd.s, Kd.s, Kd.s, Kd.sl [Kd.b, Kd.i IntKind.i64, Kd.s]] r1 Right.no] [] (OSh.enc (OSh.plain (.slt [Kd.s, Kd.s, Kd.s, Kd.sl [Kd.b, Kd.i IntKind.i64, Kd.s]] 0) []) y) :=
 auto_okM tm_std (with_ok mixed (by kernel_rfl) (z36_σok n) n 0 [1000045, 1000059]) (with_pick mixed (by kernel_rfl) (z36_σok n) n 0 [1000045, 1000059]) mixed Try.func37 (by decide) (o := (OSh.plain (.slt [Kd.s, Kd.s, Kd.s, Kd.sl [Kd.b, Kd.i IntKind.i64, Kd.s]] 0) [])) h
def z2_lv : Live := [(3, [0, 2, 4, 8, 9, 10], [4, 1000, 1001, 1002, 1003])]
noncomputable def z2_σ (n : Nat) : Spec := (inst 40 [.agg [.s, .s, .s, .sl [Kd.b, Kd.i IntKind.i64, Kd.s]], .agg [.s, .s, .s, .sl [Kd.b, Kd.i IntKind.i64, Kd.s]]] [] (OSh.plain (.i IntKind.i64) []) (fun x e => z40_v n x.1.1 x.1.2.1 x.1.2.2.1 x.1.2.2.2.1.1 x.1.2.2.2.1.2 x.2.1.1 x.2.1.2.1 x.2.1.2.2.1 x.2.1.2.2.2.1.1 x.2.1.2.2.2.1.2) (bookH Spec.none))
theorem z2_σok (n : Nat) : SpecOk Try.prog (z2_σ n) := (inst_ok (fun x e y h => z40_c n x.1.1 x.1.2.1 x.1.2.2.1 x.1.2.2.2.1.1 x.1.2.2.2.1.2 x.2.1.1 x.2.1.2.1 x.2.1.2.2.1 x.2.1.2.2.2.1.1 x.2.1.2.2.2.1.2 y h) (bookH_ok (SpecOk.none _)))
noncomputable def z2_Φ (n : Nat) : Orc := with_ Try.prog (z2_σ n) [] n 0 [1000045, 1000059]
noncomputable def z2_v (n : Nat) (b0 : Bool) (r1 : Rows) (s2 : ByteArray) (s3 : ByteArray) (s4 : ByteArray) (b5 : Bool) (r6 : Rows) : Option ((Int × Bool × Unit) × Unit) :=
 DM.denFn tm (z2_Φ n) z2_lv n Try.f39 false [AV.sl b0 [Kd.s, Kd.s, Kd.s, Kd.sl [Kd.b, Kd.i IntKind.i64, Kd.s]] r1 Right.no, AV.agg [AV.dv (DV.val (Value.string s2)), AV.dv (DV.val (Value.string s3)), AV.dv (DV.val (Value.string s4)), AV.sl b5 [Kd.b, Kd.i IntKind.i64, Kd.s] r6 Right.no], AV.fn 40 []] [] (OSh.chk (OSh.plain (.tup [.i IntKind.i64, .b]) []))
noncomputable def z2_l3 (n : Nat) (b0 : Bool) (r1 : Rows) (s2 : ByteArray) (s3 : ByteArray) (s4 : ByteArray) (b5 : Bool) (r6 : Rows) (i0 : Nat) (j9 : Int) (j10 : Int) : Option ((Int × Bool × Unit) × Unit) :=
 DM.loopFn tm (z2_Φ n) z2_lv n Try.f39 false [] (OSh.chk (OSh.plain (.tup [.i IntKind.i64, .b]) [])) 3 [] i0 (St.mk [AV.sl b0 [Kd.s, Kd.s, Kd.s, Kd.sl [Kd.b, Kd.i IntKind.i64, Kd.s]] r1 Right.no, AV.junk, AV.fn 40 [], AV.junk, AV.pl 4 0, AV.junk, AV.junk, AV.junk, AV.dv (DV.val (Value.int IntKind.i64 (↑(List.length r1) : Int))), AV.dv (DV.val (Value.int IntKind.i64 j9)), AV.dv (DV.val (Value.int IntKind.i64 j10)), AV.junk, AV.junk, AV.junk, AV.junk, AV.junk, AV.junk, AV.junk, AV.junk, AV.junk, AV.junk, AV.junk, AV.junk, AV.junk, AV.junk, AV.junk, AV.junk, AV.junk, AV.junk, AV.junk, AV.junk, AV.junk, AV.junk, AV.junk, AV.junk, AV.junk, AV.junk, AV.junk, AV.junk, AV.junk, AV.junk, AV.junk, AV.junk, AV.junk, AV.junk, AV.junk, AV.junk, AV.junk, AV.junk] [(4, [AV.dv (DV.val (Value.string s2)), AV.dv (DV.val (Value.string s3)), AV.dv (DV.val (Value.string s4)), AV.sl b5 [Kd.b, Kd.i IntKind.i64, Kd.s] r6 Right.no])])
theorem z2_s3 (n : Nat) (b0 : Bool) (r1 : Rows) (s2 : ByteArray) (s3 : ByteArray) (s4 : ByteArray) (b5 : Bool) (r6 : Rows) (i0 : Nat) (j9 : Int) (j10 : Int) : z2_l3 n b0 r1 s2 s3 s4 b5 r6 (i0 + 1) j9 j10 =
 bif decide (j9 < j10) then
  if 0 ≤ IntKind.wrap IntKind.i64 (Int.fdiv (IntKind.wrap IntKind.u64 (IntKind.wrap IntKind.i64 (j9 + j10))) (2 ^ 1)) then
   if IntKind.wrap IntKind.i64 (Int.fdiv (IntKind.wrap IntKind.u64 (IntKind.wrap IntKind.i64 (j9 + j10))) (2 ^ 1)) < (↑(List.length r1) : Int) then
    obind (z40_v n (Row.S (List.getD r1 (Int.toNat (IntKind.wrap IntKind.i64 (Int.fdiv (IntKind.wrap IntKind.u64 (IntKind.wrap IntKind.i64 (j9 + j10))) (2 ^ 1)))) []) 0) (Row.S (List.getD r1 (Int.toNat (IntKind.wrap IntKind.i64 (Int.fdiv (IntKind.wrap IntKind.u64 (IntKind.wrap IntKind.i64 (j9 + j10))) (2 ^ 1)))) []) 1) (Row.S (List.getD r1 (Int.toNat (IntKind.wrap IntKind.i64 (Int.fdiv (IntKind.wrap IntKind.u64 (IntKind.wrap IntKind.i64 (j9 + j10))) (2 ^ 1)))) []) 2) (Row.N (List.getD r1 (Int.toNat (IntKind.wrap IntKind.i64 (Int.fdiv (IntKind.wrap IntKind.u64 (IntKind.wrap IntKind.i64 (j9 + j10))) (2 ^ 1)))) []) 3) (Row.R (List.getD r1 (Int.toNat (IntKind.wrap IntKind.i64 (Int.fdiv (IntKind.wrap IntKind.u64 (IntKind.wrap IntKind.i64 (j9 + j10))) (2 ^ 1)))) []) 3) s2 s3 s4 b5 r6) fun y11 =>
    bif decide (y11.fst < 0) then
     z2_l3 n b0 r1 s2 s3 s4 b5 r6 i0 (IntKind.wrap IntKind.i64 (IntKind.wrap IntKind.i64 (Int.fdiv (IntKind.wrap IntKind.u64 (IntKind.wrap IntKind.i64 (j9 + j10))) (2 ^ 1)) + 1)) j10
    else z2_l3 n b0 r1 s2 s3 s4 b5 r6 i0 j9 (IntKind.wrap IntKind.i64 (Int.fdiv (IntKind.wrap IntKind.u64 (IntKind.wrap IntKind.i64 (j9 + j10))) (2 ^ 1)))
   else none
  else none
 else bif decide (j9 < (↑(List.length r1) : Int)) then
  if 0 ≤ j9 then
   if j9 < (↑(List.length r1) : Int) then
    obind (z40_v n (Row.S (List.getD r1 (Int.toNat j9) []) 0) (Row.S (List.getD r1 (Int.toNat j9) []) 1) (Row.S (List.getD r1 (Int.toNat j9) []) 2) (Row.N (List.getD r1 (Int.toNat j9) []) 3) (Row.R (List.getD r1 (Int.toNat j9) []) 3) s2 s3 s4 b5 r6) fun y12 =>
    some ((j9, (y12.fst == 0, ())), ())
   else none
  else none
 else some ((j9, (false, ())), ()) := by kernel_rfl
theorem z2_e (n : Nat) (b0 : Bool) (r1 : Rows) (s2 : ByteArray) (s3 : ByteArray) (s4 : ByteArray) (b5 : Bool) (r6 : Rows) : z2_v n b0 r1 s2 s3 s4 b5 r6 =
 z2_l3 n b0 r1 s2 s3 s4 b5 r6 n 0 ((↑(List.length r1) : Int)) := by kernel_rfl
theorem z2_c (n : Nat) (b0 : Bool) (r1 : Rows) (s2 : ByteArray) (s3 : ByteArray) (s4 : ByteArray) (b5 : Bool) (r6 : Rows) (y : (Int × Bool × Unit) × Unit) (h : z2_v n b0 r1 s2 s3 s4 b5 r6 = some y) : Contract Try.prog 39 [AV.sl b0 [Kd.s, Kd.s, Kd.s, Kd.sl [Kd.b, Kd.i IntKind.i64, Kd.s]] r1 Right.no, AV.agg [AV.dv (DV.val (Value.string s2)), AV.dv (DV.val (Value.string s3)), AV.dv (DV.val (Value.string s4)), AV.sl b5 [Kd.b, Kd.i IntKind.i64, Kd.s] r6 Right.no], AV.fn 40 []] [] (OSh.enc (OSh.plain (.tup [.i IntKind.i64, .b]) []) y) :=
 auto_okM tm_std (with_ok mixed (by kernel_rfl) (z2_σok n) n 0 [1000045, 1000059]) (with_pick mixed (by kernel_rfl) (z2_σok n) n 0 [1000045, 1000059]) mixed Try.func39 (by decide) (o := (OSh.plain (.tup [.i IntKind.i64, .b]) [])) h
def z10_lv : Live := []
noncomputable def z10_σ (n : Nat) : Spec := (inst 39 [.sl [Kd.s, Kd.s, Kd.s, Kd.sl [Kd.b, Kd.i IntKind.i64, Kd.s]], .agg [.s, .s, .s, .sl [Kd.b, Kd.i IntKind.i64, Kd.s]], .fn 40 []] [] (OSh.plain (.tup [.i IntKind.i64, .b]) []) (fun x e => z2_v n x.1.1 x.1.2 x.2.1.1 x.2.1.2.1 x.2.1.2.2.1 x.2.1.2.2.2.1.1 x.2.1.2.2.2.1.2) (bookH Spec.none))
theorem z10_σok (n : Nat) : SpecOk Try.prog (z10_σ n) := (inst_ok (fun x e y h => z2_c n x.1.1 x.1.2 x.2.1.1 x.2.1.2.1 x.2.1.2.2.1 x.2.1.2.2.2.1.1 x.2.1.2.2.2.1.2 y h) (bookH_ok (SpecOk.none _)))
noncomputable def z10_Φ (n : Nat) : Orc := with_ Try.prog (z10_σ n) [] n 0 [1000045, 1000059]
noncomputable def z10_v (n : Nat) (s0 : ByteArray) (s1 : ByteArray) (s2 : ByteArray) (b3 : Bool) (r4 : Rows) (r5 : Row) : Option (Bool × Unit) :=
 DM.denFn tm (z10_Φ n) z10_lv n Try.f38 false [AV.agg [AV.dv (DV.val (Value.string s0)), AV.dv (DV.val (Value.string s1)), AV.dv (DV.val (Value.string s2)), AV.sl b3 [Kd.b, Kd.i IntKind.i64, Kd.s] r4 Right.no], AV.pv [Kd.sl [Kd.s, Kd.s, Kd.s, Kd.sl [Kd.b, Kd.i IntKind.i64, Kd.s]]] r5 0] [] (OSh.chk (OSh.plain (.b) []))
theorem z10_e (n : Nat) (s0 : ByteArray) (s1 : ByteArray) (s2 : ByteArray) (b3 : Bool) (r4 : Rows) (r5 : Row) : z10_v n s0 s1 s2 b3 r4 r5 =
 obind (z2_v n (Row.N r5 0) (Row.R r5 0) s0 s1 s2 b3 r4) fun y6 =>
 some (y6.fst.snd.fst, ()) := by kernel_rfl
theorem z10_c (n : Nat) (s0 : ByteArray) (s1 : ByteArray) (s2 : ByteArray) (b3 : Bool) (r4 : Rows) (r5 : Row) (y : Bool × Unit) (h : z10_v n s0 s1 s2 b3 r4 r5 = some y) : Contract Try.prog 38 [AV.agg [AV.dv (DV.val (Value.string s0)), AV.dv (DV.val (Value.string s1)), AV.dv (DV.val (Value.string s2)), AV.sl b3 [Kd.b, Kd.i IntKind.i64, Kd.s] r4 Right.no], AV.pv [Kd.sl [Kd.s, Kd.s, Kd.s, Kd.sl [Kd.b, Kd.i IntKind.i64, Kd.s]]] r5 0] [] (OSh.enc (OSh.plain (.b) []) y) :=
 auto_okM tm_std (with_ok mixed (by kernel_rfl) (z10_σok n) n 0 [1000045, 1000059]) (with_pick mixed (by kernel_rfl) (z10_σok n) n 0 [1000045, 1000059]) mixed Try.func38 (by decide) (o := (OSh.plain (.b) [])) h
def z13_lv : Live := [(6, [0, 5, 6, 7], [5, 1000, 1001, 1002, 1003]), (9, [0, 5, 6, 7, 23, 24, 25], [5, 1000, 1001, 1002, 1003]), (13, [0, 5, 6, 7, 9, 23, 24, 25, 34, 35, 36], [5, 9, 1000, 1001, 1002, 1003]), (1000004, [5, 5, 0], []), (1000018, [6, 5, 0, 60], []), (1000019, [4, 5, 0], []), (999999, [], [])]
noncomputable def z13_σ (n : Nat) : Spec := (inst 36 [.pv [Kd.sl [Kd.i IntKind.i64, Kd.s, Kd.s, Kd.s, Kd.sl [Kd.b, Kd.i IntKind.i64, Kd.s], Kd.sl [Kd.s, Kd.s, Kd.s, Kd.sl [Kd.b, Kd.i IntKind.i64, Kd.s]]], Kd.b] 0] [] (OSh.plain (.b) []) (fun x e => z15_v n x.1) (inst 37 [.sl [Kd.s, Kd.s, Kd.s, Kd.sl [Kd.b, Kd.i IntKind.i64, Kd.s]]] [] (OSh.plain (.slt [Kd.s, Kd.s, Kd.s, Kd.sl [Kd.b, Kd.i IntKind.i64, Kd.s]] 0) []) (fun x e => z36_v n x.1.1 x.1.2) (inst 38 [.agg [.s, .s, .s, .sl [Kd.b, Kd.i IntKind.i64, Kd.s]], .pv [Kd.sl [Kd.s, Kd.s, Kd.s, Kd.sl [Kd.b, Kd.i IntKind.i64, Kd.s]]] 0] [] (OSh.plain (.b) []) (fun x e => z10_v n x.1.1 x.1.2.1 x.1.2.2.1 x.1.2.2.2.1.1 x.1.2.2.2.1.2 x.2.1) (inst 39 [.sl [Kd.s, Kd.s, Kd.s, Kd.sl [Kd.b, Kd.i IntKind.i64, Kd.s]], .agg [.s, .s, .s, .sl [Kd.b, Kd.i IntKind.i64, Kd.s]], .fn 40 []] [] (OSh.plain (.tup [.i IntKind.i64, .b]) []) (fun x e => z2_v n x.1.1 x.1.2 x.2.1.1 x.2.1.2.1 x.2.1.2.2.1 x.2.1.2.2.2.1.1 x.2.1.2.2.2.1.2) (inst 42 [.agg [.i IntKind.i64, .s, .s, .s, .sl [Kd.b, Kd.i IntKind.i64, Kd.s], .sl [Kd.s, Kd.s, Kd.s, Kd.sl [Kd.b, Kd.i IntKind.i64, Kd.s]]]] [] (OSh.plain (.agg [.i IntKind.i64, .s, .s, .s, .sl [Kd.b, Kd.i IntKind.i64, Kd.s], .sl [Kd.s, Kd.s, Kd.s, Kd.sl [Kd.b, Kd.i IntKind.i64, Kd.s]]]) []) (fun x e => z50_v n x.1.1 x.1.2.1 x.1.2.2.1 x.1.2.2.2.1 x.1.2.2.2.2.1.1 x.1.2.2.2.2.1.2 x.1.2.2.2.2.2.1.1 x.1.2.2.2.2.2.1.2) (bookH Spec.none))))))
theorem z13_σok (n : Nat) : SpecOk Try.prog (z13_σ n) := (inst_ok (fun x e y h => z15_c n x.1 y h) (inst_ok (fun x e y h => z36_c n x.1.1 x.1.2 y h) (inst_ok (fun x e y h => z10_c n x.1.1 x.1.2.1 x.1.2.2.1 x.1.2.2.2.1.1 x.1.2.2.2.1.2 x.2.1 y h) (inst_ok (fun x e y h => z2_c n x.1.1 x.1.2 x.2.1.1 x.2.1.2.1 x.2.1.2.2.1 x.2.1.2.2.2.1.1 x.2.1.2.2.2.1.2 y h) (inst_ok (fun x e y h => z50_c n x.1.1 x.1.2.1 x.1.2.2.1 x.1.2.2.2.1 x.1.2.2.2.2.1.1 x.1.2.2.2.2.1.2 x.1.2.2.2.2.2.1.1 x.1.2.2.2.2.2.1.2 y h) (bookH_ok (SpecOk.none _)))))))
noncomputable def z13_Φ (n : Nat) : Orc := with_ Try.prog (z13_σ n) [] n 0 [4000058,  5000015,  5000032,  5000042, 1000045, 1000059]
noncomputable def z13_v (n : Nat) (b0 : Bool) (r1 : Rows) (b2 : Bool) (r3 : Rows) (b4 : Bool) : Option ((Bool × Rows) × ((Bool × Rows) × Bool × Unit) × Unit) :=
 DM.denFn tm (z13_Φ n) z13_lv n Try.f14 true [AV.pl 1000 0, AV.sl b0 [Kd.s, Kd.s, Kd.s, Kd.sl [Kd.b, Kd.i IntKind.i64, Kd.s]] r1 Right.no] [[AV.sl b2 [Kd.i IntKind.i64, Kd.s, Kd.s, Kd.s, Kd.sl [Kd.b, Kd.i IntKind.i64, Kd.s], Kd.sl [Kd.s, Kd.s, Kd.s, Kd.sl [Kd.b, Kd.i IntKind.i64, Kd.s]]] r3 Right.no, AV.dv (DV.val (Value.bool b4))]] (OSh.chk (OSh.plain (.slt [Kd.s, Kd.s, Kd.s, Kd.sl [Kd.b, Kd.i IntKind.i64, Kd.s]] 0) [[.sl [Kd.i IntKind.i64, Kd.s, Kd.s, Kd.s, Kd.sl [Kd.b, Kd.i IntKind.i64, Kd.s], Kd.sl [Kd.s, Kd.s, Kd.s, Kd.sl [Kd.b, Kd.i IntKind.i64, Kd.s]]], .b]]))
noncomputable def z13_l6 (n : Nat) (b0 : Bool) (r1 : Rows) (b2 : Bool) (r3 : Rows) (b4 : Bool) (i0 : Nat) (b7 : Bool) (r8 : List (List DV)) (b15 : Bool) : Option ((Bool × Rows) × ((Bool × Rows) × Bool × Unit) × Unit) :=
 DM.loopFn tm (z13_Φ n) z13_lv n Try.f14 true [[AV.sl b2 [Kd.i IntKind.i64, Kd.s, Kd.s, Kd.s, Kd.sl [Kd.b, Kd.i IntKind.i64, Kd.s], Kd.sl [Kd.s, Kd.s, Kd.s, Kd.sl [Kd.b, Kd.i IntKind.i64, Kd.s]]] r3 Right.no, AV.dv (DV.val (Value.bool b4))]] (OSh.chk (OSh.plain (.slt [Kd.s, Kd.s, Kd.s, Kd.sl [Kd.b, Kd.i IntKind.i64, Kd.s]] 0) [[.sl [Kd.i IntKind.i64, Kd.s, Kd.s, Kd.s, Kd.sl [Kd.b, Kd.i IntKind.i64, Kd.s], Kd.sl [Kd.s, Kd.s, Kd.s, Kd.sl [Kd.b, Kd.i IntKind.i64, Kd.s]]], .b]])) 6 [] i0 (St.mk [AV.pl 1000 0, AV.junk, AV.junk, AV.junk, AV.junk, AV.pl 5 0, AV.fn 38 [AV.pl 5 0], AV.dv (DV.val (Value.bool b15)), AV.junk, AV.junk, AV.junk, AV.junk, AV.junk, AV.junk, AV.junk, AV.junk, AV.junk, AV.junk, AV.junk, AV.junk, AV.junk, AV.junk, AV.junk, AV.junk, AV.junk, AV.junk, AV.junk, AV.junk, AV.junk, AV.junk, AV.junk, AV.junk, AV.junk, AV.junk, AV.junk, AV.junk, AV.junk, AV.junk, AV.junk, AV.junk, AV.junk, AV.junk, AV.junk, AV.junk, AV.junk, AV.junk, AV.junk, AV.junk, AV.junk, AV.junk, AV.junk, AV.junk, AV.junk, AV.junk, AV.junk, AV.junk, AV.junk, AV.junk, AV.junk, AV.junk, AV.junk] [(1000, [AV.sl b2 [Kd.i IntKind.i64, Kd.s, Kd.s, Kd.s, Kd.sl [Kd.b, Kd.i IntKind.i64, Kd.s], Kd.sl [Kd.s, Kd.s, Kd.s, Kd.sl [Kd.b, Kd.i IntKind.i64, Kd.s]]] r3 Right.old, AV.dv (DV.val (Value.bool b4))]), (5, [AV.sl b7 [Kd.s, Kd.s, Kd.s, Kd.sl [Kd.b, Kd.i IntKind.i64, Kd.s]] r8 (Right.tok 20320)])])
noncomputable def z13_l9 (n : Nat) (b0 : Bool) (r1 : Rows) (b2 : Bool) (r3 : Rows) (b4 : Bool) (i0 i1 : Nat) (b9 : Bool) (r10 : List (List DV)) (j12 : Int) (b21 : Bool) : Option ((Bool × Rows) × ((Bool × Rows) × Bool × Unit) × Unit) :=
 DM.loopFn tm (z13_Φ n) z13_lv n Try.f14 true [[AV.sl b2 [Kd.i IntKind.i64, Kd.s, Kd.s, Kd.s, Kd.sl [Kd.b, Kd.i IntKind.i64, Kd.s], Kd.sl [Kd.s, Kd.s, Kd.s, Kd.sl [Kd.b, Kd.i IntKind.i64, Kd.s]]] r3 Right.no, AV.dv (DV.val (Value.bool b4))]] (OSh.chk (OSh.plain (.slt [Kd.s, Kd.s, Kd.s, Kd.sl [Kd.b, Kd.i IntKind.i64, Kd.s]] 0) [[.sl [Kd.i IntKind.i64, Kd.s, Kd.s, Kd.s, Kd.sl [Kd.b, Kd.i IntKind.i64, Kd.s], Kd.sl [Kd.s, Kd.s, Kd.s, Kd.sl [Kd.b, Kd.i IntKind.i64, Kd.s]]], .b]])) 9 [i0] i1 (St.mk [AV.pl 1000 0, AV.junk, AV.junk, AV.junk, AV.junk, AV.pl 5 0, AV.fn 38 [AV.pl 5 0], AV.dv (DV.val (Value.bool b21)), AV.junk, AV.junk, AV.junk, AV.junk, AV.junk, AV.junk, AV.junk, AV.junk, AV.junk, AV.junk, AV.junk, AV.junk, AV.junk, AV.junk, AV.junk, AV.sl b2 [Kd.i IntKind.i64, Kd.s, Kd.s, Kd.s, Kd.sl [Kd.b, Kd.i IntKind.i64, Kd.s], Kd.sl [Kd.s, Kd.s, Kd.s, Kd.sl [Kd.b, Kd.i IntKind.i64, Kd.s]]] r3 Right.old, AV.dv (DV.val (Value.int IntKind.i64 (↑(List.length r3) : Int))), AV.dv (DV.val (Value.int IntKind.i64 j12)), AV.junk, AV.junk, AV.junk, AV.junk, AV.junk, AV.junk, AV.junk, AV.junk, AV.junk, AV.junk, AV.junk, AV.junk, AV.junk, AV.junk, AV.junk, AV.junk, AV.junk, AV.junk, AV.junk, AV.junk, AV.junk, AV.junk, AV.junk, AV.junk, AV.junk, AV.junk, AV.junk, AV.junk, AV.junk, AV.junk, AV.junk, AV.junk, AV.junk, AV.junk, AV.junk] [(1000, [AV.sl b2 [Kd.i IntKind.i64, Kd.s, Kd.s, Kd.s, Kd.sl [Kd.b, Kd.i IntKind.i64, Kd.s], Kd.sl [Kd.s, Kd.s, Kd.s, Kd.sl [Kd.b, Kd.i IntKind.i64, Kd.s]]] r3 Right.old, AV.dv (DV.val (Value.bool b4))]), (5, [AV.sl b9 [Kd.s, Kd.s, Kd.s, Kd.sl [Kd.b, Kd.i IntKind.i64, Kd.s]] r10 (Right.tok 20320)])])
noncomputable def z13_l13 (n : Nat) (b0 : Bool) (r1 : Rows) (b2 : Bool) (r3 : Rows) (b4 : Bool) (i0 i1 i2 : Nat) (b13 : Bool) (r14 : List (List DV)) (j20 : Int) (b27 : Bool) (j28 : Int) (b29 : Bool) (r30 : List (List DV)) (j31 : Int) (j32 : Int) (s33 : ByteArray) (s34 : ByteArray) (s35 : ByteArray) (b36 : Bool) (r37 : List (List DV)) (b38 : Bool) (r39 : List (List DV)) : Option ((Bool × Rows) × ((Bool × Rows) × Bool × Unit) × Unit) :=
 DM.loopFn tm (z13_Φ n) z13_lv n Try.f14 true [[AV.sl b2 [Kd.i IntKind.i64, Kd.s, Kd.s, Kd.s, Kd.sl [Kd.b, Kd.i IntKind.i64, Kd.s], Kd.sl [Kd.s, Kd.s, Kd.s, Kd.sl [Kd.b, Kd.i IntKind.i64, Kd.s]]] r3 Right.no, AV.dv (DV.val (Value.bool b4))]] (OSh.chk (OSh.plain (.slt [Kd.s, Kd.s, Kd.s, Kd.sl [Kd.b, Kd.i IntKind.i64, Kd.s]] 0) [[.sl [Kd.i IntKind.i64, Kd.s, Kd.s, Kd.s, Kd.sl [Kd.b, Kd.i IntKind.i64, Kd.s], Kd.sl [Kd.s, Kd.s, Kd.s, Kd.sl [Kd.b, Kd.i IntKind.i64, Kd.s]]], .b]])) 13 [i0, i1] i2 (St.mk [AV.pl 1000 0, AV.junk, AV.junk, AV.junk, AV.junk, AV.pl 5 0, AV.fn 38 [AV.pl 5 0], AV.dv (DV.val (Value.bool b27)), AV.junk, AV.pl 9 0, AV.junk, AV.junk, AV.junk, AV.junk, AV.junk, AV.junk, AV.junk, AV.junk, AV.junk, AV.junk, AV.junk, AV.junk, AV.junk, AV.sl b2 [Kd.i IntKind.i64, Kd.s, Kd.s, Kd.s, Kd.sl [Kd.b, Kd.i IntKind.i64, Kd.s], Kd.sl [Kd.s, Kd.s, Kd.s, Kd.sl [Kd.b, Kd.i IntKind.i64, Kd.s]]] r3 Right.old, AV.dv (DV.val (Value.int IntKind.i64 (↑(List.length r3) : Int))), AV.dv (DV.val (Value.int IntKind.i64 j28)), AV.junk, AV.junk, AV.junk, AV.junk, AV.junk, AV.junk, AV.junk, AV.junk, AV.sl b29 [Kd.s, Kd.s, Kd.s, Kd.sl [Kd.b, Kd.i IntKind.i64, Kd.s]] r30 Right.old, AV.dv (DV.val (Value.int IntKind.i64 j31)), AV.dv (DV.val (Value.int IntKind.i64 j20)), AV.junk, AV.junk, AV.junk, AV.junk, AV.junk, AV.junk, AV.junk, AV.junk, AV.junk, AV.junk, AV.junk, AV.junk, AV.junk, AV.junk, AV.junk, AV.junk, AV.junk, AV.junk, AV.junk, AV.junk, AV.junk, AV.junk, AV.junk, AV.junk] [(1000, [AV.sl b2 [Kd.i IntKind.i64, Kd.s, Kd.s, Kd.s, Kd.sl [Kd.b, Kd.i IntKind.i64, Kd.s], Kd.sl [Kd.s, Kd.s, Kd.s, Kd.sl [Kd.b, Kd.i IntKind.i64, Kd.s]]] r3 Right.old, AV.dv (DV.val (Value.bool b4))]), (5, [AV.sl b13 [Kd.s, Kd.s, Kd.s, Kd.sl [Kd.b, Kd.i IntKind.i64, Kd.s]] r14 (Right.tok 20320)]), (9, [AV.dv (DV.val (Value.int IntKind.i64 j32)), AV.dv (DV.val (Value.string s33)), AV.dv (DV.val (Value.string s34)), AV.dv (DV.val (Value.string s35)), AV.sl b36 [Kd.b, Kd.i IntKind.i64, Kd.s] r37 Right.old, AV.sl b38 [Kd.s, Kd.s, Kd.s, Kd.sl [Kd.b, Kd.i IntKind.i64, Kd.s]] r39 Right.old])])
theorem z13_s6 (n : Nat) (b0 : Bool) (r1 : Rows) (b2 : Bool) (r3 : Rows) (b4 : Bool) (i0 : Nat) (b7 : Bool) (r8 : List (List DV)) (b15 : Bool) : z13_l6 n b0 r1 b2 r3 b4 (i0 + 1) b7 r8 b15 =
 bif b15 then
  z13_l9 n b0 r1 b2 r3 b4 i0 n b7 r8 0 false
 else some ((b7, r8), (((b2, r3), (b4, ())), ())) := by kernel_rfl
theorem z13_s9 (n : Nat) (b0 : Bool) (r1 : Rows) (b2 : Bool) (r3 : Rows) (b4 : Bool) (i0 i1 : Nat) (b9 : Bool) (r10 : List (List DV)) (j12 : Int) (b21 : Bool) : z13_l9 n b0 r1 b2 r3 b4 i0 (i1 + 1) b9 r10 j12 b21 =
 bif decide (j12 < (↑(List.length r3) : Int)) then
  if 0 ≤ j12 then
   if j12 < (↑(List.length r3) : Int) then
    obind (z10_v n (Row.S (List.getD r3 (Int.toNat j12) []) 1) (Row.S (List.getD r3 (Int.toNat j12) []) 2) (Row.S (List.getD r3 (Int.toNat j12) []) 3) (Row.N (List.getD r3 (Int.toNat j12) []) 4) (Row.R (List.getD r3 (Int.toNat j12) []) 4) ([DV.sl b9 [Kd.s, Kd.s, Kd.s, Kd.sl [Kd.b, Kd.i IntKind.i64, Kd.s]] r10])) fun y26 =>
    bif y26.fst then
     z13_l9 n b0 r1 b2 r3 b4 i0 i1 b9 r10 (IntKind.wrap IntKind.i64 (j12 + 1)) b21
    else z13_l13 n b0 r1 b2 r3 b4 i0 i1 n b9 r10 0 b21 j12 (Row.N (List.getD r3 (Int.toNat j12) []) 5) (Row.R (List.getD r3 (Int.toNat j12) []) 5) ((↑(List.length (Row.R (List.getD r3 (Int.toNat j12) []) 5)) : Int)) (Row.I (List.getD r3 (Int.toNat j12) []) 0) (Row.S (List.getD r3 (Int.toNat j12) []) 1) (Row.S (List.getD r3 (Int.toNat j12) []) 2) (Row.S (List.getD r3 (Int.toNat j12) []) 3) (Row.N (List.getD r3 (Int.toNat j12) []) 4) (Row.R (List.getD r3 (Int.toNat j12) []) 4) (Row.N (List.getD r3 (Int.toNat j12) []) 5) (Row.R (List.getD r3 (Int.toNat j12) []) 5)
   else none
  else none
 else z13_l6 n b0 r1 b2 r3 b4 i0 b9 r10 b21 := by kernel_rfl
theorem z13_s13 (n : Nat) (b0 : Bool) (r1 : Rows) (b2 : Bool) (r3 : Rows) (b4 : Bool) (i0 i1 i2 : Nat) (b13 : Bool) (r14 : List (List DV)) (j20 : Int) (b27 : Bool) (j28 : Int) (b29 : Bool) (r30 : List (List DV)) (j31 : Int) (j32 : Int) (s33 : ByteArray) (s34 : ByteArray) (s35 : ByteArray) (b36 : Bool) (r37 : List (List DV)) (b38 : Bool) (r39 : List (List DV)) : z13_l13 n b0 r1 b2 r3 b4 i0 i1 (i2 + 1) b13 r14 j20 b27 j28 b29 r30 j31 j32 s33 s34 s35 b36 r37 b38 r39 =
 bif decide (j20 < j31) then
  if 0 ≤ j20 then
   if j20 < (↑(List.length r30) : Int) then
    obind (z10_v n (Row.S (List.getD r30 (Int.toNat j20) []) 0) (Row.S (List.getD r30 (Int.toNat j20) []) 1) (Row.S (List.getD r30 (Int.toNat j20) []) 2) (Row.N (List.getD r30 (Int.toNat j20) []) 3) (Row.R (List.getD r30 (Int.toNat j20) []) 3) ([DV.sl b13 [Kd.s, Kd.s, Kd.s, Kd.sl [Kd.b, Kd.i IntKind.i64, Kd.s]] r14])) fun y40 =>
    bif !y40.fst then
     z13_l9 n b0 r1 b2 r3 b4 i0 i1 b13 r14 (IntKind.wrap IntKind.i64 (j28 + 1)) b27
    else z13_l13 n b0 r1 b2 r3 b4 i0 i1 i2 b13 r14 (IntKind.wrap IntKind.i64 (j20 + 1)) b27 j28 b29 r30 j31 j32 s33 s34 s35 b36 r37 b38 r39
   else none
  else none
 else obind (z2_v n b13 r14 s33 s34 s35 b36 r37) fun y41 =>
 bif b13 || List.isEmpty r14 then
  obind (z50_v n j32 s33 s34 s35 b36 r37 b38 r39) fun y42 =>
  bif b13 then
   if y41.fst.fst = 0 then
    z13_l9 n b0 r1 b2 r3 b4 i0 i1 false ([[DV.val (Value.string y42.fst.snd.fst), DV.val (Value.string y42.fst.snd.snd.fst), DV.val (Value.string y42.fst.snd.snd.snd.fst), DV.sl y42.fst.snd.snd.snd.snd.fst.fst [Kd.b, Kd.i IntKind.i64, Kd.s] y42.fst.snd.snd.snd.snd.fst.snd]]) (IntKind.wrap IntKind.i64 (j28 + 1)) true
   else none
  else none
 else obind (z50_v n j32 s33 s34 s35 b36 r37 b38 r39) fun y43 =>
 if 0 ≤ y41.fst.fst then
  if y41.fst.fst ≤ (↑(List.length r14) : Int) then
   if List.length r14 = List.length r14 then
    if List.length r14 + List.length [[DV.val (Value.string y43.fst.snd.fst), DV.val (Value.string y43.fst.snd.snd.fst), DV.val (Value.string y43.fst.snd.snd.snd.fst), DV.sl y43.fst.snd.snd.snd.snd.fst.fst [Kd.b, Kd.i IntKind.i64, Kd.s] y43.fst.snd.snd.snd.snd.fst.snd]] ≤ 1000000 then
     if 0 + (List.length r14 + List.length [[DV.val (Value.string y43.fst.snd.fst), DV.val (Value.string y43.fst.snd.snd.fst), DV.val (Value.string y43.fst.snd.snd.snd.fst), DV.sl y43.fst.snd.snd.snd.snd.fst.fst [Kd.b, Kd.i IntKind.i64, Kd.s] y43.fst.snd.snd.snd.snd.fst.snd]]) ≤ List.length (List.take (Int.toNat y41.fst.fst) r14 ++ [[DV.val (Value.string y43.fst.snd.fst), DV.val (Value.string y43.fst.snd.snd.fst), DV.val (Value.string y43.fst.snd.snd.snd.fst), DV.sl y43.fst.snd.snd.snd.snd.fst.fst [Kd.b, Kd.i IntKind.i64, Kd.s] y43.fst.snd.snd.snd.snd.fst.snd]] ++ List.drop (Int.toNat y41.fst.fst) r14) then
      bif Kd.sameL [Kd.s, Kd.s, Kd.s, Kd.sl [Kd.b, Kd.i IntKind.i64, Kd.s]] [Kd.s, Kd.s, Kd.s, Kd.sl [Kd.b, Kd.i IntKind.i64, Kd.s]] && Nat.ble (0 + (List.length r14 + List.length [[DV.val (Value.string y43.fst.snd.fst), DV.val (Value.string y43.fst.snd.snd.fst), DV.val (Value.string y43.fst.snd.snd.snd.fst), DV.sl y43.fst.snd.snd.snd.snd.fst.fst [Kd.b, Kd.i IntKind.i64, Kd.s] y43.fst.snd.snd.snd.snd.fst.snd]])) (0 + (List.length r14 + List.length [[DV.val (Value.string y43.fst.snd.fst), DV.val (Value.string y43.fst.snd.snd.fst), DV.val (Value.string y43.fst.snd.snd.snd.fst), DV.sl y43.fst.snd.snd.snd.snd.fst.fst [Kd.b, Kd.i IntKind.i64, Kd.s] y43.fst.snd.snd.snd.snd.fst.snd]])) then
       z13_l9 n b0 r1 b2 r3 b4 i0 i1 false (List.take (List.length r14 + List.length [[DV.val (Value.string y43.fst.snd.fst), DV.val (Value.string y43.fst.snd.snd.fst), DV.val (Value.string y43.fst.snd.snd.snd.fst), DV.sl y43.fst.snd.snd.snd.snd.fst.fst [Kd.b, Kd.i IntKind.i64, Kd.s] y43.fst.snd.snd.snd.snd.fst.snd]]) (List.drop 0 (List.take (Int.toNat y41.fst.fst) r14 ++ [[DV.val (Value.string y43.fst.snd.fst), DV.val (Value.string y43.fst.snd.snd.fst), DV.val (Value.string y43.fst.snd.snd.snd.fst), DV.sl y43.fst.snd.snd.snd.snd.fst.fst [Kd.b, Kd.i IntKind.i64, Kd.s] y43.fst.snd.snd.snd.snd.fst.snd]] ++ List.drop (Int.toNat y41.fst.fst) r14))) (IntKind.wrap IntKind.i64 (j28 + 1)) true
      else none
     else none
    else none
   else none
  else none
 else none := by kernel_rfl
theorem z13_e (n : Nat) (b0 : Bool) (r1 : Rows) (b2 : Bool) (r3 : Rows) (b4 : Bool) : z13_v n b0 r1 b2 r3 b4 =
 obind (z15_v n ([DV.sl b2 [Kd.i IntKind.i64, Kd.s, Kd.s, Kd.s, Kd.sl [Kd.b, Kd.i IntKind.i64, Kd.s], Kd.sl [Kd.s, Kd.s, Kd.s, Kd.sl [Kd.b, Kd.i IntKind.i64, Kd.s]]] r3, DV.val (Value.bool b4)])) fun y5 =>
 bif y5.fst then
  some ((true, []), (((b2, r3), (b4, ())), ()))
 else obind (z36_v n b0 r1) fun y6 =>
 z13_l6 n b0 r1 b2 r3 b4 n y6.fst.fst y6.fst.snd true := by kernel_rfl
theorem z13_c (n : Nat) (b0 : Bool) (r1 : Rows) (b2 : Bool) (r3 : Rows) (b4 : Bool) (y : (Bool × Rows) × ((Bool × Rows) × Bool × Unit) × Unit) (h : z13_v n b0 r1 b2 r3 b4 = some y) : Contract Try.prog 14 [AV.pl 1000 0, AV.sl b0 [Kd.s, Kd.s, Kd.s, Kd.sl [Kd.b, Kd.i IntKind.i64, Kd.s]] r1 Right.no] [[AV.sl b2 [Kd.i IntKind.i64, Kd.s, Kd.s, Kd.s, Kd.sl [Kd.b, Kd.i IntKind.i64, Kd.s], Kd.sl [Kd.s, Kd.s, Kd.s, Kd.sl [Kd.b, Kd.i IntKind.i64, Kd.s]]] r3 Right.no, AV.dv (DV.val (Value.bool b4))]] (OSh.enc (OSh.plain (.slt [Kd.s, Kd.s, Kd.s, Kd.sl [Kd.b, Kd.i IntKind.i64, Kd.s]] 0) [[.sl [Kd.i IntKind.i64, Kd.s, Kd.s, Kd.s, Kd.sl [Kd.b, Kd.i IntKind.i64, Kd.s], Kd.sl [Kd.s, Kd.s, Kd.s, Kd.sl [Kd.b, Kd.i IntKind.i64, Kd.s]]], .b]]) y) :=
 auto_okM tm_std (with_ok mixed (by kernel_rfl) (z13_σok n) n 0 [4000058,  5000015,  5000032,  5000042, 1000045, 1000059]) (with_pick mixed (by kernel_rfl) (z13_σok n) n 0 [4000058,  5000015,  5000032,  5000042, 1000045, 1000059]) mixed Try.func14 (by decide) (o := (OSh.plain (.slt [Kd.s, Kd.s, Kd.s, Kd.sl [Kd.b, Kd.i IntKind.i64, Kd.s]] 0) [[.sl [Kd.i IntKind.i64, Kd.s, Kd.s, Kd.s, Kd.sl [Kd.b, Kd.i IntKind.i64, Kd.s], Kd.sl [Kd.s, Kd.s, Kd.s, Kd.sl [Kd.b, Kd.i IntKind.i64, Kd.s]]], .b]])) h
def z14_lv : Live := []
noncomputable def z14_σ (n : Nat) : Spec := (inst 40 [.agg [.s, .s, .s, .sl [Kd.b, Kd.i IntKind.i64, Kd.s]], .agg [.s, .s, .s, .sl [Kd.b, Kd.i IntKind.i64, Kd.s]]] [] (OSh.plain (.i IntKind.i64) []) (fun x e => z40_v n x.1.1 x.1.2.1 x.1.2.2.1 x.1.2.2.2.1.1 x.1.2.2.2.1.2 x.2.1.1 x.2.1.2.1 x.2.1.2.2.1 x.2.1.2.2.2.1.1 x.2.1.2.2.2.1.2) (bookH Spec.none))
theorem z14_σok (n : Nat) : SpecOk Try.prog (z14_σ n) := (inst_ok (fun x e y h => z40_c n x.1.1 x.1.2.1 x.1.2.2.1 x.1.2.2.2.1.1 x.1.2.2.2.1.2 x.2.1.1 x.2.1.2.1 x.2.1.2.2.1 x.2.1.2.2.2.1.1 x.2.1.2.2.2.1.2 y h) (bookH_ok (SpecOk.none _)))
noncomputable def z14_Φ (n : Nat) : Orc := with_ Try.prog (z14_σ n) [] n 0 [1000045, 1000059]
noncomputable def z14_v (n : Nat) (j0 : Int) (s1 : ByteArray) (s2 : ByteArray) (s3 : ByteArray) (b4 : Bool) (r5 : Rows) (b6 : Bool) (r7 : Rows) (r8 : Row) : Option (Bool × Unit) :=
 DM.denFn tm (z14_Φ n) z14_lv n Try.f47 false [AV.agg [AV.dv (DV.val (Value.int IntKind.i64 j0)), AV.dv (DV.val (Value.string s1)), AV.dv (DV.val (Value.string s2)), AV.dv (DV.val (Value.string s3)), AV.sl b4 [Kd.b, Kd.i IntKind.i64, Kd.s] r5 Right.no, AV.sl b6 [Kd.s, Kd.s, Kd.s, Kd.sl [Kd.b, Kd.i IntKind.i64, Kd.s]] r7 Right.no], AV.pv [Kd.s, Kd.s, Kd.s, Kd.sl [Kd.b, Kd.i IntKind.i64, Kd.s]] r8 0] [] (OSh.chk (OSh.plain (.b) []))
theorem z14_e (n : Nat) (j0 : Int) (s1 : ByteArray) (s2 : ByteArray) (s3 : ByteArray) (b4 : Bool) (r5 : Rows) (b6 : Bool) (r7 : Rows) (r8 : Row) : z14_v n j0 s1 s2 s3 b4 r5 b6 r7 r8 =
 obind (z40_v n s1 s2 s3 b4 r5 (Row.S r8 0) (Row.S r8 1) (Row.S r8 2) (Row.N r8 3) (Row.R r8 3)) fun y9 =>
 some (y9.fst == 0, ()) := by kernel_rfl
theorem z14_c (n : Nat) (j0 : Int) (s1 : ByteArray) (s2 : ByteArray) (s3 : ByteArray) (b4 : Bool) (r5 : Rows) (b6 : Bool) (r7 : Rows) (r8 : Row) (y : Bool × Unit) (h : z14_v n j0 s1 s2 s3 b4 r5 b6 r7 r8 = some y) : Contract Try.prog 47 [AV.agg [AV.dv (DV.val (Value.int IntKind.i64 j0)), AV.dv (DV.val (Value.string s1)), AV.dv (DV.val (Value.string s2)), AV.dv (DV.val (Value.string s3)), AV.sl b4 [Kd.b, Kd.i IntKind.i64, Kd.s] r5 Right.no, AV.sl b6 [Kd.s, Kd.s, Kd.s, Kd.sl [Kd.b, Kd.i IntKind.i64, Kd.s]] r7 Right.no], AV.pv [Kd.s, Kd.s, Kd.s, Kd.sl [Kd.b, Kd.i IntKind.i64, Kd.s]] r8 0] [] (OSh.enc (OSh.plain (.b) []) y) :=
 auto_okM tm_std (with_ok mixed (by kernel_rfl) (z14_σok n) n 0 [1000045, 1000059]) (with_pick mixed (by kernel_rfl) (z14_σok n) n 0 [1000045, 1000059]) mixed Try.func47 (by decide) (o := (OSh.plain (.b) [])) h
def z8_lv : Live := [(5, [1, 5, 13, 14, 15], [1000, 1001, 1002, 1003])]
noncomputable def z8_σ (n : Nat) : Spec := (inst 36 [.pv [Kd.sl [Kd.i IntKind.i64, Kd.s, Kd.s, Kd.s, Kd.sl [Kd.b, Kd.i IntKind.i64, Kd.s], Kd.sl [Kd.s, Kd.s, Kd.s, Kd.sl [Kd.b, Kd.i IntKind.i64, Kd.s]]], Kd.b] 0] [] (OSh.plain (.b) []) (fun x e => z15_v n x.1) (inst 47 [.agg [.i IntKind.i64, .s, .s, .s, .sl [Kd.b, Kd.i IntKind.i64, Kd.s], .sl [Kd.s, Kd.s, Kd.s, Kd.sl [Kd.b, Kd.i IntKind.i64, Kd.s]]], .pv [Kd.s, Kd.s, Kd.s, Kd.sl [Kd.b, Kd.i IntKind.i64, Kd.s]] 0] [] (OSh.plain (.b) []) (fun x e => z14_v n x.1.1 x.1.2.1 x.1.2.2.1 x.1.2.2.2.1 x.1.2.2.2.2.1.1 x.1.2.2.2.2.1.2 x.1.2.2.2.2.2.1.1 x.1.2.2.2.2.2.1.2 x.2.1) (inst 42 [.agg [.i IntKind.i64, .s, .s, .s, .sl [Kd.b, Kd.i IntKind.i64, Kd.s], .sl [Kd.s, Kd.s, Kd.s, Kd.sl [Kd.b, Kd.i IntKind.i64, Kd.s]]]] [] (OSh.plain (.agg [.i IntKind.i64, .s, .s, .s, .sl [Kd.b, Kd.i IntKind.i64, Kd.s], .sl [Kd.s, Kd.s, Kd.s, Kd.sl [Kd.b, Kd.i IntKind.i64, Kd.s]]]) []) (fun x e => z50_v n x.1.1 x.1.2.1 x.1.2.2.1 x.1.2.2.2.1 x.1.2.2.2.2.1.1 x.1.2.2.2.2.1.2 x.1.2.2.2.2.2.1.1 x.1.2.2.2.2.2.1.2) (bookH Spec.none))))
theorem z8_σok (n : Nat) : SpecOk Try.prog (z8_σ n) := (inst_ok (fun x e y h => z15_c n x.1 y h) (inst_ok (fun x e y h => z14_c n x.1.1 x.1.2.1 x.1.2.2.1 x.1.2.2.2.1 x.1.2.2.2.2.1.1 x.1.2.2.2.2.1.2 x.1.2.2.2.2.2.1.1 x.1.2.2.2.2.2.1.2 x.2.1 y h) (inst_ok (fun x e y h => z50_c n x.1.1 x.1.2.1 x.1.2.2.1 x.1.2.2.2.1 x.1.2.2.2.2.1.1 x.1.2.2.2.2.1.2 x.1.2.2.2.2.2.1.1 x.1.2.2.2.2.2.1.2 y h) (bookH_ok (SpecOk.none _)))))
noncomputable def z8_Φ (n : Nat) : Orc := with_ Try.prog (z8_σ n) [] n 0 [5000009,  5000021, 1000045, 1000059]
noncomputable def z8_v (n : Nat) (b0 : Bool) (r1 : Rows) (b2 : Bool) (s3 : ByteArray) (s4 : ByteArray) (s5 : ByteArray) (b6 : Bool) (r7 : Rows) : Option ((Bool × Rows) × ((Bool × Rows) × Bool × Unit) × (ByteArray × ByteArray × ByteArray × (Bool × Rows) × Unit) × Unit) :=
 DM.denFn tm (z8_Φ n) z8_lv n Try.f46 true [AV.pl 1000 0, AV.fn 47 [AV.pl 1001 0]] [[AV.sl b0 [Kd.i IntKind.i64, Kd.s, Kd.s, Kd.s, Kd.sl [Kd.b, Kd.i IntKind.i64, Kd.s], Kd.sl [Kd.s, Kd.s, Kd.s, Kd.sl [Kd.b, Kd.i IntKind.i64, Kd.s]]] r1 Right.no, AV.dv (DV.val (Value.bool b2))], [AV.dv (DV.val (Value.string s3)), AV.dv (DV.val (Value.string s4)), AV.dv (DV.val (Value.string s5)), AV.sl b6 [Kd.b, Kd.i IntKind.i64, Kd.s] r7 Right.no]] (OSh.chk (OSh.plain (.slt [Kd.i IntKind.i64, Kd.s, Kd.s, Kd.s, Kd.sl [Kd.b, Kd.i IntKind.i64, Kd.s], Kd.sl [Kd.s, Kd.s, Kd.s, Kd.sl [Kd.b, Kd.i IntKind.i64, Kd.s]]] 0) [[.sl [Kd.i IntKind.i64, Kd.s, Kd.s, Kd.s, Kd.sl [Kd.b, Kd.i IntKind.i64, Kd.s], Kd.sl [Kd.s, Kd.s, Kd.s, Kd.sl [Kd.b, Kd.i IntKind.i64, Kd.s]]], .b], [.s, .s, .s, .sl [Kd.b, Kd.i IntKind.i64, Kd.s]]]))
noncomputable def z8_l5 (n : Nat) (b0 : Bool) (r1 : Rows) (b2 : Bool) (s3 : ByteArray) (s4 : ByteArray) (s5 : ByteArray) (b6 : Bool) (r7 : Rows) (i0 : Nat) (b11 : Bool) (r12 : List (List DV)) (j13 : Int) : Option ((Bool × Rows) × ((Bool × Rows) × Bool × Unit) × (ByteArray × ByteArray × ByteArray × (Bool × Rows) × Unit) × Unit) :=
 DM.loopFn tm (z8_Φ n) z8_lv n Try.f46 true [[AV.sl b0 [Kd.i IntKind.i64, Kd.s, Kd.s, Kd.s, Kd.sl [Kd.b, Kd.i IntKind.i64, Kd.s], Kd.sl [Kd.s, Kd.s, Kd.s, Kd.sl [Kd.b, Kd.i IntKind.i64, Kd.s]]] r1 Right.no, AV.dv (DV.val (Value.bool b2))], [AV.dv (DV.val (Value.string s3)), AV.dv (DV.val (Value.string s4)), AV.dv (DV.val (Value.string s5)), AV.sl b6 [Kd.b, Kd.i IntKind.i64, Kd.s] r7 Right.no]] (OSh.chk (OSh.plain (.slt [Kd.i IntKind.i64, Kd.s, Kd.s, Kd.s, Kd.sl [Kd.b, Kd.i IntKind.i64, Kd.s], Kd.sl [Kd.s, Kd.s, Kd.s, Kd.sl [Kd.b, Kd.i IntKind.i64, Kd.s]]] 0) [[.sl [Kd.i IntKind.i64, Kd.s, Kd.s, Kd.s, Kd.sl [Kd.b, Kd.i IntKind.i64, Kd.s], Kd.sl [Kd.s, Kd.s, Kd.s, Kd.sl [Kd.b, Kd.i IntKind.i64, Kd.s]]], .b], [.s, .s, .s, .sl [Kd.b, Kd.i IntKind.i64, Kd.s]]])) 5 [] i0 (St.mk [AV.junk, AV.fn 47 [AV.pl 1001 0], AV.junk, AV.junk, AV.junk, AV.sl b11 [Kd.i IntKind.i64, Kd.s, Kd.s, Kd.s, Kd.sl [Kd.b, Kd.i IntKind.i64, Kd.s], Kd.sl [Kd.s, Kd.s, Kd.s, Kd.sl [Kd.b, Kd.i IntKind.i64, Kd.s]]] r12 (Right.tok 5), AV.junk, AV.junk, AV.junk, AV.junk, AV.junk, AV.junk, AV.junk, AV.sl b0 [Kd.i IntKind.i64, Kd.s, Kd.s, Kd.s, Kd.sl [Kd.b, Kd.i IntKind.i64, Kd.s], Kd.sl [Kd.s, Kd.s, Kd.s, Kd.sl [Kd.b, Kd.i IntKind.i64, Kd.s]]] r1 Right.no, AV.dv (DV.val (Value.int IntKind.i64 (↑(List.length r1) : Int))), AV.dv (DV.val (Value.int IntKind.i64 j13)), AV.junk, AV.junk, AV.junk, AV.junk, AV.junk, AV.junk, AV.junk, AV.junk, AV.junk, AV.junk, AV.junk, AV.junk, AV.junk] [(1000, [AV.sl b0 [Kd.i IntKind.i64, Kd.s, Kd.s, Kd.s, Kd.sl [Kd.b, Kd.i IntKind.i64, Kd.s], Kd.sl [Kd.s, Kd.s, Kd.s, Kd.sl [Kd.b, Kd.i IntKind.i64, Kd.s]]] r1 Right.no, AV.dv (DV.val (Value.bool b2))]), (1001, [AV.dv (DV.val (Value.string s3)), AV.dv (DV.val (Value.string s4)), AV.dv (DV.val (Value.string s5)), AV.sl b6 [Kd.b, Kd.i IntKind.i64, Kd.s] r7 Right.no])])
theorem z8_s5 (n : Nat) (b0 : Bool) (r1 : Rows) (b2 : Bool) (s3 : ByteArray) (s4 : ByteArray) (s5 : ByteArray) (b6 : Bool) (r7 : Rows) (i0 : Nat) (b11 : Bool) (r12 : List (List DV)) (j13 : Int) : z8_l5 n b0 r1 b2 s3 s4 s5 b6 r7 (i0 + 1) b11 r12 j13 =
 bif decide (j13 < (↑(List.length r1) : Int)) then
  if 0 ≤ j13 then
   if j13 < (↑(List.length r1) : Int) then
    obind (z14_v n (Row.I (List.getD r1 (Int.toNat j13) []) 0) (Row.S (List.getD r1 (Int.toNat j13) []) 1) (Row.S (List.getD r1 (Int.toNat j13) []) 2) (Row.S (List.getD r1 (Int.toNat j13) []) 3) (Row.N (List.getD r1 (Int.toNat j13) []) 4) (Row.R (List.getD r1 (Int.toNat j13) []) 4) (Row.N (List.getD r1 (Int.toNat j13) []) 5) (Row.R (List.getD r1 (Int.toNat j13) []) 5) ([DV.val (Value.string s3), DV.val (Value.string s4), DV.val (Value.string s5), DV.sl b6 [Kd.b, Kd.i IntKind.i64, Kd.s] r7])) fun y14 =>
    bif y14.fst then
     obind (z50_v n (Row.I (List.getD r1 (Int.toNat j13) []) 0) (Row.S (List.getD r1 (Int.toNat j13) []) 1) (Row.S (List.getD r1 (Int.toNat j13) []) 2) (Row.S (List.getD r1 (Int.toNat j13) []) 3) (Row.N (List.getD r1 (Int.toNat j13) []) 4) (Row.R (List.getD r1 (Int.toNat j13) []) 4) (Row.N (List.getD r1 (Int.toNat j13) []) 5) (Row.R (List.getD r1 (Int.toNat j13) []) 5)) fun y15 =>
     if (List.length r12 + List.length [[DV.val (Value.int IntKind.i64 y15.fst.fst), DV.val (Value.string y15.fst.snd.fst), DV.val (Value.string y15.fst.snd.snd.fst), DV.val (Value.string y15.fst.snd.snd.snd.fst), DV.sl y15.fst.snd.snd.snd.snd.fst.fst [Kd.b, Kd.i IntKind.i64, Kd.s] y15.fst.snd.snd.snd.snd.fst.snd, DV.sl y15.fst.snd.snd.snd.snd.snd.fst.fst [Kd.s, Kd.s, Kd.s, Kd.sl [Kd.b, Kd.i IntKind.i64, Kd.s]] y15.fst.snd.snd.snd.snd.snd.fst.snd]]) * 104 ≤ 140737488355328 then
      z8_l5 n b0 r1 b2 s3 s4 s5 b6 r7 i0 (b11 && List.isEmpty [[DV.val (Value.int IntKind.i64 y15.fst.fst), DV.val (Value.string y15.fst.snd.fst), DV.val (Value.string y15.fst.snd.snd.fst), DV.val (Value.string y15.fst.snd.snd.snd.fst), DV.sl y15.fst.snd.snd.snd.snd.fst.fst [Kd.b, Kd.i IntKind.i64, Kd.s] y15.fst.snd.snd.snd.snd.fst.snd, DV.sl y15.fst.snd.snd.snd.snd.snd.fst.fst [Kd.s, Kd.s, Kd.s, Kd.sl [Kd.b, Kd.i IntKind.i64, Kd.s]] y15.fst.snd.snd.snd.snd.snd.fst.snd]]) (appX r12 [[DV.val (Value.int IntKind.i64 y15.fst.fst), DV.val (Value.string y15.fst.snd.fst), DV.val (Value.string y15.fst.snd.snd.fst), DV.val (Value.string y15.fst.snd.snd.snd.fst), DV.sl y15.fst.snd.snd.snd.snd.fst.fst [Kd.b, Kd.i IntKind.i64, Kd.s] y15.fst.snd.snd.snd.snd.fst.snd, DV.sl y15.fst.snd.snd.snd.snd.snd.fst.fst [Kd.s, Kd.s, Kd.s, Kd.sl [Kd.b, Kd.i IntKind.i64, Kd.s]] y15.fst.snd.snd.snd.snd.snd.fst.snd]]) (IntKind.wrap IntKind.i64 (j13 + 1))
     else none
    else z8_l5 n b0 r1 b2 s3 s4 s5 b6 r7 i0 b11 r12 (IntKind.wrap IntKind.i64 (j13 + 1))
   else none
  else none
 else some ((b11, r12), (((b0, r1), (b2, ())), ((s3, (s4, (s5, ((b6, r7), ())))), ()))) := by kernel_rfl
theorem z8_e (n : Nat) (b0 : Bool) (r1 : Rows) (b2 : Bool) (s3 : ByteArray) (s4 : ByteArray) (s5 : ByteArray) (b6 : Bool) (r7 : Rows) : z8_v n b0 r1 b2 s3 s4 s5 b6 r7 =
 obind (z15_v n ([DV.sl b0 [Kd.i IntKind.i64, Kd.s, Kd.s, Kd.s, Kd.sl [Kd.b, Kd.i IntKind.i64, Kd.s], Kd.sl [Kd.s, Kd.s, Kd.s, Kd.sl [Kd.b, Kd.i IntKind.i64, Kd.s]]] r1, DV.val (Value.bool b2)])) fun y8 =>
 bif y8.fst then
  some ((true, []), (((b0, r1), (b2, ())), ((s3, (s4, (s5, ((b6, r7), ())))), ())))
 else z8_l5 n b0 r1 b2 s3 s4 s5 b6 r7 n true [] 0 := by kernel_rfl
theorem z8_c (n : Nat) (b0 : Bool) (r1 : Rows) (b2 : Bool) (s3 : ByteArray) (s4 : ByteArray) (s5 : ByteArray) (b6 : Bool) (r7 : Rows) (y : (Bool × Rows) × ((Bool × Rows) × Bool × Unit) × (ByteArray × ByteArray × ByteArray × (Bool × Rows) × Unit) × Unit) (h : z8_v n b0 r1 b2 s3 s4 s5 b6 r7 = some y) : Contract Try.prog 46 [AV.pl 1000 0, AV.fn 47 [AV.pl 1001 0]] [[AV.sl b0 [Kd.i IntKind.i64, Kd.s, Kd.s, Kd.s, Kd.sl [Kd.b, Kd.i IntKind.i64, Kd.s], Kd.sl [Kd.s, Kd.s, Kd.s, Kd.sl [Kd.b, Kd.i IntKind.i64, Kd.s]]] r1 Right.no, AV.dv (DV.val (Value.bool b2))], [AV.dv (DV.val (Value.string s3)), AV.dv (DV.val (Value.string s4)), AV.dv (DV.val (Value.string s5)), AV.sl b6 [Kd.b, Kd.i IntKind.i64, Kd.s] r7 Right.no]] (OSh.enc (OSh.plain (.slt [Kd.i IntKind.i64, Kd.s, Kd.s, Kd.s, Kd.sl [Kd.b, Kd.i IntKind.i64, Kd.s], Kd.sl [Kd.s, Kd.s, Kd.s, Kd.sl [Kd.b, Kd.i IntKind.i64, Kd.s]]] 0) [[.sl [Kd.i IntKind.i64, Kd.s, Kd.s, Kd.s, Kd.sl [Kd.b, Kd.i IntKind.i64, Kd.s], Kd.sl [Kd.s, Kd.s, Kd.s, Kd.sl [Kd.b, Kd.i IntKind.i64, Kd.s]]], .b], [.s, .s, .s, .sl [Kd.b, Kd.i IntKind.i64, Kd.s]]]) y) :=
 auto_okM tm_std (with_ok mixed (by kernel_rfl) (z8_σok n) n 0 [5000009,  5000021, 1000045, 1000059]) (with_pick mixed (by kernel_rfl) (z8_σok n) n 0 [5000009,  5000021, 1000045, 1000059]) mixed Try.func46 (by decide) (o := (OSh.plain (.slt [Kd.i IntKind.i64, Kd.s, Kd.s, Kd.s, Kd.sl [Kd.b, Kd.i IntKind.i64, Kd.s], Kd.sl [Kd.s, Kd.s, Kd.s, Kd.sl [Kd.b, Kd.i IntKind.i64, Kd.s]]] 0) [[.sl [Kd.i IntKind.i64, Kd.s, Kd.s, Kd.s, Kd.sl [Kd.b, Kd.i IntKind.i64, Kd.s], Kd.sl [Kd.s, Kd.s, Kd.s, Kd.sl [Kd.b, Kd.i IntKind.i64, Kd.s]]], .b], [.s, .s, .s, .sl [Kd.b, Kd.i IntKind.i64, Kd.s]]])) h
def z30_lv : Live := []
noncomputable def z30_σ (n : Nat) : Spec := (inst 46 [.pl 1000 0, .fn 47 [.pl 1001 0]] [[.sl [Kd.i IntKind.i64, Kd.s, Kd.s, Kd.s, Kd.sl [Kd.b, Kd.i IntKind.i64, Kd.s], Kd.sl [Kd.s, Kd.s, Kd.s, Kd.sl [Kd.b, Kd.i IntKind.i64, Kd.s]]], .b], [.s, .s, .s, .sl [Kd.b, Kd.i IntKind.i64, Kd.s]]] (OSh.plain (.slt [Kd.i IntKind.i64, Kd.s, Kd.s, Kd.s, Kd.sl [Kd.b, Kd.i IntKind.i64, Kd.s], Kd.sl [Kd.s, Kd.s, Kd.s, Kd.sl [Kd.b, Kd.i IntKind.i64, Kd.s]]] 0) [[.sl [Kd.i IntKind.i64, Kd.s, Kd.s, Kd.s, Kd.sl [Kd.b, Kd.i IntKind.i64, Kd.s], Kd.sl [Kd.s, Kd.s, Kd.s, Kd.sl [Kd.b, Kd.i IntKind.i64, Kd.s]]], .b], [.s, .s, .s, .sl [Kd.b, Kd.i IntKind.i64, Kd.s]]]) (fun x e => z8_v n e.1.1.1 e.1.1.2 e.1.2.1 e.2.1.1 e.2.1.2.1 e.2.1.2.2.1 e.2.1.2.2.2.1.1 e.2.1.2.2.2.1.2) (bookH Spec.none))
theorem z30_σok (n : Nat) : SpecOk Try.prog (z30_σ n) := (inst_ok (fun x e y h => z8_c n e.1.1.1 e.1.1.2 e.1.2.1 e.2.1.1 e.2.1.2.1 e.2.1.2.2.1 e.2.1.2.2.2.1.1 e.2.1.2.2.2.1.2 y h) (bookH_ok (SpecOk.none _)))
noncomputable def z30_Φ (n : Nat) : Orc := with_ Try.prog (z30_σ n) [] n 0 [1000045, 1000059]
noncomputable def z30_v (n : Nat) (s0 : ByteArray) (s1 : ByteArray) (s2 : ByteArray) (b3 : Bool) (r4 : Rows) (b5 : Bool) (r6 : Rows) (b7 : Bool) : Option ((Bool × Rows) × ((Bool × Rows) × Bool × Unit) × Unit) :=
 DM.denFn tm (z30_Φ n) z30_lv n Try.f17 true [AV.pl 1000 0, AV.agg [AV.dv (DV.val (Value.string s0)), AV.dv (DV.val (Value.string s1)), AV.dv (DV.val (Value.string s2)), AV.sl b3 [Kd.b, Kd.i IntKind.i64, Kd.s] r4 Right.no]] [[AV.sl b5 [Kd.i IntKind.i64, Kd.s, Kd.s, Kd.s, Kd.sl [Kd.b, Kd.i IntKind.i64, Kd.s], Kd.sl [Kd.s, Kd.s, Kd.s, Kd.sl [Kd.b, Kd.i IntKind.i64, Kd.s]]] r6 Right.no, AV.dv (DV.val (Value.bool b7))]] (OSh.chk (OSh.plain (.slt [Kd.i IntKind.i64, Kd.s, Kd.s, Kd.s, Kd.sl [Kd.b, Kd.i IntKind.i64, Kd.s], Kd.sl [Kd.s, Kd.s, Kd.s, Kd.sl [Kd.b, Kd.i IntKind.i64, Kd.s]]] 0) [[.sl [Kd.i IntKind.i64, Kd.s, Kd.s, Kd.s, Kd.sl [Kd.b, Kd.i IntKind.i64, Kd.s], Kd.sl [Kd.s, Kd.s, Kd.s, Kd.sl [Kd.b, Kd.i IntKind.i64, Kd.s]]], .b]]))
theorem z30_e (n : Nat) (s0 : ByteArray) (s1 : ByteArray) (s2 : ByteArray) (b3 : Bool) (r4 : Rows) (b5 : Bool) (r6 : Rows) (b7 : Bool) : z30_v n s0 s1 s2 b3 r4 b5 r6 b7 =
 obind (z8_v n b5 r6 b7 s0 s1 s2 b3 r4) fun y8 =>
 some ((y8.fst.fst, y8.fst.snd), (((y8.snd.fst.fst.fst, y8.snd.fst.fst.snd), (y8.snd.fst.snd.fst, ())), ())) := by kernel_rfl
theorem z30_c (n : Nat) (s0 : ByteArray) (s1 : ByteArray) (s2 : ByteArray) (b3 : Bool) (r4 : Rows) (b5 : Bool) (r6 : Rows) (b7 : Bool) (y : (Bool × Rows) × ((Bool × Rows) × Bool × Unit) × Unit) (h : z30_v n s0 s1 s2 b3 r4 b5 r6 b7 = some y) : Contract Try.prog 17 [AV.pl 1000 0, AV.agg [AV.dv (DV.val (Value.string s0)), AV.dv (DV.val (Value.string s1)), AV.dv (DV.val (Value.string s2)), AV.sl b3 [Kd.b, Kd.i IntKind.i64, Kd.s] r4 Right.no]] [[AV.sl b5 [Kd.i IntKind.i64, Kd.s, Kd.s, Kd.s, Kd.sl [Kd.b, Kd.i IntKind.i64, Kd.s], Kd.sl [Kd.s, Kd.s, Kd.s, Kd.sl [Kd.b, Kd.i IntKind.i64, Kd.s]]] r6 Right.no, AV.dv (DV.val (Value.bool b7))]] (OSh.enc (OSh.plain (.slt [Kd.i IntKind.i64, Kd.s, Kd.s, Kd.s, Kd.sl [Kd.b, Kd.i IntKind.i64, Kd.s], Kd.sl [Kd.s, Kd.s, Kd.s, Kd.sl [Kd.b, Kd.i IntKind.i64, Kd.s]]] 0) [[.sl [Kd.i IntKind.i64, Kd.s, Kd.s, Kd.s, Kd.sl [Kd.b, Kd.i IntKind.i64, Kd.s], Kd.sl [Kd.s, Kd.s, Kd.s, Kd.sl [Kd.b, Kd.i IntKind.i64, Kd.s]]], .b]]) y) :=
 auto_okM tm_std (with_ok mixed (by kernel_rfl) (z30_σok n) n 0 [1000045, 1000059]) (with_pick mixed (by kernel_rfl) (z30_σok n) n 0 [1000045, 1000059]) mixed Try.func17 (by decide) (o := (OSh.plain (.slt [Kd.i IntKind.i64, Kd.s, Kd.s, Kd.s, Kd.sl [Kd.b, Kd.i IntKind.i64, Kd.s], Kd.sl [Kd.s, Kd.s, Kd.s, Kd.sl [Kd.b, Kd.i IntKind.i64, Kd.s]]] 0) [[.sl [Kd.i IntKind.i64, Kd.s, Kd.s, Kd.s, Kd.sl [Kd.b, Kd.i IntKind.i64, Kd.s], Kd.sl [Kd.s, Kd.s, Kd.s, Kd.sl [Kd.b, Kd.i IntKind.i64, Kd.s]]], .b]])) h
def z46_lv : Live := []
noncomputable def z46_σ (n : Nat) : Spec := (inst 24 [] [] (OSh.plain (.pl 1000 0) [[.sl [Kd.i IntKind.i64, Kd.s, Kd.s, Kd.s, Kd.sl [Kd.b, Kd.i IntKind.i64, Kd.s], Kd.sl [Kd.s, Kd.s, Kd.s, Kd.sl [Kd.b, Kd.i IntKind.i64, Kd.s]]], .b]]) (fun x e => z53_v n) (inst 34 [.i IntKind.i64] [] (OSh.plain (.agg [.s, .s, .s, .sl [Kd.b, Kd.i IntKind.i64, Kd.s]]) []) (fun x e => z52_v n x.1) (inst 25 [.pl 1000 0, .agg [.i IntKind.i64, .s, .s, .s, .sl [Kd.b, Kd.i IntKind.i64, Kd.s], .sl [Kd.s, Kd.s, Kd.s, Kd.sl [Kd.b, Kd.i IntKind.i64, Kd.s]]]] [[.sl [Kd.i IntKind.i64, Kd.s, Kd.s, Kd.s, Kd.sl [Kd.b, Kd.i IntKind.i64, Kd.s], Kd.sl [Kd.s, Kd.s, Kd.s, Kd.sl [Kd.b, Kd.i IntKind.i64, Kd.s]]], .b]] (OSh.plain (.b) [[.sl [Kd.i IntKind.i64, Kd.s, Kd.s, Kd.s, Kd.sl [Kd.b, Kd.i IntKind.i64, Kd.s], Kd.sl [Kd.s, Kd.s, Kd.s, Kd.sl [Kd.b, Kd.i IntKind.i64, Kd.s]]], .b]]) (fun x e => z27_v n x.2.1.1 x.2.1.2.1 x.2.1.2.2.1 x.2.1.2.2.2.1 x.2.1.2.2.2.2.1.1 x.2.1.2.2.2.2.1.2 x.2.1.2.2.2.2.2.1.1 x.2.1.2.2.2.2.2.1.2 e.1.1.1 e.1.1.2 e.1.2.1) (inst 22 [.pl 1000 0] [[.sl [Kd.i IntKind.i64, Kd.s, Kd.s, Kd.s, Kd.sl [Kd.b, Kd.i IntKind.i64, Kd.s], Kd.sl [Kd.s, Kd.s, Kd.s, Kd.sl [Kd.b, Kd.i IntKind.i64, Kd.s]]], .b]] (OSh.plain (.i IntKind.i64) [[.sl [Kd.i IntKind.i64, Kd.s, Kd.s, Kd.s, Kd.sl [Kd.b, Kd.i IntKind.i64, Kd.s], Kd.sl [Kd.s, Kd.s, Kd.s, Kd.sl [Kd.b, Kd.i IntKind.i64, Kd.s]]], .b]]) (fun x e => z23_v n e.1.1.1 e.1.1.2 e.1.2.1) (inst 14 [.pl 1000 0, .sl [Kd.s, Kd.s, Kd.s, Kd.sl [Kd.b, Kd.i IntKind.i64, Kd.s]]] [[.sl [Kd.i IntKind.i64, Kd.s, Kd.s, Kd.s, Kd.sl [Kd.b, Kd.i IntKind.i64, Kd.s], Kd.sl [Kd.s, Kd.s, Kd.s, Kd.sl [Kd.b, Kd.i IntKind.i64, Kd.s]]], .b]] (OSh.plain (.slt [Kd.s, Kd.s, Kd.s, Kd.sl [Kd.b, Kd.i IntKind.i64, Kd.s]] 0) [[.sl [Kd.i IntKind.i64, Kd.s, Kd.s, Kd.s, Kd.sl [Kd.b, Kd.i IntKind.i64, Kd.s], Kd.sl [Kd.s, Kd.s, Kd.s, Kd.sl [Kd.b, Kd.i IntKind.i64, Kd.s]]], .b]]) (fun x e => z13_v n x.2.1.1 x.2.1.2 e.1.1.1 e.1.1.2 e.1.2.1) (inst 17 [.pl 1000 0, .agg [.s, .s, .s, .sl [Kd.b, Kd.i IntKind.i64, Kd.s]]] [[.sl [Kd.i IntKind.i64, Kd.s, Kd.s, Kd.s, Kd.sl [Kd.b, Kd.i IntKind.i64, Kd.s], Kd.sl [Kd.s, Kd.s, Kd.s, Kd.sl [Kd.b, Kd.i IntKind.i64, Kd.s]]], .b]] (OSh.plain (.slt [Kd.i IntKind.i64, Kd.s, Kd.s, Kd.s, Kd.sl [Kd.b, Kd.i IntKind.i64, Kd.s], Kd.sl [Kd.s, Kd.s, Kd.s, Kd.sl [Kd.b, Kd.i IntKind.i64, Kd.s]]] 0) [[.sl [Kd.i IntKind.i64, Kd.s, Kd.s, Kd.s, Kd.sl [Kd.b, Kd.i IntKind.i64, Kd.s], Kd.sl [Kd.s, Kd.s, Kd.s, Kd.sl [Kd.b, Kd.i IntKind.i64, Kd.s]]], .b]]) (fun x e => z30_v n x.2.1.1 x.2.1.2.1 x.2.1.2.2.1 x.2.1.2.2.2.1.1 x.2.1.2.2.2.1.2 e.1.1.1 e.1.1.2 e.1.2.1) (bookH Spec.none)))))))
theorem z46_σok (n : Nat) : SpecOk Try.prog (z46_σ n) := (inst_ok (fun x e y h => z53_c n y h) (inst_ok (fun x e y h => z52_c n x.1 y h) (inst_ok (fun x e y h => z27_c n x.2.1.1 x.2.1.2.1 x.2.1.2.2.1 x.2.1.2.2.2.1 x.2.1.2.2.2.2.1.1 x.2.1.2.2.2.2.1.2 x.2.1.2.2.2.2.2.1.1 x.2.1.2.2.2.2.2.1.2 e.1.1.1 e.1.1.2 e.1.2.1 y h) (inst_ok (fun x e y h => z23_c n e.1.1.1 e.1.1.2 e.1.2.1 y h) (inst_ok (fun x e y h => z13_c n x.2.1.1 x.2.1.2 e.1.1.1 e.1.1.2 e.1.2.1 y h) (inst_ok (fun x e y h => z30_c n x.2.1.1 x.2.1.2.1 x.2.1.2.2.1 x.2.1.2.2.2.1.1 x.2.1.2.2.2.1.2 e.1.1.1 e.1.1.2 e.1.2.1 y h) (bookH_ok (SpecOk.none _))))))))
noncomputable def z46_Φ (n : Nat) : Orc := with_ Try.prog (z46_σ n) [] n 0 [1000045, 1000059]
noncomputable def z46_v (n : Nat) : Option (Bool × Unit) :=
 DM.denFn tm (z46_Φ n) z46_lv n Try.f10 false [] [] (OSh.chk (OSh.plain (.b) []))
theorem z46_e (n : Nat) : z46_v n =
 obind (z53_v n) fun y0 =>
 obind (z52_v n 1) fun y1 =>
 obind (z52_v n 2) fun y2 =>
 obind (z27_v n 0 y1.fst.fst y1.fst.snd.fst y1.fst.snd.snd.fst y1.fst.snd.snd.snd.fst.fst y1.fst.snd.snd.snd.fst.snd false ([[DV.val (Value.string y2.fst.fst), DV.val (Value.string y2.fst.snd.fst), DV.val (Value.string y2.fst.snd.snd.fst), DV.sl y2.fst.snd.snd.snd.fst.fst [Kd.b, Kd.i IntKind.i64, Kd.s] y2.fst.snd.snd.snd.fst.snd]]) y0.snd.fst.fst.fst y0.snd.fst.fst.snd y0.snd.fst.snd.fst) fun y3 =>
 obind (z52_v n 2) fun y4 =>
 obind (z52_v n 1) fun y5 =>
 obind (z27_v n 0 y4.fst.fst y4.fst.snd.fst y4.fst.snd.snd.fst y4.fst.snd.snd.snd.fst.fst y4.fst.snd.snd.snd.fst.snd false ([[DV.val (Value.string y5.fst.fst), DV.val (Value.string y5.fst.snd.fst), DV.val (Value.string y5.fst.snd.snd.fst), DV.sl y5.fst.snd.snd.snd.fst.fst [Kd.b, Kd.i IntKind.i64, Kd.s] y5.fst.snd.snd.snd.fst.snd]]) y3.snd.fst.fst.fst y3.snd.fst.fst.snd y3.snd.fst.snd.fst) fun y6 =>
 bif y3.fst then
  bif y6.fst then
   obind (z23_v n y6.snd.fst.fst.fst y6.snd.fst.fst.snd y6.snd.fst.snd.fst) fun y7 =>
   bif y7.fst == 2 then
    obind (z13_v n true [] y7.snd.fst.fst.fst y7.snd.fst.fst.snd y7.snd.fst.snd.fst) fun y8 =>
    bif (↑(List.length y8.fst.snd) : Int) == 0 then
     obind (z52_v n 2) fun y9 =>
     obind (z13_v n false ([[DV.val (Value.string y9.fst.fst), DV.val (Value.string y9.fst.snd.fst), DV.val (Value.string y9.fst.snd.snd.fst), DV.sl y9.fst.snd.snd.snd.fst.fst [Kd.b, Kd.i IntKind.i64, Kd.s] y9.fst.snd.snd.snd.fst.snd]]) y8.snd.fst.fst.fst y8.snd.fst.fst.snd y8.snd.fst.snd.fst) fun y10 =>
     bif (↑(List.length y10.fst.snd) : Int) == 2 then
      obind (z52_v n 1) fun y11 =>
      obind (z30_v n y11.fst.fst y11.fst.snd.fst y11.fst.snd.snd.fst y11.fst.snd.snd.snd.fst.fst y11.fst.snd.snd.snd.fst.snd y10.snd.fst.fst.fst y10.snd.fst.fst.snd y10.snd.fst.snd.fst) fun y12 =>
      some ((↑(List.length y12.fst.snd) : Int) == 1, ())
     else some (false, ())
    else some (false, ())
   else some (false, ())
  else some (false, ())
 else some (false, ()) := by kernel_rfl
theorem z46_c (n : Nat) (y : Bool × Unit) (h : z46_v n = some y) : Contract Try.prog 10 [] [] (OSh.enc (OSh.plain (.b) []) y) :=
 auto_okM tm_std (with_ok mixed (by kernel_rfl) (z46_σok n) n 0 [1000045, 1000059]) (with_pick mixed (by kernel_rfl) (z46_σok n) n 0 [1000045, 1000059]) mixed Try.func10 (by decide) (o := (OSh.plain (.b) [])) h
def z35_lv : Live := []
noncomputable def z35_σ (n : Nat) : Spec := (bookH Spec.none)
theorem z35_σok (n : Nat) : SpecOk Try.prog (z35_σ n) := (bookH_ok (SpecOk.none _))
noncomputable def z35_Φ (n : Nat) : Orc := with_ Try.prog (z35_σ n) [] n 0 [1000045, 1000059]
noncomputable def z35_v (n : Nat) (s0 : ByteArray) (s1 : ByteArray) : Option (Int × Unit) :=
 DM.denFn tm (z35_Φ n) z35_lv n Try.f55 false [AV.dv (DV.val (Value.string s0)), AV.dv (DV.val (Value.string s1))] [] (OSh.chk (OSh.plain (.i IntKind.i64) []))
theorem z35_e (n : Nat) (s0 : ByteArray) (s1 : ByteArray) : z35_v n s0 s1 =
 bif Op.bytesLess (ByteArray.toList s0) (ByteArray.toList s1) then
  some (-1, ())
 else bif !(Op.bytesLess (ByteArray.toList s0) (ByteArray.toList s1) || s0 == s1) then
  some (1, ())
 else some (0, ()) := by kernel_rfl
theorem z35_c (n : Nat) (s0 : ByteArray) (s1 : ByteArray) (y : Int × Unit) (h : z35_v n s0 s1 = some y) : Contract Try.prog 55 [AV.dv (DV.val (Value.string s0)), AV.dv (DV.val (Value.string s1))] [] (OSh.enc (OSh.plain (.i IntKind.i64) []) y) :=
 auto_okM tm_std (with_ok mixed (by kernel_rfl) (z35_σok n) n 0 [1000045, 1000059]) (with_pick mixed (by kernel_rfl) (z35_σok n) n 0 [1000045, 1000059]) mixed Try.func55 (by decide) (o := (OSh.plain (.i IntKind.i64) [])) h
def z26_lv : Live := []
noncomputable def z26_σ (n : Nat) : Spec := (inst 55 [.s, .s] [] (OSh.plain (.i IntKind.i64) []) (fun x e => z35_v n x.1 x.2.1) (bookH Spec.none))
theorem z26_σok (n : Nat) : SpecOk Try.prog (z26_σ n) := (inst_ok (fun x e y h => z35_c n x.1 x.2.1 y h) (bookH_ok (SpecOk.none _)))
noncomputable def z26_Φ (n : Nat) : Orc := with_ Try.prog (z26_σ n) [] n 0 [1000045, 1000059]
noncomputable def z26_v (n : Nat) (b0 : Bool) (j1 : Int) (s2 : ByteArray) (b3 : Bool) (j4 : Int) (s5 : ByteArray) : Option (Int × Unit) :=
 DM.denFn tm (z26_Φ n) z26_lv n Try.f56 false [AV.agg [AV.dv (DV.val (Value.bool b0)), AV.dv (DV.val (Value.int IntKind.i64 j1)), AV.dv (DV.val (Value.string s2))], AV.agg [AV.dv (DV.val (Value.bool b3)), AV.dv (DV.val (Value.int IntKind.i64 j4)), AV.dv (DV.val (Value.string s5))]] [] (OSh.chk (OSh.plain (.i IntKind.i64) []))
theorem z26_e (n : Nat) (b0 : Bool) (j1 : Int) (s2 : ByteArray) (b3 : Bool) (j4 : Int) (s5 : ByteArray) : z26_v n b0 j1 s2 b3 j4 s5 =
 bif b0 then
  bif !b3 then
   some (-1, ())
  else bif b3 then
   bif !b0 then
    some (1, ())
   else bif decide (j1 < j4) then
    some (-1, ())
   else bif decide (j1 > j4) then
    some (1, ())
   else obind (z35_v n s2 s5) fun y6 =>
   some (y6.fst, ())
  else bif decide (j1 < j4) then
   some (-1, ())
  else bif decide (j1 > j4) then
   some (1, ())
  else obind (z35_v n s2 s5) fun y7 =>
  some (y7.fst, ())
 else bif b3 then
  bif !b0 then
   some (1, ())
  else bif decide (j1 < j4) then
   some (-1, ())
  else bif decide (j1 > j4) then
   some (1, ())
  else obind (z35_v n s2 s5) fun y8 =>
  some (y8.fst, ())
 else bif decide (j1 < j4) then
  some (-1, ())
 else bif decide (j1 > j4) then
  some (1, ())
 else obind (z35_v n s2 s5) fun y9 =>
 some (y9.fst, ()) := by kernel_rfl
theorem z26_c (n : Nat) (b0 : Bool) (j1 : Int) (s2 : ByteArray) (b3 : Bool) (j4 : Int) (s5 : ByteArray) (y : Int × Unit) (h : z26_v n b0 j1 s2 b3 j4 s5 = some y) : Contract Try.prog 56 [AV.agg [AV.dv (DV.val (Value.bool b0)), AV.dv (DV.val (Value.int IntKind.i64 j1)), AV.dv (DV.val (Value.string s2))], AV.agg [AV.dv (DV.val (Value.bool b3)), AV.dv (DV.val (Value.int IntKind.i64 j4)), AV.dv (DV.val (Value.string s5))]] [] (OSh.enc (OSh.plain (.i IntKind.i64) []) y) :=
 auto_okM tm_std (with_ok mixed (by kernel_rfl) (z26_σok n) n 0 [1000045, 1000059]) (with_pick mixed (by kernel_rfl) (z26_σok n) n 0 [1000045, 1000059]) mixed Try.func56 (by decide) (o := (OSh.plain (.i IntKind.i64) [])) h
def z34_lv : Live := [(8, [2, 3, 5], [2, 3, 1000, 1001, 1002, 1003])]
noncomputable def z34_σ (n : Nat) : Spec := (inst 55 [.s, .s] [] (OSh.plain (.i IntKind.i64) []) (fun x e => z35_v n x.1 x.2.1) (inst 56 [.agg [.b, .i IntKind.i64, .s], .agg [.b, .i IntKind.i64, .s]] [] (OSh.plain (.i IntKind.i64) []) (fun x e => z26_v n x.1.1 x.1.2.1 x.1.2.2.1 x.2.1.1 x.2.1.2.1 x.2.1.2.2.1) (bookH Spec.none)))
theorem z34_σok (n : Nat) : SpecOk Try.prog (z34_σ n) := (inst_ok (fun x e y h => z35_c n x.1 x.2.1 y h) (inst_ok (fun x e y h => z26_c n x.1.1 x.1.2.1 x.1.2.2.1 x.2.1.1 x.2.1.2.1 x.2.1.2.2.1 y h) (bookH_ok (SpecOk.none _))))
noncomputable def z34_Φ (n : Nat) : Orc := with_ Try.prog (z34_σ n) [] n 0 [1000045, 1000059]
noncomputable def z34_v (n : Nat) (s0 : ByteArray) (s1 : ByteArray) (s2 : ByteArray) (b3 : Bool) (r4 : Rows) (s5 : ByteArray) (s6 : ByteArray) (s7 : ByteArray) (b8 : Bool) (r9 : Rows) : Option (Int × Unit) :=
 DM.denFn tm (z34_Φ n) z34_lv n Try.f35 false [AV.agg [AV.dv (DV.val (Value.string s0)), AV.dv (DV.val (Value.string s1)), AV.dv (DV.val (Value.string s2)), AV.sl b3 [Kd.b, Kd.i IntKind.i64, Kd.s] r4 Right.no], AV.agg [AV.dv (DV.val (Value.string s5)), AV.dv (DV.val (Value.string s6)), AV.dv (DV.val (Value.string s7)), AV.sl b8 [Kd.b, Kd.i IntKind.i64, Kd.s] r9 Right.no]] [] (OSh.chk (OSh.plain (.i IntKind.i64) []))
noncomputable def z34_l8 (n : Nat) (s0 : ByteArray) (s1 : ByteArray) (s2 : ByteArray) (b3 : Bool) (r4 : Rows) (s5 : ByteArray) (s6 : ByteArray) (s7 : ByteArray) (b8 : Bool) (r9 : Rows) (i0 : Nat) (j14 : Int) : Option (Int × Unit) :=
 DM.loopFn tm (z34_Φ n) z34_lv n Try.f35 false [] (OSh.chk (OSh.plain (.i IntKind.i64) [])) 8 [] i0 (St.mk [AV.junk, AV.junk, AV.pl 2 0, AV.pl 3 0, AV.junk, AV.dv (DV.val (Value.int IntKind.i64 j14)), AV.junk, AV.junk, AV.junk, AV.junk, AV.junk, AV.junk, AV.junk, AV.junk, AV.junk, AV.junk, AV.junk, AV.junk, AV.junk, AV.junk, AV.junk, AV.junk, AV.junk, AV.junk, AV.junk, AV.junk, AV.junk, AV.junk, AV.junk, AV.junk, AV.junk, AV.junk, AV.junk, AV.junk, AV.junk, AV.junk, AV.junk, AV.junk, AV.junk, AV.junk, AV.junk, AV.junk, AV.junk, AV.junk, AV.junk, AV.junk, AV.junk, AV.junk, AV.junk, AV.junk, AV.junk, AV.junk, AV.junk, AV.junk, AV.junk, AV.junk, AV.junk, AV.junk, AV.junk, AV.junk, AV.junk, AV.junk, AV.junk, AV.junk, AV.junk, AV.junk, AV.junk, AV.junk, AV.junk, AV.junk, AV.junk, AV.junk, AV.junk, AV.junk, AV.junk, AV.junk, AV.junk, AV.junk, AV.junk] [(2, [AV.dv (DV.val (Value.string s0)), AV.dv (DV.val (Value.string s1)), AV.dv (DV.val (Value.string s2)), AV.sl b3 [Kd.b, Kd.i IntKind.i64, Kd.s] r4 Right.no]), (3, [AV.dv (DV.val (Value.string s5)), AV.dv (DV.val (Value.string s6)), AV.dv (DV.val (Value.string s7)), AV.sl b8 [Kd.b, Kd.i IntKind.i64, Kd.s] r9 Right.no])])
theorem z34_s8 (n : Nat) (s0 : ByteArray) (s1 : ByteArray) (s2 : ByteArray) (b3 : Bool) (r4 : Rows) (s5 : ByteArray) (s6 : ByteArray) (s7 : ByteArray) (b8 : Bool) (r9 : Rows) (i0 : Nat) (j14 : Int) : z34_l8 n s0 s1 s2 b3 r4 s5 s6 s7 b8 r9 (i0 + 1) j14 =
 bif decide (j14 < (↑(List.length r4) : Int)) then
  bif decide (j14 < (↑(List.length r9) : Int)) then
   if 0 ≤ j14 then
    if j14 < (↑(List.length r4) : Int) then
     if 0 ≤ j14 then
      if j14 < (↑(List.length r9) : Int) then
       obind (z26_v n (Row.B (List.getD r4 (Int.toNat j14) []) 0) (Row.I (List.getD r4 (Int.toNat j14) []) 1) (Row.S (List.getD r4 (Int.toNat j14) []) 2) (Row.B (List.getD r9 (Int.toNat j14) []) 0) (Row.I (List.getD r9 (Int.toNat j14) []) 1) (Row.S (List.getD r9 (Int.toNat j14) []) 2)) fun y15 =>
       bif y15.fst != 0 then
        some (y15.fst, ())
       else z34_l8 n s0 s1 s2 b3 r4 s5 s6 s7 b8 r9 i0 (IntKind.wrap IntKind.i64 (j14 + 1))
      else none
     else none
    else none
   else none
  else bif decide ((↑(List.length r4) : Int) < (↑(List.length r9) : Int)) then
   some (-1, ())
  else bif decide ((↑(List.length r4) : Int) > (↑(List.length r9) : Int)) then
   some (1, ())
  else some (0, ())
 else bif decide ((↑(List.length r4) : Int) < (↑(List.length r9) : Int)) then
  some (-1, ())
 else bif decide ((↑(List.length r4) : Int) > (↑(List.length r9) : Int)) then
  some (1, ())
 else some (0, ()) := by kernel_rfl
theorem z34_e (n : Nat) (s0 : ByteArray) (s1 : ByteArray) (s2 : ByteArray) (b3 : Bool) (r4 : Rows) (s5 : ByteArray) (s6 : ByteArray) (s7 : ByteArray) (b8 : Bool) (r9 : Rows) : z34_v n s0 s1 s2 b3 r4 s5 s6 s7 b8 r9 =
 bif !s0 == s5 then
  obind (z35_v n s0 s5) fun y10 =>
  some (y10.fst, ())
 else bif !s1 == s6 then
  obind (z35_v n s1 s6) fun y11 =>
  some (y11.fst, ())
 else bif !s2 == s7 then
  obind (z35_v n s2 s7) fun y12 =>
  some (y12.fst, ())
 else z34_l8 n s0 s1 s2 b3 r4 s5 s6 s7 b8 r9 n 0 := by kernel_rfl
theorem z34_c (n : Nat) (s0 : ByteArray) (s1 : ByteArray) (s2 : ByteArray) (b3 : Bool) (r4 : Rows) (s5 : ByteArray) (s6 : ByteArray) (s7 : ByteArray) (b8 : Bool) (r9 : Rows) (y : Int × Unit) (h : z34_v n s0 s1 s2 b3 r4 s5 s6 s7 b8 r9 = some y) : Contract Try.prog 35 [AV.agg [AV.dv (DV.val (Value.string s0)), AV.dv (DV.val (Value.string s1)), AV.dv (DV.val (Value.string s2)), AV.sl b3 [Kd.b, Kd.i IntKind.i64, Kd.s] r4 Right.no], AV.agg [AV.dv (DV.val (Value.string s5)), AV.dv (DV.val (Value.string s6)), AV.dv (DV.val (Value.string s7)), AV.sl b8 [Kd.b, Kd.i IntKind.i64, Kd.s] r9 Right.no]] [] (OSh.enc (OSh.plain (.i IntKind.i64) []) y) :=
 auto_okM tm_std (with_ok mixed (by kernel_rfl) (z34_σok n) n 0 [1000045, 1000059]) (with_pick mixed (by kernel_rfl) (z34_σok n) n 0 [1000045, 1000059]) mixed Try.func35 (by decide) (o := (OSh.plain (.i IntKind.i64) [])) h
def z24_lv : Live := [(7, [2, 3, 5, 6], [2, 3, 1000, 1001, 1002, 1003])]
noncomputable def z24_σ (n : Nat) : Spec := (inst 35 [.agg [.s, .s, .s, .sl [Kd.b, Kd.i IntKind.i64, Kd.s]], .agg [.s, .s, .s, .sl [Kd.b, Kd.i IntKind.i64, Kd.s]]] [] (OSh.plain (.i IntKind.i64) []) (fun x e => z34_v n x.1.1 x.1.2.1 x.1.2.2.1 x.1.2.2.2.1.1 x.1.2.2.2.1.2 x.2.1.1 x.2.1.2.1 x.2.1.2.2.1 x.2.1.2.2.2.1.1 x.2.1.2.2.2.1.2) (bookH Spec.none))
theorem z24_σok (n : Nat) : SpecOk Try.prog (z24_σ n) := (inst_ok (fun x e y h => z34_c n x.1.1 x.1.2.1 x.1.2.2.1 x.1.2.2.2.1.1 x.1.2.2.2.1.2 x.2.1.1 x.2.1.2.1 x.2.1.2.2.1 x.2.1.2.2.2.1.1 x.2.1.2.2.2.1.2 y h) (bookH_ok (SpecOk.none _)))
noncomputable def z24_Φ (n : Nat) : Orc := with_ Try.prog (z24_σ n) [] n 0 [1000045, 1000059]
noncomputable def z24_v (n : Nat) (j0 : Int) (s1 : ByteArray) (s2 : ByteArray) (s3 : ByteArray) (b4 : Bool) (r5 : Rows) (b6 : Bool) (r7 : Rows) (j8 : Int) (s9 : ByteArray) (s10 : ByteArray) (s11 : ByteArray) (b12 : Bool) (r13 : Rows) (b14 : Bool) (r15 : Rows) : Option (Int × Unit) :=
 DM.denFn tm (z24_Φ n) z24_lv n Try.f21 false [AV.agg [AV.dv (DV.val (Value.int IntKind.i64 j0)), AV.dv (DV.val (Value.string s1)), AV.dv (DV.val (Value.string s2)), AV.dv (DV.val (Value.string s3)), AV.sl b4 [Kd.b, Kd.i IntKind.i64, Kd.s] r5 Right.no, AV.sl b6 [Kd.s, Kd.s, Kd.s, Kd.sl [Kd.b, Kd.i IntKind.i64, Kd.s]] r7 Right.no], AV.agg [AV.dv (DV.val (Value.int IntKind.i64 j8)), AV.dv (DV.val (Value.string s9)), AV.dv (DV.val (Value.string s10)), AV.dv (DV.val (Value.string s11)), AV.sl b12 [Kd.b, Kd.i IntKind.i64, Kd.s] r13 Right.no, AV.sl b14 [Kd.s, Kd.s, Kd.s, Kd.sl [Kd.b, Kd.i IntKind.i64, Kd.s]] r15 Right.no]] [] (OSh.chk (OSh.plain (.i IntKind.i64) []))
noncomputable def z24_l7 (n : Nat) (j0 : Int) (s1 : ByteArray) (s2 : ByteArray) (s3 : ByteArray) (b4 : Bool) (r5 : Rows) (b6 : Bool) (r7 : Rows) (j8 : Int) (s9 : ByteArray) (s10 : ByteArray) (s11 : ByteArray) (b12 : Bool) (r13 : Rows) (b14 : Bool) (r15 : Rows) (i0 : Nat) (j17 : Int) (j19 : Int) : Option (Int × Unit) :=
 DM.loopFn tm (z24_Φ n) z24_lv n Try.f21 false [] (OSh.chk (OSh.plain (.i IntKind.i64) [])) 7 [] i0 (St.mk [AV.junk, AV.junk, AV.pl 2 0, AV.pl 3 0, AV.junk, AV.dv (DV.val (Value.int IntKind.i64 j17)), AV.dv (DV.val (Value.int IntKind.i64 j19)), AV.junk, AV.junk, AV.junk, AV.junk, AV.junk, AV.junk, AV.junk, AV.junk, AV.junk, AV.junk, AV.junk, AV.junk, AV.junk, AV.junk, AV.junk, AV.junk, AV.junk, AV.junk, AV.junk, AV.junk, AV.junk, AV.junk, AV.junk, AV.junk, AV.junk, AV.junk, AV.junk, AV.junk, AV.junk, AV.junk, AV.junk, AV.junk, AV.junk, AV.junk, AV.junk, AV.junk, AV.junk, AV.junk, AV.junk, AV.junk, AV.junk, AV.junk, AV.junk, AV.junk, AV.junk, AV.junk, AV.junk, AV.junk, AV.junk, AV.junk, AV.junk, AV.junk, AV.junk, AV.junk, AV.junk, AV.junk, AV.junk, AV.junk, AV.junk, AV.junk, AV.junk] [(2, [AV.dv (DV.val (Value.int IntKind.i64 j0)), AV.dv (DV.val (Value.string s1)), AV.dv (DV.val (Value.string s2)), AV.dv (DV.val (Value.string s3)), AV.sl b4 [Kd.b, Kd.i IntKind.i64, Kd.s] r5 Right.no, AV.sl b6 [Kd.s, Kd.s, Kd.s, Kd.sl [Kd.b, Kd.i IntKind.i64, Kd.s]] r7 Right.no]), (3, [AV.dv (DV.val (Value.int IntKind.i64 j8)), AV.dv (DV.val (Value.string s9)), AV.dv (DV.val (Value.string s10)), AV.dv (DV.val (Value.string s11)), AV.sl b12 [Kd.b, Kd.i IntKind.i64, Kd.s] r13 Right.no, AV.sl b14 [Kd.s, Kd.s, Kd.s, Kd.sl [Kd.b, Kd.i IntKind.i64, Kd.s]] r15 Right.no])])
theorem z24_s7 (n : Nat) (j0 : Int) (s1 : ByteArray) (s2 : ByteArray) (s3 : ByteArray) (b4 : Bool) (r5 : Rows) (b6 : Bool) (r7 : Rows) (j8 : Int) (s9 : ByteArray) (s10 : ByteArray) (s11 : ByteArray) (b12 : Bool) (r13 : Rows) (b14 : Bool) (r15 : Rows) (i0 : Nat) (j17 : Int) (j19 : Int) : z24_l7 n j0 s1 s2 s3 b4 r5 b6 r7 j8 s9 s10 s11 b12 r13 b14 r15 (i0 + 1) j17 j19 =
 bif j17 == 0 then
  bif decide (j19 < (↑(List.length r7) : Int)) then
   bif decide (j19 < (↑(List.length r15) : Int)) then
    if 0 ≤ j19 then
     if j19 < (↑(List.length r7) : Int) then
      if 0 ≤ j19 then
       if j19 < (↑(List.length r15) : Int) then
        obind (z34_v n (Row.S (List.getD r7 (Int.toNat j19) []) 0) (Row.S (List.getD r7 (Int.toNat j19) []) 1) (Row.S (List.getD r7 (Int.toNat j19) []) 2) (Row.N (List.getD r7 (Int.toNat j19) []) 3) (Row.R (List.getD r7 (Int.toNat j19) []) 3) (Row.S (List.getD r15 (Int.toNat j19) []) 0) (Row.S (List.getD r15 (Int.toNat j19) []) 1) (Row.S (List.getD r15 (Int.toNat j19) []) 2) (Row.N (List.getD r15 (Int.toNat j19) []) 3) (Row.R (List.getD r15 (Int.toNat j19) []) 3)) fun y20 =>
        z24_l7 n j0 s1 s2 s3 b4 r5 b6 r7 j8 s9 s10 s11 b12 r13 b14 r15 i0 y20.fst (IntKind.wrap IntKind.i64 (j19 + 1))
       else none
      else none
     else none
    else none
   else bif j17 != 0 then
    some (j17, ())
   else bif decide ((↑(List.length r7) : Int) < (↑(List.length r15) : Int)) then
    some (-1, ())
   else bif decide ((↑(List.length r7) : Int) > (↑(List.length r15) : Int)) then
    some (1, ())
   else some (0, ())
  else bif j17 != 0 then
   some (j17, ())
  else bif decide ((↑(List.length r7) : Int) < (↑(List.length r15) : Int)) then
   some (-1, ())
  else bif decide ((↑(List.length r7) : Int) > (↑(List.length r15) : Int)) then
   some (1, ())
  else some (0, ())
 else bif j17 != 0 then
  some (j17, ())
 else bif decide ((↑(List.length r7) : Int) < (↑(List.length r15) : Int)) then
  some (-1, ())
 else bif decide ((↑(List.length r7) : Int) > (↑(List.length r15) : Int)) then
  some (1, ())
 else some (0, ()) := by kernel_rfl
theorem z24_e (n : Nat) (j0 : Int) (s1 : ByteArray) (s2 : ByteArray) (s3 : ByteArray) (b4 : Bool) (r5 : Rows) (b6 : Bool) (r7 : Rows) (j8 : Int) (s9 : ByteArray) (s10 : ByteArray) (s11 : ByteArray) (b12 : Bool) (r13 : Rows) (b14 : Bool) (r15 : Rows) : z24_v n j0 s1 s2 s3 b4 r5 b6 r7 j8 s9 s10 s11 b12 r13 b14 r15 =
 bif decide (j0 < j8) then
  some (-1, ())
 else bif decide (j0 > j8) then
  some (1, ())
 else obind (z34_v n s1 s2 s3 b4 r5 s9 s10 s11 b12 r13) fun y16 =>
 z24_l7 n j0 s1 s2 s3 b4 r5 b6 r7 j8 s9 s10 s11 b12 r13 b14 r15 n y16.fst 0 := by kernel_rfl
theorem z24_c (n : Nat) (j0 : Int) (s1 : ByteArray) (s2 : ByteArray) (s3 : ByteArray) (b4 : Bool) (r5 : Rows) (b6 : Bool) (r7 : Rows) (j8 : Int) (s9 : ByteArray) (s10 : ByteArray) (s11 : ByteArray) (b12 : Bool) (r13 : Rows) (b14 : Bool) (r15 : Rows) (y : Int × Unit) (h : z24_v n j0 s1 s2 s3 b4 r5 b6 r7 j8 s9 s10 s11 b12 r13 b14 r15 = some y) : Contract Try.prog 21 [AV.agg [AV.dv (DV.val (Value.int IntKind.i64 j0)), AV.dv (DV.val (Value.string s1)), AV.dv (DV.val (Value.string s2)), AV.dv (DV.val (Value.string s3)), AV.sl b4 [Kd.b, Kd.i IntKind.i64, Kd.s] r5 Right.no, AV.sl b6 [Kd.s, Kd.s, Kd.s, Kd.sl [Kd.b, Kd.i IntKind.i64, Kd.s]] r7 Right.no], AV.agg [AV.dv (DV.val (Value.int IntKind.i64 j8)), AV.dv (DV.val (Value.string s9)), AV.dv (DV.val (Value.string s10)), AV.dv (DV.val (Value.string s11)), AV.sl b12 [Kd.b, Kd.i IntKind.i64, Kd.s] r13 Right.no, AV.sl b14 [Kd.s, Kd.s, Kd.s, Kd.sl [Kd.b, Kd.i IntKind.i64, Kd.s]] r15 Right.no]] [] (OSh.enc (OSh.plain (.i IntKind.i64) []) y) :=
 auto_okM tm_std (with_ok mixed (by kernel_rfl) (z24_σok n) n 0 [1000045, 1000059]) (with_pick mixed (by kernel_rfl) (z24_σok n) n 0 [1000045, 1000059]) mixed Try.func21 (by decide) (o := (OSh.plain (.i IntKind.i64) [])) h
def z19_lv : Live := [(2, [0, 3, 5], [3, 1000, 1001, 1002, 1003])]
noncomputable def z19_σ (n : Nat) : Spec := (inst 21 [.agg [.i IntKind.i64, .s, .s, .s, .sl [Kd.b, Kd.i IntKind.i64, Kd.s], .sl [Kd.s, Kd.s, Kd.s, Kd.sl [Kd.b, Kd.i IntKind.i64, Kd.s]]], .agg [.i IntKind.i64, .s, .s, .s, .sl [Kd.b, Kd.i IntKind.i64, Kd.s], .sl [Kd.s, Kd.s, Kd.s, Kd.sl [Kd.b, Kd.i IntKind.i64, Kd.s]]]] [] (OSh.plain (.i IntKind.i64) []) (fun x e => z24_v n x.1.1 x.1.2.1 x.1.2.2.1 x.1.2.2.2.1 x.1.2.2.2.2.1.1 x.1.2.2.2.2.1.2 x.1.2.2.2.2.2.1.1 x.1.2.2.2.2.2.1.2 x.2.1.1 x.2.1.2.1 x.2.1.2.2.1 x.2.1.2.2.2.1 x.2.1.2.2.2.2.1.1 x.2.1.2.2.2.2.1.2 x.2.1.2.2.2.2.2.1.1 x.2.1.2.2.2.2.2.1.2) (bookH Spec.none))
theorem z19_σok (n : Nat) : SpecOk Try.prog (z19_σ n) := (inst_ok (fun x e y h => z24_c n x.1.1 x.1.2.1 x.1.2.2.1 x.1.2.2.2.1 x.1.2.2.2.2.1.1 x.1.2.2.2.2.1.2 x.1.2.2.2.2.2.1.1 x.1.2.2.2.2.2.1.2 x.2.1.1 x.2.1.2.1 x.2.1.2.2.1 x.2.1.2.2.2.1 x.2.1.2.2.2.2.1.1 x.2.1.2.2.2.2.1.2 x.2.1.2.2.2.2.2.1.1 x.2.1.2.2.2.2.2.1.2 y h) (bookH_ok (SpecOk.none _)))
noncomputable def z19_Φ (n : Nat) : Orc := with_ Try.prog (z19_σ n) [] n 0 [1000045, 1000059]
noncomputable def z19_v (n : Nat) (j0 : Int) (s1 : ByteArray) (s2 : ByteArray) (s3 : ByteArray) (b4 : Bool) (r5 : Rows) (b6 : Bool) (r7 : Rows) (b8 : Bool) (r9 : Rows) : Option (Bool × ((Bool × Rows) × Unit) × Unit) :=
 DM.denFn tm (z19_Φ n) z19_lv n Try.f26 false [AV.pl 1000 0, AV.agg [AV.dv (DV.val (Value.int IntKind.i64 j0)), AV.dv (DV.val (Value.string s1)), AV.dv (DV.val (Value.string s2)), AV.dv (DV.val (Value.string s3)), AV.sl b4 [Kd.b, Kd.i IntKind.i64, Kd.s] r5 Right.no, AV.sl b6 [Kd.s, Kd.s, Kd.s, Kd.sl [Kd.b, Kd.i IntKind.i64, Kd.s]] r7 Right.no]] [[AV.sl b8 [Kd.i IntKind.i64, Kd.s, Kd.s, Kd.s, Kd.sl [Kd.b, Kd.i IntKind.i64, Kd.s], Kd.sl [Kd.s, Kd.s, Kd.s, Kd.sl [Kd.b, Kd.i IntKind.i64, Kd.s]]] r9 Right.no]] (OSh.chk (OSh.plain (.b) [[.sl [Kd.i IntKind.i64, Kd.s, Kd.s, Kd.s, Kd.sl [Kd.b, Kd.i IntKind.i64, Kd.s], Kd.sl [Kd.s, Kd.s, Kd.s, Kd.sl [Kd.b, Kd.i IntKind.i64, Kd.s]]]]]))
noncomputable def z19_l2 (n : Nat) (j0 : Int) (s1 : ByteArray) (s2 : ByteArray) (s3 : ByteArray) (b4 : Bool) (r5 : Rows) (b6 : Bool) (r7 : Rows) (b8 : Bool) (r9 : Rows) (i0 : Nat) (j13 : Int) : Option (Bool × ((Bool × Rows) × Unit) × Unit) :=
 DM.loopFn tm (z19_Φ n) z19_lv n Try.f26 false [[AV.sl b8 [Kd.i IntKind.i64, Kd.s, Kd.s, Kd.s, Kd.sl [Kd.b, Kd.i IntKind.i64, Kd.s], Kd.sl [Kd.s, Kd.s, Kd.s, Kd.sl [Kd.b, Kd.i IntKind.i64, Kd.s]]] r9 Right.no]] (OSh.chk (OSh.plain (.b) [[.sl [Kd.i IntKind.i64, Kd.s, Kd.s, Kd.s, Kd.sl [Kd.b, Kd.i IntKind.i64, Kd.s], Kd.sl [Kd.s, Kd.s, Kd.s, Kd.sl [Kd.b, Kd.i IntKind.i64, Kd.s]]]]])) 2 [] i0 (St.mk [AV.pl 1000 0, AV.junk, AV.junk, AV.pl 3 0, AV.junk, AV.dv (DV.val (Value.int IntKind.i64 j13)), AV.junk, AV.junk, AV.junk, AV.junk, AV.junk, AV.junk, AV.junk, AV.junk, AV.junk, AV.junk, AV.junk, AV.junk, AV.junk, AV.junk, AV.junk, AV.junk, AV.junk, AV.junk, AV.junk, AV.junk, AV.junk, AV.junk, AV.junk, AV.junk, AV.junk, AV.junk, AV.junk, AV.junk, AV.junk, AV.junk, AV.junk, AV.junk, AV.junk, AV.junk, AV.junk, AV.junk, AV.junk, AV.junk, AV.junk, AV.junk, AV.junk, AV.junk, AV.junk, AV.junk, AV.junk, AV.junk, AV.junk, AV.junk, AV.junk, AV.junk, AV.junk, AV.junk, AV.junk, AV.junk, AV.junk, AV.junk, AV.junk, AV.junk, AV.junk, AV.junk, AV.junk, AV.junk, AV.junk, AV.junk] [(1000, [AV.sl b8 [Kd.i IntKind.i64, Kd.s, Kd.s, Kd.s, Kd.sl [Kd.b, Kd.i IntKind.i64, Kd.s], Kd.sl [Kd.s, Kd.s, Kd.s, Kd.sl [Kd.b, Kd.i IntKind.i64, Kd.s]]] r9 Right.no]), (3, [AV.dv (DV.val (Value.int IntKind.i64 j0)), AV.dv (DV.val (Value.string s1)), AV.dv (DV.val (Value.string s2)), AV.dv (DV.val (Value.string s3)), AV.sl b4 [Kd.b, Kd.i IntKind.i64, Kd.s] r5 Right.no, AV.sl b6 [Kd.s, Kd.s, Kd.s, Kd.sl [Kd.b, Kd.i IntKind.i64, Kd.s]] r7 Right.no])])
theorem z19_s2 (n : Nat) (j0 : Int) (s1 : ByteArray) (s2 : ByteArray) (s3 : ByteArray) (b4 : Bool) (r5 : Rows) (b6 : Bool) (r7 : Rows) (b8 : Bool) (r9 : Rows) (i0 : Nat) (j13 : Int) : z19_l2 n j0 s1 s2 s3 b4 r5 b6 r7 b8 r9 (i0 + 1) j13 =
 bif decide (j13 < (↑(List.length r9) : Int)) then
  if 0 ≤ j13 then
   if j13 < (↑(List.length r9) : Int) then
    obind (z24_v n (Row.I (List.getD r9 (Int.toNat j13) []) 0) (Row.S (List.getD r9 (Int.toNat j13) []) 1) (Row.S (List.getD r9 (Int.toNat j13) []) 2) (Row.S (List.getD r9 (Int.toNat j13) []) 3) (Row.N (List.getD r9 (Int.toNat j13) []) 4) (Row.R (List.getD r9 (Int.toNat j13) []) 4) (Row.N (List.getD r9 (Int.toNat j13) []) 5) (Row.R (List.getD r9 (Int.toNat j13) []) 5) j0 s1 s2 s3 b4 r5 b6 r7) fun y14 =>
    bif decide (y14.fst < 0) then
     z19_l2 n j0 s1 s2 s3 b4 r5 b6 r7 b8 r9 i0 (IntKind.wrap IntKind.i64 (j13 + 1))
    else bif decide (j13 < (↑(List.length r9) : Int)) then
     if 0 ≤ j13 then
      if j13 < (↑(List.length r9) : Int) then
       obind (z24_v n (Row.I (List.getD r9 (Int.toNat j13) []) 0) (Row.S (List.getD r9 (Int.toNat j13) []) 1) (Row.S (List.getD r9 (Int.toNat j13) []) 2) (Row.S (List.getD r9 (Int.toNat j13) []) 3) (Row.N (List.getD r9 (Int.toNat j13) []) 4) (Row.R (List.getD r9 (Int.toNat j13) []) 4) (Row.N (List.getD r9 (Int.toNat j13) []) 5) (Row.R (List.getD r9 (Int.toNat j13) []) 5) j0 s1 s2 s3 b4 r5 b6 r7) fun y15 =>
       bif y15.fst == 0 then
        some (false, (((b8, r9), ()), ()))
       else if 0 ≤ j13 then
        if j13 ≤ (↑(List.length r9) : Int) then
         if (0 + List.length (List.drop 0 (List.take (Int.toNat j13) r9))) * 104 ≤ 140737488355328 then
          if (List.length (appX [] (List.drop 0 (List.take (Int.toNat j13) r9))) + List.length [[DV.val (Value.int IntKind.i64 j0), DV.val (Value.string s1), DV.val (Value.string s2), DV.val (Value.string s3), DV.sl b4 [Kd.b, Kd.i IntKind.i64, Kd.s] r5, DV.sl b6 [Kd.s, Kd.s, Kd.s, Kd.sl [Kd.b, Kd.i IntKind.i64, Kd.s]] r7]]) * 104 ≤ 140737488355328 then
           if 0 ≤ j13 then
            if j13 ≤ (↑(List.length r9) : Int) then
             if (↑(List.length r9) : Int) ≤ (↑(List.length r9) : Int) then
              if (List.length (appX (appX [] (List.drop 0 (List.take (Int.toNat j13) r9))) [[DV.val (Value.int IntKind.i64 j0), DV.val (Value.string s1), DV.val (Value.string s2), DV.val (Value.string s3), DV.sl b4 [Kd.b, Kd.i IntKind.i64, Kd.s] r5, DV.sl b6 [Kd.s, Kd.s, Kd.s, Kd.sl [Kd.b, Kd.i IntKind.i64, Kd.s]] r7]]) + List.length (List.drop (Int.toNat j13) (List.take (Int.toNat (↑(List.length r9) : Int)) r9))) * 104 ≤ 140737488355328 then
               some (true, (((false && List.isEmpty (List.drop 0 (List.take (Int.toNat j13) r9)) && List.isEmpty [[DV.val (Value.int IntKind.i64 j0), DV.val (Value.string s1), DV.val (Value.string s2), DV.val (Value.string s3), DV.sl b4 [Kd.b, Kd.i IntKind.i64, Kd.s] r5, DV.sl b6 [Kd.s, Kd.s, Kd.s, Kd.sl [Kd.b, Kd.i IntKind.i64, Kd.s]] r7]] && List.isEmpty (List.drop (Int.toNat j13) (List.take (Int.toNat (↑(List.length r9) : Int)) r9)), appX (appX (appX [] (List.drop 0 (List.take (Int.toNat j13) r9))) [[DV.val (Value.int IntKind.i64 j0), DV.val (Value.string s1), DV.val (Value.string s2), DV.val (Value.string s3), DV.sl b4 [Kd.b, Kd.i IntKind.i64, Kd.s] r5, DV.sl b6 [Kd.s, Kd.s, Kd.s, Kd.sl [Kd.b, Kd.i IntKind.i64, Kd.s]] r7]]) (List.drop (Int.toNat j13) (List.take (Int.toNat (↑(List.length r9) : Int)) r9))), ()), ()))
              else none
             else none
            else none
           else none
          else none
         else none
        else none
       else none
      else none
     else none
    else if 0 ≤ j13 then
     if j13 ≤ (↑(List.length r9) : Int) then
      if (0 + List.length (List.drop 0 (List.take (Int.toNat j13) r9))) * 104 ≤ 140737488355328 then
       if (List.length (appX [] (List.drop 0 (List.take (Int.toNat j13) r9))) + List.length [[DV.val (Value.int IntKind.i64 j0), DV.val (Value.string s1), DV.val (Value.string s2), DV.val (Value.string s3), DV.sl b4 [Kd.b, Kd.i IntKind.i64, Kd.s] r5, DV.sl b6 [Kd.s, Kd.s, Kd.s, Kd.sl [Kd.b, Kd.i IntKind.i64, Kd.s]] r7]]) * 104 ≤ 140737488355328 then
        if 0 ≤ j13 then
         if j13 ≤ (↑(List.length r9) : Int) then
          if (↑(List.length r9) : Int) ≤ (↑(List.length r9) : Int) then
           if (List.length (appX (appX [] (List.drop 0 (List.take (Int.toNat j13) r9))) [[DV.val (Value.int IntKind.i64 j0), DV.val (Value.string s1), DV.val (Value.string s2), DV.val (Value.string s3), DV.sl b4 [Kd.b, Kd.i IntKind.i64, Kd.s] r5, DV.sl b6 [Kd.s, Kd.s, Kd.s, Kd.sl [Kd.b, Kd.i IntKind.i64, Kd.s]] r7]]) + List.length (List.drop (Int.toNat j13) (List.take (Int.toNat (↑(List.length r9) : Int)) r9))) * 104 ≤ 140737488355328 then
            some (true, (((false && List.isEmpty (List.drop 0 (List.take (Int.toNat j13) r9)) && List.isEmpty [[DV.val (Value.int IntKind.i64 j0), DV.val (Value.string s1), DV.val (Value.string s2), DV.val (Value.string s3), DV.sl b4 [Kd.b, Kd.i IntKind.i64, Kd.s] r5, DV.sl b6 [Kd.s, Kd.s, Kd.s, Kd.sl [Kd.b, Kd.i IntKind.i64, Kd.s]] r7]] && List.isEmpty (List.drop (Int.toNat j13) (List.take (Int.toNat (↑(List.length r9) : Int)) r9)), appX (appX (appX [] (List.drop 0 (List.take (Int.toNat j13) r9))) [[DV.val (Value.int IntKind.i64 j0), DV.val (Value.string s1), DV.val (Value.string s2), DV.val (Value.string s3), DV.sl b4 [Kd.b, Kd.i IntKind.i64, Kd.s] r5, DV.sl b6 [Kd.s, Kd.s, Kd.s, Kd.sl [Kd.b, Kd.i IntKind.i64, Kd.s]] r7]]) (List.drop (Int.toNat j13) (List.take (Int.toNat (↑(List.length r9) : Int)) r9))), ()), ()))
           else none
          else none
         else none
        else none
       else none
      else none
     else none
    else none
   else none
  else none
 else bif decide (j13 < (↑(List.length r9) : Int)) then
  if 0 ≤ j13 then
   if j13 < (↑(List.length r9) : Int) then
    obind (z24_v n (Row.I (List.getD r9 (Int.toNat j13) []) 0) (Row.S (List.getD r9 (Int.toNat j13) []) 1) (Row.S (List.getD r9 (Int.toNat j13) []) 2) (Row.S (List.getD r9 (Int.toNat j13) []) 3) (Row.N (List.getD r9 (Int.toNat j13) []) 4) (Row.R (List.getD r9 (Int.toNat j13) []) 4) (Row.N (List.getD r9 (Int.toNat j13) []) 5) (Row.R (List.getD r9 (Int.toNat j13) []) 5) j0 s1 s2 s3 b4 r5 b6 r7) fun y16 =>
    bif y16.fst == 0 then
     some (false, (((b8, r9), ()), ()))
    else if 0 ≤ j13 then
     if j13 ≤ (↑(List.length r9) : Int) then
      if (0 + List.length (List.drop 0 (List.take (Int.toNat j13) r9))) * 104 ≤ 140737488355328 then
       if (List.length (appX [] (List.drop 0 (List.take (Int.toNat j13) r9))) + List.length [[DV.val (Value.int IntKind.i64 j0), DV.val (Value.string s1), DV.val (Value.string s2), DV.val (Value.string s3), DV.sl b4 [Kd.b, Kd.i IntKind.i64, Kd.s] r5, DV.sl b6 [Kd.s, Kd.s, Kd.s, Kd.sl [Kd.b, Kd.i IntKind.i64, Kd.s]] r7]]) * 104 ≤ 140737488355328 then
        if 0 ≤ j13 then
         if j13 ≤ (↑(List.length r9) : Int) then
          if (↑(List.length r9) : Int) ≤ (↑(List.length r9) : Int) then
           if (List.length (appX (appX [] (List.drop 0 (List.take (Int.toNat j13) r9))) [[DV.val (Value.int IntKind.i64 j0), DV.val (Value.string s1), DV.val (Value.string s2), DV.val (Value.string s3), DV.sl b4 [Kd.b, Kd.i IntKind.i64, Kd.s] r5, DV.sl b6 [Kd.s, Kd.s, Kd.s, Kd.sl [Kd.b, Kd.i IntKind.i64, Kd.s]] r7]]) + List.length (List.drop (Int.toNat j13) (List.take (Int.toNat (↑(List.length r9) : Int)) r9))) * 104 ≤ 140737488355328 then
            some (true, (((false && List.isEmpty (List.drop 0 (List.take (Int.toNat j13) r9)) && List.isEmpty [[DV.val (Value.int IntKind.i64 j0), DV.val (Value.string s1), DV.val (Value.string s2), DV.val (Value.string s3), DV.sl b4 [Kd.b, Kd.i IntKind.i64, Kd.s] r5, DV.sl b6 [Kd.s, Kd.s, Kd.s, Kd.sl [Kd.b, Kd.i IntKind.i64, Kd.s]] r7]] && List.isEmpty (List.drop (Int.toNat j13) (List.take (Int.toNat (↑(List.length r9) : Int)) r9)), appX (appX (appX [] (List.drop 0 (List.take (Int.toNat j13) r9))) [[DV.val (Value.int IntKind.i64 j0), DV.val (Value.string s1), DV.val (Value.string s2), DV.val (Value.string s3), DV.sl b4 [Kd.b, Kd.i IntKind.i64, Kd.s] r5, DV.sl b6 [Kd.s, Kd.s, Kd.s, Kd.sl [Kd.b, Kd.i IntKind.i64, Kd.s]] r7]]) (List.drop (Int.toNat j13) (List.take (Int.toNat (↑(List.length r9) : Int)) r9))), ()), ()))
           else none
          else none
         else none
        else none
       else none
      else none
     else none
    else none
   else none
  else none
 else if 0 ≤ j13 then
  if j13 ≤ (↑(List.length r9) : Int) then
   if (0 + List.length (List.drop 0 (List.take (Int.toNat j13) r9))) * 104 ≤ 140737488355328 then
    if (List.length (appX [] (List.drop 0 (List.take (Int.toNat j13) r9))) + List.length [[DV.val (Value.int IntKind.i64 j0), DV.val (Value.string s1), DV.val (Value.string s2), DV.val (Value.string s3), DV.sl b4 [Kd.b, Kd.i IntKind.i64, Kd.s] r5, DV.sl b6 [Kd.s, Kd.s, Kd.s, Kd.sl [Kd.b, Kd.i IntKind.i64, Kd.s]] r7]]) * 104 ≤ 140737488355328 then
     if 0 ≤ j13 then
      if j13 ≤ (↑(List.length r9) : Int) then
       if (↑(List.length r9) : Int) ≤ (↑(List.length r9) : Int) then
        if (List.length (appX (appX [] (List.drop 0 (List.take (Int.toNat j13) r9))) [[DV.val (Value.int IntKind.i64 j0), DV.val (Value.string s1), DV.val (Value.string s2), DV.val (Value.string s3), DV.sl b4 [Kd.b, Kd.i IntKind.i64, Kd.s] r5, DV.sl b6 [Kd.s, Kd.s, Kd.s, Kd.sl [Kd.b, Kd.i IntKind.i64, Kd.s]] r7]]) + List.length (List.drop (Int.toNat j13) (List.take (Int.toNat (↑(List.length r9) : Int)) r9))) * 104 ≤ 140737488355328 then
         some (true, (((false && List.isEmpty (List.drop 0 (List.take (Int.toNat j13) r9)) && List.isEmpty [[DV.val (Value.int IntKind.i64 j0), DV.val (Value.string s1), DV.val (Value.string s2), DV.val (Value.string s3), DV.sl b4 [Kd.b, Kd.i IntKind.i64, Kd.s] r5, DV.sl b6 [Kd.s, Kd.s, Kd.s, Kd.sl [Kd.b, Kd.i IntKind.i64, Kd.s]] r7]] && List.isEmpty (List.drop (Int.toNat j13) (List.take (Int.toNat (↑(List.length r9) : Int)) r9)), appX (appX (appX [] (List.drop 0 (List.take (Int.toNat j13) r9))) [[DV.val (Value.int IntKind.i64 j0), DV.val (Value.string s1), DV.val (Value.string s2), DV.val (Value.string s3), DV.sl b4 [Kd.b, Kd.i IntKind.i64, Kd.s] r5, DV.sl b6 [Kd.s, Kd.s, Kd.s, Kd.sl [Kd.b, Kd.i IntKind.i64, Kd.s]] r7]]) (List.drop (Int.toNat j13) (List.take (Int.toNat (↑(List.length r9) : Int)) r9))), ()), ()))
        else none
       else none
      else none
     else none
    else none
   else none
  else none
 else none := by kernel_rfl
theorem z19_e (n : Nat) (j0 : Int) (s1 : ByteArray) (s2 : ByteArray) (s3 : ByteArray) (b4 : Bool) (r5 : Rows) (b6 : Bool) (r7 : Rows) (b8 : Bool) (r9 : Rows) : z19_v n j0 s1 s2 s3 b4 r5 b6 r7 b8 r9 =
 z19_l2 n j0 s1 s2 s3 b4 r5 b6 r7 b8 r9 n 0 := by kernel_rfl
theorem z19_c (n : Nat) (j0 : Int) (s1 : ByteArray) (s2 : ByteArray) (s3 : ByteArray) (b4 : Bool) (r5 : Rows) (b6 : Bool) (r7 : Rows) (b8 : Bool) (r9 : Rows) (y : Bool × ((Bool × Rows) × Unit) × Unit) (h : z19_v n j0 s1 s2 s3 b4 r5 b6 r7 b8 r9 = some y) : Contract Try.prog 26 [AV.pl 1000 0, AV.agg [AV.dv (DV.val (Value.int IntKind.i64 j0)), AV.dv (DV.val (Value.string s1)), AV.dv (DV.val (Value.string s2)), AV.dv (DV.val (Value.string s3)), AV.sl b4 [Kd.b, Kd.i IntKind.i64, Kd.s] r5 Right.no, AV.sl b6 [Kd.s, Kd.s, Kd.s, Kd.sl [Kd.b, Kd.i IntKind.i64, Kd.s]] r7 Right.no]] [[AV.sl b8 [Kd.i IntKind.i64, Kd.s, Kd.s, Kd.s, Kd.sl [Kd.b, Kd.i IntKind.i64, Kd.s], Kd.sl [Kd.s, Kd.s, Kd.s, Kd.sl [Kd.b, Kd.i IntKind.i64, Kd.s]]] r9 Right.no]] (OSh.enc (OSh.plain (.b) [[.sl [Kd.i IntKind.i64, Kd.s, Kd.s, Kd.s, Kd.sl [Kd.b, Kd.i IntKind.i64, Kd.s], Kd.sl [Kd.s, Kd.s, Kd.s, Kd.sl [Kd.b, Kd.i IntKind.i64, Kd.s]]]]]) y) :=
 auto_okM tm_std (with_ok mixed (by kernel_rfl) (z19_σok n) n 0 [1000045, 1000059]) (with_pick mixed (by kernel_rfl) (z19_σok n) n 0 [1000045, 1000059]) mixed Try.func26 (by decide) (o := (OSh.plain (.b) [[.sl [Kd.i IntKind.i64, Kd.s, Kd.s, Kd.s, Kd.sl [Kd.b, Kd.i IntKind.i64, Kd.s], Kd.sl [Kd.s, Kd.s, Kd.s, Kd.sl [Kd.b, Kd.i IntKind.i64, Kd.s]]]]])) h
def z39_lv : Live := [(4, [0, 4, 5, 6], [7, 9, 307, 607, 1000, 1001, 1002, 1003]), (1000003, [3, 9], [])]
noncomputable def z39_σ (n : Nat) : Spec := (inst 24 [] [] (OSh.plain (.pl 1000 0) [[.sl [Kd.i IntKind.i64, Kd.s, Kd.s, Kd.s, Kd.sl [Kd.b, Kd.i IntKind.i64, Kd.s], Kd.sl [Kd.s, Kd.s, Kd.s, Kd.sl [Kd.b, Kd.i IntKind.i64, Kd.s]]], .b]]) (fun x e => z53_v n) (inst 25 [.pl 1000 0, .agg [.i IntKind.i64, .s, .s, .s, .sl [Kd.b, Kd.i IntKind.i64, Kd.s], .sl [Kd.s, Kd.s, Kd.s, Kd.sl [Kd.b, Kd.i IntKind.i64, Kd.s]]]] [[.sl [Kd.i IntKind.i64, Kd.s, Kd.s, Kd.s, Kd.sl [Kd.b, Kd.i IntKind.i64, Kd.s], Kd.sl [Kd.s, Kd.s, Kd.s, Kd.sl [Kd.b, Kd.i IntKind.i64, Kd.s]]], .b]] (OSh.plain (.b) [[.sl [Kd.i IntKind.i64, Kd.s, Kd.s, Kd.s, Kd.sl [Kd.b, Kd.i IntKind.i64, Kd.s], Kd.sl [Kd.s, Kd.s, Kd.s, Kd.sl [Kd.b, Kd.i IntKind.i64, Kd.s]]], .b]]) (fun x e => z27_v n x.2.1.1 x.2.1.2.1 x.2.1.2.2.1 x.2.1.2.2.2.1 x.2.1.2.2.2.2.1.1 x.2.1.2.2.2.2.1.2 x.2.1.2.2.2.2.2.1.1 x.2.1.2.2.2.2.2.1.2 e.1.1.1 e.1.1.2 e.1.2.1) (inst 26 [.pl 1000 0, .agg [.i IntKind.i64, .s, .s, .s, .sl [Kd.b, Kd.i IntKind.i64, Kd.s], .sl [Kd.s, Kd.s, Kd.s, Kd.sl [Kd.b, Kd.i IntKind.i64, Kd.s]]]] [[.sl [Kd.i IntKind.i64, Kd.s, Kd.s, Kd.s, Kd.sl [Kd.b, Kd.i IntKind.i64, Kd.s], Kd.sl [Kd.s, Kd.s, Kd.s, Kd.sl [Kd.b, Kd.i IntKind.i64, Kd.s]]]]] (OSh.plain (.b) [[.sl [Kd.i IntKind.i64, Kd.s, Kd.s, Kd.s, Kd.sl [Kd.b, Kd.i IntKind.i64, Kd.s], Kd.sl [Kd.s, Kd.s, Kd.s, Kd.sl [Kd.b, Kd.i IntKind.i64, Kd.s]]]]]) (fun x e => z19_v n x.2.1.1 x.2.1.2.1 x.2.1.2.2.1 x.2.1.2.2.2.1 x.2.1.2.2.2.2.1.1 x.2.1.2.2.2.2.1.2 x.2.1.2.2.2.2.2.1.1 x.2.1.2.2.2.2.2.1.2 e.1.1.1 e.1.1.2) (bookH Spec.none))))
theorem z39_σok (n : Nat) : SpecOk Try.prog (z39_σ n) := (inst_ok (fun x e y h => z53_c n y h) (inst_ok (fun x e y h => z27_c n x.2.1.1 x.2.1.2.1 x.2.1.2.2.1 x.2.1.2.2.2.1 x.2.1.2.2.2.2.1.1 x.2.1.2.2.2.2.1.2 x.2.1.2.2.2.2.2.1.1 x.2.1.2.2.2.2.2.1.2 e.1.1.1 e.1.1.2 e.1.2.1 y h) (inst_ok (fun x e y h => z19_c n x.2.1.1 x.2.1.2.1 x.2.1.2.2.1 x.2.1.2.2.2.1 x.2.1.2.2.2.2.1.1 x.2.1.2.2.2.2.1.2 x.2.1.2.2.2.2.2.1.1 x.2.1.2.2.2.2.2.1.2 e.1.1.1 e.1.1.2 y h) (bookH_ok (SpecOk.none _)))))
noncomputable def z39_Φ (n : Nat) : Orc := with_ Try.prog (z39_σ n) [] n 0 [1000045, 1000059]
noncomputable def z39_v (n : Nat) (b0 : Bool) (r1 : Rows) : Option ((Unit × Unit × Unit) × ((Bool × Rows) × Bool × Unit) × ((Bool × Rows) × Unit) × Unit) :=
 DM.denFnN tm (z39_Φ n) z39_lv n Try.f11 [7,9] [AV.sl b0 [Kd.i IntKind.i64, Kd.s, Kd.s, Kd.s, Kd.sl [Kd.b, Kd.i IntKind.i64, Kd.s], Kd.sl [Kd.s, Kd.s, Kd.s, Kd.sl [Kd.b, Kd.i IntKind.i64, Kd.s]]] r1 Right.no] [] (OSh.chk (OSh.plain (.tup [.pl 1000 0, .pl 1001 0]) [[.sl [Kd.i IntKind.i64, Kd.s, Kd.s, Kd.s, Kd.sl [Kd.b, Kd.i IntKind.i64, Kd.s], Kd.sl [Kd.s, Kd.s, Kd.s, Kd.sl [Kd.b, Kd.i IntKind.i64, Kd.s]]], .b], [.sl [Kd.i IntKind.i64, Kd.s, Kd.s, Kd.s, Kd.sl [Kd.b, Kd.i IntKind.i64, Kd.s], Kd.sl [Kd.s, Kd.s, Kd.s, Kd.sl [Kd.b, Kd.i IntKind.i64, Kd.s]]]]]))
noncomputable def z39_l4 (n : Nat) (b0 : Bool) (r1 : Rows) (i0 : Nat) (b3 : Bool) (r4 : List (List DV)) (b5 : Bool) (j8 : Int) (b9 : Bool) (r10 : List (List DV)) : Option ((Unit × Unit × Unit) × ((Bool × Rows) × Bool × Unit) × ((Bool × Rows) × Unit) × Unit) :=
 DM.loopFnN tm (z39_Φ n) z39_lv n Try.f11 [7,9] [] (OSh.chk (OSh.plain (.tup [.pl 1000 0, .pl 1001 0]) [[.sl [Kd.i IntKind.i64, Kd.s, Kd.s, Kd.s, Kd.sl [Kd.b, Kd.i IntKind.i64, Kd.s], Kd.sl [Kd.s, Kd.s, Kd.s, Kd.sl [Kd.b, Kd.i IntKind.i64, Kd.s]]], .b], [.sl [Kd.i IntKind.i64, Kd.s, Kd.s, Kd.s, Kd.sl [Kd.b, Kd.i IntKind.i64, Kd.s], Kd.sl [Kd.s, Kd.s, Kd.s, Kd.sl [Kd.b, Kd.i IntKind.i64, Kd.s]]]]])) 4 [] i0 (St.mk [AV.sl b0 [Kd.i IntKind.i64, Kd.s, Kd.s, Kd.s, Kd.sl [Kd.b, Kd.i IntKind.i64, Kd.s], Kd.sl [Kd.s, Kd.s, Kd.s, Kd.sl [Kd.b, Kd.i IntKind.i64, Kd.s]]] r1 Right.no, AV.junk, AV.junk, AV.junk, AV.pl 7 0, AV.pl 9 0, AV.dv (DV.val (Value.int IntKind.i64 j8)), AV.junk, AV.junk, AV.junk, AV.junk, AV.junk, AV.junk, AV.junk, AV.junk, AV.junk, AV.junk, AV.junk, AV.junk, AV.junk, AV.junk, AV.junk, AV.junk, AV.junk, AV.junk, AV.junk, AV.junk, AV.junk, AV.junk, AV.junk] [(7, [AV.sl b3 [Kd.i IntKind.i64, Kd.s, Kd.s, Kd.s, Kd.sl [Kd.b, Kd.i IntKind.i64, Kd.s], Kd.sl [Kd.s, Kd.s, Kd.s, Kd.sl [Kd.b, Kd.i IntKind.i64, Kd.s]]] r4 Right.no, AV.dv (DV.val (Value.bool b5))]), (9, [AV.sl b9 [Kd.i IntKind.i64, Kd.s, Kd.s, Kd.s, Kd.sl [Kd.b, Kd.i IntKind.i64, Kd.s], Kd.sl [Kd.s, Kd.s, Kd.s, Kd.sl [Kd.b, Kd.i IntKind.i64, Kd.s]]] r10 Right.no])])
theorem z39_s4 (n : Nat) (b0 : Bool) (r1 : Rows) (i0 : Nat) (b3 : Bool) (r4 : List (List DV)) (b5 : Bool) (j8 : Int) (b9 : Bool) (r10 : List (List DV)) : z39_l4 n b0 r1 (i0 + 1) b3 r4 b5 j8 b9 r10 =
 bif decide (j8 < (↑(List.length r1) : Int)) then
  if 0 ≤ j8 then
   if j8 < (↑(List.length r1) : Int) then
    obind (z27_v n (Row.I (List.getD r1 (Int.toNat j8) []) 0) (Row.S (List.getD r1 (Int.toNat j8) []) 1) (Row.S (List.getD r1 (Int.toNat j8) []) 2) (Row.S (List.getD r1 (Int.toNat j8) []) 3) (Row.N (List.getD r1 (Int.toNat j8) []) 4) (Row.R (List.getD r1 (Int.toNat j8) []) 4) (Row.N (List.getD r1 (Int.toNat j8) []) 5) (Row.R (List.getD r1 (Int.toNat j8) []) 5) b3 r4 b5) fun y11 =>
    if 0 ≤ j8 then
     if j8 < (↑(List.length r1) : Int) then
      obind (z19_v n (Row.I (List.getD r1 (Int.toNat j8) []) 0) (Row.S (List.getD r1 (Int.toNat j8) []) 1) (Row.S (List.getD r1 (Int.toNat j8) []) 2) (Row.S (List.getD r1 (Int.toNat j8) []) 3) (Row.N (List.getD r1 (Int.toNat j8) []) 4) (Row.R (List.getD r1 (Int.toNat j8) []) 4) (Row.N (List.getD r1 (Int.toNat j8) []) 5) (Row.R (List.getD r1 (Int.toNat j8) []) 5) b9 r10) fun y12 =>
      z39_l4 n b0 r1 i0 y11.snd.fst.fst.fst y11.snd.fst.fst.snd y11.snd.fst.snd.fst (IntKind.wrap IntKind.i64 (j8 + 1)) y12.snd.fst.fst.fst y12.snd.fst.fst.snd
     else none
    else none
   else none
  else none
 else some (((), ((), ())), (((b3, r4), (b5, ())), (((b9, r10), ()), ()))) := by kernel_rfl
theorem z39_e (n : Nat) (b0 : Bool) (r1 : Rows) : z39_v n b0 r1 =
 obind (z53_v n) fun y2 =>
 z39_l4 n b0 r1 n y2.snd.fst.fst.fst y2.snd.fst.fst.snd y2.snd.fst.snd.fst 0 true [] := by kernel_rfl
theorem z39_c (n : Nat) (b0 : Bool) (r1 : Rows) (y : (Unit × Unit × Unit) × ((Bool × Rows) × Bool × Unit) × ((Bool × Rows) × Unit) × Unit) (h : z39_v n b0 r1 = some y) : Contract Try.prog 11 [AV.sl b0 [Kd.i IntKind.i64, Kd.s, Kd.s, Kd.s, Kd.sl [Kd.b, Kd.i IntKind.i64, Kd.s], Kd.sl [Kd.s, Kd.s, Kd.s, Kd.sl [Kd.b, Kd.i IntKind.i64, Kd.s]]] r1 Right.no] [] (OSh.enc (OSh.plain (.tup [.pl 1000 0, .pl 1001 0]) [[.sl [Kd.i IntKind.i64, Kd.s, Kd.s, Kd.s, Kd.sl [Kd.b, Kd.i IntKind.i64, Kd.s], Kd.sl [Kd.s, Kd.s, Kd.s, Kd.sl [Kd.b, Kd.i IntKind.i64, Kd.s]]], .b], [.sl [Kd.i IntKind.i64, Kd.s, Kd.s, Kd.s, Kd.sl [Kd.b, Kd.i IntKind.i64, Kd.s], Kd.sl [Kd.s, Kd.s, Kd.s, Kd.sl [Kd.b, Kd.i IntKind.i64, Kd.s]]]]]) y) :=
 autoN_okM tm_std (with_ok mixed (by kernel_rfl) (z39_σok n) n 0 [1000045, 1000059]) mixed Try.func11 (by decide) (o := (OSh.plain (.tup [.pl 1000 0, .pl 1001 0]) [[.sl [Kd.i IntKind.i64, Kd.s, Kd.s, Kd.s, Kd.sl [Kd.b, Kd.i IntKind.i64, Kd.s], Kd.sl [Kd.s, Kd.s, Kd.s, Kd.sl [Kd.b, Kd.i IntKind.i64, Kd.s]]], .b], [.sl [Kd.i IntKind.i64, Kd.s, Kd.s, Kd.s, Kd.sl [Kd.b, Kd.i IntKind.i64, Kd.s], Kd.sl [Kd.s, Kd.s, Kd.s, Kd.sl [Kd.b, Kd.i IntKind.i64, Kd.s]]]]])) h
def z44_lv : Live := [(3, [0, 3, 4], [1000, 1001, 1002, 1003])]
noncomputable def z44_σ (n : Nat) : Spec := (bookH Spec.none)
theorem z44_σok (n : Nat) : SpecOk Try.prog (z44_σ n) := (bookH_ok (SpecOk.none _))
noncomputable def z44_Φ (n : Nat) : Orc := with_ Try.prog (z44_σ n) [] n 0 [1000045, 1000059]
noncomputable def z44_v (n : Nat) (b0 : Bool) (r1 : Rows) : Option ((Bool × Rows) × Unit) :=
 DM.denFn tm (z44_Φ n) z44_lv n Try.f12 true [AV.sl b0 [Kd.s, Kd.s, Kd.s, Kd.sl [Kd.b, Kd.i IntKind.i64, Kd.s]] r1 Right.no] [] (OSh.chk (OSh.plain (.slt [Kd.s, Kd.s, Kd.s, Kd.sl [Kd.b, Kd.i IntKind.i64, Kd.s]] 0) []))
noncomputable def z44_l3 (n : Nat) (b0 : Bool) (r1 : Rows) (i0 : Nat) (b2 : Bool) (r3 : List (List DV)) (j4 : Int) : Option ((Bool × Rows) × Unit) :=
 DM.loopFn tm (z44_Φ n) z44_lv n Try.f12 true [] (OSh.chk (OSh.plain (.slt [Kd.s, Kd.s, Kd.s, Kd.sl [Kd.b, Kd.i IntKind.i64, Kd.s]] 0) [])) 3 [] i0 (St.mk [AV.sl b0 [Kd.s, Kd.s, Kd.s, Kd.sl [Kd.b, Kd.i IntKind.i64, Kd.s]] r1 Right.no, AV.junk, AV.junk, AV.sl b2 [Kd.s, Kd.s, Kd.s, Kd.sl [Kd.b, Kd.i IntKind.i64, Kd.s]] r3 (Right.tok 3), AV.dv (DV.val (Value.int IntKind.i64 j4)), AV.junk, AV.junk, AV.junk, AV.junk, AV.junk, AV.junk, AV.junk, AV.junk, AV.junk, AV.junk, AV.junk, AV.junk, AV.junk, AV.junk, AV.junk, AV.junk, AV.junk, AV.junk, AV.junk, AV.junk, AV.junk] [])
theorem z44_s3 (n : Nat) (b0 : Bool) (r1 : Rows) (i0 : Nat) (b2 : Bool) (r3 : List (List DV)) (j4 : Int) : z44_l3 n b0 r1 (i0 + 1) b2 r3 j4 =
 bif decide (j4 < (↑(List.length r1) : Int)) then
  if 0 ≤ j4 then
   if j4 < (↑(List.length r1) : Int) then
    if (0 + List.length (Row.R (List.getD r1 (Int.toNat j4) []) 3)) * 32 ≤ 140737488355328 then
     if (List.length r3 + List.length [[DV.val (Value.string (Row.S (List.getD r1 (Int.toNat j4) []) 0)), DV.val (Value.string (Row.S (List.getD r1 (Int.toNat j4) []) 1)), DV.val (Value.string (Row.S (List.getD r1 (Int.toNat j4) []) 2)), DV.sl (false && List.isEmpty (Row.R (List.getD r1 (Int.toNat j4) []) 3)) [Kd.b, Kd.i IntKind.i64, Kd.s] (appX [] (Row.R (List.getD r1 (Int.toNat j4) []) 3))]]) * 72 ≤ 140737488355328 then
      z44_l3 n b0 r1 i0 (b2 && List.isEmpty [[DV.val (Value.string (Row.S (List.getD r1 (Int.toNat j4) []) 0)), DV.val (Value.string (Row.S (List.getD r1 (Int.toNat j4) []) 1)), DV.val (Value.string (Row.S (List.getD r1 (Int.toNat j4) []) 2)), DV.sl (false && List.isEmpty (Row.R (List.getD r1 (Int.toNat j4) []) 3)) [Kd.b, Kd.i IntKind.i64, Kd.s] (appX [] (Row.R (List.getD r1 (Int.toNat j4) []) 3))]]) (appX r3 [[DV.val (Value.string (Row.S (List.getD r1 (Int.toNat j4) []) 0)), DV.val (Value.string (Row.S (List.getD r1 (Int.toNat j4) []) 1)), DV.val (Value.string (Row.S (List.getD r1 (Int.toNat j4) []) 2)), DV.sl (false && List.isEmpty (Row.R (List.getD r1 (Int.toNat j4) []) 3)) [Kd.b, Kd.i IntKind.i64, Kd.s] (appX [] (Row.R (List.getD r1 (Int.toNat j4) []) 3))]]) (IntKind.wrap IntKind.i64 (j4 + 1))
     else none
    else none
   else none
  else none
 else some ((b2, r3), ()) := by kernel_rfl
theorem z44_e (n : Nat) (b0 : Bool) (r1 : Rows) : z44_v n b0 r1 =
 z44_l3 n b0 r1 n true [] 0 := by kernel_rfl
theorem z44_c (n : Nat) (b0 : Bool) (r1 : Rows) (y : (Bool × Rows) × Unit) (h : z44_v n b0 r1 = some y) : Contract Try.prog 12 [AV.sl b0 [Kd.s, Kd.s, Kd.s, Kd.sl [Kd.b, Kd.i IntKind.i64, Kd.s]] r1 Right.no] [] (OSh.enc (OSh.plain (.slt [Kd.s, Kd.s, Kd.s, Kd.sl [Kd.b, Kd.i IntKind.i64, Kd.s]] 0) []) y) :=
 auto_okM tm_std (with_ok mixed (by kernel_rfl) (z44_σok n) n 0 [1000045, 1000059]) (with_pick mixed (by kernel_rfl) (z44_σok n) n 0 [1000045, 1000059]) mixed Try.func12 (by decide) (o := (OSh.plain (.slt [Kd.s, Kd.s, Kd.s, Kd.sl [Kd.b, Kd.i IntKind.i64, Kd.s]] 0) [])) h
def z43_lv : Live := [(2, [0, 3, 5], [3, 1000, 1001, 1002, 1003])]
noncomputable def z43_σ (n : Nat) : Spec := (inst 35 [.agg [.s, .s, .s, .sl [Kd.b, Kd.i IntKind.i64, Kd.s]], .agg [.s, .s, .s, .sl [Kd.b, Kd.i IntKind.i64, Kd.s]]] [] (OSh.plain (.i IntKind.i64) []) (fun x e => z34_v n x.1.1 x.1.2.1 x.1.2.2.1 x.1.2.2.2.1.1 x.1.2.2.2.1.2 x.2.1.1 x.2.1.2.1 x.2.1.2.2.1 x.2.1.2.2.2.1.1 x.2.1.2.2.2.1.2) (bookH Spec.none))
theorem z43_σok (n : Nat) : SpecOk Try.prog (z43_σ n) := (inst_ok (fun x e y h => z34_c n x.1.1 x.1.2.1 x.1.2.2.1 x.1.2.2.2.1.1 x.1.2.2.2.1.2 x.2.1.1 x.2.1.2.1 x.2.1.2.2.1 x.2.1.2.2.2.1.1 x.2.1.2.2.2.1.2 y h) (bookH_ok (SpecOk.none _)))
noncomputable def z43_Φ (n : Nat) : Orc := with_ Try.prog (z43_σ n) [] n 0 [1000045, 1000059]
noncomputable def z43_v (n : Nat) (b0 : Bool) (r1 : Rows) (s2 : ByteArray) (s3 : ByteArray) (s4 : ByteArray) (b5 : Bool) (r6 : Rows) : Option ((Bool × Rows) × Unit) :=
 DM.denFn tm (z43_Φ n) z43_lv n Try.f45 true [AV.sl b0 [Kd.s, Kd.s, Kd.s, Kd.sl [Kd.b, Kd.i IntKind.i64, Kd.s]] r1 (Right.tok 500000), AV.agg [AV.dv (DV.val (Value.string s2)), AV.dv (DV.val (Value.string s3)), AV.dv (DV.val (Value.string s4)), AV.sl b5 [Kd.b, Kd.i IntKind.i64, Kd.s] r6 Right.no]] [] (OSh.chk (OSh.plain (.slt [Kd.s, Kd.s, Kd.s, Kd.sl [Kd.b, Kd.i IntKind.i64, Kd.s]] 0) []))
noncomputable def z43_l2 (n : Nat) (b0 : Bool) (r1 : Rows) (s2 : ByteArray) (s3 : ByteArray) (s4 : ByteArray) (b5 : Bool) (r6 : Rows) (i0 : Nat) (j10 : Int) : Option ((Bool × Rows) × Unit) :=
 DM.loopFn tm (z43_Φ n) z43_lv n Try.f45 true [] (OSh.chk (OSh.plain (.slt [Kd.s, Kd.s, Kd.s, Kd.sl [Kd.b, Kd.i IntKind.i64, Kd.s]] 0) [])) 2 [] i0 (St.mk [AV.sl b0 [Kd.s, Kd.s, Kd.s, Kd.sl [Kd.b, Kd.i IntKind.i64, Kd.s]] r1 (Right.tok 0), AV.junk, AV.junk, AV.pl 3 0, AV.junk, AV.dv (DV.val (Value.int IntKind.i64 j10)), AV.junk, AV.junk, AV.junk, AV.junk, AV.junk, AV.junk, AV.junk, AV.junk, AV.junk, AV.junk, AV.junk, AV.junk, AV.junk, AV.junk, AV.junk, AV.junk, AV.junk, AV.junk, AV.junk, AV.junk, AV.junk, AV.junk, AV.junk, AV.junk, AV.junk, AV.junk, AV.junk, AV.junk, AV.junk, AV.junk, AV.junk, AV.junk, AV.junk, AV.junk, AV.junk, AV.junk, AV.junk, AV.junk, AV.junk, AV.junk, AV.junk, AV.junk, AV.junk, AV.junk] [(3, [AV.dv (DV.val (Value.string s2)), AV.dv (DV.val (Value.string s3)), AV.dv (DV.val (Value.string s4)), AV.sl b5 [Kd.b, Kd.i IntKind.i64, Kd.s] r6 Right.no])])
theorem z43_s2 (n : Nat) (b0 : Bool) (r1 : Rows) (s2 : ByteArray) (s3 : ByteArray) (s4 : ByteArray) (b5 : Bool) (r6 : Rows) (i0 : Nat) (j10 : Int) : z43_l2 n b0 r1 s2 s3 s4 b5 r6 (i0 + 1) j10 =
 bif decide (j10 < (↑(List.length r1) : Int)) then
  if 0 ≤ j10 then
   if j10 < (↑(List.length r1) : Int) then
    obind (z34_v n (Row.S (List.getD r1 (Int.toNat j10) []) 0) (Row.S (List.getD r1 (Int.toNat j10) []) 1) (Row.S (List.getD r1 (Int.toNat j10) []) 2) (Row.N (List.getD r1 (Int.toNat j10) []) 3) (Row.R (List.getD r1 (Int.toNat j10) []) 3) s2 s3 s4 b5 r6) fun y11 =>
    bif decide (y11.fst < 0) then
     z43_l2 n b0 r1 s2 s3 s4 b5 r6 i0 (IntKind.wrap IntKind.i64 (j10 + 1))
    else bif decide (j10 < (↑(List.length r1) : Int)) then
     if 0 ≤ j10 then
      if j10 < (↑(List.length r1) : Int) then
       obind (z34_v n (Row.S (List.getD r1 (Int.toNat j10) []) 0) (Row.S (List.getD r1 (Int.toNat j10) []) 1) (Row.S (List.getD r1 (Int.toNat j10) []) 2) (Row.N (List.getD r1 (Int.toNat j10) []) 3) (Row.R (List.getD r1 (Int.toNat j10) []) 3) s2 s3 s4 b5 r6) fun y12 =>
       bif y12.fst == 0 then
        some ((b0, r1), ())
       else if 0 ≤ j10 then
        if j10 ≤ (↑(List.length r1) : Int) then
         if (0 + List.length (List.drop 0 (List.take (Int.toNat j10) r1))) * 72 ≤ 140737488355328 then
          if (List.length (appX [] (List.drop 0 (List.take (Int.toNat j10) r1))) + List.length [[DV.val (Value.string s2), DV.val (Value.string s3), DV.val (Value.string s4), DV.sl b5 [Kd.b, Kd.i IntKind.i64, Kd.s] r6]]) * 72 ≤ 140737488355328 then
           if 0 ≤ j10 then
            if j10 ≤ (↑(List.length r1) : Int) then
             if (↑(List.length r1) : Int) ≤ (↑(List.length r1) : Int) then
              if (List.length (appX (appX [] (List.drop 0 (List.take (Int.toNat j10) r1))) [[DV.val (Value.string s2), DV.val (Value.string s3), DV.val (Value.string s4), DV.sl b5 [Kd.b, Kd.i IntKind.i64, Kd.s] r6]]) + List.length (List.drop (Int.toNat j10) (List.take (Int.toNat (↑(List.length r1) : Int)) r1))) * 72 ≤ 140737488355328 then
               some ((false && List.isEmpty (List.drop 0 (List.take (Int.toNat j10) r1)) && List.isEmpty [[DV.val (Value.string s2), DV.val (Value.string s3), DV.val (Value.string s4), DV.sl b5 [Kd.b, Kd.i IntKind.i64, Kd.s] r6]] && List.isEmpty (List.drop (Int.toNat j10) (List.take (Int.toNat (↑(List.length r1) : Int)) r1)), appX (appX (appX [] (List.drop 0 (List.take (Int.toNat j10) r1))) [[DV.val (Value.string s2), DV.val (Value.string s3), DV.val (Value.string s4), DV.sl b5 [Kd.b, Kd.i IntKind.i64, Kd.s] r6]]) (List.drop (Int.toNat j10) (List.take (Int.toNat (↑(List.length r1) : Int)) r1))), ())
              else none
             else none
            else none
           else none
          else none
         else none
        else none
       else none
      else none
     else none
    else if 0 ≤ j10 then
     if j10 ≤ (↑(List.length r1) : Int) then
      if (0 + List.length (List.drop 0 (List.take (Int.toNat j10) r1))) * 72 ≤ 140737488355328 then
       if (List.length (appX [] (List.drop 0 (List.take (Int.toNat j10) r1))) + List.length [[DV.val (Value.string s2), DV.val (Value.string s3), DV.val (Value.string s4), DV.sl b5 [Kd.b, Kd.i IntKind.i64, Kd.s] r6]]) * 72 ≤ 140737488355328 then
        if 0 ≤ j10 then
         if j10 ≤ (↑(List.length r1) : Int) then
          if (↑(List.length r1) : Int) ≤ (↑(List.length r1) : Int) then
           if (List.length (appX (appX [] (List.drop 0 (List.take (Int.toNat j10) r1))) [[DV.val (Value.string s2), DV.val (Value.string s3), DV.val (Value.string s4), DV.sl b5 [Kd.b, Kd.i IntKind.i64, Kd.s] r6]]) + List.length (List.drop (Int.toNat j10) (List.take (Int.toNat (↑(List.length r1) : Int)) r1))) * 72 ≤ 140737488355328 then
            some ((false && List.isEmpty (List.drop 0 (List.take (Int.toNat j10) r1)) && List.isEmpty [[DV.val (Value.string s2), DV.val (Value.string s3), DV.val (Value.string s4), DV.sl b5 [Kd.b, Kd.i IntKind.i64, Kd.s] r6]] && List.isEmpty (List.drop (Int.toNat j10) (List.take (Int.toNat (↑(List.length r1) : Int)) r1)), appX (appX (appX [] (List.drop 0 (List.take (Int.toNat j10) r1))) [[DV.val (Value.string s2), DV.val (Value.string s3), DV.val (Value.string s4), DV.sl b5 [Kd.b, Kd.i IntKind.i64, Kd.s] r6]]) (List.drop (Int.toNat j10) (List.take (Int.toNat (↑(List.length r1) : Int)) r1))), ())
           else none
          else none
         else none
        else none
       else none
      else none
     else none
    else none
   else none
  else none
 else bif decide (j10 < (↑(List.length r1) : Int)) then
  if 0 ≤ j10 then
   if j10 < (↑(List.length r1) : Int) then
    obind (z34_v n (Row.S (List.getD r1 (Int.toNat j10) []) 0) (Row.S (List.getD r1 (Int.toNat j10) []) 1) (Row.S (List.getD r1 (Int.toNat j10) []) 2) (Row.N (List.getD r1 (Int.toNat j10) []) 3) (Row.R (List.getD r1 (Int.toNat j10) []) 3) s2 s3 s4 b5 r6) fun y13 =>
    bif y13.fst == 0 then
     some ((b0, r1), ())
    else if 0 ≤ j10 then
     if j10 ≤ (↑(List.length r1) : Int) then
      if (0 + List.length (List.drop 0 (List.take (Int.toNat j10) r1))) * 72 ≤ 140737488355328 then
       if (List.length (appX [] (List.drop 0 (List.take (Int.toNat j10) r1))) + List.length [[DV.val (Value.string s2), DV.val (Value.string s3), DV.val (Value.string s4), DV.sl b5 [Kd.b, Kd.i IntKind.i64, Kd.s] r6]]) * 72 ≤ 140737488355328 then
        if 0 ≤ j10 then
         if j10 ≤ (↑(List.length r1) : Int) then
          if (↑(List.length r1) : Int) ≤ (↑(List.length r1) : Int) then
           if (List.length (appX (appX [] (List.drop 0 (List.take (Int.toNat j10) r1))) [[DV.val (Value.string s2), DV.val (Value.string s3), DV.val (Value.string s4), DV.sl b5 [Kd.b, Kd.i IntKind.i64, Kd.s] r6]]) + List.length (List.drop (Int.toNat j10) (List.take (Int.toNat (↑(List.length r1) : Int)) r1))) * 72 ≤ 140737488355328 then
            some ((false && List.isEmpty (List.drop 0 (List.take (Int.toNat j10) r1)) && List.isEmpty [[DV.val (Value.string s2), DV.val (Value.string s3), DV.val (Value.string s4), DV.sl b5 [Kd.b, Kd.i IntKind.i64, Kd.s] r6]] && List.isEmpty (List.drop (Int.toNat j10) (List.take (Int.toNat (↑(List.length r1) : Int)) r1)), appX (appX (appX [] (List.drop 0 (List.take (Int.toNat j10) r1))) [[DV.val (Value.string s2), DV.val (Value.string s3), DV.val (Value.string s4), DV.sl b5 [Kd.b, Kd.i IntKind.i64, Kd.s] r6]]) (List.drop (Int.toNat j10) (List.take (Int.toNat (↑(List.length r1) : Int)) r1))), ())
           else none
          else none
         else none
        else none
       else none
      else none
     else none
    else none
   else none
  else none
 else if 0 ≤ j10 then
  if j10 ≤ (↑(List.length r1) : Int) then
   if (0 + List.length (List.drop 0 (List.take (Int.toNat j10) r1))) * 72 ≤ 140737488355328 then
    if (List.length (appX [] (List.drop 0 (List.take (Int.toNat j10) r1))) + List.length [[DV.val (Value.string s2), DV.val (Value.string s3), DV.val (Value.string s4), DV.sl b5 [Kd.b, Kd.i IntKind.i64, Kd.s] r6]]) * 72 ≤ 140737488355328 then
     if 0 ≤ j10 then
      if j10 ≤ (↑(List.length r1) : Int) then
       if (↑(List.length r1) : Int) ≤ (↑(List.length r1) : Int) then
        if (List.length (appX (appX [] (List.drop 0 (List.take (Int.toNat j10) r1))) [[DV.val (Value.string s2), DV.val (Value.string s3), DV.val (Value.string s4), DV.sl b5 [Kd.b, Kd.i IntKind.i64, Kd.s] r6]]) + List.length (List.drop (Int.toNat j10) (List.take (Int.toNat (↑(List.length r1) : Int)) r1))) * 72 ≤ 140737488355328 then
         some ((false && List.isEmpty (List.drop 0 (List.take (Int.toNat j10) r1)) && List.isEmpty [[DV.val (Value.string s2), DV.val (Value.string s3), DV.val (Value.string s4), DV.sl b5 [Kd.b, Kd.i IntKind.i64, Kd.s] r6]] && List.isEmpty (List.drop (Int.toNat j10) (List.take (Int.toNat (↑(List.length r1) : Int)) r1)), appX (appX (appX [] (List.drop 0 (List.take (Int.toNat j10) r1))) [[DV.val (Value.string s2), DV.val (Value.string s3), DV.val (Value.string s4), DV.sl b5 [Kd.b, Kd.i IntKind.i64, Kd.s] r6]]) (List.drop (Int.toNat j10) (List.take (Int.toNat (↑(List.length r1) : Int)) r1))), ())
        else none
       else none
      else none
     else none
    else none
   else none
  else none
 else none := by kernel_rfl
theorem z43_e (n : Nat) (b0 : Bool) (r1 : Rows) (s2 : ByteArray) (s3 : ByteArray) (s4 : ByteArray) (b5 : Bool) (r6 : Rows) : z43_v n b0 r1 s2 s3 s4 b5 r6 =
 z43_l2 n b0 r1 s2 s3 s4 b5 r6 n 0 := by kernel_rfl
theorem z43_c (n : Nat) (b0 : Bool) (r1 : Rows) (s2 : ByteArray) (s3 : ByteArray) (s4 : ByteArray) (b5 : Bool) (r6 : Rows) (y : (Bool × Rows) × Unit) (h : z43_v n b0 r1 s2 s3 s4 b5 r6 = some y) : Contract Try.prog 45 [AV.sl b0 [Kd.s, Kd.s, Kd.s, Kd.sl [Kd.b, Kd.i IntKind.i64, Kd.s]] r1 (Right.tok 500000), AV.agg [AV.dv (DV.val (Value.string s2)), AV.dv (DV.val (Value.string s3)), AV.dv (DV.val (Value.string s4)), AV.sl b5 [Kd.b, Kd.i IntKind.i64, Kd.s] r6 Right.no]] [] (OSh.enc (OSh.plain (.slt [Kd.s, Kd.s, Kd.s, Kd.sl [Kd.b, Kd.i IntKind.i64, Kd.s]] 0) []) y) :=
 auto_okM tm_std (with_ok mixed (by kernel_rfl) (z43_σok n) n 0 [1000045, 1000059]) (with_pick mixed (by kernel_rfl) (z43_σok n) n 0 [1000045, 1000059]) mixed Try.func45 (by decide) (o := (OSh.plain (.slt [Kd.s, Kd.s, Kd.s, Kd.sl [Kd.b, Kd.i IntKind.i64, Kd.s]] 0) [])) h
def z28_lv : Live := [(3, [0, 3, 4], [1000, 1001, 1002, 1003])]
noncomputable def z28_σ (n : Nat) : Spec := (inst 45 [.slt [Kd.s, Kd.s, Kd.s, Kd.sl [Kd.b, Kd.i IntKind.i64, Kd.s]] 500000, .agg [.s, .s, .s, .sl [Kd.b, Kd.i IntKind.i64, Kd.s]]] [] (OSh.plain (.slt [Kd.s, Kd.s, Kd.s, Kd.sl [Kd.b, Kd.i IntKind.i64, Kd.s]] 0) []) (fun x e => z43_v n x.1.1 x.1.2 x.2.1.1 x.2.1.2.1 x.2.1.2.2.1 x.2.1.2.2.2.1.1 x.2.1.2.2.2.1.2) (bookH Spec.none))
theorem z28_σok (n : Nat) : SpecOk Try.prog (z28_σ n) := (inst_ok (fun x e y h => z43_c n x.1.1 x.1.2 x.2.1.1 x.2.1.2.1 x.2.1.2.2.1 x.2.1.2.2.2.1.1 x.2.1.2.2.2.1.2 y h) (bookH_ok (SpecOk.none _)))
noncomputable def z28_Φ (n : Nat) : Orc := with_ Try.prog (z28_σ n) [] n 0 [1000045, 1000059]
noncomputable def z28_v (n : Nat) (b0 : Bool) (r1 : Rows) : Option ((Bool × Rows) × Unit) :=
 DM.denFn tm (z28_Φ n) z28_lv n Try.f43 true [AV.sl b0 [Kd.s, Kd.s, Kd.s, Kd.sl [Kd.b, Kd.i IntKind.i64, Kd.s]] r1 Right.no] [] (OSh.chk (OSh.plain (.slt [Kd.s, Kd.s, Kd.s, Kd.sl [Kd.b, Kd.i IntKind.i64, Kd.s]] 0) []))
noncomputable def z28_l3 (n : Nat) (b0 : Bool) (r1 : Rows) (i0 : Nat) (b3 : Bool) (r4 : List (List DV)) (j5 : Int) : Option ((Bool × Rows) × Unit) :=
 DM.loopFn tm (z28_Φ n) z28_lv n Try.f43 true [] (OSh.chk (OSh.plain (.slt [Kd.s, Kd.s, Kd.s, Kd.sl [Kd.b, Kd.i IntKind.i64, Kd.s]] 0) [])) 3 [] i0 (St.mk [AV.sl b0 [Kd.s, Kd.s, Kd.s, Kd.sl [Kd.b, Kd.i IntKind.i64, Kd.s]] r1 Right.no, AV.junk, AV.junk, AV.sl b3 [Kd.s, Kd.s, Kd.s, Kd.sl [Kd.b, Kd.i IntKind.i64, Kd.s]] r4 (Right.tok 3), AV.dv (DV.val (Value.int IntKind.i64 j5)), AV.junk, AV.junk, AV.junk, AV.junk, AV.junk, AV.junk, AV.junk, AV.junk, AV.junk, AV.junk, AV.junk, AV.junk, AV.junk] [])
theorem z28_s3 (n : Nat) (b0 : Bool) (r1 : Rows) (i0 : Nat) (b3 : Bool) (r4 : List (List DV)) (j5 : Int) : z28_l3 n b0 r1 (i0 + 1) b3 r4 j5 =
 bif decide (j5 < (↑(List.length r1) : Int)) then
  if 0 ≤ j5 then
   if j5 < (↑(List.length r1) : Int) then
    obind (z43_v n b3 r4 (Row.S (List.getD r1 (Int.toNat j5) []) 0) (Row.S (List.getD r1 (Int.toNat j5) []) 1) (Row.S (List.getD r1 (Int.toNat j5) []) 2) (Row.N (List.getD r1 (Int.toNat j5) []) 3) (Row.R (List.getD r1 (Int.toNat j5) []) 3)) fun y6 =>
    z28_l3 n b0 r1 i0 y6.fst.fst y6.fst.snd (IntKind.wrap IntKind.i64 (j5 + 1))
   else none
  else none
 else some ((b3, r4), ()) := by kernel_rfl
theorem z28_e (n : Nat) (b0 : Bool) (r1 : Rows) : z28_v n b0 r1 =
 z28_l3 n b0 r1 n true [] 0 := by kernel_rfl
theorem z28_c (n : Nat) (b0 : Bool) (r1 : Rows) (y : (Bool × Rows) × Unit) (h : z28_v n b0 r1 = some y) : Contract Try.prog 43 [AV.sl b0 [Kd.s, Kd.s, Kd.s, Kd.sl [Kd.b, Kd.i IntKind.i64, Kd.s]] r1 Right.no] [] (OSh.enc (OSh.plain (.slt [Kd.s, Kd.s, Kd.s, Kd.sl [Kd.b, Kd.i IntKind.i64, Kd.s]] 0) []) y) :=
 auto_okM tm_std (with_ok mixed (by kernel_rfl) (z28_σok n) n 0 [1000045, 1000059]) (with_pick mixed (by kernel_rfl) (z28_σok n) n 0 [1000045, 1000059]) mixed Try.func43 (by decide) (o := (OSh.plain (.slt [Kd.s, Kd.s, Kd.s, Kd.sl [Kd.b, Kd.i IntKind.i64, Kd.s]] 0) [])) h
end Go.Den
namespace Go.Den
open Go.Proofs
set_option maxRecDepth 100000
def z47_lv : Live := [(2, [0, 3, 5], [3, 1000, 1001, 1002, 1003])]
noncomputable def z47_σ (n : Nat) : Spec := (inst 35 [.agg [.s, .s, .s, .sl [Kd.b, Kd.i IntKind.i64, Kd.s]], .agg [.s, .s, .s, .sl [Kd.b, Kd.i IntKind.i64, Kd.s]]] [] (OSh.plain (.i IntKind.i64) []) (fun x e => z34_v n x.1.1 x.1.2.1 x.1.2.2.1 x.1.2.2.2.1.1 x.1.2.2.2.1.2 x.2.1.1 x.2.1.2.1 x.2.1.2.2.1 x.2.1.2.2.2.1.1 x.2.1.2.2.2.1.2) (bookH Spec.none))
theorem z47_σok (n : Nat) : SpecOk Try.prog (z47_σ n) := (inst_ok (fun x e y h => z34_c n x.1.1 x.1.2.1 x.1.2.2.1 x.1.2.2.2.1.1 x.1.2.2.2.1.2 x.2.1.1 x.2.1.2.1 x.2.1.2.2.1 x.2.1.2.2.2.1.1 x.2.1.2.2.2.1.2 y h) (bookH_ok (SpecOk.none _)))
noncomputable def z47_Φ (n : Nat) : Orc := with_ Try.prog (z47_σ n) [] n 0 [1000045, 1000059]
noncomputable def z47_v (n : Nat) (b0 : Bool) (r1 : Rows) (s2 : ByteArray) (s3 : ByteArray) (s4 : ByteArray) (b5 : Bool) (r6 : Rows) : Option (Bool × Unit) :=
 DM.denFn tm (z47_Φ n) z47_lv n Try.f16 false [AV.sl b0 [Kd.s, Kd.s, Kd.s, Kd.sl [Kd.b, Kd.i IntKind.i64, Kd.s]] r1 Right.no, AV.agg [AV.dv (DV.val (Value.string s2)), AV.dv (DV.val (Value.string s3)), AV.dv (DV.val (Value.string s4)), AV.sl b5 [Kd.b, Kd.i IntKind.i64, Kd.s] r6 Right.no]] [] (OSh.chk (OSh.plain (.b) []))
noncomputable def z47_l2 (n : Nat) (b0 : Bool) (r1 : Rows) (s2 : ByteArray) (s3 : ByteArray) (s4 : ByteArray) (b5 : Bool) (r6 : Rows) (i0 : Nat) (j8 : Int) : Option (Bool × Unit) :=
 DM.loopFn tm (z47_Φ n) z47_lv n Try.f16 false [] (OSh.chk (OSh.plain (.b) [])) 2 [] i0 (St.mk [AV.sl b0 [Kd.s, Kd.s, Kd.s, Kd.sl [Kd.b, Kd.i IntKind.i64, Kd.s]] r1 Right.no, AV.junk, AV.junk, AV.pl 3 0, AV.junk, AV.dv (DV.val (Value.int IntKind.i64 j8)), AV.junk, AV.junk, AV.junk, AV.junk, AV.junk, AV.junk, AV.junk, AV.junk, AV.junk, AV.junk, AV.junk, AV.junk, AV.junk] [(3, [AV.dv (DV.val (Value.string s2)), AV.dv (DV.val (Value.string s3)), AV.dv (DV.val (Value.string s4)), AV.sl b5 [Kd.b, Kd.i IntKind.i64, Kd.s] r6 Right.no])])
theorem z47_s2 (n : Nat) (b0 : Bool) (r1 : Rows) (s2 : ByteArray) (s3 : ByteArray) (s4 : ByteArray) (b5 : Bool) (r6 : Rows) (i0 : Nat) (j8 : Int) : z47_l2 n b0 r1 s2 s3 s4 b5 r6 (i0 + 1) j8 =
 bif decide (j8 < (↑(List.length r1) : Int)) then
  if 0 ≤ j8 then
   if j8 < (↑(List.length r1) : Int) then
    obind (z34_v n (Row.S (List.getD r1 (Int.toNat j8) []) 0) (Row.S (List.getD r1 (Int.toNat j8) []) 1) (Row.S (List.getD r1 (Int.toNat j8) []) 2) (Row.N (List.getD r1 (Int.toNat j8) []) 3) (Row.R (List.getD r1 (Int.toNat j8) []) 3) s2 s3 s4 b5 r6) fun y9 =>
    bif y9.fst == 0 then
     some (true, ())
    else z47_l2 n b0 r1 s2 s3 s4 b5 r6 i0 (IntKind.wrap IntKind.i64 (j8 + 1))
   else none
  else none
 else some (false, ()) := by kernel_rfl
theorem z47_e (n : Nat) (b0 : Bool) (r1 : Rows) (s2 : ByteArray) (s3 : ByteArray) (s4 : ByteArray) (b5 : Bool) (r6 : Rows) : z47_v n b0 r1 s2 s3 s4 b5 r6 =
 z47_l2 n b0 r1 s2 s3 s4 b5 r6 n 0 := by kernel_rfl
theorem z47_c (n : Nat) (b0 : Bool) (r1 : Rows) (s2 : ByteArray) (s3 : ByteArray) (s4 : ByteArray) (b5 : Bool) (r6 : Rows) (y : Bool × Unit) (h : z47_v n b0 r1 s2 s3 s4 b5 r6 = some y) : Contract Try.prog 16 [AV.sl b0 [Kd.s, Kd.s, Kd.s, Kd.sl [Kd.b, Kd.i IntKind.i64, Kd.s]] r1 Right.no, AV.agg [AV.dv (DV.val (Value.string s2)), AV.dv (DV.val (Value.string s3)), AV.dv (DV.val (Value.string s4)), AV.sl b5 [Kd.b, Kd.i IntKind.i64, Kd.s] r6 Right.no]] [] (OSh.enc (OSh.plain (.b) []) y) :=
 auto_okM tm_std (with_ok mixed (by kernel_rfl) (z47_σok n) n 0 [1000045, 1000059]) (with_pick mixed (by kernel_rfl) (z47_σok n) n 0 [1000045, 1000059]) mixed Try.func16 (by decide) (o := (OSh.plain (.b) [])) h
def z48_lv : Live := [(2, [0, 1, 5], [1000, 1001, 1002, 1003])]
noncomputable def z48_σ (n : Nat) : Spec := (inst 16 [.sl [Kd.s, Kd.s, Kd.s, Kd.sl [Kd.b, Kd.i IntKind.i64, Kd.s]], .agg [.s, .s, .s, .sl [Kd.b, Kd.i IntKind.i64, Kd.s]]] [] (OSh.plain (.b) []) (fun x e => z47_v n x.1.1 x.1.2 x.2.1.1 x.2.1.2.1 x.2.1.2.2.1 x.2.1.2.2.2.1.1 x.2.1.2.2.2.1.2) (bookH Spec.none))
theorem z48_σok (n : Nat) : SpecOk Try.prog (z48_σ n) := (inst_ok (fun x e y h => z47_c n x.1.1 x.1.2 x.2.1.1 x.2.1.2.1 x.2.1.2.2.1 x.2.1.2.2.2.1.1 x.2.1.2.2.2.1.2 y h) (bookH_ok (SpecOk.none _)))
noncomputable def z48_Φ (n : Nat) : Orc := with_ Try.prog (z48_σ n) [] n 0 [1000045, 1000059]
noncomputable def z48_v (n : Nat) (b0 : Bool) (r1 : Rows) (b2 : Bool) (r3 : Rows) : Option (Bool × Unit) :=
 DM.denFn tm (z48_Φ n) z48_lv n Try.f44 false [AV.sl b0 [Kd.s, Kd.s, Kd.s, Kd.sl [Kd.b, Kd.i IntKind.i64, Kd.s]] r1 Right.no, AV.sl b2 [Kd.s, Kd.s, Kd.s, Kd.sl [Kd.b, Kd.i IntKind.i64, Kd.s]] r3 Right.no] [] (OSh.chk (OSh.plain (.b) []))
noncomputable def z48_l2 (n : Nat) (b0 : Bool) (r1 : Rows) (b2 : Bool) (r3 : Rows) (i0 : Nat) (j5 : Int) : Option (Bool × Unit) :=
 DM.loopFn tm (z48_Φ n) z48_lv n Try.f44 false [] (OSh.chk (OSh.plain (.b) [])) 2 [] i0 (St.mk [AV.sl b0 [Kd.s, Kd.s, Kd.s, Kd.sl [Kd.b, Kd.i IntKind.i64, Kd.s]] r1 Right.no, AV.sl b2 [Kd.s, Kd.s, Kd.s, Kd.sl [Kd.b, Kd.i IntKind.i64, Kd.s]] r3 Right.no, AV.junk, AV.junk, AV.junk, AV.dv (DV.val (Value.int IntKind.i64 j5)), AV.junk, AV.junk, AV.junk, AV.junk, AV.junk, AV.junk, AV.junk, AV.junk, AV.junk, AV.junk, AV.junk, AV.junk, AV.junk] [])
theorem z48_s2 (n : Nat) (b0 : Bool) (r1 : Rows) (b2 : Bool) (r3 : Rows) (i0 : Nat) (j5 : Int) : z48_l2 n b0 r1 b2 r3 (i0 + 1) j5 =
 bif decide (j5 < (↑(List.length r1) : Int)) then
  if 0 ≤ j5 then
   if j5 < (↑(List.length r1) : Int) then
    obind (z47_v n b2 r3 (Row.S (List.getD r1 (Int.toNat j5) []) 0) (Row.S (List.getD r1 (Int.toNat j5) []) 1) (Row.S (List.getD r1 (Int.toNat j5) []) 2) (Row.N (List.getD r1 (Int.toNat j5) []) 3) (Row.R (List.getD r1 (Int.toNat j5) []) 3)) fun y6 =>
    bif !y6.fst then
     some (false, ())
    else z48_l2 n b0 r1 b2 r3 i0 (IntKind.wrap IntKind.i64 (j5 + 1))
   else none
  else none
 else some (true, ()) := by kernel_rfl
theorem z48_e (n : Nat) (b0 : Bool) (r1 : Rows) (b2 : Bool) (r3 : Rows) : z48_v n b0 r1 b2 r3 =
 z48_l2 n b0 r1 b2 r3 n 0 := by kernel_rfl
theorem z48_c (n : Nat) (b0 : Bool) (r1 : Rows) (b2 : Bool) (r3 : Rows) (y : Bool × Unit) (h : z48_v n b0 r1 b2 r3 = some y) : Contract Try.prog 44 [AV.sl b0 [Kd.s, Kd.s, Kd.s, Kd.sl [Kd.b, Kd.i IntKind.i64, Kd.s]] r1 Right.no, AV.sl b2 [Kd.s, Kd.s, Kd.s, Kd.sl [Kd.b, Kd.i IntKind.i64, Kd.s]] r3 Right.no] [] (OSh.enc (OSh.plain (.b) []) y) :=
 auto_okM tm_std (with_ok mixed (by kernel_rfl) (z48_σok n) n 0 [1000045, 1000059]) (with_pick mixed (by kernel_rfl) (z48_σok n) n 0 [1000045, 1000059]) mixed Try.func44 (by decide) (o := (OSh.plain (.b) [])) h
def z12_lv : Live := [(3, [0, 5, 6], [1000, 1001, 1002, 1003]), (6, [0, 5, 6, 7], [1000, 1001, 1002, 1003])]
noncomputable def z12_σ (n : Nat) : Spec := (inst 43 [.sl [Kd.s, Kd.s, Kd.s, Kd.sl [Kd.b, Kd.i IntKind.i64, Kd.s]]] [] (OSh.plain (.slt [Kd.s, Kd.s, Kd.s, Kd.sl [Kd.b, Kd.i IntKind.i64, Kd.s]] 0) []) (fun x e => z28_v n x.1.1 x.1.2) (inst 16 [.sl [Kd.s, Kd.s, Kd.s, Kd.sl [Kd.b, Kd.i IntKind.i64, Kd.s]], .agg [.s, .s, .s, .sl [Kd.b, Kd.i IntKind.i64, Kd.s]]] [] (OSh.plain (.b) []) (fun x e => z47_v n x.1.1 x.1.2 x.2.1.1 x.2.1.2.1 x.2.1.2.2.1 x.2.1.2.2.2.1.1 x.2.1.2.2.2.1.2) (inst 44 [.sl [Kd.s, Kd.s, Kd.s, Kd.sl [Kd.b, Kd.i IntKind.i64, Kd.s]], .sl [Kd.s, Kd.s, Kd.s, Kd.sl [Kd.b, Kd.i IntKind.i64, Kd.s]]] [] (OSh.plain (.b) []) (fun x e => z48_v n x.1.1 x.1.2 x.2.1.1 x.2.1.2) (inst 45 [.slt [Kd.s, Kd.s, Kd.s, Kd.sl [Kd.b, Kd.i IntKind.i64, Kd.s]] 500000, .agg [.s, .s, .s, .sl [Kd.b, Kd.i IntKind.i64, Kd.s]]] [] (OSh.plain (.slt [Kd.s, Kd.s, Kd.s, Kd.sl [Kd.b, Kd.i IntKind.i64, Kd.s]] 0) []) (fun x e => z43_v n x.1.1 x.1.2 x.2.1.1 x.2.1.2.1 x.2.1.2.2.1 x.2.1.2.2.2.1.1 x.2.1.2.2.2.1.2) (bookH Spec.none)))))
theorem z12_σok (n : Nat) : SpecOk Try.prog (z12_σ n) := (inst_ok (fun x e y h => z28_c n x.1.1 x.1.2 y h) (inst_ok (fun x e y h => z47_c n x.1.1 x.1.2 x.2.1.1 x.2.1.2.1 x.2.1.2.2.1 x.2.1.2.2.2.1.1 x.2.1.2.2.2.1.2 y h) (inst_ok (fun x e y h => z48_c n x.1.1 x.1.2 x.2.1.1 x.2.1.2 y h) (inst_ok (fun x e y h => z43_c n x.1.1 x.1.2 x.2.1.1 x.2.1.2.1 x.2.1.2.2.1 x.2.1.2.2.2.1.1 x.2.1.2.2.2.1.2 y h) (bookH_ok (SpecOk.none _))))))
noncomputable def z12_Φ (n : Nat) : Orc := with_ Try.prog (z12_σ n) [] n 0 [1000045, 1000059]
noncomputable def z12_v (n : Nat) (b0 : Bool) (r1 : Rows) (b2 : Bool) (r3 : Rows) : Option ((Bool × Rows) × ((Bool × Rows) × Unit) × Unit) :=
 DM.denFn tm (z12_Φ n) z12_lv n Try.f15 true [AV.pl 1000 0, AV.sl b0 [Kd.s, Kd.s, Kd.s, Kd.sl [Kd.b, Kd.i IntKind.i64, Kd.s]] r1 Right.no] [[AV.sl b2 [Kd.i IntKind.i64, Kd.s, Kd.s, Kd.s, Kd.sl [Kd.b, Kd.i IntKind.i64, Kd.s], Kd.sl [Kd.s, Kd.s, Kd.s, Kd.sl [Kd.b, Kd.i IntKind.i64, Kd.s]]] r3 Right.no]] (OSh.chk (OSh.plain (.slt [Kd.s, Kd.s, Kd.s, Kd.sl [Kd.b, Kd.i IntKind.i64, Kd.s]] 0) [[.sl [Kd.i IntKind.i64, Kd.s, Kd.s, Kd.s, Kd.sl [Kd.b, Kd.i IntKind.i64, Kd.s], Kd.sl [Kd.s, Kd.s, Kd.s, Kd.sl [Kd.b, Kd.i IntKind.i64, Kd.s]]]]]))
noncomputable def z12_l3 (n : Nat) (b0 : Bool) (r1 : Rows) (b2 : Bool) (r3 : Rows) (i0 : Nat) (b5 : Bool) (r6 : List (List DV)) (b14 : Bool) : Option ((Bool × Rows) × ((Bool × Rows) × Unit) × Unit) :=
 DM.loopFn tm (z12_Φ n) z12_lv n Try.f15 true [[AV.sl b2 [Kd.i IntKind.i64, Kd.s, Kd.s, Kd.s, Kd.sl [Kd.b, Kd.i IntKind.i64, Kd.s], Kd.sl [Kd.s, Kd.s, Kd.s, Kd.sl [Kd.b, Kd.i IntKind.i64, Kd.s]]] r3 Right.no]] (OSh.chk (OSh.plain (.slt [Kd.s, Kd.s, Kd.s, Kd.sl [Kd.b, Kd.i IntKind.i64, Kd.s]] 0) [[.sl [Kd.i IntKind.i64, Kd.s, Kd.s, Kd.s, Kd.sl [Kd.b, Kd.i IntKind.i64, Kd.s], Kd.sl [Kd.s, Kd.s, Kd.s, Kd.sl [Kd.b, Kd.i IntKind.i64, Kd.s]]]]])) 3 [] i0 (St.mk [AV.pl 1000 0, AV.junk, AV.junk, AV.junk, AV.junk, AV.sl b5 [Kd.s, Kd.s, Kd.s, Kd.sl [Kd.b, Kd.i IntKind.i64, Kd.s]] r6 (Right.tok 5), AV.dv (DV.val (Value.bool b14)), AV.junk, AV.junk, AV.junk, AV.junk, AV.junk, AV.junk, AV.junk, AV.junk, AV.junk, AV.junk, AV.junk, AV.junk, AV.junk, AV.junk, AV.junk, AV.junk, AV.junk, AV.junk, AV.junk, AV.junk, AV.junk, AV.junk, AV.junk, AV.junk, AV.junk, AV.junk, AV.junk, AV.junk, AV.junk, AV.junk, AV.junk, AV.junk, AV.junk, AV.junk, AV.junk, AV.junk, AV.junk, AV.junk, AV.junk, AV.junk, AV.junk, AV.junk, AV.junk, AV.junk, AV.junk, AV.junk, AV.junk] [(1000, [AV.sl b2 [Kd.i IntKind.i64, Kd.s, Kd.s, Kd.s, Kd.sl [Kd.b, Kd.i IntKind.i64, Kd.s], Kd.sl [Kd.s, Kd.s, Kd.s, Kd.sl [Kd.b, Kd.i IntKind.i64, Kd.s]]] r3 Right.no])])
noncomputable def z12_l6 (n : Nat) (b0 : Bool) (r1 : Rows) (b2 : Bool) (r3 : Rows) (i0 i1 : Nat) (b7 : Bool) (r8 : List (List DV)) (b12 : Bool) (j13 : Int) : Option ((Bool × Rows) × ((Bool × Rows) × Unit) × Unit) :=
 DM.loopFn tm (z12_Φ n) z12_lv n Try.f15 true [[AV.sl b2 [Kd.i IntKind.i64, Kd.s, Kd.s, Kd.s, Kd.sl [Kd.b, Kd.i IntKind.i64, Kd.s], Kd.sl [Kd.s, Kd.s, Kd.s, Kd.sl [Kd.b, Kd.i IntKind.i64, Kd.s]]] r3 Right.no]] (OSh.chk (OSh.plain (.slt [Kd.s, Kd.s, Kd.s, Kd.sl [Kd.b, Kd.i IntKind.i64, Kd.s]] 0) [[.sl [Kd.i IntKind.i64, Kd.s, Kd.s, Kd.s, Kd.sl [Kd.b, Kd.i IntKind.i64, Kd.s], Kd.sl [Kd.s, Kd.s, Kd.s, Kd.sl [Kd.b, Kd.i IntKind.i64, Kd.s]]]]])) 6 [i0] i1 (St.mk [AV.pl 1000 0, AV.junk, AV.junk, AV.junk, AV.junk, AV.sl b7 [Kd.s, Kd.s, Kd.s, Kd.sl [Kd.b, Kd.i IntKind.i64, Kd.s]] r8 (Right.tok 5), AV.dv (DV.val (Value.bool b12)), AV.dv (DV.val (Value.int IntKind.i64 j13)), AV.junk, AV.junk, AV.junk, AV.junk, AV.junk, AV.junk, AV.junk, AV.junk, AV.junk, AV.junk, AV.junk, AV.junk, AV.junk, AV.junk, AV.junk, AV.junk, AV.junk, AV.junk, AV.junk, AV.junk, AV.junk, AV.junk, AV.junk, AV.junk, AV.junk, AV.junk, AV.junk, AV.junk, AV.junk, AV.junk, AV.junk, AV.junk, AV.junk, AV.junk, AV.junk, AV.junk, AV.junk, AV.junk, AV.junk, AV.junk, AV.junk, AV.junk, AV.junk, AV.junk, AV.junk, AV.junk] [(1000, [AV.sl b2 [Kd.i IntKind.i64, Kd.s, Kd.s, Kd.s, Kd.sl [Kd.b, Kd.i IntKind.i64, Kd.s], Kd.sl [Kd.s, Kd.s, Kd.s, Kd.sl [Kd.b, Kd.i IntKind.i64, Kd.s]]] r3 Right.no])])
theorem z12_s3 (n : Nat) (b0 : Bool) (r1 : Rows) (b2 : Bool) (r3 : Rows) (i0 : Nat) (b5 : Bool) (r6 : List (List DV)) (b14 : Bool) : z12_l3 n b0 r1 b2 r3 (i0 + 1) b5 r6 b14 =
 bif b14 then
  z12_l6 n b0 r1 b2 r3 i0 n b5 r6 false 0
 else some ((b5, r6), (((b2, r3), ()), ())) := by kernel_rfl
theorem z12_s6 (n : Nat) (b0 : Bool) (r1 : Rows) (b2 : Bool) (r3 : Rows) (i0 i1 : Nat) (b7 : Bool) (r8 : List (List DV)) (b12 : Bool) (j13 : Int) : z12_l6 n b0 r1 b2 r3 i0 (i1 + 1) b7 r8 b12 j13 =
 bif decide (j13 < (↑(List.length r3) : Int)) then
  if 0 ≤ j13 then
   if j13 < (↑(List.length r3) : Int) then
    obind (z47_v n b7 r8 (Row.S (List.getD r3 (Int.toNat j13) []) 1) (Row.S (List.getD r3 (Int.toNat j13) []) 2) (Row.S (List.getD r3 (Int.toNat j13) []) 3) (Row.N (List.getD r3 (Int.toNat j13) []) 4) (Row.R (List.getD r3 (Int.toNat j13) []) 4)) fun y15 =>
    bif !y15.fst then
     if 0 ≤ j13 then
      if j13 < (↑(List.length r3) : Int) then
       obind (z48_v n (Row.N (List.getD r3 (Int.toNat j13) []) 5) (Row.R (List.getD r3 (Int.toNat j13) []) 5) b7 r8) fun y16 =>
       bif y16.fst then
        if 0 ≤ j13 then
         if j13 < (↑(List.length r3) : Int) then
          obind (z43_v n b7 r8 (Row.S (List.getD r3 (Int.toNat j13) []) 1) (Row.S (List.getD r3 (Int.toNat j13) []) 2) (Row.S (List.getD r3 (Int.toNat j13) []) 3) (Row.N (List.getD r3 (Int.toNat j13) []) 4) (Row.R (List.getD r3 (Int.toNat j13) []) 4)) fun y17 =>
          z12_l6 n b0 r1 b2 r3 i0 i1 y17.fst.fst y17.fst.snd true (IntKind.wrap IntKind.i64 (j13 + 1))
         else none
        else none
       else z12_l6 n b0 r1 b2 r3 i0 i1 b7 r8 b12 (IntKind.wrap IntKind.i64 (j13 + 1))
      else none
     else none
    else z12_l6 n b0 r1 b2 r3 i0 i1 b7 r8 b12 (IntKind.wrap IntKind.i64 (j13 + 1))
   else none
  else none
 else z12_l3 n b0 r1 b2 r3 i0 b7 r8 b12 := by kernel_rfl
theorem z12_e (n : Nat) (b0 : Bool) (r1 : Rows) (b2 : Bool) (r3 : Rows) : z12_v n b0 r1 b2 r3 =
 obind (z28_v n b0 r1) fun y4 =>
 z12_l3 n b0 r1 b2 r3 n y4.fst.fst y4.fst.snd true := by kernel_rfl
theorem z12_c (n : Nat) (b0 : Bool) (r1 : Rows) (b2 : Bool) (r3 : Rows) (y : (Bool × Rows) × ((Bool × Rows) × Unit) × Unit) (h : z12_v n b0 r1 b2 r3 = some y) : Contract Try.prog 15 [AV.pl 1000 0, AV.sl b0 [Kd.s, Kd.s, Kd.s, Kd.sl [Kd.b, Kd.i IntKind.i64, Kd.s]] r1 Right.no] [[AV.sl b2 [Kd.i IntKind.i64, Kd.s, Kd.s, Kd.s, Kd.sl [Kd.b, Kd.i IntKind.i64, Kd.s], Kd.sl [Kd.s, Kd.s, Kd.s, Kd.sl [Kd.b, Kd.i IntKind.i64, Kd.s]]] r3 Right.no]] (OSh.enc (OSh.plain (.slt [Kd.s, Kd.s, Kd.s, Kd.sl [Kd.b, Kd.i IntKind.i64, Kd.s]] 0) [[.sl [Kd.i IntKind.i64, Kd.s, Kd.s, Kd.s, Kd.sl [Kd.b, Kd.i IntKind.i64, Kd.s], Kd.sl [Kd.s, Kd.s, Kd.s, Kd.sl [Kd.b, Kd.i IntKind.i64, Kd.s]]]]]) y) :=
 auto_okM tm_std (with_ok mixed (by kernel_rfl) (z12_σok n) n 0 [1000045, 1000059]) (with_pick mixed (by kernel_rfl) (z12_σok n) n 0 [1000045, 1000059]) mixed Try.func15 (by decide) (o := (OSh.plain (.slt [Kd.s, Kd.s, Kd.s, Kd.sl [Kd.b, Kd.i IntKind.i64, Kd.s]] 0) [[.sl [Kd.i IntKind.i64, Kd.s, Kd.s, Kd.s, Kd.sl [Kd.b, Kd.i IntKind.i64, Kd.s], Kd.sl [Kd.s, Kd.s, Kd.s, Kd.sl [Kd.b, Kd.i IntKind.i64, Kd.s]]]]])) h
def z42_lv : Live := [(4, [0, 1, 5], [1000, 1001, 1002, 1003])]
noncomputable def z42_σ (n : Nat) : Spec := (inst 35 [.agg [.s, .s, .s, .sl [Kd.b, Kd.i IntKind.i64, Kd.s]], .agg [.s, .s, .s, .sl [Kd.b, Kd.i IntKind.i64, Kd.s]]] [] (OSh.plain (.i IntKind.i64) []) (fun x e => z34_v n x.1.1 x.1.2.1 x.1.2.2.1 x.1.2.2.2.1.1 x.1.2.2.2.1.2 x.2.1.1 x.2.1.2.1 x.2.1.2.2.1 x.2.1.2.2.2.1.1 x.2.1.2.2.2.1.2) (bookH Spec.none))
theorem z42_σok (n : Nat) : SpecOk Try.prog (z42_σ n) := (inst_ok (fun x e y h => z34_c n x.1.1 x.1.2.1 x.1.2.2.1 x.1.2.2.2.1.1 x.1.2.2.2.1.2 x.2.1.1 x.2.1.2.1 x.2.1.2.2.1 x.2.1.2.2.2.1.1 x.2.1.2.2.2.1.2 y h) (bookH_ok (SpecOk.none _)))
noncomputable def z42_Φ (n : Nat) : Orc := with_ Try.prog (z42_σ n) [] n 0 [1000045, 1000059]
noncomputable def z42_v (n : Nat) (b0 : Bool) (r1 : Rows) (b2 : Bool) (r3 : Rows) : Option (Bool × Unit) :=
 DM.denFn tm (z42_Φ n) z42_lv n Try.f13 false [AV.sl b0 [Kd.s, Kd.s, Kd.s, Kd.sl [Kd.b, Kd.i IntKind.i64, Kd.s]] r1 Right.no, AV.sl b2 [Kd.s, Kd.s, Kd.s, Kd.sl [Kd.b, Kd.i IntKind.i64, Kd.s]] r3 Right.no] [] (OSh.chk (OSh.plain (.b) []))
noncomputable def z42_l4 (n : Nat) (b0 : Bool) (r1 : Rows) (b2 : Bool) (r3 : Rows) (i0 : Nat) (j5 : Int) : Option (Bool × Unit) :=
 DM.loopFn tm (z42_Φ n) z42_lv n Try.f13 false [] (OSh.chk (OSh.plain (.b) [])) 4 [] i0 (St.mk [AV.sl b0 [Kd.s, Kd.s, Kd.s, Kd.sl [Kd.b, Kd.i IntKind.i64, Kd.s]] r1 Right.no, AV.sl b2 [Kd.s, Kd.s, Kd.s, Kd.sl [Kd.b, Kd.i IntKind.i64, Kd.s]] r3 Right.no, AV.junk, AV.junk, AV.junk, AV.dv (DV.val (Value.int IntKind.i64 j5)), AV.junk, AV.junk, AV.junk, AV.junk, AV.junk, AV.junk, AV.junk, AV.junk, AV.junk, AV.junk, AV.junk, AV.junk, AV.junk, AV.junk, AV.junk, AV.junk, AV.junk, AV.junk, AV.junk, AV.junk, AV.junk] [])
theorem z42_s4 (n : Nat) (b0 : Bool) (r1 : Rows) (b2 : Bool) (r3 : Rows) (i0 : Nat) (j5 : Int) : z42_l4 n b0 r1 b2 r3 (i0 + 1) j5 =
 bif decide (j5 < (↑(List.length r1) : Int)) then
  if 0 ≤ j5 then
   if j5 < (↑(List.length r1) : Int) then
    if 0 ≤ j5 then
     if j5 < (↑(List.length r3) : Int) then
      obind (z34_v n (Row.S (List.getD r1 (Int.toNat j5) []) 0) (Row.S (List.getD r1 (Int.toNat j5) []) 1) (Row.S (List.getD r1 (Int.toNat j5) []) 2) (Row.N (List.getD r1 (Int.toNat j5) []) 3) (Row.R (List.getD r1 (Int.toNat j5) []) 3) (Row.S (List.getD r3 (Int.toNat j5) []) 0) (Row.S (List.getD r3 (Int.toNat j5) []) 1) (Row.S (List.getD r3 (Int.toNat j5) []) 2) (Row.N (List.getD r3 (Int.toNat j5) []) 3) (Row.R (List.getD r3 (Int.toNat j5) []) 3)) fun y6 =>
      bif y6.fst != 0 then
       some (false, ())
      else z42_l4 n b0 r1 b2 r3 i0 (IntKind.wrap IntKind.i64 (j5 + 1))
     else none
    else none
   else none
  else none
 else some (true, ()) := by kernel_rfl
theorem z42_e (n : Nat) (b0 : Bool) (r1 : Rows) (b2 : Bool) (r3 : Rows) : z42_v n b0 r1 b2 r3 =
 bif (↑(List.length r1) : Int) != (↑(List.length r3) : Int) then
  some (false, ())
 else z42_l4 n b0 r1 b2 r3 n 0 := by kernel_rfl
theorem z42_c (n : Nat) (b0 : Bool) (r1 : Rows) (b2 : Bool) (r3 : Rows) (y : Bool × Unit) (h : z42_v n b0 r1 b2 r3 = some y) : Contract Try.prog 13 [AV.sl b0 [Kd.s, Kd.s, Kd.s, Kd.sl [Kd.b, Kd.i IntKind.i64, Kd.s]] r1 Right.no, AV.sl b2 [Kd.s, Kd.s, Kd.s, Kd.sl [Kd.b, Kd.i IntKind.i64, Kd.s]] r3 Right.no] [] (OSh.enc (OSh.plain (.b) []) y) :=
 auto_okM tm_std (with_ok mixed (by kernel_rfl) (z42_σok n) n 0 [1000045, 1000059]) (with_pick mixed (by kernel_rfl) (z42_σok n) n 0 [1000045, 1000059]) mixed Try.func13 (by decide) (o := (OSh.plain (.b) [])) h
def z38_lv : Live := [(3, [0, 1, 5, 6], [1000, 1001, 1002, 1003])]
noncomputable def z38_σ (n : Nat) : Spec := (inst 16 [.sl [Kd.s, Kd.s, Kd.s, Kd.sl [Kd.b, Kd.i IntKind.i64, Kd.s]], .agg [.s, .s, .s, .sl [Kd.b, Kd.i IntKind.i64, Kd.s]]] [] (OSh.plain (.b) []) (fun x e => z47_v n x.1.1 x.1.2 x.2.1.1 x.2.1.2.1 x.2.1.2.2.1 x.2.1.2.2.2.1.1 x.2.1.2.2.2.1.2) (inst 45 [.slt [Kd.s, Kd.s, Kd.s, Kd.sl [Kd.b, Kd.i IntKind.i64, Kd.s]] 500000, .agg [.s, .s, .s, .sl [Kd.b, Kd.i IntKind.i64, Kd.s]]] [] (OSh.plain (.slt [Kd.s, Kd.s, Kd.s, Kd.sl [Kd.b, Kd.i IntKind.i64, Kd.s]] 0) []) (fun x e => z43_v n x.1.1 x.1.2 x.2.1.1 x.2.1.2.1 x.2.1.2.2.1 x.2.1.2.2.2.1.1 x.2.1.2.2.2.1.2) (bookH Spec.none)))
theorem z38_σok (n : Nat) : SpecOk Try.prog (z38_σ n) := (inst_ok (fun x e y h => z47_c n x.1.1 x.1.2 x.2.1.1 x.2.1.2.1 x.2.1.2.2.1 x.2.1.2.2.2.1.1 x.2.1.2.2.2.1.2 y h) (inst_ok (fun x e y h => z43_c n x.1.1 x.1.2 x.2.1.1 x.2.1.2.1 x.2.1.2.2.1 x.2.1.2.2.2.1.1 x.2.1.2.2.2.1.2 y h) (bookH_ok (SpecOk.none _))))
noncomputable def z38_Φ (n : Nat) : Orc := with_ Try.prog (z38_σ n) [] n 0 [1000045, 1000059]
noncomputable def z38_v (n : Nat) (b0 : Bool) (r1 : Rows) (b2 : Bool) (r3 : Rows) : Option ((Bool × Rows) × Unit) :=
 DM.denFn tm (z38_Φ n) z38_lv n Try.f18 true [AV.sl b0 [Kd.s, Kd.s, Kd.s, Kd.sl [Kd.b, Kd.i IntKind.i64, Kd.s]] r1 Right.no, AV.sl b2 [Kd.s, Kd.s, Kd.s, Kd.sl [Kd.b, Kd.i IntKind.i64, Kd.s]] r3 Right.no] [] (OSh.chk (OSh.plain (.slt [Kd.s, Kd.s, Kd.s, Kd.sl [Kd.b, Kd.i IntKind.i64, Kd.s]] 0) []))
noncomputable def z38_l3 (n : Nat) (b0 : Bool) (r1 : Rows) (b2 : Bool) (r3 : Rows) (i0 : Nat) (b6 : Bool) (r7 : List (List DV)) (j8 : Int) : Option ((Bool × Rows) × Unit) :=
 DM.loopFn tm (z38_Φ n) z38_lv n Try.f18 true [] (OSh.chk (OSh.plain (.slt [Kd.s, Kd.s, Kd.s, Kd.sl [Kd.b, Kd.i IntKind.i64, Kd.s]] 0) [])) 3 [] i0 (St.mk [AV.sl b0 [Kd.s, Kd.s, Kd.s, Kd.sl [Kd.b, Kd.i IntKind.i64, Kd.s]] r1 Right.no, AV.sl b2 [Kd.s, Kd.s, Kd.s, Kd.sl [Kd.b, Kd.i IntKind.i64, Kd.s]] r3 Right.no, AV.junk, AV.junk, AV.junk, AV.sl b6 [Kd.s, Kd.s, Kd.s, Kd.sl [Kd.b, Kd.i IntKind.i64, Kd.s]] r7 (Right.tok 5), AV.dv (DV.val (Value.int IntKind.i64 j8)), AV.junk, AV.junk, AV.junk, AV.junk, AV.junk, AV.junk, AV.junk, AV.junk, AV.junk, AV.junk, AV.junk, AV.junk, AV.junk, AV.junk, AV.junk, AV.junk, AV.junk, AV.junk, AV.junk, AV.junk] [])
theorem z38_s3 (n : Nat) (b0 : Bool) (r1 : Rows) (b2 : Bool) (r3 : Rows) (i0 : Nat) (b6 : Bool) (r7 : List (List DV)) (j8 : Int) : z38_l3 n b0 r1 b2 r3 (i0 + 1) b6 r7 j8 =
 bif decide (j8 < (↑(List.length r1) : Int)) then
  if 0 ≤ j8 then
   if j8 < (↑(List.length r1) : Int) then
    obind (z47_v n b2 r3 (Row.S (List.getD r1 (Int.toNat j8) []) 0) (Row.S (List.getD r1 (Int.toNat j8) []) 1) (Row.S (List.getD r1 (Int.toNat j8) []) 2) (Row.N (List.getD r1 (Int.toNat j8) []) 3) (Row.R (List.getD r1 (Int.toNat j8) []) 3)) fun y9 =>
    bif !y9.fst then
     if 0 ≤ j8 then
      if j8 < (↑(List.length r1) : Int) then
       obind (z43_v n b6 r7 (Row.S (List.getD r1 (Int.toNat j8) []) 0) (Row.S (List.getD r1 (Int.toNat j8) []) 1) (Row.S (List.getD r1 (Int.toNat j8) []) 2) (Row.N (List.getD r1 (Int.toNat j8) []) 3) (Row.R (List.getD r1 (Int.toNat j8) []) 3)) fun y10 =>
       z38_l3 n b0 r1 b2 r3 i0 y10.fst.fst y10.fst.snd (IntKind.wrap IntKind.i64 (j8 + 1))
      else none
     else none
    else z38_l3 n b0 r1 b2 r3 i0 b6 r7 (IntKind.wrap IntKind.i64 (j8 + 1))
   else none
  else none
 else some ((b6, r7), ()) := by kernel_rfl
theorem z38_e (n : Nat) (b0 : Bool) (r1 : Rows) (b2 : Bool) (r3 : Rows) : z38_v n b0 r1 b2 r3 =
 z38_l3 n b0 r1 b2 r3 n true [] 0 := by kernel_rfl
theorem z38_c (n : Nat) (b0 : Bool) (r1 : Rows) (b2 : Bool) (r3 : Rows) (y : (Bool × Rows) × Unit) (h : z38_v n b0 r1 b2 r3 = some y) : Contract Try.prog 18 [AV.sl b0 [Kd.s, Kd.s, Kd.s, Kd.sl [Kd.b, Kd.i IntKind.i64, Kd.s]] r1 Right.no, AV.sl b2 [Kd.s, Kd.s, Kd.s, Kd.sl [Kd.b, Kd.i IntKind.i64, Kd.s]] r3 Right.no] [] (OSh.enc (OSh.plain (.slt [Kd.s, Kd.s, Kd.s, Kd.sl [Kd.b, Kd.i IntKind.i64, Kd.s]] 0) []) y) :=
 auto_okM tm_std (with_ok mixed (by kernel_rfl) (z38_σok n) n 0 [1000045, 1000059]) (with_pick mixed (by kernel_rfl) (z38_σok n) n 0 [1000045, 1000059]) mixed Try.func18 (by decide) (o := (OSh.plain (.slt [Kd.s, Kd.s, Kd.s, Kd.sl [Kd.b, Kd.i IntKind.i64, Kd.s]] 0) [])) h
def z18_lv : Live := [(5, [3, 11, 12, 13], [1000, 1001, 1002, 1003])]
noncomputable def z18_σ (n : Nat) : Spec := (inst 36 [.pv [Kd.sl [Kd.i IntKind.i64, Kd.s, Kd.s, Kd.s, Kd.sl [Kd.b, Kd.i IntKind.i64, Kd.s], Kd.sl [Kd.s, Kd.s, Kd.s, Kd.sl [Kd.b, Kd.i IntKind.i64, Kd.s]]], Kd.b] 0] [] (OSh.plain (.b) []) (fun x e => z15_v n x.1) (inst 37 [.sl [Kd.s, Kd.s, Kd.s, Kd.sl [Kd.b, Kd.i IntKind.i64, Kd.s]]] [] (OSh.plain (.slt [Kd.s, Kd.s, Kd.s, Kd.sl [Kd.b, Kd.i IntKind.i64, Kd.s]] 0) []) (fun x e => z36_v n x.1.1 x.1.2) (bookH Spec.none)))
theorem z18_σok (n : Nat) : SpecOk Try.prog (z18_σ n) := (inst_ok (fun x e y h => z15_c n x.1 y h) (inst_ok (fun x e y h => z36_c n x.1.1 x.1.2 y h) (bookH_ok (SpecOk.none _))))
noncomputable def z18_Φ (n : Nat) : Orc := with_ Try.prog (z18_σ n) [] n 0 [5000007, 1000045, 1000059]
noncomputable def z18_v (n : Nat) (b0 : Bool) (r1 : Rows) (b2 : Bool) : Option ((Bool × Rows) × ((Bool × Rows) × Bool × Unit) × Unit) :=
 DM.denFn tm (z18_Φ n) z18_lv n Try.f19 true [AV.pl 1000 0] [[AV.sl b0 [Kd.i IntKind.i64, Kd.s, Kd.s, Kd.s, Kd.sl [Kd.b, Kd.i IntKind.i64, Kd.s], Kd.sl [Kd.s, Kd.s, Kd.s, Kd.sl [Kd.b, Kd.i IntKind.i64, Kd.s]]] r1 Right.no, AV.dv (DV.val (Value.bool b2))]] (OSh.chk (OSh.plain (.slt [Kd.s, Kd.s, Kd.s, Kd.sl [Kd.b, Kd.i IntKind.i64, Kd.s]] 0) [[.sl [Kd.i IntKind.i64, Kd.s, Kd.s, Kd.s, Kd.sl [Kd.b, Kd.i IntKind.i64, Kd.s], Kd.sl [Kd.s, Kd.s, Kd.s, Kd.sl [Kd.b, Kd.i IntKind.i64, Kd.s]]], .b]]))
noncomputable def z18_l5 (n : Nat) (b0 : Bool) (r1 : Rows) (b2 : Bool) (i0 : Nat) (b5 : Bool) (r6 : List (List DV)) (j7 : Int) : Option ((Bool × Rows) × ((Bool × Rows) × Bool × Unit) × Unit) :=
 DM.loopFn tm (z18_Φ n) z18_lv n Try.f19 true [[AV.sl b0 [Kd.i IntKind.i64, Kd.s, Kd.s, Kd.s, Kd.sl [Kd.b, Kd.i IntKind.i64, Kd.s], Kd.sl [Kd.s, Kd.s, Kd.s, Kd.sl [Kd.b, Kd.i IntKind.i64, Kd.s]]] r1 Right.no, AV.dv (DV.val (Value.bool b2))]] (OSh.chk (OSh.plain (.slt [Kd.s, Kd.s, Kd.s, Kd.sl [Kd.b, Kd.i IntKind.i64, Kd.s]] 0) [[.sl [Kd.i IntKind.i64, Kd.s, Kd.s, Kd.s, Kd.sl [Kd.b, Kd.i IntKind.i64, Kd.s], Kd.sl [Kd.s, Kd.s, Kd.s, Kd.sl [Kd.b, Kd.i IntKind.i64, Kd.s]]], .b]])) 5 [] i0 (St.mk [AV.junk, AV.junk, AV.junk, AV.sl b5 [Kd.s, Kd.s, Kd.s, Kd.sl [Kd.b, Kd.i IntKind.i64, Kd.s]] r6 (Right.tok 3), AV.junk, AV.junk, AV.junk, AV.junk, AV.junk, AV.junk, AV.junk, AV.sl b0 [Kd.i IntKind.i64, Kd.s, Kd.s, Kd.s, Kd.sl [Kd.b, Kd.i IntKind.i64, Kd.s], Kd.sl [Kd.s, Kd.s, Kd.s, Kd.sl [Kd.b, Kd.i IntKind.i64, Kd.s]]] r1 Right.no, AV.dv (DV.val (Value.int IntKind.i64 (↑(List.length r1) : Int))), AV.dv (DV.val (Value.int IntKind.i64 j7)), AV.junk, AV.junk, AV.junk, AV.junk, AV.junk, AV.junk, AV.junk, AV.junk, AV.junk, AV.junk, AV.junk] [(1000, [AV.sl b0 [Kd.i IntKind.i64, Kd.s, Kd.s, Kd.s, Kd.sl [Kd.b, Kd.i IntKind.i64, Kd.s], Kd.sl [Kd.s, Kd.s, Kd.s, Kd.sl [Kd.b, Kd.i IntKind.i64, Kd.s]]] r1 Right.no, AV.dv (DV.val (Value.bool b2))])])
theorem z18_s5 (n : Nat) (b0 : Bool) (r1 : Rows) (b2 : Bool) (i0 : Nat) (b5 : Bool) (r6 : List (List DV)) (j7 : Int) : z18_l5 n b0 r1 b2 (i0 + 1) b5 r6 j7 =
 bif decide (j7 < (↑(List.length r1) : Int)) then
  if 0 ≤ j7 then
   if j7 < (↑(List.length r1) : Int) then
    if (List.length r6 + List.length [[DV.val (Value.string (Row.S (List.getD r1 (Int.toNat j7) []) 1)), DV.val (Value.string (Row.S (List.getD r1 (Int.toNat j7) []) 2)), DV.val (Value.string (Row.S (List.getD r1 (Int.toNat j7) []) 3)), DV.sl (Row.N (List.getD r1 (Int.toNat j7) []) 4) [Kd.b, Kd.i IntKind.i64, Kd.s] (Row.R (List.getD r1 (Int.toNat j7) []) 4)]]) * 72 ≤ 140737488355328 then
     z18_l5 n b0 r1 b2 i0 (b5 && List.isEmpty [[DV.val (Value.string (Row.S (List.getD r1 (Int.toNat j7) []) 1)), DV.val (Value.string (Row.S (List.getD r1 (Int.toNat j7) []) 2)), DV.val (Value.string (Row.S (List.getD r1 (Int.toNat j7) []) 3)), DV.sl (Row.N (List.getD r1 (Int.toNat j7) []) 4) [Kd.b, Kd.i IntKind.i64, Kd.s] (Row.R (List.getD r1 (Int.toNat j7) []) 4)]]) (appX r6 [[DV.val (Value.string (Row.S (List.getD r1 (Int.toNat j7) []) 1)), DV.val (Value.string (Row.S (List.getD r1 (Int.toNat j7) []) 2)), DV.val (Value.string (Row.S (List.getD r1 (Int.toNat j7) []) 3)), DV.sl (Row.N (List.getD r1 (Int.toNat j7) []) 4) [Kd.b, Kd.i IntKind.i64, Kd.s] (Row.R (List.getD r1 (Int.toNat j7) []) 4)]]) (IntKind.wrap IntKind.i64 (j7 + 1))
    else none
   else none
  else none
 else obind (z36_v n b5 r6) fun y8 =>
 some ((y8.fst.fst, y8.fst.snd), (((b0, r1), (b2, ())), ())) := by kernel_rfl
theorem z18_e (n : Nat) (b0 : Bool) (r1 : Rows) (b2 : Bool) : z18_v n b0 r1 b2 =
 obind (z15_v n ([DV.sl b0 [Kd.i IntKind.i64, Kd.s, Kd.s, Kd.s, Kd.sl [Kd.b, Kd.i IntKind.i64, Kd.s], Kd.sl [Kd.s, Kd.s, Kd.s, Kd.sl [Kd.b, Kd.i IntKind.i64, Kd.s]]] r1, DV.val (Value.bool b2)])) fun y3 =>
 bif y3.fst then
  some ((true, []), (((b0, r1), (b2, ())), ()))
 else z18_l5 n b0 r1 b2 n true [] 0 := by kernel_rfl
theorem z18_c (n : Nat) (b0 : Bool) (r1 : Rows) (b2 : Bool) (y : (Bool × Rows) × ((Bool × Rows) × Bool × Unit) × Unit) (h : z18_v n b0 r1 b2 = some y) : Contract Try.prog 19 [AV.pl 1000 0] [[AV.sl b0 [Kd.i IntKind.i64, Kd.s, Kd.s, Kd.s, Kd.sl [Kd.b, Kd.i IntKind.i64, Kd.s], Kd.sl [Kd.s, Kd.s, Kd.s, Kd.sl [Kd.b, Kd.i IntKind.i64, Kd.s]]] r1 Right.no, AV.dv (DV.val (Value.bool b2))]] (OSh.enc (OSh.plain (.slt [Kd.s, Kd.s, Kd.s, Kd.sl [Kd.b, Kd.i IntKind.i64, Kd.s]] 0) [[.sl [Kd.i IntKind.i64, Kd.s, Kd.s, Kd.s, Kd.sl [Kd.b, Kd.i IntKind.i64, Kd.s], Kd.sl [Kd.s, Kd.s, Kd.s, Kd.sl [Kd.b, Kd.i IntKind.i64, Kd.s]]], .b]]) y) :=
 auto_okM tm_std (with_ok mixed (by kernel_rfl) (z18_σok n) n 0 [5000007, 1000045, 1000059]) (with_pick mixed (by kernel_rfl) (z18_σok n) n 0 [5000007, 1000045, 1000059]) mixed Try.func19 (by decide) (o := (OSh.plain (.slt [Kd.s, Kd.s, Kd.s, Kd.sl [Kd.b, Kd.i IntKind.i64, Kd.s]] 0) [[.sl [Kd.i IntKind.i64, Kd.s, Kd.s, Kd.s, Kd.sl [Kd.b, Kd.i IntKind.i64, Kd.s], Kd.sl [Kd.s, Kd.s, Kd.s, Kd.sl [Kd.b, Kd.i IntKind.i64, Kd.s]]], .b]])) h
def z41_lv : Live := []
noncomputable def z41_σ (n : Nat) : Spec := (inst 40 [.agg [.s, .s, .s, .sl [Kd.b, Kd.i IntKind.i64, Kd.s]], .agg [.s, .s, .s, .sl [Kd.b, Kd.i IntKind.i64, Kd.s]]] [] (OSh.plain (.i IntKind.i64) []) (fun x e => z40_v n x.1.1 x.1.2.1 x.1.2.2.1 x.1.2.2.2.1.1 x.1.2.2.2.1.2 x.2.1.1 x.2.1.2.1 x.2.1.2.2.1 x.2.1.2.2.2.1.1 x.2.1.2.2.2.1.2) (bookH Spec.none))
theorem z41_σok (n : Nat) : SpecOk Try.prog (z41_σ n) := (inst_ok (fun x e y h => z40_c n x.1.1 x.1.2.1 x.1.2.2.1 x.1.2.2.2.1.1 x.1.2.2.2.1.2 x.2.1.1 x.2.1.2.1 x.2.1.2.2.1 x.2.1.2.2.2.1.1 x.2.1.2.2.2.1.2 y h) (bookH_ok (SpecOk.none _)))
noncomputable def z41_Φ (n : Nat) : Orc := with_ Try.prog (z41_σ n) [] n 0 [1000045, 1000059]
noncomputable def z41_v (n : Nat) (s0 : ByteArray) (s1 : ByteArray) (s2 : ByteArray) (b3 : Bool) (r4 : Rows) (s5 : ByteArray) (s6 : ByteArray) (s7 : ByteArray) (b8 : Bool) (r9 : Rows) : Option (Bool × (ByteArray × ByteArray × ByteArray × (Bool × Rows) × Unit) × Unit) :=
 DM.denFn tm (z41_Φ n) z41_lv n Try.f69 false [AV.agg [AV.dv (DV.val (Value.string s0)), AV.dv (DV.val (Value.string s1)), AV.dv (DV.val (Value.string s2)), AV.sl b3 [Kd.b, Kd.i IntKind.i64, Kd.s] r4 Right.no], AV.pl 1000 0] [[AV.dv (DV.val (Value.string s5)), AV.dv (DV.val (Value.string s6)), AV.dv (DV.val (Value.string s7)), AV.sl b8 [Kd.b, Kd.i IntKind.i64, Kd.s] r9 Right.no]] (OSh.chk (OSh.plain (.b) [[.s, .s, .s, .sl [Kd.b, Kd.i IntKind.i64, Kd.s]]]))
theorem z41_e (n : Nat) (s0 : ByteArray) (s1 : ByteArray) (s2 : ByteArray) (b3 : Bool) (r4 : Rows) (s5 : ByteArray) (s6 : ByteArray) (s7 : ByteArray) (b8 : Bool) (r9 : Rows) : z41_v n s0 s1 s2 b3 r4 s5 s6 s7 b8 r9 =
 obind (z40_v n s5 s6 s7 b8 r9 s0 s1 s2 b3 r4) fun y10 =>
 some (y10.fst == 0, ((s5, (s6, (s7, ((b8, r9), ())))), ())) := by kernel_rfl
theorem z41_c (n : Nat) (s0 : ByteArray) (s1 : ByteArray) (s2 : ByteArray) (b3 : Bool) (r4 : Rows) (s5 : ByteArray) (s6 : ByteArray) (s7 : ByteArray) (b8 : Bool) (r9 : Rows) (y : Bool × (ByteArray × ByteArray × ByteArray × (Bool × Rows) × Unit) × Unit) (h : z41_v n s0 s1 s2 b3 r4 s5 s6 s7 b8 r9 = some y) : Contract Try.prog 69 [AV.agg [AV.dv (DV.val (Value.string s0)), AV.dv (DV.val (Value.string s1)), AV.dv (DV.val (Value.string s2)), AV.sl b3 [Kd.b, Kd.i IntKind.i64, Kd.s] r4 Right.no], AV.pl 1000 0] [[AV.dv (DV.val (Value.string s5)), AV.dv (DV.val (Value.string s6)), AV.dv (DV.val (Value.string s7)), AV.sl b8 [Kd.b, Kd.i IntKind.i64, Kd.s] r9 Right.no]] (OSh.enc (OSh.plain (.b) [[.s, .s, .s, .sl [Kd.b, Kd.i IntKind.i64, Kd.s]]]) y) :=
 auto_okM tm_std (with_ok mixed (by kernel_rfl) (z41_σok n) n 0 [1000045, 1000059]) (with_pick mixed (by kernel_rfl) (z41_σok n) n 0 [1000045, 1000059]) mixed Try.func69 (by decide) (o := (OSh.plain (.b) [[.s, .s, .s, .sl [Kd.b, Kd.i IntKind.i64, Kd.s]]])) h
def z9_lv : Live := [(2, [0, 1, 7, 8], [1000, 1001, 1002, 1003])]
noncomputable def z9_σ (n : Nat) : Spec := (inst 69 [.agg [.s, .s, .s, .sl [Kd.b, Kd.i IntKind.i64, Kd.s]], .pl 1000 0] [[.s, .s, .s, .sl [Kd.b, Kd.i IntKind.i64, Kd.s]]] (OSh.plain (.b) [[.s, .s, .s, .sl [Kd.b, Kd.i IntKind.i64, Kd.s]]]) (fun x e => z41_v n x.1.1 x.1.2.1 x.1.2.2.1 x.1.2.2.2.1.1 x.1.2.2.2.1.2 e.1.1 e.1.2.1 e.1.2.2.1 e.1.2.2.2.1.1 e.1.2.2.2.1.2) (bookH Spec.none))
theorem z9_σok (n : Nat) : SpecOk Try.prog (z9_σ n) := (inst_ok (fun x e y h => z41_c n x.1.1 x.1.2.1 x.1.2.2.1 x.1.2.2.2.1.1 x.1.2.2.2.1.2 e.1.1 e.1.2.1 e.1.2.2.1 e.1.2.2.2.1.1 e.1.2.2.2.1.2 y h) (bookH_ok (SpecOk.none _)))
noncomputable def z9_Φ (n : Nat) : Orc := with_ Try.prog (z9_σ n) [] n 0 [1000045, 1000059]
noncomputable def z9_v (n : Nat) (b0 : Bool) (r1 : Rows) (s2 : ByteArray) (s3 : ByteArray) (s4 : ByteArray) (b5 : Bool) (r6 : Rows) : Option (Int × (ByteArray × ByteArray × ByteArray × (Bool × Rows) × Unit) × Unit) :=
 DM.denFn tm (z9_Φ n) z9_lv n Try.f78 false [AV.sl b0 [Kd.s, Kd.s, Kd.s, Kd.sl [Kd.b, Kd.i IntKind.i64, Kd.s]] r1 Right.no, AV.fn 69 [AV.pl 1000 0]] [[AV.dv (DV.val (Value.string s2)), AV.dv (DV.val (Value.string s3)), AV.dv (DV.val (Value.string s4)), AV.sl b5 [Kd.b, Kd.i IntKind.i64, Kd.s] r6 Right.no]] (OSh.chk (OSh.plain (.i IntKind.i64) [[.s, .s, .s, .sl [Kd.b, Kd.i IntKind.i64, Kd.s]]]))
noncomputable def z9_l2 (n : Nat) (b0 : Bool) (r1 : Rows) (s2 : ByteArray) (s3 : ByteArray) (s4 : ByteArray) (b5 : Bool) (r6 : Rows) (i0 : Nat) (j8 : Int) (s9 : ByteArray) (s10 : ByteArray) (s11 : ByteArray) (b12 : Bool) (r13 : List (List DV)) : Option (Int × (ByteArray × ByteArray × ByteArray × (Bool × Rows) × Unit) × Unit) :=
 DM.loopFn tm (z9_Φ n) z9_lv n Try.f78 false [[AV.dv (DV.val (Value.string s2)), AV.dv (DV.val (Value.string s3)), AV.dv (DV.val (Value.string s4)), AV.sl b5 [Kd.b, Kd.i IntKind.i64, Kd.s] r6 Right.no]] (OSh.chk (OSh.plain (.i IntKind.i64) [[.s, .s, .s, .sl [Kd.b, Kd.i IntKind.i64, Kd.s]]])) 2 [] i0 (St.mk [AV.sl b0 [Kd.s, Kd.s, Kd.s, Kd.sl [Kd.b, Kd.i IntKind.i64, Kd.s]] r1 Right.no, AV.fn 69 [AV.pl 1000 0], AV.junk, AV.junk, AV.junk, AV.junk, AV.junk, AV.dv (DV.val (Value.int IntKind.i64 (↑(List.length r1) : Int))), AV.dv (DV.val (Value.int IntKind.i64 j8)), AV.junk, AV.junk, AV.junk, AV.junk, AV.junk, AV.junk, AV.junk, AV.junk, AV.junk, AV.junk] [(1000, [AV.dv (DV.val (Value.string s9)), AV.dv (DV.val (Value.string s10)), AV.dv (DV.val (Value.string s11)), AV.sl b12 [Kd.b, Kd.i IntKind.i64, Kd.s] r13 Right.no])])
theorem z9_s2 (n : Nat) (b0 : Bool) (r1 : Rows) (s2 : ByteArray) (s3 : ByteArray) (s4 : ByteArray) (b5 : Bool) (r6 : Rows) (i0 : Nat) (j8 : Int) (s9 : ByteArray) (s10 : ByteArray) (s11 : ByteArray) (b12 : Bool) (r13 : List (List DV)) : z9_l2 n b0 r1 s2 s3 s4 b5 r6 (i0 + 1) j8 s9 s10 s11 b12 r13 =
 bif decide (j8 < (↑(List.length r1) : Int)) then
  if 0 ≤ j8 then
   if j8 < (↑(List.length r1) : Int) then
    obind (z41_v n (Row.S (List.getD r1 (Int.toNat j8) []) 0) (Row.S (List.getD r1 (Int.toNat j8) []) 1) (Row.S (List.getD r1 (Int.toNat j8) []) 2) (Row.N (List.getD r1 (Int.toNat j8) []) 3) (Row.R (List.getD r1 (Int.toNat j8) []) 3) s9 s10 s11 b12 r13) fun y14 =>
    bif y14.fst then
     some (j8, ((y14.snd.fst.fst, (y14.snd.fst.snd.fst, (y14.snd.fst.snd.snd.fst, ((y14.snd.fst.snd.snd.snd.fst.fst, y14.snd.fst.snd.snd.snd.fst.snd), ())))), ()))
    else z9_l2 n b0 r1 s2 s3 s4 b5 r6 i0 (IntKind.wrap IntKind.i64 (j8 + 1)) y14.snd.fst.fst y14.snd.fst.snd.fst y14.snd.fst.snd.snd.fst y14.snd.fst.snd.snd.snd.fst.fst y14.snd.fst.snd.snd.snd.fst.snd
   else none
  else none
 else some (-1, ((s9, (s10, (s11, ((b12, r13), ())))), ())) := by kernel_rfl
theorem z9_e (n : Nat) (b0 : Bool) (r1 : Rows) (s2 : ByteArray) (s3 : ByteArray) (s4 : ByteArray) (b5 : Bool) (r6 : Rows) : z9_v n b0 r1 s2 s3 s4 b5 r6 =
 z9_l2 n b0 r1 s2 s3 s4 b5 r6 n 0 s2 s3 s4 b5 r6 := by kernel_rfl
theorem z9_c (n : Nat) (b0 : Bool) (r1 : Rows) (s2 : ByteArray) (s3 : ByteArray) (s4 : ByteArray) (b5 : Bool) (r6 : Rows) (y : Int × (ByteArray × ByteArray × ByteArray × (Bool × Rows) × Unit) × Unit) (h : z9_v n b0 r1 s2 s3 s4 b5 r6 = some y) : Contract Try.prog 78 [AV.sl b0 [Kd.s, Kd.s, Kd.s, Kd.sl [Kd.b, Kd.i IntKind.i64, Kd.s]] r1 Right.no, AV.fn 69 [AV.pl 1000 0]] [[AV.dv (DV.val (Value.string s2)), AV.dv (DV.val (Value.string s3)), AV.dv (DV.val (Value.string s4)), AV.sl b5 [Kd.b, Kd.i IntKind.i64, Kd.s] r6 Right.no]] (OSh.enc (OSh.plain (.i IntKind.i64) [[.s, .s, .s, .sl [Kd.b, Kd.i IntKind.i64, Kd.s]]]) y) :=
 auto_okM tm_std (with_ok mixed (by kernel_rfl) (z9_σok n) n 0 [1000045, 1000059]) (with_pick mixed (by kernel_rfl) (z9_σok n) n 0 [1000045, 1000059]) mixed Try.func78 (by decide) (o := (OSh.plain (.i IntKind.i64) [[.s, .s, .s, .sl [Kd.b, Kd.i IntKind.i64, Kd.s]]])) h
def z7_lv : Live := []
noncomputable def z7_σ (n : Nat) : Spec := (inst 78 [.sl [Kd.s, Kd.s, Kd.s, Kd.sl [Kd.b, Kd.i IntKind.i64, Kd.s]], .fn 69 [.pl 1000 0]] [[.s, .s, .s, .sl [Kd.b, Kd.i IntKind.i64, Kd.s]]] (OSh.plain (.i IntKind.i64) [[.s, .s, .s, .sl [Kd.b, Kd.i IntKind.i64, Kd.s]]]) (fun x e => z9_v n x.1.1 x.1.2 e.1.1 e.1.2.1 e.1.2.2.1 e.1.2.2.2.1.1 e.1.2.2.2.1.2) (bookH Spec.none))
theorem z7_σok (n : Nat) : SpecOk Try.prog (z7_σ n) := (inst_ok (fun x e y h => z9_c n x.1.1 x.1.2 e.1.1 e.1.2.1 e.1.2.2.1 e.1.2.2.2.1.1 e.1.2.2.2.1.2 y h) (bookH_ok (SpecOk.none _)))
noncomputable def z7_Φ (n : Nat) : Orc := with_ Try.prog (z7_σ n) [] n 0 [1000045, 1000059]
noncomputable def z7_v (n : Nat) (b0 : Bool) (r1 : Rows) (s2 : ByteArray) (s3 : ByteArray) (s4 : ByteArray) (b5 : Bool) (r6 : Rows) : Option (Bool × (ByteArray × ByteArray × ByteArray × (Bool × Rows) × Unit) × Unit) :=
 DM.denFn tm (z7_Φ n) z7_lv n Try.f68 false [AV.sl b0 [Kd.s, Kd.s, Kd.s, Kd.sl [Kd.b, Kd.i IntKind.i64, Kd.s]] r1 Right.no, AV.fn 69 [AV.pl 1000 0]] [[AV.dv (DV.val (Value.string s2)), AV.dv (DV.val (Value.string s3)), AV.dv (DV.val (Value.string s4)), AV.sl b5 [Kd.b, Kd.i IntKind.i64, Kd.s] r6 Right.no]] (OSh.chk (OSh.plain (.b) [[.s, .s, .s, .sl [Kd.b, Kd.i IntKind.i64, Kd.s]]]))
theorem z7_e (n : Nat) (b0 : Bool) (r1 : Rows) (s2 : ByteArray) (s3 : ByteArray) (s4 : ByteArray) (b5 : Bool) (r6 : Rows) : z7_v n b0 r1 s2 s3 s4 b5 r6 =
 obind (z9_v n b0 r1 s2 s3 s4 b5 r6) fun y7 =>
 some (decide (y7.fst ≥ 0), ((y7.snd.fst.fst, (y7.snd.fst.snd.fst, (y7.snd.fst.snd.snd.fst, ((y7.snd.fst.snd.snd.snd.fst.fst, y7.snd.fst.snd.snd.snd.fst.snd), ())))), ())) := by kernel_rfl
theorem z7_c (n : Nat) (b0 : Bool) (r1 : Rows) (s2 : ByteArray) (s3 : ByteArray) (s4 : ByteArray) (b5 : Bool) (r6 : Rows) (y : Bool × (ByteArray × ByteArray × ByteArray × (Bool × Rows) × Unit) × Unit) (h : z7_v n b0 r1 s2 s3 s4 b5 r6 = some y) : Contract Try.prog 68 [AV.sl b0 [Kd.s, Kd.s, Kd.s, Kd.sl [Kd.b, Kd.i IntKind.i64, Kd.s]] r1 Right.no, AV.fn 69 [AV.pl 1000 0]] [[AV.dv (DV.val (Value.string s2)), AV.dv (DV.val (Value.string s3)), AV.dv (DV.val (Value.string s4)), AV.sl b5 [Kd.b, Kd.i IntKind.i64, Kd.s] r6 Right.no]] (OSh.enc (OSh.plain (.b) [[.s, .s, .s, .sl [Kd.b, Kd.i IntKind.i64, Kd.s]]]) y) :=
 auto_okM tm_std (with_ok mixed (by kernel_rfl) (z7_σok n) n 0 [1000045, 1000059]) (with_pick mixed (by kernel_rfl) (z7_σok n) n 0 [1000045, 1000059]) mixed Try.func68 (by decide) (o := (OSh.plain (.b) [[.s, .s, .s, .sl [Kd.b, Kd.i IntKind.i64, Kd.s]]])) h
def z51_lv : Live := []
noncomputable def z51_σ (n : Nat) : Spec := (inst 68 [.sl [Kd.s, Kd.s, Kd.s, Kd.sl [Kd.b, Kd.i IntKind.i64, Kd.s]], .fn 69 [.pl 1000 0]] [[.s, .s, .s, .sl [Kd.b, Kd.i IntKind.i64, Kd.s]]] (OSh.plain (.b) [[.s, .s, .s, .sl [Kd.b, Kd.i IntKind.i64, Kd.s]]]) (fun x e => z7_v n x.1.1 x.1.2 e.1.1 e.1.2.1 e.1.2.2.1 e.1.2.2.2.1.1 e.1.2.2.2.1.2) (bookH Spec.none))
theorem z51_σok (n : Nat) : SpecOk Try.prog (z51_σ n) := (inst_ok (fun x e y h => z7_c n x.1.1 x.1.2 e.1.1 e.1.2.1 e.1.2.2.1 e.1.2.2.2.1.1 e.1.2.2.2.1.2 y h) (bookH_ok (SpecOk.none _)))
noncomputable def z51_Φ (n : Nat) : Orc := with_ Try.prog (z51_σ n) [] n 0 [1000045, 1000059]
noncomputable def z51_v (n : Nat) (b0 : Bool) (r1 : Rows) (s2 : ByteArray) (s3 : ByteArray) (s4 : ByteArray) (b5 : Bool) (r6 : Rows) : Option (Bool × Unit) :=
 DM.denFn tm (z51_Φ n) z51_lv n Try.f49 false [AV.sl b0 [Kd.s, Kd.s, Kd.s, Kd.sl [Kd.b, Kd.i IntKind.i64, Kd.s]] r1 Right.no, AV.agg [AV.dv (DV.val (Value.string s2)), AV.dv (DV.val (Value.string s3)), AV.dv (DV.val (Value.string s4)), AV.sl b5 [Kd.b, Kd.i IntKind.i64, Kd.s] r6 Right.no]] [] (OSh.chk (OSh.plain (.b) []))
theorem z51_e (n : Nat) (b0 : Bool) (r1 : Rows) (s2 : ByteArray) (s3 : ByteArray) (s4 : ByteArray) (b5 : Bool) (r6 : Rows) : z51_v n b0 r1 s2 s3 s4 b5 r6 =
 obind (z7_v n b0 r1 s2 s3 s4 b5 r6) fun y7 =>
 some (y7.fst, ()) := by kernel_rfl
theorem z51_c (n : Nat) (b0 : Bool) (r1 : Rows) (s2 : ByteArray) (s3 : ByteArray) (s4 : ByteArray) (b5 : Bool) (r6 : Rows) (y : Bool × Unit) (h : z51_v n b0 r1 s2 s3 s4 b5 r6 = some y) : Contract Try.prog 49 [AV.sl b0 [Kd.s, Kd.s, Kd.s, Kd.sl [Kd.b, Kd.i IntKind.i64, Kd.s]] r1 Right.no, AV.agg [AV.dv (DV.val (Value.string s2)), AV.dv (DV.val (Value.string s3)), AV.dv (DV.val (Value.string s4)), AV.sl b5 [Kd.b, Kd.i IntKind.i64, Kd.s] r6 Right.no]] [] (OSh.enc (OSh.plain (.b) []) y) :=
 auto_okM tm_std (with_ok mixed (by kernel_rfl) (z51_σok n) n 0 [1000045, 1000059]) (with_pick mixed (by kernel_rfl) (z51_σok n) n 0 [1000045, 1000059]) mixed Try.func49 (by decide) (o := (OSh.plain (.b) [])) h
def z11_lv : Live := []
noncomputable def z11_σ (n : Nat) : Spec := (inst 49 [.sl [Kd.s, Kd.s, Kd.s, Kd.sl [Kd.b, Kd.i IntKind.i64, Kd.s]], .agg [.s, .s, .s, .sl [Kd.b, Kd.i IntKind.i64, Kd.s]]] [] (OSh.plain (.b) []) (fun x e => z51_v n x.1.1 x.1.2 x.2.1.1 x.2.1.2.1 x.2.1.2.2.1 x.2.1.2.2.2.1.1 x.2.1.2.2.2.1.2) (bookH Spec.none))
theorem z11_σok (n : Nat) : SpecOk Try.prog (z11_σ n) := (inst_ok (fun x e y h => z51_c n x.1.1 x.1.2 x.2.1.1 x.2.1.2.1 x.2.1.2.2.1 x.2.1.2.2.2.1.1 x.2.1.2.2.2.1.2 y h) (bookH_ok (SpecOk.none _)))
noncomputable def z11_Φ (n : Nat) : Orc := with_ Try.prog (z11_σ n) [] n 0 [1000045, 1000059]
noncomputable def z11_v (n : Nat) (j0 : Int) (s1 : ByteArray) (s2 : ByteArray) (s3 : ByteArray) (b4 : Bool) (r5 : Rows) (b6 : Bool) (r7 : Rows) (r8 : Row) : Option (Bool × Unit) :=
 DM.denFn tm (z11_Φ n) z11_lv n Try.f48 false [AV.agg [AV.dv (DV.val (Value.int IntKind.i64 j0)), AV.dv (DV.val (Value.string s1)), AV.dv (DV.val (Value.string s2)), AV.dv (DV.val (Value.string s3)), AV.sl b4 [Kd.b, Kd.i IntKind.i64, Kd.s] r5 Right.no, AV.sl b6 [Kd.s, Kd.s, Kd.s, Kd.sl [Kd.b, Kd.i IntKind.i64, Kd.s]] r7 Right.no], AV.pv [Kd.s, Kd.s, Kd.s, Kd.sl [Kd.b, Kd.i IntKind.i64, Kd.s]] r8 0] [] (OSh.chk (OSh.plain (.b) []))
theorem z11_e (n : Nat) (j0 : Int) (s1 : ByteArray) (s2 : ByteArray) (s3 : ByteArray) (b4 : Bool) (r5 : Rows) (b6 : Bool) (r7 : Rows) (r8 : Row) : z11_v n j0 s1 s2 s3 b4 r5 b6 r7 r8 =
 obind (z51_v n b6 r7 (Row.S r8 0) (Row.S r8 1) (Row.S r8 2) (Row.N r8 3) (Row.R r8 3)) fun y9 =>
 some (y9.fst, ()) := by kernel_rfl
theorem z11_c (n : Nat) (j0 : Int) (s1 : ByteArray) (s2 : ByteArray) (s3 : ByteArray) (b4 : Bool) (r5 : Rows) (b6 : Bool) (r7 : Rows) (r8 : Row) (y : Bool × Unit) (h : z11_v n j0 s1 s2 s3 b4 r5 b6 r7 r8 = some y) : Contract Try.prog 48 [AV.agg [AV.dv (DV.val (Value.int IntKind.i64 j0)), AV.dv (DV.val (Value.string s1)), AV.dv (DV.val (Value.string s2)), AV.dv (DV.val (Value.string s3)), AV.sl b4 [Kd.b, Kd.i IntKind.i64, Kd.s] r5 Right.no, AV.sl b6 [Kd.s, Kd.s, Kd.s, Kd.sl [Kd.b, Kd.i IntKind.i64, Kd.s]] r7 Right.no], AV.pv [Kd.s, Kd.s, Kd.s, Kd.sl [Kd.b, Kd.i IntKind.i64, Kd.s]] r8 0] [] (OSh.enc (OSh.plain (.b) []) y) :=
 auto_okM tm_std (with_ok mixed (by kernel_rfl) (z11_σok n) n 0 [1000045, 1000059]) (with_pick mixed (by kernel_rfl) (z11_σok n) n 0 [1000045, 1000059]) mixed Try.func48 (by decide) (o := (OSh.plain (.b) [])) h
def z5_lv : Live := [(5, [1, 5, 13, 14, 15], [1000, 1001, 1002, 1003])]
noncomputable def z5_σ (n : Nat) : Spec := (inst 36 [.pv [Kd.sl [Kd.i IntKind.i64, Kd.s, Kd.s, Kd.s, Kd.sl [Kd.b, Kd.i IntKind.i64, Kd.s], Kd.sl [Kd.s, Kd.s, Kd.s, Kd.sl [Kd.b, Kd.i IntKind.i64, Kd.s]]], Kd.b] 0] [] (OSh.plain (.b) []) (fun x e => z15_v n x.1) (inst 48 [.agg [.i IntKind.i64, .s, .s, .s, .sl [Kd.b, Kd.i IntKind.i64, Kd.s], .sl [Kd.s, Kd.s, Kd.s, Kd.sl [Kd.b, Kd.i IntKind.i64, Kd.s]]], .pv [Kd.s, Kd.s, Kd.s, Kd.sl [Kd.b, Kd.i IntKind.i64, Kd.s]] 0] [] (OSh.plain (.b) []) (fun x e => z11_v n x.1.1 x.1.2.1 x.1.2.2.1 x.1.2.2.2.1 x.1.2.2.2.2.1.1 x.1.2.2.2.2.1.2 x.1.2.2.2.2.2.1.1 x.1.2.2.2.2.2.1.2 x.2.1) (inst 42 [.agg [.i IntKind.i64, .s, .s, .s, .sl [Kd.b, Kd.i IntKind.i64, Kd.s], .sl [Kd.s, Kd.s, Kd.s, Kd.sl [Kd.b, Kd.i IntKind.i64, Kd.s]]]] [] (OSh.plain (.agg [.i IntKind.i64, .s, .s, .s, .sl [Kd.b, Kd.i IntKind.i64, Kd.s], .sl [Kd.s, Kd.s, Kd.s, Kd.sl [Kd.b, Kd.i IntKind.i64, Kd.s]]]) []) (fun x e => z50_v n x.1.1 x.1.2.1 x.1.2.2.1 x.1.2.2.2.1 x.1.2.2.2.2.1.1 x.1.2.2.2.2.1.2 x.1.2.2.2.2.2.1.1 x.1.2.2.2.2.2.1.2) (bookH Spec.none))))
theorem z5_σok (n : Nat) : SpecOk Try.prog (z5_σ n) := (inst_ok (fun x e y h => z15_c n x.1 y h) (inst_ok (fun x e y h => z11_c n x.1.1 x.1.2.1 x.1.2.2.1 x.1.2.2.2.1 x.1.2.2.2.2.1.1 x.1.2.2.2.2.1.2 x.1.2.2.2.2.2.1.1 x.1.2.2.2.2.2.1.2 x.2.1 y h) (inst_ok (fun x e y h => z50_c n x.1.1 x.1.2.1 x.1.2.2.1 x.1.2.2.2.1 x.1.2.2.2.2.1.1 x.1.2.2.2.2.1.2 x.1.2.2.2.2.2.1.1 x.1.2.2.2.2.2.1.2 y h) (bookH_ok (SpecOk.none _)))))
noncomputable def z5_Φ (n : Nat) : Orc := with_ Try.prog (z5_σ n) [] n 0 [5000009,  5000021, 1000045, 1000059]
noncomputable def z5_v (n : Nat) (b0 : Bool) (r1 : Rows) (b2 : Bool) (s3 : ByteArray) (s4 : ByteArray) (s5 : ByteArray) (b6 : Bool) (r7 : Rows) : Option ((Bool × Rows) × ((Bool × Rows) × Bool × Unit) × (ByteArray × ByteArray × ByteArray × (Bool × Rows) × Unit) × Unit) :=
 DM.denFn tm (z5_Φ n) z5_lv n Try.f46 true [AV.pl 1000 0, AV.fn 48 [AV.pl 1001 0]] [[AV.sl b0 [Kd.i IntKind.i64, Kd.s, Kd.s, Kd.s, Kd.sl [Kd.b, Kd.i IntKind.i64, Kd.s], Kd.sl [Kd.s, Kd.s, Kd.s, Kd.sl [Kd.b, Kd.i IntKind.i64, Kd.s]]] r1 Right.no, AV.dv (DV.val (Value.bool b2))], [AV.dv (DV.val (Value.string s3)), AV.dv (DV.val (Value.string s4)), AV.dv (DV.val (Value.string s5)), AV.sl b6 [Kd.b, Kd.i IntKind.i64, Kd.s] r7 Right.no]] (OSh.chk (OSh.plain (.slt [Kd.i IntKind.i64, Kd.s, Kd.s, Kd.s, Kd.sl [Kd.b, Kd.i IntKind.i64, Kd.s], Kd.sl [Kd.s, Kd.s, Kd.s, Kd.sl [Kd.b, Kd.i IntKind.i64, Kd.s]]] 0) [[.sl [Kd.i IntKind.i64, Kd.s, Kd.s, Kd.s, Kd.sl [Kd.b, Kd.i IntKind.i64, Kd.s], Kd.sl [Kd.s, Kd.s, Kd.s, Kd.sl [Kd.b, Kd.i IntKind.i64, Kd.s]]], .b], [.s, .s, .s, .sl [Kd.b, Kd.i IntKind.i64, Kd.s]]]))
noncomputable def z5_l5 (n : Nat) (b0 : Bool) (r1 : Rows) (b2 : Bool) (s3 : ByteArray) (s4 : ByteArray) (s5 : ByteArray) (b6 : Bool) (r7 : Rows) (i0 : Nat) (b11 : Bool) (r12 : List (List DV)) (j13 : Int) : Option ((Bool × Rows) × ((Bool × Rows) × Bool × Unit) × (ByteArray × ByteArray × ByteArray × (Bool × Rows) × Unit) × Unit) :=
 DM.loopFn tm (z5_Φ n) z5_lv n Try.f46 true [[AV.sl b0 [Kd.i IntKind.i64, Kd.s, Kd.s, Kd.s, Kd.sl [Kd.b, Kd.i IntKind.i64, Kd.s], Kd.sl [Kd.s, Kd.s, Kd.s, Kd.sl [Kd.b, Kd.i IntKind.i64, Kd.s]]] r1 Right.no, AV.dv (DV.val (Value.bool b2))], [AV.dv (DV.val (Value.string s3)), AV.dv (DV.val (Value.string s4)), AV.dv (DV.val (Value.string s5)), AV.sl b6 [Kd.b, Kd.i IntKind.i64, Kd.s] r7 Right.no]] (OSh.chk (OSh.plain (.slt [Kd.i IntKind.i64, Kd.s, Kd.s, Kd.s, Kd.sl [Kd.b, Kd.i IntKind.i64, Kd.s], Kd.sl [Kd.s, Kd.s, Kd.s, Kd.sl [Kd.b, Kd.i IntKind.i64, Kd.s]]] 0) [[.sl [Kd.i IntKind.i64, Kd.s, Kd.s, Kd.s, Kd.sl [Kd.b, Kd.i IntKind.i64, Kd.s], Kd.sl [Kd.s, Kd.s, Kd.s, Kd.sl [Kd.b, Kd.i IntKind.i64, Kd.s]]], .b], [.s, .s, .s, .sl [Kd.b, Kd.i IntKind.i64, Kd.s]]])) 5 [] i0 (St.mk [AV.junk, AV.fn 48 [AV.pl 1001 0], AV.junk, AV.junk, AV.junk, AV.sl b11 [Kd.i IntKind.i64, Kd.s, Kd.s, Kd.s, Kd.sl [Kd.b, Kd.i IntKind.i64, Kd.s], Kd.sl [Kd.s, Kd.s, Kd.s, Kd.sl [Kd.b, Kd.i IntKind.i64, Kd.s]]] r12 (Right.tok 5), AV.junk, AV.junk, AV.junk, AV.junk, AV.junk, AV.junk, AV.junk, AV.sl b0 [Kd.i IntKind.i64, Kd.s, Kd.s, Kd.s, Kd.sl [Kd.b, Kd.i IntKind.i64, Kd.s], Kd.sl [Kd.s, Kd.s, Kd.s, Kd.sl [Kd.b, Kd.i IntKind.i64, Kd.s]]] r1 Right.no, AV.dv (DV.val (Value.int IntKind.i64 (↑(List.length r1) : Int))), AV.dv (DV.val (Value.int IntKind.i64 j13)), AV.junk, AV.junk, AV.junk, AV.junk, AV.junk, AV.junk, AV.junk, AV.junk, AV.junk, AV.junk, AV.junk, AV.junk, AV.junk] [(1000, [AV.sl b0 [Kd.i IntKind.i64, Kd.s, Kd.s, Kd.s, Kd.sl [Kd.b, Kd.i IntKind.i64, Kd.s], Kd.sl [Kd.s, Kd.s, Kd.s, Kd.sl [Kd.b, Kd.i IntKind.i64, Kd.s]]] r1 Right.no, AV.dv (DV.val (Value.bool b2))]), (1001, [AV.dv (DV.val (Value.string s3)), AV.dv (DV.val (Value.string s4)), AV.dv (DV.val (Value.string s5)), AV.sl b6 [Kd.b, Kd.i IntKind.i64, Kd.s] r7 Right.no])])
theorem z5_s5 (n : Nat) (b0 : Bool) (r1 : Rows) (b2 : Bool) (s3 : ByteArray) (s4 : ByteArray) (s5 : ByteArray) (b6 : Bool) (r7 : Rows) (i0 : Nat) (b11 : Bool) (r12 : List (List DV)) (j13 : Int) : z5_l5 n b0 r1 b2 s3 s4 s5 b6 r7 (i0 + 1) b11 r12 j13 =
 bif decide (j13 < (↑(List.length r1) : Int)) then
  if 0 ≤ j13 then
   if j13 < (↑(List.length r1) : Int) then
    obind (z11_v n (Row.I (List.getD r1 (Int.toNat j13) []) 0) (Row.S (List.getD r1 (Int.toNat j13) []) 1) (Row.S (List.getD r1 (Int.toNat j13) []) 2) (Row.S (List.getD r1 (Int.toNat j13) []) 3) (Row.N (List.getD r1 (Int.toNat j13) []) 4) (Row.R (List.getD r1 (Int.toNat j13) []) 4) (Row.N (List.getD r1 (Int.toNat j13) []) 5) (Row.R (List.getD r1 (Int.toNat j13) []) 5) ([DV.val (Value.string s3), DV.val (Value.string s4), DV.val (Value.string s5), DV.sl b6 [Kd.b, Kd.i IntKind.i64, Kd.s] r7])) fun y14 =>
    bif y14.fst then
     obind (z50_v n (Row.I (List.getD r1 (Int.toNat j13) []) 0) (Row.S (List.getD r1 (Int.toNat j13) []) 1) (Row.S (List.getD r1 (Int.toNat j13) []) 2) (Row.S (List.getD r1 (Int.toNat j13) []) 3) (Row.N (List.getD r1 (Int.toNat j13) []) 4) (Row.R (List.getD r1 (Int.toNat j13) []) 4) (Row.N (List.getD r1 (Int.toNat j13) []) 5) (Row.R (List.getD r1 (Int.toNat j13) []) 5)) fun y15 =>
     if (List.length r12 + List.length [[DV.val (Value.int IntKind.i64 y15.fst.fst), DV.val (Value.string y15.fst.snd.fst), DV.val (Value.string y15.fst.snd.snd.fst), DV.val (Value.string y15.fst.snd.snd.snd.fst), DV.sl y15.fst.snd.snd.snd.snd.fst.fst [Kd.b, Kd.i IntKind.i64, Kd.s] y15.fst.snd.snd.snd.snd.fst.snd, DV.sl y15.fst.snd.snd.snd.snd.snd.fst.fst [Kd.s, Kd.s, Kd.s, Kd.sl [Kd.b, Kd.i IntKind.i64, Kd.s]] y15.fst.snd.snd.snd.snd.snd.fst.snd]]) * 104 ≤ 140737488355328 then
      z5_l5 n b0 r1 b2 s3 s4 s5 b6 r7 i0 (b11 && List.isEmpty [[DV.val (Value.int IntKind.i64 y15.fst.fst), DV.val (Value.string y15.fst.snd.fst), DV.val (Value.string y15.fst.snd.snd.fst), DV.val (Value.string y15.fst.snd.snd.snd.fst), DV.sl y15.fst.snd.snd.snd.snd.fst.fst [Kd.b, Kd.i IntKind.i64, Kd.s] y15.fst.snd.snd.snd.snd.fst.snd, DV.sl y15.fst.snd.snd.snd.snd.snd.fst.fst [Kd.s, Kd.s, Kd.s, Kd.sl [Kd.b, Kd.i IntKind.i64, Kd.s]] y15.fst.snd.snd.snd.snd.snd.fst.snd]]) (appX r12 [[DV.val (Value.int IntKind.i64 y15.fst.fst), DV.val (Value.string y15.fst.snd.fst), DV.val (Value.string y15.fst.snd.snd.fst), DV.val (Value.string y15.fst.snd.snd.snd.fst), DV.sl y15.fst.snd.snd.snd.snd.fst.fst [Kd.b, Kd.i IntKind.i64, Kd.s] y15.fst.snd.snd.snd.snd.fst.snd, DV.sl y15.fst.snd.snd.snd.snd.snd.fst.fst [Kd.s, Kd.s, Kd.s, Kd.sl [Kd.b, Kd.i IntKind.i64, Kd.s]] y15.fst.snd.snd.snd.snd.snd.fst.snd]]) (IntKind.wrap IntKind.i64 (j13 + 1))
     else none
    else z5_l5 n b0 r1 b2 s3 s4 s5 b6 r7 i0 b11 r12 (IntKind.wrap IntKind.i64 (j13 + 1))
   else none
  else none
 else some ((b11, r12), (((b0, r1), (b2, ())), ((s3, (s4, (s5, ((b6, r7), ())))), ()))) := by kernel_rfl
theorem z5_e (n : Nat) (b0 : Bool) (r1 : Rows) (b2 : Bool) (s3 : ByteArray) (s4 : ByteArray) (s5 : ByteArray) (b6 : Bool) (r7 : Rows) : z5_v n b0 r1 b2 s3 s4 s5 b6 r7 =
 obind (z15_v n ([DV.sl b0 [Kd.i IntKind.i64, Kd.s, Kd.s, Kd.s, Kd.sl [Kd.b, Kd.i IntKind.i64, Kd.s], Kd.sl [Kd.s, Kd.s, Kd.s, Kd.sl [Kd.b, Kd.i IntKind.i64, Kd.s]]] r1, DV.val (Value.bool b2)])) fun y8 =>
 bif y8.fst then
  some ((true, []), (((b0, r1), (b2, ())), ((s3, (s4, (s5, ((b6, r7), ())))), ())))
 else z5_l5 n b0 r1 b2 s3 s4 s5 b6 r7 n true [] 0 := by kernel_rfl
theorem z5_c (n : Nat) (b0 : Bool) (r1 : Rows) (b2 : Bool) (s3 : ByteArray) (s4 : ByteArray) (s5 : ByteArray) (b6 : Bool) (r7 : Rows) (y : (Bool × Rows) × ((Bool × Rows) × Bool × Unit) × (ByteArray × ByteArray × ByteArray × (Bool × Rows) × Unit) × Unit) (h : z5_v n b0 r1 b2 s3 s4 s5 b6 r7 = some y) : Contract Try.prog 46 [AV.pl 1000 0, AV.fn 48 [AV.pl 1001 0]] [[AV.sl b0 [Kd.i IntKind.i64, Kd.s, Kd.s, Kd.s, Kd.sl [Kd.b, Kd.i IntKind.i64, Kd.s], Kd.sl [Kd.s, Kd.s, Kd.s, Kd.sl [Kd.b, Kd.i IntKind.i64, Kd.s]]] r1 Right.no, AV.dv (DV.val (Value.bool b2))], [AV.dv (DV.val (Value.string s3)), AV.dv (DV.val (Value.string s4)), AV.dv (DV.val (Value.string s5)), AV.sl b6 [Kd.b, Kd.i IntKind.i64, Kd.s] r7 Right.no]] (OSh.enc (OSh.plain (.slt [Kd.i IntKind.i64, Kd.s, Kd.s, Kd.s, Kd.sl [Kd.b, Kd.i IntKind.i64, Kd.s], Kd.sl [Kd.s, Kd.s, Kd.s, Kd.sl [Kd.b, Kd.i IntKind.i64, Kd.s]]] 0) [[.sl [Kd.i IntKind.i64, Kd.s, Kd.s, Kd.s, Kd.sl [Kd.b, Kd.i IntKind.i64, Kd.s], Kd.sl [Kd.s, Kd.s, Kd.s, Kd.sl [Kd.b, Kd.i IntKind.i64, Kd.s]]], .b], [.s, .s, .s, .sl [Kd.b, Kd.i IntKind.i64, Kd.s]]]) y) :=
 auto_okM tm_std (with_ok mixed (by kernel_rfl) (z5_σok n) n 0 [5000009,  5000021, 1000045, 1000059]) (with_pick mixed (by kernel_rfl) (z5_σok n) n 0 [5000009,  5000021, 1000045, 1000059]) mixed Try.func46 (by decide) (o := (OSh.plain (.slt [Kd.i IntKind.i64, Kd.s, Kd.s, Kd.s, Kd.sl [Kd.b, Kd.i IntKind.i64, Kd.s], Kd.sl [Kd.s, Kd.s, Kd.s, Kd.sl [Kd.b, Kd.i IntKind.i64, Kd.s]]] 0) [[.sl [Kd.i IntKind.i64, Kd.s, Kd.s, Kd.s, Kd.sl [Kd.b, Kd.i IntKind.i64, Kd.s], Kd.sl [Kd.s, Kd.s, Kd.s, Kd.sl [Kd.b, Kd.i IntKind.i64, Kd.s]]], .b], [.s, .s, .s, .sl [Kd.b, Kd.i IntKind.i64, Kd.s]]])) h
def z22_lv : Live := []
noncomputable def z22_σ (n : Nat) : Spec := (inst 46 [.pl 1000 0, .fn 48 [.pl 1001 0]] [[.sl [Kd.i IntKind.i64, Kd.s, Kd.s, Kd.s, Kd.sl [Kd.b, Kd.i IntKind.i64, Kd.s], Kd.sl [Kd.s, Kd.s, Kd.s, Kd.sl [Kd.b, Kd.i IntKind.i64, Kd.s]]], .b], [.s, .s, .s, .sl [Kd.b, Kd.i IntKind.i64, Kd.s]]] (OSh.plain (.slt [Kd.i IntKind.i64, Kd.s, Kd.s, Kd.s, Kd.sl [Kd.b, Kd.i IntKind.i64, Kd.s], Kd.sl [Kd.s, Kd.s, Kd.s, Kd.sl [Kd.b, Kd.i IntKind.i64, Kd.s]]] 0) [[.sl [Kd.i IntKind.i64, Kd.s, Kd.s, Kd.s, Kd.sl [Kd.b, Kd.i IntKind.i64, Kd.s], Kd.sl [Kd.s, Kd.s, Kd.s, Kd.sl [Kd.b, Kd.i IntKind.i64, Kd.s]]], .b], [.s, .s, .s, .sl [Kd.b, Kd.i IntKind.i64, Kd.s]]]) (fun x e => z5_v n e.1.1.1 e.1.1.2 e.1.2.1 e.2.1.1 e.2.1.2.1 e.2.1.2.2.1 e.2.1.2.2.2.1.1 e.2.1.2.2.2.1.2) (bookH Spec.none))
theorem z22_σok (n : Nat) : SpecOk Try.prog (z22_σ n) := (inst_ok (fun x e y h => z5_c n e.1.1.1 e.1.1.2 e.1.2.1 e.2.1.1 e.2.1.2.1 e.2.1.2.2.1 e.2.1.2.2.2.1.1 e.2.1.2.2.2.1.2 y h) (bookH_ok (SpecOk.none _)))
noncomputable def z22_Φ (n : Nat) : Orc := with_ Try.prog (z22_σ n) [] n 0 [1000045, 1000059]
noncomputable def z22_v (n : Nat) (s0 : ByteArray) (s1 : ByteArray) (s2 : ByteArray) (b3 : Bool) (r4 : Rows) (b5 : Bool) (r6 : Rows) (b7 : Bool) : Option ((Bool × Rows) × ((Bool × Rows) × Bool × Unit) × Unit) :=
 DM.denFn tm (z22_Φ n) z22_lv n Try.f20 true [AV.pl 1000 0, AV.agg [AV.dv (DV.val (Value.string s0)), AV.dv (DV.val (Value.string s1)), AV.dv (DV.val (Value.string s2)), AV.sl b3 [Kd.b, Kd.i IntKind.i64, Kd.s] r4 Right.no]] [[AV.sl b5 [Kd.i IntKind.i64, Kd.s, Kd.s, Kd.s, Kd.sl [Kd.b, Kd.i IntKind.i64, Kd.s], Kd.sl [Kd.s, Kd.s, Kd.s, Kd.sl [Kd.b, Kd.i IntKind.i64, Kd.s]]] r6 Right.no, AV.dv (DV.val (Value.bool b7))]] (OSh.chk (OSh.plain (.slt [Kd.i IntKind.i64, Kd.s, Kd.s, Kd.s, Kd.sl [Kd.b, Kd.i IntKind.i64, Kd.s], Kd.sl [Kd.s, Kd.s, Kd.s, Kd.sl [Kd.b, Kd.i IntKind.i64, Kd.s]]] 0) [[.sl [Kd.i IntKind.i64, Kd.s, Kd.s, Kd.s, Kd.sl [Kd.b, Kd.i IntKind.i64, Kd.s], Kd.sl [Kd.s, Kd.s, Kd.s, Kd.sl [Kd.b, Kd.i IntKind.i64, Kd.s]]], .b]]))
theorem z22_e (n : Nat) (s0 : ByteArray) (s1 : ByteArray) (s2 : ByteArray) (b3 : Bool) (r4 : Rows) (b5 : Bool) (r6 : Rows) (b7 : Bool) : z22_v n s0 s1 s2 b3 r4 b5 r6 b7 =
 obind (z5_v n b5 r6 b7 s0 s1 s2 b3 r4) fun y8 =>
 some ((y8.fst.fst, y8.fst.snd), (((y8.snd.fst.fst.fst, y8.snd.fst.fst.snd), (y8.snd.fst.snd.fst, ())), ())) := by kernel_rfl
theorem z22_c (n : Nat) (s0 : ByteArray) (s1 : ByteArray) (s2 : ByteArray) (b3 : Bool) (r4 : Rows) (b5 : Bool) (r6 : Rows) (b7 : Bool) (y : (Bool × Rows) × ((Bool × Rows) × Bool × Unit) × Unit) (h : z22_v n s0 s1 s2 b3 r4 b5 r6 b7 = some y) : Contract Try.prog 20 [AV.pl 1000 0, AV.agg [AV.dv (DV.val (Value.string s0)), AV.dv (DV.val (Value.string s1)), AV.dv (DV.val (Value.string s2)), AV.sl b3 [Kd.b, Kd.i IntKind.i64, Kd.s] r4 Right.no]] [[AV.sl b5 [Kd.i IntKind.i64, Kd.s, Kd.s, Kd.s, Kd.sl [Kd.b, Kd.i IntKind.i64, Kd.s], Kd.sl [Kd.s, Kd.s, Kd.s, Kd.sl [Kd.b, Kd.i IntKind.i64, Kd.s]]] r6 Right.no, AV.dv (DV.val (Value.bool b7))]] (OSh.enc (OSh.plain (.slt [Kd.i IntKind.i64, Kd.s, Kd.s, Kd.s, Kd.sl [Kd.b, Kd.i IntKind.i64, Kd.s], Kd.sl [Kd.s, Kd.s, Kd.s, Kd.sl [Kd.b, Kd.i IntKind.i64, Kd.s]]] 0) [[.sl [Kd.i IntKind.i64, Kd.s, Kd.s, Kd.s, Kd.sl [Kd.b, Kd.i IntKind.i64, Kd.s], Kd.sl [Kd.s, Kd.s, Kd.s, Kd.sl [Kd.b, Kd.i IntKind.i64, Kd.s]]], .b]]) y) :=
 auto_okM tm_std (with_ok mixed (by kernel_rfl) (z22_σok n) n 0 [1000045, 1000059]) (with_pick mixed (by kernel_rfl) (z22_σok n) n 0 [1000045, 1000059]) mixed Try.func20 (by decide) (o := (OSh.plain (.slt [Kd.i IntKind.i64, Kd.s, Kd.s, Kd.s, Kd.sl [Kd.b, Kd.i IntKind.i64, Kd.s], Kd.sl [Kd.s, Kd.s, Kd.s, Kd.sl [Kd.b, Kd.i IntKind.i64, Kd.s]]] 0) [[.sl [Kd.i IntKind.i64, Kd.s, Kd.s, Kd.s, Kd.sl [Kd.b, Kd.i IntKind.i64, Kd.s], Kd.sl [Kd.s, Kd.s, Kd.s, Kd.sl [Kd.b, Kd.i IntKind.i64, Kd.s]]], .b]])) h
end Go.Den

