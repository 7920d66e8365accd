import Derived.Test.YtkgiabbndbmmbaaZ16
set_option linter.unusedVariables false
set_option linter.unusedSimpArgs false
set_option linter.unusedSectionVars false
namespace Go.Den
open Go.Proofs
set_option maxRecDepth 100000
def z41_lv : Live := [(3, [3, 6, 7, 8], [1000, 1001, 1002, 1003]), (1000008, [0, 3, 3], []), (1999998, [1, 2], [])]
noncomputable def z41_σ (n : Nat) : Spec := (inst 57 [.sl [Kd.b, Kd.i IntKind.i64, Kd.s]] [] (OSh.plain (.slt [Kd.b, Kd.i IntKind.i64, Kd.s] 0) []) (fun x e => z18_v n x.1.1 x.1.2) (inst 58 [.sl [Kd.s, Kd.s, Kd.s, Kd.sl [Kd.b, Kd.i IntKind.i64, Kd.s]], .fn 40 []] [] (OSh.plain (.tup []) []) (fun x e => slices_SortFunc_fact_Order_v n x.1.1 x.1.2) (inst 59 [.slt [Kd.s, Kd.s, Kd.s, Kd.sl [Kd.b, Kd.i IntKind.i64, Kd.s]] 500000, .fn 60 []] [] (OSh.plain (.slt [Kd.s, Kd.s, Kd.s, Kd.sl [Kd.b, Kd.i IntKind.i64, Kd.s]] 0) []) (fun x e => z3_v n x.1.1 x.1.2) (inst 58 [.ms0 1000 [Kd.s, Kd.s, Kd.s, Kd.sl [Kd.b, Kd.i IntKind.i64, Kd.s]], .fn 40 []] [[.arr [Kd.s, Kd.s, Kd.s, Kd.sl [Kd.b, Kd.i IntKind.i64, Kd.s]]]] (OSh.plain (.tup []) [[.arr [Kd.s, Kd.s, Kd.s, Kd.sl [Kd.b, Kd.i IntKind.i64, Kd.s]]]]) (fun x e => slices_SortFunc_mz_fact_Order_v n x.1.1 x.1.2 e.1.1) (inst 59 [.ms0 1000 [Kd.s, Kd.s, Kd.s, Kd.sl [Kd.b, Kd.i IntKind.i64, Kd.s]], .fn 60 []] [[.arr [Kd.s, Kd.s, Kd.s, Kd.sl [Kd.b, Kd.i IntKind.i64, Kd.s]]]] (OSh.plain (.ms0 1000 [Kd.s, Kd.s, Kd.s, Kd.sl [Kd.b, Kd.i IntKind.i64, Kd.s]]) [[.arr [Kd.s, Kd.s, Kd.s, Kd.sl [Kd.b, Kd.i IntKind.i64, Kd.s]]]]) (fun x e => z1_v n x.1.1 x.1.2 e.1.1) (bookH Spec.none))))))
theorem z41_σok (n : Nat) : SpecOk Try.prog (z41_σ n) := (inst_ok (fun x e y h => z18_c n x.1.1 x.1.2 y h) (inst_ok (fun x e y h => slices_SortFunc_fact_Order_c n x.1.1 x.1.2 y h) (inst_ok (fun x e y h => z3_c n x.1.1 x.1.2 y h) (inst_ok (fun x e y h => slices_SortFunc_mz_fact_Order_c n x.1.1 x.1.2 e.1.1 y h) (inst_ok (fun x e y h => z1_c n x.1.1 x.1.2 e.1.1 y h) (bookH_ok (SpecOk.none _)))))))
noncomputable def z41_Φ (n : Nat) : Orc := with_ Try.prog (z41_σ n) [] n 0 [1000045, 1000059]
noncomputable def z41_v (n : Nat) (b0 : Bool) (r1 : Rows) : Option ((Bool × Rows) × Unit) :=
 DM.denFn tm (z41_Φ n) z41_lv n Try.f37 true [AV.sl b0 [Kd.s, Kd.s, Kd.s, Kd.sl [Kd.b, Kd.i IntKind.i64, Kd.s]] r1 Right.no] [] (OSh.chk (OSh.plain (.slt [Kd.s, Kd.s, Kd.s, Kd.sl [Kd.b, Kd.i IntKind.i64, Kd.s]] 0) []))
noncomputable def z41_l3 (n : Nat) (b0 : Bool) (r1 : Rows) (i0 : Nat) (b5 : Bool) (r6 : List (List DV)) (j7 : Int) : Option ((Bool × Rows) × Unit) :=
 DM.loopFn tm (z41_Φ n) z41_lv n Try.f37 true [] (OSh.chk (OSh.plain (.slt [Kd.s, Kd.s, Kd.s, Kd.sl [Kd.b, Kd.i IntKind.i64, Kd.s]] 0) [])) 3 [] i0 (St.mk [AV.junk, AV.junk, AV.junk, AV.sl b5 [Kd.s, Kd.s, Kd.s, Kd.sl [Kd.b, Kd.i IntKind.i64, Kd.s]] r6 (Right.tok 3), AV.junk, AV.junk, AV.sl b0 [Kd.s, Kd.s, Kd.s, Kd.sl [Kd.b, Kd.i IntKind.i64, Kd.s]] r1 Right.no, AV.dv (DV.val (Value.int IntKind.i64 (↑(List.length r1) : Int))), AV.dv (DV.val (Value.int IntKind.i64 j7)), AV.junk, AV.junk, AV.junk, AV.junk, AV.junk, AV.junk, AV.junk, AV.junk, AV.junk, AV.junk, AV.junk, AV.junk, AV.junk, AV.junk, AV.junk, AV.junk] [])
theorem z41_s3 (n : Nat) (b0 : Bool) (r1 : Rows) (i0 : Nat) (b5 : Bool) (r6 : List (List DV)) (j7 : Int) : z41_l3 n b0 r1 (i0 + 1) b5 r6 j7 =
 bif decide (j7 < (↑(List.length r1) : Int)) then
  if 0 ≤ j7 then
   if j7 < (↑(List.length r1) : Int) then
    obind (z18_v n (Row.N (List.getD r1 (Int.toNat j7) []) 3) (Row.R (List.getD r1 (Int.toNat j7) []) 3)) fun y8 =>
    if (List.length r6 + List.length [[DV.val (Value.string (Row.S (List.getD r1 (Int.toNat j7) []) 0)), DV.val (Value.string (Row.S (List.getD r1 (Int.toNat j7) []) 1)), DV.val (Value.string (Row.S (List.getD r1 (Int.toNat j7) []) 2)), DV.sl y8.fst.fst [Kd.b, Kd.i IntKind.i64, Kd.s] y8.fst.snd]]) * 72 ≤ 140737488355328 then
     z41_l3 n b0 r1 i0 (b5 && List.isEmpty [[DV.val (Value.string (Row.S (List.getD r1 (Int.toNat j7) []) 0)), DV.val (Value.string (Row.S (List.getD r1 (Int.toNat j7) []) 1)), DV.val (Value.string (Row.S (List.getD r1 (Int.toNat j7) []) 2)), DV.sl y8.fst.fst [Kd.b, Kd.i IntKind.i64, Kd.s] y8.fst.snd]]) (appX r6 [[DV.val (Value.string (Row.S (List.getD r1 (Int.toNat j7) []) 0)), DV.val (Value.string (Row.S (List.getD r1 (Int.toNat j7) []) 1)), DV.val (Value.string (Row.S (List.getD r1 (Int.toNat j7) []) 2)), DV.sl y8.fst.fst [Kd.b, Kd.i IntKind.i64, Kd.s] y8.fst.snd]]) (IntKind.wrap IntKind.i64 (j7 + 1))
    else none
   else none
  else none
 else bif b5 || List.isEmpty r6 then
  obind (slices_SortFunc_fact_Order_v n b5 []) fun y9 =>
  obind (z3_v n b5 []) fun y10 =>
  some ((y10.fst.fst, y10.fst.snd), ())
 else obind (slices_SortFunc_mz_fact_Order_v n (List.length r6) (List.length r6) r6) fun y11 =>
 obind (z1_v n (List.length r6) (List.length r6) y11.snd.fst.fst) fun y12 =>
 if 0 + y12.fst.fst ≤ List.length y12.snd.fst.fst then
  some ((false, List.take y12.fst.fst (List.drop 0 y12.snd.fst.fst)), ())
 else none := by kernel_rfl
theorem z41_e (n : Nat) (b0 : Bool) (r1 : Rows) : z41_v n b0 r1 =
 z41_l3 n b0 r1 n true [] 0 := by kernel_rfl
theorem z41_c (n : Nat) (b0 : Bool) (r1 : Rows) (y : (Bool × Rows) × Unit) (h : z41_v n b0 r1 = some y) : Contract Try.prog 37 [AV.sl b0 [Kd.s, Kd.s, Kd.s, Kd.sl [Kd.b, Kd.i IntKind.i64, Kd.s]] r1 Right.no] [] (OSh.enc (OSh.plain (.slt [Kd.s, Kd.s, Kd.s, Kd.sl [Kd.b, Kd.i IntKind.i64, Kd.s]] 0) []) y) :=
 auto_okM tm_std (with_ok mixed (by kernel_rfl) (z41_σok n) n 0 [1000045, 1000059]) (with_pick mixed (by kernel_rfl) (z41_σok n) n 0 [1000045, 1000059]) mixed Try.func37 (by decide) (o := (OSh.plain (.slt [Kd.s, Kd.s, Kd.s, Kd.sl [Kd.b, Kd.i IntKind.i64, Kd.s]] 0) [])) h
def z2_lv : Live := [(3, [0, 2, 4, 8, 9, 10], [4, 1000, 1001, 1002, 1003])]
noncomputable def z2_σ (n : Nat) : Spec := (inst 40 [.agg [.s, .s, .s, .sl [Kd.b, Kd.i IntKind.i64, Kd.s]], .agg [.s, .s, .s, .sl [Kd.b, Kd.i IntKind.i64, Kd.s]]] [] (OSh.plain (.i IntKind.i64) []) (fun x e => z46_v n x.1.1 x.1.2.1 x.1.2.2.1 x.1.2.2.2.1.1 x.1.2.2.2.1.2 x.2.1.1 x.2.1.2.1 x.2.1.2.2.1 x.2.1.2.2.2.1.1 x.2.1.2.2.2.1.2) (bookH Spec.none))
theorem z2_σok (n : Nat) : SpecOk Try.prog (z2_σ n) := (inst_ok (fun x e y h => z46_c n x.1.1 x.1.2.1 x.1.2.2.1 x.1.2.2.2.1.1 x.1.2.2.2.1.2 x.2.1.1 x.2.1.2.1 x.2.1.2.2.1 x.2.1.2.2.2.1.1 x.2.1.2.2.2.1.2 y h) (bookH_ok (SpecOk.none _)))
noncomputable def z2_Φ (n : Nat) : Orc := with_ Try.prog (z2_σ n) [] n 0 [1000045, 1000059]
noncomputable def z2_v (n : Nat) (b0 : Bool) (r1 : Rows) (s2 : ByteArray) (s3 : ByteArray) (s4 : ByteArray) (b5 : Bool) (r6 : Rows) : Option ((Int × Bool × Unit) × Unit) :=
 DM.denFn tm (z2_Φ n) z2_lv n Try.f39 false [AV.sl b0 [Kd.s, Kd.s, Kd.s, Kd.sl [Kd.b, Kd.i IntKind.i64, Kd.s]] r1 Right.no, AV.agg [AV.dv (DV.val (Value.string s2)), AV.dv (DV.val (Value.string s3)), AV.dv (DV.val (Value.string s4)), AV.sl b5 [Kd.b, Kd.i IntKind.i64, Kd.s] r6 Right.no], AV.fn 40 []] [] (OSh.chk (OSh.plain (.tup [.i IntKind.i64, .b]) []))
noncomputable def z2_l3 (n : Nat) (b0 : Bool) (r1 : Rows) (s2 : ByteArray) (s3 : ByteArray) (s4 : ByteArray) (b5 : Bool) (r6 : Rows) (i0 : Nat) (j9 : Int) (j10 : Int) : Option ((Int × Bool × Unit) × Unit) :=
 DM.loopFn tm (z2_Φ n) z2_lv n Try.f39 false [] (OSh.chk (OSh.plain (.tup [.i IntKind.i64, .b]) [])) 3 [] i0 (St.mk [AV.sl b0 [Kd.s, Kd.s, Kd.s, Kd.sl [Kd.b, Kd.i IntKind.i64, Kd.s]] r1 Right.no, AV.junk, AV.fn 40 [], AV.junk, AV.pl 4 0, AV.junk, AV.junk, AV.junk, AV.dv (DV.val (Value.int IntKind.i64 (↑(List.length r1) : Int))), AV.dv (DV.val (Value.int IntKind.i64 j9)), AV.dv (DV.val (Value.int IntKind.i64 j10)), AV.junk, AV.junk, AV.junk, AV.junk, AV.junk, AV.junk, AV.junk, AV.junk, AV.junk, AV.junk, AV.junk, AV.junk, AV.junk, AV.junk, AV.junk, AV.junk, AV.junk, AV.junk, AV.junk, AV.junk, AV.junk, AV.junk, AV.junk, AV.junk, AV.junk, AV.junk, AV.junk, AV.junk, AV.junk, AV.junk, AV.junk, AV.junk, AV.junk, AV.junk, AV.junk, AV.junk, AV.junk, AV.junk] [(4, [AV.dv (DV.val (Value.string s2)), AV.dv (DV.val (Value.string s3)), AV.dv (DV.val (Value.string s4)), AV.sl b5 [Kd.b, Kd.i IntKind.i64, Kd.s] r6 Right.no])])
theorem z2_s3 (n : Nat) (b0 : Bool) (r1 : Rows) (s2 : ByteArray) (s3 : ByteArray) (s4 : ByteArray) (b5 : Bool) (r6 : Rows) (i0 : Nat) (j9 : Int) (j10 : Int) : z2_l3 n b0 r1 s2 s3 s4 b5 r6 (i0 + 1) j9 j10 =
 bif decide (j9 < j10) then
  if 0 ≤ IntKind.wrap IntKind.i64 (Int.fdiv (IntKind.wrap IntKind.u64 (IntKind.wrap IntKind.i64 (j9 + j10))) (2 ^ 1)) then
   if IntKind.wrap IntKind.i64 (Int.fdiv (IntKind.wrap IntKind.u64 (IntKind.wrap IntKind.i64 (j9 + j10))) (2 ^ 1)) < (↑(List.length r1) : Int) then
    obind (z46_v n (Row.S (List.getD r1 (Int.toNat (IntKind.wrap IntKind.i64 (Int.fdiv (IntKind.wrap IntKind.u64 (IntKind.wrap IntKind.i64 (j9 + j10))) (2 ^ 1)))) []) 0) (Row.S (List.getD r1 (Int.toNat (IntKind.wrap IntKind.i64 (Int.fdiv (IntKind.wrap IntKind.u64 (IntKind.wrap IntKind.i64 (j9 + j10))) (2 ^ 1)))) []) 1) (Row.S (List.getD r1 (Int.toNat (IntKind.wrap IntKind.i64 (Int.fdiv (IntKind.wrap IntKind.u64 (IntKind.wrap IntKind.i64 (j9 + j10))) (2 ^ 1)))) []) 2) (Row.N (List.getD r1 (Int.toNat (IntKind.wrap IntKind.i64 (Int.fdiv (IntKind.wrap IntKind.u64 (IntKind.wrap IntKind.i64 (j9 + j10))) (2 ^ 1)))) []) 3) (Row.R (List.getD r1 (Int.toNat (IntKind.wrap IntKind.i64 (Int.fdiv (IntKind.wrap IntKind.u64 (IntKind.wrap IntKind.i64 (j9 + j10))) (2 ^ 1)))) []) 3) s2 s3 s4 b5 r6) fun y11 =>
    bif decide (y11.fst < 0) then
     z2_l3 n b0 r1 s2 s3 s4 b5 r6 i0 (IntKind.wrap IntKind.i64 (IntKind.wrap IntKind.i64 (Int.fdiv (IntKind.wrap IntKind.u64 (IntKind.wrap IntKind.i64 (j9 + j10))) (2 ^ 1)) + 1)) j10
    else z2_l3 n b0 r1 s2 s3 s4 b5 r6 i0 j9 (IntKind.wrap IntKind.i64 (Int.fdiv (IntKind.wrap IntKind.u64 (IntKind.wrap IntKind.i64 (j9 + j10))) (2 ^ 1)))
   else none
  else none
 else bif decide (j9 < (↑(List.length r1) : Int)) then
  if 0 ≤ j9 then
   if j9 < (↑(List.length r1) : Int) then
    obind (z46_v n (Row.S (List.getD r1 (Int.toNat j9) []) 0) (Row.S (List.getD r1 (Int.toNat j9) []) 1) (Row.S (List.getD r1 (Int.toNat j9) []) 2) (Row.N (List.getD r1 (Int.toNat j9) []) 3) (Row.R (List.getD r1 (Int.toNat j9) []) 3) s2 s3 s4 b5 r6) fun y12 =>
    some ((j9, (y12.fst == 0, ())), ())
   else none
  else none
 else some ((j9, (false, ())), ()) := by kernel_rfl
theorem z2_e (n : Nat) (b0 : Bool) (r1 : Rows) (s2 : ByteArray) (s3 : ByteArray) (s4 : ByteArray) (b5 : Bool) (r6 : Rows) : z2_v n b0 r1 s2 s3 s4 b5 r6 =
 z2_l3 n b0 r1 s2 s3 s4 b5 r6 n 0 ((↑(List.length r1) : Int)) := by kernel_rfl
theorem z2_c (n : Nat) (b0 : Bool) (r1 : Rows) (s2 : ByteArray) (s3 : ByteArray) (s4 : ByteArray) (b5 : Bool) (r6 : Rows) (y : (Int × Bool × Unit) × Unit) (h : z2_v n b0 r1 s2 s3 s4 b5 r6 = some y) : Contract Try.prog 39 [AV.sl b0 [Kd.s, Kd.s, Kd.s, Kd.sl [Kd.b, Kd.i IntKind.i64, Kd.s]] r1 Right.no, AV.agg [AV.dv (DV.val (Value.string s2)), AV.dv (DV.val (Value.string s3)), AV.dv (DV.val (Value.string s4)), AV.sl b5 [Kd.b, Kd.i IntKind.i64, Kd.s] r6 Right.no], AV.fn 40 []] [] (OSh.enc (OSh.plain (.tup [.i IntKind.i64, .b]) []) y) :=
 auto_okM tm_std (with_ok mixed (by kernel_rfl) (z2_σok n) n 0 [1000045, 1000059]) (with_pick mixed (by kernel_rfl) (z2_σok n) n 0 [1000045, 1000059]) mixed Try.func39 (by decide) (o := (OSh.plain (.tup [.i IntKind.i64, .b]) [])) h
def z10_lv : Live := []
noncomputable def z10_σ (n : Nat) : Spec := (inst 39 [.sl [Kd.s, Kd.s, Kd.s, Kd.sl [Kd.b, Kd.i IntKind.i64, Kd.s]], .agg [.s, .s, .s, .sl [Kd.b, Kd.i IntKind.i64, Kd.s]], .fn 40 []] [] (OSh.plain (.tup [.i IntKind.i64, .b]) []) (fun x e => z2_v n x.1.1 x.1.2 x.2.1.1 x.2.1.2.1 x.2.1.2.2.1 x.2.1.2.2.2.1.1 x.2.1.2.2.2.1.2) (bookH Spec.none))
theorem z10_σok (n : Nat) : SpecOk Try.prog (z10_σ n) := (inst_ok (fun x e y h => z2_c n x.1.1 x.1.2 x.2.1.1 x.2.1.2.1 x.2.1.2.2.1 x.2.1.2.2.2.1.1 x.2.1.2.2.2.1.2 y h) (bookH_ok (SpecOk.none _)))
noncomputable def z10_Φ (n : Nat) : Orc := with_ Try.prog (z10_σ n) [] n 0 [1000045, 1000059]
noncomputable def z10_v (n : Nat) (s0 : ByteArray) (s1 : ByteArray) (s2 : ByteArray) (b3 : Bool) (r4 : Rows) (r5 : Row) : Option (Bool × Unit) :=
 DM.denFn tm (z10_Φ n) z10_lv n Try.f38 false [AV.agg [AV.dv (DV.val (Value.string s0)), AV.dv (DV.val (Value.string s1)), AV.dv (DV.val (Value.string s2)), AV.sl b3 [Kd.b, Kd.i IntKind.i64, Kd.s] r4 Right.no], AV.pv [Kd.sl [Kd.s, Kd.s, Kd.s, Kd.sl [Kd.b, Kd.i IntKind.i64, Kd.s]]] r5 0] [] (OSh.chk (OSh.plain (.b) []))
theorem z10_e (n : Nat) (s0 : ByteArray) (s1 : ByteArray) (s2 : ByteArray) (b3 : Bool) (r4 : Rows) (r5 : Row) : z10_v n s0 s1 s2 b3 r4 r5 =
 obind (z2_v n (Row.N r5 0) (Row.R r5 0) s0 s1 s2 b3 r4) fun y6 =>
 some (y6.fst.snd.fst, ()) := by kernel_rfl
theorem z10_c (n : Nat) (s0 : ByteArray) (s1 : ByteArray) (s2 : ByteArray) (b3 : Bool) (r4 : Rows) (r5 : Row) (y : Bool × Unit) (h : z10_v n s0 s1 s2 b3 r4 r5 = some y) : Contract Try.prog 38 [AV.agg [AV.dv (DV.val (Value.string s0)), AV.dv (DV.val (Value.string s1)), AV.dv (DV.val (Value.string s2)), AV.sl b3 [Kd.b, Kd.i IntKind.i64, Kd.s] r4 Right.no], AV.pv [Kd.sl [Kd.s, Kd.s, Kd.s, Kd.sl [Kd.b, Kd.i IntKind.i64, Kd.s]]] r5 0] [] (OSh.enc (OSh.plain (.b) []) y) :=
 auto_okM tm_std (with_ok mixed (by kernel_rfl) (z10_σok n) n 0 [1000045, 1000059]) (with_pick mixed (by kernel_rfl) (z10_σok n) n 0 [1000045, 1000059]) mixed Try.func38 (by decide) (o := (OSh.plain (.b) [])) h
def z12_lv : Live := [(6, [0, 5, 6, 7], [5, 1000, 1001, 1002, 1003]), (9, [0, 5, 6, 7, 23, 24, 25], [5, 1000, 1001, 1002, 1003]), (13, [0, 5, 6, 7, 9, 23, 24, 25, 34, 35, 36], [5, 9, 1000, 1001, 1002, 1003]), (1000004, [5, 5, 0], []), (1000018, [6, 5, 0, 60], []), (1000019, [4, 5, 0], []), (999999, [], [])]
noncomputable def z12_σ (n : Nat) : Spec := (inst 36 [.pv [Kd.sl [Kd.i IntKind.i64, Kd.s, Kd.s, Kd.s, Kd.sl [Kd.b, Kd.i IntKind.i64, Kd.s], Kd.sl [Kd.s, Kd.s, Kd.s, Kd.sl [Kd.b, Kd.i IntKind.i64, Kd.s]]], Kd.b] 0] [] (OSh.plain (.b) []) (fun x e => z14_v n x.1) (inst 37 [.sl [Kd.s, Kd.s, Kd.s, Kd.sl [Kd.b, Kd.i IntKind.i64, Kd.s]]] [] (OSh.plain (.slt [Kd.s, Kd.s, Kd.s, Kd.sl [Kd.b, Kd.i IntKind.i64, Kd.s]] 0) []) (fun x e => z41_v n x.1.1 x.1.2) (inst 38 [.agg [.s, .s, .s, .sl [Kd.b, Kd.i IntKind.i64, Kd.s]], .pv [Kd.sl [Kd.s, Kd.s, Kd.s, Kd.sl [Kd.b, Kd.i IntKind.i64, Kd.s]]] 0] [] (OSh.plain (.b) []) (fun x e => z10_v n x.1.1 x.1.2.1 x.1.2.2.1 x.1.2.2.2.1.1 x.1.2.2.2.1.2 x.2.1) (inst 39 [.sl [Kd.s, Kd.s, Kd.s, Kd.sl [Kd.b, Kd.i IntKind.i64, Kd.s]], .agg [.s, .s, .s, .sl [Kd.b, Kd.i IntKind.i64, Kd.s]], .fn 40 []] [] (OSh.plain (.tup [.i IntKind.i64, .b]) []) (fun x e => z2_v n x.1.1 x.1.2 x.2.1.1 x.2.1.2.1 x.2.1.2.2.1 x.2.1.2.2.2.1.1 x.2.1.2.2.2.1.2) (inst 42 [.agg [.i IntKind.i64, .s, .s, .s, .sl [Kd.b, Kd.i IntKind.i64, Kd.s], .sl [Kd.s, Kd.s, Kd.s, Kd.sl [Kd.b, Kd.i IntKind.i64, Kd.s]]]] [] (OSh.plain (.agg [.i IntKind.i64, .s, .s, .s, .sl [Kd.b, Kd.i IntKind.i64, Kd.s], .sl [Kd.s, Kd.s, Kd.s, Kd.sl [Kd.b, Kd.i IntKind.i64, Kd.s]]]) []) (fun x e => z55_v n x.1.1 x.1.2.1 x.1.2.2.1 x.1.2.2.2.1 x.1.2.2.2.2.1.1 x.1.2.2.2.2.1.2 x.1.2.2.2.2.2.1.1 x.1.2.2.2.2.2.1.2) (bookH Spec.none))))))
theorem z12_σok (n : Nat) : SpecOk Try.prog (z12_σ n) := (inst_ok (fun x e y h => z14_c n x.1 y h) (inst_ok (fun x e y h => z41_c n x.1.1 x.1.2 y h) (inst_ok (fun x e y h => z10_c n x.1.1 x.1.2.1 x.1.2.2.1 x.1.2.2.2.1.1 x.1.2.2.2.1.2 x.2.1 y h) (inst_ok (fun x e y h => z2_c n x.1.1 x.1.2 x.2.1.1 x.2.1.2.1 x.2.1.2.2.1 x.2.1.2.2.2.1.1 x.2.1.2.2.2.1.2 y h) (inst_ok (fun x e y h => z55_c n x.1.1 x.1.2.1 x.1.2.2.1 x.1.2.2.2.1 x.1.2.2.2.2.1.1 x.1.2.2.2.2.1.2 x.1.2.2.2.2.2.1.1 x.1.2.2.2.2.2.1.2 y h) (bookH_ok (SpecOk.none _)))))))
noncomputable def z12_Φ (n : Nat) : Orc := with_ Try.prog (z12_σ n) [] n 0 [4000058,  5000015,  5000032,  5000042, 1000045, 1000059]
noncomputable def z12_v (n : Nat) (b0 : Bool) (r1 : Rows) (b2 : Bool) (r3 : Rows) (b4 : Bool) : Option ((Bool × Rows) × ((Bool × Rows) × Bool × Unit) × Unit) :=
 DM.denFn tm (z12_Φ n) z12_lv n Try.f14 true [AV.pl 1000 0, AV.sl b0 [Kd.s, Kd.s, Kd.s, Kd.sl [Kd.b, Kd.i IntKind.i64, Kd.s]] r1 Right.no] [[AV.sl b2 [Kd.i IntKind.i64, Kd.s, Kd.s, Kd.s, Kd.sl [Kd.b, Kd.i IntKind.i64, Kd.s], Kd.sl [Kd.s, Kd.s, Kd.s, Kd.sl [Kd.b, Kd.i IntKind.i64, Kd.s]]] r3 Right.no, AV.dv (DV.val (Value.bool b4))]] (OSh.chk (OSh.plain (.slt [Kd.s, Kd.s, Kd.s, Kd.sl [Kd.b, Kd.i IntKind.i64, Kd.s]] 0) [[.sl [Kd.i IntKind.i64, Kd.s, Kd.s, Kd.s, Kd.sl [Kd.b, Kd.i IntKind.i64, Kd.s], Kd.sl [Kd.s, Kd.s, Kd.s, Kd.sl [Kd.b, Kd.i IntKind.i64, Kd.s]]], .b]]))
noncomputable def z12_l6 (n : Nat) (b0 : Bool) (r1 : Rows) (b2 : Bool) (r3 : Rows) (b4 : Bool) (i0 : Nat) (b7 : Bool) (r8 : List (List DV)) (b15 : Bool) : Option ((Bool × Rows) × ((Bool × Rows) × Bool × Unit) × Unit) :=
 DM.loopFn tm (z12_Φ n) z12_lv n Try.f14 true [[AV.sl b2 [Kd.i IntKind.i64, Kd.s, Kd.s, Kd.s, Kd.sl [Kd.b, Kd.i IntKind.i64, Kd.s], Kd.sl [Kd.s, Kd.s, Kd.s, Kd.sl [Kd.b, Kd.i IntKind.i64, Kd.s]]] r3 Right.no, AV.dv (DV.val (Value.bool b4))]] (OSh.chk (OSh.plain (.slt [Kd.s, Kd.s, Kd.s, Kd.sl [Kd.b, Kd.i IntKind.i64, Kd.s]] 0) [[.sl [Kd.i IntKind.i64, Kd.s, Kd.s, Kd.s, Kd.sl [Kd.b, Kd.i IntKind.i64, Kd.s], Kd.sl [Kd.s, Kd.s, Kd.s, Kd.sl [Kd.b, Kd.i IntKind.i64, Kd.s]]], .b]])) 6 [] i0 (St.mk [AV.pl 1000 0, AV.junk, AV.junk, AV.junk, AV.junk, AV.pl 5 0, AV.fn 38 [AV.pl 5 0], AV.dv (DV.val (Value.bool b15)), AV.junk, AV.junk, AV.junk, AV.junk, AV.junk, AV.junk, AV.junk, AV.junk, AV.junk, AV.junk, AV.junk, AV.junk, AV.junk, AV.junk, AV.junk, AV.junk, AV.junk, AV.junk, AV.junk, AV.junk, AV.junk, AV.junk, AV.junk, AV.junk, AV.junk, AV.junk, AV.junk, AV.junk, AV.junk, AV.junk, AV.junk, AV.junk, AV.junk, AV.junk, AV.junk, AV.junk, AV.junk, AV.junk, AV.junk, AV.junk, AV.junk, AV.junk, AV.junk, AV.junk, AV.junk, AV.junk, AV.junk, AV.junk, AV.junk, AV.junk, AV.junk, AV.junk, AV.junk] [(1000, [AV.sl b2 [Kd.i IntKind.i64, Kd.s, Kd.s, Kd.s, Kd.sl [Kd.b, Kd.i IntKind.i64, Kd.s], Kd.sl [Kd.s, Kd.s, Kd.s, Kd.sl [Kd.b, Kd.i IntKind.i64, Kd.s]]] r3 Right.old, AV.dv (DV.val (Value.bool b4))]), (5, [AV.sl b7 [Kd.s, Kd.s, Kd.s, Kd.sl [Kd.b, Kd.i IntKind.i64, Kd.s]] r8 (Right.tok 20320)])])
noncomputable def z12_l9 (n : Nat) (b0 : Bool) (r1 : Rows) (b2 : Bool) (r3 : Rows) (b4 : Bool) (i0 i1 : Nat) (b9 : Bool) (r10 : List (List DV)) (j12 : Int) (b21 : Bool) : Option ((Bool × Rows) × ((Bool × Rows) × Bool × Unit) × Unit) :=
 DM.loopFn tm (z12_Φ n) z12_lv n Try.f14 true [[AV.sl b2 [Kd.i IntKind.i64, Kd.s, Kd.s, Kd.s, Kd.sl [Kd.b, Kd.i IntKind.i64, Kd.s], Kd.sl [Kd.s, Kd.s, Kd.s, Kd.sl [Kd.b, Kd.i IntKind.i64, Kd.s]]] r3 Right.no, AV.dv (DV.val (Value.bool b4))]] (OSh.chk (OSh.plain (.slt [Kd.s, Kd.s, Kd.s, Kd.sl [Kd.b, Kd.i IntKind.i64, Kd.s]] 0) [[.sl [Kd.i IntKind.i64, Kd.s, Kd.s, Kd.s, Kd.sl [Kd.b, Kd.i IntKind.i64, Kd.s], Kd.sl [Kd.s, Kd.s, Kd.s, Kd.sl [Kd.b, Kd.i IntKind.i64, Kd.s]]], .b]])) 9 [i0] i1 (St.mk [AV.pl 1000 0, AV.junk, AV.junk, AV.junk, AV.junk, AV.pl 5 0, AV.fn 38 [AV.pl 5 0], AV.dv (DV.val (Value.bool b21)), AV.junk, AV.junk, AV.junk, AV.junk, AV.junk, AV.junk, AV.junk, AV.junk, AV.junk, AV.junk, AV.junk, AV.junk, AV.junk, AV.junk, AV.junk, AV.sl b2 [Kd.i IntKind.i64, Kd.s, Kd.s, Kd.s, Kd.sl [Kd.b, Kd.i IntKind.i64, Kd.s], Kd.sl [Kd.s, Kd.s, Kd.s, Kd.sl [Kd.b, Kd.i IntKind.i64, Kd.s]]] r3 Right.old, AV.dv (DV.val (Value.int IntKind.i64 (↑(List.length r3) : Int))), AV.dv (DV.val (Value.int IntKind.i64 j12)), AV.junk, AV.junk, AV.junk, AV.junk, AV.junk, AV.junk, AV.junk, AV.junk, AV.junk, AV.junk, AV.junk, AV.junk, AV.junk, AV.junk, AV.junk, AV.junk, AV.junk, AV.junk, AV.junk, AV.junk, AV.junk, AV.junk, AV.junk, AV.junk, AV.junk, AV.junk, AV.junk, AV.junk, AV.junk, AV.junk, AV.junk, AV.junk, AV.junk, AV.junk, AV.junk] [(1000, [AV.sl b2 [Kd.i IntKind.i64, Kd.s, Kd.s, Kd.s, Kd.sl [Kd.b, Kd.i IntKind.i64, Kd.s], Kd.sl [Kd.s, Kd.s, Kd.s, Kd.sl [Kd.b, Kd.i IntKind.i64, Kd.s]]] r3 Right.old, AV.dv (DV.val (Value.bool b4))]), (5, [AV.sl b9 [Kd.s, Kd.s, Kd.s, Kd.sl [Kd.b, Kd.i IntKind.i64, Kd.s]] r10 (Right.tok 20320)])])
noncomputable def z12_l13 (n : Nat) (b0 : Bool) (r1 : Rows) (b2 : Bool) (r3 : Rows) (b4 : Bool) (i0 i1 i2 : Nat) (b13 : Bool) (r14 : List (List DV)) (j20 : Int) (b27 : Bool) (j28 : Int) (b29 : Bool) (r30 : List (List DV)) (j31 : Int) (j32 : Int) (s33 : ByteArray) (s34 : ByteArray) (s35 : ByteArray) (b36 : Bool) (r37 : List (List DV)) (b38 : Bool) (r39 : List (List DV)) : Option ((Bool × Rows) × ((Bool × Rows) × Bool × Unit) × Unit) :=
 DM.loopFn tm (z12_Φ n) z12_lv n Try.f14 true [[AV.sl b2 [Kd.i IntKind.i64, Kd.s, Kd.s, Kd.s, Kd.sl [Kd.b, Kd.i IntKind.i64, Kd.s], Kd.sl [Kd.s, Kd.s, Kd.s, Kd.sl [Kd.b, Kd.i IntKind.i64, Kd.s]]] r3 Right.no, AV.dv (DV.val (Value.bool b4))]] (OSh.chk (OSh.plain (.slt [Kd.s, Kd.s, Kd.s, Kd.sl [Kd.b, Kd.i IntKind.i64, Kd.s]] 0) [[.sl [Kd.i IntKind.i64, Kd.s, Kd.s, Kd.s, Kd.sl [Kd.b, Kd.i IntKind.i64, Kd.s], Kd.sl [Kd.s, Kd.s, Kd.s, Kd.sl [Kd.b, Kd.i IntKind.i64, Kd.s]]], .b]])) 13 [i0, i1] i2 (St.mk [AV.pl 1000 0, AV.junk, AV.junk, AV.junk, AV.junk, AV.pl 5 0, AV.fn 38 [AV.pl 5 0], AV.dv (DV.val (Value.bool b27)), AV.junk, AV.pl 9 0, AV.junk, AV.junk, AV.junk, AV.junk, AV.junk, AV.junk, AV.junk, AV.junk, AV.junk, AV.junk, AV.junk, AV.junk, AV.junk, AV.sl b2 [Kd.i IntKind.i64, Kd.s, Kd.s, Kd.s, Kd.sl [Kd.b, Kd.i IntKind.i64, Kd.s], Kd.sl [Kd.s, Kd.s, Kd.s, Kd.sl [Kd.b, Kd.i IntKind.i64, Kd.s]]] r3 Right.old, AV.dv (DV.val (Value.int IntKind.i64 (↑(List.length r3) : Int))), AV.dv (DV.val (Value.int IntKind.i64 j28)), AV.junk, AV.junk, AV.junk, AV.junk, AV.junk, AV.junk, AV.junk, AV.junk, AV.sl b29 [Kd.s, Kd.s, Kd.s, Kd.sl [Kd.b, Kd.i IntKind.i64, Kd.s]] r30 Right.old, AV.dv (DV.val (Value.int IntKind.i64 j31)), AV.dv (DV.val (Value.int IntKind.i64 j20)), AV.junk, AV.junk, AV.junk, AV.junk, AV.junk, AV.junk, AV.junk, AV.junk, AV.junk, AV.junk, AV.junk, AV.junk, AV.junk, AV.junk, AV.junk, AV.junk, AV.junk, AV.junk, AV.junk, AV.junk, AV.junk, AV.junk, AV.junk, AV.junk] [(1000, [AV.sl b2 [Kd.i IntKind.i64, Kd.s, Kd.s, Kd.s, Kd.sl [Kd.b, Kd.i IntKind.i64, Kd.s], Kd.sl [Kd.s, Kd.s, Kd.s, Kd.sl [Kd.b, Kd.i IntKind.i64, Kd.s]]] r3 Right.old, AV.dv (DV.val (Value.bool b4))]), (5, [AV.sl b13 [Kd.s, Kd.s, Kd.s, Kd.sl [Kd.b, Kd.i IntKind.i64, Kd.s]] r14 (Right.tok 20320)]), (9, [AV.dv (DV.val (Value.int IntKind.i64 j32)), AV.dv (DV.val (Value.string s33)), AV.dv (DV.val (Value.string s34)), AV.dv (DV.val (Value.string s35)), AV.sl b36 [Kd.b, Kd.i IntKind.i64, Kd.s] r37 Right.old, AV.sl b38 [Kd.s, Kd.s, Kd.s, Kd.sl [Kd.b, Kd.i IntKind.i64, Kd.s]] r39 Right.old])])
theorem z12_s6 (n : Nat) (b0 : Bool) (r1 : Rows) (b2 : Bool) (r3 : Rows) (b4 : Bool) (i0 : Nat) (b7 : Bool) (r8 : List (List DV)) (b15 : Bool) : z12_l6 n b0 r1 b2 r3 b4 (i0 + 1) b7 r8 b15 =
 bif b15 then
  z12_l9 n b0 r1 b2 r3 b4 i0 n b7 r8 0 false
 else some ((b7, r8), (((b2, r3), (b4, ())), ())) := by kernel_rfl
theorem z12_s9 (n : Nat) (b0 : Bool) (r1 : Rows) (b2 : Bool) (r3 : Rows) (b4 : Bool) (i0 i1 : Nat) (b9 : Bool) (r10 : List (List DV)) (j12 : Int) (b21 : Bool) : z12_l9 n b0 r1 b2 r3 b4 i0 (i1 + 1) b9 r10 j12 b21 =
 bif decide (j12 < (↑(List.length r3) : Int)) then
  if 0 ≤ j12 then
   if j12 < (↑(List.length r3) : Int) then
    obind (z10_v n (Row.S (List.getD r3 (Int.toNat j12) []) 1) (Row.S (List.getD r3 (Int.toNat j12) []) 2) (Row.S (List.getD r3 (Int.toNat j12) []) 3) (Row.N (List.getD r3 (Int.toNat j12) []) 4) (Row.R (List.getD r3 (Int.toNat j12) []) 4) ([DV.sl b9 [Kd.s, Kd.s, Kd.s, Kd.sl [Kd.b, Kd.i IntKind.i64, Kd.s]] r10])) fun y26 =>
    bif y26.fst then
     z12_l9 n b0 r1 b2 r3 b4 i0 i1 b9 r10 (IntKind.wrap IntKind.i64 (j12 + 1)) b21
    else z12_l13 n b0 r1 b2 r3 b4 i0 i1 n b9 r10 0 b21 j12 (Row.N (List.getD r3 (Int.toNat j12) []) 5) (Row.R (List.getD r3 (Int.toNat j12) []) 5) ((↑(List.length (Row.R (List.getD r3 (Int.toNat j12) []) 5)) : Int)) (Row.I (List.getD r3 (Int.toNat j12) []) 0) (Row.S (List.getD r3 (Int.toNat j12) []) 1) (Row.S (List.getD r3 (Int.toNat j12) []) 2) (Row.S (List.getD r3 (Int.toNat j12) []) 3) (Row.N (List.getD r3 (Int.toNat j12) []) 4) (Row.R (List.getD r3 (Int.toNat j12) []) 4) (Row.N (List.getD r3 (Int.toNat j12) []) 5) (Row.R (List.getD r3 (Int.toNat j12) []) 5)
   else none
  else none
 else z12_l6 n b0 r1 b2 r3 b4 i0 b9 r10 b21 := by kernel_rfl
theorem z12_s13 (n : Nat) (b0 : Bool) (r1 : Rows) (b2 : Bool) (r3 : Rows) (b4 : Bool) (i0 i1 i2 : Nat) (b13 : Bool) (r14 : List (List DV)) (j20 : Int) (b27 : Bool) (j28 : Int) (b29 : Bool) (r30 : List (List DV)) (j31 : Int) (j32 : Int) (s33 : ByteArray) (s34 : ByteArray) (s35 : ByteArray) (b36 : Bool) (r37 : List (List DV)) (b38 : Bool) (r39 : List (List DV)) : z12_l13 n b0 r1 b2 r3 b4 i0 i1 (i2 + 1) b13 r14 j20 b27 j28 b29 r30 j31 j32 s33 s34 s35 b36 r37 b38 r39 =
 bif decide (j20 < j31) then
  if 0 ≤ j20 then
   if j20 < (↑(List.length r30) : Int) then
    obind (z10_v n (Row.S (List.getD r30 (Int.toNat j20) []) 0) (Row.S (List.getD r30 (Int.toNat j20) []) 1) (Row.S (List.getD r30 (Int.toNat j20) []) 2) (Row.N (List.getD r30 (Int.toNat j20) []) 3) (Row.R (List.getD r30 (Int.toNat j20) []) 3) ([DV.sl b13 [Kd.s, Kd.s, Kd.s, Kd.sl [Kd.b, Kd.i IntKind.i64, Kd.s]] r14])) fun y40 =>
    bif !y40.fst then
     z12_l9 n b0 r1 b2 r3 b4 i0 i1 b13 r14 (IntKind.wrap IntKind.i64 (j28 + 1)) b27
    else z12_l13 n b0 r1 b2 r3 b4 i0 i1 i2 b13 r14 (IntKind.wrap IntKind.i64 (j20 + 1)) b27 j28 b29 r30 j31 j32 s33 s34 s35 b36 r37 b38 r39
   else none
  else none
 else obind (z2_v n b13 r14 s33 s34 s35 b36 r37) fun y41 =>
 bif b13 || List.isEmpty r14 then
  obind (z55_v n j32 s33 s34 s35 b36 r37 b38 r39) fun y42 =>
  bif b13 then
   if y41.fst.fst = 0 then
    z12_l9 n b0 r1 b2 r3 b4 i0 i1 false ([[DV.val (Value.string y42.fst.snd.fst), DV.val (Value.string y42.fst.snd.snd.fst), DV.val (Value.string y42.fst.snd.snd.snd.fst), DV.sl y42.fst.snd.snd.snd.snd.fst.fst [Kd.b, Kd.i IntKind.i64, Kd.s] y42.fst.snd.snd.snd.snd.fst.snd]]) (IntKind.wrap IntKind.i64 (j28 + 1)) true
   else none
  else none
 else obind (z55_v n j32 s33 s34 s35 b36 r37 b38 r39) fun y43 =>
 if 0 ≤ y41.fst.fst then
  if y41.fst.fst ≤ (↑(List.length r14) : Int) then
   if List.length r14 = List.length r14 then
    if List.length r14 + List.length [[DV.val (Value.string y43.fst.snd.fst), DV.val (Value.string y43.fst.snd.snd.fst), DV.val (Value.string y43.fst.snd.snd.snd.fst), DV.sl y43.fst.snd.snd.snd.snd.fst.fst [Kd.b, Kd.i IntKind.i64, Kd.s] y43.fst.snd.snd.snd.snd.fst.snd]] ≤ 1000000 then
     if 0 + (List.length r14 + List.length [[DV.val (Value.string y43.fst.snd.fst), DV.val (Value.string y43.fst.snd.snd.fst), DV.val (Value.string y43.fst.snd.snd.snd.fst), DV.sl y43.fst.snd.snd.snd.snd.fst.fst [Kd.b, Kd.i IntKind.i64, Kd.s] y43.fst.snd.snd.snd.snd.fst.snd]]) ≤ List.length (List.take (Int.toNat y41.fst.fst) r14 ++ [[DV.val (Value.string y43.fst.snd.fst), DV.val (Value.string y43.fst.snd.snd.fst), DV.val (Value.string y43.fst.snd.snd.snd.fst), DV.sl y43.fst.snd.snd.snd.snd.fst.fst [Kd.b, Kd.i IntKind.i64, Kd.s] y43.fst.snd.snd.snd.snd.fst.snd]] ++ List.drop (Int.toNat y41.fst.fst) r14) then
      bif Kd.sameL [Kd.s, Kd.s, Kd.s, Kd.sl [Kd.b, Kd.i IntKind.i64, Kd.s]] [Kd.s, Kd.s, Kd.s, Kd.sl [Kd.b, Kd.i IntKind.i64, Kd.s]] && Nat.ble (0 + (List.length r14 + List.length [[DV.val (Value.string y43.fst.snd.fst), DV.val (Value.string y43.fst.snd.snd.fst), DV.val (Value.string y43.fst.snd.snd.snd.fst), DV.sl y43.fst.snd.snd.snd.snd.fst.fst [Kd.b, Kd.i IntKind.i64, Kd.s] y43.fst.snd.snd.snd.snd.fst.snd]])) (0 + (List.length r14 + List.length [[DV.val (Value.string y43.fst.snd.fst), DV.val (Value.string y43.fst.snd.snd.fst), DV.val (Value.string y43.fst.snd.snd.snd.fst), DV.sl y43.fst.snd.snd.snd.snd.fst.fst [Kd.b, Kd.i IntKind.i64, Kd.s] y43.fst.snd.snd.snd.snd.fst.snd]])) then
       z12_l9 n b0 r1 b2 r3 b4 i0 i1 false (List.take (List.length r14 + List.length [[DV.val (Value.string y43.fst.snd.fst), DV.val (Value.string y43.fst.snd.snd.fst), DV.val (Value.string y43.fst.snd.snd.snd.fst), DV.sl y43.fst.snd.snd.snd.snd.fst.fst [Kd.b, Kd.i IntKind.i64, Kd.s] y43.fst.snd.snd.snd.snd.fst.snd]]) (List.drop 0 (List.take (Int.toNat y41.fst.fst) r14 ++ [[DV.val (Value.string y43.fst.snd.fst), DV.val (Value.string y43.fst.snd.snd.fst), DV.val (Value.string y43.fst.snd.snd.snd.fst), DV.sl y43.fst.snd.snd.snd.snd.fst.fst [Kd.b, Kd.i IntKind.i64, Kd.s] y43.fst.snd.snd.snd.snd.fst.snd]] ++ List.drop (Int.toNat y41.fst.fst) r14))) (IntKind.wrap IntKind.i64 (j28 + 1)) true
      else none
     else none
    else none
   else none
  else none
 else none := by kernel_rfl
theorem z12_e (n : Nat) (b0 : Bool) (r1 : Rows) (b2 : Bool) (r3 : Rows) (b4 : Bool) : z12_v n b0 r1 b2 r3 b4 =
 obind (z14_v n ([DV.sl b2 [Kd.i IntKind.i64, Kd.s, Kd.s, Kd.s, Kd.sl [Kd.b, Kd.i IntKind.i64, Kd.s], Kd.sl [Kd.s, Kd.s, Kd.s, Kd.sl [Kd.b, Kd.i IntKind.i64, Kd.s]]] r3, DV.val (Value.bool b4)])) fun y5 =>
 bif y5.fst then
  some ((true, []), (((b2, r3), (b4, ())), ()))
 else obind (z41_v n b0 r1) fun y6 =>
 z12_l6 n b0 r1 b2 r3 b4 n y6.fst.fst y6.fst.snd true := by kernel_rfl
theorem z12_c (n : Nat) (b0 : Bool) (r1 : Rows) (b2 : Bool) (r3 : Rows) (b4 : Bool) (y : (Bool × Rows) × ((Bool × Rows) × Bool × Unit) × Unit) (h : z12_v n b0 r1 b2 r3 b4 = some y) : Contract Try.prog 14 [AV.pl 1000 0, AV.sl b0 [Kd.s, Kd.s, Kd.s, Kd.sl [Kd.b, Kd.i IntKind.i64, Kd.s]] r1 Right.no] [[AV.sl b2 [Kd.i IntKind.i64, Kd.s, Kd.s, Kd.s, Kd.sl [Kd.b, Kd.i IntKind.i64, Kd.s], Kd.sl [Kd.s, Kd.s, Kd.s, Kd.sl [Kd.b, Kd.i IntKind.i64, Kd.s]]] r3 Right.no, AV.dv (DV.val (Value.bool b4))]] (OSh.enc (OSh.plain (.slt [Kd.s, Kd.s, Kd.s, Kd.sl [Kd.b, Kd.i IntKind.i64, Kd.s]] 0) [[.sl [Kd.i IntKind.i64, Kd.s, Kd.s, Kd.s, Kd.sl [Kd.b, Kd.i IntKind.i64, Kd.s], Kd.sl [Kd.s, Kd.s, Kd.s, Kd.sl [Kd.b, Kd.i IntKind.i64, Kd.s]]], .b]]) y) :=
 auto_okM tm_std (with_ok mixed (by kernel_rfl) (z12_σok n) n 0 [4000058,  5000015,  5000032,  5000042, 1000045, 1000059]) (with_pick mixed (by kernel_rfl) (z12_σok n) n 0 [4000058,  5000015,  5000032,  5000042, 1000045, 1000059]) mixed Try.func14 (by decide) (o := (OSh.plain (.slt [Kd.s, Kd.s, Kd.s, Kd.sl [Kd.b, Kd.i IntKind.i64, Kd.s]] 0) [[.sl [Kd.i IntKind.i64, Kd.s, Kd.s, Kd.s, Kd.sl [Kd.b, Kd.i IntKind.i64, Kd.s], Kd.sl [Kd.s, Kd.s, Kd.s, Kd.sl [Kd.b, Kd.i IntKind.i64, Kd.s]]], .b]])) h
def z13_lv : Live := []
noncomputable def z13_σ (n : Nat) : Spec := (inst 40 [.agg [.s, .s, .s, .sl [Kd.b, Kd.i IntKind.i64, Kd.s]], .agg [.s, .s, .s, .sl [Kd.b, Kd.i IntKind.i64, Kd.s]]] [] (OSh.plain (.i IntKind.i64) []) (fun x e => z46_v n x.1.1 x.1.2.1 x.1.2.2.1 x.1.2.2.2.1.1 x.1.2.2.2.1.2 x.2.1.1 x.2.1.2.1 x.2.1.2.2.1 x.2.1.2.2.2.1.1 x.2.1.2.2.2.1.2) (bookH Spec.none))
theorem z13_σok (n : Nat) : SpecOk Try.prog (z13_σ n) := (inst_ok (fun x e y h => z46_c n x.1.1 x.1.2.1 x.1.2.2.1 x.1.2.2.2.1.1 x.1.2.2.2.1.2 x.2.1.1 x.2.1.2.1 x.2.1.2.2.1 x.2.1.2.2.2.1.1 x.2.1.2.2.2.1.2 y h) (bookH_ok (SpecOk.none _)))
noncomputable def z13_Φ (n : Nat) : Orc := with_ Try.prog (z13_σ n) [] n 0 [1000045, 1000059]
noncomputable def z13_v (n : Nat) (j0 : Int) (s1 : ByteArray) (s2 : ByteArray) (s3 : ByteArray) (b4 : Bool) (r5 : Rows) (b6 : Bool) (r7 : Rows) (r8 : Row) : Option (Bool × Unit) :=
 DM.denFn tm (z13_Φ n) z13_lv n Try.f47 false [AV.agg [AV.dv (DV.val (Value.int IntKind.i64 j0)), AV.dv (DV.val (Value.string s1)), AV.dv (DV.val (Value.string s2)), AV.dv (DV.val (Value.string s3)), AV.sl b4 [Kd.b, Kd.i IntKind.i64, Kd.s] r5 Right.no, AV.sl b6 [Kd.s, Kd.s, Kd.s, Kd.sl [Kd.b, Kd.i IntKind.i64, Kd.s]] r7 Right.no], AV.pv [Kd.s, Kd.s, Kd.s, Kd.sl [Kd.b, Kd.i IntKind.i64, Kd.s]] r8 0] [] (OSh.chk (OSh.plain (.b) []))
theorem z13_e (n : Nat) (j0 : Int) (s1 : ByteArray) (s2 : ByteArray) (s3 : ByteArray) (b4 : Bool) (r5 : Rows) (b6 : Bool) (r7 : Rows) (r8 : Row) : z13_v n j0 s1 s2 s3 b4 r5 b6 r7 r8 =
 obind (z46_v n s1 s2 s3 b4 r5 (Row.S r8 0) (Row.S r8 1) (Row.S r8 2) (Row.N r8 3) (Row.R r8 3)) fun y9 =>
 some (y9.fst == 0, ()) := by kernel_rfl
theorem z13_c (n : Nat) (j0 : Int) (s1 : ByteArray) (s2 : ByteArray) (s3 : ByteArray) (b4 : Bool) (r5 : Rows) (b6 : Bool) (r7 : Rows) (r8 : Row) (y : Bool × Unit) (h : z13_v n j0 s1 s2 s3 b4 r5 b6 r7 r8 = some y) : Contract Try.prog 47 [AV.agg [AV.dv (DV.val (Value.int IntKind.i64 j0)), AV.dv (DV.val (Value.string s1)), AV.dv (DV.val (Value.string s2)), AV.dv (DV.val (Value.string s3)), AV.sl b4 [Kd.b, Kd.i IntKind.i64, Kd.s] r5 Right.no, AV.sl b6 [Kd.s, Kd.s, Kd.s, Kd.sl [Kd.b, Kd.i IntKind.i64, Kd.s]] r7 Right.no], AV.pv [Kd.s, Kd.s, Kd.s, Kd.sl [Kd.b, Kd.i IntKind.i64, Kd.s]] r8 0] [] (OSh.enc (OSh.plain (.b) []) y) :=
 auto_okM tm_std (with_ok mixed (by kernel_rfl) (z13_σok n) n 0 [1000045, 1000059]) (with_pick mixed (by kernel_rfl) (z13_σok n) n 0 [1000045, 1000059]) mixed Try.func47 (by decide) (o := (OSh.plain (.b) [])) h
def z8_lv : Live := [(5, [1, 5, 13, 14, 15], [1000, 1001, 1002, 1003])]
noncomputable def z8_σ (n : Nat) : Spec := (inst 36 [.pv [Kd.sl [Kd.i IntKind.i64, Kd.s, Kd.s, Kd.s, Kd.sl [Kd.b, Kd.i IntKind.i64, Kd.s], Kd.sl [Kd.s, Kd.s, Kd.s, Kd.sl [Kd.b, Kd.i IntKind.i64, Kd.s]]], Kd.b] 0] [] (OSh.plain (.b) []) (fun x e => z14_v n x.1) (inst 47 [.agg [.i IntKind.i64, .s, .s, .s, .sl [Kd.b, Kd.i IntKind.i64, Kd.s], .sl [Kd.s, Kd.s, Kd.s, Kd.sl [Kd.b, Kd.i IntKind.i64, Kd.s]]], .pv [Kd.s, Kd.s, Kd.s, Kd.sl [Kd.b, Kd.i IntKind.i64, Kd.s]] 0] [] (OSh.plain (.b) []) (fun x e => z13_v n x.1.1 x.1.2.1 x.1.2.2.1 x.1.2.2.2.1 x.1.2.2.2.2.1.1 x.1.2.2.2.2.1.2 x.1.2.2.2.2.2.1.1 x.1.2.2.2.2.2.1.2 x.2.1) (inst 42 [.agg [.i IntKind.i64, .s, .s, .s, .sl [Kd.b, Kd.i IntKind.i64, Kd.s], .sl [Kd.s, Kd.s, Kd.s, Kd.sl [Kd.b, Kd.i IntKind.i64, Kd.s]]]] [] (OSh.plain (.agg [.i IntKind.i64, .s, .s, .s, .sl [Kd.b, Kd.i IntKind.i64, Kd.s], .sl [Kd.s, Kd.s, Kd.s, Kd.sl [Kd.b, Kd.i IntKind.i64, Kd.s]]]) []) (fun x e => z55_v n x.1.1 x.1.2.1 x.1.2.2.1 x.1.2.2.2.1 x.1.2.2.2.2.1.1 x.1.2.2.2.2.1.2 x.1.2.2.2.2.2.1.1 x.1.2.2.2.2.2.1.2) (bookH Spec.none))))
theorem z8_σok (n : Nat) : SpecOk Try.prog (z8_σ n) := (inst_ok (fun x e y h => z14_c n x.1 y h) (inst_ok (fun x e y h => z13_c n x.1.1 x.1.2.1 x.1.2.2.1 x.1.2.2.2.1 x.1.2.2.2.2.1.1 x.1.2.2.2.2.1.2 x.1.2.2.2.2.2.1.1 x.1.2.2.2.2.2.1.2 x.2.1 y h) (inst_ok (fun x e y h => z55_c n x.1.1 x.1.2.1 x.1.2.2.1 x.1.2.2.2.1 x.1.2.2.2.2.1.1 x.1.2.2.2.2.1.2 x.1.2.2.2.2.2.1.1 x.1.2.2.2.2.2.1.2 y h) (bookH_ok (SpecOk.none _)))))
noncomputable def z8_Φ (n : Nat) : Orc := with_ Try.prog (z8_σ n) [] n 0 [5000009,  5000021, 1000045, 1000059]
noncomputable def z8_v (n : Nat) (b0 : Bool) (r1 : Rows) (b2 : Bool) (s3 : ByteArray) (s4 : ByteArray) (s5 : ByteArray) (b6 : Bool) (r7 : Rows) : Option ((Bool × Rows) × ((Bool × Rows) × Bool × Unit) × (ByteArray × ByteArray × ByteArray × (Bool × Rows) × Unit) × Unit) :=
 DM.denFn tm (z8_Φ n) z8_lv n Try.f46 true [AV.pl 1000 0, AV.fn 47 [AV.pl 1001 0]] [[AV.sl b0 [Kd.i IntKind.i64, Kd.s, Kd.s, Kd.s, Kd.sl [Kd.b, Kd.i IntKind.i64, Kd.s], Kd.sl [Kd.s, Kd.s, Kd.s, Kd.sl [Kd.b, Kd.i IntKind.i64, Kd.s]]] r1 Right.no, AV.dv (DV.val (Value.bool b2))], [AV.dv (DV.val (Value.string s3)), AV.dv (DV.val (Value.string s4)), AV.dv (DV.val (Value.string s5)), AV.sl b6 [Kd.b, Kd.i IntKind.i64, Kd.s] r7 Right.no]] (OSh.chk (OSh.plain (.slt [Kd.i IntKind.i64, Kd.s, Kd.s, Kd.s, Kd.sl [Kd.b, Kd.i IntKind.i64, Kd.s], Kd.sl [Kd.s, Kd.s, Kd.s, Kd.sl [Kd.b, Kd.i IntKind.i64, Kd.s]]] 0) [[.sl [Kd.i IntKind.i64, Kd.s, Kd.s, Kd.s, Kd.sl [Kd.b, Kd.i IntKind.i64, Kd.s], Kd.sl [Kd.s, Kd.s, Kd.s, Kd.sl [Kd.b, Kd.i IntKind.i64, Kd.s]]], .b], [.s, .s, .s, .sl [Kd.b, Kd.i IntKind.i64, Kd.s]]]))
noncomputable def z8_l5 (n : Nat) (b0 : Bool) (r1 : Rows) (b2 : Bool) (s3 : ByteArray) (s4 : ByteArray) (s5 : ByteArray) (b6 : Bool) (r7 : Rows) (i0 : Nat) (b11 : Bool) (r12 : List (List DV)) (j13 : Int) : Option ((Bool × Rows) × ((Bool × Rows) × Bool × Unit) × (ByteArray × ByteArray × ByteArray × (Bool × Rows) × Unit) × Unit) :=
 DM.loopFn tm (z8_Φ n) z8_lv n Try.f46 true [[AV.sl b0 [Kd.i IntKind.i64, Kd.s, Kd.s, Kd.s, Kd.sl [Kd.b, Kd.i IntKind.i64, Kd.s], Kd.sl [Kd.s, Kd.s, Kd.s, Kd.sl [Kd.b, Kd.i IntKind.i64, Kd.s]]] r1 Right.no, AV.dv (DV.val (Value.bool b2))], [AV.dv (DV.val (Value.string s3)), AV.dv (DV.val (Value.string s4)), AV.dv (DV.val (Value.string s5)), AV.sl b6 [Kd.b, Kd.i IntKind.i64, Kd.s] r7 Right.no]] (OSh.chk (OSh.plain (.slt [Kd.i IntKind.i64, Kd.s, Kd.s, Kd.s, Kd.sl [Kd.b, Kd.i IntKind.i64, Kd.s], Kd.sl [Kd.s, Kd.s, Kd.s, Kd.sl [Kd.b, Kd.i IntKind.i64, Kd.s]]] 0) [[.sl [Kd.i IntKind.i64, Kd.s, Kd.s, Kd.s, Kd.sl [Kd.b, Kd.i IntKind.i64, Kd.s], Kd.sl [Kd.s, Kd.s, Kd.s, Kd.sl [Kd.b, Kd.i IntKind.i64, Kd.s]]], .b], [.s, .s, .s, .sl [Kd.b, Kd.i IntKind.i64, Kd.s]]])) 5 [] i0 (St.mk [AV.junk, AV.fn 47 [AV.pl 1001 0], AV.junk, AV.junk, AV.junk, AV.sl b11 [Kd.i IntKind.i64, Kd.s, Kd.s, Kd.s, Kd.sl [Kd.b, Kd.i IntKind.i64, Kd.s], Kd.sl [Kd.s, Kd.s, Kd.s, Kd.sl [Kd.b, Kd.i IntKind.i64, Kd.s]]] r12 (Right.tok 5), AV.junk, AV.junk, AV.junk, AV.junk, AV.junk, AV.junk, AV.junk, AV.sl b0 [Kd.i IntKind.i64, Kd.s, Kd.s, Kd.s, Kd.sl [Kd.b, Kd.i IntKind.i64, Kd.s], Kd.sl [Kd.s, Kd.s, Kd.s, Kd.sl [Kd.b, Kd.i IntKind.i64, Kd.s]]] r1 Right.no, AV.dv (DV.val (Value.int IntKind.i64 (↑(List.length r1) : Int))), AV.dv (DV.val (Value.int IntKind.i64 j13)), AV.junk, AV.junk, AV.junk, AV.junk, AV.junk, AV.junk, AV.junk, AV.junk, AV.junk, AV.junk, AV.junk, AV.junk, AV.junk] [(1000, [AV.sl b0 [Kd.i IntKind.i64, Kd.s, Kd.s, Kd.s, Kd.sl [Kd.b, Kd.i IntKind.i64, Kd.s], Kd.sl [Kd.s, Kd.s, Kd.s, Kd.sl [Kd.b, Kd.i IntKind.i64, Kd.s]]] r1 Right.no, AV.dv (DV.val (Value.bool b2))]), (1001, [AV.dv (DV.val (Value.string s3)), AV.dv (DV.val (Value.string s4)), AV.dv (DV.val (Value.string s5)), AV.sl b6 [Kd.b, Kd.i IntKind.i64, Kd.s] r7 Right.no])])
theorem z8_s5 (n : Nat) (b0 : Bool) (r1 : Rows) (b2 : Bool) (s3 : ByteArray) (s4 : ByteArray) (s5 : ByteArray) (b6 : Bool) (r7 : Rows) (i0 : Nat) (b11 : Bool) (r12 : List (List DV)) (j13 : Int) : z8_l5 n b0 r1 b2 s3 s4 s5 b6 r7 (i0 + 1) b11 r12 j13 =
 bif decide (j13 < (↑(List.length r1) : Int)) then
  if 0 ≤ j13 then
   if j13 < (↑(List.length r1) : Int) then
    obind (z13_v n (Row.I (List.getD r1 (Int.toNat j13) []) 0) (Row.S (List.getD r1 (Int.toNat j13) []) 1) (Row.S (List.getD r1 (Int.toNat j13) []) 2) (Row.S (List.getD r1 (Int.toNat j13) []) 3) (Row.N (List.getD r1 (Int.toNat j13) []) 4) (Row.R (List.getD r1 (Int.toNat j13) []) 4) (Row.N (List.getD r1 (Int.toNat j13) []) 5) (Row.R (List.getD r1 (Int.toNat j13) []) 5) ([DV.val (Value.string s3), DV.val (Value.string s4), DV.val (Value.string s5), DV.sl b6 [Kd.b, Kd.i IntKind.i64, Kd.s] r7])) fun y14 =>
    bif y14.fst then
     obind (z55_v n (Row.I (List.getD r1 (Int.toNat j13) []) 0) (Row.S (List.getD r1 (Int.toNat j13) []) 1) (Row.S (List.getD r1 (Int.toNat j13) []) 2) (Row.S (List.getD r1 (Int.toNat j13) []) 3) (Row.N (List.getD r1 (Int.toNat j13) []) 4) (Row.R (List.getD r1 (Int.toNat j13) []) 4) (Row.N (List.getD r1 (Int.toNat j13) []) 5) (Row.R (List.getD r1 (Int.toNat j13) []) 5)) fun y15 =>
     if (List.length r12 + List.length [[DV.val (Value.int IntKind.i64 y15.fst.fst), DV.val (Value.string y15.fst.snd.fst), DV.val (Value.string y15.fst.snd.snd.fst), DV.val (Value.string y15.fst.snd.snd.snd.fst), DV.sl y15.fst.snd.snd.snd.snd.fst.fst [Kd.b, Kd.i IntKind.i64, Kd.s] y15.fst.snd.snd.snd.snd.fst.snd, DV.sl y15.fst.snd.snd.snd.snd.snd.fst.fst [Kd.s, Kd.s, Kd.s, Kd.sl [Kd.b, Kd.i IntKind.i64, Kd.s]] y15.fst.snd.snd.snd.snd.snd.fst.snd]]) * 104 ≤ 140737488355328 then
      z8_l5 n b0 r1 b2 s3 s4 s5 b6 r7 i0 (b11 && List.isEmpty [[DV.val (Value.int IntKind.i64 y15.fst.fst), DV.val (Value.string y15.fst.snd.fst), DV.val (Value.string y15.fst.snd.snd.fst), DV.val (Value.string y15.fst.snd.snd.snd.fst), DV.sl y15.fst.snd.snd.snd.snd.fst.fst [Kd.b, Kd.i IntKind.i64, Kd.s] y15.fst.snd.snd.snd.snd.fst.snd, DV.sl y15.fst.snd.snd.snd.snd.snd.fst.fst [Kd.s, Kd.s, Kd.s, Kd.sl [Kd.b, Kd.i IntKind.i64, Kd.s]] y15.fst.snd.snd.snd.snd.snd.fst.snd]]) (appX r12 [[DV.val (Value.int IntKind.i64 y15.fst.fst), DV.val (Value.string y15.fst.snd.fst), DV.val (Value.string y15.fst.snd.snd.fst), DV.val (Value.string y15.fst.snd.snd.snd.fst), DV.sl y15.fst.snd.snd.snd.snd.fst.fst [Kd.b, Kd.i IntKind.i64, Kd.s] y15.fst.snd.snd.snd.snd.fst.snd, DV.sl y15.fst.snd.snd.snd.snd.snd.fst.fst [Kd.s, Kd.s, Kd.s, Kd.sl [Kd.b, Kd.i IntKind.i64, Kd.s]] y15.fst.snd.snd.snd.snd.snd.fst.snd]]) (IntKind.wrap IntKind.i64 (j13 + 1))
     else none
    else z8_l5 n b0 r1 b2 s3 s4 s5 b6 r7 i0 b11 r12 (IntKind.wrap IntKind.i64 (j13 + 1))
   else none
  else none
 else some ((b11, r12), (((b0, r1), (b2, ())), ((s3, (s4, (s5, ((b6, r7), ())))), ()))) := by kernel_rfl
theorem z8_e (n : Nat) (b0 : Bool) (r1 : Rows) (b2 : Bool) (s3 : ByteArray) (s4 : ByteArray) (s5 : ByteArray) (b6 : Bool) (r7 : Rows) : z8_v n b0 r1 b2 s3 s4 s5 b6 r7 =
 obind (z14_v n ([DV.sl b0 [Kd.i IntKind.i64, Kd.s, Kd.s, Kd.s, Kd.sl [Kd.b, Kd.i IntKind.i64, Kd.s], Kd.sl [Kd.s, Kd.s, Kd.s, Kd.sl [Kd.b, Kd.i IntKind.i64, Kd.s]]] r1, DV.val (Value.bool b2)])) fun y8 =>
 bif y8.fst then
  some ((true, []), (((b0, r1), (b2, ())), ((s3, (s4, (s5, ((b6, r7), ())))), ())))
 else z8_l5 n b0 r1 b2 s3 s4 s5 b6 r7 n true [] 0 := by kernel_rfl
theorem z8_c (n : Nat) (b0 : Bool) (r1 : Rows) (b2 : Bool) (s3 : ByteArray) (s4 : ByteArray) (s5 : ByteArray) (b6 : Bool) (r7 : Rows) (y : (Bool × Rows) × ((Bool × Rows) × Bool × Unit) × (ByteArray × ByteArray × ByteArray × (Bool × Rows) × Unit) × Unit) (h : z8_v n b0 r1 b2 s3 s4 s5 b6 r7 = some y) : Contract Try.prog 46 [AV.pl 1000 0, AV.fn 47 [AV.pl 1001 0]] [[AV.sl b0 [Kd.i IntKind.i64, Kd.s, Kd.s, Kd.s, Kd.sl [Kd.b, Kd.i IntKind.i64, Kd.s], Kd.sl [Kd.s, Kd.s, Kd.s, Kd.sl [Kd.b, Kd.i IntKind.i64, Kd.s]]] r1 Right.no, AV.dv (DV.val (Value.bool b2))], [AV.dv (DV.val (Value.string s3)), AV.dv (DV.val (Value.string s4)), AV.dv (DV.val (Value.string s5)), AV.sl b6 [Kd.b, Kd.i IntKind.i64, Kd.s] r7 Right.no]] (OSh.enc (OSh.plain (.slt [Kd.i IntKind.i64, Kd.s, Kd.s, Kd.s, Kd.sl [Kd.b, Kd.i IntKind.i64, Kd.s], Kd.sl [Kd.s, Kd.s, Kd.s, Kd.sl [Kd.b, Kd.i IntKind.i64, Kd.s]]] 0) [[.sl [Kd.i IntKind.i64, Kd.s, Kd.s, Kd.s, Kd.sl [Kd.b, Kd.i IntKind.i64, Kd.s], Kd.sl [Kd.s, Kd.s, Kd.s, Kd.sl [Kd.b, Kd.i IntKind.i64, Kd.s]]], .b], [.s, .s, .s, .sl [Kd.b, Kd.i IntKind.i64, Kd.s]]]) y) :=
 auto_okM tm_std (with_ok mixed (by kernel_rfl) (z8_σok n) n 0 [5000009,  5000021, 1000045, 1000059]) (with_pick mixed (by kernel_rfl) (z8_σok n) n 0 [5000009,  5000021, 1000045, 1000059]) mixed Try.func46 (by decide) (o := (OSh.plain (.slt [Kd.i IntKind.i64, Kd.s, Kd.s, Kd.s, Kd.sl [Kd.b, Kd.i IntKind.i64, Kd.s], Kd.sl [Kd.s, Kd.s, Kd.s, Kd.sl [Kd.b, Kd.i IntKind.i64, Kd.s]]] 0) [[.sl [Kd.i IntKind.i64, Kd.s, Kd.s, Kd.s, Kd.sl [Kd.b, Kd.i IntKind.i64, Kd.s], Kd.sl [Kd.s, Kd.s, Kd.s, Kd.sl [Kd.b, Kd.i IntKind.i64, Kd.s]]], .b], [.s, .s, .s, .sl [Kd.b, Kd.i IntKind.i64, Kd.s]]])) h
def z36_lv : Live := []
noncomputable def z36_σ (n : Nat) : Spec := (inst 46 [.pl 1000 0, .fn 47 [.pl 1001 0]] [[.sl [Kd.i IntKind.i64, Kd.s, Kd.s, Kd.s, Kd.sl [Kd.b, Kd.i IntKind.i64, Kd.s], Kd.sl [Kd.s, Kd.s, Kd.s, Kd.sl [Kd.b, Kd.i IntKind.i64, Kd.s]]], .b], [.s, .s, .s, .sl [Kd.b, Kd.i IntKind.i64, Kd.s]]] (OSh.plain (.slt [Kd.i IntKind.i64, Kd.s, Kd.s, Kd.s, Kd.sl [Kd.b, Kd.i IntKind.i64, Kd.s], Kd.sl [Kd.s, Kd.s, Kd.s, Kd.sl [Kd.b, Kd.i IntKind.i64, Kd.s]]] 0) [[.sl [Kd.i IntKind.i64, Kd.s, Kd.s, Kd.s, Kd.sl [Kd.b, Kd.i IntKind.i64, Kd.s], Kd.sl [Kd.s, Kd.s, Kd.s, Kd.sl [Kd.b, Kd.i IntKind.i64, Kd.s]]], .b], [.s, .s, .s, .sl [Kd.b, Kd.i IntKind.i64, Kd.s]]]) (fun x e => z8_v n e.1.1.1 e.1.1.2 e.1.2.1 e.2.1.1 e.2.1.2.1 e.2.1.2.2.1 e.2.1.2.2.2.1.1 e.2.1.2.2.2.1.2) (bookH Spec.none))
theorem z36_σok (n : Nat) : SpecOk Try.prog (z36_σ n) := (inst_ok (fun x e y h => z8_c n e.1.1.1 e.1.1.2 e.1.2.1 e.2.1.1 e.2.1.2.1 e.2.1.2.2.1 e.2.1.2.2.2.1.1 e.2.1.2.2.2.1.2 y h) (bookH_ok (SpecOk.none _)))
noncomputable def z36_Φ (n : Nat) : Orc := with_ Try.prog (z36_σ n) [] n 0 [1000045, 1000059]
noncomputable def z36_v (n : Nat) (s0 : ByteArray) (s1 : ByteArray) (s2 : ByteArray) (b3 : Bool) (r4 : Rows) (b5 : Bool) (r6 : Rows) (b7 : Bool) : Option ((Bool × Rows) × ((Bool × Rows) × Bool × Unit) × Unit) :=
 DM.denFn tm (z36_Φ n) z36_lv n Try.f17 true [AV.pl 1000 0, AV.agg [AV.dv (DV.val (Value.string s0)), AV.dv (DV.val (Value.string s1)), AV.dv (DV.val (Value.string s2)), AV.sl b3 [Kd.b, Kd.i IntKind.i64, Kd.s] r4 Right.no]] [[AV.sl b5 [Kd.i IntKind.i64, Kd.s, Kd.s, Kd.s, Kd.sl [Kd.b, Kd.i IntKind.i64, Kd.s], Kd.sl [Kd.s, Kd.s, Kd.s, Kd.sl [Kd.b, Kd.i IntKind.i64, Kd.s]]] r6 Right.no, AV.dv (DV.val (Value.bool b7))]] (OSh.chk (OSh.plain (.slt [Kd.i IntKind.i64, Kd.s, Kd.s, Kd.s, Kd.sl [Kd.b, Kd.i IntKind.i64, Kd.s], Kd.sl [Kd.s, Kd.s, Kd.s, Kd.sl [Kd.b, Kd.i IntKind.i64, Kd.s]]] 0) [[.sl [Kd.i IntKind.i64, Kd.s, Kd.s, Kd.s, Kd.sl [Kd.b, Kd.i IntKind.i64, Kd.s], Kd.sl [Kd.s, Kd.s, Kd.s, Kd.sl [Kd.b, Kd.i IntKind.i64, Kd.s]]], .b]]))
theorem z36_e (n : Nat) (s0 : ByteArray) (s1 : ByteArray) (s2 : ByteArray) (b3 : Bool) (r4 : Rows) (b5 : Bool) (r6 : Rows) (b7 : Bool) : z36_v n s0 s1 s2 b3 r4 b5 r6 b7 =
 obind (z8_v n b5 r6 b7 s0 s1 s2 b3 r4) fun y8 =>
 some ((y8.fst.fst, y8.fst.snd), (((y8.snd.fst.fst.fst, y8.snd.fst.fst.snd), (y8.snd.fst.snd.fst, ())), ())) := by kernel_rfl
theorem z36_c (n : Nat) (s0 : ByteArray) (s1 : ByteArray) (s2 : ByteArray) (b3 : Bool) (r4 : Rows) (b5 : Bool) (r6 : Rows) (b7 : Bool) (y : (Bool × Rows) × ((Bool × Rows) × Bool × Unit) × Unit) (h : z36_v n s0 s1 s2 b3 r4 b5 r6 b7 = some y) : Contract Try.prog 17 [AV.pl 1000 0, AV.agg [AV.dv (DV.val (Value.string s0)), AV.dv (DV.val (Value.string s1)), AV.dv (DV.val (Value.string s2)), AV.sl b3 [Kd.b, Kd.i IntKind.i64, Kd.s] r4 Right.no]] [[AV.sl b5 [Kd.i IntKind.i64, Kd.s, Kd.s, Kd.s, Kd.sl [Kd.b, Kd.i IntKind.i64, Kd.s], Kd.sl [Kd.s, Kd.s, Kd.s, Kd.sl [Kd.b, Kd.i IntKind.i64, Kd.s]]] r6 Right.no, AV.dv (DV.val (Value.bool b7))]] (OSh.enc (OSh.plain (.slt [Kd.i IntKind.i64, Kd.s, Kd.s, Kd.s, Kd.sl [Kd.b, Kd.i IntKind.i64, Kd.s], Kd.sl [Kd.s, Kd.s, Kd.s, Kd.sl [Kd.b, Kd.i IntKind.i64, Kd.s]]] 0) [[.sl [Kd.i IntKind.i64, Kd.s, Kd.s, Kd.s, Kd.sl [Kd.b, Kd.i IntKind.i64, Kd.s], Kd.sl [Kd.s, Kd.s, Kd.s, Kd.sl [Kd.b, Kd.i IntKind.i64, Kd.s]]], .b]]) y) :=
 auto_okM tm_std (with_ok mixed (by kernel_rfl) (z36_σok n) n 0 [1000045, 1000059]) (with_pick mixed (by kernel_rfl) (z36_σok n) n 0 [1000045, 1000059]) mixed Try.func17 (by decide) (o := (OSh.plain (.slt [Kd.i IntKind.i64, Kd.s, Kd.s, Kd.s, Kd.sl [Kd.b, Kd.i IntKind.i64, Kd.s], Kd.sl [Kd.s, Kd.s, Kd.s, Kd.sl [Kd.b, Kd.i IntKind.i64, Kd.s]]] 0) [[.sl [Kd.i IntKind.i64, Kd.s, Kd.s, Kd.s, Kd.sl [Kd.b, Kd.i IntKind.i64, Kd.s], Kd.sl [Kd.s, Kd.s, Kd.s, Kd.sl [Kd.b, Kd.i IntKind.i64, Kd.s]]], .b]])) h
def z43_lv : Live := []
noncomputable def z43_σ (n : Nat) : Spec := (inst 24 [] [] (OSh.plain (.pl 1000 0) [[.sl [Kd.i IntKind.i64, Kd.s, Kd.s, Kd.s, Kd.sl [Kd.b, Kd.i IntKind.i64, Kd.s], Kd.sl [Kd.s, Kd.s, Kd.s, Kd.sl [Kd.b, Kd.i IntKind.i64, Kd.s]]], .b]]) (fun x e => z52_v n) (inst 34 [.i IntKind.i64] [] (OSh.plain (.agg [.s, .s, .s, .sl [Kd.b, Kd.i IntKind.i64, Kd.s]]) []) (fun x e => z54_v n x.1) (inst 25 [.pl 1000 0, .agg [.i IntKind.i64, .s, .s, .s, .sl [Kd.b, Kd.i IntKind.i64, Kd.s], .sl [Kd.s, Kd.s, Kd.s, Kd.sl [Kd.b, Kd.i IntKind.i64, Kd.s]]]] [[.sl [Kd.i IntKind.i64, Kd.s, Kd.s, Kd.s, Kd.sl [Kd.b, Kd.i IntKind.i64, Kd.s], Kd.sl [Kd.s, Kd.s, Kd.s, Kd.sl [Kd.b, Kd.i IntKind.i64, Kd.s]]], .b]] (OSh.plain (.b) [[.sl [Kd.i IntKind.i64, Kd.s, Kd.s, Kd.s, Kd.sl [Kd.b, Kd.i IntKind.i64, Kd.s], Kd.sl [Kd.s, Kd.s, Kd.s, Kd.sl [Kd.b, Kd.i IntKind.i64, Kd.s]]], .b]]) (fun x e => z30_v n x.2.1.1 x.2.1.2.1 x.2.1.2.2.1 x.2.1.2.2.2.1 x.2.1.2.2.2.2.1.1 x.2.1.2.2.2.2.1.2 x.2.1.2.2.2.2.2.1.1 x.2.1.2.2.2.2.2.1.2 e.1.1.1 e.1.1.2 e.1.2.1) (inst 22 [.pl 1000 0] [[.sl [Kd.i IntKind.i64, Kd.s, Kd.s, Kd.s, Kd.sl [Kd.b, Kd.i IntKind.i64, Kd.s], Kd.sl [Kd.s, Kd.s, Kd.s, Kd.sl [Kd.b, Kd.i IntKind.i64, Kd.s]]], .b]] (OSh.plain (.i IntKind.i64) [[.sl [Kd.i IntKind.i64, Kd.s, Kd.s, Kd.s, Kd.sl [Kd.b, Kd.i IntKind.i64, Kd.s], Kd.sl [Kd.s, Kd.s, Kd.s, Kd.sl [Kd.b, Kd.i IntKind.i64, Kd.s]]], .b]]) (fun x e => z28_v n e.1.1.1 e.1.1.2 e.1.2.1) (inst 14 [.pl 1000 0, .sl [Kd.s, Kd.s, Kd.s, Kd.sl [Kd.b, Kd.i IntKind.i64, Kd.s]]] [[.sl [Kd.i IntKind.i64, Kd.s, Kd.s, Kd.s, Kd.sl [Kd.b, Kd.i IntKind.i64, Kd.s], Kd.sl [Kd.s, Kd.s, Kd.s, Kd.sl [Kd.b, Kd.i IntKind.i64, Kd.s]]], .b]] (OSh.plain (.slt [Kd.s, Kd.s, Kd.s, Kd.sl [Kd.b, Kd.i IntKind.i64, Kd.s]] 0) [[.sl [Kd.i IntKind.i64, Kd.s, Kd.s, Kd.s, Kd.sl [Kd.b, Kd.i IntKind.i64, Kd.s], Kd.sl [Kd.s, Kd.s, Kd.s, Kd.sl [Kd.b, Kd.i IntKind.i64, Kd.s]]], .b]]) (fun x e => z12_v n x.2.1.1 x.2.1.2 e.1.1.1 e.1.1.2 e.1.2.1) (inst 17 [.pl 1000 0, .agg [.s, .s, .s, .sl [Kd.b, Kd.i IntKind.i64, Kd.s]]] [[.sl [Kd.i IntKind.i64, Kd.s, Kd.s, Kd.s, Kd.sl [Kd.b, Kd.i IntKind.i64, Kd.s], Kd.sl [Kd.s, Kd.s, Kd.s, Kd.sl [Kd.b, Kd.i IntKind.i64, Kd.s]]], .b]] (OSh.plain (.slt [Kd.i IntKind.i64, Kd.s, Kd.s, Kd.s, Kd.sl [Kd.b, Kd.i IntKind.i64, Kd.s], Kd.sl [Kd.s, Kd.s, Kd.s, Kd.sl [Kd.b, Kd.i IntKind.i64, Kd.s]]] 0) [[.sl [Kd.i IntKind.i64, Kd.s, Kd.s, Kd.s, Kd.sl [Kd.b, Kd.i IntKind.i64, Kd.s], Kd.sl [Kd.s, Kd.s, Kd.s, Kd.sl [Kd.b, Kd.i IntKind.i64, Kd.s]]], .b]]) (fun x e => z36_v n x.2.1.1 x.2.1.2.1 x.2.1.2.2.1 x.2.1.2.2.2.1.1 x.2.1.2.2.2.1.2 e.1.1.1 e.1.1.2 e.1.2.1) (bookH Spec.none)))))))
theorem z43_σok (n : Nat) : SpecOk Try.prog (z43_σ n) := (inst_ok (fun x e y h => z52_c n y h) (inst_ok (fun x e y h => z54_c n x.1 y h) (inst_ok (fun x e y h => z30_c n x.2.1.1 x.2.1.2.1 x.2.1.2.2.1 x.2.1.2.2.2.1 x.2.1.2.2.2.2.1.1 x.2.1.2.2.2.2.1.2 x.2.1.2.2.2.2.2.1.1 x.2.1.2.2.2.2.2.1.2 e.1.1.1 e.1.1.2 e.1.2.1 y h) (inst_ok (fun x e y h => z28_c n e.1.1.1 e.1.1.2 e.1.2.1 y h) (inst_ok (fun x e y h => z12_c n x.2.1.1 x.2.1.2 e.1.1.1 e.1.1.2 e.1.2.1 y h) (inst_ok (fun x e y h => z36_c n x.2.1.1 x.2.1.2.1 x.2.1.2.2.1 x.2.1.2.2.2.1.1 x.2.1.2.2.2.1.2 e.1.1.1 e.1.1.2 e.1.2.1 y h) (bookH_ok (SpecOk.none _))))))))
noncomputable def z43_Φ (n : Nat) : Orc := with_ Try.prog (z43_σ n) [] n 0 [1000045, 1000059]
noncomputable def z43_v (n : Nat) : Option (Bool × Unit) :=
 DM.denFn tm (z43_Φ n) z43_lv n Try.f10 false [] [] (OSh.chk (OSh.plain (.b) []))
theorem z43_e (n : Nat) : z43_v n =
 obind (z52_v n) fun y0 =>
 obind (z54_v n 1) fun y1 =>
 obind (z54_v n 2) fun y2 =>
 obind (z30_v n 0 y1.fst.fst y1.fst.snd.fst y1.fst.snd.snd.fst y1.fst.snd.snd.snd.fst.fst y1.fst.snd.snd.snd.fst.snd false ([[DV.val (Value.string y2.fst.fst), DV.val (Value.string y2.fst.snd.fst), DV.val (Value.string y2.fst.snd.snd.fst), DV.sl y2.fst.snd.snd.snd.fst.fst [Kd.b, Kd.i IntKind.i64, Kd.s] y2.fst.snd.snd.snd.fst.snd]]) y0.snd.fst.fst.fst y0.snd.fst.fst.snd y0.snd.fst.snd.fst) fun y3 =>
 obind (z54_v n 2) fun y4 =>
 obind (z54_v n 1) fun y5 =>
 obind (z30_v n 0 y4.fst.fst y4.fst.snd.fst y4.fst.snd.snd.fst y4.fst.snd.snd.snd.fst.fst y4.fst.snd.snd.snd.fst.snd false ([[DV.val (Value.string y5.fst.fst), DV.val (Value.string y5.fst.snd.fst), DV.val (Value.string y5.fst.snd.snd.fst), DV.sl y5.fst.snd.snd.snd.fst.fst [Kd.b, Kd.i IntKind.i64, Kd.s] y5.fst.snd.snd.snd.fst.snd]]) y3.snd.fst.fst.fst y3.snd.fst.fst.snd y3.snd.fst.snd.fst) fun y6 =>
 bif y3.fst then
  bif y6.fst then
   obind (z28_v n y6.snd.fst.fst.fst y6.snd.fst.fst.snd y6.snd.fst.snd.fst) fun y7 =>
   bif y7.fst == 2 then
    obind (z12_v n true [] y7.snd.fst.fst.fst y7.snd.fst.fst.snd y7.snd.fst.snd.fst) fun y8 =>
    bif (↑(List.length y8.fst.snd) : Int) == 0 then
     obind (z54_v n 2) fun y9 =>
     obind (z12_v n false ([[DV.val (Value.string y9.fst.fst), DV.val (Value.string y9.fst.snd.fst), DV.val (Value.string y9.fst.snd.snd.fst), DV.sl y9.fst.snd.snd.snd.fst.fst [Kd.b, Kd.i IntKind.i64, Kd.s] y9.fst.snd.snd.snd.fst.snd]]) y8.snd.fst.fst.fst y8.snd.fst.fst.snd y8.snd.fst.snd.fst) fun y10 =>
     bif (↑(List.length y10.fst.snd) : Int) == 2 then
      obind (z54_v n 1) fun y11 =>
      obind (z36_v n y11.fst.fst y11.fst.snd.fst y11.fst.snd.snd.fst y11.fst.snd.snd.snd.fst.fst y11.fst.snd.snd.snd.fst.snd y10.snd.fst.fst.fst y10.snd.fst.fst.snd y10.snd.fst.snd.fst) fun y12 =>
      some ((↑(List.length y12.fst.snd) : Int) == 1, ())
     else some (false, ())
    else some (false, ())
   else some (false, ())
  else some (false, ())
 else some (false, ()) := by kernel_rfl
theorem z43_c (n : Nat) (y : Bool × Unit) (h : z43_v n = some y) : Contract Try.prog 10 [] [] (OSh.enc (OSh.plain (.b) []) y) :=
 auto_okM tm_std (with_ok mixed (by kernel_rfl) (z43_σok n) n 0 [1000045, 1000059]) (with_pick mixed (by kernel_rfl) (z43_σok n) n 0 [1000045, 1000059]) mixed Try.func10 (by decide) (o := (OSh.plain (.b) [])) h
def z39_lv : Live := []
noncomputable def z39_σ (n : Nat) : Spec := (bookH Spec.none)
theorem z39_σok (n : Nat) : SpecOk Try.prog (z39_σ n) := (bookH_ok (SpecOk.none _))
noncomputable def z39_Φ (n : Nat) : Orc := with_ Try.prog (z39_σ n) [] n 0 [1000045, 1000059]
noncomputable def z39_v (n : Nat) (s0 : ByteArray) (s1 : ByteArray) : Option (Int × Unit) :=
 DM.denFn tm (z39_Φ n) z39_lv n Try.f55 false [AV.dv (DV.val (Value.string s0)), AV.dv (DV.val (Value.string s1))] [] (OSh.chk (OSh.plain (.i IntKind.i64) []))
theorem z39_e (n : Nat) (s0 : ByteArray) (s1 : ByteArray) : z39_v n s0 s1 =
 bif Op.bytesLess (ByteArray.toList s0) (ByteArray.toList s1) then
  some (-1, ())
 else bif !(Op.bytesLess (ByteArray.toList s0) (ByteArray.toList s1) || s0 == s1) then
  some (1, ())
 else some (0, ()) := by kernel_rfl
theorem z39_c (n : Nat) (s0 : ByteArray) (s1 : ByteArray) (y : Int × Unit) (h : z39_v n s0 s1 = some y) : Contract Try.prog 55 [AV.dv (DV.val (Value.string s0)), AV.dv (DV.val (Value.string s1))] [] (OSh.enc (OSh.plain (.i IntKind.i64) []) y) :=
 auto_okM tm_std (with_ok mixed (by kernel_rfl) (z39_σok n) n 0 [1000045, 1000059]) (with_pick mixed (by kernel_rfl) (z39_σok n) n 0 [1000045, 1000059]) mixed Try.func55 (by decide) (o := (OSh.plain (.i IntKind.i64) [])) h
def z32_lv : Live := []
noncomputable def z32_σ (n : Nat) : Spec := (inst 55 [.s, .s] [] (OSh.plain (.i IntKind.i64) []) (fun x e => z39_v n x.1 x.2.1) (bookH Spec.none))
theorem z32_σok (n : Nat) : SpecOk Try.prog (z32_σ n) := (inst_ok (fun x e y h => z39_c n x.1 x.2.1 y h) (bookH_ok (SpecOk.none _)))
noncomputable def z32_Φ (n : Nat) : Orc := with_ Try.prog (z32_σ n) [] n 0 [1000045, 1000059]
noncomputable def z32_v (n : Nat) (b0 : Bool) (j1 : Int) (s2 : ByteArray) (b3 : Bool) (j4 : Int) (s5 : ByteArray) : Option (Int × Unit) :=
 DM.denFn tm (z32_Φ n) z32_lv n Try.f56 false [AV.agg [AV.dv (DV.val (Value.bool b0)), AV.dv (DV.val (Value.int IntKind.i64 j1)), AV.dv (DV.val (Value.string s2))], AV.agg [AV.dv (DV.val (Value.bool b3)), AV.dv (DV.val (Value.int IntKind.i64 j4)), AV.dv (DV.val (Value.string s5))]] [] (OSh.chk (OSh.plain (.i IntKind.i64) []))
theorem z32_e (n : Nat) (b0 : Bool) (j1 : Int) (s2 : ByteArray) (b3 : Bool) (j4 : Int) (s5 : ByteArray) : z32_v n b0 j1 s2 b3 j4 s5 =
 bif b0 then
  bif !b3 then
   some (-1, ())
  else bif b3 then
   bif !b0 then
    some (1, ())
   else bif decide (j1 < j4) then
    some (-1, ())
   else bif decide (j1 > j4) then
    some (1, ())
   else obind (z39_v n s2 s5) fun y6 =>
   some (y6.fst, ())
  else bif decide (j1 < j4) then
   some (-1, ())
  else bif decide (j1 > j4) then
   some (1, ())
  else obind (z39_v n s2 s5) fun y7 =>
  some (y7.fst, ())
 else bif b3 then
  bif !b0 then
   some (1, ())
  else bif decide (j1 < j4) then
   some (-1, ())
  else bif decide (j1 > j4) then
   some (1, ())
  else obind (z39_v n s2 s5) fun y8 =>
  some (y8.fst, ())
 else bif decide (j1 < j4) then
  some (-1, ())
 else bif decide (j1 > j4) then
  some (1, ())
 else obind (z39_v n s2 s5) fun y9 =>
 some (y9.fst, ()) := by kernel_rfl
theorem z32_c (n : Nat) (b0 : Bool) (j1 : Int) (s2 : ByteArray) (b3 : Bool) (j4 : Int) (s5 : ByteArray) (y : Int × Unit) (h : z32_v n b0 j1 s2 b3 j4 s5 = some y) : Contract Try.prog 56 [AV.agg [AV.dv (DV.val (Value.bool b0)), AV.dv (DV.val (Value.int IntKind.i64 j1)), AV.dv (DV.val (Value.string s2))], AV.agg [AV.dv (DV.val (Value.bool b3)), AV.dv (DV.val (Value.int IntKind.i64 j4)), AV.dv (DV.val (Value.string s5))]] [] (OSh.enc (OSh.plain (.i IntKind.i64) []) y) :=
 auto_okM tm_std (with_ok mixed (by kernel_rfl) (z32_σok n) n 0 [1000045, 1000059]) (with_pick mixed (by kernel_rfl) (z32_σok n) n 0 [1000045, 1000059]) mixed Try.func56 (by decide) (o := (OSh.plain (.i IntKind.i64) [])) h
def z40_lv : Live := [(8, [2, 3, 5], [2, 3, 1000, 1001, 1002, 1003])]
noncomputable def z40_σ (n : Nat) : Spec := (inst 55 [.s, .s] [] (OSh.plain (.i IntKind.i64) []) (fun x e => z39_v n x.1 x.2.1) (inst 56 [.agg [.b, .i IntKind.i64, .s], .agg [.b, .i IntKind.i64, .s]] [] (OSh.plain (.i IntKind.i64) []) (fun x e => z32_v n x.1.1 x.1.2.1 x.1.2.2.1 x.2.1.1 x.2.1.2.1 x.2.1.2.2.1) (bookH Spec.none)))
theorem z40_σok (n : Nat) : SpecOk Try.prog (z40_σ n) := (inst_ok (fun x e y h => z39_c n x.1 x.2.1 y h) (inst_ok (fun x e y h => z32_c n x.1.1 x.1.2.1 x.1.2.2.1 x.2.1.1 x.2.1.2.1 x.2.1.2.2.1 y h) (bookH_ok (SpecOk.none _))))
noncomputable def z40_Φ (n : Nat) : Orc := with_ Try.prog (z40_σ n) [] n 0 [1000045, 1000059]
noncomputable def z40_v (n : Nat) (s0 : ByteArray) (s1 : ByteArray) (s2 : ByteArray) (b3 : Bool) (r4 : Rows) (s5 : ByteArray) (s6 : ByteArray) (s7 : ByteArray) (b8 : Bool) (r9 : Rows) : Option (Int × Unit) :=
 DM.denFn tm (z40_Φ n) z40_lv n Try.f35 false [AV.agg [AV.dv (DV.val (Value.string s0)), AV.dv (DV.val (Value.string s1)), AV.dv (DV.val (Value.string s2)), AV.sl b3 [Kd.b, Kd.i IntKind.i64, Kd.s] r4 Right.no], AV.agg [AV.dv (DV.val (Value.string s5)), AV.dv (DV.val (Value.string s6)), AV.dv (DV.val (Value.string s7)), AV.sl b8 [Kd.b, Kd.i IntKind.i64, Kd.s] r9 Right.no]] [] (OSh.chk (OSh.plain (.i IntKind.i64) []))
noncomputable def z40_l8 (n : Nat) (s0 : ByteArray) (s1 : ByteArray) (s2 : ByteArray) (b3 : Bool) (r4 : Rows) (s5 : ByteArray) (s6 : ByteArray) (s7 : ByteArray) (b8 : Bool) (r9 : Rows) (i0 : Nat) (j14 : Int) : Option (Int × Unit) :=
 DM.loopFn tm (z40_Φ n) z40_lv n Try.f35 false [] (OSh.chk (OSh.plain (.i IntKind.i64) [])) 8 [] i0 (St.mk [AV.junk, AV.junk, AV.pl 2 0, AV.pl 3 0, AV.junk, AV.dv (DV.val (Value.int IntKind.i64 j14)), AV.junk, AV.junk, AV.junk, AV.junk, AV.junk, AV.junk, AV.junk, AV.junk, AV.junk, AV.junk, AV.junk, AV.junk, AV.junk, AV.junk, AV.junk, AV.junk, AV.junk, AV.junk, AV.junk, AV.junk, AV.junk, AV.junk, AV.junk, AV.junk, AV.junk, AV.junk, AV.junk, AV.junk, AV.junk, AV.junk, AV.junk, AV.junk, AV.junk, AV.junk, AV.junk, AV.junk, AV.junk, AV.junk, AV.junk, AV.junk, AV.junk, AV.junk, AV.junk, AV.junk, AV.junk, AV.junk, AV.junk, AV.junk, AV.junk, AV.junk, AV.junk, AV.junk, AV.junk, AV.junk, AV.junk, AV.junk, AV.junk, AV.junk, AV.junk, AV.junk, AV.junk, AV.junk, AV.junk, AV.junk, AV.junk, AV.junk, AV.junk, AV.junk, AV.junk, AV.junk, AV.junk, AV.junk, AV.junk] [(2, [AV.dv (DV.val (Value.string s0)), AV.dv (DV.val (Value.string s1)), AV.dv (DV.val (Value.string s2)), AV.sl b3 [Kd.b, Kd.i IntKind.i64, Kd.s] r4 Right.no]), (3, [AV.dv (DV.val (Value.string s5)), AV.dv (DV.val (Value.string s6)), AV.dv (DV.val (Value.string s7)), AV.sl b8 [Kd.b, Kd.i IntKind.i64, Kd.s] r9 Right.no])])
theorem z40_s8 (n : Nat) (s0 : ByteArray) (s1 : ByteArray) (s2 : ByteArray) (b3 : Bool) (r4 : Rows) (s5 : ByteArray) (s6 : ByteArray) (s7 : ByteArray) (b8 : Bool) (r9 : Rows) (i0 : Nat) (j14 : Int) : z40_l8 n s0 s1 s2 b3 r4 s5 s6 s7 b8 r9 (i0 + 1) j14 =
 bif decide (j14 < (↑(List.length r4) : Int)) then
  bif decide (j14 < (↑(List.length r9) : Int)) then
   if 0 ≤ j14 then
    if j14 < (↑(List.length r4) : Int) then
     if 0 ≤ j14 then
      if j14 < (↑(List.length r9) : Int) then
       obind (z32_v n (Row.B (List.getD r4 (Int.toNat j14) []) 0) (Row.I (List.getD r4 (Int.toNat j14) []) 1) (Row.S (List.getD r4 (Int.toNat j14) []) 2) (Row.B (List.getD r9 (Int.toNat j14) []) 0) (Row.I (List.getD r9 (Int.toNat j14) []) 1) (Row.S (List.getD r9 (Int.toNat j14) []) 2)) fun y15 =>
       bif y15.fst != 0 then
        some (y15.fst, ())
       else z40_l8 n s0 s1 s2 b3 r4 s5 s6 s7 b8 r9 i0 (IntKind.wrap IntKind.i64 (j14 + 1))
      else none
     else none
    else none
   else none
  else bif decide ((↑(List.length r4) : Int) < (↑(List.length r9) : Int)) then
   some (-1, ())
  else bif decide ((↑(List.length r4) : Int) > (↑(List.length r9) : Int)) then
   some (1, ())
  else some (0, ())
 else bif decide ((↑(List.length r4) : Int) < (↑(List.length r9) : Int)) then
  some (-1, ())
 else bif decide ((↑(List.length r4) : Int) > (↑(List.length r9) : Int)) then
  some (1, ())
 else some (0, ()) := by kernel_rfl
theorem z40_e (n : Nat) (s0 : ByteArray) (s1 : ByteArray) (s2 : ByteArray) (b3 : Bool) (r4 : Rows) (s5 : ByteArray) (s6 : ByteArray) (s7 : ByteArray) (b8 : Bool) (r9 : Rows) : z40_v n s0 s1 s2 b3 r4 s5 s6 s7 b8 r9 =
 bif !s0 == s5 then
  obind (z39_v n s0 s5) fun y10 =>
  some (y10.fst, ())
 else bif !s1 == s6 then
  obind (z39_v n s1 s6) fun y11 =>
  some (y11.fst, ())
 else bif !s2 == s7 then
  obind (z39_v n s2 s7) fun y12 =>
  some (y12.fst, ())
 else z40_l8 n s0 s1 s2 b3 r4 s5 s6 s7 b8 r9 n 0 := by kernel_rfl
theorem z40_c (n : Nat) (s0 : ByteArray) (s1 : ByteArray) (s2 : ByteArray) (b3 : Bool) (r4 : Rows) (s5 : ByteArray) (s6 : ByteArray) (s7 : ByteArray) (b8 : Bool) (r9 : Rows) (y : Int × Unit) (h : z40_v n s0 s1 s2 b3 r4 s5 s6 s7 b8 r9 = some y) : Contract Try.prog 35 [AV.agg [AV.dv (DV.val (Value.string s0)), AV.dv (DV.val (Value.string s1)), AV.dv (DV.val (Value.string s2)), AV.sl b3 [Kd.b, Kd.i IntKind.i64, Kd.s] r4 Right.no], AV.agg [AV.dv (DV.val (Value.string s5)), AV.dv (DV.val (Value.string s6)), AV.dv (DV.val (Value.string s7)), AV.sl b8 [Kd.b, Kd.i IntKind.i64, Kd.s] r9 Right.no]] [] (OSh.enc (OSh.plain (.i IntKind.i64) []) y) :=
 auto_okM tm_std (with_ok mixed (by kernel_rfl) (z40_σok n) n 0 [1000045, 1000059]) (with_pick mixed (by kernel_rfl) (z40_σok n) n 0 [1000045, 1000059]) mixed Try.func35 (by decide) (o := (OSh.plain (.i IntKind.i64) [])) h
def z31_lv : Live := [(7, [2, 3, 5, 6], [2, 3, 1000, 1001, 1002, 1003])]
noncomputable def z31_σ (n : Nat) : Spec := (inst 35 [.agg [.s, .s, .s, .sl [Kd.b, Kd.i IntKind.i64, Kd.s]], .agg [.s, .s, .s, .sl [Kd.b, Kd.i IntKind.i64, Kd.s]]] [] (OSh.plain (.i IntKind.i64) []) (fun x e => z40_v n x.1.1 x.1.2.1 x.1.2.2.1 x.1.2.2.2.1.1 x.1.2.2.2.1.2 x.2.1.1 x.2.1.2.1 x.2.1.2.2.1 x.2.1.2.2.2.1.1 x.2.1.2.2.2.1.2) (bookH Spec.none))
theorem z31_σok (n : Nat) : SpecOk Try.prog (z31_σ n) := (inst_ok (fun x e y h => z40_c n x.1.1 x.1.2.1 x.1.2.2.1 x.1.2.2.2.1.1 x.1.2.2.2.1.2 x.2.1.1 x.2.1.2.1 x.2.1.2.2.1 x.2.1.2.2.2.1.1 x.2.1.2.2.2.1.2 y h) (bookH_ok (SpecOk.none _)))
noncomputable def z31_Φ (n : Nat) : Orc := with_ Try.prog (z31_σ n) [] n 0 [1000045, 1000059]
noncomputable def z31_v (n : Nat) (j0 : Int) (s1 : ByteArray) (s2 : ByteArray) (s3 : ByteArray) (b4 : Bool) (r5 : Rows) (b6 : Bool) (r7 : Rows) (j8 : Int) (s9 : ByteArray) (s10 : ByteArray) (s11 : ByteArray) (b12 : Bool) (r13 : Rows) (b14 : Bool) (r15 : Rows) : Option (Int × Unit) :=
 DM.denFn tm (z31_Φ n) z31_lv n Try.f21 false [AV.agg [AV.dv (DV.val (Value.int IntKind.i64 j0)), AV.dv (DV.val (Value.string s1)), AV.dv (DV.val (Value.string s2)), AV.dv (DV.val (Value.string s3)), AV.sl b4 [Kd.b, Kd.i IntKind.i64, Kd.s] r5 Right.no, AV.sl b6 [Kd.s, Kd.s, Kd.s, Kd.sl [Kd.b, Kd.i IntKind.i64, Kd.s]] r7 Right.no], AV.agg [AV.dv (DV.val (Value.int IntKind.i64 j8)), AV.dv (DV.val (Value.string s9)), AV.dv (DV.val (Value.string s10)), AV.dv (DV.val (Value.string s11)), AV.sl b12 [Kd.b, Kd.i IntKind.i64, Kd.s] r13 Right.no, AV.sl b14 [Kd.s, Kd.s, Kd.s, Kd.sl [Kd.b, Kd.i IntKind.i64, Kd.s]] r15 Right.no]] [] (OSh.chk (OSh.plain (.i IntKind.i64) []))
noncomputable def z31_l7 (n : Nat) (j0 : Int) (s1 : ByteArray) (s2 : ByteArray) (s3 : ByteArray) (b4 : Bool) (r5 : Rows) (b6 : Bool) (r7 : Rows) (j8 : Int) (s9 : ByteArray) (s10 : ByteArray) (s11 : ByteArray) (b12 : Bool) (r13 : Rows) (b14 : Bool) (r15 : Rows) (i0 : Nat) (j17 : Int) (j19 : Int) : Option (Int × Unit) :=
 DM.loopFn tm (z31_Φ n) z31_lv n Try.f21 false [] (OSh.chk (OSh.plain (.i IntKind.i64) [])) 7 [] i0 (St.mk [AV.junk, AV.junk, AV.pl 2 0, AV.pl 3 0, AV.junk, AV.dv (DV.val (Value.int IntKind.i64 j17)), AV.dv (DV.val (Value.int IntKind.i64 j19)), AV.junk, AV.junk, AV.junk, AV.junk, AV.junk, AV.junk, AV.junk, AV.junk, AV.junk, AV.junk, AV.junk, AV.junk, AV.junk, AV.junk, AV.junk, AV.junk, AV.junk, AV.junk, AV.junk, AV.junk, AV.junk, AV.junk, AV.junk, AV.junk, AV.junk, AV.junk, AV.junk, AV.junk, AV.junk, AV.junk, AV.junk, AV.junk, AV.junk, AV.junk, AV.junk, AV.junk, AV.junk, AV.junk, AV.junk, AV.junk, AV.junk, AV.junk, AV.junk, AV.junk, AV.junk, AV.junk, AV.junk, AV.junk, AV.junk, AV.junk, AV.junk, AV.junk, AV.junk, AV.junk, AV.junk, AV.junk, AV.junk, AV.junk, AV.junk, AV.junk, AV.junk] [(2, [AV.dv (DV.val (Value.int IntKind.i64 j0)), AV.dv (DV.val (Value.string s1)), AV.dv (DV.val (Value.string s2)), AV.dv (DV.val (Value.string s3)), AV.sl b4 [Kd.b, Kd.i IntKind.i64, Kd.s] r5 Right.no, AV.sl b6 [Kd.s, Kd.s, Kd.s, Kd.sl [Kd.b, Kd.i IntKind.i64, Kd.s]] r7 Right.no]), (3, [AV.dv (DV.val (Value.int IntKind.i64 j8)), AV.dv (DV.val (Value.string s9)), AV.dv (DV.val (Value.string s10)), AV.dv (DV.val (Value.string s11)), AV.sl b12 [Kd.b, Kd.i IntKind.i64, Kd.s] r13 Right.no, AV.sl b14 [Kd.s, Kd.s, Kd.s, Kd.sl [Kd.b, Kd.i IntKind.i64, Kd.s]] r15 Right.no])])
theorem z31_s7 (n : Nat) (j0 : Int) (s1 : ByteArray) (s2 : ByteArray) (s3 : ByteArray) (b4 : Bool) (r5 : Rows) (b6 : Bool) (r7 : Rows) (j8 : Int) (s9 : ByteArray) (s10 : ByteArray) (s11 : ByteArray) (b12 : Bool) (r13 : Rows) (b14 : Bool) (r15 : Rows) (i0 : Nat) (j17 : Int) (j19 : Int) : z31_l7 n j0 s1 s2 s3 b4 r5 b6 r7 j8 s9 s10 s11 b12 r13 b14 r15 (i0 + 1) j17 j19 =
 bif j17 == 0 then
  bif decide (j19 < (↑(List.length r7) : Int)) then
   bif decide (j19 < (↑(List.length r15) : Int)) then
    if 0 ≤ j19 then
     if j19 < (↑(List.length r7) : Int) then
      if 0 ≤ j19 then
       if j19 < (↑(List.length r15) : Int) then
        obind (z40_v n (Row.S (List.getD r7 (Int.toNat j19) []) 0) (Row.S (List.getD r7 (Int.toNat j19) []) 1) (Row.S (List.getD r7 (Int.toNat j19) []) 2) (Row.N (List.getD r7 (Int.toNat j19) []) 3) (Row.R (List.getD r7 (Int.toNat j19) []) 3) (Row.S (List.getD r15 (Int.toNat j19) []) 0) (Row.S (List.getD r15 (Int.toNat j19) []) 1) (Row.S (List.getD r15 (Int.toNat j19) []) 2) (Row.N (List.getD r15 (Int.toNat j19) []) 3) (Row.R (List.getD r15 (Int.toNat j19) []) 3)) fun y20 =>
        z31_l7 n j0 s1 s2 s3 b4 r5 b6 r7 j8 s9 s10 s11 b12 r13 b14 r15 i0 y20.fst (IntKind.wrap IntKind.i64 (j19 + 1))
       else none
      else none
     else none
    else none
   else bif j17 != 0 then
    some (j17, ())
   else bif decide ((↑(List.length r7) : Int) < (↑(List.length r15) : Int)) then
    some (-1, ())
   else bif decide ((↑(List.length r7) : Int) > (↑(List.length r15) : Int)) then
    some (1, ())
   else some (0, ())
  else bif j17 != 0 then
   some (j17, ())
  else bif decide ((↑(List.length r7) : Int) < (↑(List.length r15) : Int)) then
   some (-1, ())
  else bif decide ((↑(List.length r7) : Int) > (↑(List.length r15) : Int)) then
   some (1, ())
  else some (0, ())
 else bif j17 != 0 then
  some (j17, ())
 else bif decide ((↑(List.length r7) : Int) < (↑(List.length r15) : Int)) then
  some (-1, ())
 else bif decide ((↑(List.length r7) : Int) > (↑(List.length r15) : Int)) then
  some (1, ())
 else some (0, ()) := by kernel_rfl
theorem z31_e (n : Nat) (j0 : Int) (s1 : ByteArray) (s2 : ByteArray) (s3 : ByteArray) (b4 : Bool) (r5 : Rows) (b6 : Bool) (r7 : Rows) (j8 : Int) (s9 : ByteArray) (s10 : ByteArray) (s11 : ByteArray) (b12 : Bool) (r13 : Rows) (b14 : Bool) (r15 : Rows) : z31_v n j0 s1 s2 s3 b4 r5 b6 r7 j8 s9 s10 s11 b12 r13 b14 r15 =
 bif decide (j0 < j8) then
  some (-1, ())
 else bif decide (j0 > j8) then
  some (1, ())
 else obind (z40_v n s1 s2 s3 b4 r5 s9 s10 s11 b12 r13) fun y16 =>
 z31_l7 n j0 s1 s2 s3 b4 r5 b6 r7 j8 s9 s10 s11 b12 r13 b14 r15 n y16.fst 0 := by kernel_rfl
theorem z31_c (n : Nat) (j0 : Int) (s1 : ByteArray) (s2 : ByteArray) (s3 : ByteArray) (b4 : Bool) (r5 : Rows) (b6 : Bool) (r7 : Rows) (j8 : Int) (s9 : ByteArray) (s10 : ByteArray) (s11 : ByteArray) (b12 : Bool) (r13 : Rows) (b14 : Bool) (r15 : Rows) (y : Int × Unit) (h : z31_v n j0 s1 s2 s3 b4 r5 b6 r7 j8 s9 s10 s11 b12 r13 b14 r15 = some y) : Contract Try.prog 21 [AV.agg [AV.dv (DV.val (Value.int IntKind.i64 j0)), AV.dv (DV.val (Value.string s1)), AV.dv (DV.val (Value.string s2)), AV.dv (DV.val (Value.string s3)), AV.sl b4 [Kd.b, Kd.i IntKind.i64, Kd.s] r5 Right.no, AV.sl b6 [Kd.s, Kd.s, Kd.s, Kd.sl [Kd.b, Kd.i IntKind.i64, Kd.s]] r7 Right.no], AV.agg [AV.dv (DV.val (Value.int IntKind.i64 j8)), AV.dv (DV.val (Value.string s9)), AV.dv (DV.val (Value.string s10)), AV.dv (DV.val (Value.string s11)), AV.sl b12 [Kd.b, Kd.i IntKind.i64, Kd.s] r13 Right.no, AV.sl b14 [Kd.s, Kd.s, Kd.s, Kd.sl [Kd.b, Kd.i IntKind.i64, Kd.s]] r15 Right.no]] [] (OSh.enc (OSh.plain (.i IntKind.i64) []) y) :=
 auto_okM tm_std (with_ok mixed (by kernel_rfl) (z31_σok n) n 0 [1000045, 1000059]) (with_pick mixed (by kernel_rfl) (z31_σok n) n 0 [1000045, 1000059]) mixed Try.func21 (by decide) (o := (OSh.plain (.i IntKind.i64) [])) h
def z24_lv : Live := [(2, [0, 3, 5], [3, 1000, 1001, 1002, 1003])]
noncomputable def z24_σ (n : Nat) : Spec := (inst 21 [.agg [.i IntKind.i64, .s, .s, .s, .sl [Kd.b, Kd.i IntKind.i64, Kd.s], .sl [Kd.s, Kd.s, Kd.s, Kd.sl [Kd.b, Kd.i IntKind.i64, Kd.s]]], .agg [.i IntKind.i64, .s, .s, .s, .sl [Kd.b, Kd.i IntKind.i64, Kd.s], .sl [Kd.s, Kd.s, Kd.s, Kd.sl [Kd.b, Kd.i IntKind.i64, Kd.s]]]] [] (OSh.plain (.i IntKind.i64) []) (fun x e => z31_v n x.1.1 x.1.2.1 x.1.2.2.1 x.1.2.2.2.1 x.1.2.2.2.2.1.1 x.1.2.2.2.2.1.2 x.1.2.2.2.2.2.1.1 x.1.2.2.2.2.2.1.2 x.2.1.1 x.2.1.2.1 x.2.1.2.2.1 x.2.1.2.2.2.1 x.2.1.2.2.2.2.1.1 x.2.1.2.2.2.2.1.2 x.2.1.2.2.2.2.2.1.1 x.2.1.2.2.2.2.2.1.2) (bookH Spec.none))
theorem z24_σok (n : Nat) : SpecOk Try.prog (z24_σ n) := (inst_ok (fun x e y h => z31_c n x.1.1 x.1.2.1 x.1.2.2.1 x.1.2.2.2.1 x.1.2.2.2.2.1.1 x.1.2.2.2.2.1.2 x.1.2.2.2.2.2.1.1 x.1.2.2.2.2.2.1.2 x.2.1.1 x.2.1.2.1 x.2.1.2.2.1 x.2.1.2.2.2.1 x.2.1.2.2.2.2.1.1 x.2.1.2.2.2.2.1.2 x.2.1.2.2.2.2.2.1.1 x.2.1.2.2.2.2.2.1.2 y h) (bookH_ok (SpecOk.none _)))
noncomputable def z24_Φ (n : Nat) : Orc := with_ Try.prog (z24_σ n) [] n 0 [1000045, 1000059]
noncomputable def z24_v (n : Nat) (j0 : Int) (s1 : ByteArray) (s2 : ByteArray) (s3 : ByteArray) (b4 : Bool) (r5 : Rows) (b6 : Bool) (r7 : Rows) (b8 : Bool) (r9 : Rows) : Option (Bool × ((Bool × Rows) × Unit) × Unit) :=
 DM.denFn tm (z24_Φ n) z24_lv n Try.f26 false [AV.pl 1000 0, AV.agg [AV.dv (DV.val (Value.int IntKind.i64 j0)), AV.dv (DV.val (Value.string s1)), AV.dv (DV.val (Value.string s2)), AV.dv (DV.val (Value.string s3)), AV.sl b4 [Kd.b, Kd.i IntKind.i64, Kd.s] r5 Right.no, AV.sl b6 [Kd.s, Kd.s, Kd.s, Kd.sl [Kd.b, Kd.i IntKind.i64, Kd.s]] r7 Right.no]] [[AV.sl b8 [Kd.i IntKind.i64, Kd.s, Kd.s, Kd.s, Kd.sl [Kd.b, Kd.i IntKind.i64, Kd.s], Kd.sl [Kd.s, Kd.s, Kd.s, Kd.sl [Kd.b, Kd.i IntKind.i64, Kd.s]]] r9 Right.no]] (OSh.chk (OSh.plain (.b) [[.sl [Kd.i IntKind.i64, Kd.s, Kd.s, Kd.s, Kd.sl [Kd.b, Kd.i IntKind.i64, Kd.s], Kd.sl [Kd.s, Kd.s, Kd.s, Kd.sl [Kd.b, Kd.i IntKind.i64, Kd.s]]]]]))
noncomputable def z24_l2 (n : Nat) (j0 : Int) (s1 : ByteArray) (s2 : ByteArray) (s3 : ByteArray) (b4 : Bool) (r5 : Rows) (b6 : Bool) (r7 : Rows) (b8 : Bool) (r9 : Rows) (i0 : Nat) (j13 : Int) : Option (Bool × ((Bool × Rows) × Unit) × Unit) :=
 DM.loopFn tm (z24_Φ n) z24_lv n Try.f26 false [[AV.sl b8 [Kd.i IntKind.i64, Kd.s, Kd.s, Kd.s, Kd.sl [Kd.b, Kd.i IntKind.i64, Kd.s], Kd.sl [Kd.s, Kd.s, Kd.s, Kd.sl [Kd.b, Kd.i IntKind.i64, Kd.s]]] r9 Right.no]] (OSh.chk (OSh.plain (.b) [[.sl [Kd.i IntKind.i64, Kd.s, Kd.s, Kd.s, Kd.sl [Kd.b, Kd.i IntKind.i64, Kd.s], Kd.sl [Kd.s, Kd.s, Kd.s, Kd.sl [Kd.b, Kd.i IntKind.i64, Kd.s]]]]])) 2 [] i0 (St.mk [AV.pl 1000 0, AV.junk, AV.junk, AV.pl 3 0, AV.junk, AV.dv (DV.val (Value.int IntKind.i64 j13)), AV.junk, AV.junk, AV.junk, AV.junk, AV.junk, AV.junk, AV.junk, AV.junk, AV.junk, AV.junk, AV.junk, AV.junk, AV.junk, AV.junk, AV.junk, AV.junk, AV.junk, AV.junk, AV.junk, AV.junk, AV.junk, AV.junk, AV.junk, AV.junk, AV.junk, AV.junk, AV.junk, AV.junk, AV.junk, AV.junk, AV.junk, AV.junk, AV.junk, AV.junk, AV.junk, AV.junk, AV.junk, AV.junk, AV.junk, AV.junk, AV.junk, AV.junk, AV.junk, AV.junk, AV.junk, AV.junk, AV.junk, AV.junk, AV.junk, AV.junk, AV.junk, AV.junk, AV.junk, AV.junk, AV.junk, AV.junk, AV.junk, AV.junk, AV.junk, AV.junk, AV.junk, AV.junk, AV.junk, AV.junk] [(1000, [AV.sl b8 [Kd.i IntKind.i64, Kd.s, Kd.s, Kd.s, Kd.sl [Kd.b, Kd.i IntKind.i64, Kd.s], Kd.sl [Kd.s, Kd.s, Kd.s, Kd.sl [Kd.b, Kd.i IntKind.i64, Kd.s]]] r9 Right.no]), (3, [AV.dv (DV.val (Value.int IntKind.i64 j0)), AV.dv (DV.val (Value.string s1)), AV.dv (DV.val (Value.string s2)), AV.dv (DV.val (Value.string s3)), AV.sl b4 [Kd.b, Kd.i IntKind.i64, Kd.s] r5 Right.no, AV.sl b6 [Kd.s, Kd.s, Kd.s, Kd.sl [Kd.b, Kd.i IntKind.i64, Kd.s]] r7 Right.no])])
theorem z24_s2 (n : Nat) (j0 : Int) (s1 : ByteArray) (s2 : ByteArray) (s3 : ByteArray) (b4 : Bool) (r5 : Rows) (b6 : Bool) (r7 : Rows) (b8 : Bool) (r9 : Rows) (i0 : Nat) (j13 : Int) : z24_l2 n j0 s1 s2 s3 b4 r5 b6 r7 b8 r9 (i0 + 1) j13 =
 bif decide (j13 < (↑(List.length r9) : Int)) then
  if 0 ≤ j13 then
   if j13 < (↑(List.length r9) : Int) then
    obind (z31_v n (Row.I (List.getD r9 (Int.toNat j13) []) 0) (Row.S (List.getD r9 (Int.toNat j13) []) 1) (Row.S (List.getD r9 (Int.toNat j13) []) 2) (Row.S (List.getD r9 (Int.toNat j13) []) 3) (Row.N (List.getD r9 (Int.toNat j13) []) 4) (Row.R (List.getD r9 (Int.toNat j13) []) 4) (Row.N (List.getD r9 (Int.toNat j13) []) 5) (Row.R (List.getD r9 (Int.toNat j13) []) 5) j0 s1 s2 s3 b4 r5 b6 r7) fun y14 =>
    bif decide (y14.fst < 0) then
     z24_l2 n j0 s1 s2 s3 b4 r5 b6 r7 b8 r9 i0 (IntKind.wrap IntKind.i64 (j13 + 1))
    else bif decide (j13 < (↑(List.length r9) : Int)) then
     if 0 ≤ j13 then
      if j13 < (↑(List.length r9) : Int) then
       obind (z31_v n (Row.I (List.getD r9 (Int.toNat j13) []) 0) (Row.S (List.getD r9 (Int.toNat j13) []) 1) (Row.S (List.getD r9 (Int.toNat j13) []) 2) (Row.S (List.getD r9 (Int.toNat j13) []) 3) (Row.N (List.getD r9 (Int.toNat j13) []) 4) (Row.R (List.getD r9 (Int.toNat j13) []) 4) (Row.N (List.getD r9 (Int.toNat j13) []) 5) (Row.R (List.getD r9 (Int.toNat j13) []) 5) j0 s1 s2 s3 b4 r5 b6 r7) fun y15 =>
       bif y15.fst == 0 then
        some (false, (((b8, r9), ()), ()))
       else if 0 ≤ j13 then
        if j13 ≤ (↑(List.length r9) : Int) then
         if (0 + List.length (List.drop 0 (List.take (Int.toNat j13) r9))) * 104 ≤ 140737488355328 then
          if (List.length (appX [] (List.drop 0 (List.take (Int.toNat j13) r9))) + List.length [[DV.val (Value.int IntKind.i64 j0), DV.val (Value.string s1), DV.val (Value.string s2), DV.val (Value.string s3), DV.sl b4 [Kd.b, Kd.i IntKind.i64, Kd.s] r5, DV.sl b6 [Kd.s, Kd.s, Kd.s, Kd.sl [Kd.b, Kd.i IntKind.i64, Kd.s]] r7]]) * 104 ≤ 140737488355328 then
           if 0 ≤ j13 then
            if j13 ≤ (↑(List.length r9) : Int) then
             if (↑(List.length r9) : Int) ≤ (↑(List.length r9) : Int) then
              if (List.length (appX (appX [] (List.drop 0 (List.take (Int.toNat j13) r9))) [[DV.val (Value.int IntKind.i64 j0), DV.val (Value.string s1), DV.val (Value.string s2), DV.val (Value.string s3), DV.sl b4 [Kd.b, Kd.i IntKind.i64, Kd.s] r5, DV.sl b6 [Kd.s, Kd.s, Kd.s, Kd.sl [Kd.b, Kd.i IntKind.i64, Kd.s]] r7]]) + List.length (List.drop (Int.toNat j13) (List.take (Int.toNat (↑(List.length r9) : Int)) r9))) * 104 ≤ 140737488355328 then
               some (true, (((false && List.isEmpty (List.drop 0 (List.take (Int.toNat j13) r9)) && List.isEmpty [[DV.val (Value.int IntKind.i64 j0), DV.val (Value.string s1), DV.val (Value.string s2), DV.val (Value.string s3), DV.sl b4 [Kd.b, Kd.i IntKind.i64, Kd.s] r5, DV.sl b6 [Kd.s, Kd.s, Kd.s, Kd.sl [Kd.b, Kd.i IntKind.i64, Kd.s]] r7]] && List.isEmpty (List.drop (Int.toNat j13) (List.take (Int.toNat (↑(List.length r9) : Int)) r9)), appX (appX (appX [] (List.drop 0 (List.take (Int.toNat j13) r9))) [[DV.val (Value.int IntKind.i64 j0), DV.val (Value.string s1), DV.val (Value.string s2), DV.val (Value.string s3), DV.sl b4 [Kd.b, Kd.i IntKind.i64, Kd.s] r5, DV.sl b6 [Kd.s, Kd.s, Kd.s, Kd.sl [Kd.b, Kd.i IntKind.i64, Kd.s]] r7]]) (List.drop (Int.toNat j13) (List.take (Int.toNat (↑(List.length r9) : Int)) r9))), ()), ()))
              else none
             else none
            else none
           else none
          else none
         else none
        else none
       else none
      else none
     else none
    else if 0 ≤ j13 then
     if j13 ≤ (↑(List.length r9) : Int) then
      if (0 + List.length (List.drop 0 (List.take (Int.toNat j13) r9))) * 104 ≤ 140737488355328 then
       if (List.length (appX [] (List.drop 0 (List.take (Int.toNat j13) r9))) + List.length [[DV.val (Value.int IntKind.i64 j0), DV.val (Value.string s1), DV.val (Value.string s2), DV.val (Value.string s3), DV.sl b4 [Kd.b, Kd.i IntKind.i64, Kd.s] r5, DV.sl b6 [Kd.s, Kd.s, Kd.s, Kd.sl [Kd.b, Kd.i IntKind.i64, Kd.s]] r7]]) * 104 ≤ 140737488355328 then
        if 0 ≤ j13 then
         if j13 ≤ (↑(List.length r9) : Int) then
          if (↑(List.length r9) : Int) ≤ (↑(List.length r9) : Int) then
           if (List.length (appX (appX [] (List.drop 0 (List.take (Int.toNat j13) r9))) [[DV.val (Value.int IntKind.i64 j0), DV.val (Value.string s1), DV.val (Value.string s2), DV.val (Value.string s3), DV.sl b4 [Kd.b, Kd.i IntKind.i64, Kd.s] r5, DV.sl b6 [Kd.s, Kd.s, Kd.s, Kd.sl [Kd.b, Kd.i IntKind.i64, Kd.s]] r7]]) + List.length (List.drop (Int.toNat j13) (List.take (Int.toNat (↑(List.length r9) : Int)) r9))) * 104 ≤ 140737488355328 then
            some (true, (((false && List.isEmpty (List.drop 0 (List.take (Int.toNat j13) r9)) && List.isEmpty [[DV.val (Value.int IntKind.i64 j0), DV.val (Value.string s1), DV.val (Value.string s2), DV.val (Value.string s3), DV.sl b4 [Kd.b, Kd.i IntKind.i64, Kd.s] r5, DV.sl b6 [Kd.s, Kd.s, Kd.s, Kd.sl [Kd.b, Kd.i IntKind.i64, Kd.s]] r7]] && List.isEmpty (List.drop (Int.toNat j13) (List.take (Int.toNat (↑(List.length r9) : Int)) r9)), appX (appX (appX [] (List.drop 0 (List.take (Int.toNat j13) r9))) [[DV.val (Value.int IntKind.i64 j0), DV.val (Value.string s1), DV.val (Value.string s2), DV.val (Value.string s3), DV.sl b4 [Kd.b, Kd.i IntKind.i64, Kd.s] r5, DV.sl b6 [Kd.s, Kd.s, Kd.s, Kd.sl [Kd.b, Kd.i IntKind.i64, Kd.s]] r7]]) (List.drop (Int.toNat j13) (List.take (Int.toNat (↑(List.length r9) : Int)) r9))), ()), ()))
           else none
          else none
         else none
        else none
       else none
      else none
     else none
    else none
   else none
  else none
 else bif decide (j13 < (↑(List.length r9) : Int)) then
  if 0 ≤ j13 then
   if j13 < (↑(List.length r9) : Int) then
    obind (z31_v n (Row.I (List.getD r9 (Int.toNat j13) []) 0) (Row.S (List.getD r9 (Int.toNat j13) []) 1) (Row.S (List.getD r9 (Int.toNat j13) []) 2) (Row.S (List.getD r9 (Int.toNat j13) []) 3) (Row.N (List.getD r9 (Int.toNat j13) []) 4) (Row.R (List.getD r9 (Int.toNat j13) []) 4) (Row.N (List.getD r9 (Int.toNat j13) []) 5) (Row.R (List.getD r9 (Int.toNat j13) []) 5) j0 s1 s2 s3 b4 r5 b6 r7) fun y16 =>
    bif y16.fst == 0 then
     some (false, (((b8, r9), ()), ()))
    else if 0 ≤ j13 then
     if j13 ≤ (↑(List.length r9) : Int) then
      if (0 + List.length (List.drop 0 (List.take (Int.toNat j13) r9))) * 104 ≤ 140737488355328 then
       if (List.length (appX [] (List.drop 0 (List.take (Int.toNat j13) r9))) + List.length [[DV.val (Value.int IntKind.i64 j0), DV.val (Value.string s1), DV.val (Value.string s2), DV.val (Value.string s3), DV.sl b4 [Kd.b, Kd.i IntKind.i64, Kd.s] r5, DV.sl b6 [Kd.s, Kd.s, Kd.s, Kd.sl [Kd.b, Kd.i IntKind.i64, Kd.s]] r7]]) * 104 ≤ 140737488355328 then
        if 0 ≤ j13 then
         if j13 ≤ (↑(List.length r9) : Int) then
          if (↑(List.length r9) : Int) ≤ (↑(List.length r9) : Int) then
           if (List.length (appX (appX [] (List.drop 0 (List.take (Int.toNat j13) r9))) [[DV.val (Value.int IntKind.i64 j0), DV.val (Value.string s1), DV.val (Value.string s2), DV.val (Value.string s3), DV.sl b4 [Kd.b, Kd.i IntKind.i64, Kd.s] r5, DV.sl b6 [Kd.s, Kd.s, Kd.s, Kd.sl [Kd.b, Kd.i IntKind.i64, Kd.s]] r7]]) + List.length (List.drop (Int.toNat j13) (List.take (Int.toNat (↑(List.length r9) : Int)) r9))) * 104 ≤ 140737488355328 then
            some (true, (((false && List.isEmpty (List.drop 0 (List.take (Int.toNat j13) r9)) && List.isEmpty [[DV.val (Value.int IntKind.i64 j0), DV.val (Value.string s1), DV.val (Value.string s2), DV.val (Value.string s3), DV.sl b4 [Kd.b, Kd.i IntKind.i64, Kd.s] r5, DV.sl b6 [Kd.s, Kd.s, Kd.s, Kd.sl [Kd.b, Kd.i IntKind.i64, Kd.s]] r7]] && List.isEmpty (List.drop (Int.toNat j13) (List.take (Int.toNat (↑(List.length r9) : Int)) r9)), appX (appX (appX [] (List.drop 0 (List.take (Int.toNat j13) r9))) [[DV.val (Value.int IntKind.i64 j0), DV.val (Value.string s1), DV.val (Value.string s2), DV.val (Value.string s3), DV.sl b4 [Kd.b, Kd.i IntKind.i64, Kd.s] r5, DV.sl b6 [Kd.s, Kd.s, Kd.s, Kd.sl [Kd.b, Kd.i IntKind.i64, Kd.s]] r7]]) (List.drop (Int.toNat j13) (List.take (Int.toNat (↑(List.length r9) : Int)) r9))), ()), ()))
           else none
          else none
         else none
        else none
       else none
      else none
     else none
    else none
   else none
  else none
 else if 0 ≤ j13 then
  if j13 ≤ (↑(List.length r9) : Int) then
   if (0 + List.length (List.drop 0 (List.take (Int.toNat j13) r9))) * 104 ≤ 140737488355328 then
    if (List.length (appX [] (List.drop 0 (List.take (Int.toNat j13) r9))) + List.length [[DV.val (Value.int IntKind.i64 j0), DV.val (Value.string s1), DV.val (Value.string s2), DV.val (Value.string s3), DV.sl b4 [Kd.b, Kd.i IntKind.i64, Kd.s] r5, DV.sl b6 [Kd.s, Kd.s, Kd.s, Kd.sl [Kd.b, Kd.i IntKind.i64, Kd.s]] r7]]) * 104 ≤ 140737488355328 then
     if 0 ≤ j13 then
      if j13 ≤ (↑(List.length r9) : Int) then
       if (↑(List.length r9) : Int) ≤ (↑(List.length r9) : Int) then
        if (List.length (appX (appX [] (List.drop 0 (List.take (Int.toNat j13) r9))) [[DV.val (Value.int IntKind.i64 j0), DV.val (Value.string s1), DV.val (Value.string s2), DV.val (Value.string s3), DV.sl b4 [Kd.b, Kd.i IntKind.i64, Kd.s] r5, DV.sl b6 [Kd.s, Kd.s, Kd.s, Kd.sl [Kd.b, Kd.i IntKind.i64, Kd.s]] r7]]) + List.length (List.drop (Int.toNat j13) (List.take (Int.toNat (↑(List.length r9) : Int)) r9))) * 104 ≤ 140737488355328 then
         some (true, (((false && List.isEmpty (List.drop 0 (List.take (Int.toNat j13) r9)) && List.isEmpty [[DV.val (Value.int IntKind.i64 j0), DV.val (Value.string s1), DV.val (Value.string s2), DV.val (Value.string s3), DV.sl b4 [Kd.b, Kd.i IntKind.i64, Kd.s] r5, DV.sl b6 [Kd.s, Kd.s, Kd.s, Kd.sl [Kd.b, Kd.i IntKind.i64, Kd.s]] r7]] && List.isEmpty (List.drop (Int.toNat j13) (List.take (Int.toNat (↑(List.length r9) : Int)) r9)), appX (appX (appX [] (List.drop 0 (List.take (Int.toNat j13) r9))) [[DV.val (Value.int IntKind.i64 j0), DV.val (Value.string s1), DV.val (Value.string s2), DV.val (Value.string s3), DV.sl b4 [Kd.b, Kd.i IntKind.i64, Kd.s] r5, DV.sl b6 [Kd.s, Kd.s, Kd.s, Kd.sl [Kd.b, Kd.i IntKind.i64, Kd.s]] r7]]) (List.drop (Int.toNat j13) (List.take (Int.toNat (↑(List.length r9) : Int)) r9))), ()), ()))
        else none
       else none
      else none
     else none
    else none
   else none
  else none
 else none := by kernel_rfl
theorem z24_e (n : Nat) (j0 : Int) (s1 : ByteArray) (s2 : ByteArray) (s3 : ByteArray) (b4 : Bool) (r5 : Rows) (b6 : Bool) (r7 : Rows) (b8 : Bool) (r9 : Rows) : z24_v n j0 s1 s2 s3 b4 r5 b6 r7 b8 r9 =
 z24_l2 n j0 s1 s2 s3 b4 r5 b6 r7 b8 r9 n 0 := by kernel_rfl
theorem z24_c (n : Nat) (j0 : Int) (s1 : ByteArray) (s2 : ByteArray) (s3 : ByteArray) (b4 : Bool) (r5 : Rows) (b6 : Bool) (r7 : Rows) (b8 : Bool) (r9 : Rows) (y : Bool × ((Bool × Rows) × Unit) × Unit) (h : z24_v n j0 s1 s2 s3 b4 r5 b6 r7 b8 r9 = some y) : Contract Try.prog 26 [AV.pl 1000 0, AV.agg [AV.dv (DV.val (Value.int IntKind.i64 j0)), AV.dv (DV.val (Value.string s1)), AV.dv (DV.val (Value.string s2)), AV.dv (DV.val (Value.string s3)), AV.sl b4 [Kd.b, Kd.i IntKind.i64, Kd.s] r5 Right.no, AV.sl b6 [Kd.s, Kd.s, Kd.s, Kd.sl [Kd.b, Kd.i IntKind.i64, Kd.s]] r7 Right.no]] [[AV.sl b8 [Kd.i IntKind.i64, Kd.s, Kd.s, Kd.s, Kd.sl [Kd.b, Kd.i IntKind.i64, Kd.s], Kd.sl [Kd.s, Kd.s, Kd.s, Kd.sl [Kd.b, Kd.i IntKind.i64, Kd.s]]] r9 Right.no]] (OSh.enc (OSh.plain (.b) [[.sl [Kd.i IntKind.i64, Kd.s, Kd.s, Kd.s, Kd.sl [Kd.b, Kd.i IntKind.i64, Kd.s], Kd.sl [Kd.s, Kd.s, Kd.s, Kd.sl [Kd.b, Kd.i IntKind.i64, Kd.s]]]]]) y) :=
 auto_okM tm_std (with_ok mixed (by kernel_rfl) (z24_σok n) n 0 [1000045, 1000059]) (with_pick mixed (by kernel_rfl) (z24_σok n) n 0 [1000045, 1000059]) mixed Try.func26 (by decide) (o := (OSh.plain (.b) [[.sl [Kd.i IntKind.i64, Kd.s, Kd.s, Kd.s, Kd.sl [Kd.b, Kd.i IntKind.i64, Kd.s], Kd.sl [Kd.s, Kd.s, Kd.s, Kd.sl [Kd.b, Kd.i IntKind.i64, Kd.s]]]]])) h
def z27_lv : Live := [(3, [0, 3, 5, 6], [3, 1000, 1001, 1002, 1003])]
noncomputable def z27_σ (n : Nat) : Spec := (inst 35 [.agg [.s, .s, .s, .sl [Kd.b, Kd.i IntKind.i64, Kd.s]], .agg [.s, .s, .s, .sl [Kd.b, Kd.i IntKind.i64, Kd.s]]] [] (OSh.plain (.i IntKind.i64) []) (fun x e => z40_v n x.1.1 x.1.2.1 x.1.2.2.1 x.1.2.2.2.1.1 x.1.2.2.2.1.2 x.2.1.1 x.2.1.2.1 x.2.1.2.2.1 x.2.1.2.2.2.1.1 x.2.1.2.2.2.1.2) (bookH Spec.none))
theorem z27_σok (n : Nat) : SpecOk Try.prog (z27_σ n) := (inst_ok (fun x e y h => z40_c n x.1.1 x.1.2.1 x.1.2.2.1 x.1.2.2.2.1.1 x.1.2.2.2.1.2 x.2.1.1 x.2.1.2.1 x.2.1.2.2.1 x.2.1.2.2.2.1.1 x.2.1.2.2.2.1.2 y h) (bookH_ok (SpecOk.none _)))
noncomputable def z27_Φ (n : Nat) : Orc := with_ Try.prog (z27_σ n) [] n 0 [1000045, 1000059]
noncomputable def z27_v (n : Nat) (s0 : ByteArray) (s1 : ByteArray) (s2 : ByteArray) (b3 : Bool) (r4 : Rows) (b5 : Bool) (r6 : Rows) : Option ((Bool × Rows) × ((Bool × Rows) × Unit) × Unit) :=
 DM.denFn tm (z27_Φ n) z27_lv n Try.f31 true [AV.pl 1000 0, AV.agg [AV.dv (DV.val (Value.string s0)), AV.dv (DV.val (Value.string s1)), AV.dv (DV.val (Value.string s2)), AV.sl b3 [Kd.b, Kd.i IntKind.i64, Kd.s] r4 Right.no]] [[AV.sl b5 [Kd.i IntKind.i64, Kd.s, Kd.s, Kd.s, Kd.sl [Kd.b, Kd.i IntKind.i64, Kd.s], Kd.sl [Kd.s, Kd.s, Kd.s, Kd.sl [Kd.b, Kd.i IntKind.i64, Kd.s]]] r6 Right.no]] (OSh.chk (OSh.plain (.slt [Kd.i IntKind.i64, Kd.s, Kd.s, Kd.s, Kd.sl [Kd.b, Kd.i IntKind.i64, Kd.s], Kd.sl [Kd.s, Kd.s, Kd.s, Kd.sl [Kd.b, Kd.i IntKind.i64, Kd.s]]] 0) [[.sl [Kd.i IntKind.i64, Kd.s, Kd.s, Kd.s, Kd.sl [Kd.b, Kd.i IntKind.i64, Kd.s], Kd.sl [Kd.s, Kd.s, Kd.s, Kd.sl [Kd.b, Kd.i IntKind.i64, Kd.s]]]]]))
noncomputable def z27_l3 (n : Nat) (s0 : ByteArray) (s1 : ByteArray) (s2 : ByteArray) (b3 : Bool) (r4 : Rows) (b5 : Bool) (r6 : Rows) (i0 : Nat) (b8 : Bool) (r9 : List (List DV)) (j10 : Int) : Option ((Bool × Rows) × ((Bool × Rows) × Unit) × Unit) :=
 DM.loopFn tm (z27_Φ n) z27_lv n Try.f31 true [[AV.sl b5 [Kd.i IntKind.i64, Kd.s, Kd.s, Kd.s, Kd.sl [Kd.b, Kd.i IntKind.i64, Kd.s], Kd.sl [Kd.s, Kd.s, Kd.s, Kd.sl [Kd.b, Kd.i IntKind.i64, Kd.s]]] r6 Right.no]] (OSh.chk (OSh.plain (.slt [Kd.i IntKind.i64, Kd.s, Kd.s, Kd.s, Kd.sl [Kd.b, Kd.i IntKind.i64, Kd.s], Kd.sl [Kd.s, Kd.s, Kd.s, Kd.sl [Kd.b, Kd.i IntKind.i64, Kd.s]]] 0) [[.sl [Kd.i IntKind.i64, Kd.s, Kd.s, Kd.s, Kd.sl [Kd.b, Kd.i IntKind.i64, Kd.s], Kd.sl [Kd.s, Kd.s, Kd.s, Kd.sl [Kd.b, Kd.i IntKind.i64, Kd.s]]]]])) 3 [] i0 (St.mk [AV.pl 1000 0, AV.junk, AV.junk, AV.pl 3 0, AV.junk, AV.sl b8 [Kd.i IntKind.i64, Kd.s, Kd.s, Kd.s, Kd.sl [Kd.b, Kd.i IntKind.i64, Kd.s], Kd.sl [Kd.s, Kd.s, Kd.s, Kd.sl [Kd.b, Kd.i IntKind.i64, Kd.s]]] r9 (Right.tok 5), AV.dv (DV.val (Value.int IntKind.i64 j10)), AV.junk, AV.junk, AV.junk, AV.junk, AV.junk, AV.junk, AV.junk, AV.junk, AV.junk, AV.junk, AV.junk, AV.junk, AV.junk, AV.junk, AV.junk, AV.junk, AV.junk, AV.junk, AV.junk, AV.junk, AV.junk, AV.junk, AV.junk, AV.junk, AV.junk, AV.junk, AV.junk, AV.junk, AV.junk, AV.junk, AV.junk] [(1000, [AV.sl b5 [Kd.i IntKind.i64, Kd.s, Kd.s, Kd.s, Kd.sl [Kd.b, Kd.i IntKind.i64, Kd.s], Kd.sl [Kd.s, Kd.s, Kd.s, Kd.sl [Kd.b, Kd.i IntKind.i64, Kd.s]]] r6 Right.no]), (3, [AV.dv (DV.val (Value.string s0)), AV.dv (DV.val (Value.string s1)), AV.dv (DV.val (Value.string s2)), AV.sl b3 [Kd.b, Kd.i IntKind.i64, Kd.s] r4 Right.no])])
theorem z27_s3 (n : Nat) (s0 : ByteArray) (s1 : ByteArray) (s2 : ByteArray) (b3 : Bool) (r4 : Rows) (b5 : Bool) (r6 : Rows) (i0 : Nat) (b8 : Bool) (r9 : List (List DV)) (j10 : Int) : z27_l3 n s0 s1 s2 b3 r4 b5 r6 (i0 + 1) b8 r9 j10 =
 bif decide (j10 < (↑(List.length r6) : Int)) then
  if 0 ≤ j10 then
   if j10 < (↑(List.length r6) : Int) then
    obind (z40_v n (Row.S (List.getD r6 (Int.toNat j10) []) 1) (Row.S (List.getD r6 (Int.toNat j10) []) 2) (Row.S (List.getD r6 (Int.toNat j10) []) 3) (Row.N (List.getD r6 (Int.toNat j10) []) 4) (Row.R (List.getD r6 (Int.toNat j10) []) 4) s0 s1 s2 b3 r4) fun y11 =>
    bif y11.fst == 0 then
     if 0 ≤ j10 then
      if j10 < (↑(List.length r6) : Int) then
       if (List.length r9 + List.length [[DV.val (Value.int IntKind.i64 (Row.I (List.getD r6 (Int.toNat j10) []) 0)), DV.val (Value.string (Row.S (List.getD r6 (Int.toNat j10) []) 1)), DV.val (Value.string (Row.S (List.getD r6 (Int.toNat j10) []) 2)), DV.val (Value.string (Row.S (List.getD r6 (Int.toNat j10) []) 3)), DV.sl (Row.N (List.getD r6 (Int.toNat j10) []) 4) [Kd.b, Kd.i IntKind.i64, Kd.s] (Row.R (List.getD r6 (Int.toNat j10) []) 4), DV.sl (Row.N (List.getD r6 (Int.toNat j10) []) 5) [Kd.s, Kd.s, Kd.s, Kd.sl [Kd.b, Kd.i IntKind.i64, Kd.s]] (Row.R (List.getD r6 (Int.toNat j10) []) 5)]]) * 104 ≤ 140737488355328 then
        z27_l3 n s0 s1 s2 b3 r4 b5 r6 i0 (b8 && List.isEmpty [[DV.val (Value.int IntKind.i64 (Row.I (List.getD r6 (Int.toNat j10) []) 0)), DV.val (Value.string (Row.S (List.getD r6 (Int.toNat j10) []) 1)), DV.val (Value.string (Row.S (List.getD r6 (Int.toNat j10) []) 2)), DV.val (Value.string (Row.S (List.getD r6 (Int.toNat j10) []) 3)), DV.sl (Row.N (List.getD r6 (Int.toNat j10) []) 4) [Kd.b, Kd.i IntKind.i64, Kd.s] (Row.R (List.getD r6 (Int.toNat j10) []) 4), DV.sl (Row.N (List.getD r6 (Int.toNat j10) []) 5) [Kd.s, Kd.s, Kd.s, Kd.sl [Kd.b, Kd.i IntKind.i64, Kd.s]] (Row.R (List.getD r6 (Int.toNat j10) []) 5)]]) (appX r9 [[DV.val (Value.int IntKind.i64 (Row.I (List.getD r6 (Int.toNat j10) []) 0)), DV.val (Value.string (Row.S (List.getD r6 (Int.toNat j10) []) 1)), DV.val (Value.string (Row.S (List.getD r6 (Int.toNat j10) []) 2)), DV.val (Value.string (Row.S (List.getD r6 (Int.toNat j10) []) 3)), DV.sl (Row.N (List.getD r6 (Int.toNat j10) []) 4) [Kd.b, Kd.i IntKind.i64, Kd.s] (Row.R (List.getD r6 (Int.toNat j10) []) 4), DV.sl (Row.N (List.getD r6 (Int.toNat j10) []) 5) [Kd.s, Kd.s, Kd.s, Kd.sl [Kd.b, Kd.i IntKind.i64, Kd.s]] (Row.R (List.getD r6 (Int.toNat j10) []) 5)]]) (IntKind.wrap IntKind.i64 (j10 + 1))
       else none
      else none
     else none
    else z27_l3 n s0 s1 s2 b3 r4 b5 r6 i0 b8 r9 (IntKind.wrap IntKind.i64 (j10 + 1))
   else none
  else none
 else some ((b8, r9), (((b5, r6), ()), ())) := by kernel_rfl
theorem z27_e (n : Nat) (s0 : ByteArray) (s1 : ByteArray) (s2 : ByteArray) (b3 : Bool) (r4 : Rows) (b5 : Bool) (r6 : Rows) : z27_v n s0 s1 s2 b3 r4 b5 r6 =
 z27_l3 n s0 s1 s2 b3 r4 b5 r6 n true [] 0 := by kernel_rfl
theorem z27_c (n : Nat) (s0 : ByteArray) (s1 : ByteArray) (s2 : ByteArray) (b3 : Bool) (r4 : Rows) (b5 : Bool) (r6 : Rows) (y : (Bool × Rows) × ((Bool × Rows) × Unit) × Unit) (h : z27_v n s0 s1 s2 b3 r4 b5 r6 = some y) : Contract Try.prog 31 [AV.pl 1000 0, AV.agg [AV.dv (DV.val (Value.string s0)), AV.dv (DV.val (Value.string s1)), AV.dv (DV.val (Value.string s2)), AV.sl b3 [Kd.b, Kd.i IntKind.i64, Kd.s] r4 Right.no]] [[AV.sl b5 [Kd.i IntKind.i64, Kd.s, Kd.s, Kd.s, Kd.sl [Kd.b, Kd.i IntKind.i64, Kd.s], Kd.sl [Kd.s, Kd.s, Kd.s, Kd.sl [Kd.b, Kd.i IntKind.i64, Kd.s]]] r6 Right.no]] (OSh.enc (OSh.plain (.slt [Kd.i IntKind.i64, Kd.s, Kd.s, Kd.s, Kd.sl [Kd.b, Kd.i IntKind.i64, Kd.s], Kd.sl [Kd.s, Kd.s, Kd.s, Kd.sl [Kd.b, Kd.i IntKind.i64, Kd.s]]] 0) [[.sl [Kd.i IntKind.i64, Kd.s, Kd.s, Kd.s, Kd.sl [Kd.b, Kd.i IntKind.i64, Kd.s], Kd.sl [Kd.s, Kd.s, Kd.s, Kd.sl [Kd.b, Kd.i IntKind.i64, Kd.s]]]]]) y) :=
 auto_okM tm_std (with_ok mixed (by kernel_rfl) (z27_σok n) n 0 [1000045, 1000059]) (with_pick mixed (by kernel_rfl) (z27_σok n) n 0 [1000045, 1000059]) mixed Try.func31 (by decide) (o := (OSh.plain (.slt [Kd.i IntKind.i64, Kd.s, Kd.s, Kd.s, Kd.sl [Kd.b, Kd.i IntKind.i64, Kd.s], Kd.sl [Kd.s, Kd.s, Kd.s, Kd.sl [Kd.b, Kd.i IntKind.i64, Kd.s]]] 0) [[.sl [Kd.i IntKind.i64, Kd.s, Kd.s, Kd.s, Kd.sl [Kd.b, Kd.i IntKind.i64, Kd.s], Kd.sl [Kd.s, Kd.s, Kd.s, Kd.sl [Kd.b, Kd.i IntKind.i64, Kd.s]]]]])) h
def z47_lv : Live := [(4, [0, 1, 5], [1000, 1001, 1002, 1003])]
noncomputable def z47_σ (n : Nat) : Spec := (inst 21 [.agg [.i IntKind.i64, .s, .s, .s, .sl [Kd.b, Kd.i IntKind.i64, Kd.s], .sl [Kd.s, Kd.s, Kd.s, Kd.sl [Kd.b, Kd.i IntKind.i64, Kd.s]]], .agg [.i IntKind.i64, .s, .s, .s, .sl [Kd.b, Kd.i IntKind.i64, Kd.s], .sl [Kd.s, Kd.s, Kd.s, Kd.sl [Kd.b, Kd.i IntKind.i64, Kd.s]]]] [] (OSh.plain (.i IntKind.i64) []) (fun x e => z31_v n x.1.1 x.1.2.1 x.1.2.2.1 x.1.2.2.2.1 x.1.2.2.2.2.1.1 x.1.2.2.2.2.1.2 x.1.2.2.2.2.2.1.1 x.1.2.2.2.2.2.1.2 x.2.1.1 x.2.1.2.1 x.2.1.2.2.1 x.2.1.2.2.2.1 x.2.1.2.2.2.2.1.1 x.2.1.2.2.2.2.1.2 x.2.1.2.2.2.2.2.1.1 x.2.1.2.2.2.2.2.1.2) (bookH Spec.none))
theorem z47_σok (n : Nat) : SpecOk Try.prog (z47_σ n) := (inst_ok (fun x e y h => z31_c n x.1.1 x.1.2.1 x.1.2.2.1 x.1.2.2.2.1 x.1.2.2.2.2.1.1 x.1.2.2.2.2.1.2 x.1.2.2.2.2.2.1.1 x.1.2.2.2.2.2.1.2 x.2.1.1 x.2.1.2.1 x.2.1.2.2.1 x.2.1.2.2.2.1 x.2.1.2.2.2.2.1.1 x.2.1.2.2.2.2.1.2 x.2.1.2.2.2.2.2.1.1 x.2.1.2.2.2.2.2.1.2 y h) (bookH_ok (SpecOk.none _)))
noncomputable def z47_Φ (n : Nat) : Orc := with_ Try.prog (z47_σ n) [] n 0 [1000045, 1000059]
noncomputable def z47_v (n : Nat) (b0 : Bool) (r1 : Rows) (b2 : Bool) (r3 : Rows) : Option (Bool × Unit) :=
 DM.denFn tm (z47_Φ n) z47_lv n Try.f30 false [AV.sl b0 [Kd.i IntKind.i64, Kd.s, Kd.s, Kd.s, Kd.sl [Kd.b, Kd.i IntKind.i64, Kd.s], Kd.sl [Kd.s, Kd.s, Kd.s, Kd.sl [Kd.b, Kd.i IntKind.i64, Kd.s]]] r1 Right.no, AV.sl b2 [Kd.i IntKind.i64, Kd.s, Kd.s, Kd.s, Kd.sl [Kd.b, Kd.i IntKind.i64, Kd.s], Kd.sl [Kd.s, Kd.s, Kd.s, Kd.sl [Kd.b, Kd.i IntKind.i64, Kd.s]]] r3 Right.no] [] (OSh.chk (OSh.plain (.b) []))
noncomputable def z47_l4 (n : Nat) (b0 : Bool) (r1 : Rows) (b2 : Bool) (r3 : Rows) (i0 : Nat) (j5 : Int) : Option (Bool × Unit) :=
 DM.loopFn tm (z47_Φ n) z47_lv n Try.f30 false [] (OSh.chk (OSh.plain (.b) [])) 4 [] i0 (St.mk [AV.sl b0 [Kd.i IntKind.i64, Kd.s, Kd.s, Kd.s, Kd.sl [Kd.b, Kd.i IntKind.i64, Kd.s], Kd.sl [Kd.s, Kd.s, Kd.s, Kd.sl [Kd.b, Kd.i IntKind.i64, Kd.s]]] r1 Right.no, AV.sl b2 [Kd.i IntKind.i64, Kd.s, Kd.s, Kd.s, Kd.sl [Kd.b, Kd.i IntKind.i64, Kd.s], Kd.sl [Kd.s, Kd.s, Kd.s, Kd.sl [Kd.b, Kd.i IntKind.i64, Kd.s]]] r3 Right.no, AV.junk, AV.junk, AV.junk, AV.dv (DV.val (Value.int IntKind.i64 j5)), AV.junk, AV.junk, AV.junk, AV.junk, AV.junk, AV.junk, AV.junk, AV.junk, AV.junk, AV.junk, AV.junk, AV.junk, AV.junk, AV.junk, AV.junk, AV.junk, AV.junk, AV.junk, AV.junk, AV.junk, AV.junk] [])
theorem z47_s4 (n : Nat) (b0 : Bool) (r1 : Rows) (b2 : Bool) (r3 : Rows) (i0 : Nat) (j5 : Int) : z47_l4 n b0 r1 b2 r3 (i0 + 1) j5 =
 bif decide (j5 < (↑(List.length r1) : Int)) then
  if 0 ≤ j5 then
   if j5 < (↑(List.length r1) : Int) then
    if 0 ≤ j5 then
     if j5 < (↑(List.length r3) : Int) then
      obind (z31_v n (Row.I (List.getD r1 (Int.toNat j5) []) 0) (Row.S (List.getD r1 (Int.toNat j5) []) 1) (Row.S (List.getD r1 (Int.toNat j5) []) 2) (Row.S (List.getD r1 (Int.toNat j5) []) 3) (Row.N (List.getD r1 (Int.toNat j5) []) 4) (Row.R (List.getD r1 (Int.toNat j5) []) 4) (Row.N (List.getD r1 (Int.toNat j5) []) 5) (Row.R (List.getD r1 (Int.toNat j5) []) 5) (Row.I (List.getD r3 (Int.toNat j5) []) 0) (Row.S (List.getD r3 (Int.toNat j5) []) 1) (Row.S (List.getD r3 (Int.toNat j5) []) 2) (Row.S (List.getD r3 (Int.toNat j5) []) 3) (Row.N (List.getD r3 (Int.toNat j5) []) 4) (Row.R (List.getD r3 (Int.toNat j5) []) 4) (Row.N (List.getD r3 (Int.toNat j5) []) 5) (Row.R (List.getD r3 (Int.toNat j5) []) 5)) fun y6 =>
      bif y6.fst != 0 then
       some (false, ())
      else z47_l4 n b0 r1 b2 r3 i0 (IntKind.wrap IntKind.i64 (j5 + 1))
     else none
    else none
   else none
  else none
 else some (true, ()) := by kernel_rfl
theorem z47_e (n : Nat) (b0 : Bool) (r1 : Rows) (b2 : Bool) (r3 : Rows) : z47_v n b0 r1 b2 r3 =
 bif (↑(List.length r1) : Int) != (↑(List.length r3) : Int) then
  some (false, ())
 else z47_l4 n b0 r1 b2 r3 n 0 := by kernel_rfl
theorem z47_c (n : Nat) (b0 : Bool) (r1 : Rows) (b2 : Bool) (r3 : Rows) (y : Bool × Unit) (h : z47_v n b0 r1 b2 r3 = some y) : Contract Try.prog 30 [AV.sl b0 [Kd.i IntKind.i64, Kd.s, Kd.s, Kd.s, Kd.sl [Kd.b, Kd.i IntKind.i64, Kd.s], Kd.sl [Kd.s, Kd.s, Kd.s, Kd.sl [Kd.b, Kd.i IntKind.i64, Kd.s]]] r1 Right.no, AV.sl b2 [Kd.i IntKind.i64, Kd.s, Kd.s, Kd.s, Kd.sl [Kd.b, Kd.i IntKind.i64, Kd.s], Kd.sl [Kd.s, Kd.s, Kd.s, Kd.sl [Kd.b, Kd.i IntKind.i64, Kd.s]]] r3 Right.no] [] (OSh.enc (OSh.plain (.b) []) y) :=
 auto_okM tm_std (with_ok mixed (by kernel_rfl) (z47_σok n) n 0 [1000045, 1000059]) (with_pick mixed (by kernel_rfl) (z47_σok n) n 0 [1000045, 1000059]) mixed Try.func30 (by decide) (o := (OSh.plain (.b) [])) h
def z48_lv : Live := []
noncomputable def z48_σ (n : Nat) : Spec := (inst 40 [.agg [.s, .s, .s, .sl [Kd.b, Kd.i IntKind.i64, Kd.s]], .agg [.s, .s, .s, .sl [Kd.b, Kd.i IntKind.i64, Kd.s]]] [] (OSh.plain (.i IntKind.i64) []) (fun x e => z46_v n x.1.1 x.1.2.1 x.1.2.2.1 x.1.2.2.2.1.1 x.1.2.2.2.1.2 x.2.1.1 x.2.1.2.1 x.2.1.2.2.1 x.2.1.2.2.2.1.1 x.2.1.2.2.2.1.2) (bookH Spec.none))
theorem z48_σok (n : Nat) : SpecOk Try.prog (z48_σ n) := (inst_ok (fun x e y h => z46_c n x.1.1 x.1.2.1 x.1.2.2.1 x.1.2.2.2.1.1 x.1.2.2.2.1.2 x.2.1.1 x.2.1.2.1 x.2.1.2.2.1 x.2.1.2.2.2.1.1 x.2.1.2.2.2.1.2 y h) (bookH_ok (SpecOk.none _)))
noncomputable def z48_Φ (n : Nat) : Orc := with_ Try.prog (z48_σ n) [] n 0 [1000045, 1000059]
noncomputable def z48_v (n : Nat) (s0 : ByteArray) (s1 : ByteArray) (s2 : ByteArray) (b3 : Bool) (r4 : Rows) (s5 : ByteArray) (s6 : ByteArray) (s7 : ByteArray) (b8 : Bool) (r9 : Rows) : Option (Bool × (ByteArray × ByteArray × ByteArray × (Bool × Rows) × Unit) × Unit) :=
 DM.denFn tm (z48_Φ n) z48_lv n Try.f69 false [AV.agg [AV.dv (DV.val (Value.string s0)), AV.dv (DV.val (Value.string s1)), AV.dv (DV.val (Value.string s2)), AV.sl b3 [Kd.b, Kd.i IntKind.i64, Kd.s] r4 Right.no], AV.pl 1000 0] [[AV.dv (DV.val (Value.string s5)), AV.dv (DV.val (Value.string s6)), AV.dv (DV.val (Value.string s7)), AV.sl b8 [Kd.b, Kd.i IntKind.i64, Kd.s] r9 Right.no]] (OSh.chk (OSh.plain (.b) [[.s, .s, .s, .sl [Kd.b, Kd.i IntKind.i64, Kd.s]]]))
theorem z48_e (n : Nat) (s0 : ByteArray) (s1 : ByteArray) (s2 : ByteArray) (b3 : Bool) (r4 : Rows) (s5 : ByteArray) (s6 : ByteArray) (s7 : ByteArray) (b8 : Bool) (r9 : Rows) : z48_v n s0 s1 s2 b3 r4 s5 s6 s7 b8 r9 =
 obind (z46_v n s5 s6 s7 b8 r9 s0 s1 s2 b3 r4) fun y10 =>
 some (y10.fst == 0, ((s5, (s6, (s7, ((b8, r9), ())))), ())) := by kernel_rfl
theorem z48_c (n : Nat) (s0 : ByteArray) (s1 : ByteArray) (s2 : ByteArray) (b3 : Bool) (r4 : Rows) (s5 : ByteArray) (s6 : ByteArray) (s7 : ByteArray) (b8 : Bool) (r9 : Rows) (y : Bool × (ByteArray × ByteArray × ByteArray × (Bool × Rows) × Unit) × Unit) (h : z48_v n s0 s1 s2 b3 r4 s5 s6 s7 b8 r9 = some y) : Contract Try.prog 69 [AV.agg [AV.dv (DV.val (Value.string s0)), AV.dv (DV.val (Value.string s1)), AV.dv (DV.val (Value.string s2)), AV.sl b3 [Kd.b, Kd.i IntKind.i64, Kd.s] r4 Right.no], AV.pl 1000 0] [[AV.dv (DV.val (Value.string s5)), AV.dv (DV.val (Value.string s6)), AV.dv (DV.val (Value.string s7)), AV.sl b8 [Kd.b, Kd.i IntKind.i64, Kd.s] r9 Right.no]] (OSh.enc (OSh.plain (.b) [[.s, .s, .s, .sl [Kd.b, Kd.i IntKind.i64, Kd.s]]]) y) :=
 auto_okM tm_std (with_ok mixed (by kernel_rfl) (z48_σok n) n 0 [1000045, 1000059]) (with_pick mixed (by kernel_rfl) (z48_σok n) n 0 [1000045, 1000059]) mixed Try.func69 (by decide) (o := (OSh.plain (.b) [[.s, .s, .s, .sl [Kd.b, Kd.i IntKind.i64, Kd.s]]])) h
def z9_lv : Live := [(2, [0, 1, 7, 8], [1000, 1001, 1002, 1003])]
noncomputable def z9_σ (n : Nat) : Spec := (inst 69 [.agg [.s, .s, .s, .sl [Kd.b, Kd.i IntKind.i64, Kd.s]], .pl 1000 0] [[.s, .s, .s, .sl [Kd.b, Kd.i IntKind.i64, Kd.s]]] (OSh.plain (.b) [[.s, .s, .s, .sl [Kd.b, Kd.i IntKind.i64, Kd.s]]]) (fun x e => z48_v n x.1.1 x.1.2.1 x.1.2.2.1 x.1.2.2.2.1.1 x.1.2.2.2.1.2 e.1.1 e.1.2.1 e.1.2.2.1 e.1.2.2.2.1.1 e.1.2.2.2.1.2) (bookH Spec.none))
theorem z9_σok (n : Nat) : SpecOk Try.prog (z9_σ n) := (inst_ok (fun x e y h => z48_c n x.1.1 x.1.2.1 x.1.2.2.1 x.1.2.2.2.1.1 x.1.2.2.2.1.2 e.1.1 e.1.2.1 e.1.2.2.1 e.1.2.2.2.1.1 e.1.2.2.2.1.2 y h) (bookH_ok (SpecOk.none _)))
noncomputable def z9_Φ (n : Nat) : Orc := with_ Try.prog (z9_σ n) [] n 0 [1000045, 1000059]
noncomputable def z9_v (n : Nat) (b0 : Bool) (r1 : Rows) (s2 : ByteArray) (s3 : ByteArray) (s4 : ByteArray) (b5 : Bool) (r6 : Rows) : Option (Int × (ByteArray × ByteArray × ByteArray × (Bool × Rows) × Unit) × Unit) :=
 DM.denFn tm (z9_Φ n) z9_lv n Try.f78 false [AV.sl b0 [Kd.s, Kd.s, Kd.s, Kd.sl [Kd.b, Kd.i IntKind.i64, Kd.s]] r1 Right.no, AV.fn 69 [AV.pl 1000 0]] [[AV.dv (DV.val (Value.string s2)), AV.dv (DV.val (Value.string s3)), AV.dv (DV.val (Value.string s4)), AV.sl b5 [Kd.b, Kd.i IntKind.i64, Kd.s] r6 Right.no]] (OSh.chk (OSh.plain (.i IntKind.i64) [[.s, .s, .s, .sl [Kd.b, Kd.i IntKind.i64, Kd.s]]]))
noncomputable def z9_l2 (n : Nat) (b0 : Bool) (r1 : Rows) (s2 : ByteArray) (s3 : ByteArray) (s4 : ByteArray) (b5 : Bool) (r6 : Rows) (i0 : Nat) (j8 : Int) (s9 : ByteArray) (s10 : ByteArray) (s11 : ByteArray) (b12 : Bool) (r13 : List (List DV)) : Option (Int × (ByteArray × ByteArray × ByteArray × (Bool × Rows) × Unit) × Unit) :=
 DM.loopFn tm (z9_Φ n) z9_lv n Try.f78 false [[AV.dv (DV.val (Value.string s2)), AV.dv (DV.val (Value.string s3)), AV.dv (DV.val (Value.string s4)), AV.sl b5 [Kd.b, Kd.i IntKind.i64, Kd.s] r6 Right.no]] (OSh.chk (OSh.plain (.i IntKind.i64) [[.s, .s, .s, .sl [Kd.b, Kd.i IntKind.i64, Kd.s]]])) 2 [] i0 (St.mk [AV.sl b0 [Kd.s, Kd.s, Kd.s, Kd.sl [Kd.b, Kd.i IntKind.i64, Kd.s]] r1 Right.no, AV.fn 69 [AV.pl 1000 0], AV.junk, AV.junk, AV.junk, AV.junk, AV.junk, AV.dv (DV.val (Value.int IntKind.i64 (↑(List.length r1) : Int))), AV.dv (DV.val (Value.int IntKind.i64 j8)), AV.junk, AV.junk, AV.junk, AV.junk, AV.junk, AV.junk, AV.junk, AV.junk, AV.junk, AV.junk] [(1000, [AV.dv (DV.val (Value.string s9)), AV.dv (DV.val (Value.string s10)), AV.dv (DV.val (Value.string s11)), AV.sl b12 [Kd.b, Kd.i IntKind.i64, Kd.s] r13 Right.no])])
theorem z9_s2 (n : Nat) (b0 : Bool) (r1 : Rows) (s2 : ByteArray) (s3 : ByteArray) (s4 : ByteArray) (b5 : Bool) (r6 : Rows) (i0 : Nat) (j8 : Int) (s9 : ByteArray) (s10 : ByteArray) (s11 : ByteArray) (b12 : Bool) (r13 : List (List DV)) : z9_l2 n b0 r1 s2 s3 s4 b5 r6 (i0 + 1) j8 s9 s10 s11 b12 r13 =
 bif decide (j8 < (↑(List.length r1) : Int)) then
  if 0 ≤ j8 then
   if j8 < (↑(List.length r1) : Int) then
    obind (z48_v n (Row.S (List.getD r1 (Int.toNat j8) []) 0) (Row.S (List.getD r1 (Int.toNat j8) []) 1) (Row.S (List.getD r1 (Int.toNat j8) []) 2) (Row.N (List.getD r1 (Int.toNat j8) []) 3) (Row.R (List.getD r1 (Int.toNat j8) []) 3) s9 s10 s11 b12 r13) fun y14 =>
    bif y14.fst then
     some (j8, ((y14.snd.fst.fst, (y14.snd.fst.snd.fst, (y14.snd.fst.snd.snd.fst, ((y14.snd.fst.snd.snd.snd.fst.fst, y14.snd.fst.snd.snd.snd.fst.snd), ())))), ()))
    else z9_l2 n b0 r1 s2 s3 s4 b5 r6 i0 (IntKind.wrap IntKind.i64 (j8 + 1)) y14.snd.fst.fst y14.snd.fst.snd.fst y14.snd.fst.snd.snd.fst y14.snd.fst.snd.snd.snd.fst.fst y14.snd.fst.snd.snd.snd.fst.snd
   else none
  else none
 else some (-1, ((s9, (s10, (s11, ((b12, r13), ())))), ())) := by kernel_rfl
theorem z9_e (n : Nat) (b0 : Bool) (r1 : Rows) (s2 : ByteArray) (s3 : ByteArray) (s4 : ByteArray) (b5 : Bool) (r6 : Rows) : z9_v n b0 r1 s2 s3 s4 b5 r6 =
 z9_l2 n b0 r1 s2 s3 s4 b5 r6 n 0 s2 s3 s4 b5 r6 := by kernel_rfl
theorem z9_c (n : Nat) (b0 : Bool) (r1 : Rows) (s2 : ByteArray) (s3 : ByteArray) (s4 : ByteArray) (b5 : Bool) (r6 : Rows) (y : Int × (ByteArray × ByteArray × ByteArray × (Bool × Rows) × Unit) × Unit) (h : z9_v n b0 r1 s2 s3 s4 b5 r6 = some y) : Contract Try.prog 78 [AV.sl b0 [Kd.s, Kd.s, Kd.s, Kd.sl [Kd.b, Kd.i IntKind.i64, Kd.s]] r1 Right.no, AV.fn 69 [AV.pl 1000 0]] [[AV.dv (DV.val (Value.string s2)), AV.dv (DV.val (Value.string s3)), AV.dv (DV.val (Value.string s4)), AV.sl b5 [Kd.b, Kd.i IntKind.i64, Kd.s] r6 Right.no]] (OSh.enc (OSh.plain (.i IntKind.i64) [[.s, .s, .s, .sl [Kd.b, Kd.i IntKind.i64, Kd.s]]]) y) :=
 auto_okM tm_std (with_ok mixed (by kernel_rfl) (z9_σok n) n 0 [1000045, 1000059]) (with_pick mixed (by kernel_rfl) (z9_σok n) n 0 [1000045, 1000059]) mixed Try.func78 (by decide) (o := (OSh.plain (.i IntKind.i64) [[.s, .s, .s, .sl [Kd.b, Kd.i IntKind.i64, Kd.s]]])) h
def z7_lv : Live := []
noncomputable def z7_σ (n : Nat) : Spec := (inst 78 [.sl [Kd.s, Kd.s, Kd.s, Kd.sl [Kd.b, Kd.i IntKind.i64, Kd.s]], .fn 69 [.pl 1000 0]] [[.s, .s, .s, .sl [Kd.b, Kd.i IntKind.i64, Kd.s]]] (OSh.plain (.i IntKind.i64) [[.s, .s, .s, .sl [Kd.b, Kd.i IntKind.i64, Kd.s]]]) (fun x e => z9_v n x.1.1 x.1.2 e.1.1 e.1.2.1 e.1.2.2.1 e.1.2.2.2.1.1 e.1.2.2.2.1.2) (bookH Spec.none))
theorem z7_σok (n : Nat) : SpecOk Try.prog (z7_σ n) := (inst_ok (fun x e y h => z9_c n x.1.1 x.1.2 e.1.1 e.1.2.1 e.1.2.2.1 e.1.2.2.2.1.1 e.1.2.2.2.1.2 y h) (bookH_ok (SpecOk.none _)))
noncomputable def z7_Φ (n : Nat) : Orc := with_ Try.prog (z7_σ n) [] n 0 [1000045, 1000059]
noncomputable def z7_v (n : Nat) (b0 : Bool) (r1 : Rows) (s2 : ByteArray) (s3 : ByteArray) (s4 : ByteArray) (b5 : Bool) (r6 : Rows) : Option (Bool × (ByteArray × ByteArray × ByteArray × (Bool × Rows) × Unit) × Unit) :=
 DM.denFn tm (z7_Φ n) z7_lv n Try.f68 false [AV.sl b0 [Kd.s, Kd.s, Kd.s, Kd.sl [Kd.b, Kd.i IntKind.i64, Kd.s]] r1 Right.no, AV.fn 69 [AV.pl 1000 0]] [[AV.dv (DV.val (Value.string s2)), AV.dv (DV.val (Value.string s3)), AV.dv (DV.val (Value.string s4)), AV.sl b5 [Kd.b, Kd.i IntKind.i64, Kd.s] r6 Right.no]] (OSh.chk (OSh.plain (.b) [[.s, .s, .s, .sl [Kd.b, Kd.i IntKind.i64, Kd.s]]]))
theorem z7_e (n : Nat) (b0 : Bool) (r1 : Rows) (s2 : ByteArray) (s3 : ByteArray) (s4 : ByteArray) (b5 : Bool) (r6 : Rows) : z7_v n b0 r1 s2 s3 s4 b5 r6 =
 obind (z9_v n b0 r1 s2 s3 s4 b5 r6) fun y7 =>
 some (decide (y7.fst ≥ 0), ((y7.snd.fst.fst, (y7.snd.fst.snd.fst, (y7.snd.fst.snd.snd.fst, ((y7.snd.fst.snd.snd.snd.fst.fst, y7.snd.fst.snd.snd.snd.fst.snd), ())))), ())) := by kernel_rfl
theorem z7_c (n : Nat) (b0 : Bool) (r1 : Rows) (s2 : ByteArray) (s3 : ByteArray) (s4 : ByteArray) (b5 : Bool) (r6 : Rows) (y : Bool × (ByteArray × ByteArray × ByteArray × (Bool × Rows) × Unit) × Unit) (h : z7_v n b0 r1 s2 s3 s4 b5 r6 = some y) : Contract Try.prog 68 [AV.sl b0 [Kd.s, Kd.s, Kd.s, Kd.sl [Kd.b, Kd.i IntKind.i64, Kd.s]] r1 Right.no, AV.fn 69 [AV.pl 1000 0]] [[AV.dv (DV.val (Value.string s2)), AV.dv (DV.val (Value.string s3)), AV.dv (DV.val (Value.string s4)), AV.sl b5 [Kd.b, Kd.i IntKind.i64, Kd.s] r6 Right.no]] (OSh.enc (OSh.plain (.b) [[.s, .s, .s, .sl [Kd.b, Kd.i IntKind.i64, Kd.s]]]) y) :=
 auto_okM tm_std (with_ok mixed (by kernel_rfl) (z7_σok n) n 0 [1000045, 1000059]) (with_pick mixed (by kernel_rfl) (z7_σok n) n 0 [1000045, 1000059]) mixed Try.func68 (by decide) (o := (OSh.plain (.b) [[.s, .s, .s, .sl [Kd.b, Kd.i IntKind.i64, Kd.s]]])) h
def z53_lv : Live := []
noncomputable def z53_σ (n : Nat) : Spec := (inst 68 [.sl [Kd.s, Kd.s, Kd.s, Kd.sl [Kd.b, Kd.i IntKind.i64, Kd.s]], .fn 69 [.pl 1000 0]] [[.s, .s, .s, .sl [Kd.b, Kd.i IntKind.i64, Kd.s]]] (OSh.plain (.b) [[.s, .s, .s, .sl [Kd.b, Kd.i IntKind.i64, Kd.s]]]) (fun x e => z7_v n x.1.1 x.1.2 e.1.1 e.1.2.1 e.1.2.2.1 e.1.2.2.2.1.1 e.1.2.2.2.1.2) (bookH Spec.none))
theorem z53_σok (n : Nat) : SpecOk Try.prog (z53_σ n) := (inst_ok (fun x e y h => z7_c n x.1.1 x.1.2 e.1.1 e.1.2.1 e.1.2.2.1 e.1.2.2.2.1.1 e.1.2.2.2.1.2 y h) (bookH_ok (SpecOk.none _)))
noncomputable def z53_Φ (n : Nat) : Orc := with_ Try.prog (z53_σ n) [] n 0 [1000045, 1000059]
noncomputable def z53_v (n : Nat) (b0 : Bool) (r1 : Rows) (s2 : ByteArray) (s3 : ByteArray) (s4 : ByteArray) (b5 : Bool) (r6 : Rows) : Option (Bool × Unit) :=
 DM.denFn tm (z53_Φ n) z53_lv n Try.f49 false [AV.sl b0 [Kd.s, Kd.s, Kd.s, Kd.sl [Kd.b, Kd.i IntKind.i64, Kd.s]] r1 Right.no, AV.agg [AV.dv (DV.val (Value.string s2)), AV.dv (DV.val (Value.string s3)), AV.dv (DV.val (Value.string s4)), AV.sl b5 [Kd.b, Kd.i IntKind.i64, Kd.s] r6 Right.no]] [] (OSh.chk (OSh.plain (.b) []))
theorem z53_e (n : Nat) (b0 : Bool) (r1 : Rows) (s2 : ByteArray) (s3 : ByteArray) (s4 : ByteArray) (b5 : Bool) (r6 : Rows) : z53_v n b0 r1 s2 s3 s4 b5 r6 =
 obind (z7_v n b0 r1 s2 s3 s4 b5 r6) fun y7 =>
 some (y7.fst, ()) := by kernel_rfl
theorem z53_c (n : Nat) (b0 : Bool) (r1 : Rows) (s2 : ByteArray) (s3 : ByteArray) (s4 : ByteArray) (b5 : Bool) (r6 : Rows) (y : Bool × Unit) (h : z53_v n b0 r1 s2 s3 s4 b5 r6 = some y) : Contract Try.prog 49 [AV.sl b0 [Kd.s, Kd.s, Kd.s, Kd.sl [Kd.b, Kd.i IntKind.i64, Kd.s]] r1 Right.no, AV.agg [AV.dv (DV.val (Value.string s2)), AV.dv (DV.val (Value.string s3)), AV.dv (DV.val (Value.string s4)), AV.sl b5 [Kd.b, Kd.i IntKind.i64, Kd.s] r6 Right.no]] [] (OSh.enc (OSh.plain (.b) []) y) :=
 auto_okM tm_std (with_ok mixed (by kernel_rfl) (z53_σok n) n 0 [1000045, 1000059]) (with_pick mixed (by kernel_rfl) (z53_σok n) n 0 [1000045, 1000059]) mixed Try.func49 (by decide) (o := (OSh.plain (.b) [])) h
end Go.Den
namespace Go.Den
open Go.Proofs
set_option maxRecDepth 100000
def z11_lv : Live := []
noncomputable def z11_σ (n : Nat) : Spec := (inst 49 [.sl [Kd.s, Kd.s, Kd.s, Kd.sl [Kd.b, Kd.i IntKind.i64, Kd.s]], .agg [.s, .s, .s, .sl [Kd.b, Kd.i IntKind.i64, Kd.s]]] [] (OSh.plain (.b) []) (fun x e => z53_v n x.1.1 x.1.2 x.2.1.1 x.2.1.2.1 x.2.1.2.2.1 x.2.1.2.2.2.1.1 x.2.1.2.2.2.1.2) (bookH Spec.none))
theorem z11_σok (n : Nat) : SpecOk Try.prog (z11_σ n) := (inst_ok (fun x e y h => z53_c n x.1.1 x.1.2 x.2.1.1 x.2.1.2.1 x.2.1.2.2.1 x.2.1.2.2.2.1.1 x.2.1.2.2.2.1.2 y h) (bookH_ok (SpecOk.none _)))
noncomputable def z11_Φ (n : Nat) : Orc := with_ Try.prog (z11_σ n) [] n 0 [1000045, 1000059]
noncomputable def z11_v (n : Nat) (j0 : Int) (s1 : ByteArray) (s2 : ByteArray) (s3 : ByteArray) (b4 : Bool) (r5 : Rows) (b6 : Bool) (r7 : Rows) (r8 : Row) : Option (Bool × Unit) :=
 DM.denFn tm (z11_Φ n) z11_lv n Try.f48 false [AV.agg [AV.dv (DV.val (Value.int IntKind.i64 j0)), AV.dv (DV.val (Value.string s1)), AV.dv (DV.val (Value.string s2)), AV.dv (DV.val (Value.string s3)), AV.sl b4 [Kd.b, Kd.i IntKind.i64, Kd.s] r5 Right.no, AV.sl b6 [Kd.s, Kd.s, Kd.s, Kd.sl [Kd.b, Kd.i IntKind.i64, Kd.s]] r7 Right.no], AV.pv [Kd.s, Kd.s, Kd.s, Kd.sl [Kd.b, Kd.i IntKind.i64, Kd.s]] r8 0] [] (OSh.chk (OSh.plain (.b) []))
theorem z11_e (n : Nat) (j0 : Int) (s1 : ByteArray) (s2 : ByteArray) (s3 : ByteArray) (b4 : Bool) (r5 : Rows) (b6 : Bool) (r7 : Rows) (r8 : Row) : z11_v n j0 s1 s2 s3 b4 r5 b6 r7 r8 =
 obind (z53_v n b6 r7 (Row.S r8 0) (Row.S r8 1) (Row.S r8 2) (Row.N r8 3) (Row.R r8 3)) fun y9 =>
 some (y9.fst, ()) := by kernel_rfl
theorem z11_c (n : Nat) (j0 : Int) (s1 : ByteArray) (s2 : ByteArray) (s3 : ByteArray) (b4 : Bool) (r5 : Rows) (b6 : Bool) (r7 : Rows) (r8 : Row) (y : Bool × Unit) (h : z11_v n j0 s1 s2 s3 b4 r5 b6 r7 r8 = some y) : Contract Try.prog 48 [AV.agg [AV.dv (DV.val (Value.int IntKind.i64 j0)), AV.dv (DV.val (Value.string s1)), AV.dv (DV.val (Value.string s2)), AV.dv (DV.val (Value.string s3)), AV.sl b4 [Kd.b, Kd.i IntKind.i64, Kd.s] r5 Right.no, AV.sl b6 [Kd.s, Kd.s, Kd.s, Kd.sl [Kd.b, Kd.i IntKind.i64, Kd.s]] r7 Right.no], AV.pv [Kd.s, Kd.s, Kd.s, Kd.sl [Kd.b, Kd.i IntKind.i64, Kd.s]] r8 0] [] (OSh.enc (OSh.plain (.b) []) y) :=
 auto_okM tm_std (with_ok mixed (by kernel_rfl) (z11_σok n) n 0 [1000045, 1000059]) (with_pick mixed (by kernel_rfl) (z11_σok n) n 0 [1000045, 1000059]) mixed Try.func48 (by decide) (o := (OSh.plain (.b) [])) h
def z6_lv : Live := [(5, [1, 5, 13, 14, 15], [1000, 1001, 1002, 1003])]
noncomputable def z6_σ (n : Nat) : Spec := (inst 36 [.pv [Kd.sl [Kd.i IntKind.i64, Kd.s, Kd.s, Kd.s, Kd.sl [Kd.b, Kd.i IntKind.i64, Kd.s], Kd.sl [Kd.s, Kd.s, Kd.s, Kd.sl [Kd.b, Kd.i IntKind.i64, Kd.s]]], Kd.b] 0] [] (OSh.plain (.b) []) (fun x e => z14_v n x.1) (inst 48 [.agg [.i IntKind.i64, .s, .s, .s, .sl [Kd.b, Kd.i IntKind.i64, Kd.s], .sl [Kd.s, Kd.s, Kd.s, Kd.sl [Kd.b, Kd.i IntKind.i64, Kd.s]]], .pv [Kd.s, Kd.s, Kd.s, Kd.sl [Kd.b, Kd.i IntKind.i64, Kd.s]] 0] [] (OSh.plain (.b) []) (fun x e => z11_v n x.1.1 x.1.2.1 x.1.2.2.1 x.1.2.2.2.1 x.1.2.2.2.2.1.1 x.1.2.2.2.2.1.2 x.1.2.2.2.2.2.1.1 x.1.2.2.2.2.2.1.2 x.2.1) (inst 42 [.agg [.i IntKind.i64, .s, .s, .s, .sl [Kd.b, Kd.i IntKind.i64, Kd.s], .sl [Kd.s, Kd.s, Kd.s, Kd.sl [Kd.b, Kd.i IntKind.i64, Kd.s]]]] [] (OSh.plain (.agg [.i IntKind.i64, .s, .s, .s, .sl [Kd.b, Kd.i IntKind.i64, Kd.s], .sl [Kd.s, Kd.s, Kd.s, Kd.sl [Kd.b, Kd.i IntKind.i64, Kd.s]]]) []) (fun x e => z55_v n x.1.1 x.1.2.1 x.1.2.2.1 x.1.2.2.2.1 x.1.2.2.2.2.1.1 x.1.2.2.2.2.1.2 x.1.2.2.2.2.2.1.1 x.1.2.2.2.2.2.1.2) (bookH Spec.none))))
theorem z6_σok (n : Nat) : SpecOk Try.prog (z6_σ n) := (inst_ok (fun x e y h => z14_c n x.1 y h) (inst_ok (fun x e y h => z11_c n x.1.1 x.1.2.1 x.1.2.2.1 x.1.2.2.2.1 x.1.2.2.2.2.1.1 x.1.2.2.2.2.1.2 x.1.2.2.2.2.2.1.1 x.1.2.2.2.2.2.1.2 x.2.1 y h) (inst_ok (fun x e y h => z55_c n x.1.1 x.1.2.1 x.1.2.2.1 x.1.2.2.2.1 x.1.2.2.2.2.1.1 x.1.2.2.2.2.1.2 x.1.2.2.2.2.2.1.1 x.1.2.2.2.2.2.1.2 y h) (bookH_ok (SpecOk.none _)))))
noncomputable def z6_Φ (n : Nat) : Orc := with_ Try.prog (z6_σ n) [] n 0 [5000009,  5000021, 1000045, 1000059]
noncomputable def z6_v (n : Nat) (b0 : Bool) (r1 : Rows) (b2 : Bool) (s3 : ByteArray) (s4 : ByteArray) (s5 : ByteArray) (b6 : Bool) (r7 : Rows) : Option ((Bool × Rows) × ((Bool × Rows) × Bool × Unit) × (ByteArray × ByteArray × ByteArray × (Bool × Rows) × Unit) × Unit) :=
 DM.denFn tm (z6_Φ n) z6_lv n Try.f46 true [AV.pl 1000 0, AV.fn 48 [AV.pl 1001 0]] [[AV.sl b0 [Kd.i IntKind.i64, Kd.s, Kd.s, Kd.s, Kd.sl [Kd.b, Kd.i IntKind.i64, Kd.s], Kd.sl [Kd.s, Kd.s, Kd.s, Kd.sl [Kd.b, Kd.i IntKind.i64, Kd.s]]] r1 Right.no, AV.dv (DV.val (Value.bool b2))], [AV.dv (DV.val (Value.string s3)), AV.dv (DV.val (Value.string s4)), AV.dv (DV.val (Value.string s5)), AV.sl b6 [Kd.b, Kd.i IntKind.i64, Kd.s] r7 Right.no]] (OSh.chk (OSh.plain (.slt [Kd.i IntKind.i64, Kd.s, Kd.s, Kd.s, Kd.sl [Kd.b, Kd.i IntKind.i64, Kd.s], Kd.sl [Kd.s, Kd.s, Kd.s, Kd.sl [Kd.b, Kd.i IntKind.i64, Kd.s]]] 0) [[.sl [Kd.i IntKind.i64, Kd.s, Kd.s, Kd.s, Kd.sl [Kd.b, Kd.i IntKind.i64, Kd.s], Kd.sl [Kd.s, Kd.s, Kd.s, Kd.sl [Kd.b, Kd.i IntKind.i64, Kd.s]]], .b], [.s, .s, .s, .sl [Kd.b, Kd.i IntKind.i64, Kd.s]]]))
noncomputable def z6_l5 (n : Nat) (b0 : Bool) (r1 : Rows) (b2 : Bool) (s3 : ByteArray) (s4 : ByteArray) (s5 : ByteArray) (b6 : Bool) (r7 : Rows) (i0 : Nat) (b11 : Bool) (r12 : List (List DV)) (j13 : Int) : Option ((Bool × Rows) × ((Bool × Rows) × Bool × Unit) × (ByteArray × ByteArray × ByteArray × (Bool × Rows) × Unit) × Unit) :=
 DM.loopFn tm (z6_Φ n) z6_lv n Try.f46 true [[AV.sl b0 [Kd.i IntKind.i64, Kd.s, Kd.s, Kd.s, Kd.sl [Kd.b, Kd.i IntKind.i64, Kd.s], Kd.sl [Kd.s, Kd.s, Kd.s, Kd.sl [Kd.b, Kd.i IntKind.i64, Kd.s]]] r1 Right.no, AV.dv (DV.val (Value.bool b2))], [AV.dv (DV.val (Value.string s3)), AV.dv (DV.val (Value.string s4)), AV.dv (DV.val (Value.string s5)), AV.sl b6 [Kd.b, Kd.i IntKind.i64, Kd.s] r7 Right.no]] (OSh.chk (OSh.plain (.slt [Kd.i IntKind.i64, Kd.s, Kd.s, Kd.s, Kd.sl [Kd.b, Kd.i IntKind.i64, Kd.s], Kd.sl [Kd.s, Kd.s, Kd.s, Kd.sl [Kd.b, Kd.i IntKind.i64, Kd.s]]] 0) [[.sl [Kd.i IntKind.i64, Kd.s, Kd.s, Kd.s, Kd.sl [Kd.b, Kd.i IntKind.i64, Kd.s], Kd.sl [Kd.s, Kd.s, Kd.s, Kd.sl [Kd.b, Kd.i IntKind.i64, Kd.s]]], .b], [.s, .s, .s, .sl [Kd.b, Kd.i IntKind.i64, Kd.s]]])) 5 [] i0 (St.mk [AV.junk, AV.fn 48 [AV.pl 1001 0], AV.junk, AV.junk, AV.junk, AV.sl b11 [Kd.i IntKind.i64, Kd.s, Kd.s, Kd.s, Kd.sl [Kd.b, Kd.i IntKind.i64, Kd.s], Kd.sl [Kd.s, Kd.s, Kd.s, Kd.sl [Kd.b, Kd.i IntKind.i64, Kd.s]]] r12 (Right.tok 5), AV.junk, AV.junk, AV.junk, AV.junk, AV.junk, AV.junk, AV.junk, AV.sl b0 [Kd.i IntKind.i64, Kd.s, Kd.s, Kd.s, Kd.sl [Kd.b, Kd.i IntKind.i64, Kd.s], Kd.sl [Kd.s, Kd.s, Kd.s, Kd.sl [Kd.b, Kd.i IntKind.i64, Kd.s]]] r1 Right.no, AV.dv (DV.val (Value.int IntKind.i64 (↑(List.length r1) : Int))), AV.dv (DV.val (Value.int IntKind.i64 j13)), AV.junk, AV.junk, AV.junk, AV.junk, AV.junk, AV.junk, AV.junk, AV.junk, AV.junk, AV.junk, AV.junk, AV.junk, AV.junk] [(1000, [AV.sl b0 [Kd.i IntKind.i64, Kd.s, Kd.s, Kd.s, Kd.sl [Kd.b, Kd.i IntKind.i64, Kd.s], Kd.sl [Kd.s, Kd.s, Kd.s, Kd.sl [Kd.b, Kd.i IntKind.i64, Kd.s]]] r1 Right.no, AV.dv (DV.val (Value.bool b2))]), (1001, [AV.dv (DV.val (Value.string s3)), AV.dv (DV.val (Value.string s4)), AV.dv (DV.val (Value.string s5)), AV.sl b6 [Kd.b, Kd.i IntKind.i64, Kd.s] r7 Right.no])])
theorem z6_s5 (n : Nat) (b0 : Bool) (r1 : Rows) (b2 : Bool) (s3 : ByteArray) (s4 : ByteArray) (s5 : ByteArray) (b6 : Bool) (r7 : Rows) (i0 : Nat) (b11 : Bool) (r12 : List (List DV)) (j13 : Int) : z6_l5 n b0 r1 b2 s3 s4 s5 b6 r7 (i0 + 1) b11 r12 j13 =
 bif decide (j13 < (↑(List.length r1) : Int)) then
  if 0 ≤ j13 then
   if j13 < (↑(List.length r1) : Int) then
    obind (z11_v n (Row.I (List.getD r1 (Int.toNat j13) []) 0) (Row.S (List.getD r1 (Int.toNat j13) []) 1) (Row.S (List.getD r1 (Int.toNat j13) []) 2) (Row.S (List.getD r1 (Int.toNat j13) []) 3) (Row.N (List.getD r1 (Int.toNat j13) []) 4) (Row.R (List.getD r1 (Int.toNat j13) []) 4) (Row.N (List.getD r1 (Int.toNat j13) []) 5) (Row.R (List.getD r1 (Int.toNat j13) []) 5) ([DV.val (Value.string s3), DV.val (Value.string s4), DV.val (Value.string s5), DV.sl b6 [Kd.b, Kd.i IntKind.i64, Kd.s] r7])) fun y14 =>
    bif y14.fst then
     obind (z55_v n (Row.I (List.getD r1 (Int.toNat j13) []) 0) (Row.S (List.getD r1 (Int.toNat j13) []) 1) (Row.S (List.getD r1 (Int.toNat j13) []) 2) (Row.S (List.getD r1 (Int.toNat j13) []) 3) (Row.N (List.getD r1 (Int.toNat j13) []) 4) (Row.R (List.getD r1 (Int.toNat j13) []) 4) (Row.N (List.getD r1 (Int.toNat j13) []) 5) (Row.R (List.getD r1 (Int.toNat j13) []) 5)) fun y15 =>
     if (List.length r12 + List.length [[DV.val (Value.int IntKind.i64 y15.fst.fst), DV.val (Value.string y15.fst.snd.fst), DV.val (Value.string y15.fst.snd.snd.fst), DV.val (Value.string y15.fst.snd.snd.snd.fst), DV.sl y15.fst.snd.snd.snd.snd.fst.fst [Kd.b, Kd.i IntKind.i64, Kd.s] y15.fst.snd.snd.snd.snd.fst.snd, DV.sl y15.fst.snd.snd.snd.snd.snd.fst.fst [Kd.s, Kd.s, Kd.s, Kd.sl [Kd.b, Kd.i IntKind.i64, Kd.s]] y15.fst.snd.snd.snd.snd.snd.fst.snd]]) * 104 ≤ 140737488355328 then
      z6_l5 n b0 r1 b2 s3 s4 s5 b6 r7 i0 (b11 && List.isEmpty [[DV.val (Value.int IntKind.i64 y15.fst.fst), DV.val (Value.string y15.fst.snd.fst), DV.val (Value.string y15.fst.snd.snd.fst), DV.val (Value.string y15.fst.snd.snd.snd.fst), DV.sl y15.fst.snd.snd.snd.snd.fst.fst [Kd.b, Kd.i IntKind.i64, Kd.s] y15.fst.snd.snd.snd.snd.fst.snd, DV.sl y15.fst.snd.snd.snd.snd.snd.fst.fst [Kd.s, Kd.s, Kd.s, Kd.sl [Kd.b, Kd.i IntKind.i64, Kd.s]] y15.fst.snd.snd.snd.snd.snd.fst.snd]]) (appX r12 [[DV.val (Value.int IntKind.i64 y15.fst.fst), DV.val (Value.string y15.fst.snd.fst), DV.val (Value.string y15.fst.snd.snd.fst), DV.val (Value.string y15.fst.snd.snd.snd.fst), DV.sl y15.fst.snd.snd.snd.snd.fst.fst [Kd.b, Kd.i IntKind.i64, Kd.s] y15.fst.snd.snd.snd.snd.fst.snd, DV.sl y15.fst.snd.snd.snd.snd.snd.fst.fst [Kd.s, Kd.s, Kd.s, Kd.sl [Kd.b, Kd.i IntKind.i64, Kd.s]] y15.fst.snd.snd.snd.snd.snd.fst.snd]]) (IntKind.wrap IntKind.i64 (j13 + 1))
     else none
    else z6_l5 n b0 r1 b2 s3 s4 s5 b6 r7 i0 b11 r12 (IntKind.wrap IntKind.i64 (j13 + 1))
   else none
  else none
 else some ((b11, r12), (((b0, r1), (b2, ())), ((s3, (s4, (s5, ((b6, r7), ())))), ()))) := by kernel_rfl
theorem z6_e (n : Nat) (b0 : Bool) (r1 : Rows) (b2 : Bool) (s3 : ByteArray) (s4 : ByteArray) (s5 : ByteArray) (b6 : Bool) (r7 : Rows) : z6_v n b0 r1 b2 s3 s4 s5 b6 r7 =
 obind (z14_v n ([DV.sl b0 [Kd.i IntKind.i64, Kd.s, Kd.s, Kd.s, Kd.sl [Kd.b, Kd.i IntKind.i64, Kd.s], Kd.sl [Kd.s, Kd.s, Kd.s, Kd.sl [Kd.b, Kd.i IntKind.i64, Kd.s]]] r1, DV.val (Value.bool b2)])) fun y8 =>
 bif y8.fst then
  some ((true, []), (((b0, r1), (b2, ())), ((s3, (s4, (s5, ((b6, r7), ())))), ())))
 else z6_l5 n b0 r1 b2 s3 s4 s5 b6 r7 n true [] 0 := by kernel_rfl
theorem z6_c (n : Nat) (b0 : Bool) (r1 : Rows) (b2 : Bool) (s3 : ByteArray) (s4 : ByteArray) (s5 : ByteArray) (b6 : Bool) (r7 : Rows) (y : (Bool × Rows) × ((Bool × Rows) × Bool × Unit) × (ByteArray × ByteArray × ByteArray × (Bool × Rows) × Unit) × Unit) (h : z6_v n b0 r1 b2 s3 s4 s5 b6 r7 = some y) : Contract Try.prog 46 [AV.pl 1000 0, AV.fn 48 [AV.pl 1001 0]] [[AV.sl b0 [Kd.i IntKind.i64, Kd.s, Kd.s, Kd.s, Kd.sl [Kd.b, Kd.i IntKind.i64, Kd.s], Kd.sl [Kd.s, Kd.s, Kd.s, Kd.sl [Kd.b, Kd.i IntKind.i64, Kd.s]]] r1 Right.no, AV.dv (DV.val (Value.bool b2))], [AV.dv (DV.val (Value.string s3)), AV.dv (DV.val (Value.string s4)), AV.dv (DV.val (Value.string s5)), AV.sl b6 [Kd.b, Kd.i IntKind.i64, Kd.s] r7 Right.no]] (OSh.enc (OSh.plain (.slt [Kd.i IntKind.i64, Kd.s, Kd.s, Kd.s, Kd.sl [Kd.b, Kd.i IntKind.i64, Kd.s], Kd.sl [Kd.s, Kd.s, Kd.s, Kd.sl [Kd.b, Kd.i IntKind.i64, Kd.s]]] 0) [[.sl [Kd.i IntKind.i64, Kd.s, Kd.s, Kd.s, Kd.sl [Kd.b, Kd.i IntKind.i64, Kd.s], Kd.sl [Kd.s, Kd.s, Kd.s, Kd.sl [Kd.b, Kd.i IntKind.i64, Kd.s]]], .b], [.s, .s, .s, .sl [Kd.b, Kd.i IntKind.i64, Kd.s]]]) y) :=
 auto_okM tm_std (with_ok mixed (by kernel_rfl) (z6_σok n) n 0 [5000009,  5000021, 1000045, 1000059]) (with_pick mixed (by kernel_rfl) (z6_σok n) n 0 [5000009,  5000021, 1000045, 1000059]) mixed Try.func46 (by decide) (o := (OSh.plain (.slt [Kd.i IntKind.i64, Kd.s, Kd.s, Kd.s, Kd.sl [Kd.b, Kd.i IntKind.i64, Kd.s], Kd.sl [Kd.s, Kd.s, Kd.s, Kd.sl [Kd.b, Kd.i IntKind.i64, Kd.s]]] 0) [[.sl [Kd.i IntKind.i64, Kd.s, Kd.s, Kd.s, Kd.sl [Kd.b, Kd.i IntKind.i64, Kd.s], Kd.sl [Kd.s, Kd.s, Kd.s, Kd.sl [Kd.b, Kd.i IntKind.i64, Kd.s]]], .b], [.s, .s, .s, .sl [Kd.b, Kd.i IntKind.i64, Kd.s]]])) h
def z25_lv : Live := []
noncomputable def z25_σ (n : Nat) : Spec := (inst 46 [.pl 1000 0, .fn 48 [.pl 1001 0]] [[.sl [Kd.i IntKind.i64, Kd.s, Kd.s, Kd.s, Kd.sl [Kd.b, Kd.i IntKind.i64, Kd.s], Kd.sl [Kd.s, Kd.s, Kd.s, Kd.sl [Kd.b, Kd.i IntKind.i64, Kd.s]]], .b], [.s, .s, .s, .sl [Kd.b, Kd.i IntKind.i64, Kd.s]]] (OSh.plain (.slt [Kd.i IntKind.i64, Kd.s, Kd.s, Kd.s, Kd.sl [Kd.b, Kd.i IntKind.i64, Kd.s], Kd.sl [Kd.s, Kd.s, Kd.s, Kd.sl [Kd.b, Kd.i IntKind.i64, Kd.s]]] 0) [[.sl [Kd.i IntKind.i64, Kd.s, Kd.s, Kd.s, Kd.sl [Kd.b, Kd.i IntKind.i64, Kd.s], Kd.sl [Kd.s, Kd.s, Kd.s, Kd.sl [Kd.b, Kd.i IntKind.i64, Kd.s]]], .b], [.s, .s, .s, .sl [Kd.b, Kd.i IntKind.i64, Kd.s]]]) (fun x e => z6_v n e.1.1.1 e.1.1.2 e.1.2.1 e.2.1.1 e.2.1.2.1 e.2.1.2.2.1 e.2.1.2.2.2.1.1 e.2.1.2.2.2.1.2) (bookH Spec.none))
theorem z25_σok (n : Nat) : SpecOk Try.prog (z25_σ n) := (inst_ok (fun x e y h => z6_c n e.1.1.1 e.1.1.2 e.1.2.1 e.2.1.1 e.2.1.2.1 e.2.1.2.2.1 e.2.1.2.2.2.1.1 e.2.1.2.2.2.1.2 y h) (bookH_ok (SpecOk.none _)))
noncomputable def z25_Φ (n : Nat) : Orc := with_ Try.prog (z25_σ n) [] n 0 [1000045, 1000059]
noncomputable def z25_v (n : Nat) (s0 : ByteArray) (s1 : ByteArray) (s2 : ByteArray) (b3 : Bool) (r4 : Rows) (b5 : Bool) (r6 : Rows) (b7 : Bool) : Option ((Bool × Rows) × ((Bool × Rows) × Bool × Unit) × Unit) :=
 DM.denFn tm (z25_Φ n) z25_lv n Try.f20 true [AV.pl 1000 0, AV.agg [AV.dv (DV.val (Value.string s0)), AV.dv (DV.val (Value.string s1)), AV.dv (DV.val (Value.string s2)), AV.sl b3 [Kd.b, Kd.i IntKind.i64, Kd.s] r4 Right.no]] [[AV.sl b5 [Kd.i IntKind.i64, Kd.s, Kd.s, Kd.s, Kd.sl [Kd.b, Kd.i IntKind.i64, Kd.s], Kd.sl [Kd.s, Kd.s, Kd.s, Kd.sl [Kd.b, Kd.i IntKind.i64, Kd.s]]] r6 Right.no, AV.dv (DV.val (Value.bool b7))]] (OSh.chk (OSh.plain (.slt [Kd.i IntKind.i64, Kd.s, Kd.s, Kd.s, Kd.sl [Kd.b, Kd.i IntKind.i64, Kd.s], Kd.sl [Kd.s, Kd.s, Kd.s, Kd.sl [Kd.b, Kd.i IntKind.i64, Kd.s]]] 0) [[.sl [Kd.i IntKind.i64, Kd.s, Kd.s, Kd.s, Kd.sl [Kd.b, Kd.i IntKind.i64, Kd.s], Kd.sl [Kd.s, Kd.s, Kd.s, Kd.sl [Kd.b, Kd.i IntKind.i64, Kd.s]]], .b]]))
theorem z25_e (n : Nat) (s0 : ByteArray) (s1 : ByteArray) (s2 : ByteArray) (b3 : Bool) (r4 : Rows) (b5 : Bool) (r6 : Rows) (b7 : Bool) : z25_v n s0 s1 s2 b3 r4 b5 r6 b7 =
 obind (z6_v n b5 r6 b7 s0 s1 s2 b3 r4) fun y8 =>
 some ((y8.fst.fst, y8.fst.snd), (((y8.snd.fst.fst.fst, y8.snd.fst.fst.snd), (y8.snd.fst.snd.fst, ())), ())) := by kernel_rfl
theorem z25_c (n : Nat) (s0 : ByteArray) (s1 : ByteArray) (s2 : ByteArray) (b3 : Bool) (r4 : Rows) (b5 : Bool) (r6 : Rows) (b7 : Bool) (y : (Bool × Rows) × ((Bool × Rows) × Bool × Unit) × Unit) (h : z25_v n s0 s1 s2 b3 r4 b5 r6 b7 = some y) : Contract Try.prog 20 [AV.pl 1000 0, AV.agg [AV.dv (DV.val (Value.string s0)), AV.dv (DV.val (Value.string s1)), AV.dv (DV.val (Value.string s2)), AV.sl b3 [Kd.b, Kd.i IntKind.i64, Kd.s] r4 Right.no]] [[AV.sl b5 [Kd.i IntKind.i64, Kd.s, Kd.s, Kd.s, Kd.sl [Kd.b, Kd.i IntKind.i64, Kd.s], Kd.sl [Kd.s, Kd.s, Kd.s, Kd.sl [Kd.b, Kd.i IntKind.i64, Kd.s]]] r6 Right.no, AV.dv (DV.val (Value.bool b7))]] (OSh.enc (OSh.plain (.slt [Kd.i IntKind.i64, Kd.s, Kd.s, Kd.s, Kd.sl [Kd.b, Kd.i IntKind.i64, Kd.s], Kd.sl [Kd.s, Kd.s, Kd.s, Kd.sl [Kd.b, Kd.i IntKind.i64, Kd.s]]] 0) [[.sl [Kd.i IntKind.i64, Kd.s, Kd.s, Kd.s, Kd.sl [Kd.b, Kd.i IntKind.i64, Kd.s], Kd.sl [Kd.s, Kd.s, Kd.s, Kd.sl [Kd.b, Kd.i IntKind.i64, Kd.s]]], .b]]) y) :=
 auto_okM tm_std (with_ok mixed (by kernel_rfl) (z25_σok n) n 0 [1000045, 1000059]) (with_pick mixed (by kernel_rfl) (z25_σok n) n 0 [1000045, 1000059]) mixed Try.func20 (by decide) (o := (OSh.plain (.slt [Kd.i IntKind.i64, Kd.s, Kd.s, Kd.s, Kd.sl [Kd.b, Kd.i IntKind.i64, Kd.s], Kd.sl [Kd.s, Kd.s, Kd.s, Kd.sl [Kd.b, Kd.i IntKind.i64, Kd.s]]] 0) [[.sl [Kd.i IntKind.i64, Kd.s, Kd.s, Kd.s, Kd.sl [Kd.b, Kd.i IntKind.i64, Kd.s], Kd.sl [Kd.s, Kd.s, Kd.s, Kd.sl [Kd.b, Kd.i IntKind.i64, Kd.s]]], .b]])) h
def z51_lv : Live := [(2, [0, 3, 5], [3, 1000, 1001, 1002, 1003])]
noncomputable def z51_σ (n : Nat) : Spec := (inst 35 [.agg [.s, .s, .s, .sl [Kd.b, Kd.i IntKind.i64, Kd.s]], .agg [.s, .s, .s, .sl [Kd.b, Kd.i IntKind.i64, Kd.s]]] [] (OSh.plain (.i IntKind.i64) []) (fun x e => z40_v n x.1.1 x.1.2.1 x.1.2.2.1 x.1.2.2.2.1.1 x.1.2.2.2.1.2 x.2.1.1 x.2.1.2.1 x.2.1.2.2.1 x.2.1.2.2.2.1.1 x.2.1.2.2.2.1.2) (bookH Spec.none))
theorem z51_σok (n : Nat) : SpecOk Try.prog (z51_σ n) := (inst_ok (fun x e y h => z40_c n x.1.1 x.1.2.1 x.1.2.2.1 x.1.2.2.2.1.1 x.1.2.2.2.1.2 x.2.1.1 x.2.1.2.1 x.2.1.2.2.1 x.2.1.2.2.2.1.1 x.2.1.2.2.2.1.2 y h) (bookH_ok (SpecOk.none _)))
noncomputable def z51_Φ (n : Nat) : Orc := with_ Try.prog (z51_σ n) [] n 0 [1000045, 1000059]
noncomputable def z51_v (n : Nat) (b0 : Bool) (r1 : Rows) (s2 : ByteArray) (s3 : ByteArray) (s4 : ByteArray) (b5 : Bool) (r6 : Rows) : Option (Bool × Unit) :=
 DM.denFn tm (z51_Φ n) z51_lv n Try.f16 false [AV.sl b0 [Kd.s, Kd.s, Kd.s, Kd.sl [Kd.b, Kd.i IntKind.i64, Kd.s]] r1 Right.no, AV.agg [AV.dv (DV.val (Value.string s2)), AV.dv (DV.val (Value.string s3)), AV.dv (DV.val (Value.string s4)), AV.sl b5 [Kd.b, Kd.i IntKind.i64, Kd.s] r6 Right.no]] [] (OSh.chk (OSh.plain (.b) []))
noncomputable def z51_l2 (n : Nat) (b0 : Bool) (r1 : Rows) (s2 : ByteArray) (s3 : ByteArray) (s4 : ByteArray) (b5 : Bool) (r6 : Rows) (i0 : Nat) (j8 : Int) : Option (Bool × Unit) :=
 DM.loopFn tm (z51_Φ n) z51_lv n Try.f16 false [] (OSh.chk (OSh.plain (.b) [])) 2 [] i0 (St.mk [AV.sl b0 [Kd.s, Kd.s, Kd.s, Kd.sl [Kd.b, Kd.i IntKind.i64, Kd.s]] r1 Right.no, AV.junk, AV.junk, AV.pl 3 0, AV.junk, AV.dv (DV.val (Value.int IntKind.i64 j8)), AV.junk, AV.junk, AV.junk, AV.junk, AV.junk, AV.junk, AV.junk, AV.junk, AV.junk, AV.junk, AV.junk, AV.junk, AV.junk] [(3, [AV.dv (DV.val (Value.string s2)), AV.dv (DV.val (Value.string s3)), AV.dv (DV.val (Value.string s4)), AV.sl b5 [Kd.b, Kd.i IntKind.i64, Kd.s] r6 Right.no])])
theorem z51_s2 (n : Nat) (b0 : Bool) (r1 : Rows) (s2 : ByteArray) (s3 : ByteArray) (s4 : ByteArray) (b5 : Bool) (r6 : Rows) (i0 : Nat) (j8 : Int) : z51_l2 n b0 r1 s2 s3 s4 b5 r6 (i0 + 1) j8 =
 bif decide (j8 < (↑(List.length r1) : Int)) then
  if 0 ≤ j8 then
   if j8 < (↑(List.length r1) : Int) then
    obind (z40_v n (Row.S (List.getD r1 (Int.toNat j8) []) 0) (Row.S (List.getD r1 (Int.toNat j8) []) 1) (Row.S (List.getD r1 (Int.toNat j8) []) 2) (Row.N (List.getD r1 (Int.toNat j8) []) 3) (Row.R (List.getD r1 (Int.toNat j8) []) 3) s2 s3 s4 b5 r6) fun y9 =>
    bif y9.fst == 0 then
     some (true, ())
    else z51_l2 n b0 r1 s2 s3 s4 b5 r6 i0 (IntKind.wrap IntKind.i64 (j8 + 1))
   else none
  else none
 else some (false, ()) := by kernel_rfl
theorem z51_e (n : Nat) (b0 : Bool) (r1 : Rows) (s2 : ByteArray) (s3 : ByteArray) (s4 : ByteArray) (b5 : Bool) (r6 : Rows) : z51_v n b0 r1 s2 s3 s4 b5 r6 =
 z51_l2 n b0 r1 s2 s3 s4 b5 r6 n 0 := by kernel_rfl
theorem z51_c (n : Nat) (b0 : Bool) (r1 : Rows) (s2 : ByteArray) (s3 : ByteArray) (s4 : ByteArray) (b5 : Bool) (r6 : Rows) (y : Bool × Unit) (h : z51_v n b0 r1 s2 s3 s4 b5 r6 = some y) : Contract Try.prog 16 [AV.sl b0 [Kd.s, Kd.s, Kd.s, Kd.sl [Kd.b, Kd.i IntKind.i64, Kd.s]] r1 Right.no, AV.agg [AV.dv (DV.val (Value.string s2)), AV.dv (DV.val (Value.string s3)), AV.dv (DV.val (Value.string s4)), AV.sl b5 [Kd.b, Kd.i IntKind.i64, Kd.s] r6 Right.no]] [] (OSh.enc (OSh.plain (.b) []) y) :=
 auto_okM tm_std (with_ok mixed (by kernel_rfl) (z51_σok n) n 0 [1000045, 1000059]) (with_pick mixed (by kernel_rfl) (z51_σok n) n 0 [1000045, 1000059]) mixed Try.func16 (by decide) (o := (OSh.plain (.b) [])) h
def z19_lv : Live := [(3, [0, 3, 5, 6], [3, 1000, 1001, 1002, 1003])]
noncomputable def z19_σ (n : Nat) : Spec := (inst 16 [.sl [Kd.s, Kd.s, Kd.s, Kd.sl [Kd.b, Kd.i IntKind.i64, Kd.s]], .agg [.s, .s, .s, .sl [Kd.b, Kd.i IntKind.i64, Kd.s]]] [] (OSh.plain (.b) []) (fun x e => z51_v n x.1.1 x.1.2 x.2.1.1 x.2.1.2.1 x.2.1.2.2.1 x.2.1.2.2.2.1.1 x.2.1.2.2.2.1.2) (bookH Spec.none))
theorem z19_σok (n : Nat) : SpecOk Try.prog (z19_σ n) := (inst_ok (fun x e y h => z51_c n x.1.1 x.1.2 x.2.1.1 x.2.1.2.1 x.2.1.2.2.1 x.2.1.2.2.2.1.1 x.2.1.2.2.2.1.2 y h) (bookH_ok (SpecOk.none _)))
noncomputable def z19_Φ (n : Nat) : Orc := with_ Try.prog (z19_σ n) [] n 0 [1000045, 1000059]
noncomputable def z19_v (n : Nat) (s0 : ByteArray) (s1 : ByteArray) (s2 : ByteArray) (b3 : Bool) (r4 : Rows) (b5 : Bool) (r6 : Rows) : Option ((Bool × Rows) × ((Bool × Rows) × Unit) × Unit) :=
 DM.denFn tm (z19_Φ n) z19_lv n Try.f32 true [AV.pl 1000 0, AV.agg [AV.dv (DV.val (Value.string s0)), AV.dv (DV.val (Value.string s1)), AV.dv (DV.val (Value.string s2)), AV.sl b3 [Kd.b, Kd.i IntKind.i64, Kd.s] r4 Right.no]] [[AV.sl b5 [Kd.i IntKind.i64, Kd.s, Kd.s, Kd.s, Kd.sl [Kd.b, Kd.i IntKind.i64, Kd.s], Kd.sl [Kd.s, Kd.s, Kd.s, Kd.sl [Kd.b, Kd.i IntKind.i64, Kd.s]]] r6 Right.no]] (OSh.chk (OSh.plain (.slt [Kd.i IntKind.i64, Kd.s, Kd.s, Kd.s, Kd.sl [Kd.b, Kd.i IntKind.i64, Kd.s], Kd.sl [Kd.s, Kd.s, Kd.s, Kd.sl [Kd.b, Kd.i IntKind.i64, Kd.s]]] 0) [[.sl [Kd.i IntKind.i64, Kd.s, Kd.s, Kd.s, Kd.sl [Kd.b, Kd.i IntKind.i64, Kd.s], Kd.sl [Kd.s, Kd.s, Kd.s, Kd.sl [Kd.b, Kd.i IntKind.i64, Kd.s]]]]]))
noncomputable def z19_l3 (n : Nat) (s0 : ByteArray) (s1 : ByteArray) (s2 : ByteArray) (b3 : Bool) (r4 : Rows) (b5 : Bool) (r6 : Rows) (i0 : Nat) (b8 : Bool) (r9 : List (List DV)) (j10 : Int) : Option ((Bool × Rows) × ((Bool × Rows) × Unit) × Unit) :=
 DM.loopFn tm (z19_Φ n) z19_lv n Try.f32 true [[AV.sl b5 [Kd.i IntKind.i64, Kd.s, Kd.s, Kd.s, Kd.sl [Kd.b, Kd.i IntKind.i64, Kd.s], Kd.sl [Kd.s, Kd.s, Kd.s, Kd.sl [Kd.b, Kd.i IntKind.i64, Kd.s]]] r6 Right.no]] (OSh.chk (OSh.plain (.slt [Kd.i IntKind.i64, Kd.s, Kd.s, Kd.s, Kd.sl [Kd.b, Kd.i IntKind.i64, Kd.s], Kd.sl [Kd.s, Kd.s, Kd.s, Kd.sl [Kd.b, Kd.i IntKind.i64, Kd.s]]] 0) [[.sl [Kd.i IntKind.i64, Kd.s, Kd.s, Kd.s, Kd.sl [Kd.b, Kd.i IntKind.i64, Kd.s], Kd.sl [Kd.s, Kd.s, Kd.s, Kd.sl [Kd.b, Kd.i IntKind.i64, Kd.s]]]]])) 3 [] i0 (St.mk [AV.pl 1000 0, AV.junk, AV.junk, AV.pl 3 0, AV.junk, AV.sl b8 [Kd.i IntKind.i64, Kd.s, Kd.s, Kd.s, Kd.sl [Kd.b, Kd.i IntKind.i64, Kd.s], Kd.sl [Kd.s, Kd.s, Kd.s, Kd.sl [Kd.b, Kd.i IntKind.i64, Kd.s]]] r9 (Right.tok 5), AV.dv (DV.val (Value.int IntKind.i64 j10)), AV.junk, AV.junk, AV.junk, AV.junk, AV.junk, AV.junk, AV.junk, AV.junk, AV.junk, AV.junk, AV.junk, AV.junk, AV.junk, AV.junk, AV.junk, AV.junk, AV.junk, AV.junk, AV.junk, AV.junk, AV.junk, AV.junk, AV.junk, AV.junk, AV.junk, AV.junk, AV.junk, AV.junk, AV.junk, AV.junk] [(1000, [AV.sl b5 [Kd.i IntKind.i64, Kd.s, Kd.s, Kd.s, Kd.sl [Kd.b, Kd.i IntKind.i64, Kd.s], Kd.sl [Kd.s, Kd.s, Kd.s, Kd.sl [Kd.b, Kd.i IntKind.i64, Kd.s]]] r6 Right.no]), (3, [AV.dv (DV.val (Value.string s0)), AV.dv (DV.val (Value.string s1)), AV.dv (DV.val (Value.string s2)), AV.sl b3 [Kd.b, Kd.i IntKind.i64, Kd.s] r4 Right.no])])
theorem z19_s3 (n : Nat) (s0 : ByteArray) (s1 : ByteArray) (s2 : ByteArray) (b3 : Bool) (r4 : Rows) (b5 : Bool) (r6 : Rows) (i0 : Nat) (b8 : Bool) (r9 : List (List DV)) (j10 : Int) : z19_l3 n s0 s1 s2 b3 r4 b5 r6 (i0 + 1) b8 r9 j10 =
 bif decide (j10 < (↑(List.length r6) : Int)) then
  if 0 ≤ j10 then
   if j10 < (↑(List.length r6) : Int) then
    obind (z51_v n (Row.N (List.getD r6 (Int.toNat j10) []) 5) (Row.R (List.getD r6 (Int.toNat j10) []) 5) s0 s1 s2 b3 r4) fun y11 =>
    bif y11.fst then
     if 0 ≤ j10 then
      if j10 < (↑(List.length r6) : Int) then
       if (List.length r9 + List.length [[DV.val (Value.int IntKind.i64 (Row.I (List.getD r6 (Int.toNat j10) []) 0)), DV.val (Value.string (Row.S (List.getD r6 (Int.toNat j10) []) 1)), DV.val (Value.string (Row.S (List.getD r6 (Int.toNat j10) []) 2)), DV.val (Value.string (Row.S (List.getD r6 (Int.toNat j10) []) 3)), DV.sl (Row.N (List.getD r6 (Int.toNat j10) []) 4) [Kd.b, Kd.i IntKind.i64, Kd.s] (Row.R (List.getD r6 (Int.toNat j10) []) 4), DV.sl (Row.N (List.getD r6 (Int.toNat j10) []) 5) [Kd.s, Kd.s, Kd.s, Kd.sl [Kd.b, Kd.i IntKind.i64, Kd.s]] (Row.R (List.getD r6 (Int.toNat j10) []) 5)]]) * 104 ≤ 140737488355328 then
        z19_l3 n s0 s1 s2 b3 r4 b5 r6 i0 (b8 && List.isEmpty [[DV.val (Value.int IntKind.i64 (Row.I (List.getD r6 (Int.toNat j10) []) 0)), DV.val (Value.string (Row.S (List.getD r6 (Int.toNat j10) []) 1)), DV.val (Value.string (Row.S (List.getD r6 (Int.toNat j10) []) 2)), DV.val (Value.string (Row.S (List.getD r6 (Int.toNat j10) []) 3)), DV.sl (Row.N (List.getD r6 (Int.toNat j10) []) 4) [Kd.b, Kd.i IntKind.i64, Kd.s] (Row.R (List.getD r6 (Int.toNat j10) []) 4), DV.sl (Row.N (List.getD r6 (Int.toNat j10) []) 5) [Kd.s, Kd.s, Kd.s, Kd.sl [Kd.b, Kd.i IntKind.i64, Kd.s]] (Row.R (List.getD r6 (Int.toNat j10) []) 5)]]) (appX r9 [[DV.val (Value.int IntKind.i64 (Row.I (List.getD r6 (Int.toNat j10) []) 0)), DV.val (Value.string (Row.S (List.getD r6 (Int.toNat j10) []) 1)), DV.val (Value.string (Row.S (List.getD r6 (Int.toNat j10) []) 2)), DV.val (Value.string (Row.S (List.getD r6 (Int.toNat j10) []) 3)), DV.sl (Row.N (List.getD r6 (Int.toNat j10) []) 4) [Kd.b, Kd.i IntKind.i64, Kd.s] (Row.R (List.getD r6 (Int.toNat j10) []) 4), DV.sl (Row.N (List.getD r6 (Int.toNat j10) []) 5) [Kd.s, Kd.s, Kd.s, Kd.sl [Kd.b, Kd.i IntKind.i64, Kd.s]] (Row.R (List.getD r6 (Int.toNat j10) []) 5)]]) (IntKind.wrap IntKind.i64 (j10 + 1))
       else none
      else none
     else none
    else z19_l3 n s0 s1 s2 b3 r4 b5 r6 i0 b8 r9 (IntKind.wrap IntKind.i64 (j10 + 1))
   else none
  else none
 else some ((b8, r9), (((b5, r6), ()), ())) := by kernel_rfl
theorem z19_e (n : Nat) (s0 : ByteArray) (s1 : ByteArray) (s2 : ByteArray) (b3 : Bool) (r4 : Rows) (b5 : Bool) (r6 : Rows) : z19_v n s0 s1 s2 b3 r4 b5 r6 =
 z19_l3 n s0 s1 s2 b3 r4 b5 r6 n true [] 0 := by kernel_rfl
theorem z19_c (n : Nat) (s0 : ByteArray) (s1 : ByteArray) (s2 : ByteArray) (b3 : Bool) (r4 : Rows) (b5 : Bool) (r6 : Rows) (y : (Bool × Rows) × ((Bool × Rows) × Unit) × Unit) (h : z19_v n s0 s1 s2 b3 r4 b5 r6 = some y) : Contract Try.prog 32 [AV.pl 1000 0, AV.agg [AV.dv (DV.val (Value.string s0)), AV.dv (DV.val (Value.string s1)), AV.dv (DV.val (Value.string s2)), AV.sl b3 [Kd.b, Kd.i IntKind.i64, Kd.s] r4 Right.no]] [[AV.sl b5 [Kd.i IntKind.i64, Kd.s, Kd.s, Kd.s, Kd.sl [Kd.b, Kd.i IntKind.i64, Kd.s], Kd.sl [Kd.s, Kd.s, Kd.s, Kd.sl [Kd.b, Kd.i IntKind.i64, Kd.s]]] r6 Right.no]] (OSh.enc (OSh.plain (.slt [Kd.i IntKind.i64, Kd.s, Kd.s, Kd.s, Kd.sl [Kd.b, Kd.i IntKind.i64, Kd.s], Kd.sl [Kd.s, Kd.s, Kd.s, Kd.sl [Kd.b, Kd.i IntKind.i64, Kd.s]]] 0) [[.sl [Kd.i IntKind.i64, Kd.s, Kd.s, Kd.s, Kd.sl [Kd.b, Kd.i IntKind.i64, Kd.s], Kd.sl [Kd.s, Kd.s, Kd.s, Kd.sl [Kd.b, Kd.i IntKind.i64, Kd.s]]]]]) y) :=
 auto_okM tm_std (with_ok mixed (by kernel_rfl) (z19_σok n) n 0 [1000045, 1000059]) (with_pick mixed (by kernel_rfl) (z19_σok n) n 0 [1000045, 1000059]) mixed Try.func32 (by decide) (o := (OSh.plain (.slt [Kd.i IntKind.i64, Kd.s, Kd.s, Kd.s, Kd.sl [Kd.b, Kd.i IntKind.i64, Kd.s], Kd.sl [Kd.s, Kd.s, Kd.s, Kd.sl [Kd.b, Kd.i IntKind.i64, Kd.s]]] 0) [[.sl [Kd.i IntKind.i64, Kd.s, Kd.s, Kd.s, Kd.sl [Kd.b, Kd.i IntKind.i64, Kd.s], Kd.sl [Kd.s, Kd.s, Kd.s, Kd.sl [Kd.b, Kd.i IntKind.i64, Kd.s]]]]])) h
def z21_lv : Live := [(5, [3, 11, 12, 13], [1000, 1001, 1002, 1003])]
noncomputable def z21_σ (n : Nat) : Spec := (inst 36 [.pv [Kd.sl [Kd.i IntKind.i64, Kd.s, Kd.s, Kd.s, Kd.sl [Kd.b, Kd.i IntKind.i64, Kd.s], Kd.sl [Kd.s, Kd.s, Kd.s, Kd.sl [Kd.b, Kd.i IntKind.i64, Kd.s]]], Kd.b] 0] [] (OSh.plain (.b) []) (fun x e => z14_v n x.1) (inst 37 [.sl [Kd.s, Kd.s, Kd.s, Kd.sl [Kd.b, Kd.i IntKind.i64, Kd.s]]] [] (OSh.plain (.slt [Kd.s, Kd.s, Kd.s, Kd.sl [Kd.b, Kd.i IntKind.i64, Kd.s]] 0) []) (fun x e => z41_v n x.1.1 x.1.2) (bookH Spec.none)))
theorem z21_σok (n : Nat) : SpecOk Try.prog (z21_σ n) := (inst_ok (fun x e y h => z14_c n x.1 y h) (inst_ok (fun x e y h => z41_c n x.1.1 x.1.2 y h) (bookH_ok (SpecOk.none _))))
noncomputable def z21_Φ (n : Nat) : Orc := with_ Try.prog (z21_σ n) [] n 0 [5000007, 1000045, 1000059]
noncomputable def z21_v (n : Nat) (b0 : Bool) (r1 : Rows) (b2 : Bool) : Option ((Bool × Rows) × ((Bool × Rows) × Bool × Unit) × Unit) :=
 DM.denFn tm (z21_Φ n) z21_lv n Try.f19 true [AV.pl 1000 0] [[AV.sl b0 [Kd.i IntKind.i64, Kd.s, Kd.s, Kd.s, Kd.sl [Kd.b, Kd.i IntKind.i64, Kd.s], Kd.sl [Kd.s, Kd.s, Kd.s, Kd.sl [Kd.b, Kd.i IntKind.i64, Kd.s]]] r1 Right.no, AV.dv (DV.val (Value.bool b2))]] (OSh.chk (OSh.plain (.slt [Kd.s, Kd.s, Kd.s, Kd.sl [Kd.b, Kd.i IntKind.i64, Kd.s]] 0) [[.sl [Kd.i IntKind.i64, Kd.s, Kd.s, Kd.s, Kd.sl [Kd.b, Kd.i IntKind.i64, Kd.s], Kd.sl [Kd.s, Kd.s, Kd.s, Kd.sl [Kd.b, Kd.i IntKind.i64, Kd.s]]], .b]]))
noncomputable def z21_l5 (n : Nat) (b0 : Bool) (r1 : Rows) (b2 : Bool) (i0 : Nat) (b5 : Bool) (r6 : List (List DV)) (j7 : Int) : Option ((Bool × Rows) × ((Bool × Rows) × Bool × Unit) × Unit) :=
 DM.loopFn tm (z21_Φ n) z21_lv n Try.f19 true [[AV.sl b0 [Kd.i IntKind.i64, Kd.s, Kd.s, Kd.s, Kd.sl [Kd.b, Kd.i IntKind.i64, Kd.s], Kd.sl [Kd.s, Kd.s, Kd.s, Kd.sl [Kd.b, Kd.i IntKind.i64, Kd.s]]] r1 Right.no, AV.dv (DV.val (Value.bool b2))]] (OSh.chk (OSh.plain (.slt [Kd.s, Kd.s, Kd.s, Kd.sl [Kd.b, Kd.i IntKind.i64, Kd.s]] 0) [[.sl [Kd.i IntKind.i64, Kd.s, Kd.s, Kd.s, Kd.sl [Kd.b, Kd.i IntKind.i64, Kd.s], Kd.sl [Kd.s, Kd.s, Kd.s, Kd.sl [Kd.b, Kd.i IntKind.i64, Kd.s]]], .b]])) 5 [] i0 (St.mk [AV.junk, AV.junk, AV.junk, AV.sl b5 [Kd.s, Kd.s, Kd.s, Kd.sl [Kd.b, Kd.i IntKind.i64, Kd.s]] r6 (Right.tok 3), AV.junk, AV.junk, AV.junk, AV.junk, AV.junk, AV.junk, AV.junk, AV.sl b0 [Kd.i IntKind.i64, Kd.s, Kd.s, Kd.s, Kd.sl [Kd.b, Kd.i IntKind.i64, Kd.s], Kd.sl [Kd.s, Kd.s, Kd.s, Kd.sl [Kd.b, Kd.i IntKind.i64, Kd.s]]] r1 Right.no, AV.dv (DV.val (Value.int IntKind.i64 (↑(List.length r1) : Int))), AV.dv (DV.val (Value.int IntKind.i64 j7)), AV.junk, AV.junk, AV.junk, AV.junk, AV.junk, AV.junk, AV.junk, AV.junk, AV.junk, AV.junk, AV.junk] [(1000, [AV.sl b0 [Kd.i IntKind.i64, Kd.s, Kd.s, Kd.s, Kd.sl [Kd.b, Kd.i IntKind.i64, Kd.s], Kd.sl [Kd.s, Kd.s, Kd.s, Kd.sl [Kd.b, Kd.i IntKind.i64, Kd.s]]] r1 Right.no, AV.dv (DV.val (Value.bool b2))])])
theorem z21_s5 (n : Nat) (b0 : Bool) (r1 : Rows) (b2 : Bool) (i0 : Nat) (b5 : Bool) (r6 : List (List DV)) (j7 : Int) : z21_l5 n b0 r1 b2 (i0 + 1) b5 r6 j7 =
 bif decide (j7 < (↑(List.length r1) : Int)) then
  if 0 ≤ j7 then
   if j7 < (↑(List.length r1) : Int) then
    if (List.length r6 + List.length [[DV.val (Value.string (Row.S (List.getD r1 (Int.toNat j7) []) 1)), DV.val (Value.string (Row.S (List.getD r1 (Int.toNat j7) []) 2)), DV.val (Value.string (Row.S (List.getD r1 (Int.toNat j7) []) 3)), DV.sl (Row.N (List.getD r1 (Int.toNat j7) []) 4) [Kd.b, Kd.i IntKind.i64, Kd.s] (Row.R (List.getD r1 (Int.toNat j7) []) 4)]]) * 72 ≤ 140737488355328 then
     z21_l5 n b0 r1 b2 i0 (b5 && List.isEmpty [[DV.val (Value.string (Row.S (List.getD r1 (Int.toNat j7) []) 1)), DV.val (Value.string (Row.S (List.getD r1 (Int.toNat j7) []) 2)), DV.val (Value.string (Row.S (List.getD r1 (Int.toNat j7) []) 3)), DV.sl (Row.N (List.getD r1 (Int.toNat j7) []) 4) [Kd.b, Kd.i IntKind.i64, Kd.s] (Row.R (List.getD r1 (Int.toNat j7) []) 4)]]) (appX r6 [[DV.val (Value.string (Row.S (List.getD r1 (Int.toNat j7) []) 1)), DV.val (Value.string (Row.S (List.getD r1 (Int.toNat j7) []) 2)), DV.val (Value.string (Row.S (List.getD r1 (Int.toNat j7) []) 3)), DV.sl (Row.N (List.getD r1 (Int.toNat j7) []) 4) [Kd.b, Kd.i IntKind.i64, Kd.s] (Row.R (List.getD r1 (Int.toNat j7) []) 4)]]) (IntKind.wrap IntKind.i64 (j7 + 1))
    else none
   else none
  else none
 else obind (z41_v n b5 r6) fun y8 =>
 some ((y8.fst.fst, y8.fst.snd), (((b0, r1), (b2, ())), ())) := by kernel_rfl
theorem z21_e (n : Nat) (b0 : Bool) (r1 : Rows) (b2 : Bool) : z21_v n b0 r1 b2 =
 obind (z14_v n ([DV.sl b0 [Kd.i IntKind.i64, Kd.s, Kd.s, Kd.s, Kd.sl [Kd.b, Kd.i IntKind.i64, Kd.s], Kd.sl [Kd.s, Kd.s, Kd.s, Kd.sl [Kd.b, Kd.i IntKind.i64, Kd.s]]] r1, DV.val (Value.bool b2)])) fun y3 =>
 bif y3.fst then
  some ((true, []), (((b0, r1), (b2, ())), ()))
 else z21_l5 n b0 r1 b2 n true [] 0 := by kernel_rfl
theorem z21_c (n : Nat) (b0 : Bool) (r1 : Rows) (b2 : Bool) (y : (Bool × Rows) × ((Bool × Rows) × Bool × Unit) × Unit) (h : z21_v n b0 r1 b2 = some y) : Contract Try.prog 19 [AV.pl 1000 0] [[AV.sl b0 [Kd.i IntKind.i64, Kd.s, Kd.s, Kd.s, Kd.sl [Kd.b, Kd.i IntKind.i64, Kd.s], Kd.sl [Kd.s, Kd.s, Kd.s, Kd.sl [Kd.b, Kd.i IntKind.i64, Kd.s]]] r1 Right.no, AV.dv (DV.val (Value.bool b2))]] (OSh.enc (OSh.plain (.slt [Kd.s, Kd.s, Kd.s, Kd.sl [Kd.b, Kd.i IntKind.i64, Kd.s]] 0) [[.sl [Kd.i IntKind.i64, Kd.s, Kd.s, Kd.s, Kd.sl [Kd.b, Kd.i IntKind.i64, Kd.s], Kd.sl [Kd.s, Kd.s, Kd.s, Kd.sl [Kd.b, Kd.i IntKind.i64, Kd.s]]], .b]]) y) :=
 auto_okM tm_std (with_ok mixed (by kernel_rfl) (z21_σok n) n 0 [5000007, 1000045, 1000059]) (with_pick mixed (by kernel_rfl) (z21_σok n) n 0 [5000007, 1000045, 1000059]) mixed Try.func19 (by decide) (o := (OSh.plain (.slt [Kd.s, Kd.s, Kd.s, Kd.sl [Kd.b, Kd.i IntKind.i64, Kd.s]] 0) [[.sl [Kd.i IntKind.i64, Kd.s, Kd.s, Kd.s, Kd.sl [Kd.b, Kd.i IntKind.i64, Kd.s], Kd.sl [Kd.s, Kd.s, Kd.s, Kd.sl [Kd.b, Kd.i IntKind.i64, Kd.s]]], .b]])) h
def z49_lv : Live := [(2, [0, 3, 5], [3, 1000, 1001, 1002, 1003])]
noncomputable def z49_σ (n : Nat) : Spec := (inst 35 [.agg [.s, .s, .s, .sl [Kd.b, Kd.i IntKind.i64, Kd.s]], .agg [.s, .s, .s, .sl [Kd.b, Kd.i IntKind.i64, Kd.s]]] [] (OSh.plain (.i IntKind.i64) []) (fun x e => z40_v n x.1.1 x.1.2.1 x.1.2.2.1 x.1.2.2.2.1.1 x.1.2.2.2.1.2 x.2.1.1 x.2.1.2.1 x.2.1.2.2.1 x.2.1.2.2.2.1.1 x.2.1.2.2.2.1.2) (bookH Spec.none))
theorem z49_σok (n : Nat) : SpecOk Try.prog (z49_σ n) := (inst_ok (fun x e y h => z40_c n x.1.1 x.1.2.1 x.1.2.2.1 x.1.2.2.2.1.1 x.1.2.2.2.1.2 x.2.1.1 x.2.1.2.1 x.2.1.2.2.1 x.2.1.2.2.2.1.1 x.2.1.2.2.2.1.2 y h) (bookH_ok (SpecOk.none _)))
noncomputable def z49_Φ (n : Nat) : Orc := with_ Try.prog (z49_σ n) [] n 0 [1000045, 1000059]
noncomputable def z49_v (n : Nat) (b0 : Bool) (r1 : Rows) (s2 : ByteArray) (s3 : ByteArray) (s4 : ByteArray) (b5 : Bool) (r6 : Rows) : Option ((Bool × Rows) × Unit) :=
 DM.denFn tm (z49_Φ n) z49_lv n Try.f45 true [AV.sl b0 [Kd.s, Kd.s, Kd.s, Kd.sl [Kd.b, Kd.i IntKind.i64, Kd.s]] r1 (Right.tok 500000), AV.agg [AV.dv (DV.val (Value.string s2)), AV.dv (DV.val (Value.string s3)), AV.dv (DV.val (Value.string s4)), AV.sl b5 [Kd.b, Kd.i IntKind.i64, Kd.s] r6 Right.no]] [] (OSh.chk (OSh.plain (.slt [Kd.s, Kd.s, Kd.s, Kd.sl [Kd.b, Kd.i IntKind.i64, Kd.s]] 0) []))
noncomputable def z49_l2 (n : Nat) (b0 : Bool) (r1 : Rows) (s2 : ByteArray) (s3 : ByteArray) (s4 : ByteArray) (b5 : Bool) (r6 : Rows) (i0 : Nat) (j10 : Int) : Option ((Bool × Rows) × Unit) :=
 DM.loopFn tm (z49_Φ n) z49_lv n Try.f45 true [] (OSh.chk (OSh.plain (.slt [Kd.s, Kd.s, Kd.s, Kd.sl [Kd.b, Kd.i IntKind.i64, Kd.s]] 0) [])) 2 [] i0 (St.mk [AV.sl b0 [Kd.s, Kd.s, Kd.s, Kd.sl [Kd.b, Kd.i IntKind.i64, Kd.s]] r1 (Right.tok 0), AV.junk, AV.junk, AV.pl 3 0, AV.junk, AV.dv (DV.val (Value.int IntKind.i64 j10)), AV.junk, AV.junk, AV.junk, AV.junk, AV.junk, AV.junk, AV.junk, AV.junk, AV.junk, AV.junk, AV.junk, AV.junk, AV.junk, AV.junk, AV.junk, AV.junk, AV.junk, AV.junk, AV.junk, AV.junk, AV.junk, AV.junk, AV.junk, AV.junk, AV.junk, AV.junk, AV.junk, AV.junk, AV.junk, AV.junk, AV.junk, AV.junk, AV.junk, AV.junk, AV.junk, AV.junk, AV.junk, AV.junk, AV.junk, AV.junk, AV.junk, AV.junk, AV.junk, AV.junk] [(3, [AV.dv (DV.val (Value.string s2)), AV.dv (DV.val (Value.string s3)), AV.dv (DV.val (Value.string s4)), AV.sl b5 [Kd.b, Kd.i IntKind.i64, Kd.s] r6 Right.no])])
theorem z49_s2 (n : Nat) (b0 : Bool) (r1 : Rows) (s2 : ByteArray) (s3 : ByteArray) (s4 : ByteArray) (b5 : Bool) (r6 : Rows) (i0 : Nat) (j10 : Int) : z49_l2 n b0 r1 s2 s3 s4 b5 r6 (i0 + 1) j10 =
 bif decide (j10 < (↑(List.length r1) : Int)) then
  if 0 ≤ j10 then
   if j10 < (↑(List.length r1) : Int) then
    obind (z40_v n (Row.S (List.getD r1 (Int.toNat j10) []) 0) (Row.S (List.getD r1 (Int.toNat j10) []) 1) (Row.S (List.getD r1 (Int.toNat j10) []) 2) (Row.N (List.getD r1 (Int.toNat j10) []) 3) (Row.R (List.getD r1 (Int.toNat j10) []) 3) s2 s3 s4 b5 r6) fun y11 =>
    bif decide (y11.fst < 0) then
     z49_l2 n b0 r1 s2 s3 s4 b5 r6 i0 (IntKind.wrap IntKind.i64 (j10 + 1))
    else bif decide (j10 < (↑(List.length r1) : Int)) then
     if 0 ≤ j10 then
      if j10 < (↑(List.length r1) : Int) then
       obind (z40_v n (Row.S (List.getD r1 (Int.toNat j10) []) 0) (Row.S (List.getD r1 (Int.toNat j10) []) 1) (Row.S (List.getD r1 (Int.toNat j10) []) 2) (Row.N (List.getD r1 (Int.toNat j10) []) 3) (Row.R (List.getD r1 (Int.toNat j10) []) 3) s2 s3 s4 b5 r6) fun y12 =>
       bif y12.fst == 0 then
        some ((b0, r1), ())
       else if 0 ≤ j10 then
        if j10 ≤ (↑(List.length r1) : Int) then
         if (0 + List.length (List.drop 0 (List.take (Int.toNat j10) r1))) * 72 ≤ 140737488355328 then
          if (List.length (appX [] (List.drop 0 (List.take (Int.toNat j10) r1))) + List.length [[DV.val (Value.string s2), DV.val (Value.string s3), DV.val (Value.string s4), DV.sl b5 [Kd.b, Kd.i IntKind.i64, Kd.s] r6]]) * 72 ≤ 140737488355328 then
           if 0 ≤ j10 then
            if j10 ≤ (↑(List.length r1) : Int) then
             if (↑(List.length r1) : Int) ≤ (↑(List.length r1) : Int) then
              if (List.length (appX (appX [] (List.drop 0 (List.take (Int.toNat j10) r1))) [[DV.val (Value.string s2), DV.val (Value.string s3), DV.val (Value.string s4), DV.sl b5 [Kd.b, Kd.i IntKind.i64, Kd.s] r6]]) + List.length (List.drop (Int.toNat j10) (List.take (Int.toNat (↑(List.length r1) : Int)) r1))) * 72 ≤ 140737488355328 then
               some ((false && List.isEmpty (List.drop 0 (List.take (Int.toNat j10) r1)) && List.isEmpty [[DV.val (Value.string s2), DV.val (Value.string s3), DV.val (Value.string s4), DV.sl b5 [Kd.b, Kd.i IntKind.i64, Kd.s] r6]] && List.isEmpty (List.drop (Int.toNat j10) (List.take (Int.toNat (↑(List.length r1) : Int)) r1)), appX (appX (appX [] (List.drop 0 (List.take (Int.toNat j10) r1))) [[DV.val (Value.string s2), DV.val (Value.string s3), DV.val (Value.string s4), DV.sl b5 [Kd.b, Kd.i IntKind.i64, Kd.s] r6]]) (List.drop (Int.toNat j10) (List.take (Int.toNat (↑(List.length r1) : Int)) r1))), ())
              else none
             else none
            else none
           else none
          else none
         else none
        else none
       else none
      else none
     else none
    else if 0 ≤ j10 then
     if j10 ≤ (↑(List.length r1) : Int) then
      if (0 + List.length (List.drop 0 (List.take (Int.toNat j10) r1))) * 72 ≤ 140737488355328 then
       if (List.length (appX [] (List.drop 0 (List.take (Int.toNat j10) r1))) + List.length [[DV.val (Value.string s2), DV.val (Value.string s3), DV.val (Value.string s4), DV.sl b5 [Kd.b, Kd.i IntKind.i64, Kd.s] r6]]) * 72 ≤ 140737488355328 then
        if 0 ≤ j10 then
         if j10 ≤ (↑(List.length r1) : Int) then
          if (↑(List.length r1) : Int) ≤ (↑(List.length r1) : Int) then
           if (List.length (appX (appX [] (List.drop 0 (List.take (Int.toNat j10) r1))) [[DV.val (Value.string s2), DV.val (Value.string s3), DV.val (Value.string s4), DV.sl b5 [Kd.b, Kd.i IntKind.i64, Kd.s] r6]]) + List.length (List.drop (Int.toNat j10) (List.take (Int.toNat (↑(List.length r1) : Int)) r1))) * 72 ≤ 140737488355328 then
            some ((false && List.isEmpty (List.drop 0 (List.take (Int.toNat j10) r1)) && List.isEmpty [[DV.val (Value.string s2), DV.val (Value.string s3), DV.val (Value.string s4), DV.sl b5 [Kd.b, Kd.i IntKind.i64, Kd.s] r6]] && List.isEmpty (List.drop (Int.toNat j10) (List.take (Int.toNat (↑(List.length r1) : Int)) r1)), appX (appX (appX [] (List.drop 0 (List.take (Int.toNat j10) r1))) [[DV.val (Value.string s2), DV.val (Value.string s3), DV.val (Value.string s4), DV.sl b5 [Kd.b, Kd.i IntKind.i64, Kd.s] r6]]) (List.drop (Int.toNat j10) (List.take (Int.toNat (↑(List.length r1) : Int)) r1))), ())
           else none
          else none
         else none
        else none
       else none
      else none
     else none
    else none
   else none
  else none
 else bif decide (j10 < (↑(List.length r1) : Int)) then
  if 0 ≤ j10 then
   if j10 < (↑(List.length r1) : Int) then
    obind (z40_v n (Row.S (List.getD r1 (Int.toNat j10) []) 0) (Row.S (List.getD r1 (Int.toNat j10) []) 1) (Row.S (List.getD r1 (Int.toNat j10) []) 2) (Row.N (List.getD r1 (Int.toNat j10) []) 3) (Row.R (List.getD r1 (Int.toNat j10) []) 3) s2 s3 s4 b5 r6) fun y13 =>
    bif y13.fst == 0 then
     some ((b0, r1), ())
    else if 0 ≤ j10 then
     if j10 ≤ (↑(List.length r1) : Int) then
      if (0 + List.length (List.drop 0 (List.take (Int.toNat j10) r1))) * 72 ≤ 140737488355328 then
       if (List.length (appX [] (List.drop 0 (List.take (Int.toNat j10) r1))) + List.length [[DV.val (Value.string s2), DV.val (Value.string s3), DV.val (Value.string s4), DV.sl b5 [Kd.b, Kd.i IntKind.i64, Kd.s] r6]]) * 72 ≤ 140737488355328 then
        if 0 ≤ j10 then
         if j10 ≤ (↑(List.length r1) : Int) then
          if (↑(List.length r1) : Int) ≤ (↑(List.length r1) : Int) then
           if (List.length (appX (appX [] (List.drop 0 (List.take (Int.toNat j10) r1))) [[DV.val (Value.string s2), DV.val (Value.string s3), DV.val (Value.string s4), DV.sl b5 [Kd.b, Kd.i IntKind.i64, Kd.s] r6]]) + List.length (List.drop (Int.toNat j10) (List.take (Int.toNat (↑(List.length r1) : Int)) r1))) * 72 ≤ 140737488355328 then
            some ((false && List.isEmpty (List.drop 0 (List.take (Int.toNat j10) r1)) && List.isEmpty [[DV.val (Value.string s2), DV.val (Value.string s3), DV.val (Value.string s4), DV.sl b5 [Kd.b, Kd.i IntKind.i64, Kd.s] r6]] && List.isEmpty (List.drop (Int.toNat j10) (List.take (Int.toNat (↑(List.length r1) : Int)) r1)), appX (appX (appX [] (List.drop 0 (List.take (Int.toNat j10) r1))) [[DV.val (Value.string s2), DV.val (Value.string s3), DV.val (Value.string s4), DV.sl b5 [Kd.b, Kd.i IntKind.i64, Kd.s] r6]]) (List.drop (Int.toNat j10) (List.take (Int.toNat (↑(List.length r1) : Int)) r1))), ())
           else none
          else none
         else none
        else none
       else none
      else none
     else none
    else none
   else none
  else none
 else if 0 ≤ j10 then
  if j10 ≤ (↑(List.length r1) : Int) then
   if (0 + List.length (List.drop 0 (List.take (Int.toNat j10) r1))) * 72 ≤ 140737488355328 then
    if (List.length (appX [] (List.drop 0 (List.take (Int.toNat j10) r1))) + List.length [[DV.val (Value.string s2), DV.val (Value.string s3), DV.val (Value.string s4), DV.sl b5 [Kd.b, Kd.i IntKind.i64, Kd.s] r6]]) * 72 ≤ 140737488355328 then
     if 0 ≤ j10 then
      if j10 ≤ (↑(List.length r1) : Int) then
       if (↑(List.length r1) : Int) ≤ (↑(List.length r1) : Int) then
        if (List.length (appX (appX [] (List.drop 0 (List.take (Int.toNat j10) r1))) [[DV.val (Value.string s2), DV.val (Value.string s3), DV.val (Value.string s4), DV.sl b5 [Kd.b, Kd.i IntKind.i64, Kd.s] r6]]) + List.length (List.drop (Int.toNat j10) (List.take (Int.toNat (↑(List.length r1) : Int)) r1))) * 72 ≤ 140737488355328 then
         some ((false && List.isEmpty (List.drop 0 (List.take (Int.toNat j10) r1)) && List.isEmpty [[DV.val (Value.string s2), DV.val (Value.string s3), DV.val (Value.string s4), DV.sl b5 [Kd.b, Kd.i IntKind.i64, Kd.s] r6]] && List.isEmpty (List.drop (Int.toNat j10) (List.take (Int.toNat (↑(List.length r1) : Int)) r1)), appX (appX (appX [] (List.drop 0 (List.take (Int.toNat j10) r1))) [[DV.val (Value.string s2), DV.val (Value.string s3), DV.val (Value.string s4), DV.sl b5 [Kd.b, Kd.i IntKind.i64, Kd.s] r6]]) (List.drop (Int.toNat j10) (List.take (Int.toNat (↑(List.length r1) : Int)) r1))), ())
        else none
       else none
      else none
     else none
    else none
   else none
  else none
 else none := by kernel_rfl
theorem z49_e (n : Nat) (b0 : Bool) (r1 : Rows) (s2 : ByteArray) (s3 : ByteArray) (s4 : ByteArray) (b5 : Bool) (r6 : Rows) : z49_v n b0 r1 s2 s3 s4 b5 r6 =
 z49_l2 n b0 r1 s2 s3 s4 b5 r6 n 0 := by kernel_rfl
theorem z49_c (n : Nat) (b0 : Bool) (r1 : Rows) (s2 : ByteArray) (s3 : ByteArray) (s4 : ByteArray) (b5 : Bool) (r6 : Rows) (y : (Bool × Rows) × Unit) (h : z49_v n b0 r1 s2 s3 s4 b5 r6 = some y) : Contract Try.prog 45 [AV.sl b0 [Kd.s, Kd.s, Kd.s, Kd.sl [Kd.b, Kd.i IntKind.i64, Kd.s]] r1 (Right.tok 500000), AV.agg [AV.dv (DV.val (Value.string s2)), AV.dv (DV.val (Value.string s3)), AV.dv (DV.val (Value.string s4)), AV.sl b5 [Kd.b, Kd.i IntKind.i64, Kd.s] r6 Right.no]] [] (OSh.enc (OSh.plain (.slt [Kd.s, Kd.s, Kd.s, Kd.sl [Kd.b, Kd.i IntKind.i64, Kd.s]] 0) []) y) :=
 auto_okM tm_std (with_ok mixed (by kernel_rfl) (z49_σok n) n 0 [1000045, 1000059]) (with_pick mixed (by kernel_rfl) (z49_σok n) n 0 [1000045, 1000059]) mixed Try.func45 (by decide) (o := (OSh.plain (.slt [Kd.s, Kd.s, Kd.s, Kd.sl [Kd.b, Kd.i IntKind.i64, Kd.s]] 0) [])) h
def z15_lv : Live := [(3, [0, 3, 4], [1000, 1001, 1002, 1003])]
noncomputable def z15_σ (n : Nat) : Spec := (inst 45 [.slt [Kd.s, Kd.s, Kd.s, Kd.sl [Kd.b, Kd.i IntKind.i64, Kd.s]] 500000, .agg [.s, .s, .s, .sl [Kd.b, Kd.i IntKind.i64, Kd.s]]] [] (OSh.plain (.slt [Kd.s, Kd.s, Kd.s, Kd.sl [Kd.b, Kd.i IntKind.i64, Kd.s]] 0) []) (fun x e => z49_v n x.1.1 x.1.2 x.2.1.1 x.2.1.2.1 x.2.1.2.2.1 x.2.1.2.2.2.1.1 x.2.1.2.2.2.1.2) (bookH Spec.none))
theorem z15_σok (n : Nat) : SpecOk Try.prog (z15_σ n) := (inst_ok (fun x e y h => z49_c n x.1.1 x.1.2 x.2.1.1 x.2.1.2.1 x.2.1.2.2.1 x.2.1.2.2.2.1.1 x.2.1.2.2.2.1.2 y h) (bookH_ok (SpecOk.none _)))
noncomputable def z15_Φ (n : Nat) : Orc := with_ Try.prog (z15_σ n) [] n 0 [1000045, 1000059]
noncomputable def z15_v (n : Nat) (b0 : Bool) (r1 : Rows) : Option ((Bool × Rows) × ((Bool × Rows) × Unit) × Unit) :=
 DM.denFn tm (z15_Φ n) z15_lv n Try.f33 true [AV.pl 1000 0] [[AV.sl b0 [Kd.i IntKind.i64, Kd.s, Kd.s, Kd.s, Kd.sl [Kd.b, Kd.i IntKind.i64, Kd.s], Kd.sl [Kd.s, Kd.s, Kd.s, Kd.sl [Kd.b, Kd.i IntKind.i64, Kd.s]]] r1 Right.no]] (OSh.chk (OSh.plain (.slt [Kd.s, Kd.s, Kd.s, Kd.sl [Kd.b, Kd.i IntKind.i64, Kd.s]] 0) [[.sl [Kd.i IntKind.i64, Kd.s, Kd.s, Kd.s, Kd.sl [Kd.b, Kd.i IntKind.i64, Kd.s], Kd.sl [Kd.s, Kd.s, Kd.s, Kd.sl [Kd.b, Kd.i IntKind.i64, Kd.s]]]]]))
noncomputable def z15_l3 (n : Nat) (b0 : Bool) (r1 : Rows) (i0 : Nat) (b3 : Bool) (r4 : List (List DV)) (j5 : Int) : Option ((Bool × Rows) × ((Bool × Rows) × Unit) × Unit) :=
 DM.loopFn tm (z15_Φ n) z15_lv n Try.f33 true [[AV.sl b0 [Kd.i IntKind.i64, Kd.s, Kd.s, Kd.s, Kd.sl [Kd.b, Kd.i IntKind.i64, Kd.s], Kd.sl [Kd.s, Kd.s, Kd.s, Kd.sl [Kd.b, Kd.i IntKind.i64, Kd.s]]] r1 Right.no]] (OSh.chk (OSh.plain (.slt [Kd.s, Kd.s, Kd.s, Kd.sl [Kd.b, Kd.i IntKind.i64, Kd.s]] 0) [[.sl [Kd.i IntKind.i64, Kd.s, Kd.s, Kd.s, Kd.sl [Kd.b, Kd.i IntKind.i64, Kd.s], Kd.sl [Kd.s, Kd.s, Kd.s, Kd.sl [Kd.b, Kd.i IntKind.i64, Kd.s]]]]])) 3 [] i0 (St.mk [AV.pl 1000 0, AV.junk, AV.junk, AV.sl b3 [Kd.s, Kd.s, Kd.s, Kd.sl [Kd.b, Kd.i IntKind.i64, Kd.s]] r4 (Right.tok 3), AV.dv (DV.val (Value.int IntKind.i64 j5)), AV.junk, AV.junk, AV.junk, AV.junk, AV.junk, AV.junk, AV.junk, AV.junk, AV.junk, AV.junk, AV.junk, AV.junk, AV.junk, AV.junk, AV.junk, AV.junk, AV.junk, AV.junk, AV.junk, AV.junk] [(1000, [AV.sl b0 [Kd.i IntKind.i64, Kd.s, Kd.s, Kd.s, Kd.sl [Kd.b, Kd.i IntKind.i64, Kd.s], Kd.sl [Kd.s, Kd.s, Kd.s, Kd.sl [Kd.b, Kd.i IntKind.i64, Kd.s]]] r1 Right.no])])
theorem z15_s3 (n : Nat) (b0 : Bool) (r1 : Rows) (i0 : Nat) (b3 : Bool) (r4 : List (List DV)) (j5 : Int) : z15_l3 n b0 r1 (i0 + 1) b3 r4 j5 =
 bif decide (j5 < (↑(List.length r1) : Int)) then
  if 0 ≤ j5 then
   if j5 < (↑(List.length r1) : Int) then
    obind (z49_v n b3 r4 (Row.S (List.getD r1 (Int.toNat j5) []) 1) (Row.S (List.getD r1 (Int.toNat j5) []) 2) (Row.S (List.getD r1 (Int.toNat j5) []) 3) (Row.N (List.getD r1 (Int.toNat j5) []) 4) (Row.R (List.getD r1 (Int.toNat j5) []) 4)) fun y6 =>
    z15_l3 n b0 r1 i0 y6.fst.fst y6.fst.snd (IntKind.wrap IntKind.i64 (j5 + 1))
   else none
  else none
 else some ((b3, r4), (((b0, r1), ()), ())) := by kernel_rfl
theorem z15_e (n : Nat) (b0 : Bool) (r1 : Rows) : z15_v n b0 r1 =
 z15_l3 n b0 r1 n true [] 0 := by kernel_rfl
theorem z15_c (n : Nat) (b0 : Bool) (r1 : Rows) (y : (Bool × Rows) × ((Bool × Rows) × Unit) × Unit) (h : z15_v n b0 r1 = some y) : Contract Try.prog 33 [AV.pl 1000 0] [[AV.sl b0 [Kd.i IntKind.i64, Kd.s, Kd.s, Kd.s, Kd.sl [Kd.b, Kd.i IntKind.i64, Kd.s], Kd.sl [Kd.s, Kd.s, Kd.s, Kd.sl [Kd.b, Kd.i IntKind.i64, Kd.s]]] r1 Right.no]] (OSh.enc (OSh.plain (.slt [Kd.s, Kd.s, Kd.s, Kd.sl [Kd.b, Kd.i IntKind.i64, Kd.s]] 0) [[.sl [Kd.i IntKind.i64, Kd.s, Kd.s, Kd.s, Kd.sl [Kd.b, Kd.i IntKind.i64, Kd.s], Kd.sl [Kd.s, Kd.s, Kd.s, Kd.sl [Kd.b, Kd.i IntKind.i64, Kd.s]]]]]) y) :=
 auto_okM tm_std (with_ok mixed (by kernel_rfl) (z15_σok n) n 0 [1000045, 1000059]) (with_pick mixed (by kernel_rfl) (z15_σok n) n 0 [1000045, 1000059]) mixed Try.func33 (by decide) (o := (OSh.plain (.slt [Kd.s, Kd.s, Kd.s, Kd.sl [Kd.b, Kd.i IntKind.i64, Kd.s]] 0) [[.sl [Kd.i IntKind.i64, Kd.s, Kd.s, Kd.s, Kd.sl [Kd.b, Kd.i IntKind.i64, Kd.s], Kd.sl [Kd.s, Kd.s, Kd.s, Kd.sl [Kd.b, Kd.i IntKind.i64, Kd.s]]]]])) h
def z44_lv : Live := [(4, [0, 1, 5], [1000, 1001, 1002, 1003])]
noncomputable def z44_σ (n : Nat) : Spec := (inst 35 [.agg [.s, .s, .s, .sl [Kd.b, Kd.i IntKind.i64, Kd.s]], .agg [.s, .s, .s, .sl [Kd.b, Kd.i IntKind.i64, Kd.s]]] [] (OSh.plain (.i IntKind.i64) []) (fun x e => z40_v n x.1.1 x.1.2.1 x.1.2.2.1 x.1.2.2.2.1.1 x.1.2.2.2.1.2 x.2.1.1 x.2.1.2.1 x.2.1.2.2.1 x.2.1.2.2.2.1.1 x.2.1.2.2.2.1.2) (bookH Spec.none))
theorem z44_σok (n : Nat) : SpecOk Try.prog (z44_σ n) := (inst_ok (fun x e y h => z40_c n x.1.1 x.1.2.1 x.1.2.2.1 x.1.2.2.2.1.1 x.1.2.2.2.1.2 x.2.1.1 x.2.1.2.1 x.2.1.2.2.1 x.2.1.2.2.2.1.1 x.2.1.2.2.2.1.2 y h) (bookH_ok (SpecOk.none _)))
noncomputable def z44_Φ (n : Nat) : Orc := with_ Try.prog (z44_σ n) [] n 0 [1000045, 1000059]
noncomputable def z44_v (n : Nat) (b0 : Bool) (r1 : Rows) (b2 : Bool) (r3 : Rows) : Option (Bool × Unit) :=
 DM.denFn tm (z44_Φ n) z44_lv n Try.f13 false [AV.sl b0 [Kd.s, Kd.s, Kd.s, Kd.sl [Kd.b, Kd.i IntKind.i64, Kd.s]] r1 Right.no, AV.sl b2 [Kd.s, Kd.s, Kd.s, Kd.sl [Kd.b, Kd.i IntKind.i64, Kd.s]] r3 Right.no] [] (OSh.chk (OSh.plain (.b) []))
noncomputable def z44_l4 (n : Nat) (b0 : Bool) (r1 : Rows) (b2 : Bool) (r3 : Rows) (i0 : Nat) (j5 : Int) : Option (Bool × Unit) :=
 DM.loopFn tm (z44_Φ n) z44_lv n Try.f13 false [] (OSh.chk (OSh.plain (.b) [])) 4 [] i0 (St.mk [AV.sl b0 [Kd.s, Kd.s, Kd.s, Kd.sl [Kd.b, Kd.i IntKind.i64, Kd.s]] r1 Right.no, AV.sl b2 [Kd.s, Kd.s, Kd.s, Kd.sl [Kd.b, Kd.i IntKind.i64, Kd.s]] r3 Right.no, AV.junk, AV.junk, AV.junk, AV.dv (DV.val (Value.int IntKind.i64 j5)), AV.junk, AV.junk, AV.junk, AV.junk, AV.junk, AV.junk, AV.junk, AV.junk, AV.junk, AV.junk, AV.junk, AV.junk, AV.junk, AV.junk, AV.junk, AV.junk, AV.junk, AV.junk, AV.junk, AV.junk, AV.junk] [])
theorem z44_s4 (n : Nat) (b0 : Bool) (r1 : Rows) (b2 : Bool) (r3 : Rows) (i0 : Nat) (j5 : Int) : z44_l4 n b0 r1 b2 r3 (i0 + 1) j5 =
 bif decide (j5 < (↑(List.length r1) : Int)) then
  if 0 ≤ j5 then
   if j5 < (↑(List.length r1) : Int) then
    if 0 ≤ j5 then
     if j5 < (↑(List.length r3) : Int) then
      obind (z40_v n (Row.S (List.getD r1 (Int.toNat j5) []) 0) (Row.S (List.getD r1 (Int.toNat j5) []) 1) (Row.S (List.getD r1 (Int.toNat j5) []) 2) (Row.N (List.getD r1 (Int.toNat j5) []) 3) (Row.R (List.getD r1 (Int.toNat j5) []) 3) (Row.S (List.getD r3 (Int.toNat j5) []) 0) (Row.S (List.getD r3 (Int.toNat j5) []) 1) (Row.S (List.getD r3 (Int.toNat j5) []) 2) (Row.N (List.getD r3 (Int.toNat j5) []) 3) (Row.R (List.getD r3 (Int.toNat j5) []) 3)) fun y6 =>
      bif y6.fst != 0 then
       some (false, ())
      else z44_l4 n b0 r1 b2 r3 i0 (IntKind.wrap IntKind.i64 (j5 + 1))
     else none
    else none
   else none
  else none
 else some (true, ()) := by kernel_rfl
theorem z44_e (n : Nat) (b0 : Bool) (r1 : Rows) (b2 : Bool) (r3 : Rows) : z44_v n b0 r1 b2 r3 =
 bif (↑(List.length r1) : Int) != (↑(List.length r3) : Int) then
  some (false, ())
 else z44_l4 n b0 r1 b2 r3 n 0 := by kernel_rfl
theorem z44_c (n : Nat) (b0 : Bool) (r1 : Rows) (b2 : Bool) (r3 : Rows) (y : Bool × Unit) (h : z44_v n b0 r1 b2 r3 = some y) : Contract Try.prog 13 [AV.sl b0 [Kd.s, Kd.s, Kd.s, Kd.sl [Kd.b, Kd.i IntKind.i64, Kd.s]] r1 Right.no, AV.sl b2 [Kd.s, Kd.s, Kd.s, Kd.sl [Kd.b, Kd.i IntKind.i64, Kd.s]] r3 Right.no] [] (OSh.enc (OSh.plain (.b) []) y) :=
 auto_okM tm_std (with_ok mixed (by kernel_rfl) (z44_σok n) n 0 [1000045, 1000059]) (with_pick mixed (by kernel_rfl) (z44_σok n) n 0 [1000045, 1000059]) mixed Try.func13 (by decide) (o := (OSh.plain (.b) [])) h
def z22_lv : Live := [(1000006, [1, 28], [])]
noncomputable def z22_σ (n : Nat) : Spec := (inst 36 [.pv [Kd.sl [Kd.i IntKind.i64, Kd.s, Kd.s, Kd.s, Kd.sl [Kd.b, Kd.i IntKind.i64, Kd.s], Kd.sl [Kd.s, Kd.s, Kd.s, Kd.sl [Kd.b, Kd.i IntKind.i64, Kd.s]]], Kd.b] 0] [] (OSh.plain (.b) []) (fun x e => z14_v n x.1) (inst 50 [.sl [Kd.i IntKind.i64, Kd.s, Kd.s, Kd.s, Kd.sl [Kd.b, Kd.i IntKind.i64, Kd.s], Kd.sl [Kd.s, Kd.s, Kd.s, Kd.sl [Kd.b, Kd.i IntKind.i64, Kd.s]]], .agg [.i IntKind.i64, .s, .s, .s, .sl [Kd.b, Kd.i IntKind.i64, Kd.s], .sl [Kd.s, Kd.s, Kd.s, Kd.sl [Kd.b, Kd.i IntKind.i64, Kd.s]]], .fn 51 []] [] (OSh.plain (.tup [.i IntKind.i64, .b]) []) (fun x e => z0_v n x.1.1 x.1.2 x.2.1.1 x.2.1.2.1 x.2.1.2.2.1 x.2.1.2.2.2.1 x.2.1.2.2.2.2.1.1 x.2.1.2.2.2.2.1.2 x.2.1.2.2.2.2.2.1.1 x.2.1.2.2.2.2.2.1.2) (bookH Spec.none)))
theorem z22_σok (n : Nat) : SpecOk Try.prog (z22_σ n) := (inst_ok (fun x e y h => z14_c n x.1 y h) (inst_ok (fun x e y h => z0_c n x.1.1 x.1.2 x.2.1.1 x.2.1.2.1 x.2.1.2.2.1 x.2.1.2.2.2.1 x.2.1.2.2.2.2.1.1 x.2.1.2.2.2.2.1.2 x.2.1.2.2.2.2.2.1.1 x.2.1.2.2.2.2.2.1.2 y h) (bookH_ok (SpecOk.none _))))
noncomputable def z22_Φ (n : Nat) : Orc := with_ Try.prog (z22_σ n) [] n 0 [5000008,  4000024, 1000045, 1000059]
noncomputable def z22_v (n : Nat) (j0 : Int) (s1 : ByteArray) (s2 : ByteArray) (s3 : ByteArray) (b4 : Bool) (r5 : Rows) (b6 : Bool) (r7 : Rows) (b8 : Bool) (r9 : Rows) (b10 : Bool) : Option (Bool × ((Bool × Rows) × Bool × Unit) × Unit) :=
 DM.denFn tm (z22_Φ n) z22_lv n Try.f27 false [AV.pl 1000 0, AV.agg [AV.dv (DV.val (Value.int IntKind.i64 j0)), AV.dv (DV.val (Value.string s1)), AV.dv (DV.val (Value.string s2)), AV.dv (DV.val (Value.string s3)), AV.sl b4 [Kd.b, Kd.i IntKind.i64, Kd.s] r5 Right.no, AV.sl b6 [Kd.s, Kd.s, Kd.s, Kd.sl [Kd.b, Kd.i IntKind.i64, Kd.s]] r7 Right.no]] [[AV.sl b8 [Kd.i IntKind.i64, Kd.s, Kd.s, Kd.s, Kd.sl [Kd.b, Kd.i IntKind.i64, Kd.s], Kd.sl [Kd.s, Kd.s, Kd.s, Kd.sl [Kd.b, Kd.i IntKind.i64, Kd.s]]] r9 Right.no, AV.dv (DV.val (Value.bool b10))]] (OSh.chk (OSh.plain (.b) [[.sl [Kd.i IntKind.i64, Kd.s, Kd.s, Kd.s, Kd.sl [Kd.b, Kd.i IntKind.i64, Kd.s], Kd.sl [Kd.s, Kd.s, Kd.s, Kd.sl [Kd.b, Kd.i IntKind.i64, Kd.s]]], .b]]))
theorem z22_e (n : Nat) (j0 : Int) (s1 : ByteArray) (s2 : ByteArray) (s3 : ByteArray) (b4 : Bool) (r5 : Rows) (b6 : Bool) (r7 : Rows) (b8 : Bool) (r9 : Rows) (b10 : Bool) : z22_v n j0 s1 s2 s3 b4 r5 b6 r7 b8 r9 b10 =
 obind (z14_v n ([DV.sl b8 [Kd.i IntKind.i64, Kd.s, Kd.s, Kd.s, Kd.sl [Kd.b, Kd.i IntKind.i64, Kd.s], Kd.sl [Kd.s, Kd.s, Kd.s, Kd.sl [Kd.b, Kd.i IntKind.i64, Kd.s]]] r9, DV.val (Value.bool b10)])) fun y11 =>
 bif y11.fst then
  some (false, (((b8, r9), (b10, ())), ()))
 else obind (z0_v n b8 r9 j0 s1 s2 s3 b4 r5 b6 r7) fun y12 =>
 bif y12.fst.snd.fst then
  bif b8 then
   none
  else bif Nat.beq 6 6 && Nat.ble (List.length r9) 1000000 then
   if 0 ≤ y12.fst.fst then
    if y12.fst.fst < IntKind.wrap IntKind.i64 (y12.fst.fst + 1) then
     if IntKind.wrap IntKind.i64 (y12.fst.fst + 1) ≤ (↑(List.length r9) : Int) then
      if List.length r9 = List.length r9 then
       if 0 + (List.length r9 - (Int.toNat (IntKind.wrap IntKind.i64 (y12.fst.fst + 1)) - Int.toNat y12.fst.fst)) ≤ List.length (List.take (Int.toNat y12.fst.fst) r9 ++ List.drop (Int.toNat (IntKind.wrap IntKind.i64 (y12.fst.fst + 1))) r9) then
        bif Kd.sameL [Kd.i IntKind.i64, Kd.s, Kd.s, Kd.s, Kd.sl [Kd.b, Kd.i IntKind.i64, Kd.s], Kd.sl [Kd.s, Kd.s, Kd.s, Kd.sl [Kd.b, Kd.i IntKind.i64, Kd.s]]] [Kd.i IntKind.i64, Kd.s, Kd.s, Kd.s, Kd.sl [Kd.b, Kd.i IntKind.i64, Kd.s], Kd.sl [Kd.s, Kd.s, Kd.s, Kd.sl [Kd.b, Kd.i IntKind.i64, Kd.s]]] && Nat.ble (0 + (List.length r9 - (Int.toNat (IntKind.wrap IntKind.i64 (y12.fst.fst + 1)) - Int.toNat y12.fst.fst))) (0 + (List.length r9 - (Int.toNat (IntKind.wrap IntKind.i64 (y12.fst.fst + 1)) - Int.toNat y12.fst.fst))) then
         some (y12.fst.snd.fst, (((false, List.take (List.length r9 - (Int.toNat (IntKind.wrap IntKind.i64 (y12.fst.fst + 1)) - Int.toNat y12.fst.fst)) (List.drop 0 (List.take (Int.toNat y12.fst.fst) r9 ++ List.drop (Int.toNat (IntKind.wrap IntKind.i64 (y12.fst.fst + 1))) r9))), (b10, ())), ()))
        else none
       else none
      else none
     else none
    else none
   else none
  else none
 else some (y12.fst.snd.fst, (((b8, r9), (b10, ())), ())) := by kernel_rfl
theorem z22_c (n : Nat) (j0 : Int) (s1 : ByteArray) (s2 : ByteArray) (s3 : ByteArray) (b4 : Bool) (r5 : Rows) (b6 : Bool) (r7 : Rows) (b8 : Bool) (r9 : Rows) (b10 : Bool) (y : Bool × ((Bool × Rows) × Bool × Unit) × Unit) (h : z22_v n j0 s1 s2 s3 b4 r5 b6 r7 b8 r9 b10 = some y) : Contract Try.prog 27 [AV.pl 1000 0, AV.agg [AV.dv (DV.val (Value.int IntKind.i64 j0)), AV.dv (DV.val (Value.string s1)), AV.dv (DV.val (Value.string s2)), AV.dv (DV.val (Value.string s3)), AV.sl b4 [Kd.b, Kd.i IntKind.i64, Kd.s] r5 Right.no, AV.sl b6 [Kd.s, Kd.s, Kd.s, Kd.sl [Kd.b, Kd.i IntKind.i64, Kd.s]] r7 Right.no]] [[AV.sl b8 [Kd.i IntKind.i64, Kd.s, Kd.s, Kd.s, Kd.sl [Kd.b, Kd.i IntKind.i64, Kd.s], Kd.sl [Kd.s, Kd.s, Kd.s, Kd.sl [Kd.b, Kd.i IntKind.i64, Kd.s]]] r9 Right.no, AV.dv (DV.val (Value.bool b10))]] (OSh.enc (OSh.plain (.b) [[.sl [Kd.i IntKind.i64, Kd.s, Kd.s, Kd.s, Kd.sl [Kd.b, Kd.i IntKind.i64, Kd.s], Kd.sl [Kd.s, Kd.s, Kd.s, Kd.sl [Kd.b, Kd.i IntKind.i64, Kd.s]]], .b]]) y) :=
 auto_okM tm_std (with_ok mixed (by kernel_rfl) (z22_σok n) n 0 [5000008,  4000024, 1000045, 1000059]) (with_pick mixed (by kernel_rfl) (z22_σok n) n 0 [5000008,  4000024, 1000045, 1000059]) mixed Try.func27 (by decide) (o := (OSh.plain (.b) [[.sl [Kd.i IntKind.i64, Kd.s, Kd.s, Kd.s, Kd.sl [Kd.b, Kd.i IntKind.i64, Kd.s], Kd.sl [Kd.s, Kd.s, Kd.s, Kd.sl [Kd.b, Kd.i IntKind.i64, Kd.s]]], .b]])) h
def z16_lv : Live := [(3, [0, 3, 5, 6], [3, 1000, 1001, 1002, 1003])]
noncomputable def z16_σ (n : Nat) : Spec := (inst 21 [.agg [.i IntKind.i64, .s, .s, .s, .sl [Kd.b, Kd.i IntKind.i64, Kd.s], .sl [Kd.s, Kd.s, Kd.s, Kd.sl [Kd.b, Kd.i IntKind.i64, Kd.s]]], .agg [.i IntKind.i64, .s, .s, .s, .sl [Kd.b, Kd.i IntKind.i64, Kd.s], .sl [Kd.s, Kd.s, Kd.s, Kd.sl [Kd.b, Kd.i IntKind.i64, Kd.s]]]] [] (OSh.plain (.i IntKind.i64) []) (fun x e => z31_v n x.1.1 x.1.2.1 x.1.2.2.1 x.1.2.2.2.1 x.1.2.2.2.2.1.1 x.1.2.2.2.2.1.2 x.1.2.2.2.2.2.1.1 x.1.2.2.2.2.2.1.2 x.2.1.1 x.2.1.2.1 x.2.1.2.2.1 x.2.1.2.2.2.1 x.2.1.2.2.2.2.1.1 x.2.1.2.2.2.2.1.2 x.2.1.2.2.2.2.2.1.1 x.2.1.2.2.2.2.2.1.2) (bookH Spec.none))
theorem z16_σok (n : Nat) : SpecOk Try.prog (z16_σ n) := (inst_ok (fun x e y h => z31_c n x.1.1 x.1.2.1 x.1.2.2.1 x.1.2.2.2.1 x.1.2.2.2.2.1.1 x.1.2.2.2.2.1.2 x.1.2.2.2.2.2.1.1 x.1.2.2.2.2.2.1.2 x.2.1.1 x.2.1.2.1 x.2.1.2.2.1 x.2.1.2.2.2.1 x.2.1.2.2.2.2.1.1 x.2.1.2.2.2.2.1.2 x.2.1.2.2.2.2.2.1.1 x.2.1.2.2.2.2.2.1.2 y h) (bookH_ok (SpecOk.none _)))
noncomputable def z16_Φ (n : Nat) : Orc := with_ Try.prog (z16_σ n) [] n 0 [1000045, 1000059]
noncomputable def z16_v (n : Nat) (j0 : Int) (s1 : ByteArray) (s2 : ByteArray) (s3 : ByteArray) (b4 : Bool) (r5 : Rows) (b6 : Bool) (r7 : Rows) (b8 : Bool) (r9 : Rows) : Option (Bool × ((Bool × Rows) × Unit) × Unit) :=
 DM.denFn tm (z16_Φ n) z16_lv n Try.f28 false [AV.pl 1000 0, AV.agg [AV.dv (DV.val (Value.int IntKind.i64 j0)), AV.dv (DV.val (Value.string s1)), AV.dv (DV.val (Value.string s2)), AV.dv (DV.val (Value.string s3)), AV.sl b4 [Kd.b, Kd.i IntKind.i64, Kd.s] r5 Right.no, AV.sl b6 [Kd.s, Kd.s, Kd.s, Kd.sl [Kd.b, Kd.i IntKind.i64, Kd.s]] r7 Right.no]] [[AV.sl b8 [Kd.i IntKind.i64, Kd.s, Kd.s, Kd.s, Kd.sl [Kd.b, Kd.i IntKind.i64, Kd.s], Kd.sl [Kd.s, Kd.s, Kd.s, Kd.sl [Kd.b, Kd.i IntKind.i64, Kd.s]]] r9 Right.no]] (OSh.chk (OSh.plain (.b) [[.sl [Kd.i IntKind.i64, Kd.s, Kd.s, Kd.s, Kd.sl [Kd.b, Kd.i IntKind.i64, Kd.s], Kd.sl [Kd.s, Kd.s, Kd.s, Kd.sl [Kd.b, Kd.i IntKind.i64, Kd.s]]]]]))
noncomputable def z16_l3 (n : Nat) (j0 : Int) (s1 : ByteArray) (s2 : ByteArray) (s3 : ByteArray) (b4 : Bool) (r5 : Rows) (b6 : Bool) (r7 : Rows) (b8 : Bool) (r9 : Rows) (i0 : Nat) (b11 : Bool) (r12 : List (List DV)) (j13 : Int) : Option (Bool × ((Bool × Rows) × Unit) × Unit) :=
 DM.loopFn tm (z16_Φ n) z16_lv n Try.f28 false [[AV.sl b8 [Kd.i IntKind.i64, Kd.s, Kd.s, Kd.s, Kd.sl [Kd.b, Kd.i IntKind.i64, Kd.s], Kd.sl [Kd.s, Kd.s, Kd.s, Kd.sl [Kd.b, Kd.i IntKind.i64, Kd.s]]] r9 Right.no]] (OSh.chk (OSh.plain (.b) [[.sl [Kd.i IntKind.i64, Kd.s, Kd.s, Kd.s, Kd.sl [Kd.b, Kd.i IntKind.i64, Kd.s], Kd.sl [Kd.s, Kd.s, Kd.s, Kd.sl [Kd.b, Kd.i IntKind.i64, Kd.s]]]]])) 3 [] i0 (St.mk [AV.pl 1000 0, AV.junk, AV.junk, AV.pl 3 0, AV.junk, AV.sl b11 [Kd.i IntKind.i64, Kd.s, Kd.s, Kd.s, Kd.sl [Kd.b, Kd.i IntKind.i64, Kd.s], Kd.sl [Kd.s, Kd.s, Kd.s, Kd.sl [Kd.b, Kd.i IntKind.i64, Kd.s]]] r12 (Right.tok 5), AV.dv (DV.val (Value.int IntKind.i64 j13)), AV.junk, AV.junk, AV.junk, AV.junk, AV.junk, AV.junk, AV.junk, AV.junk, AV.junk, AV.junk, AV.junk, AV.junk, AV.junk, AV.junk, AV.junk, AV.junk, AV.junk, AV.junk, AV.junk, AV.junk, AV.junk, AV.junk, AV.junk, AV.junk, AV.junk, AV.junk, AV.junk, AV.junk, AV.junk, AV.junk, AV.junk, AV.junk, AV.junk, AV.junk, AV.junk, AV.junk, AV.junk, AV.junk, AV.junk, AV.junk, AV.junk, AV.junk, AV.junk] [(1000, [AV.sl b8 [Kd.i IntKind.i64, Kd.s, Kd.s, Kd.s, Kd.sl [Kd.b, Kd.i IntKind.i64, Kd.s], Kd.sl [Kd.s, Kd.s, Kd.s, Kd.sl [Kd.b, Kd.i IntKind.i64, Kd.s]]] r9 Right.no]), (3, [AV.dv (DV.val (Value.int IntKind.i64 j0)), AV.dv (DV.val (Value.string s1)), AV.dv (DV.val (Value.string s2)), AV.dv (DV.val (Value.string s3)), AV.sl b4 [Kd.b, Kd.i IntKind.i64, Kd.s] r5 Right.no, AV.sl b6 [Kd.s, Kd.s, Kd.s, Kd.sl [Kd.b, Kd.i IntKind.i64, Kd.s]] r7 Right.no])])
theorem z16_s3 (n : Nat) (j0 : Int) (s1 : ByteArray) (s2 : ByteArray) (s3 : ByteArray) (b4 : Bool) (r5 : Rows) (b6 : Bool) (r7 : Rows) (b8 : Bool) (r9 : Rows) (i0 : Nat) (b11 : Bool) (r12 : List (List DV)) (j13 : Int) : z16_l3 n j0 s1 s2 s3 b4 r5 b6 r7 b8 r9 (i0 + 1) b11 r12 j13 =
 bif decide (j13 < (↑(List.length r9) : Int)) then
  if 0 ≤ j13 then
   if j13 < (↑(List.length r9) : Int) then
    obind (z31_v n (Row.I (List.getD r9 (Int.toNat j13) []) 0) (Row.S (List.getD r9 (Int.toNat j13) []) 1) (Row.S (List.getD r9 (Int.toNat j13) []) 2) (Row.S (List.getD r9 (Int.toNat j13) []) 3) (Row.N (List.getD r9 (Int.toNat j13) []) 4) (Row.R (List.getD r9 (Int.toNat j13) []) 4) (Row.N (List.getD r9 (Int.toNat j13) []) 5) (Row.R (List.getD r9 (Int.toNat j13) []) 5) j0 s1 s2 s3 b4 r5 b6 r7) fun y14 =>
    bif y14.fst != 0 then
     if 0 ≤ j13 then
      if j13 < (↑(List.length r9) : Int) then
       if (List.length r12 + List.length [[DV.val (Value.int IntKind.i64 (Row.I (List.getD r9 (Int.toNat j13) []) 0)), DV.val (Value.string (Row.S (List.getD r9 (Int.toNat j13) []) 1)), DV.val (Value.string (Row.S (List.getD r9 (Int.toNat j13) []) 2)), DV.val (Value.string (Row.S (List.getD r9 (Int.toNat j13) []) 3)), DV.sl (Row.N (List.getD r9 (Int.toNat j13) []) 4) [Kd.b, Kd.i IntKind.i64, Kd.s] (Row.R (List.getD r9 (Int.toNat j13) []) 4), DV.sl (Row.N (List.getD r9 (Int.toNat j13) []) 5) [Kd.s, Kd.s, Kd.s, Kd.sl [Kd.b, Kd.i IntKind.i64, Kd.s]] (Row.R (List.getD r9 (Int.toNat j13) []) 5)]]) * 104 ≤ 140737488355328 then
        z16_l3 n j0 s1 s2 s3 b4 r5 b6 r7 b8 r9 i0 (b11 && List.isEmpty [[DV.val (Value.int IntKind.i64 (Row.I (List.getD r9 (Int.toNat j13) []) 0)), DV.val (Value.string (Row.S (List.getD r9 (Int.toNat j13) []) 1)), DV.val (Value.string (Row.S (List.getD r9 (Int.toNat j13) []) 2)), DV.val (Value.string (Row.S (List.getD r9 (Int.toNat j13) []) 3)), DV.sl (Row.N (List.getD r9 (Int.toNat j13) []) 4) [Kd.b, Kd.i IntKind.i64, Kd.s] (Row.R (List.getD r9 (Int.toNat j13) []) 4), DV.sl (Row.N (List.getD r9 (Int.toNat j13) []) 5) [Kd.s, Kd.s, Kd.s, Kd.sl [Kd.b, Kd.i IntKind.i64, Kd.s]] (Row.R (List.getD r9 (Int.toNat j13) []) 5)]]) (appX r12 [[DV.val (Value.int IntKind.i64 (Row.I (List.getD r9 (Int.toNat j13) []) 0)), DV.val (Value.string (Row.S (List.getD r9 (Int.toNat j13) []) 1)), DV.val (Value.string (Row.S (List.getD r9 (Int.toNat j13) []) 2)), DV.val (Value.string (Row.S (List.getD r9 (Int.toNat j13) []) 3)), DV.sl (Row.N (List.getD r9 (Int.toNat j13) []) 4) [Kd.b, Kd.i IntKind.i64, Kd.s] (Row.R (List.getD r9 (Int.toNat j13) []) 4), DV.sl (Row.N (List.getD r9 (Int.toNat j13) []) 5) [Kd.s, Kd.s, Kd.s, Kd.sl [Kd.b, Kd.i IntKind.i64, Kd.s]] (Row.R (List.getD r9 (Int.toNat j13) []) 5)]]) (IntKind.wrap IntKind.i64 (j13 + 1))
       else none
      else none
     else none
    else z16_l3 n j0 s1 s2 s3 b4 r5 b6 r7 b8 r9 i0 b11 r12 (IntKind.wrap IntKind.i64 (j13 + 1))
   else none
  else none
 else some (decide ((↑(List.length r12) : Int) < (↑(List.length r9) : Int)), (((b11, r12), ()), ())) := by kernel_rfl
theorem z16_e (n : Nat) (j0 : Int) (s1 : ByteArray) (s2 : ByteArray) (s3 : ByteArray) (b4 : Bool) (r5 : Rows) (b6 : Bool) (r7 : Rows) (b8 : Bool) (r9 : Rows) : z16_v n j0 s1 s2 s3 b4 r5 b6 r7 b8 r9 =
 z16_l3 n j0 s1 s2 s3 b4 r5 b6 r7 b8 r9 n true [] 0 := by kernel_rfl
theorem z16_c (n : Nat) (j0 : Int) (s1 : ByteArray) (s2 : ByteArray) (s3 : ByteArray) (b4 : Bool) (r5 : Rows) (b6 : Bool) (r7 : Rows) (b8 : Bool) (r9 : Rows) (y : Bool × ((Bool × Rows) × Unit) × Unit) (h : z16_v n j0 s1 s2 s3 b4 r5 b6 r7 b8 r9 = some y) : Contract Try.prog 28 [AV.pl 1000 0, AV.agg [AV.dv (DV.val (Value.int IntKind.i64 j0)), AV.dv (DV.val (Value.string s1)), AV.dv (DV.val (Value.string s2)), AV.dv (DV.val (Value.string s3)), AV.sl b4 [Kd.b, Kd.i IntKind.i64, Kd.s] r5 Right.no, AV.sl b6 [Kd.s, Kd.s, Kd.s, Kd.sl [Kd.b, Kd.i IntKind.i64, Kd.s]] r7 Right.no]] [[AV.sl b8 [Kd.i IntKind.i64, Kd.s, Kd.s, Kd.s, Kd.sl [Kd.b, Kd.i IntKind.i64, Kd.s], Kd.sl [Kd.s, Kd.s, Kd.s, Kd.sl [Kd.b, Kd.i IntKind.i64, Kd.s]]] r9 Right.no]] (OSh.enc (OSh.plain (.b) [[.sl [Kd.i IntKind.i64, Kd.s, Kd.s, Kd.s, Kd.sl [Kd.b, Kd.i IntKind.i64, Kd.s], Kd.sl [Kd.s, Kd.s, Kd.s, Kd.sl [Kd.b, Kd.i IntKind.i64, Kd.s]]]]]) y) :=
 auto_okM tm_std (with_ok mixed (by kernel_rfl) (z16_σok n) n 0 [1000045, 1000059]) (with_pick mixed (by kernel_rfl) (z16_σok n) n 0 [1000045, 1000059]) mixed Try.func28 (by decide) (o := (OSh.plain (.b) [[.sl [Kd.i IntKind.i64, Kd.s, Kd.s, Kd.s, Kd.sl [Kd.b, Kd.i IntKind.i64, Kd.s], Kd.sl [Kd.s, Kd.s, Kd.s, Kd.sl [Kd.b, Kd.i IntKind.i64, Kd.s]]]]])) h
def z17_lv : Live := [(3000010, [1, 9], [])]
noncomputable def z17_σ (n : Nat) : Spec := (inst 36 [.pv [Kd.sl [Kd.i IntKind.i64, Kd.s, Kd.s, Kd.s, Kd.sl [Kd.b, Kd.i IntKind.i64, Kd.s], Kd.sl [Kd.s, Kd.s, Kd.s, Kd.sl [Kd.b, Kd.i IntKind.i64, Kd.s]]], Kd.b] 0] [] (OSh.plain (.b) []) (fun x e => z14_v n x.1) (bookH Spec.none))
theorem z17_σok (n : Nat) : SpecOk Try.prog (z17_σ n) := (inst_ok (fun x e y h => z14_c n x.1 y h) (bookH_ok (SpecOk.none _)))
noncomputable def z17_Φ (n : Nat) : Orc := with_ Try.prog (z17_σ n) [] n 0 [5000004,  4000009, 1000045, 1000059]
noncomputable def z17_v (n : Nat) (b0 : Bool) (r1 : Rows) (b2 : Bool) : Option (Unit × ((Bool × Rows) × Bool × Unit) × ((Bool × Rows) × Bool × Unit) × Unit) :=
 DM.denFnN tm (z17_Φ n) z17_lv n Try.f29 [11] [AV.pl 1000 0] [[AV.sl b0 [Kd.i IntKind.i64, Kd.s, Kd.s, Kd.s, Kd.sl [Kd.b, Kd.i IntKind.i64, Kd.s], Kd.sl [Kd.s, Kd.s, Kd.s, Kd.sl [Kd.b, Kd.i IntKind.i64, Kd.s]]] r1 Right.no, AV.dv (DV.val (Value.bool b2))]] (OSh.chk (OSh.plain (.pl 1001 0) [[.sl [Kd.i IntKind.i64, Kd.s, Kd.s, Kd.s, Kd.sl [Kd.b, Kd.i IntKind.i64, Kd.s], Kd.sl [Kd.s, Kd.s, Kd.s, Kd.sl [Kd.b, Kd.i IntKind.i64, Kd.s]]], .b], [.sl [Kd.i IntKind.i64, Kd.s, Kd.s, Kd.s, Kd.sl [Kd.b, Kd.i IntKind.i64, Kd.s], Kd.sl [Kd.s, Kd.s, Kd.s, Kd.sl [Kd.b, Kd.i IntKind.i64, Kd.s]]], .b]]))
theorem z17_e (n : Nat) (b0 : Bool) (r1 : Rows) (b2 : Bool) : z17_v n b0 r1 b2 =
 obind (z14_v n ([DV.sl b0 [Kd.i IntKind.i64, Kd.s, Kd.s, Kd.s, Kd.sl [Kd.b, Kd.i IntKind.i64, Kd.s], Kd.sl [Kd.s, Kd.s, Kd.s, Kd.sl [Kd.b, Kd.i IntKind.i64, Kd.s]]] r1, DV.val (Value.bool b2)])) fun y3 =>
 bif y3.fst then
  none
 else bif b0 then
  some ((), (((b0, r1), (b2, ())), (((true, []), (true, ())), ())))
 else bif Nat.beq 6 6 && Nat.ble (List.length r1) 1000000 then
  if 0 + List.length r1 ≤ List.length r1 then
   some ((), (((b0, r1), (b2, ())), (((false, List.take (List.length r1) (List.drop 0 r1)), (true, ())), ())))
  else none
 else none := by kernel_rfl
theorem z17_c (n : Nat) (b0 : Bool) (r1 : Rows) (b2 : Bool) (y : Unit × ((Bool × Rows) × Bool × Unit) × ((Bool × Rows) × Bool × Unit) × Unit) (h : z17_v n b0 r1 b2 = some y) : Contract Try.prog 29 [AV.pl 1000 0] [[AV.sl b0 [Kd.i IntKind.i64, Kd.s, Kd.s, Kd.s, Kd.sl [Kd.b, Kd.i IntKind.i64, Kd.s], Kd.sl [Kd.s, Kd.s, Kd.s, Kd.sl [Kd.b, Kd.i IntKind.i64, Kd.s]]] r1 Right.no, AV.dv (DV.val (Value.bool b2))]] (OSh.enc (OSh.plain (.pl 1001 0) [[.sl [Kd.i IntKind.i64, Kd.s, Kd.s, Kd.s, Kd.sl [Kd.b, Kd.i IntKind.i64, Kd.s], Kd.sl [Kd.s, Kd.s, Kd.s, Kd.sl [Kd.b, Kd.i IntKind.i64, Kd.s]]], .b], [.sl [Kd.i IntKind.i64, Kd.s, Kd.s, Kd.s, Kd.sl [Kd.b, Kd.i IntKind.i64, Kd.s], Kd.sl [Kd.s, Kd.s, Kd.s, Kd.sl [Kd.b, Kd.i IntKind.i64, Kd.s]]], .b]]) y) :=
 autoN_okM tm_std (with_ok mixed (by kernel_rfl) (z17_σok n) n 0 [5000004,  4000009, 1000045, 1000059]) mixed Try.func29 (by decide) (o := (OSh.plain (.pl 1001 0) [[.sl [Kd.i IntKind.i64, Kd.s, Kd.s, Kd.s, Kd.sl [Kd.b, Kd.i IntKind.i64, Kd.s], Kd.sl [Kd.s, Kd.s, Kd.s, Kd.sl [Kd.b, Kd.i IntKind.i64, Kd.s]]], .b], [.sl [Kd.i IntKind.i64, Kd.s, Kd.s, Kd.s, Kd.sl [Kd.b, Kd.i IntKind.i64, Kd.s], Kd.sl [Kd.s, Kd.s, Kd.s, Kd.sl [Kd.b, Kd.i IntKind.i64, Kd.s]]], .b]])) h
end Go.Den

