import Derived.Test.YtkgiabbndbmmbaaZ17
set_option linter.unusedVariables false
set_option linter.unusedSimpArgs false
set_option linter.unusedSectionVars false
namespace Go.Den
open Go.Proofs
set_option maxRecDepth 100000
def z23_lv : Live := [(6, [0, 3, 5, 6, 7], [3, 15, 17, 56, 315, 356, 615, 656, 1000, 1001, 1002, 1003]), (1000005, [3, 17], []), (1000020, [7, 56, 15], [])]
noncomputable def z23_σ (n : Nat) : Spec := (inst 23 [.sl [Kd.i IntKind.i64, Kd.i IntKind.i64, Kd.s, Kd.s, Kd.s, Kd.sl [Kd.b, Kd.i IntKind.i64, Kd.s], Kd.sl [Kd.s, Kd.s, Kd.s, Kd.sl [Kd.b, Kd.i IntKind.i64, Kd.s]]]] [] (OSh.plain (.b) []) (fun x e => z42_v n x.1.1 x.1.2) (inst 10 [] [] (OSh.plain (.b) []) (fun x e => z43_v n) (inst 24 [] [] (OSh.plain (.pl 1000 0) [[.sl [Kd.i IntKind.i64, Kd.s, Kd.s, Kd.s, Kd.sl [Kd.b, Kd.i IntKind.i64, Kd.s], Kd.sl [Kd.s, Kd.s, Kd.s, Kd.sl [Kd.b, Kd.i IntKind.i64, Kd.s]]], .b]]) (fun x e => z52_v n) (inst 25 [.pl 1000 0, .agg [.i IntKind.i64, .s, .s, .s, .sl [Kd.b, Kd.i IntKind.i64, Kd.s], .sl [Kd.s, Kd.s, Kd.s, Kd.sl [Kd.b, Kd.i IntKind.i64, Kd.s]]]] [[.sl [Kd.i IntKind.i64, Kd.s, Kd.s, Kd.s, Kd.sl [Kd.b, Kd.i IntKind.i64, Kd.s], Kd.sl [Kd.s, Kd.s, Kd.s, Kd.sl [Kd.b, Kd.i IntKind.i64, Kd.s]]], .b]] (OSh.plain (.b) [[.sl [Kd.i IntKind.i64, Kd.s, Kd.s, Kd.s, Kd.sl [Kd.b, Kd.i IntKind.i64, Kd.s], Kd.sl [Kd.s, Kd.s, Kd.s, Kd.sl [Kd.b, Kd.i IntKind.i64, Kd.s]]], .b]]) (fun x e => z30_v n x.2.1.1 x.2.1.2.1 x.2.1.2.2.1 x.2.1.2.2.2.1 x.2.1.2.2.2.2.1.1 x.2.1.2.2.2.2.1.2 x.2.1.2.2.2.2.2.1.1 x.2.1.2.2.2.2.2.1.2 e.1.1.1 e.1.1.2 e.1.2.1) (inst 26 [.pl 1000 0, .agg [.i IntKind.i64, .s, .s, .s, .sl [Kd.b, Kd.i IntKind.i64, Kd.s], .sl [Kd.s, Kd.s, Kd.s, Kd.sl [Kd.b, Kd.i IntKind.i64, Kd.s]]]] [[.sl [Kd.i IntKind.i64, Kd.s, Kd.s, Kd.s, Kd.sl [Kd.b, Kd.i IntKind.i64, Kd.s], Kd.sl [Kd.s, Kd.s, Kd.s, Kd.sl [Kd.b, Kd.i IntKind.i64, Kd.s]]]]] (OSh.plain (.b) [[.sl [Kd.i IntKind.i64, Kd.s, Kd.s, Kd.s, Kd.sl [Kd.b, Kd.i IntKind.i64, Kd.s], Kd.sl [Kd.s, Kd.s, Kd.s, Kd.sl [Kd.b, Kd.i IntKind.i64, Kd.s]]]]]) (fun x e => z24_v n x.2.1.1 x.2.1.2.1 x.2.1.2.2.1 x.2.1.2.2.2.1 x.2.1.2.2.2.2.1.1 x.2.1.2.2.2.2.1.2 x.2.1.2.2.2.2.2.1.1 x.2.1.2.2.2.2.2.1.2 e.1.1.1 e.1.1.2) (inst 22 [.pl 1000 0] [[.sl [Kd.i IntKind.i64, Kd.s, Kd.s, Kd.s, Kd.sl [Kd.b, Kd.i IntKind.i64, Kd.s], Kd.sl [Kd.s, Kd.s, Kd.s, Kd.sl [Kd.b, Kd.i IntKind.i64, Kd.s]]], .b]] (OSh.plain (.i IntKind.i64) [[.sl [Kd.i IntKind.i64, Kd.s, Kd.s, Kd.s, Kd.sl [Kd.b, Kd.i IntKind.i64, Kd.s], Kd.sl [Kd.s, Kd.s, Kd.s, Kd.sl [Kd.b, Kd.i IntKind.i64, Kd.s]]], .b]]) (fun x e => z28_v n e.1.1.1 e.1.1.2 e.1.2.1) (inst 17 [.pl 1000 0, .agg [.s, .s, .s, .sl [Kd.b, Kd.i IntKind.i64, Kd.s]]] [[.sl [Kd.i IntKind.i64, Kd.s, Kd.s, Kd.s, Kd.sl [Kd.b, Kd.i IntKind.i64, Kd.s], Kd.sl [Kd.s, Kd.s, Kd.s, Kd.sl [Kd.b, Kd.i IntKind.i64, Kd.s]]], .b]] (OSh.plain (.slt [Kd.i IntKind.i64, Kd.s, Kd.s, Kd.s, Kd.sl [Kd.b, Kd.i IntKind.i64, Kd.s], Kd.sl [Kd.s, Kd.s, Kd.s, Kd.sl [Kd.b, Kd.i IntKind.i64, Kd.s]]] 0) [[.sl [Kd.i IntKind.i64, Kd.s, Kd.s, Kd.s, Kd.sl [Kd.b, Kd.i IntKind.i64, Kd.s], Kd.sl [Kd.s, Kd.s, Kd.s, Kd.sl [Kd.b, Kd.i IntKind.i64, Kd.s]]], .b]]) (fun x e => z36_v n x.2.1.1 x.2.1.2.1 x.2.1.2.2.1 x.2.1.2.2.2.1.1 x.2.1.2.2.2.1.2 e.1.1.1 e.1.1.2 e.1.2.1) (inst 31 [.pl 1000 0, .agg [.s, .s, .s, .sl [Kd.b, Kd.i IntKind.i64, Kd.s]]] [[.sl [Kd.i IntKind.i64, Kd.s, Kd.s, Kd.s, Kd.sl [Kd.b, Kd.i IntKind.i64, Kd.s], Kd.sl [Kd.s, Kd.s, Kd.s, Kd.sl [Kd.b, Kd.i IntKind.i64, Kd.s]]]]] (OSh.plain (.slt [Kd.i IntKind.i64, Kd.s, Kd.s, Kd.s, Kd.sl [Kd.b, Kd.i IntKind.i64, Kd.s], Kd.sl [Kd.s, Kd.s, Kd.s, Kd.sl [Kd.b, Kd.i IntKind.i64, Kd.s]]] 0) [[.sl [Kd.i IntKind.i64, Kd.s, Kd.s, Kd.s, Kd.sl [Kd.b, Kd.i IntKind.i64, Kd.s], Kd.sl [Kd.s, Kd.s, Kd.s, Kd.sl [Kd.b, Kd.i IntKind.i64, Kd.s]]]]]) (fun x e => z27_v n x.2.1.1 x.2.1.2.1 x.2.1.2.2.1 x.2.1.2.2.2.1.1 x.2.1.2.2.2.1.2 e.1.1.1 e.1.1.2) (inst 30 [.sl [Kd.i IntKind.i64, Kd.s, Kd.s, Kd.s, Kd.sl [Kd.b, Kd.i IntKind.i64, Kd.s], Kd.sl [Kd.s, Kd.s, Kd.s, Kd.sl [Kd.b, Kd.i IntKind.i64, Kd.s]]], .sl [Kd.i IntKind.i64, Kd.s, Kd.s, Kd.s, Kd.sl [Kd.b, Kd.i IntKind.i64, Kd.s], Kd.sl [Kd.s, Kd.s, Kd.s, Kd.sl [Kd.b, Kd.i IntKind.i64, Kd.s]]]] [] (OSh.plain (.b) []) (fun x e => z47_v n x.1.1 x.1.2 x.2.1.1 x.2.1.2) (inst 20 [.pl 1000 0, .agg [.s, .s, .s, .sl [Kd.b, Kd.i IntKind.i64, Kd.s]]] [[.sl [Kd.i IntKind.i64, Kd.s, Kd.s, Kd.s, Kd.sl [Kd.b, Kd.i IntKind.i64, Kd.s], Kd.sl [Kd.s, Kd.s, Kd.s, Kd.sl [Kd.b, Kd.i IntKind.i64, Kd.s]]], .b]] (OSh.plain (.slt [Kd.i IntKind.i64, Kd.s, Kd.s, Kd.s, Kd.sl [Kd.b, Kd.i IntKind.i64, Kd.s], Kd.sl [Kd.s, Kd.s, Kd.s, Kd.sl [Kd.b, Kd.i IntKind.i64, Kd.s]]] 0) [[.sl [Kd.i IntKind.i64, Kd.s, Kd.s, Kd.s, Kd.sl [Kd.b, Kd.i IntKind.i64, Kd.s], Kd.sl [Kd.s, Kd.s, Kd.s, Kd.sl [Kd.b, Kd.i IntKind.i64, Kd.s]]], .b]]) (fun x e => z25_v n x.2.1.1 x.2.1.2.1 x.2.1.2.2.1 x.2.1.2.2.2.1.1 x.2.1.2.2.2.1.2 e.1.1.1 e.1.1.2 e.1.2.1) (inst 32 [.pl 1000 0, .agg [.s, .s, .s, .sl [Kd.b, Kd.i IntKind.i64, Kd.s]]] [[.sl [Kd.i IntKind.i64, Kd.s, Kd.s, Kd.s, Kd.sl [Kd.b, Kd.i IntKind.i64, Kd.s], Kd.sl [Kd.s, Kd.s, Kd.s, Kd.sl [Kd.b, Kd.i IntKind.i64, Kd.s]]]]] (OSh.plain (.slt [Kd.i IntKind.i64, Kd.s, Kd.s, Kd.s, Kd.sl [Kd.b, Kd.i IntKind.i64, Kd.s], Kd.sl [Kd.s, Kd.s, Kd.s, Kd.sl [Kd.b, Kd.i IntKind.i64, Kd.s]]] 0) [[.sl [Kd.i IntKind.i64, Kd.s, Kd.s, Kd.s, Kd.sl [Kd.b, Kd.i IntKind.i64, Kd.s], Kd.sl [Kd.s, Kd.s, Kd.s, Kd.sl [Kd.b, Kd.i IntKind.i64, Kd.s]]]]]) (fun x e => z19_v n x.2.1.1 x.2.1.2.1 x.2.1.2.2.1 x.2.1.2.2.2.1.1 x.2.1.2.2.2.1.2 e.1.1.1 e.1.1.2) (inst 19 [.pl 1000 0] [[.sl [Kd.i IntKind.i64, Kd.s, Kd.s, Kd.s, Kd.sl [Kd.b, Kd.i IntKind.i64, Kd.s], Kd.sl [Kd.s, Kd.s, Kd.s, Kd.sl [Kd.b, Kd.i IntKind.i64, Kd.s]]], .b]] (OSh.plain (.slt [Kd.s, Kd.s, Kd.s, Kd.sl [Kd.b, Kd.i IntKind.i64, Kd.s]] 0) [[.sl [Kd.i IntKind.i64, Kd.s, Kd.s, Kd.s, Kd.sl [Kd.b, Kd.i IntKind.i64, Kd.s], Kd.sl [Kd.s, Kd.s, Kd.s, Kd.sl [Kd.b, Kd.i IntKind.i64, Kd.s]]], .b]]) (fun x e => z21_v n e.1.1.1 e.1.1.2 e.1.2.1) (inst 33 [.pl 1000 0] [[.sl [Kd.i IntKind.i64, Kd.s, Kd.s, Kd.s, Kd.sl [Kd.b, Kd.i IntKind.i64, Kd.s], Kd.sl [Kd.s, Kd.s, Kd.s, Kd.sl [Kd.b, Kd.i IntKind.i64, Kd.s]]]]] (OSh.plain (.slt [Kd.s, Kd.s, Kd.s, Kd.sl [Kd.b, Kd.i IntKind.i64, Kd.s]] 0) [[.sl [Kd.i IntKind.i64, Kd.s, Kd.s, Kd.s, Kd.sl [Kd.b, Kd.i IntKind.i64, Kd.s], Kd.sl [Kd.s, Kd.s, Kd.s, Kd.sl [Kd.b, Kd.i IntKind.i64, Kd.s]]]]]) (fun x e => z15_v n e.1.1.1 e.1.1.2) (inst 13 [.sl [Kd.s, Kd.s, Kd.s, Kd.sl [Kd.b, Kd.i IntKind.i64, Kd.s]], .sl [Kd.s, Kd.s, Kd.s, Kd.sl [Kd.b, Kd.i IntKind.i64, Kd.s]]] [] (OSh.plain (.b) []) (fun x e => z44_v n x.1.1 x.1.2 x.2.1.1 x.2.1.2) (inst 27 [.pl 1000 0, .agg [.i IntKind.i64, .s, .s, .s, .sl [Kd.b, Kd.i IntKind.i64, Kd.s], .sl [Kd.s, Kd.s, Kd.s, Kd.sl [Kd.b, Kd.i IntKind.i64, Kd.s]]]] [[.sl [Kd.i IntKind.i64, Kd.s, Kd.s, Kd.s, Kd.sl [Kd.b, Kd.i IntKind.i64, Kd.s], Kd.sl [Kd.s, Kd.s, Kd.s, Kd.sl [Kd.b, Kd.i IntKind.i64, Kd.s]]], .b]] (OSh.plain (.b) [[.sl [Kd.i IntKind.i64, Kd.s, Kd.s, Kd.s, Kd.sl [Kd.b, Kd.i IntKind.i64, Kd.s], Kd.sl [Kd.s, Kd.s, Kd.s, Kd.sl [Kd.b, Kd.i IntKind.i64, Kd.s]]], .b]]) (fun x e => z22_v n x.2.1.1 x.2.1.2.1 x.2.1.2.2.1 x.2.1.2.2.2.1 x.2.1.2.2.2.2.1.1 x.2.1.2.2.2.2.1.2 x.2.1.2.2.2.2.2.1.1 x.2.1.2.2.2.2.2.1.2 e.1.1.1 e.1.1.2 e.1.2.1) (inst 28 [.pl 1000 0, .agg [.i IntKind.i64, .s, .s, .s, .sl [Kd.b, Kd.i IntKind.i64, Kd.s], .sl [Kd.s, Kd.s, Kd.s, Kd.sl [Kd.b, Kd.i IntKind.i64, Kd.s]]]] [[.sl [Kd.i IntKind.i64, Kd.s, Kd.s, Kd.s, Kd.sl [Kd.b, Kd.i IntKind.i64, Kd.s], Kd.sl [Kd.s, Kd.s, Kd.s, Kd.sl [Kd.b, Kd.i IntKind.i64, Kd.s]]]]] (OSh.plain (.b) [[.sl [Kd.i IntKind.i64, Kd.s, Kd.s, Kd.s, Kd.sl [Kd.b, Kd.i IntKind.i64, Kd.s], Kd.sl [Kd.s, Kd.s, Kd.s, Kd.sl [Kd.b, Kd.i IntKind.i64, Kd.s]]]]]) (fun x e => z16_v n x.2.1.1 x.2.1.2.1 x.2.1.2.2.1 x.2.1.2.2.2.1 x.2.1.2.2.2.2.1.1 x.2.1.2.2.2.2.1.2 x.2.1.2.2.2.2.2.1.1 x.2.1.2.2.2.2.2.1.2 e.1.1.1 e.1.1.2) (inst 29 [.pl 1000 0] [[.sl [Kd.i IntKind.i64, Kd.s, Kd.s, Kd.s, Kd.sl [Kd.b, Kd.i IntKind.i64, Kd.s], Kd.sl [Kd.s, Kd.s, Kd.s, Kd.sl [Kd.b, Kd.i IntKind.i64, Kd.s]]], .b]] (OSh.plain (.pl 1001 0) [[.sl [Kd.i IntKind.i64, Kd.s, Kd.s, Kd.s, Kd.sl [Kd.b, Kd.i IntKind.i64, Kd.s], Kd.sl [Kd.s, Kd.s, Kd.s, Kd.sl [Kd.b, Kd.i IntKind.i64, Kd.s]]], .b], [.sl [Kd.i IntKind.i64, Kd.s, Kd.s, Kd.s, Kd.sl [Kd.b, Kd.i IntKind.i64, Kd.s], Kd.sl [Kd.s, Kd.s, Kd.s, Kd.sl [Kd.b, Kd.i IntKind.i64, Kd.s]]], .b]]) (fun x e => z17_v n e.1.1.1 e.1.1.2 e.1.2.1) (bookH Spec.none))))))))))))))))))
theorem z23_σok (n : Nat) : SpecOk Try.prog (z23_σ n) := (inst_ok (fun x e y h => z42_c n x.1.1 x.1.2 y h) (inst_ok (fun x e y h => z43_c n y h) (inst_ok (fun x e y h => z52_c n y h) (inst_ok (fun x e y h => z30_c n x.2.1.1 x.2.1.2.1 x.2.1.2.2.1 x.2.1.2.2.2.1 x.2.1.2.2.2.2.1.1 x.2.1.2.2.2.2.1.2 x.2.1.2.2.2.2.2.1.1 x.2.1.2.2.2.2.2.1.2 e.1.1.1 e.1.1.2 e.1.2.1 y h) (inst_ok (fun x e y h => z24_c n x.2.1.1 x.2.1.2.1 x.2.1.2.2.1 x.2.1.2.2.2.1 x.2.1.2.2.2.2.1.1 x.2.1.2.2.2.2.1.2 x.2.1.2.2.2.2.2.1.1 x.2.1.2.2.2.2.2.1.2 e.1.1.1 e.1.1.2 y h) (inst_ok (fun x e y h => z28_c n e.1.1.1 e.1.1.2 e.1.2.1 y h) (inst_ok (fun x e y h => z36_c n x.2.1.1 x.2.1.2.1 x.2.1.2.2.1 x.2.1.2.2.2.1.1 x.2.1.2.2.2.1.2 e.1.1.1 e.1.1.2 e.1.2.1 y h) (inst_ok (fun x e y h => z27_c n x.2.1.1 x.2.1.2.1 x.2.1.2.2.1 x.2.1.2.2.2.1.1 x.2.1.2.2.2.1.2 e.1.1.1 e.1.1.2 y h) (inst_ok (fun x e y h => z47_c n x.1.1 x.1.2 x.2.1.1 x.2.1.2 y h) (inst_ok (fun x e y h => z25_c n x.2.1.1 x.2.1.2.1 x.2.1.2.2.1 x.2.1.2.2.2.1.1 x.2.1.2.2.2.1.2 e.1.1.1 e.1.1.2 e.1.2.1 y h) (inst_ok (fun x e y h => z19_c n x.2.1.1 x.2.1.2.1 x.2.1.2.2.1 x.2.1.2.2.2.1.1 x.2.1.2.2.2.1.2 e.1.1.1 e.1.1.2 y h) (inst_ok (fun x e y h => z21_c n e.1.1.1 e.1.1.2 e.1.2.1 y h) (inst_ok (fun x e y h => z15_c n e.1.1.1 e.1.1.2 y h) (inst_ok (fun x e y h => z44_c n x.1.1 x.1.2 x.2.1.1 x.2.1.2 y h) (inst_ok (fun x e y h => z22_c n x.2.1.1 x.2.1.2.1 x.2.1.2.2.1 x.2.1.2.2.2.1 x.2.1.2.2.2.2.1.1 x.2.1.2.2.2.2.1.2 x.2.1.2.2.2.2.2.1.1 x.2.1.2.2.2.2.2.1.2 e.1.1.1 e.1.1.2 e.1.2.1 y h) (inst_ok (fun x e y h => z16_c n x.2.1.1 x.2.1.2.1 x.2.1.2.2.1 x.2.1.2.2.2.1 x.2.1.2.2.2.2.1.1 x.2.1.2.2.2.2.1.2 x.2.1.2.2.2.2.2.1.1 x.2.1.2.2.2.2.2.1.2 e.1.1.1 e.1.1.2 y h) (inst_ok (fun x e y h => z17_c n e.1.1.1 e.1.1.2 e.1.2.1 y h) (bookH_ok (SpecOk.none _)))))))))))))))))))
noncomputable def z23_Φ (n : Nat) : Orc := with_ Try.prog (z23_σ n) [] n 0 [1000045, 1000059]
noncomputable def z23_v (n : Nat) (b0 : Bool) (r1 : Rows) (s2 : ByteArray) (s3 : ByteArray) (s4 : ByteArray) (b5 : Bool) (r6 : Rows) : Option (Bool × Unit) :=
 DM.denFn tm (z23_Φ n) z23_lv n Try.f6 false [AV.sl b0 [Kd.i IntKind.i64, Kd.i IntKind.i64, Kd.s, Kd.s, Kd.s, Kd.sl [Kd.b, Kd.i IntKind.i64, Kd.s], Kd.sl [Kd.s, Kd.s, Kd.s, Kd.sl [Kd.b, Kd.i IntKind.i64, Kd.s]]] r1 Right.no, AV.agg [AV.dv (DV.val (Value.string s2)), AV.dv (DV.val (Value.string s3)), AV.dv (DV.val (Value.string s4)), AV.sl b5 [Kd.b, Kd.i IntKind.i64, Kd.s] r6 Right.no]] [] (OSh.chk (OSh.plain (.b) []))
noncomputable def z23_l6 (n : Nat) (b0 : Bool) (r1 : Rows) (s2 : ByteArray) (s3 : ByteArray) (s4 : ByteArray) (b5 : Bool) (r6 : Rows) (i0 : Nat) (b10 : Bool) (r11 : List (List DV)) (b12 : Bool) (j61 : Int) (b62 : Bool) (r63 : List (List DV)) : Option (Bool × Unit) :=
 DM.loopFn tm (z23_Φ n) z23_lv n Try.f6 false [] (OSh.chk (OSh.plain (.b) [])) 6 [] i0 (St.mk [AV.sl b0 [Kd.i IntKind.i64, Kd.i IntKind.i64, Kd.s, Kd.s, Kd.s, Kd.sl [Kd.b, Kd.i IntKind.i64, Kd.s], Kd.sl [Kd.s, Kd.s, Kd.s, Kd.sl [Kd.b, Kd.i IntKind.i64, Kd.s]]] r1 Right.no, AV.junk, AV.junk, AV.pl 3 0, AV.junk, AV.pl 15 0, AV.pl 17 0, AV.dv (DV.val (Value.int IntKind.i64 j61)), AV.junk, AV.junk, AV.junk, AV.junk, AV.junk, AV.junk, AV.junk, AV.junk, AV.junk, AV.junk, AV.junk, AV.junk, AV.junk, AV.junk, AV.junk, AV.junk, AV.junk, AV.junk, AV.junk, AV.junk, AV.junk, AV.junk, AV.junk, AV.junk, AV.junk, AV.junk, AV.junk, AV.junk, AV.junk, AV.junk, AV.junk, AV.junk, AV.junk, AV.junk, AV.junk, AV.junk, AV.junk, AV.junk, AV.junk, AV.junk, AV.junk, AV.junk, AV.junk, AV.junk, AV.junk, AV.junk, AV.junk, AV.junk, AV.junk, AV.junk, AV.junk, AV.junk, AV.junk, AV.junk, AV.junk, AV.junk, AV.junk, AV.junk, AV.junk, AV.junk, AV.junk, AV.junk, AV.junk, AV.junk, AV.junk, AV.junk, AV.junk, AV.junk, AV.junk, AV.junk, AV.junk, AV.junk, AV.junk, AV.junk, AV.junk, AV.junk, AV.junk, AV.junk, AV.junk, AV.junk, AV.junk, AV.junk, AV.junk, AV.junk, AV.junk, AV.junk, AV.junk, AV.junk, AV.junk, AV.junk, AV.junk, AV.junk, AV.junk, AV.junk, AV.junk, AV.junk, AV.junk, AV.junk, AV.junk] [(3, [AV.dv (DV.val (Value.string s2)), AV.dv (DV.val (Value.string s3)), AV.dv (DV.val (Value.string s4)), AV.sl b5 [Kd.b, Kd.i IntKind.i64, Kd.s] r6 Right.no]), (15, [AV.sl b10 [Kd.i IntKind.i64, Kd.s, Kd.s, Kd.s, Kd.sl [Kd.b, Kd.i IntKind.i64, Kd.s], Kd.sl [Kd.s, Kd.s, Kd.s, Kd.sl [Kd.b, Kd.i IntKind.i64, Kd.s]]] r11 Right.no, AV.dv (DV.val (Value.bool b12))]), (17, [AV.sl b62 [Kd.i IntKind.i64, Kd.s, Kd.s, Kd.s, Kd.sl [Kd.b, Kd.i IntKind.i64, Kd.s], Kd.sl [Kd.s, Kd.s, Kd.s, Kd.sl [Kd.b, Kd.i IntKind.i64, Kd.s]]] r63 Right.no])])
theorem z23_s6 (n : Nat) (b0 : Bool) (r1 : Rows) (s2 : ByteArray) (s3 : ByteArray) (s4 : ByteArray) (b5 : Bool) (r6 : Rows) (i0 : Nat) (b10 : Bool) (r11 : List (List DV)) (b12 : Bool) (j61 : Int) (b62 : Bool) (r63 : List (List DV)) : z23_l6 n b0 r1 s2 s3 s4 b5 r6 (i0 + 1) b10 r11 b12 j61 b62 r63 =
 bif decide (j61 < (↑(List.length r1) : Int)) then
  if 0 ≤ j61 then
   if j61 < (↑(List.length r1) : Int) then
    if 0 ≤ j61 then
     if j61 < (↑(List.length r1) : Int) then
      bif Row.I (List.getD r1 (Int.toNat j61) []) 0 == 0 then
       obind (z30_v n (Row.I (List.getD r1 (Int.toNat j61) []) 1) (Row.S (List.getD r1 (Int.toNat j61) []) 2) (Row.S (List.getD r1 (Int.toNat j61) []) 3) (Row.S (List.getD r1 (Int.toNat j61) []) 4) (Row.N (List.getD r1 (Int.toNat j61) []) 5) (Row.R (List.getD r1 (Int.toNat j61) []) 5) (Row.N (List.getD r1 (Int.toNat j61) []) 6) (Row.R (List.getD r1 (Int.toNat j61) []) 6) b10 r11 b12) fun y64 =>
       obind (z24_v n (Row.I (List.getD r1 (Int.toNat j61) []) 1) (Row.S (List.getD r1 (Int.toNat j61) []) 2) (Row.S (List.getD r1 (Int.toNat j61) []) 3) (Row.S (List.getD r1 (Int.toNat j61) []) 4) (Row.N (List.getD r1 (Int.toNat j61) []) 5) (Row.R (List.getD r1 (Int.toNat j61) []) 5) (Row.N (List.getD r1 (Int.toNat j61) []) 6) (Row.R (List.getD r1 (Int.toNat j61) []) 6) b62 r63) fun y65 =>
       bif !y64.fst == y65.fst then
        some (false, ())
       else obind (z28_v n y64.snd.fst.fst.fst y64.snd.fst.fst.snd y64.snd.fst.snd.fst) fun y66 =>
       bif y66.fst != (↑(List.length y65.snd.fst.fst.snd) : Int) then
        some (false, ())
       else obind (z36_v n (Row.S (List.getD r1 (Int.toNat j61) []) 2) (Row.S (List.getD r1 (Int.toNat j61) []) 3) (Row.S (List.getD r1 (Int.toNat j61) []) 4) (Row.N (List.getD r1 (Int.toNat j61) []) 5) (Row.R (List.getD r1 (Int.toNat j61) []) 5) y66.snd.fst.fst.fst y66.snd.fst.fst.snd y66.snd.fst.snd.fst) fun y67 =>
       obind (z27_v n (Row.S (List.getD r1 (Int.toNat j61) []) 2) (Row.S (List.getD r1 (Int.toNat j61) []) 3) (Row.S (List.getD r1 (Int.toNat j61) []) 4) (Row.N (List.getD r1 (Int.toNat j61) []) 5) (Row.R (List.getD r1 (Int.toNat j61) []) 5) y65.snd.fst.fst.fst y65.snd.fst.fst.snd) fun y68 =>
       obind (z47_v n y67.fst.fst y67.fst.snd y68.fst.fst y68.fst.snd) fun y69 =>
       bif !y69.fst then
        some (false, ())
       else obind (z25_v n s2 s3 s4 b5 r6 y67.snd.fst.fst.fst y67.snd.fst.fst.snd y67.snd.fst.snd.fst) fun y70 =>
       obind (z19_v n s2 s3 s4 b5 r6 y68.snd.fst.fst.fst y68.snd.fst.fst.snd) fun y71 =>
       obind (z47_v n y70.fst.fst y70.fst.snd y71.fst.fst y71.fst.snd) fun y72 =>
       bif !y72.fst then
        some (false, ())
       else obind (z21_v n y70.snd.fst.fst.fst y70.snd.fst.fst.snd y70.snd.fst.snd.fst) fun y73 =>
       obind (z15_v n y71.snd.fst.fst.fst y71.snd.fst.fst.snd) fun y74 =>
       obind (z44_v n y73.fst.fst y73.fst.snd y74.fst.fst y74.fst.snd) fun y75 =>
       bif !y75.fst then
        some (false, ())
       else z23_l6 n b0 r1 s2 s3 s4 b5 r6 i0 y73.snd.fst.fst.fst y73.snd.fst.fst.snd y73.snd.fst.snd.fst (IntKind.wrap IntKind.i64 (j61 + 1)) y74.snd.fst.fst.fst y74.snd.fst.fst.snd
      else bif Row.I (List.getD r1 (Int.toNat j61) []) 0 == 1 then
       obind (z22_v n (Row.I (List.getD r1 (Int.toNat j61) []) 1) (Row.S (List.getD r1 (Int.toNat j61) []) 2) (Row.S (List.getD r1 (Int.toNat j61) []) 3) (Row.S (List.getD r1 (Int.toNat j61) []) 4) (Row.N (List.getD r1 (Int.toNat j61) []) 5) (Row.R (List.getD r1 (Int.toNat j61) []) 5) (Row.N (List.getD r1 (Int.toNat j61) []) 6) (Row.R (List.getD r1 (Int.toNat j61) []) 6) b10 r11 b12) fun y76 =>
       obind (z16_v n (Row.I (List.getD r1 (Int.toNat j61) []) 1) (Row.S (List.getD r1 (Int.toNat j61) []) 2) (Row.S (List.getD r1 (Int.toNat j61) []) 3) (Row.S (List.getD r1 (Int.toNat j61) []) 4) (Row.N (List.getD r1 (Int.toNat j61) []) 5) (Row.R (List.getD r1 (Int.toNat j61) []) 5) (Row.N (List.getD r1 (Int.toNat j61) []) 6) (Row.R (List.getD r1 (Int.toNat j61) []) 6) b62 r63) fun y77 =>
       bif !y76.fst == y77.fst then
        some (false, ())
       else obind (z28_v n y76.snd.fst.fst.fst y76.snd.fst.fst.snd y76.snd.fst.snd.fst) fun y78 =>
       bif y78.fst != (↑(List.length y77.snd.fst.fst.snd) : Int) then
        some (false, ())
       else obind (z36_v n (Row.S (List.getD r1 (Int.toNat j61) []) 2) (Row.S (List.getD r1 (Int.toNat j61) []) 3) (Row.S (List.getD r1 (Int.toNat j61) []) 4) (Row.N (List.getD r1 (Int.toNat j61) []) 5) (Row.R (List.getD r1 (Int.toNat j61) []) 5) y78.snd.fst.fst.fst y78.snd.fst.fst.snd y78.snd.fst.snd.fst) fun y79 =>
       obind (z27_v n (Row.S (List.getD r1 (Int.toNat j61) []) 2) (Row.S (List.getD r1 (Int.toNat j61) []) 3) (Row.S (List.getD r1 (Int.toNat j61) []) 4) (Row.N (List.getD r1 (Int.toNat j61) []) 5) (Row.R (List.getD r1 (Int.toNat j61) []) 5) y77.snd.fst.fst.fst y77.snd.fst.fst.snd) fun y80 =>
       obind (z47_v n y79.fst.fst y79.fst.snd y80.fst.fst y80.fst.snd) fun y81 =>
       bif !y81.fst then
        some (false, ())
       else obind (z25_v n s2 s3 s4 b5 r6 y79.snd.fst.fst.fst y79.snd.fst.fst.snd y79.snd.fst.snd.fst) fun y82 =>
       obind (z19_v n s2 s3 s4 b5 r6 y80.snd.fst.fst.fst y80.snd.fst.fst.snd) fun y83 =>
       obind (z47_v n y82.fst.fst y82.fst.snd y83.fst.fst y83.fst.snd) fun y84 =>
       bif !y84.fst then
        some (false, ())
       else obind (z21_v n y82.snd.fst.fst.fst y82.snd.fst.fst.snd y82.snd.fst.snd.fst) fun y85 =>
       obind (z15_v n y83.snd.fst.fst.fst y83.snd.fst.fst.snd) fun y86 =>
       obind (z44_v n y85.fst.fst y85.fst.snd y86.fst.fst y86.fst.snd) fun y87 =>
       bif !y87.fst then
        some (false, ())
       else z23_l6 n b0 r1 s2 s3 s4 b5 r6 i0 y85.snd.fst.fst.fst y85.snd.fst.fst.snd y85.snd.fst.snd.fst (IntKind.wrap IntKind.i64 (j61 + 1)) y86.snd.fst.fst.fst y86.snd.fst.fst.snd
      else bif Row.I (List.getD r1 (Int.toNat j61) []) 0 == 2 then
       obind (z17_v n b10 r11 b12) fun y88 =>
       obind (z22_v n (Row.I (List.getD r1 (Int.toNat j61) []) 1) (Row.S (List.getD r1 (Int.toNat j61) []) 2) (Row.S (List.getD r1 (Int.toNat j61) []) 3) (Row.S (List.getD r1 (Int.toNat j61) []) 4) (Row.N (List.getD r1 (Int.toNat j61) []) 5) (Row.R (List.getD r1 (Int.toNat j61) []) 5) (Row.N (List.getD r1 (Int.toNat j61) []) 6) (Row.R (List.getD r1 (Int.toNat j61) []) 6) y88.snd.fst.fst.fst y88.snd.fst.fst.snd y88.snd.fst.snd.fst) fun y89 =>
       obind (z30_v n 77 s2 s3 s4 b5 r6 true [] y89.snd.fst.fst.fst y89.snd.fst.fst.snd y89.snd.fst.snd.fst) fun y90 =>
       obind (z28_v n y88.snd.snd.fst.fst.fst y88.snd.snd.fst.fst.snd y88.snd.snd.fst.snd.fst) fun y91 =>
       bif y91.fst != (↑(List.length r63) : Int) then
        some (false, ())
       else obind (z36_v n (Row.S (List.getD r1 (Int.toNat j61) []) 2) (Row.S (List.getD r1 (Int.toNat j61) []) 3) (Row.S (List.getD r1 (Int.toNat j61) []) 4) (Row.N (List.getD r1 (Int.toNat j61) []) 5) (Row.R (List.getD r1 (Int.toNat j61) []) 5) y91.snd.fst.fst.fst y91.snd.fst.fst.snd y91.snd.fst.snd.fst) fun y92 =>
       obind (z27_v n (Row.S (List.getD r1 (Int.toNat j61) []) 2) (Row.S (List.getD r1 (Int.toNat j61) []) 3) (Row.S (List.getD r1 (Int.toNat j61) []) 4) (Row.N (List.getD r1 (Int.toNat j61) []) 5) (Row.R (List.getD r1 (Int.toNat j61) []) 5) b62 r63) fun y93 =>
       obind (z47_v n y92.fst.fst y92.fst.snd y93.fst.fst y93.fst.snd) fun y94 =>
       bif !y94.fst then
        some (false, ())
       else obind (z25_v n s2 s3 s4 b5 r6 y92.snd.fst.fst.fst y92.snd.fst.fst.snd y92.snd.fst.snd.fst) fun y95 =>
       obind (z19_v n s2 s3 s4 b5 r6 y93.snd.fst.fst.fst y93.snd.fst.fst.snd) fun y96 =>
       obind (z47_v n y95.fst.fst y95.fst.snd y96.fst.fst y96.fst.snd) fun y97 =>
       bif !y97.fst then
        some (false, ())
       else obind (z21_v n y95.snd.fst.fst.fst y95.snd.fst.fst.snd y95.snd.fst.snd.fst) fun y98 =>
       obind (z15_v n y96.snd.fst.fst.fst y96.snd.fst.fst.snd) fun y99 =>
       obind (z44_v n y98.fst.fst y98.fst.snd y99.fst.fst y99.fst.snd) fun y100 =>
       bif !y100.fst then
        some (false, ())
       else z23_l6 n b0 r1 s2 s3 s4 b5 r6 i0 y98.snd.fst.fst.fst y98.snd.fst.fst.snd y98.snd.fst.snd.fst (IntKind.wrap IntKind.i64 (j61 + 1)) y99.snd.fst.fst.fst y99.snd.fst.fst.snd
      else obind (z28_v n b10 r11 b12) fun y101 =>
      bif y101.fst != (↑(List.length r63) : Int) then
       some (false, ())
      else obind (z36_v n (Row.S (List.getD r1 (Int.toNat j61) []) 2) (Row.S (List.getD r1 (Int.toNat j61) []) 3) (Row.S (List.getD r1 (Int.toNat j61) []) 4) (Row.N (List.getD r1 (Int.toNat j61) []) 5) (Row.R (List.getD r1 (Int.toNat j61) []) 5) y101.snd.fst.fst.fst y101.snd.fst.fst.snd y101.snd.fst.snd.fst) fun y102 =>
      obind (z27_v n (Row.S (List.getD r1 (Int.toNat j61) []) 2) (Row.S (List.getD r1 (Int.toNat j61) []) 3) (Row.S (List.getD r1 (Int.toNat j61) []) 4) (Row.N (List.getD r1 (Int.toNat j61) []) 5) (Row.R (List.getD r1 (Int.toNat j61) []) 5) b62 r63) fun y103 =>
      obind (z47_v n y102.fst.fst y102.fst.snd y103.fst.fst y103.fst.snd) fun y104 =>
      bif !y104.fst then
       some (false, ())
      else obind (z25_v n s2 s3 s4 b5 r6 y102.snd.fst.fst.fst y102.snd.fst.fst.snd y102.snd.fst.snd.fst) fun y105 =>
      obind (z19_v n s2 s3 s4 b5 r6 y103.snd.fst.fst.fst y103.snd.fst.fst.snd) fun y106 =>
      obind (z47_v n y105.fst.fst y105.fst.snd y106.fst.fst y106.fst.snd) fun y107 =>
      bif !y107.fst then
       some (false, ())
      else obind (z21_v n y105.snd.fst.fst.fst y105.snd.fst.fst.snd y105.snd.fst.snd.fst) fun y108 =>
      obind (z15_v n y106.snd.fst.fst.fst y106.snd.fst.fst.snd) fun y109 =>
      obind (z44_v n y108.fst.fst y108.fst.snd y109.fst.fst y109.fst.snd) fun y110 =>
      bif !y110.fst then
       some (false, ())
      else z23_l6 n b0 r1 s2 s3 s4 b5 r6 i0 y108.snd.fst.fst.fst y108.snd.fst.fst.snd y108.snd.fst.snd.fst (IntKind.wrap IntKind.i64 (j61 + 1)) y109.snd.fst.fst.fst y109.snd.fst.fst.snd
     else none
    else none
   else none
  else none
 else obind (z43_v n) fun y111 =>
 some (y111.fst, ()) := by kernel_rfl
theorem z23_e (n : Nat) (b0 : Bool) (r1 : Rows) (s2 : ByteArray) (s3 : ByteArray) (s4 : ByteArray) (b5 : Bool) (r6 : Rows) : z23_v n b0 r1 s2 s3 s4 b5 r6 =
 obind (z42_v n b0 r1) fun y7 =>
 bif !y7.fst then
  obind (z43_v n) fun y8 =>
  some (y8.fst, ())
 else obind (z52_v n) fun y9 =>
 z23_l6 n b0 r1 s2 s3 s4 b5 r6 n y9.snd.fst.fst.fst y9.snd.fst.fst.snd y9.snd.fst.snd.fst 0 true [] := by kernel_rfl
theorem z23_c (n : Nat) (b0 : Bool) (r1 : Rows) (s2 : ByteArray) (s3 : ByteArray) (s4 : ByteArray) (b5 : Bool) (r6 : Rows) (y : Bool × Unit) (h : z23_v n b0 r1 s2 s3 s4 b5 r6 = some y) : Contract Try.prog 6 [AV.sl b0 [Kd.i IntKind.i64, Kd.i IntKind.i64, Kd.s, Kd.s, Kd.s, Kd.sl [Kd.b, Kd.i IntKind.i64, Kd.s], Kd.sl [Kd.s, Kd.s, Kd.s, Kd.sl [Kd.b, Kd.i IntKind.i64, Kd.s]]] r1 Right.no, AV.agg [AV.dv (DV.val (Value.string s2)), AV.dv (DV.val (Value.string s3)), AV.dv (DV.val (Value.string s4)), AV.sl b5 [Kd.b, Kd.i IntKind.i64, Kd.s] r6 Right.no]] [] (OSh.enc (OSh.plain (.b) []) y) :=
 auto_okM tm_std (with_ok mixed (by kernel_rfl) (z23_σok n) n 0 [1000045, 1000059]) (with_pick mixed (by kernel_rfl) (z23_σok n) n 0 [1000045, 1000059]) mixed Try.func6 (by decide) (o := (OSh.plain (.b) [])) h
end Go.Den
