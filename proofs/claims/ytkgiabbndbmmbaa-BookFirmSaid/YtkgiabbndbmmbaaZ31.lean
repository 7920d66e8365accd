import Derived.Test.YtkgiabbndbmmbaaZ17
set_option linter.unusedVariables false
set_option linter.unusedSimpArgs false
set_option linter.unusedSectionVars false
namespace Go.Den
open Go.Proofs
set_option maxRecDepth 100000
def z19_lv : Live := [(6, [0, 1, 2, 7, 9, 10], [27, 327, 627, 1000, 1001, 1002, 1003]), (11, [0, 1, 2, 7, 9, 11], [27, 327, 627, 1000, 1001, 1002, 1003]), (16, [0, 1, 2, 7, 9, 11, 12, 13, 14], [27, 327, 627, 1000, 1001, 1002, 1003]), (22, [0, 1, 2, 7, 9, 15], [27, 327, 627, 1000, 1001, 1002, 1003])]
noncomputable def z19_σ (n : Nat) : Spec := (inst 8 [.sl [Kd.i IntKind.i64, Kd.s, Kd.s, Kd.s, Kd.sl [Kd.b, Kd.i IntKind.i64, Kd.s], Kd.sl [Kd.s, Kd.s, Kd.s, Kd.sl [Kd.b, Kd.i IntKind.i64, Kd.s]]], .i IntKind.i64] [] (OSh.plain (.i IntKind.i64) []) (fun x e => z29_v n x.1.1 x.1.2 x.2.1) (inst 10 [] [] (OSh.plain (.b) []) (fun x e => z44_v n) (inst 9 [.sl [Kd.s, Kd.s, Kd.s, Kd.sl [Kd.b, Kd.i IntKind.i64, Kd.s]], .i IntKind.i64] [] (OSh.plain (.i IntKind.i64) []) (fun x e => z28_v n x.1.1 x.1.2 x.2.1) (inst 11 [.sl [Kd.i IntKind.i64, Kd.s, Kd.s, Kd.s, Kd.sl [Kd.b, Kd.i IntKind.i64, Kd.s], Kd.sl [Kd.s, Kd.s, Kd.s, Kd.sl [Kd.b, Kd.i IntKind.i64, Kd.s]]]] [] (OSh.plain (.tup [.pl 1000 0, .pl 1001 0]) [[.sl [Kd.i IntKind.i64, Kd.s, Kd.s, Kd.s, Kd.sl [Kd.b, Kd.i IntKind.i64, Kd.s], Kd.sl [Kd.s, Kd.s, Kd.s, Kd.sl [Kd.b, Kd.i IntKind.i64, Kd.s]]], .b], [.sl [Kd.i IntKind.i64, Kd.s, Kd.s, Kd.s, Kd.sl [Kd.b, Kd.i IntKind.i64, Kd.s], Kd.sl [Kd.s, Kd.s, Kd.s, Kd.sl [Kd.b, Kd.i IntKind.i64, Kd.s]]]]]) (fun x e => z46_v n x.1.1 x.1.2) (inst 14 [.pl 1000 0, .sl [Kd.s, Kd.s, Kd.s, Kd.sl [Kd.b, Kd.i IntKind.i64, Kd.s]]] [[.sl [Kd.i IntKind.i64, Kd.s, Kd.s, Kd.s, Kd.sl [Kd.b, Kd.i IntKind.i64, Kd.s], Kd.sl [Kd.s, Kd.s, Kd.s, Kd.sl [Kd.b, Kd.i IntKind.i64, Kd.s]]], .b]] (OSh.plain (.slt [Kd.s, Kd.s, Kd.s, Kd.sl [Kd.b, Kd.i IntKind.i64, Kd.s]] 0) [[.sl [Kd.i IntKind.i64, Kd.s, Kd.s, Kd.s, Kd.sl [Kd.b, Kd.i IntKind.i64, Kd.s], Kd.sl [Kd.s, Kd.s, Kd.s, Kd.sl [Kd.b, Kd.i IntKind.i64, Kd.s]]], .b]]) (fun x e => z15_v n x.2.1.1 x.2.1.2 e.1.1.1 e.1.1.2 e.1.2.1) (inst 16 [.sl [Kd.s, Kd.s, Kd.s, Kd.sl [Kd.b, Kd.i IntKind.i64, Kd.s]], .agg [.s, .s, .s, .sl [Kd.b, Kd.i IntKind.i64, Kd.s]]] [] (OSh.plain (.b) []) (fun x e => z48_v n x.1.1 x.1.2 x.2.1.1 x.2.1.2.1 x.2.1.2.2.1 x.2.1.2.2.2.1.1 x.2.1.2.2.2.1.2) (inst 17 [.pl 1000 0, .agg [.s, .s, .s, .sl [Kd.b, Kd.i IntKind.i64, Kd.s]]] [[.sl [Kd.i IntKind.i64, Kd.s, Kd.s, Kd.s, Kd.sl [Kd.b, Kd.i IntKind.i64, Kd.s], Kd.sl [Kd.s, Kd.s, Kd.s, Kd.sl [Kd.b, Kd.i IntKind.i64, Kd.s]]], .b]] (OSh.plain (.slt [Kd.i IntKind.i64, Kd.s, Kd.s, Kd.s, Kd.sl [Kd.b, Kd.i IntKind.i64, Kd.s], Kd.sl [Kd.s, Kd.s, Kd.s, Kd.sl [Kd.b, Kd.i IntKind.i64, Kd.s]]] 0) [[.sl [Kd.i IntKind.i64, Kd.s, Kd.s, Kd.s, Kd.sl [Kd.b, Kd.i IntKind.i64, Kd.s], Kd.sl [Kd.s, Kd.s, Kd.s, Kd.sl [Kd.b, Kd.i IntKind.i64, Kd.s]]], .b]]) (fun x e => z32_v n x.2.1.1 x.2.1.2.1 x.2.1.2.2.1 x.2.1.2.2.2.1.1 x.2.1.2.2.2.1.2 e.1.1.1 e.1.1.2 e.1.2.1) (inst 18 [.sl [Kd.s, Kd.s, Kd.s, Kd.sl [Kd.b, Kd.i IntKind.i64, Kd.s]], .sl [Kd.s, Kd.s, Kd.s, Kd.sl [Kd.b, Kd.i IntKind.i64, Kd.s]]] [] (OSh.plain (.slt [Kd.s, Kd.s, Kd.s, Kd.sl [Kd.b, Kd.i IntKind.i64, Kd.s]] 0) []) (fun x e => z36_v n x.1.1 x.1.2 x.2.1.1 x.2.1.2) (inst 13 [.sl [Kd.s, Kd.s, Kd.s, Kd.sl [Kd.b, Kd.i IntKind.i64, Kd.s]], .sl [Kd.s, Kd.s, Kd.s, Kd.sl [Kd.b, Kd.i IntKind.i64, Kd.s]]] [] (OSh.plain (.b) []) (fun x e => z40_v n x.1.1 x.1.2 x.2.1.1 x.2.1.2) (bookH Spec.none))))))))))
theorem z19_σok (n : Nat) : SpecOk Try.prog (z19_σ n) := (inst_ok (fun x e y h => z29_c n x.1.1 x.1.2 x.2.1 y h) (inst_ok (fun x e y h => z44_c n y h) (inst_ok (fun x e y h => z28_c n x.1.1 x.1.2 x.2.1 y h) (inst_ok (fun x e y h => z46_c n x.1.1 x.1.2 y h) (inst_ok (fun x e y h => z15_c n x.2.1.1 x.2.1.2 e.1.1.1 e.1.1.2 e.1.2.1 y h) (inst_ok (fun x e y h => z48_c n x.1.1 x.1.2 x.2.1.1 x.2.1.2.1 x.2.1.2.2.1 x.2.1.2.2.2.1.1 x.2.1.2.2.2.1.2 y h) (inst_ok (fun x e y h => z32_c n x.2.1.1 x.2.1.2.1 x.2.1.2.2.1 x.2.1.2.2.2.1.1 x.2.1.2.2.2.1.2 e.1.1.1 e.1.1.2 e.1.2.1 y h) (inst_ok (fun x e y h => z36_c n x.1.1 x.1.2 x.2.1.1 x.2.1.2 y h) (inst_ok (fun x e y h => z40_c n x.1.1 x.1.2 x.2.1.1 x.2.1.2 y h) (bookH_ok (SpecOk.none _)))))))))))
noncomputable def z19_Φ (n : Nat) : Orc := with_ Try.prog (z19_σ n) [] n 0 [1000045, 1000059]
noncomputable def z19_v (n : Nat) (b0 : Bool) (r1 : Rows) (b2 : Bool) (r3 : Rows) (j4 : Int) : Option (Bool × Unit) :=
 DM.denFn tm (z19_Φ n) z19_lv n Try.f4 false [AV.sl b0 [Kd.i IntKind.i64, Kd.s, Kd.s, Kd.s, Kd.sl [Kd.b, Kd.i IntKind.i64, Kd.s], Kd.sl [Kd.s, Kd.s, Kd.s, Kd.sl [Kd.b, Kd.i IntKind.i64, Kd.s]]] r1 Right.no, AV.sl b2 [Kd.s, Kd.s, Kd.s, Kd.sl [Kd.b, Kd.i IntKind.i64, Kd.s]] r3 Right.no, AV.dv (DV.val (Value.int IntKind.i64 j4))] [] (OSh.chk (OSh.plain (.b) []))
noncomputable def z19_l6 (n : Nat) (b0 : Bool) (r1 : Rows) (b2 : Bool) (r3 : Rows) (j4 : Int) (i0 : Nat) (b11 : Bool) (r12 : List (List DV)) (b13 : Bool) (r14 : List (List DV)) (b15 : Bool) (b16 : Bool) (r17 : List (List DV)) (j19 : Int) : Option (Bool × Unit) :=
 DM.loopFn tm (z19_Φ n) z19_lv n Try.f4 false [] (OSh.chk (OSh.plain (.b) [])) 6 [] i0 (St.mk [AV.sl b0 [Kd.i IntKind.i64, Kd.s, Kd.s, Kd.s, Kd.sl [Kd.b, Kd.i IntKind.i64, Kd.s], Kd.sl [Kd.s, Kd.s, Kd.s, Kd.sl [Kd.b, Kd.i IntKind.i64, Kd.s]]] r1 Right.no, AV.sl b2 [Kd.s, Kd.s, Kd.s, Kd.sl [Kd.b, Kd.i IntKind.i64, Kd.s]] r3 Right.no, AV.dv (DV.val (Value.int IntKind.i64 j4)), AV.junk, AV.junk, AV.junk, AV.junk, AV.pl 27 0, AV.junk, AV.sl b11 [Kd.s, Kd.s, Kd.s, Kd.sl [Kd.b, Kd.i IntKind.i64, Kd.s]] r12 (Right.tok 9), AV.dv (DV.val (Value.int IntKind.i64 j19)), AV.junk, AV.junk, AV.junk, AV.junk, AV.junk, AV.junk, AV.junk, AV.junk, AV.junk, AV.junk, AV.junk, AV.junk, AV.junk, AV.junk, AV.junk, AV.junk, AV.junk, AV.junk, AV.junk, AV.junk, AV.junk, AV.junk, AV.junk, AV.junk, AV.junk, AV.junk, AV.junk, AV.junk, AV.junk, AV.junk, AV.junk, AV.junk, AV.junk, AV.junk, AV.junk, AV.junk, AV.junk, AV.junk, AV.junk, AV.junk, AV.junk, AV.junk, AV.junk, AV.junk, AV.junk, AV.junk, AV.junk, AV.junk, AV.junk, AV.junk, AV.junk, AV.junk, AV.junk, AV.junk, AV.junk, AV.junk, AV.junk, AV.junk, AV.junk, AV.junk, AV.junk, AV.junk, AV.junk, AV.junk, AV.junk, AV.junk, AV.junk, AV.junk, AV.junk, AV.junk, AV.junk, AV.junk, AV.junk, AV.junk, AV.junk, AV.junk, AV.junk, AV.junk, AV.junk, AV.junk, AV.junk, AV.junk, AV.junk, AV.junk, AV.junk, AV.junk, AV.junk, AV.junk, AV.junk, AV.junk, AV.junk, AV.junk, AV.junk, AV.junk, AV.junk, AV.junk, AV.junk, AV.junk, AV.junk, AV.junk, AV.junk, AV.junk, AV.junk, AV.junk, AV.junk, AV.junk, AV.junk, AV.junk, AV.junk, AV.junk, AV.junk, AV.junk, AV.junk, AV.junk, AV.junk, AV.junk, AV.junk, AV.junk, AV.junk, AV.junk, AV.junk, AV.junk, AV.junk, AV.junk, AV.junk, AV.junk, AV.junk, AV.junk] [(27, [AV.sl b13 [Kd.i IntKind.i64, Kd.s, Kd.s, Kd.s, Kd.sl [Kd.b, Kd.i IntKind.i64, Kd.s], Kd.sl [Kd.s, Kd.s, Kd.s, Kd.sl [Kd.b, Kd.i IntKind.i64, Kd.s]]] r14 Right.no, AV.dv (DV.val (Value.bool b15))]), (327, [AV.sl b16 [Kd.i IntKind.i64, Kd.s, Kd.s, Kd.s, Kd.sl [Kd.b, Kd.i IntKind.i64, Kd.s], Kd.sl [Kd.s, Kd.s, Kd.s, Kd.sl [Kd.b, Kd.i IntKind.i64, Kd.s]]] r17 Right.no])])
noncomputable def z19_l11 (n : Nat) (b0 : Bool) (r1 : Rows) (b2 : Bool) (r3 : Rows) (j4 : Int) (i0 : Nat) (b20 : Bool) (r21 : List (List DV)) (b22 : Bool) (r23 : List (List DV)) (b24 : Bool) (b25 : Bool) (r26 : List (List DV)) (j69 : Int) : Option (Bool × Unit) :=
 DM.loopFn tm (z19_Φ n) z19_lv n Try.f4 false [] (OSh.chk (OSh.plain (.b) [])) 11 [] i0 (St.mk [AV.sl b0 [Kd.i IntKind.i64, Kd.s, Kd.s, Kd.s, Kd.sl [Kd.b, Kd.i IntKind.i64, Kd.s], Kd.sl [Kd.s, Kd.s, Kd.s, Kd.sl [Kd.b, Kd.i IntKind.i64, Kd.s]]] r1 Right.no, AV.sl b2 [Kd.s, Kd.s, Kd.s, Kd.sl [Kd.b, Kd.i IntKind.i64, Kd.s]] r3 Right.no, AV.dv (DV.val (Value.int IntKind.i64 j4)), AV.junk, AV.junk, AV.junk, AV.junk, AV.pl 27 0, AV.junk, AV.sl b20 [Kd.s, Kd.s, Kd.s, Kd.sl [Kd.b, Kd.i IntKind.i64, Kd.s]] r21 (Right.tok 9), AV.junk, AV.dv (DV.val (Value.int IntKind.i64 j69)), AV.junk, AV.junk, AV.junk, AV.junk, AV.junk, AV.junk, AV.junk, AV.junk, AV.junk, AV.junk, AV.junk, AV.junk, AV.junk, AV.junk, AV.junk, AV.junk, AV.junk, AV.junk, AV.junk, AV.junk, AV.junk, AV.junk, AV.junk, AV.junk, AV.junk, AV.junk, AV.junk, AV.junk, AV.junk, AV.junk, AV.junk, AV.junk, AV.junk, AV.junk, AV.junk, AV.junk, AV.junk, AV.junk, AV.junk, AV.junk, AV.junk, AV.junk, AV.junk, AV.junk, AV.junk, AV.junk, AV.junk, AV.junk, AV.junk, AV.junk, AV.junk, AV.junk, AV.junk, AV.junk, AV.junk, AV.junk, AV.junk, AV.junk, AV.junk, AV.junk, AV.junk, AV.junk, AV.junk, AV.junk, AV.junk, AV.junk, AV.junk, AV.junk, AV.junk, AV.junk, AV.junk, AV.junk, AV.junk, AV.junk, AV.junk, AV.junk, AV.junk, AV.junk, AV.junk, AV.junk, AV.junk, AV.junk, AV.junk, AV.junk, AV.junk, AV.junk, AV.junk, AV.junk, AV.junk, AV.junk, AV.junk, AV.junk, AV.junk, AV.junk, AV.junk, AV.junk, AV.junk, AV.junk, AV.junk, AV.junk, AV.junk, AV.junk, AV.junk, AV.junk, AV.junk, AV.junk, AV.junk, AV.junk, AV.junk, AV.junk, AV.junk, AV.junk, AV.junk, AV.junk, AV.junk, AV.junk, AV.junk, AV.junk, AV.junk, AV.junk, AV.junk, AV.junk, AV.junk, AV.junk, AV.junk, AV.junk, AV.junk] [(27, [AV.sl b22 [Kd.i IntKind.i64, Kd.s, Kd.s, Kd.s, Kd.sl [Kd.b, Kd.i IntKind.i64, Kd.s], Kd.sl [Kd.s, Kd.s, Kd.s, Kd.sl [Kd.b, Kd.i IntKind.i64, Kd.s]]] r23 Right.no, AV.dv (DV.val (Value.bool b24))]), (327, [AV.sl b25 [Kd.i IntKind.i64, Kd.s, Kd.s, Kd.s, Kd.sl [Kd.b, Kd.i IntKind.i64, Kd.s], Kd.sl [Kd.s, Kd.s, Kd.s, Kd.sl [Kd.b, Kd.i IntKind.i64, Kd.s]]] r26 Right.no])])
noncomputable def z19_l16 (n : Nat) (b0 : Bool) (r1 : Rows) (b2 : Bool) (r3 : Rows) (j4 : Int) (i0 i1 : Nat) (b29 : Bool) (r30 : List (List DV)) (b31 : Bool) (b32 : Bool) (r33 : List (List DV)) (b34 : Bool) (r35 : List (List DV)) (b36 : Bool) (b37 : Bool) (r38 : List (List DV)) (j68 : Int) (j72 : Int) : Option (Bool × Unit) :=
 DM.loopFn tm (z19_Φ n) z19_lv n Try.f4 false [] (OSh.chk (OSh.plain (.b) [])) 16 [i0] i1 (St.mk [AV.sl b0 [Kd.i IntKind.i64, Kd.s, Kd.s, Kd.s, Kd.sl [Kd.b, Kd.i IntKind.i64, Kd.s], Kd.sl [Kd.s, Kd.s, Kd.s, Kd.sl [Kd.b, Kd.i IntKind.i64, Kd.s]]] r1 Right.no, AV.sl b2 [Kd.s, Kd.s, Kd.s, Kd.sl [Kd.b, Kd.i IntKind.i64, Kd.s]] r3 Right.no, AV.dv (DV.val (Value.int IntKind.i64 j4)), AV.junk, AV.junk, AV.junk, AV.junk, AV.pl 27 0, AV.junk, AV.sl b29 [Kd.s, Kd.s, Kd.s, Kd.sl [Kd.b, Kd.i IntKind.i64, Kd.s]] r30 (Right.tok 9), AV.junk, AV.dv (DV.val (Value.int IntKind.i64 j72)), AV.dv (DV.val (Value.bool b31)), AV.sl b32 [Kd.i IntKind.i64, Kd.s, Kd.s, Kd.s, Kd.sl [Kd.b, Kd.i IntKind.i64, Kd.s], Kd.sl [Kd.s, Kd.s, Kd.s, Kd.sl [Kd.b, Kd.i IntKind.i64, Kd.s]]] r33 (Right.tok 13), AV.dv (DV.val (Value.int IntKind.i64 j68)), AV.junk, AV.junk, AV.junk, AV.junk, AV.junk, AV.junk, AV.junk, AV.junk, AV.junk, AV.junk, AV.junk, AV.junk, AV.junk, AV.junk, AV.junk, AV.junk, AV.junk, AV.junk, AV.junk, AV.junk, AV.junk, AV.junk, AV.junk, AV.junk, AV.junk, AV.junk, AV.junk, AV.junk, AV.junk, AV.junk, AV.junk, AV.junk, AV.junk, AV.junk, AV.junk, AV.junk, AV.junk, AV.junk, AV.junk, AV.junk, AV.junk, AV.junk, AV.junk, AV.junk, AV.junk, AV.junk, AV.junk, AV.junk, AV.junk, AV.junk, AV.junk, AV.junk, AV.junk, AV.junk, AV.junk, AV.junk, AV.junk, AV.junk, AV.junk, AV.junk, AV.junk, AV.junk, AV.junk, AV.junk, AV.junk, AV.junk, AV.junk, AV.junk, AV.junk, AV.junk, AV.junk, AV.junk, AV.junk, AV.junk, AV.junk, AV.junk, AV.junk, AV.junk, AV.junk, AV.junk, AV.junk, AV.junk, AV.junk, AV.junk, AV.junk, AV.junk, AV.junk, AV.junk, AV.junk, AV.junk, AV.junk, AV.junk, AV.junk, AV.junk, AV.junk, AV.junk, AV.junk, AV.junk, AV.junk, AV.junk, AV.junk, AV.junk, AV.junk, AV.junk, AV.junk, AV.junk, AV.junk, AV.junk, AV.junk, AV.junk, AV.junk, AV.junk, AV.junk, AV.junk, AV.junk, AV.junk, AV.junk, AV.junk, AV.junk, AV.junk, AV.junk, AV.junk, AV.junk, AV.junk] [(27, [AV.sl b34 [Kd.i IntKind.i64, Kd.s, Kd.s, Kd.s, Kd.sl [Kd.b, Kd.i IntKind.i64, Kd.s], Kd.sl [Kd.s, Kd.s, Kd.s, Kd.sl [Kd.b, Kd.i IntKind.i64, Kd.s]]] r35 Right.no, AV.dv (DV.val (Value.bool b36))]), (327, [AV.sl b37 [Kd.i IntKind.i64, Kd.s, Kd.s, Kd.s, Kd.sl [Kd.b, Kd.i IntKind.i64, Kd.s], Kd.sl [Kd.s, Kd.s, Kd.s, Kd.sl [Kd.b, Kd.i IntKind.i64, Kd.s]]] r38 Right.no])])
noncomputable def z19_l22 (n : Nat) (b0 : Bool) (r1 : Rows) (b2 : Bool) (r3 : Rows) (j4 : Int) (i0 : Nat) (b39 : Bool) (r40 : List (List DV)) (b41 : Bool) (r42 : List (List DV)) (b43 : Bool) (b44 : Bool) (r45 : List (List DV)) (j56 : Int) : Option (Bool × Unit) :=
 DM.loopFn tm (z19_Φ n) z19_lv n Try.f4 false [] (OSh.chk (OSh.plain (.b) [])) 22 [] i0 (St.mk [AV.sl b0 [Kd.i IntKind.i64, Kd.s, Kd.s, Kd.s, Kd.sl [Kd.b, Kd.i IntKind.i64, Kd.s], Kd.sl [Kd.s, Kd.s, Kd.s, Kd.sl [Kd.b, Kd.i IntKind.i64, Kd.s]]] r1 Right.no, AV.sl b2 [Kd.s, Kd.s, Kd.s, Kd.sl [Kd.b, Kd.i IntKind.i64, Kd.s]] r3 Right.no, AV.dv (DV.val (Value.int IntKind.i64 j4)), AV.junk, AV.junk, AV.junk, AV.junk, AV.pl 27 0, AV.junk, AV.sl b39 [Kd.s, Kd.s, Kd.s, Kd.sl [Kd.b, Kd.i IntKind.i64, Kd.s]] r40 (Right.tok 9), AV.junk, AV.junk, AV.junk, AV.junk, AV.junk, AV.dv (DV.val (Value.int IntKind.i64 j56)), AV.junk, AV.junk, AV.junk, AV.junk, AV.junk, AV.junk, AV.junk, AV.junk, AV.junk, AV.junk, AV.junk, AV.junk, AV.junk, AV.junk, AV.junk, AV.junk, AV.junk, AV.junk, AV.junk, AV.junk, AV.junk, AV.junk, AV.junk, AV.junk, AV.junk, AV.junk, AV.junk, AV.junk, AV.junk, AV.junk, AV.junk, AV.junk, AV.junk, AV.junk, AV.junk, AV.junk, AV.junk, AV.junk, AV.junk, AV.junk, AV.junk, AV.junk, AV.junk, AV.junk, AV.junk, AV.junk, AV.junk, AV.junk, AV.junk, AV.junk, AV.junk, AV.junk, AV.junk, AV.junk, AV.junk, AV.junk, AV.junk, AV.junk, AV.junk, AV.junk, AV.junk, AV.junk, AV.junk, AV.junk, AV.junk, AV.junk, AV.junk, AV.junk, AV.junk, AV.junk, AV.junk, AV.junk, AV.junk, AV.junk, AV.junk, AV.junk, AV.junk, AV.junk, AV.junk, AV.junk, AV.junk, AV.junk, AV.junk, AV.junk, AV.junk, AV.junk, AV.junk, AV.junk, AV.junk, AV.junk, AV.junk, AV.junk, AV.junk, AV.junk, AV.junk, AV.junk, AV.junk, AV.junk, AV.junk, AV.junk, AV.junk, AV.junk, AV.junk, AV.junk, AV.junk, AV.junk, AV.junk, AV.junk, AV.junk, AV.junk, AV.junk, AV.junk, AV.junk, AV.junk, AV.junk, AV.junk, AV.junk, AV.junk, AV.junk, AV.junk, AV.junk, AV.junk, AV.junk] [(27, [AV.sl b41 [Kd.i IntKind.i64, Kd.s, Kd.s, Kd.s, Kd.sl [Kd.b, Kd.i IntKind.i64, Kd.s], Kd.sl [Kd.s, Kd.s, Kd.s, Kd.sl [Kd.b, Kd.i IntKind.i64, Kd.s]]] r42 Right.no, AV.dv (DV.val (Value.bool b43))]), (327, [AV.sl b44 [Kd.i IntKind.i64, Kd.s, Kd.s, Kd.s, Kd.sl [Kd.b, Kd.i IntKind.i64, Kd.s], Kd.sl [Kd.s, Kd.s, Kd.s, Kd.sl [Kd.b, Kd.i IntKind.i64, Kd.s]]] r45 Right.no])])
theorem z19_s6 (n : Nat) (b0 : Bool) (r1 : Rows) (b2 : Bool) (r3 : Rows) (j4 : Int) (i0 : Nat) (b11 : Bool) (r12 : List (List DV)) (b13 : Bool) (r14 : List (List DV)) (b15 : Bool) (b16 : Bool) (r17 : List (List DV)) (j19 : Int) : z19_l6 n b0 r1 b2 r3 j4 (i0 + 1) b11 r12 b13 r14 b15 b16 r17 j19 =
 bif decide (j19 < (↑(List.length r3) : Int)) then
  if 0 ≤ j19 then
   if j19 < (↑(List.length r3) : Int) then
    obind (z48_v n b11 r12 (Row.S (List.getD r3 (Int.toNat j19) []) 0) (Row.S (List.getD r3 (Int.toNat j19) []) 1) (Row.S (List.getD r3 (Int.toNat j19) []) 2) (Row.N (List.getD r3 (Int.toNat j19) []) 3) (Row.R (List.getD r3 (Int.toNat j19) []) 3)) fun y74 =>
    bif !y74.fst then
     some (false, ())
    else z19_l6 n b0 r1 b2 r3 j4 i0 b11 r12 b13 r14 b15 b16 r17 (IntKind.wrap IntKind.i64 (j19 + 1))
   else none
  else none
 else z19_l11 n b0 r1 b2 r3 j4 n b11 r12 b13 r14 b15 b16 r17 0 := by kernel_rfl
theorem z19_s11 (n : Nat) (b0 : Bool) (r1 : Rows) (b2 : Bool) (r3 : Rows) (j4 : Int) (i0 : Nat) (b20 : Bool) (r21 : List (List DV)) (b22 : Bool) (r23 : List (List DV)) (b24 : Bool) (b25 : Bool) (r26 : List (List DV)) (j69 : Int) : z19_l11 n b0 r1 b2 r3 j4 (i0 + 1) b20 r21 b22 r23 b24 b25 r26 j69 =
 bif decide (j69 < (↑(List.length r21) : Int)) then
  if 0 ≤ j69 then
   if j69 < (↑(List.length r21) : Int) then
    obind (z48_v n b2 r3 (Row.S (List.getD r21 (Int.toNat j69) []) 0) (Row.S (List.getD r21 (Int.toNat j69) []) 1) (Row.S (List.getD r21 (Int.toNat j69) []) 2) (Row.N (List.getD r21 (Int.toNat j69) []) 3) (Row.R (List.getD r21 (Int.toNat j69) []) 3)) fun y70 =>
    if 0 ≤ j69 then
     if j69 < (↑(List.length r21) : Int) then
      obind (z32_v n (Row.S (List.getD r21 (Int.toNat j69) []) 0) (Row.S (List.getD r21 (Int.toNat j69) []) 1) (Row.S (List.getD r21 (Int.toNat j69) []) 2) (Row.N (List.getD r21 (Int.toNat j69) []) 3) (Row.R (List.getD r21 (Int.toNat j69) []) 3) b22 r23 b24) fun y71 =>
      z19_l16 n b0 r1 b2 r3 j4 i0 n b20 r21 y70.fst y71.fst.fst y71.fst.snd y71.snd.fst.fst.fst y71.snd.fst.fst.snd y71.snd.fst.snd.fst b25 r26 0 j69
     else none
    else none
   else none
  else none
 else z19_l22 n b0 r1 b2 r3 j4 n b20 r21 b22 r23 b24 b25 r26 0 := by kernel_rfl
theorem z19_s16 (n : Nat) (b0 : Bool) (r1 : Rows) (b2 : Bool) (r3 : Rows) (j4 : Int) (i0 i1 : Nat) (b29 : Bool) (r30 : List (List DV)) (b31 : Bool) (b32 : Bool) (r33 : List (List DV)) (b34 : Bool) (r35 : List (List DV)) (b36 : Bool) (b37 : Bool) (r38 : List (List DV)) (j68 : Int) (j72 : Int) : z19_l16 n b0 r1 b2 r3 j4 i0 (i1 + 1) b29 r30 b31 b32 r33 b34 r35 b36 b37 r38 j68 j72 =
 bif decide (j68 < (↑(List.length r33) : Int)) then
  bif b31 then
   z19_l16 n b0 r1 b2 r3 j4 i0 i1 b29 r30 true b32 r33 b34 r35 b36 b37 r38 (IntKind.wrap IntKind.i64 (j68 + 1)) j72
  else if 0 ≤ j68 then
   if j68 < (↑(List.length r33) : Int) then
    obind (z36_v n (Row.N (List.getD r33 (Int.toNat j68) []) 5) (Row.R (List.getD r33 (Int.toNat j68) []) 5) b29 r30) fun y73 =>
    z19_l16 n b0 r1 b2 r3 j4 i0 i1 b29 r30 ((↑(List.length y73.fst.snd) : Int) == 0) b32 r33 b34 r35 b36 b37 r38 (IntKind.wrap IntKind.i64 (j68 + 1)) j72
   else none
  else none
 else bif !b31 then
  some (false, ())
 else z19_l11 n b0 r1 b2 r3 j4 i0 b29 r30 b34 r35 b36 b37 r38 (IntKind.wrap IntKind.i64 (j72 + 1)) := by kernel_rfl
theorem z19_s22 (n : Nat) (b0 : Bool) (r1 : Rows) (b2 : Bool) (r3 : Rows) (j4 : Int) (i0 : Nat) (b39 : Bool) (r40 : List (List DV)) (b41 : Bool) (r42 : List (List DV)) (b43 : Bool) (b44 : Bool) (r45 : List (List DV)) (j56 : Int) : z19_l22 n b0 r1 b2 r3 j4 (i0 + 1) b39 r40 b41 r42 b43 b44 r45 j56 =
 bif decide (j56 < (↑(List.length r1) : Int)) then
  if 0 ≤ j56 then
   if j56 < (↑(List.length r1) : Int) then
    obind (z36_v n (Row.N (List.getD r1 (Int.toNat j56) []) 5) (Row.R (List.getD r1 (Int.toNat j56) []) 5) b39 r40) fun y57 =>
    bif (↑(List.length y57.fst.snd) : Int) == 0 then
     if 0 ≤ j56 then
      if j56 < (↑(List.length r1) : Int) then
       obind (z48_v n b39 r40 (Row.S (List.getD r1 (Int.toNat j56) []) 1) (Row.S (List.getD r1 (Int.toNat j56) []) 2) (Row.S (List.getD r1 (Int.toNat j56) []) 3) (Row.N (List.getD r1 (Int.toNat j56) []) 4) (Row.R (List.getD r1 (Int.toNat j56) []) 4)) fun y58 =>
       bif !y58.fst then
        some (false, ())
       else z19_l22 n b0 r1 b2 r3 j4 i0 b39 r40 b41 r42 b43 b44 r45 (IntKind.wrap IntKind.i64 (j56 + 1))
      else none
     else none
    else z19_l22 n b0 r1 b2 r3 j4 i0 b39 r40 b41 r42 b43 b44 r45 (IntKind.wrap IntKind.i64 (j56 + 1))
   else none
  else none
 else bif decide ((↑(List.length r3) : Int) > 0) then
  if (↑(List.length r3) : Int) = 0 then
   none
  else if (↑(List.length r3) : Int) = 0 then
   none
  else if 0 ≤ Int.tmod (IntKind.wrap IntKind.i64 (Int.tmod j4 (↑(List.length r3) : Int) + (↑(List.length r3) : Int))) (↑(List.length r3) : Int) then
   if Int.tmod (IntKind.wrap IntKind.i64 (Int.tmod j4 (↑(List.length r3) : Int) + (↑(List.length r3) : Int))) (↑(List.length r3) : Int) ≤ (↑(List.length r3) : Int) then
    obind (z15_v n b2 (List.drop 0 (List.take (Int.toNat (Int.tmod (IntKind.wrap IntKind.i64 (Int.tmod j4 (↑(List.length r3) : Int) + (↑(List.length r3) : Int))) (↑(List.length r3) : Int))) r3)) b41 r42 b43) fun y59 =>
    obind (z36_v n y59.fst.fst y59.fst.snd b39 r40) fun y60 =>
    bif decide ((↑(List.length y60.fst.snd) : Int) > 0) then
     some (false, ())
    else obind (z15_v n b39 r40 y59.snd.fst.fst.fst y59.snd.fst.fst.snd y59.snd.fst.snd.fst) fun y61 =>
    obind (z40_v n y61.fst.fst y61.fst.snd b39 r40) fun y62 =>
    bif y62.fst then
     obind (z44_v n) fun y63 =>
     some (y63.fst, ())
    else some (false, ())
   else none
  else none
 else obind (z15_v n b39 r40 b41 r42 b43) fun y64 =>
 obind (z40_v n y64.fst.fst y64.fst.snd b39 r40) fun y65 =>
 bif y65.fst then
  obind (z44_v n) fun y66 =>
  some (y66.fst, ())
 else some (false, ()) := by kernel_rfl
theorem z19_e (n : Nat) (b0 : Bool) (r1 : Rows) (b2 : Bool) (r3 : Rows) (j4 : Int) : z19_v n b0 r1 b2 r3 j4 =
 obind (z29_v n b0 r1 200) fun y5 =>
 bif decide (y5.fst > 200) then
  obind (z44_v n) fun y6 =>
  some (y6.fst, ())
 else obind (z28_v n b2 r3 100) fun y7 =>
 bif decide (y7.fst > 100) then
  obind (z44_v n) fun y8 =>
  some (y8.fst, ())
 else obind (z46_v n b0 r1) fun y9 =>
 obind (z15_v n b2 r3 y9.snd.fst.fst.fst y9.snd.fst.fst.snd y9.snd.fst.snd.fst) fun y10 =>
 z19_l6 n b0 r1 b2 r3 j4 n y10.fst.fst y10.fst.snd y10.snd.fst.fst.fst y10.snd.fst.fst.snd y10.snd.fst.snd.fst y9.snd.snd.fst.fst.fst y9.snd.snd.fst.fst.snd 0 := by kernel_rfl
theorem z19_c (n : Nat) (b0 : Bool) (r1 : Rows) (b2 : Bool) (r3 : Rows) (j4 : Int) (y : Bool × Unit) (h : z19_v n b0 r1 b2 r3 j4 = some y) : Contract Try.prog 4 [AV.sl b0 [Kd.i IntKind.i64, Kd.s, Kd.s, Kd.s, Kd.sl [Kd.b, Kd.i IntKind.i64, Kd.s], Kd.sl [Kd.s, Kd.s, Kd.s, Kd.sl [Kd.b, Kd.i IntKind.i64, Kd.s]]] r1 Right.no, AV.sl b2 [Kd.s, Kd.s, Kd.s, Kd.sl [Kd.b, Kd.i IntKind.i64, Kd.s]] r3 Right.no, AV.dv (DV.val (Value.int IntKind.i64 j4))] [] (OSh.enc (OSh.plain (.b) []) y) :=
 auto_okM tm_std (with_ok mixed (by kernel_rfl) (z19_σok n) n 0 [1000045, 1000059]) (with_pick mixed (by kernel_rfl) (z19_σok n) n 0 [1000045, 1000059]) mixed Try.func4 (by decide) (o := (OSh.plain (.b) [])) h
end Go.Den
