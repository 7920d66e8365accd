import Derived.Test.YtkgiabbndbmmbaaZ17
set_option linter.unusedVariables false
set_option linter.unusedSimpArgs false
set_option linter.unusedSectionVars false
namespace Go.Den
open Go.Proofs
set_option maxRecDepth 100000
def z16_lv : Live := []
noncomputable def z16_σ (n : Nat) : Spec := (inst 8 [.sl [Kd.i IntKind.i64, Kd.s, Kd.s, Kd.s, Kd.sl [Kd.b, Kd.i IntKind.i64, Kd.s], Kd.sl [Kd.s, Kd.s, Kd.s, Kd.sl [Kd.b, Kd.i IntKind.i64, Kd.s]]], .i IntKind.i64] [] (OSh.plain (.i IntKind.i64) []) (fun x e => z28_v n x.1.1 x.1.2 x.2.1) (inst 10 [] [] (OSh.plain (.b) []) (fun x e => z45_v n) (inst 9 [.sl [Kd.s, Kd.s, Kd.s, Kd.sl [Kd.b, Kd.i IntKind.i64, Kd.s]], .i IntKind.i64] [] (OSh.plain (.i IntKind.i64) []) (fun x e => z33_v n x.1.1 x.1.2 x.2.1) (inst 11 [.sl [Kd.i IntKind.i64, Kd.s, Kd.s, Kd.s, Kd.sl [Kd.b, Kd.i IntKind.i64, Kd.s], Kd.sl [Kd.s, Kd.s, Kd.s, Kd.sl [Kd.b, Kd.i IntKind.i64, Kd.s]]]] [] (OSh.plain (.tup [.pl 1000 0, .pl 1001 0]) [[.sl [Kd.i IntKind.i64, Kd.s, Kd.s, Kd.s, Kd.sl [Kd.b, Kd.i IntKind.i64, Kd.s], Kd.sl [Kd.s, Kd.s, Kd.s, Kd.sl [Kd.b, Kd.i IntKind.i64, Kd.s]]], .b], [.sl [Kd.i IntKind.i64, Kd.s, Kd.s, Kd.s, Kd.sl [Kd.b, Kd.i IntKind.i64, Kd.s], Kd.sl [Kd.s, Kd.s, Kd.s, Kd.sl [Kd.b, Kd.i IntKind.i64, Kd.s]]]]]) (fun x e => z40_v n x.1.1 x.1.2) (inst 12 [.sl [Kd.s, Kd.s, Kd.s, Kd.sl [Kd.b, Kd.i IntKind.i64, Kd.s]]] [] (OSh.plain (.slt [Kd.s, Kd.s, Kd.s, Kd.sl [Kd.b, Kd.i IntKind.i64, Kd.s]] 0) []) (fun x e => z44_v n x.1.1 x.1.2) (inst 14 [.pl 1000 0, .sl [Kd.s, Kd.s, Kd.s, Kd.sl [Kd.b, Kd.i IntKind.i64, Kd.s]]] [[.sl [Kd.i IntKind.i64, Kd.s, Kd.s, Kd.s, Kd.sl [Kd.b, Kd.i IntKind.i64, Kd.s], Kd.sl [Kd.s, Kd.s, Kd.s, Kd.sl [Kd.b, Kd.i IntKind.i64, Kd.s]]], .b]] (OSh.plain (.slt [Kd.s, Kd.s, Kd.s, Kd.sl [Kd.b, Kd.i IntKind.i64, Kd.s]] 0) [[.sl [Kd.i IntKind.i64, Kd.s, Kd.s, Kd.s, Kd.sl [Kd.b, Kd.i IntKind.i64, Kd.s], Kd.sl [Kd.s, Kd.s, Kd.s, Kd.sl [Kd.b, Kd.i IntKind.i64, Kd.s]]], .b]]) (fun x e => z15_v n x.2.1.1 x.2.1.2 e.1.1.1 e.1.1.2 e.1.2.1) (inst 15 [.pl 1000 0, .sl [Kd.s, Kd.s, Kd.s, Kd.sl [Kd.b, Kd.i IntKind.i64, Kd.s]]] [[.sl [Kd.i IntKind.i64, Kd.s, Kd.s, Kd.s, Kd.sl [Kd.b, Kd.i IntKind.i64, Kd.s], Kd.sl [Kd.s, Kd.s, Kd.s, Kd.sl [Kd.b, Kd.i IntKind.i64, Kd.s]]]]] (OSh.plain (.slt [Kd.s, Kd.s, Kd.s, Kd.sl [Kd.b, Kd.i IntKind.i64, Kd.s]] 0) [[.sl [Kd.i IntKind.i64, Kd.s, Kd.s, Kd.s, Kd.sl [Kd.b, Kd.i IntKind.i64, Kd.s], Kd.sl [Kd.s, Kd.s, Kd.s, Kd.sl [Kd.b, Kd.i IntKind.i64, Kd.s]]]]]) (fun x e => z12_v n x.2.1.1 x.2.1.2 e.1.1.1 e.1.1.2) (inst 13 [.sl [Kd.s, Kd.s, Kd.s, Kd.sl [Kd.b, Kd.i IntKind.i64, Kd.s]], .sl [Kd.s, Kd.s, Kd.s, Kd.sl [Kd.b, Kd.i IntKind.i64, Kd.s]]] [] (OSh.plain (.b) []) (fun x e => z42_v n x.1.1 x.1.2 x.2.1.1 x.2.1.2) (bookH Spec.none)))))))))
theorem z16_σok (n : Nat) : SpecOk Try.prog (z16_σ n) := (inst_ok (fun x e y h => z28_c n x.1.1 x.1.2 x.2.1 y h) (inst_ok (fun x e y h => z45_c n y h) (inst_ok (fun x e y h => z33_c n x.1.1 x.1.2 x.2.1 y h) (inst_ok (fun x e y h => z40_c n x.1.1 x.1.2 y h) (inst_ok (fun x e y h => z44_c n x.1.1 x.1.2 y h) (inst_ok (fun x e y h => z15_c n x.2.1.1 x.2.1.2 e.1.1.1 e.1.1.2 e.1.2.1 y h) (inst_ok (fun x e y h => z12_c n x.2.1.1 x.2.1.2 e.1.1.1 e.1.1.2 y h) (inst_ok (fun x e y h => z42_c n x.1.1 x.1.2 x.2.1.1 x.2.1.2 y h) (bookH_ok (SpecOk.none _))))))))))
noncomputable def z16_Φ (n : Nat) : Orc := with_ Try.prog (z16_σ n) [] n 0 [1000045, 1000059]
noncomputable def z16_v (n : Nat) (b0 : Bool) (r1 : Rows) (b2 : Bool) (r3 : Rows) : Option (Bool × Unit) :=
 DM.denFn tm (z16_Φ n) z16_lv n Try.f3 false [AV.sl b0 [Kd.i IntKind.i64, Kd.s, Kd.s, Kd.s, Kd.sl [Kd.b, Kd.i IntKind.i64, Kd.s], Kd.sl [Kd.s, Kd.s, Kd.s, Kd.sl [Kd.b, Kd.i IntKind.i64, Kd.s]]] r1 Right.no, AV.sl b2 [Kd.s, Kd.s, Kd.s, Kd.sl [Kd.b, Kd.i IntKind.i64, Kd.s]] r3 Right.no] [] (OSh.chk (OSh.plain (.b) []))
theorem z16_e (n : Nat) (b0 : Bool) (r1 : Rows) (b2 : Bool) (r3 : Rows) : z16_v n b0 r1 b2 r3 =
 obind (z28_v n b0 r1 300) fun y4 =>
 bif decide (y4.fst > 300) then
  obind (z45_v n) fun y5 =>
  some (y5.fst, ())
 else obind (z33_v n b2 r3 200) fun y6 =>
 bif decide (y6.fst > 200) then
  obind (z45_v n) fun y7 =>
  some (y7.fst, ())
 else obind (z40_v n b0 r1) fun y8 =>
 obind (z44_v n b2 r3) fun y9 =>
 obind (z15_v n y9.fst.fst y9.fst.snd y8.snd.fst.fst.fst y8.snd.fst.fst.snd y8.snd.fst.snd.fst) fun y10 =>
 obind (z12_v n b2 r3 y8.snd.snd.fst.fst.fst y8.snd.snd.fst.fst.snd) fun y11 =>
 obind (z42_v n y10.fst.fst y10.fst.snd y11.fst.fst y11.fst.snd) fun y12 =>
 bif y12.fst then
  obind (z42_v n y9.fst.fst y9.fst.snd b2 r3) fun y13 =>
  bif y13.fst then
   obind (z45_v n) fun y14 =>
   some (y14.fst, ())
  else some (false, ())
 else some (false, ()) := by kernel_rfl
theorem z16_c (n : Nat) (b0 : Bool) (r1 : Rows) (b2 : Bool) (r3 : Rows) (y : Bool × Unit) (h : z16_v n b0 r1 b2 r3 = some y) : Contract Try.prog 3 [AV.sl b0 [Kd.i IntKind.i64, Kd.s, Kd.s, Kd.s, Kd.sl [Kd.b, Kd.i IntKind.i64, Kd.s], Kd.sl [Kd.s, Kd.s, Kd.s, Kd.sl [Kd.b, Kd.i IntKind.i64, Kd.s]]] r1 Right.no, AV.sl b2 [Kd.s, Kd.s, Kd.s, Kd.sl [Kd.b, Kd.i IntKind.i64, Kd.s]] r3 Right.no] [] (OSh.enc (OSh.plain (.b) []) y) :=
 auto_okM tm_std (with_ok mixed (by kernel_rfl) (z16_σok n) n 0 [1000045, 1000059]) (with_pick mixed (by kernel_rfl) (z16_σok n) n 0 [1000045, 1000059]) mixed Try.func3 (by decide) (o := (OSh.plain (.b) [])) h
end Go.Den
