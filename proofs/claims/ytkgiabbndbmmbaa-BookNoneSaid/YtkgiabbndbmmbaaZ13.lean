import Derived.Test.YtkgiabbndbmmbaaZ04
import Derived.Test.YtkgiabbndbmmbaaZ12
set_option linter.unusedVariables false
set_option linter.unusedSimpArgs false
set_option linter.unusedSectionVars false
namespace Go.Den
open Go.Proofs
set_option maxRecDepth 100000
def z16_lv : Live := []
noncomputable def z16_σ (n : Nat) : Spec := (bookH Spec.none)
theorem z16_σok (n : Nat) : SpecOk Try.prog (z16_σ n) := (bookH_ok (SpecOk.none _))
noncomputable def z16_Φ (n : Nat) : Orc := with_ Try.prog (z16_σ n) [] n 0 [1000045, 1000059]
noncomputable def z16_v (n : Nat) : Option (Bool × Unit) :=
 DM.denFn tm (z16_Φ n) z16_lv n Try.f36 false [AV.dv (DV.val (Value.pointer none))] [] (OSh.chk (OSh.plain (.b) []))
theorem z16_e (n : Nat) : z16_v n =
 some (true, ()) := by kernel_rfl
theorem z16_c (n : Nat) (y : Bool × Unit) (h : z16_v n = some y) : Contract Try.prog 36 [AV.dv (DV.val (Value.pointer none))] [] (OSh.enc (OSh.plain (.b) []) y) :=
 auto_okM tm_std (with_ok mixed (by kernel_rfl) (z16_σok n) n 0 [1000045, 1000059]) (with_pick mixed (by kernel_rfl) (z16_σok n) n 0 [1000045, 1000059]) mixed Try.func36 (by decide) (o := (OSh.plain (.b) [])) h
def z21_lv : Live := [(1000006, [1, 30], [])]
noncomputable def z21_σ (n : Nat) : Spec := (inst 36 [.nilp] [] (OSh.plain (.b) []) (fun x e => z16_v n) (bookH Spec.none))
theorem z21_σok (n : Nat) : SpecOk Try.prog (z21_σ n) := (inst_ok (fun x e y h => z16_c n y h) (bookH_ok (SpecOk.none _)))
noncomputable def z21_Φ (n : Nat) : Orc := with_ Try.prog (z21_σ n) [] n 0 [4000025,  4000030,  5000008, 1000045, 1000059]
noncomputable def z21_v (n : Nat) (j0 : Int) (s1 : ByteArray) (s2 : ByteArray) (s3 : ByteArray) (b4 : Bool) (r5 : Rows) (b6 : Bool) (r7 : Rows) : Option (Bool × Unit) :=
 DM.denFn tm (z21_Φ n) z21_lv n Try.f25 false [AV.dv (DV.val (Value.pointer none)), AV.agg [AV.dv (DV.val (Value.int IntKind.i64 j0)), AV.dv (DV.val (Value.string s1)), AV.dv (DV.val (Value.string s2)), AV.dv (DV.val (Value.string s3)), AV.sl b4 [Kd.b, Kd.i IntKind.i64, Kd.s] r5 Right.no, AV.sl b6 [Kd.s, Kd.s, Kd.s, Kd.sl [Kd.b, Kd.i IntKind.i64, Kd.s]] r7 Right.no]] [] (OSh.chk (OSh.plain (.b) []))
theorem z21_e (n : Nat) (j0 : Int) (s1 : ByteArray) (s2 : ByteArray) (s3 : ByteArray) (b4 : Bool) (r5 : Rows) (b6 : Bool) (r7 : Rows) : z21_v n j0 s1 s2 s3 b4 r5 b6 r7 =
 obind (z16_v n) fun y8 =>
 bif y8.fst then
  some (false, ())
 else none := by kernel_rfl
theorem z21_c (n : Nat) (j0 : Int) (s1 : ByteArray) (s2 : ByteArray) (s3 : ByteArray) (b4 : Bool) (r5 : Rows) (b6 : Bool) (r7 : Rows) (y : Bool × Unit) (h : z21_v n j0 s1 s2 s3 b4 r5 b6 r7 = some y) : Contract Try.prog 25 [AV.dv (DV.val (Value.pointer none)), AV.agg [AV.dv (DV.val (Value.int IntKind.i64 j0)), AV.dv (DV.val (Value.string s1)), AV.dv (DV.val (Value.string s2)), AV.dv (DV.val (Value.string s3)), AV.sl b4 [Kd.b, Kd.i IntKind.i64, Kd.s] r5 Right.no, AV.sl b6 [Kd.s, Kd.s, Kd.s, Kd.sl [Kd.b, Kd.i IntKind.i64, Kd.s]] r7 Right.no]] [] (OSh.enc (OSh.plain (.b) []) y) :=
 auto_okM tm_std (with_ok mixed (by kernel_rfl) (z21_σok n) n 0 [4000025,  4000030,  5000008, 1000045, 1000059]) (with_pick mixed (by kernel_rfl) (z21_σok n) n 0 [4000025,  4000030,  5000008, 1000045, 1000059]) mixed Try.func25 (by decide) (o := (OSh.plain (.b) [])) h
def z17_lv : Live := [(1000006, [1, 28], [])]
noncomputable def z17_σ (n : Nat) : Spec := (inst 36 [.nilp] [] (OSh.plain (.b) []) (fun x e => z16_v n) (bookH Spec.none))
theorem z17_σok (n : Nat) : SpecOk Try.prog (z17_σ n) := (inst_ok (fun x e y h => z16_c n y h) (bookH_ok (SpecOk.none _)))
noncomputable def z17_Φ (n : Nat) : Orc := with_ Try.prog (z17_σ n) [] n 0 [5000008,  4000024, 1000045, 1000059]
noncomputable def z17_v (n : Nat) (j0 : Int) (s1 : ByteArray) (s2 : ByteArray) (s3 : ByteArray) (b4 : Bool) (r5 : Rows) (b6 : Bool) (r7 : Rows) : Option (Bool × Unit) :=
 DM.denFn tm (z17_Φ n) z17_lv n Try.f27 false [AV.dv (DV.val (Value.pointer none)), AV.agg [AV.dv (DV.val (Value.int IntKind.i64 j0)), AV.dv (DV.val (Value.string s1)), AV.dv (DV.val (Value.string s2)), AV.dv (DV.val (Value.string s3)), AV.sl b4 [Kd.b, Kd.i IntKind.i64, Kd.s] r5 Right.no, AV.sl b6 [Kd.s, Kd.s, Kd.s, Kd.sl [Kd.b, Kd.i IntKind.i64, Kd.s]] r7 Right.no]] [] (OSh.chk (OSh.plain (.b) []))
theorem z17_e (n : Nat) (j0 : Int) (s1 : ByteArray) (s2 : ByteArray) (s3 : ByteArray) (b4 : Bool) (r5 : Rows) (b6 : Bool) (r7 : Rows) : z17_v n j0 s1 s2 s3 b4 r5 b6 r7 =
 obind (z16_v n) fun y8 =>
 bif y8.fst then
  some (false, ())
 else none := by kernel_rfl
theorem z17_c (n : Nat) (j0 : Int) (s1 : ByteArray) (s2 : ByteArray) (s3 : ByteArray) (b4 : Bool) (r5 : Rows) (b6 : Bool) (r7 : Rows) (y : Bool × Unit) (h : z17_v n j0 s1 s2 s3 b4 r5 b6 r7 = some y) : Contract Try.prog 27 [AV.dv (DV.val (Value.pointer none)), AV.agg [AV.dv (DV.val (Value.int IntKind.i64 j0)), AV.dv (DV.val (Value.string s1)), AV.dv (DV.val (Value.string s2)), AV.dv (DV.val (Value.string s3)), AV.sl b4 [Kd.b, Kd.i IntKind.i64, Kd.s] r5 Right.no, AV.sl b6 [Kd.s, Kd.s, Kd.s, Kd.sl [Kd.b, Kd.i IntKind.i64, Kd.s]] r7 Right.no]] [] (OSh.enc (OSh.plain (.b) []) y) :=
 auto_okM tm_std (with_ok mixed (by kernel_rfl) (z17_σok n) n 0 [5000008,  4000024, 1000045, 1000059]) (with_pick mixed (by kernel_rfl) (z17_σok n) n 0 [5000008,  4000024, 1000045, 1000059]) mixed Try.func27 (by decide) (o := (OSh.plain (.b) [])) h
def z20_lv : Live := []
noncomputable def z20_σ (n : Nat) : Spec := (inst 36 [.nilp] [] (OSh.plain (.b) []) (fun x e => z16_v n) (bookH Spec.none))
theorem z20_σok (n : Nat) : SpecOk Try.prog (z20_σ n) := (inst_ok (fun x e y h => z16_c n y h) (bookH_ok (SpecOk.none _)))
noncomputable def z20_Φ (n : Nat) : Orc := with_ Try.prog (z20_σ n) [] n 0 [5000004, 1000045, 1000059]
noncomputable def z20_v (n : Nat) : Option (Int × Unit) :=
 DM.denFn tm (z20_Φ n) z20_lv n Try.f22 false [AV.dv (DV.val (Value.pointer none))] [] (OSh.chk (OSh.plain (.i IntKind.i64) []))
theorem z20_e (n : Nat) : z20_v n =
 obind (z16_v n) fun y0 =>
 bif y0.fst then
  some (0, ())
 else none := by kernel_rfl
theorem z20_c (n : Nat) (y : Int × Unit) (h : z20_v n = some y) : Contract Try.prog 22 [AV.dv (DV.val (Value.pointer none))] [] (OSh.enc (OSh.plain (.i IntKind.i64) []) y) :=
 auto_okM tm_std (with_ok mixed (by kernel_rfl) (z20_σok n) n 0 [5000004, 1000045, 1000059]) (with_pick mixed (by kernel_rfl) (z20_σok n) n 0 [5000004, 1000045, 1000059]) mixed Try.func22 (by decide) (o := (OSh.plain (.i IntKind.i64) [])) h
def z3_lv : Live := [(5, [1, 5, 13, 14, 15], [1000, 1001, 1002, 1003])]
noncomputable def z3_σ (n : Nat) : Spec := (inst 36 [.nilp] [] (OSh.plain (.b) []) (fun x e => z16_v n) (bookH Spec.none))
theorem z3_σok (n : Nat) : SpecOk Try.prog (z3_σ n) := (inst_ok (fun x e y h => z16_c n y h) (bookH_ok (SpecOk.none _)))
noncomputable def z3_Φ (n : Nat) : Orc := with_ Try.prog (z3_σ n) [] n 0 [5000009,  5000021, 1000045, 1000059]
noncomputable def z3_v (n : Nat) (s0 : ByteArray) (s1 : ByteArray) (s2 : ByteArray) (b3 : Bool) (r4 : Rows) : Option ((Bool × Rows) × (ByteArray × ByteArray × ByteArray × (Bool × Rows) × Unit) × Unit) :=
 DM.denFn tm (z3_Φ n) z3_lv n Try.f46 true [AV.dv (DV.val (Value.pointer none)), AV.fn 47 [AV.pl 1000 0]] [[AV.dv (DV.val (Value.string s0)), AV.dv (DV.val (Value.string s1)), AV.dv (DV.val (Value.string s2)), AV.sl b3 [Kd.b, Kd.i IntKind.i64, Kd.s] r4 Right.no]] (OSh.chk (OSh.plain (.slt [Kd.i IntKind.i64, Kd.s, Kd.s, Kd.s, Kd.sl [Kd.b, Kd.i IntKind.i64, Kd.s], Kd.sl [Kd.s, Kd.s, Kd.s, Kd.sl [Kd.b, Kd.i IntKind.i64, Kd.s]]] 0) [[.s, .s, .s, .sl [Kd.b, Kd.i IntKind.i64, Kd.s]]]))
theorem z3_e (n : Nat) (s0 : ByteArray) (s1 : ByteArray) (s2 : ByteArray) (b3 : Bool) (r4 : Rows) : z3_v n s0 s1 s2 b3 r4 =
 obind (z16_v n) fun y5 =>
 bif y5.fst then
  some ((true, []), ((s0, (s1, (s2, ((b3, r4), ())))), ()))
 else none := by kernel_rfl
theorem z3_c (n : Nat) (s0 : ByteArray) (s1 : ByteArray) (s2 : ByteArray) (b3 : Bool) (r4 : Rows) (y : (Bool × Rows) × (ByteArray × ByteArray × ByteArray × (Bool × Rows) × Unit) × Unit) (h : z3_v n s0 s1 s2 b3 r4 = some y) : Contract Try.prog 46 [AV.dv (DV.val (Value.pointer none)), AV.fn 47 [AV.pl 1000 0]] [[AV.dv (DV.val (Value.string s0)), AV.dv (DV.val (Value.string s1)), AV.dv (DV.val (Value.string s2)), AV.sl b3 [Kd.b, Kd.i IntKind.i64, Kd.s] r4 Right.no]] (OSh.enc (OSh.plain (.slt [Kd.i IntKind.i64, Kd.s, Kd.s, Kd.s, Kd.sl [Kd.b, Kd.i IntKind.i64, Kd.s], Kd.sl [Kd.s, Kd.s, Kd.s, Kd.sl [Kd.b, Kd.i IntKind.i64, Kd.s]]] 0) [[.s, .s, .s, .sl [Kd.b, Kd.i IntKind.i64, Kd.s]]]) y) :=
 auto_okM tm_std (with_ok mixed (by kernel_rfl) (z3_σok n) n 0 [5000009,  5000021, 1000045, 1000059]) (with_pick mixed (by kernel_rfl) (z3_σok n) n 0 [5000009,  5000021, 1000045, 1000059]) mixed Try.func46 (by decide) (o := (OSh.plain (.slt [Kd.i IntKind.i64, Kd.s, Kd.s, Kd.s, Kd.sl [Kd.b, Kd.i IntKind.i64, Kd.s], Kd.sl [Kd.s, Kd.s, Kd.s, Kd.sl [Kd.b, Kd.i IntKind.i64, Kd.s]]] 0) [[.s, .s, .s, .sl [Kd.b, Kd.i IntKind.i64, Kd.s]]])) h
def z22_lv : Live := []
noncomputable def z22_σ (n : Nat) : Spec := (inst 46 [.nilp, .fn 47 [.pl 1000 0]] [[.s, .s, .s, .sl [Kd.b, Kd.i IntKind.i64, Kd.s]]] (OSh.plain (.slt [Kd.i IntKind.i64, Kd.s, Kd.s, Kd.s, Kd.sl [Kd.b, Kd.i IntKind.i64, Kd.s], Kd.sl [Kd.s, Kd.s, Kd.s, Kd.sl [Kd.b, Kd.i IntKind.i64, Kd.s]]] 0) [[.s, .s, .s, .sl [Kd.b, Kd.i IntKind.i64, Kd.s]]]) (fun x e => z3_v n e.1.1 e.1.2.1 e.1.2.2.1 e.1.2.2.2.1.1 e.1.2.2.2.1.2) (bookH Spec.none))
theorem z22_σok (n : Nat) : SpecOk Try.prog (z22_σ n) := (inst_ok (fun x e y h => z3_c n e.1.1 e.1.2.1 e.1.2.2.1 e.1.2.2.2.1.1 e.1.2.2.2.1.2 y h) (bookH_ok (SpecOk.none _)))
noncomputable def z22_Φ (n : Nat) : Orc := with_ Try.prog (z22_σ n) [] n 0 [1000045, 1000059]
noncomputable def z22_v (n : Nat) (s0 : ByteArray) (s1 : ByteArray) (s2 : ByteArray) (b3 : Bool) (r4 : Rows) : Option ((Bool × Rows) × Unit) :=
 DM.denFn tm (z22_Φ n) z22_lv n Try.f17 true [AV.dv (DV.val (Value.pointer none)), AV.agg [AV.dv (DV.val (Value.string s0)), AV.dv (DV.val (Value.string s1)), AV.dv (DV.val (Value.string s2)), AV.sl b3 [Kd.b, Kd.i IntKind.i64, Kd.s] r4 Right.no]] [] (OSh.chk (OSh.plain (.slt [Kd.i IntKind.i64, Kd.s, Kd.s, Kd.s, Kd.sl [Kd.b, Kd.i IntKind.i64, Kd.s], Kd.sl [Kd.s, Kd.s, Kd.s, Kd.sl [Kd.b, Kd.i IntKind.i64, Kd.s]]] 0) []))
theorem z22_e (n : Nat) (s0 : ByteArray) (s1 : ByteArray) (s2 : ByteArray) (b3 : Bool) (r4 : Rows) : z22_v n s0 s1 s2 b3 r4 =
 obind (z3_v n s0 s1 s2 b3 r4) fun y5 =>
 some ((y5.fst.fst, y5.fst.snd), ()) := by kernel_rfl
theorem z22_c (n : Nat) (s0 : ByteArray) (s1 : ByteArray) (s2 : ByteArray) (b3 : Bool) (r4 : Rows) (y : (Bool × Rows) × Unit) (h : z22_v n s0 s1 s2 b3 r4 = some y) : Contract Try.prog 17 [AV.dv (DV.val (Value.pointer none)), AV.agg [AV.dv (DV.val (Value.string s0)), AV.dv (DV.val (Value.string s1)), AV.dv (DV.val (Value.string s2)), AV.sl b3 [Kd.b, Kd.i IntKind.i64, Kd.s] r4 Right.no]] [] (OSh.enc (OSh.plain (.slt [Kd.i IntKind.i64, Kd.s, Kd.s, Kd.s, Kd.sl [Kd.b, Kd.i IntKind.i64, Kd.s], Kd.sl [Kd.s, Kd.s, Kd.s, Kd.sl [Kd.b, Kd.i IntKind.i64, Kd.s]]] 0) []) y) :=
 auto_okM tm_std (with_ok mixed (by kernel_rfl) (z22_σok n) n 0 [1000045, 1000059]) (with_pick mixed (by kernel_rfl) (z22_σok n) n 0 [1000045, 1000059]) mixed Try.func17 (by decide) (o := (OSh.plain (.slt [Kd.i IntKind.i64, Kd.s, Kd.s, Kd.s, Kd.sl [Kd.b, Kd.i IntKind.i64, Kd.s], Kd.sl [Kd.s, Kd.s, Kd.s, Kd.sl [Kd.b, Kd.i IntKind.i64, Kd.s]]] 0) [])) h
def z1_lv : Live := [(5, [1, 5, 13, 14, 15], [1000, 1001, 1002, 1003])]
noncomputable def z1_σ (n : Nat) : Spec := (inst 36 [.nilp] [] (OSh.plain (.b) []) (fun x e => z16_v n) (bookH Spec.none))
theorem z1_σok (n : Nat) : SpecOk Try.prog (z1_σ n) := (inst_ok (fun x e y h => z16_c n y h) (bookH_ok (SpecOk.none _)))
noncomputable def z1_Φ (n : Nat) : Orc := with_ Try.prog (z1_σ n) [] n 0 [5000009,  5000021, 1000045, 1000059]
noncomputable def z1_v (n : Nat) (s0 : ByteArray) (s1 : ByteArray) (s2 : ByteArray) (b3 : Bool) (r4 : Rows) : Option ((Bool × Rows) × (ByteArray × ByteArray × ByteArray × (Bool × Rows) × Unit) × Unit) :=
 DM.denFn tm (z1_Φ n) z1_lv n Try.f46 true [AV.dv (DV.val (Value.pointer none)), AV.fn 48 [AV.pl 1000 0]] [[AV.dv (DV.val (Value.string s0)), AV.dv (DV.val (Value.string s1)), AV.dv (DV.val (Value.string s2)), AV.sl b3 [Kd.b, Kd.i IntKind.i64, Kd.s] r4 Right.no]] (OSh.chk (OSh.plain (.slt [Kd.i IntKind.i64, Kd.s, Kd.s, Kd.s, Kd.sl [Kd.b, Kd.i IntKind.i64, Kd.s], Kd.sl [Kd.s, Kd.s, Kd.s, Kd.sl [Kd.b, Kd.i IntKind.i64, Kd.s]]] 0) [[.s, .s, .s, .sl [Kd.b, Kd.i IntKind.i64, Kd.s]]]))
theorem z1_e (n : Nat) (s0 : ByteArray) (s1 : ByteArray) (s2 : ByteArray) (b3 : Bool) (r4 : Rows) : z1_v n s0 s1 s2 b3 r4 =
 obind (z16_v n) fun y5 =>
 bif y5.fst then
  some ((true, []), ((s0, (s1, (s2, ((b3, r4), ())))), ()))
 else none := by kernel_rfl
theorem z1_c (n : Nat) (s0 : ByteArray) (s1 : ByteArray) (s2 : ByteArray) (b3 : Bool) (r4 : Rows) (y : (Bool × Rows) × (ByteArray × ByteArray × ByteArray × (Bool × Rows) × Unit) × Unit) (h : z1_v n s0 s1 s2 b3 r4 = some y) : Contract Try.prog 46 [AV.dv (DV.val (Value.pointer none)), AV.fn 48 [AV.pl 1000 0]] [[AV.dv (DV.val (Value.string s0)), AV.dv (DV.val (Value.string s1)), AV.dv (DV.val (Value.string s2)), AV.sl b3 [Kd.b, Kd.i IntKind.i64, Kd.s] r4 Right.no]] (OSh.enc (OSh.plain (.slt [Kd.i IntKind.i64, Kd.s, Kd.s, Kd.s, Kd.sl [Kd.b, Kd.i IntKind.i64, Kd.s], Kd.sl [Kd.s, Kd.s, Kd.s, Kd.sl [Kd.b, Kd.i IntKind.i64, Kd.s]]] 0) [[.s, .s, .s, .sl [Kd.b, Kd.i IntKind.i64, Kd.s]]]) y) :=
 auto_okM tm_std (with_ok mixed (by kernel_rfl) (z1_σok n) n 0 [5000009,  5000021, 1000045, 1000059]) (with_pick mixed (by kernel_rfl) (z1_σok n) n 0 [5000009,  5000021, 1000045, 1000059]) mixed Try.func46 (by decide) (o := (OSh.plain (.slt [Kd.i IntKind.i64, Kd.s, Kd.s, Kd.s, Kd.sl [Kd.b, Kd.i IntKind.i64, Kd.s], Kd.sl [Kd.s, Kd.s, Kd.s, Kd.sl [Kd.b, Kd.i IntKind.i64, Kd.s]]] 0) [[.s, .s, .s, .sl [Kd.b, Kd.i IntKind.i64, Kd.s]]])) h
def z19_lv : Live := []
noncomputable def z19_σ (n : Nat) : Spec := (inst 46 [.nilp, .fn 48 [.pl 1000 0]] [[.s, .s, .s, .sl [Kd.b, Kd.i IntKind.i64, Kd.s]]] (OSh.plain (.slt [Kd.i IntKind.i64, Kd.s, Kd.s, Kd.s, Kd.sl [Kd.b, Kd.i IntKind.i64, Kd.s], Kd.sl [Kd.s, Kd.s, Kd.s, Kd.sl [Kd.b, Kd.i IntKind.i64, Kd.s]]] 0) [[.s, .s, .s, .sl [Kd.b, Kd.i IntKind.i64, Kd.s]]]) (fun x e => z1_v n e.1.1 e.1.2.1 e.1.2.2.1 e.1.2.2.2.1.1 e.1.2.2.2.1.2) (bookH Spec.none))
theorem z19_σok (n : Nat) : SpecOk Try.prog (z19_σ n) := (inst_ok (fun x e y h => z1_c n e.1.1 e.1.2.1 e.1.2.2.1 e.1.2.2.2.1.1 e.1.2.2.2.1.2 y h) (bookH_ok (SpecOk.none _)))
noncomputable def z19_Φ (n : Nat) : Orc := with_ Try.prog (z19_σ n) [] n 0 [1000045, 1000059]
noncomputable def z19_v (n : Nat) (s0 : ByteArray) (s1 : ByteArray) (s2 : ByteArray) (b3 : Bool) (r4 : Rows) : Option ((Bool × Rows) × Unit) :=
 DM.denFn tm (z19_Φ n) z19_lv n Try.f20 true [AV.dv (DV.val (Value.pointer none)), AV.agg [AV.dv (DV.val (Value.string s0)), AV.dv (DV.val (Value.string s1)), AV.dv (DV.val (Value.string s2)), AV.sl b3 [Kd.b, Kd.i IntKind.i64, Kd.s] r4 Right.no]] [] (OSh.chk (OSh.plain (.slt [Kd.i IntKind.i64, Kd.s, Kd.s, Kd.s, Kd.sl [Kd.b, Kd.i IntKind.i64, Kd.s], Kd.sl [Kd.s, Kd.s, Kd.s, Kd.sl [Kd.b, Kd.i IntKind.i64, Kd.s]]] 0) []))
theorem z19_e (n : Nat) (s0 : ByteArray) (s1 : ByteArray) (s2 : ByteArray) (b3 : Bool) (r4 : Rows) : z19_v n s0 s1 s2 b3 r4 =
 obind (z1_v n s0 s1 s2 b3 r4) fun y5 =>
 some ((y5.fst.fst, y5.fst.snd), ()) := by kernel_rfl
theorem z19_c (n : Nat) (s0 : ByteArray) (s1 : ByteArray) (s2 : ByteArray) (b3 : Bool) (r4 : Rows) (y : (Bool × Rows) × Unit) (h : z19_v n s0 s1 s2 b3 r4 = some y) : Contract Try.prog 20 [AV.dv (DV.val (Value.pointer none)), AV.agg [AV.dv (DV.val (Value.string s0)), AV.dv (DV.val (Value.string s1)), AV.dv (DV.val (Value.string s2)), AV.sl b3 [Kd.b, Kd.i IntKind.i64, Kd.s] r4 Right.no]] [] (OSh.enc (OSh.plain (.slt [Kd.i IntKind.i64, Kd.s, Kd.s, Kd.s, Kd.sl [Kd.b, Kd.i IntKind.i64, Kd.s], Kd.sl [Kd.s, Kd.s, Kd.s, Kd.sl [Kd.b, Kd.i IntKind.i64, Kd.s]]] 0) []) y) :=
 auto_okM tm_std (with_ok mixed (by kernel_rfl) (z19_σok n) n 0 [1000045, 1000059]) (with_pick mixed (by kernel_rfl) (z19_σok n) n 0 [1000045, 1000059]) mixed Try.func20 (by decide) (o := (OSh.plain (.slt [Kd.i IntKind.i64, Kd.s, Kd.s, Kd.s, Kd.sl [Kd.b, Kd.i IntKind.i64, Kd.s], Kd.sl [Kd.s, Kd.s, Kd.s, Kd.sl [Kd.b, Kd.i IntKind.i64, Kd.s]]] 0) [])) h
def z14_lv : Live := [(5, [3, 11, 12, 13], [1000, 1001, 1002, 1003])]
noncomputable def z14_σ (n : Nat) : Spec := (inst 36 [.nilp] [] (OSh.plain (.b) []) (fun x e => z16_v n) (bookH Spec.none))
theorem z14_σok (n : Nat) : SpecOk Try.prog (z14_σ n) := (inst_ok (fun x e y h => z16_c n y h) (bookH_ok (SpecOk.none _)))
noncomputable def z14_Φ (n : Nat) : Orc := with_ Try.prog (z14_σ n) [] n 0 [5000007, 1000045, 1000059]
noncomputable def z14_v (n : Nat) : Option ((Bool × Rows) × Unit) :=
 DM.denFn tm (z14_Φ n) z14_lv n Try.f19 true [AV.dv (DV.val (Value.pointer none))] [] (OSh.chk (OSh.plain (.slt [Kd.s, Kd.s, Kd.s, Kd.sl [Kd.b, Kd.i IntKind.i64, Kd.s]] 0) []))
theorem z14_e (n : Nat) : z14_v n =
 obind (z16_v n) fun y0 =>
 bif y0.fst then
  some ((true, []), ())
 else none := by kernel_rfl
theorem z14_c (n : Nat) (y : (Bool × Rows) × Unit) (h : z14_v n = some y) : Contract Try.prog 19 [AV.dv (DV.val (Value.pointer none))] [] (OSh.enc (OSh.plain (.slt [Kd.s, Kd.s, Kd.s, Kd.sl [Kd.b, Kd.i IntKind.i64, Kd.s]] 0) []) y) :=
 auto_okM tm_std (with_ok mixed (by kernel_rfl) (z14_σok n) n 0 [5000007, 1000045, 1000059]) (with_pick mixed (by kernel_rfl) (z14_σok n) n 0 [5000007, 1000045, 1000059]) mixed Try.func19 (by decide) (o := (OSh.plain (.slt [Kd.s, Kd.s, Kd.s, Kd.sl [Kd.b, Kd.i IntKind.i64, Kd.s]] 0) [])) h
def z29_lv : Live := []
noncomputable def z29_σ (n : Nat) : Spec := (bookH Spec.none)
theorem z29_σok (n : Nat) : SpecOk Try.prog (z29_σ n) := (bookH_ok (SpecOk.none _))
noncomputable def z29_Φ (n : Nat) : Orc := with_ Try.prog (z29_σ n) [] n 0 [1000045, 1000059]
noncomputable def z29_v (n : Nat) (b0 : Bool) (r1 : Rows) : Option ((Bool × Rows) × Unit) :=
 DM.denFn tm (z29_Φ n) z29_lv n Try.f57 true [AV.sl b0 [Kd.b, Kd.i IntKind.i64, Kd.s] r1 Right.no] [] (OSh.chk (OSh.plain (.slt [Kd.b, Kd.i IntKind.i64, Kd.s] 0) []))
theorem z29_e (n : Nat) (b0 : Bool) (r1 : Rows) : z29_v n b0 r1 =
 bif b0 then
  some ((true, []), ())
 else if (0 + List.length r1) * 32 ≤ 140737488355328 then
  some ((false && List.isEmpty r1, appX [] r1), ())
 else none := by kernel_rfl
theorem z29_c (n : Nat) (b0 : Bool) (r1 : Rows) (y : (Bool × Rows) × Unit) (h : z29_v n b0 r1 = some y) : Contract Try.prog 57 [AV.sl b0 [Kd.b, Kd.i IntKind.i64, Kd.s] r1 Right.no] [] (OSh.enc (OSh.plain (.slt [Kd.b, Kd.i IntKind.i64, Kd.s] 0) []) y) :=
 auto_okM tm_std (with_ok mixed (by kernel_rfl) (z29_σok n) n 0 [1000045, 1000059]) (with_pick mixed (by kernel_rfl) (z29_σok n) n 0 [1000045, 1000059]) mixed Try.func57 (by decide) (o := (OSh.plain (.slt [Kd.b, Kd.i IntKind.i64, Kd.s] 0) [])) h
def z46_lv : Live := []
noncomputable def z46_σ (n : Nat) : Spec := (bookH Spec.none)
theorem z46_σok (n : Nat) : SpecOk Try.prog (z46_σ n) := (bookH_ok (SpecOk.none _))
noncomputable def z46_Φ (n : Nat) : Orc := with_ Try.prog (z46_σ n) [] n 0 [1000045, 1000059]
noncomputable def z46_v (n : Nat) (s0 : ByteArray) : Option (Bool × Unit) :=
 DM.denFn tm (z46_Φ n) z46_lv n Try.f76 false [AV.dv (DV.val (Value.string s0))] [] (OSh.chk (OSh.plain (.b) []))
theorem z46_e (n : Nat) (s0 : ByteArray) : z46_v n s0 =
 some (!s0 == s0, ()) := by kernel_rfl
theorem z46_c (n : Nat) (s0 : ByteArray) (y : Bool × Unit) (h : z46_v n s0 = some y) : Contract Try.prog 76 [AV.dv (DV.val (Value.string s0))] [] (OSh.enc (OSh.plain (.b) []) y) :=
 auto_okM tm_std (with_ok mixed (by kernel_rfl) (z46_σok n) n 0 [1000045, 1000059]) (with_pick mixed (by kernel_rfl) (z46_σok n) n 0 [1000045, 1000059]) mixed Try.func76 (by decide) (o := (OSh.plain (.b) [])) h
def z41_lv : Live := []
noncomputable def z41_σ (n : Nat) : Spec := (inst 76 [.s] [] (OSh.plain (.b) []) (fun x e => z46_v n x.1) (bookH Spec.none))
theorem z41_σok (n : Nat) : SpecOk Try.prog (z41_σ n) := (inst_ok (fun x e y h => z46_c n x.1 y h) (bookH_ok (SpecOk.none _)))
noncomputable def z41_Φ (n : Nat) : Orc := with_ Try.prog (z41_σ n) [] n 0 [1000045, 1000059]
noncomputable def z41_v (n : Nat) (s0 : ByteArray) (s1 : ByteArray) : Option (Int × Unit) :=
 DM.denFn tm (z41_Φ n) z41_lv n Try.f62 false [AV.dv (DV.val (Value.string s0)), AV.dv (DV.val (Value.string s1))] [] (OSh.chk (OSh.plain (.i IntKind.i64) []))
theorem z41_e (n : Nat) (s0 : ByteArray) (s1 : ByteArray) : z41_v n s0 s1 =
 obind (z46_v n s0) fun y2 =>
 obind (z46_v n s1) fun y3 =>
 bif y2.fst then
  bif y3.fst then
   some (0, ())
  else some (-1, ())
 else bif y3.fst then
  some (1, ())
 else bif Op.bytesLess (ByteArray.toList s0) (ByteArray.toList s1) then
  some (-1, ())
 else bif !(Op.bytesLess (ByteArray.toList s0) (ByteArray.toList s1) || s0 == s1) then
  some (1, ())
 else some (0, ()) := by kernel_rfl
theorem z41_c (n : Nat) (s0 : ByteArray) (s1 : ByteArray) (y : Int × Unit) (h : z41_v n s0 s1 = some y) : Contract Try.prog 62 [AV.dv (DV.val (Value.string s0)), AV.dv (DV.val (Value.string s1))] [] (OSh.enc (OSh.plain (.i IntKind.i64) []) y) :=
 auto_okM tm_std (with_ok mixed (by kernel_rfl) (z41_σok n) n 0 [1000045, 1000059]) (with_pick mixed (by kernel_rfl) (z41_σok n) n 0 [1000045, 1000059]) mixed Try.func62 (by decide) (o := (OSh.plain (.i IntKind.i64) [])) h
def z37_lv : Live := []
noncomputable def z37_σ (n : Nat) : Spec := (bookH Spec.none)
theorem z37_σok (n : Nat) : SpecOk Try.prog (z37_σ n) := (bookH_ok (SpecOk.none _))
noncomputable def z37_Φ (n : Nat) : Orc := with_ Try.prog (z37_σ n) [] n 0 [1000045, 1000059]
noncomputable def z37_v (n : Nat) (j0 : Int) : Option (Bool × Unit) :=
 DM.denFn tm (z37_Φ n) z37_lv n Try.f79 false [AV.dv (DV.val (Value.int IntKind.i64 j0))] [] (OSh.chk (OSh.plain (.b) []))
theorem z37_e (n : Nat) (j0 : Int) : z37_v n j0 =
 some (j0 != j0, ()) := by kernel_rfl
theorem z37_c (n : Nat) (j0 : Int) (y : Bool × Unit) (h : z37_v n j0 = some y) : Contract Try.prog 79 [AV.dv (DV.val (Value.int IntKind.i64 j0))] [] (OSh.enc (OSh.plain (.b) []) y) :=
 auto_okM tm_std (with_ok mixed (by kernel_rfl) (z37_σok n) n 0 [1000045, 1000059]) (with_pick mixed (by kernel_rfl) (z37_σok n) n 0 [1000045, 1000059]) mixed Try.func79 (by decide) (o := (OSh.plain (.b) [])) h
def z32_lv : Live := []
noncomputable def z32_σ (n : Nat) : Spec := (inst 79 [.i IntKind.i64] [] (OSh.plain (.b) []) (fun x e => z37_v n x.1) (bookH Spec.none))
theorem z32_σok (n : Nat) : SpecOk Try.prog (z32_σ n) := (inst_ok (fun x e y h => z37_c n x.1 y h) (bookH_ok (SpecOk.none _)))
noncomputable def z32_Φ (n : Nat) : Orc := with_ Try.prog (z32_σ n) [] n 0 [1000045, 1000059]
noncomputable def z32_v (n : Nat) (j0 : Int) (j1 : Int) : Option (Int × Unit) :=
 DM.denFn tm (z32_Φ n) z32_lv n Try.f70 false [AV.dv (DV.val (Value.int IntKind.i64 j0)), AV.dv (DV.val (Value.int IntKind.i64 j1))] [] (OSh.chk (OSh.plain (.i IntKind.i64) []))
theorem z32_e (n : Nat) (j0 : Int) (j1 : Int) : z32_v n j0 j1 =
 obind (z37_v n j0) fun y2 =>
 obind (z37_v n j1) fun y3 =>
 bif y2.fst then
  bif y3.fst then
   some (0, ())
  else some (-1, ())
 else bif y3.fst then
  some (1, ())
 else bif decide (j0 < j1) then
  some (-1, ())
 else bif decide (j0 > j1) then
  some (1, ())
 else some (0, ()) := by kernel_rfl
theorem z32_c (n : Nat) (j0 : Int) (j1 : Int) (y : Int × Unit) (h : z32_v n j0 j1 = some y) : Contract Try.prog 70 [AV.dv (DV.val (Value.int IntKind.i64 j0)), AV.dv (DV.val (Value.int IntKind.i64 j1))] [] (OSh.enc (OSh.plain (.i IntKind.i64) []) y) :=
 auto_okM tm_std (with_ok mixed (by kernel_rfl) (z32_σok n) n 0 [1000045, 1000059]) (with_pick mixed (by kernel_rfl) (z32_σok n) n 0 [1000045, 1000059]) mixed Try.func70 (by decide) (o := (OSh.plain (.i IntKind.i64) [])) h
def z51_lv : Live := [(3, [3, 6, 7, 8], [1000, 1001, 1002, 1003])]
noncomputable def z51_σ (n : Nat) : Spec := (bookH Spec.none)
theorem z51_σok (n : Nat) : SpecOk Try.prog (z51_σ n) := (bookH_ok (SpecOk.none _))
noncomputable def z51_Φ (n : Nat) : Orc := with_ Try.prog (z51_σ n) [] n 0 [1000045, 1000059]
noncomputable def z51_v (n : Nat) (b0 : Bool) (r1 : Rows) : Option (Int × Unit) :=
 DM.denFn tm (z51_Φ n) z51_lv n Try.f61 false [AV.sl b0 [Kd.i IntKind.i64] r1 Right.no] [] (OSh.chk (OSh.plain (.i IntKind.i64) []))
noncomputable def z51_l3 (n : Nat) (b0 : Bool) (r1 : Rows) (i0 : Nat) (j2 : Int) : Option (Int × Unit) :=
 DM.loopFn tm (z51_Φ n) z51_lv n Try.f61 false [] (OSh.chk (OSh.plain (.i IntKind.i64) [])) 3 [] i0 (St.mk [AV.junk, AV.junk, AV.junk, AV.dv (DV.val (Value.int IntKind.i64 0)), AV.junk, AV.junk, AV.sl b0 [Kd.i IntKind.i64] r1 Right.no, AV.dv (DV.val (Value.int IntKind.i64 (↑(List.length r1) : Int))), AV.dv (DV.val (Value.int IntKind.i64 j2)), AV.junk, AV.junk, AV.junk, AV.junk, AV.junk, AV.junk, AV.junk, AV.junk, AV.junk] [])
theorem z51_s3 (n : Nat) (b0 : Bool) (r1 : Rows) (i0 : Nat) (j2 : Int) : z51_l3 n b0 r1 (i0 + 1) j2 =
 bif decide (j2 < (↑(List.length r1) : Int)) then
  if 0 ≤ j2 then
   if j2 < (↑(List.length r1) : Int) then
    bif Row.I (List.getD r1 (Int.toNat j2) []) 0 != 0 then
     some (Row.I (List.getD r1 (Int.toNat j2) []) 0, ())
    else z51_l3 n b0 r1 i0 (IntKind.wrap IntKind.i64 (j2 + 1))
   else none
  else none
 else some (0, ()) := by kernel_rfl
theorem z51_e (n : Nat) (b0 : Bool) (r1 : Rows) : z51_v n b0 r1 =
 z51_l3 n b0 r1 n 0 := by kernel_rfl
theorem z51_c (n : Nat) (b0 : Bool) (r1 : Rows) (y : Int × Unit) (h : z51_v n b0 r1 = some y) : Contract Try.prog 61 [AV.sl b0 [Kd.i IntKind.i64] r1 Right.no] [] (OSh.enc (OSh.plain (.i IntKind.i64) []) y) :=
 auto_okM tm_std (with_ok mixed (by kernel_rfl) (z51_σok n) n 0 [1000045, 1000059]) (with_pick mixed (by kernel_rfl) (z51_σok n) n 0 [1000045, 1000059]) mixed Try.func61 (by decide) (o := (OSh.plain (.i IntKind.i64) [])) h
def z39_lv : Live := []
noncomputable def z39_σ (n : Nat) : Spec := (inst 70 [.i IntKind.i64, .i IntKind.i64] [] (OSh.plain (.i IntKind.i64) []) (fun x e => z32_v n x.1 x.2.1) (inst 62 [.s, .s] [] (OSh.plain (.i IntKind.i64) []) (fun x e => z41_v n x.1 x.2.1) (inst 61 [.sl [Kd.i IntKind.i64]] [] (OSh.plain (.i IntKind.i64) []) (fun x e => z51_v n x.1.1 x.1.2) (bookH Spec.none))))
theorem z39_σok (n : Nat) : SpecOk Try.prog (z39_σ n) := (inst_ok (fun x e y h => z32_c n x.1 x.2.1 y h) (inst_ok (fun x e y h => z41_c n x.1 x.2.1 y h) (inst_ok (fun x e y h => z51_c n x.1.1 x.1.2 y h) (bookH_ok (SpecOk.none _)))))
noncomputable def z39_Φ (n : Nat) : Orc := with_ Try.prog (z39_σ n) [] n 0 [1000045, 1000059]
noncomputable def z39_v (n : Nat) (b0 : Bool) (j1 : Int) (s2 : ByteArray) (b3 : Bool) (j4 : Int) (s5 : ByteArray) : Option (Int × Unit) :=
 DM.denFn tm (z39_Φ n) z39_lv n Try.f64 false [AV.agg [AV.dv (DV.val (Value.bool b0)), AV.dv (DV.val (Value.int IntKind.i64 j1)), AV.dv (DV.val (Value.string s2))], AV.agg [AV.dv (DV.val (Value.bool b3)), AV.dv (DV.val (Value.int IntKind.i64 j4)), AV.dv (DV.val (Value.string s5))]] [] (OSh.chk (OSh.plain (.i IntKind.i64) []))
theorem z39_e (n : Nat) (b0 : Bool) (j1 : Int) (s2 : ByteArray) (b3 : Bool) (j4 : Int) (s5 : ByteArray) : z39_v n b0 j1 s2 b3 j4 s5 =
 bif !b0 == b3 then
  bif b0 then
   some (-1, ())
  else some (1, ())
 else obind (z32_v n j1 j4) fun y6 =>
 obind (z41_v n s2 s5) fun y7 =>
 obind (z51_v n false ([[DV.val (Value.int IntKind.i64 y6.fst)], [DV.val (Value.int IntKind.i64 y7.fst)]])) fun y8 =>
 some (y8.fst, ()) := by kernel_rfl
theorem z39_c (n : Nat) (b0 : Bool) (j1 : Int) (s2 : ByteArray) (b3 : Bool) (j4 : Int) (s5 : ByteArray) (y : Int × Unit) (h : z39_v n b0 j1 s2 b3 j4 s5 = some y) : Contract Try.prog 64 [AV.agg [AV.dv (DV.val (Value.bool b0)), AV.dv (DV.val (Value.int IntKind.i64 j1)), AV.dv (DV.val (Value.string s2))], AV.agg [AV.dv (DV.val (Value.bool b3)), AV.dv (DV.val (Value.int IntKind.i64 j4)), AV.dv (DV.val (Value.string s5))]] [] (OSh.enc (OSh.plain (.i IntKind.i64) []) y) :=
 auto_okM tm_std (with_ok mixed (by kernel_rfl) (z39_σok n) n 0 [1000045, 1000059]) (with_pick mixed (by kernel_rfl) (z39_σok n) n 0 [1000045, 1000059]) mixed Try.func64 (by decide) (o := (OSh.plain (.i IntKind.i64) [])) h
def z7_lv : Live := [(2, [0, 1, 2, 11, 12, 13], [1000, 1001, 1002, 1003])]
noncomputable def z7_σ (n : Nat) : Spec := (inst 64 [.agg [.b, .i IntKind.i64, .s], .agg [.b, .i IntKind.i64, .s]] [] (OSh.plain (.i IntKind.i64) []) (fun x e => z39_v n x.1.1 x.1.2.1 x.1.2.2.1 x.2.1.1 x.2.1.2.1 x.2.1.2.2.1) (bookH Spec.none))
theorem z7_σok (n : Nat) : SpecOk Try.prog (z7_σ n) := (inst_ok (fun x e y h => z39_c n x.1.1 x.1.2.1 x.1.2.2.1 x.2.1.1 x.2.1.2.1 x.2.1.2.2.1 y h) (bookH_ok (SpecOk.none _)))
noncomputable def z7_Φ (n : Nat) : Orc := with_ Try.prog (z7_σ n) [] n 0 [1000045, 1000059]
noncomputable def z7_v (n : Nat) (b0 : Bool) (r1 : Rows) (b2 : Bool) (r3 : Rows) : Option (Int × Unit) :=
 DM.denFn tm (z7_Φ n) z7_lv n Try.f63 false [AV.sl b0 [Kd.b, Kd.i IntKind.i64, Kd.s] r1 Right.no, AV.sl b2 [Kd.b, Kd.i IntKind.i64, Kd.s] r3 Right.no, AV.fn 64 []] [] (OSh.chk (OSh.plain (.i IntKind.i64) []))
noncomputable def z7_l2 (n : Nat) (b0 : Bool) (r1 : Rows) (b2 : Bool) (r3 : Rows) (i0 : Nat) (j5 : Int) : Option (Int × Unit) :=
 DM.loopFn tm (z7_Φ n) z7_lv n Try.f63 false [] (OSh.chk (OSh.plain (.i IntKind.i64) [])) 2 [] i0 (St.mk [AV.sl b0 [Kd.b, Kd.i IntKind.i64, Kd.s] r1 Right.no, AV.sl b2 [Kd.b, Kd.i IntKind.i64, Kd.s] r3 Right.no, AV.fn 64 [], AV.junk, AV.junk, AV.junk, AV.junk, AV.junk, AV.junk, AV.junk, AV.junk, AV.sl b0 [Kd.b, Kd.i IntKind.i64, Kd.s] r1 Right.no, AV.dv (DV.val (Value.int IntKind.i64 (↑(List.length r1) : Int))), AV.dv (DV.val (Value.int IntKind.i64 j5)), AV.junk, AV.junk, AV.junk, AV.junk, AV.junk, AV.junk, AV.junk, AV.junk, AV.junk, AV.junk, AV.junk, AV.junk, AV.junk, AV.junk, AV.junk, AV.junk, AV.junk, AV.junk, AV.junk, AV.junk, AV.junk, AV.junk, AV.junk, AV.junk, AV.junk] [])
theorem z7_s2 (n : Nat) (b0 : Bool) (r1 : Rows) (b2 : Bool) (r3 : Rows) (i0 : Nat) (j5 : Int) : z7_l2 n b0 r1 b2 r3 (i0 + 1) j5 =
 bif decide (j5 < (↑(List.length r1) : Int)) then
  if 0 ≤ j5 then
   if j5 < (↑(List.length r1) : Int) then
    bif decide (j5 ≥ (↑(List.length r3) : Int)) then
     some (1, ())
    else if 0 ≤ j5 then
     if j5 < (↑(List.length r3) : Int) then
      obind (z39_v n (Row.B (List.getD r1 (Int.toNat j5) []) 0) (Row.I (List.getD r1 (Int.toNat j5) []) 1) (Row.S (List.getD r1 (Int.toNat j5) []) 2) (Row.B (List.getD r3 (Int.toNat j5) []) 0) (Row.I (List.getD r3 (Int.toNat j5) []) 1) (Row.S (List.getD r3 (Int.toNat j5) []) 2)) fun y6 =>
      bif y6.fst != 0 then
       some (y6.fst, ())
      else z7_l2 n b0 r1 b2 r3 i0 (IntKind.wrap IntKind.i64 (j5 + 1))
     else none
    else none
   else none
  else none
 else bif decide ((↑(List.length r1) : Int) < (↑(List.length r3) : Int)) then
  some (-1, ())
 else some (0, ()) := by kernel_rfl
theorem z7_e (n : Nat) (b0 : Bool) (r1 : Rows) (b2 : Bool) (r3 : Rows) : z7_v n b0 r1 b2 r3 =
 z7_l2 n b0 r1 b2 r3 n 0 := by kernel_rfl
theorem z7_c (n : Nat) (b0 : Bool) (r1 : Rows) (b2 : Bool) (r3 : Rows) (y : Int × Unit) (h : z7_v n b0 r1 b2 r3 = some y) : Contract Try.prog 63 [AV.sl b0 [Kd.b, Kd.i IntKind.i64, Kd.s] r1 Right.no, AV.sl b2 [Kd.b, Kd.i IntKind.i64, Kd.s] r3 Right.no, AV.fn 64 []] [] (OSh.enc (OSh.plain (.i IntKind.i64) []) y) :=
 auto_okM tm_std (with_ok mixed (by kernel_rfl) (z7_σok n) n 0 [1000045, 1000059]) (with_pick mixed (by kernel_rfl) (z7_σok n) n 0 [1000045, 1000059]) mixed Try.func63 (by decide) (o := (OSh.plain (.i IntKind.i64) [])) h
def z42_lv : Live := []
noncomputable def z42_σ (n : Nat) : Spec := (inst 62 [.s, .s] [] (OSh.plain (.i IntKind.i64) []) (fun x e => z41_v n x.1 x.2.1) (inst 63 [.sl [Kd.b, Kd.i IntKind.i64, Kd.s], .sl [Kd.b, Kd.i IntKind.i64, Kd.s], .fn 64 []] [] (OSh.plain (.i IntKind.i64) []) (fun x e => z7_v n x.1.1 x.1.2 x.2.1.1 x.2.1.2) (inst 61 [.sl [Kd.i IntKind.i64]] [] (OSh.plain (.i IntKind.i64) []) (fun x e => z51_v n x.1.1 x.1.2) (bookH Spec.none))))
theorem z42_σok (n : Nat) : SpecOk Try.prog (z42_σ n) := (inst_ok (fun x e y h => z41_c n x.1 x.2.1 y h) (inst_ok (fun x e y h => z7_c n x.1.1 x.1.2 x.2.1.1 x.2.1.2 y h) (inst_ok (fun x e y h => z51_c n x.1.1 x.1.2 y h) (bookH_ok (SpecOk.none _)))))
noncomputable def z42_Φ (n : Nat) : Orc := with_ Try.prog (z42_σ n) [] n 0 [1000045, 1000059]
noncomputable def z42_v (n : Nat) (s0 : ByteArray) (s1 : ByteArray) (s2 : ByteArray) (b3 : Bool) (r4 : Rows) (s5 : ByteArray) (s6 : ByteArray) (s7 : ByteArray) (b8 : Bool) (r9 : Rows) : Option (Int × Unit) :=
 DM.denFn tm (z42_Φ n) z42_lv n Try.f40 false [AV.agg [AV.dv (DV.val (Value.string s0)), AV.dv (DV.val (Value.string s1)), AV.dv (DV.val (Value.string s2)), AV.sl b3 [Kd.b, Kd.i IntKind.i64, Kd.s] r4 Right.no], AV.agg [AV.dv (DV.val (Value.string s5)), AV.dv (DV.val (Value.string s6)), AV.dv (DV.val (Value.string s7)), AV.sl b8 [Kd.b, Kd.i IntKind.i64, Kd.s] r9 Right.no]] [] (OSh.chk (OSh.plain (.i IntKind.i64) []))
theorem z42_e (n : Nat) (s0 : ByteArray) (s1 : ByteArray) (s2 : ByteArray) (b3 : Bool) (r4 : Rows) (s5 : ByteArray) (s6 : ByteArray) (s7 : ByteArray) (b8 : Bool) (r9 : Rows) : z42_v n s0 s1 s2 b3 r4 s5 s6 s7 b8 r9 =
 obind (z41_v n s0 s5) fun y10 =>
 obind (z41_v n s1 s6) fun y11 =>
 obind (z41_v n s2 s7) fun y12 =>
 obind (z7_v n b3 r4 b8 r9) fun y13 =>
 obind (z51_v n false ([[DV.val (Value.int IntKind.i64 y10.fst)], [DV.val (Value.int IntKind.i64 y11.fst)], [DV.val (Value.int IntKind.i64 y12.fst)], [DV.val (Value.int IntKind.i64 y13.fst)]])) fun y14 =>
 some (y14.fst, ()) := by kernel_rfl
theorem z42_c (n : Nat) (s0 : ByteArray) (s1 : ByteArray) (s2 : ByteArray) (b3 : Bool) (r4 : Rows) (s5 : ByteArray) (s6 : ByteArray) (s7 : ByteArray) (b8 : Bool) (r9 : Rows) (y : Int × Unit) (h : z42_v n s0 s1 s2 b3 r4 s5 s6 s7 b8 r9 = some y) : Contract Try.prog 40 [AV.agg [AV.dv (DV.val (Value.string s0)), AV.dv (DV.val (Value.string s1)), AV.dv (DV.val (Value.string s2)), AV.sl b3 [Kd.b, Kd.i IntKind.i64, Kd.s] r4 Right.no], AV.agg [AV.dv (DV.val (Value.string s5)), AV.dv (DV.val (Value.string s6)), AV.dv (DV.val (Value.string s7)), AV.sl b8 [Kd.b, Kd.i IntKind.i64, Kd.s] r9 Right.no]] [] (OSh.enc (OSh.plain (.i IntKind.i64) []) y) :=
 auto_okM tm_std (with_ok mixed (by kernel_rfl) (z42_σok n) n 0 [1000045, 1000059]) (with_pick mixed (by kernel_rfl) (z42_σok n) n 0 [1000045, 1000059]) mixed Try.func40 (by decide) (o := (OSh.plain (.i IntKind.i64) [])) h
def z36_lv : Live := []
noncomputable def z36_σ (n : Nat) : Spec := (inst 40 [.agg [.s, .s, .s, .sl [Kd.b, Kd.i IntKind.i64, Kd.s]], .agg [.s, .s, .s, .sl [Kd.b, Kd.i IntKind.i64, Kd.s]]] [] (OSh.plain (.i IntKind.i64) []) (fun x e => z42_v n x.1.1 x.1.2.1 x.1.2.2.1 x.1.2.2.2.1.1 x.1.2.2.2.1.2 x.2.1.1 x.2.1.2.1 x.2.1.2.2.1 x.2.1.2.2.2.1.1 x.2.1.2.2.2.1.2) (bookH Spec.none))
theorem z36_σok (n : Nat) : SpecOk Try.prog (z36_σ n) := (inst_ok (fun x e y h => z42_c n x.1.1 x.1.2.1 x.1.2.2.1 x.1.2.2.2.1.1 x.1.2.2.2.1.2 x.2.1.1 x.2.1.2.1 x.2.1.2.2.1 x.2.1.2.2.2.1.1 x.2.1.2.2.2.1.2 y h) (bookH_ok (SpecOk.none _)))
noncomputable def z36_Φ (n : Nat) : Orc := with_ Try.prog (z36_σ n) [] n 0 [1000045, 1000059]
noncomputable def z36_v (n : Nat) (s0 : ByteArray) (s1 : ByteArray) (s2 : ByteArray) (b3 : Bool) (r4 : Rows) (s5 : ByteArray) (s6 : ByteArray) (s7 : ByteArray) (b8 : Bool) (r9 : Rows) : Option (Bool × Unit) :=
 DM.denFn tm (z36_Φ n) z36_lv n Try.f60 false [AV.agg [AV.dv (DV.val (Value.string s0)), AV.dv (DV.val (Value.string s1)), AV.dv (DV.val (Value.string s2)), AV.sl b3 [Kd.b, Kd.i IntKind.i64, Kd.s] r4 Right.no], AV.agg [AV.dv (DV.val (Value.string s5)), AV.dv (DV.val (Value.string s6)), AV.dv (DV.val (Value.string s7)), AV.sl b8 [Kd.b, Kd.i IntKind.i64, Kd.s] r9 Right.no]] [] (OSh.chk (OSh.plain (.b) []))
theorem z36_e (n : Nat) (s0 : ByteArray) (s1 : ByteArray) (s2 : ByteArray) (b3 : Bool) (r4 : Rows) (s5 : ByteArray) (s6 : ByteArray) (s7 : ByteArray) (b8 : Bool) (r9 : Rows) : z36_v n s0 s1 s2 b3 r4 s5 s6 s7 b8 r9 =
 obind (z42_v n s0 s1 s2 b3 r4 s5 s6 s7 b8 r9) fun y10 =>
 some (y10.fst == 0, ()) := by kernel_rfl
theorem z36_c (n : Nat) (s0 : ByteArray) (s1 : ByteArray) (s2 : ByteArray) (b3 : Bool) (r4 : Rows) (s5 : ByteArray) (s6 : ByteArray) (s7 : ByteArray) (b8 : Bool) (r9 : Rows) (y : Bool × Unit) (h : z36_v n s0 s1 s2 b3 r4 s5 s6 s7 b8 r9 = some y) : Contract Try.prog 60 [AV.agg [AV.dv (DV.val (Value.string s0)), AV.dv (DV.val (Value.string s1)), AV.dv (DV.val (Value.string s2)), AV.sl b3 [Kd.b, Kd.i IntKind.i64, Kd.s] r4 Right.no], AV.agg [AV.dv (DV.val (Value.string s5)), AV.dv (DV.val (Value.string s6)), AV.dv (DV.val (Value.string s7)), AV.sl b8 [Kd.b, Kd.i IntKind.i64, Kd.s] r9 Right.no]] [] (OSh.enc (OSh.plain (.b) []) y) :=
 auto_okM tm_std (with_ok mixed (by kernel_rfl) (z36_σok n) n 0 [1000045, 1000059]) (with_pick mixed (by kernel_rfl) (z36_σok n) n 0 [1000045, 1000059]) mixed Try.func60 (by decide) (o := (OSh.plain (.b) [])) h
def z6_lv : Live := [(4, [0, 1, 5], [1000, 1001, 1002, 1003]), (9, [0, 1, 5, 6, 7], [1000, 1001, 1002, 1003])]
noncomputable def z6_σ (n : Nat) : Spec := (inst 60 [.agg [.s, .s, .s, .sl [Kd.b, Kd.i IntKind.i64, Kd.s]], .agg [.s, .s, .s, .sl [Kd.b, Kd.i IntKind.i64, Kd.s]]] [] (OSh.plain (.b) []) (fun x e => z36_v n x.1.1 x.1.2.1 x.1.2.2.1 x.1.2.2.2.1.1 x.1.2.2.2.1.2 x.2.1.1 x.2.1.2.1 x.2.1.2.2.1 x.2.1.2.2.2.1.1 x.2.1.2.2.2.1.2) (bookH Spec.none))
theorem z6_σok (n : Nat) : SpecOk Try.prog (z6_σ n) := (inst_ok (fun x e y h => z36_c n x.1.1 x.1.2.1 x.1.2.2.1 x.1.2.2.2.1.1 x.1.2.2.2.1.2 x.2.1.1 x.2.1.2.1 x.2.1.2.2.1 x.2.1.2.2.2.1.1 x.2.1.2.2.2.1.2 y h) (bookH_ok (SpecOk.none _)))
noncomputable def z6_Φ (n : Nat) : Orc := with_ Try.prog (z6_σ n) [] n 0 [1000045, 1000059]
noncomputable def z6_v (n : Nat) (b0 : Bool) (r1 : Rows) : Option ((Bool × Rows) × Unit) :=
 DM.denFn tm (z6_Φ n) z6_lv n Try.f59 true [AV.sl b0 [Kd.s, Kd.s, Kd.s, Kd.sl [Kd.b, Kd.i IntKind.i64, Kd.s]] r1 (Right.tok 500000), AV.fn 60 []] [] (OSh.chk (OSh.plain (.slt [Kd.s, Kd.s, Kd.s, Kd.sl [Kd.b, Kd.i IntKind.i64, Kd.s]] 0) []))
noncomputable def z6_l4 (n : Nat) (b0 : Bool) (r1 : Rows) (i0 : Nat) (j3 : Int) : Option ((Bool × Rows) × Unit) :=
 DM.loopFn tm (z6_Φ n) z6_lv n Try.f59 true [] (OSh.chk (OSh.plain (.slt [Kd.s, Kd.s, Kd.s, Kd.sl [Kd.b, Kd.i IntKind.i64, Kd.s]] 0) [])) 4 [] i0 (St.mk [AV.sl b0 [Kd.s, Kd.s, Kd.s, Kd.sl [Kd.b, Kd.i IntKind.i64, Kd.s]] r1 (Right.tok 0), AV.fn 60 [], AV.junk, AV.junk, AV.junk, AV.dv (DV.val (Value.int IntKind.i64 j3)), AV.junk, AV.junk, AV.junk, AV.junk, AV.junk, AV.junk, AV.junk, AV.junk, AV.junk, AV.junk, AV.junk, AV.junk, AV.junk, AV.junk, AV.junk, AV.junk, AV.junk, AV.junk, AV.junk, AV.junk, AV.junk, AV.junk, AV.junk, AV.junk, AV.junk, AV.junk, AV.junk, AV.junk, AV.junk, AV.junk, AV.junk, AV.junk, AV.junk, AV.junk, AV.junk, AV.junk, AV.junk, AV.junk, AV.junk, AV.junk, AV.junk, AV.junk, AV.junk, AV.junk, AV.junk, AV.junk, AV.junk, AV.junk, AV.junk, AV.junk, AV.junk, AV.junk, AV.junk, AV.junk, AV.junk, AV.junk, AV.junk, AV.junk, AV.junk, AV.junk] [])
noncomputable def z6_l9 (n : Nat) (b0 : Bool) (r1 : Rows) (i0 i1 : Nat) (j5 : Int) (r6 : List (List DV)) (j8 : Int) : Option ((Bool × Rows) × Unit) :=
 DM.loopFn tm (z6_Φ n) z6_lv n Try.f59 true [] (OSh.chk (OSh.plain (.slt [Kd.s, Kd.s, Kd.s, Kd.sl [Kd.b, Kd.i IntKind.i64, Kd.s]] 0) [])) 9 [i0] i1 (St.mk [AV.sl b0 [Kd.s, Kd.s, Kd.s, Kd.sl [Kd.b, Kd.i IntKind.i64, Kd.s]] r1 (Right.tok 0), AV.fn 60 [], AV.junk, AV.junk, AV.junk, AV.dv (DV.val (Value.int IntKind.i64 j5)), AV.sl b0 [Kd.s, Kd.s, Kd.s, Kd.sl [Kd.b, Kd.i IntKind.i64, Kd.s]] r6 Right.no, AV.dv (DV.val (Value.int IntKind.i64 j8)), AV.junk, AV.junk, AV.junk, AV.junk, AV.junk, AV.junk, AV.junk, AV.junk, AV.junk, AV.junk, AV.junk, AV.junk, AV.junk, AV.junk, AV.junk, AV.junk, AV.junk, AV.junk, AV.junk, AV.junk, AV.junk, AV.junk, AV.junk, AV.junk, AV.junk, AV.junk, AV.junk, AV.junk, AV.junk, AV.junk, AV.junk, AV.junk, AV.junk, AV.junk, AV.junk, AV.junk, AV.junk, AV.junk, AV.junk, AV.junk, AV.junk, AV.junk, AV.junk, AV.junk, AV.junk, AV.junk, AV.junk, AV.junk, AV.junk, AV.junk, AV.junk, AV.junk, AV.junk, AV.junk, AV.junk, AV.junk, AV.junk, AV.junk] [])
theorem z6_s4 (n : Nat) (b0 : Bool) (r1 : Rows) (i0 : Nat) (j3 : Int) : z6_l4 n b0 r1 (i0 + 1) j3 =
 bif decide (j3 < (↑(List.length r1) : Int)) then
  if 0 ≤ j3 then
   if j3 < (↑(List.length r1) : Int) then
    if 0 ≤ IntKind.wrap IntKind.i64 (j3 - 1) then
     if IntKind.wrap IntKind.i64 (j3 - 1) < (↑(List.length r1) : Int) then
      obind (z36_v n (Row.S (List.getD r1 (Int.toNat j3) []) 0) (Row.S (List.getD r1 (Int.toNat j3) []) 1) (Row.S (List.getD r1 (Int.toNat j3) []) 2) (Row.N (List.getD r1 (Int.toNat j3) []) 3) (Row.R (List.getD r1 (Int.toNat j3) []) 3) (Row.S (List.getD r1 (Int.toNat (IntKind.wrap IntKind.i64 (j3 - 1))) []) 0) (Row.S (List.getD r1 (Int.toNat (IntKind.wrap IntKind.i64 (j3 - 1))) []) 1) (Row.S (List.getD r1 (Int.toNat (IntKind.wrap IntKind.i64 (j3 - 1))) []) 2) (Row.N (List.getD r1 (Int.toNat (IntKind.wrap IntKind.i64 (j3 - 1))) []) 3) (Row.R (List.getD r1 (Int.toNat (IntKind.wrap IntKind.i64 (j3 - 1))) []) 3)) fun y4 =>
      bif y4.fst then
       if 0 ≤ j3 then
        if j3 ≤ (↑(List.length r1) : Int) then
         if (↑(List.length r1) : Int) ≤ (↑(List.length r1) : Int) then
          z6_l9 n b0 r1 i0 n j3 (List.drop (Int.toNat j3) (List.take (Int.toNat (↑(List.length r1) : Int)) r1)) 1
         else none
        else none
       else none
      else z6_l4 n b0 r1 i0 (IntKind.wrap IntKind.i64 (j3 + 1))
     else none
    else none
   else none
  else none
 else some ((b0, r1), ()) := by kernel_rfl
theorem z6_s9 (n : Nat) (b0 : Bool) (r1 : Rows) (i0 i1 : Nat) (j5 : Int) (r6 : List (List DV)) (j8 : Int) : z6_l9 n b0 r1 i0 (i1 + 1) j5 r6 j8 =
 bif decide (j8 < (↑(List.length r6) : Int)) then
  if 0 ≤ j8 then
   if j8 < (↑(List.length r6) : Int) then
    if 0 ≤ IntKind.wrap IntKind.i64 (j8 - 1) then
     if IntKind.wrap IntKind.i64 (j8 - 1) < (↑(List.length r6) : Int) then
      obind (z36_v n (Row.S (List.getD r6 (Int.toNat j8) []) 0) (Row.S (List.getD r6 (Int.toNat j8) []) 1) (Row.S (List.getD r6 (Int.toNat j8) []) 2) (Row.N (List.getD r6 (Int.toNat j8) []) 3) (Row.R (List.getD r6 (Int.toNat j8) []) 3) (Row.S (List.getD r6 (Int.toNat (IntKind.wrap IntKind.i64 (j8 - 1))) []) 0) (Row.S (List.getD r6 (Int.toNat (IntKind.wrap IntKind.i64 (j8 - 1))) []) 1) (Row.S (List.getD r6 (Int.toNat (IntKind.wrap IntKind.i64 (j8 - 1))) []) 2) (Row.N (List.getD r6 (Int.toNat (IntKind.wrap IntKind.i64 (j8 - 1))) []) 3) (Row.R (List.getD r6 (Int.toNat (IntKind.wrap IntKind.i64 (j8 - 1))) []) 3)) fun y9 =>
      bif !y9.fst then
       if 0 ≤ j8 then
        if j8 < (↑(List.length r6) : Int) then
         if 0 ≤ j5 then
          if j5 < (↑(List.length r1) : Int) then
           none
          else none
         else none
        else none
       else none
      else z6_l9 n b0 r1 i0 i1 j5 r6 (IntKind.wrap IntKind.i64 (j8 + 1))
     else none
    else none
   else none
  else none
 else if 0 ≤ j5 then
  if j5 ≤ (↑(List.length r1) : Int) then
   if (↑(List.length r1) : Int) ≤ (↑(List.length r1) : Int) then
    none
   else none
  else none
 else none := by kernel_rfl
theorem z6_e (n : Nat) (b0 : Bool) (r1 : Rows) : z6_v n b0 r1 =
 bif decide ((↑(List.length r1) : Int) < 2) then
  some ((b0, r1), ())
 else z6_l4 n b0 r1 n 1 := by kernel_rfl
theorem z6_c (n : Nat) (b0 : Bool) (r1 : Rows) (y : (Bool × Rows) × Unit) (h : z6_v n b0 r1 = some y) : Contract Try.prog 59 [AV.sl b0 [Kd.s, Kd.s, Kd.s, Kd.sl [Kd.b, Kd.i IntKind.i64, Kd.s]] r1 (Right.tok 500000), AV.fn 60 []] [] (OSh.enc (OSh.plain (.slt [Kd.s, Kd.s, Kd.s, Kd.sl [Kd.b, Kd.i IntKind.i64, Kd.s]] 0) []) y) :=
 auto_okM tm_std (with_ok mixed (by kernel_rfl) (z6_σok n) n 0 [1000045, 1000059]) (with_pick mixed (by kernel_rfl) (z6_σok n) n 0 [1000045, 1000059]) mixed Try.func59 (by decide) (o := (OSh.plain (.slt [Kd.s, Kd.s, Kd.s, Kd.sl [Kd.b, Kd.i IntKind.i64, Kd.s]] 0) [])) h
def z2_lv : Live := [(4, [0, 1, 5], [1000, 1001, 1002, 1003]), (9, [0, 1, 5, 6, 7], [1000, 1001, 1002, 1003])]
noncomputable def z2_σ (n : Nat) : Spec := (inst 60 [.agg [.s, .s, .s, .sl [Kd.b, Kd.i IntKind.i64, Kd.s]], .agg [.s, .s, .s, .sl [Kd.b, Kd.i IntKind.i64, Kd.s]]] [] (OSh.plain (.b) []) (fun x e => z36_v n x.1.1 x.1.2.1 x.1.2.2.1 x.1.2.2.2.1.1 x.1.2.2.2.1.2 x.2.1.1 x.2.1.2.1 x.2.1.2.2.1 x.2.1.2.2.2.1.1 x.2.1.2.2.2.1.2) (bookH Spec.none))
theorem z2_σok (n : Nat) : SpecOk Try.prog (z2_σ n) := (inst_ok (fun x e y h => z36_c n x.1.1 x.1.2.1 x.1.2.2.1 x.1.2.2.2.1.1 x.1.2.2.2.1.2 x.2.1.1 x.2.1.2.1 x.2.1.2.2.1 x.2.1.2.2.2.1.1 x.2.1.2.2.2.1.2 y h) (bookH_ok (SpecOk.none _)))
noncomputable def z2_Φ (n : Nat) : Orc := with_ Try.prog (z2_σ n) [] n 0 [1000045, 1000059]
noncomputable def z2_v (n : Nat) (m0 : Nat) (m1 : Nat) (r2 : Rows) : Option ((Nat × Nat) × (Rows × Unit) × Unit) :=
 DM.denFn tm (z2_Φ n) z2_lv n Try.f59 false [AV.ms 1000 [Kd.s, Kd.s, Kd.s, Kd.sl [Kd.b, Kd.i IntKind.i64, Kd.s]] 0 m0 m1, AV.fn 60 []] [[AV.arr [Kd.s, Kd.s, Kd.s, Kd.sl [Kd.b, Kd.i IntKind.i64, Kd.s]] r2]] (OSh.chk (OSh.plain (.ms0 1000 [Kd.s, Kd.s, Kd.s, Kd.sl [Kd.b, Kd.i IntKind.i64, Kd.s]]) [[.arr [Kd.s, Kd.s, Kd.s, Kd.sl [Kd.b, Kd.i IntKind.i64, Kd.s]]]]))
noncomputable def z2_l4 (n : Nat) (m0 : Nat) (m1 : Nat) (r2 : Rows) (i0 : Nat) (j4 : Int) : Option ((Nat × Nat) × (Rows × Unit) × Unit) :=
 DM.loopFn tm (z2_Φ n) z2_lv n Try.f59 false [[AV.arr [Kd.s, Kd.s, Kd.s, Kd.sl [Kd.b, Kd.i IntKind.i64, Kd.s]] r2]] (OSh.chk (OSh.plain (.ms0 1000 [Kd.s, Kd.s, Kd.s, Kd.sl [Kd.b, Kd.i IntKind.i64, Kd.s]]) [[.arr [Kd.s, Kd.s, Kd.s, Kd.sl [Kd.b, Kd.i IntKind.i64, Kd.s]]]])) 4 [] i0 (St.mk [AV.ms 1000 [Kd.s, Kd.s, Kd.s, Kd.sl [Kd.b, Kd.i IntKind.i64, Kd.s]] 0 m0 m1, AV.fn 60 [], AV.junk, AV.junk, AV.junk, AV.dv (DV.val (Value.int IntKind.i64 j4)), AV.junk, AV.junk, AV.junk, AV.junk, AV.junk, AV.junk, AV.junk, AV.junk, AV.junk, AV.junk, AV.junk, AV.junk, AV.junk, AV.junk, AV.junk, AV.junk, AV.junk, AV.junk, AV.junk, AV.junk, AV.junk, AV.junk, AV.junk, AV.junk, AV.junk, AV.junk, AV.junk, AV.junk, AV.junk, AV.junk, AV.junk, AV.junk, AV.junk, AV.junk, AV.junk, AV.junk, AV.junk, AV.junk, AV.junk, AV.junk, AV.junk, AV.junk, AV.junk, AV.junk, AV.junk, AV.junk, AV.junk, AV.junk, AV.junk, AV.junk, AV.junk, AV.junk, AV.junk, AV.junk, AV.junk, AV.junk, AV.junk, AV.junk, AV.junk, AV.junk] [(1000, [AV.arr [Kd.s, Kd.s, Kd.s, Kd.sl [Kd.b, Kd.i IntKind.i64, Kd.s]] r2])])
noncomputable def z2_l9 (n : Nat) (m0 : Nat) (m1 : Nat) (r2 : Rows) (i0 i1 : Nat) (j6 : Int) (m7 : Nat) (m8 : Nat) (m9 : Nat) (j11 : Int) (r12 : List (List DV)) : Option ((Nat × Nat) × (Rows × Unit) × Unit) :=
 DM.loopFn tm (z2_Φ n) z2_lv n Try.f59 false [[AV.arr [Kd.s, Kd.s, Kd.s, Kd.sl [Kd.b, Kd.i IntKind.i64, Kd.s]] r2]] (OSh.chk (OSh.plain (.ms0 1000 [Kd.s, Kd.s, Kd.s, Kd.sl [Kd.b, Kd.i IntKind.i64, Kd.s]]) [[.arr [Kd.s, Kd.s, Kd.s, Kd.sl [Kd.b, Kd.i IntKind.i64, Kd.s]]]])) 9 [i0] i1 (St.mk [AV.ms 1000 [Kd.s, Kd.s, Kd.s, Kd.sl [Kd.b, Kd.i IntKind.i64, Kd.s]] 0 m0 m1, AV.fn 60 [], AV.junk, AV.junk, AV.junk, AV.dv (DV.val (Value.int IntKind.i64 j6)), AV.ms 1000 [Kd.s, Kd.s, Kd.s, Kd.sl [Kd.b, Kd.i IntKind.i64, Kd.s]] m7 m8 m9, AV.dv (DV.val (Value.int IntKind.i64 j11)), AV.junk, AV.junk, AV.junk, AV.junk, AV.junk, AV.junk, AV.junk, AV.junk, AV.junk, AV.junk, AV.junk, AV.junk, AV.junk, AV.junk, AV.junk, AV.junk, AV.junk, AV.junk, AV.junk, AV.junk, AV.junk, AV.junk, AV.junk, AV.junk, AV.junk, AV.junk, AV.junk, AV.junk, AV.junk, AV.junk, AV.junk, AV.junk, AV.junk, AV.junk, AV.junk, AV.junk, AV.junk, AV.junk, AV.junk, AV.junk, AV.junk, AV.junk, AV.junk, AV.junk, AV.junk, AV.junk, AV.junk, AV.junk, AV.junk, AV.junk, AV.junk, AV.junk, AV.junk, AV.junk, AV.junk, AV.junk, AV.junk, AV.junk] [(1000, [AV.arr [Kd.s, Kd.s, Kd.s, Kd.sl [Kd.b, Kd.i IntKind.i64, Kd.s]] r12])])
theorem z2_s4 (n : Nat) (m0 : Nat) (m1 : Nat) (r2 : Rows) (i0 : Nat) (j4 : Int) : z2_l4 n m0 m1 r2 (i0 + 1) j4 =
 bif decide (j4 < (↑m0 : Int)) then
  if 0 ≤ j4 then
   if j4 < (↑m0 : Int) then
    if 0 + Int.toNat j4 < List.length r2 then
     if 0 ≤ IntKind.wrap IntKind.i64 (j4 - 1) then
      if IntKind.wrap IntKind.i64 (j4 - 1) < (↑m0 : Int) then
       if 0 + Int.toNat (IntKind.wrap IntKind.i64 (j4 - 1)) < List.length r2 then
        obind (z36_v n (Row.S (List.getD r2 (0 + Int.toNat j4) []) 0) (Row.S (List.getD r2 (0 + Int.toNat j4) []) 1) (Row.S (List.getD r2 (0 + Int.toNat j4) []) 2) (Row.N (List.getD r2 (0 + Int.toNat j4) []) 3) (Row.R (List.getD r2 (0 + Int.toNat j4) []) 3) (Row.S (List.getD r2 (0 + Int.toNat (IntKind.wrap IntKind.i64 (j4 - 1))) []) 0) (Row.S (List.getD r2 (0 + Int.toNat (IntKind.wrap IntKind.i64 (j4 - 1))) []) 1) (Row.S (List.getD r2 (0 + Int.toNat (IntKind.wrap IntKind.i64 (j4 - 1))) []) 2) (Row.N (List.getD r2 (0 + Int.toNat (IntKind.wrap IntKind.i64 (j4 - 1))) []) 3) (Row.R (List.getD r2 (0 + Int.toNat (IntKind.wrap IntKind.i64 (j4 - 1))) []) 3)) fun y5 =>
        bif y5.fst then
         if 0 ≤ j4 then
          if j4 ≤ (↑m0 : Int) then
           if (↑m0 : Int) ≤ (↑m1 : Int) then
            z2_l9 n m0 m1 r2 i0 n j4 (0 + Int.toNat j4) (Int.toNat (↑m0 : Int) - Int.toNat j4) (m1 - Int.toNat j4) 1 r2
           else none
          else none
         else none
        else z2_l4 n m0 m1 r2 i0 (IntKind.wrap IntKind.i64 (j4 + 1))
       else none
      else none
     else none
    else none
   else none
  else none
 else some ((m0, m1), ((r2, ()), ())) := by kernel_rfl
theorem z2_s9 (n : Nat) (m0 : Nat) (m1 : Nat) (r2 : Rows) (i0 i1 : Nat) (j6 : Int) (m7 : Nat) (m8 : Nat) (m9 : Nat) (j11 : Int) (r12 : List (List DV)) : z2_l9 n m0 m1 r2 i0 (i1 + 1) j6 m7 m8 m9 j11 r12 =
 bif decide (j11 < (↑m8 : Int)) then
  if 0 ≤ j11 then
   if j11 < (↑m8 : Int) then
    if m7 + Int.toNat j11 < List.length r12 then
     if 0 ≤ IntKind.wrap IntKind.i64 (j11 - 1) then
      if IntKind.wrap IntKind.i64 (j11 - 1) < (↑m8 : Int) then
       if m7 + Int.toNat (IntKind.wrap IntKind.i64 (j11 - 1)) < List.length r12 then
        obind (z36_v n (Row.S (List.getD r12 (m7 + Int.toNat j11) []) 0) (Row.S (List.getD r12 (m7 + Int.toNat j11) []) 1) (Row.S (List.getD r12 (m7 + Int.toNat j11) []) 2) (Row.N (List.getD r12 (m7 + Int.toNat j11) []) 3) (Row.R (List.getD r12 (m7 + Int.toNat j11) []) 3) (Row.S (List.getD r12 (m7 + Int.toNat (IntKind.wrap IntKind.i64 (j11 - 1))) []) 0) (Row.S (List.getD r12 (m7 + Int.toNat (IntKind.wrap IntKind.i64 (j11 - 1))) []) 1) (Row.S (List.getD r12 (m7 + Int.toNat (IntKind.wrap IntKind.i64 (j11 - 1))) []) 2) (Row.N (List.getD r12 (m7 + Int.toNat (IntKind.wrap IntKind.i64 (j11 - 1))) []) 3) (Row.R (List.getD r12 (m7 + Int.toNat (IntKind.wrap IntKind.i64 (j11 - 1))) []) 3)) fun y13 =>
        bif !y13.fst then
         if 0 ≤ j11 then
          if j11 < (↑m8 : Int) then
           if m7 + Int.toNat j11 < List.length r12 then
            if 0 ≤ j6 then
             if j6 < (↑m0 : Int) then
              if 0 + Int.toNat j6 < List.length r12 then
               z2_l9 n m0 m1 r2 i0 i1 (IntKind.wrap IntKind.i64 (j6 + 1)) m7 m8 m9 (IntKind.wrap IntKind.i64 (j11 + 1)) (List.set r12 (0 + Int.toNat j6) (DV.val (Value.string (Row.S (List.getD r12 (m7 + Int.toNat j11) []) 0)) :: DV.val (Value.string (Row.S (List.getD r12 (m7 + Int.toNat j11) []) 1)) :: DV.val (Value.string (Row.S (List.getD r12 (m7 + Int.toNat j11) []) 2)) :: DV.sl (Row.N (List.getD r12 (m7 + Int.toNat j11) []) 3) [Kd.b, Kd.i IntKind.i64, Kd.s] (Row.R (List.getD r12 (m7 + Int.toNat j11) []) 3) :: List.drop (0 + List.length [DV.val (Value.string (Row.S (List.getD r12 (m7 + Int.toNat j11) []) 0)), DV.val (Value.string (Row.S (List.getD r12 (m7 + Int.toNat j11) []) 1)), DV.val (Value.string (Row.S (List.getD r12 (m7 + Int.toNat j11) []) 2)), DV.sl (Row.N (List.getD r12 (m7 + Int.toNat j11) []) 3) [Kd.b, Kd.i IntKind.i64, Kd.s] (Row.R (List.getD r12 (m7 + Int.toNat j11) []) 3)]) (List.getD r12 (0 + Int.toNat j6) [])))
              else none
             else none
            else none
           else none
          else none
         else none
        else z2_l9 n m0 m1 r2 i0 i1 j6 m7 m8 m9 (IntKind.wrap IntKind.i64 (j11 + 1)) r12
       else none
      else none
     else none
    else none
   else none
  else none
 else if 0 ≤ j6 then
  if j6 ≤ (↑m0 : Int) then
   if (↑m0 : Int) ≤ (↑m1 : Int) then
    if 0 + Int.toNat j6 + (Int.toNat (↑m0 : Int) - Int.toNat j6) ≤ List.length r12 then
     if 0 ≤ j6 then
      if j6 ≤ (↑m1 : Int) then
       some ((Int.toNat j6 - 0, m1 - 0), ((List.take (0 + Int.toNat j6) r12 ++ List.replicate (Int.toNat (↑m0 : Int) - Int.toNat j6) [DV.val (Value.string (ByteArray.mk #[])), DV.val (Value.string (ByteArray.mk #[])), DV.val (Value.string (ByteArray.mk #[])), DV.sl true [Kd.b, Kd.i IntKind.i64, Kd.s] []] ++ List.drop (0 + Int.toNat j6 + (Int.toNat (↑m0 : Int) - Int.toNat j6)) r12, ()), ()))
      else none
     else none
    else none
   else none
  else none
 else none := by kernel_rfl
theorem z2_e (n : Nat) (m0 : Nat) (m1 : Nat) (r2 : Rows) : z2_v n m0 m1 r2 =
 bif decide ((↑m0 : Int) < 2) then
  some ((m0, m1), ((r2, ()), ()))
 else z2_l4 n m0 m1 r2 n 1 := by kernel_rfl
theorem z2_c (n : Nat) (m0 : Nat) (m1 : Nat) (r2 : Rows) (y : (Nat × Nat) × (Rows × Unit) × Unit) (h : z2_v n m0 m1 r2 = some y) : Contract Try.prog 59 [AV.ms 1000 [Kd.s, Kd.s, Kd.s, Kd.sl [Kd.b, Kd.i IntKind.i64, Kd.s]] 0 m0 m1, AV.fn 60 []] [[AV.arr [Kd.s, Kd.s, Kd.s, Kd.sl [Kd.b, Kd.i IntKind.i64, Kd.s]] r2]] (OSh.enc (OSh.plain (.ms0 1000 [Kd.s, Kd.s, Kd.s, Kd.sl [Kd.b, Kd.i IntKind.i64, Kd.s]]) [[.arr [Kd.s, Kd.s, Kd.s, Kd.sl [Kd.b, Kd.i IntKind.i64, Kd.s]]]]) y) :=
 auto_okM tm_std (with_ok mixed (by kernel_rfl) (z2_σok n) n 0 [1000045, 1000059]) (with_pick mixed (by kernel_rfl) (z2_σok n) n 0 [1000045, 1000059]) mixed Try.func59 (by decide) (o := (OSh.plain (.ms0 1000 [Kd.s, Kd.s, Kd.s, Kd.sl [Kd.b, Kd.i IntKind.i64, Kd.s]]) [[.arr [Kd.s, Kd.s, Kd.s, Kd.sl [Kd.b, Kd.i IntKind.i64, Kd.s]]]])) h
end Go.Den
