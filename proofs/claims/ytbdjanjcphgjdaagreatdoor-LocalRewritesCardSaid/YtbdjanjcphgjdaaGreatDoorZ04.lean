import Derived.Test.YtbdjanjcphgjdaaGreatDoorZ03
set_option linter.unusedVariables false
set_option linter.unusedSimpArgs false
set_option linter.unusedSectionVars false
namespace Go.Den
open Go.Proofs
set_option maxRecDepth 100000
def strconv_Itoa_v (n : Nat) (j0 : Int) : Option (ByteArray × Unit) :=
 match decide (-9223372036854775808 ≤ j0) && decide (j0 ≤ 9223372036854775807) with
 |true => some (⟨(Go.Lib.itoa j0).toArray⟩, ())
 |false => none
theorem strconv_Itoa_c (n : Nat) (j0 : Int) (y : ByteArray × Unit) (h : strconv_Itoa_v n j0 = some y) : Contract Tryz.prog 42 [AV.dv (DV.val (Value.int IntKind.i64 j0))] [] (OSh.enc (OSh.plain (.s) []) y) := by
 unfold strconv_Itoa_v at h
 split at h
 ·rename_i hc
  cases h
  simp only [Bool.and_eq_true, decide_eq_true_eq] at hc
  exact itoa_contract ⟨Tryz.f42, Tryz.func42, by kernel_rfl, by decide⟩ (by kernel_rfl) (by kernel_rfl) j0 (fun w hw => Any.strconv_Itoa itoaLays j0 hc.1 hc.2 w hw)
 ·cases h
theorem vt_only (t : TypeId) (h : vtOk Tryz.prog t = true) : t = 132 := only_of (fun _ => vt_lt) (by kernel_rfl) t h
theorem u8_only (t : TypeId) (h : u8Ok Tryz.prog t = true) : t = 5 := only_of (fun _ => u8_lt) (by kernel_rfl) t h
def sB_copyCheck_nilp_v (n : Nat) (b1 : Bool) (r2 : Rows) (b3 : Bool) : Option (Unit × (Unit × (Bool × Rows) × Bool × Unit) × Unit) :=
 match b1, r2 with
 |true, [] => some ((), (((), ((true, []), (b3, ()))), ()))
 |_, _ => none
theorem sB_copyCheck_nilp_c (n : Nat) (b1 : Bool) (r2 : Rows) (b3 : Bool) (y : Unit × (Unit × (Bool × Rows) × Bool × Unit) × Unit) (h : sB_copyCheck_nilp_v n b1 r2 b3 = some y) :
  Contract Tryz.prog 132 [AV.pl 1000 0] [[AV.dv (DV.val (Value.pointer none)), AV.sl b1 [Kd.i IntKind.u8] r2 (Right.tok 500002), AV.dv (DV.val (Value.bool b3))]] (OSh.enc (OSh.plain (.tup []) [[.pl 1000 0, .slt [Kd.i IntKind.u8] 1, .b]]) y) := by
 unfold sB_copyCheck_nilp_v at h
 split at h
 ·cases h
  exact copyCheck_new ⟨Tryz.f132, Tryz.func132, by kernel_rfl, by decide⟩ vt_only copy_new 500002 b3
 ·cases h
def sB_copyCheck_v (n : Nat) (b1 : Bool) (r2 : Rows) (b3 : Bool) : Option (Unit × (Unit × (Bool × Rows) × Bool × Unit) × Unit) := some ((), (((), ((b1, r2), (b3, ()))), ()))
theorem sB_copyCheck_c (n : Nat) (b1 : Bool) (r2 : Rows) (b3 : Bool) (y : Unit × (Unit × (Bool × Rows) × Bool × Unit) × Unit) (h : sB_copyCheck_v n b1 r2 b3 = some y) :
  Contract Tryz.prog 132 [AV.pl 1000 0] [[AV.pl 1000 0, AV.sl b1 [Kd.i IntKind.u8] r2 (Right.tok 500002), AV.dv (DV.val (Value.bool b3))]] (OSh.enc (OSh.plain (.tup []) [[.pl 1000 0, .slt [Kd.i IntKind.u8] 1, .b]]) y) := by
 cases h
 exact copyCheck_used ⟨Tryz.f132, Tryz.func132, by kernel_rfl, by decide⟩ copy_used 500002 b1 r2 b3
def sB_String_v (n : Nat) (b1 : Bool) (r2 : Rows) (b3 : Bool) : Option (ByteArray × (Unit × (Bool × Rows) × Bool × Unit) × Unit) :=
 match !r2.isEmpty && okBytes r2 with
 |true => some (bytesOf r2, (((), ((b1, r2), (b3, ()))), ()))
 |false => none
theorem sB_String_c (n : Nat) (b1 : Bool) (r2 : Rows) (b3 : Bool) (y : ByteArray × (Unit × (Bool × Rows) × Bool × Unit) × Unit) (h : sB_String_v n b1 r2 b3 = some y) :
  Contract Tryz.prog 84 [AV.pl 1000 0] [[AV.pl 1000 0, AV.sl b1 [Kd.i IntKind.u8] r2 (Right.tok 500002), AV.dv (DV.val (Value.bool b3))]] (OSh.enc (OSh.plain (.s) [[.pl 1000 0, .sl [Kd.i IntKind.u8], .b]]) y) := by
 unfold sB_String_v at h
 split at h
 ·rename_i hc
  simp only [Bool.and_eq_true, Bool.not_eq_true'] at hc
  cases h
  exact string_contract ⟨Tryz.f84, Tryz.func84, by kernel_rfl, by decide⟩ u8_only string_walk 500002 b1 r2 b3 (fun h0 => by rw [h0] at hc; exact absurd hc.1 (by simp)) hc.2
 ·cases h
end Go.Den
namespace Go.Den
noncomputable section
open Go.Proofs
set_option maxRecDepth 100000
def z96_lv : Live := [(8, [0, 2, 3], [2, 3, 1000, 1001, 1002, 1003])]
def z96_σ (n : Nat) : Spec := (inst 73 [.pl 1000 0] [[.sl kdK, .i .i64]] (OSh.pan (.agg [.s, .b, .i .i64, .s]) (.ifc 79 (.agg [.i .i64, .i .i64])) [[.sl kdK, .i .i64]]) (fun x e => z92_v n e.1.1.1 e.1.1.2 e.1.2.1) (inst 74 [.pl 1000 0, .s] [[.sl kdK, .i .i64]] (OSh.pan (.tup []) (.ifc 79 (.agg [.i .i64, .i .i64])) [[.sl kdK, .i .i64]]) (fun x e => z94_v n x.2.1 e.1.1.1 e.1.1.2 e.1.2.1) (inst 75 [.pl 1000 0] [[.sl kdK, .i .i64]] (OSh.pan (.s) (.ifc 79 (.agg [.i .i64, .i .i64])) [[.sl kdK, .i .i64]]) (fun x e => z98_v n e.1.1.1 e.1.1.2 e.1.2.1) (inst 76 [.pl 1000 0] [[.sl kdK, .i .i64]] (OSh.pan (.slt kdT 0) (.ifc 79 (.agg [.i .i64, .i .i64])) [[.sl kdK, .i .i64]]) (fun x e => z100_v n e.1.1.1 e.1.1.2 e.1.2.1) (inst 77 [.pl 1000 0, .s] [[.sl kdK, .i .i64]] (OSh.plain (.b) [[.sl kdK, .i .i64]]) (fun x e => z99_v n x.2.1 e.1.1.1 e.1.1.2 e.1.2.1) (inst 33 [.pl 1000 0] [[.sl kdK, .i .i64]] (OSh.plain (.b) [[.sl kdK, .i .i64]]) (fun x e => z71_v n e.1.1.1 e.1.1.2 e.1.2.1) (inst 78 [.pl 1000 0] [[.sl kdK, .i .i64]] (OSh.pan (.agg [.s, .b, .i .i64, .s, .s, .sl kdT, .s, .b, .i .i64, .s]) (.ifc 79 (.agg [.i .i64, .i .i64])) [[.sl kdK, .i .i64]]) (fun x e => z57_v n e.1.1.1 e.1.1.2 e.1.2.1) (inst 34 [.pl 1000 0, .i .i64] [[.sl kdK, .i .i64]] (OSh.pan (.junk) (.ifc 79 (.agg [.i .i64, .i .i64])) [[.sl kdK, .i .i64]]) (fun x e => z101_v n x.2.1 e.1.1.1 e.1.1.2 e.1.2.1) Spec.none))))))))
theorem z96_σok (n : Nat) : SpecOk Tryz.prog (z96_σ n) := (inst_ok (fun x e y h => z92_c n e.1.1.1 e.1.1.2 e.1.2.1 y h) (inst_ok (fun x e y h => z94_c n x.2.1 e.1.1.1 e.1.1.2 e.1.2.1 y h) (inst_ok (fun x e y h => z98_c n e.1.1.1 e.1.1.2 e.1.2.1 y h) (inst_ok (fun x e y h => z100_c n e.1.1.1 e.1.1.2 e.1.2.1 y h) (inst_ok (fun x e y h => z99_c n x.2.1 e.1.1.1 e.1.1.2 e.1.2.1 y h) (inst_ok (fun x e y h => z71_c n e.1.1.1 e.1.1.2 e.1.2.1 y h) (inst_ok (fun x e y h => z57_c n e.1.1.1 e.1.1.2 e.1.2.1 y h) (inst_ok (fun x e y h => z101_c n x.2.1 e.1.1.1 e.1.1.2 e.1.2.1 y h) (SpecOk.none _)))))))))
def z96_Φ (n : Nat) : Orc := with_ Tryz.prog (z96_σ n) [] n 0 hsL
def z96_v (n : Nat) (b0 : Bool) (r1 : Rows) (j2 : Int) : Option (Bool × (ByteArray × Bool × Int × ByteArray × ByteArray × (Bool × Rows) × ByteArray × Bool × Int × ByteArray × (Bool × Rows) × Unit) × (Int × Int × Unit) × ((Bool × Rows) × Int × Unit) × Unit) :=
 DM.denFn tm (z96_Φ n) z96_lv n Tryz.f35 false [AV.pl 1000 0] [[AV.sl b0 kdK r1 Right.no, aI j2]] (OSh.chk (OSh.pan (.agg [.s, .b, .i .i64, .s, .s, .sl kdT, .s, .b, .i .i64, .s, .sl kdL]) (.ifc 79 (.agg [.i .i64, .i .i64])) [[.sl kdK, .i .i64]]))
def z96_l8 (n : Nat) (b0 : Bool) (r1 : Rows) (j2 : Int) (i0 : Nat) (b11 : Bool) (r12 : List (List DV)) (j13 : Int) (s14 : ByteArray) (b15 : Bool) (j16 : Int) (s17 : ByteArray) (s18 : ByteArray) (b19 : Bool) (r20 : List (List DV)) (s21 : ByteArray) (b22 : Bool) (j23 : Int) (s24 : ByteArray) (b32 : Bool) (r33 : List (List DV)) : Option (Bool × (ByteArray × Bool × Int × ByteArray × ByteArray × (Bool × Rows) × ByteArray × Bool × Int × ByteArray × (Bool × Rows) × Unit) × (Int × Int × Unit) × ((Bool × Rows) × Int × Unit) × Unit) :=
 DM.loopFn tm (z96_Φ n) z96_lv n Tryz.f35 false [[AV.sl b0 kdK r1 Right.no, aI j2]] (OSh.chk (OSh.pan (.agg [.s, .b, .i .i64, .s, .s, .sl kdT, .s, .b, .i .i64, .s, .sl kdL]) (.ifc 79 (.agg [.i .i64, .i .i64])) [[.sl kdK, .i .i64]])) 8 [] i0 (St.mk ([AV.pl 1000 0, Jk, AV.pl 2 0, AV.pl 3 0] ++ jk 40) [(1000, [AV.sl b11 kdK r12 Right.no, aI j13]), (2, [AV.dv (DV.val (Value.string (ByteArray.mk #[]))), aB false, aI 0, AV.dv (DV.val (Value.string (ByteArray.mk #[]))), AV.dv (DV.val (Value.string (ByteArray.mk #[]))), AV.sl true kdT [] (Right.tok 20133), AV.dv (DV.val (Value.string (ByteArray.mk #[]))), aB false, aI 0, AV.dv (DV.val (Value.string (ByteArray.mk #[]))), AV.sl true kdL [] (Right.tok 20138)]), (3, [aS s14, aB b15, aI j16, aS s17, aS s18, AV.sl b19 kdT r20 (Right.tok 20197), aS s21, aB b22, aI j23, aS s24, AV.sl b32 kdL r33 (Right.tok 20202)])])
theorem z96_s8 (n : Nat) (b0 : Bool) (r1 : Rows) (j2 : Int) (i0 : Nat) (b11 : Bool) (r12 : List (List DV)) (j13 : Int) (s14 : ByteArray) (b15 : Bool) (j16 : Int) (s17 : ByteArray) (s18 : ByteArray) (b19 : Bool) (r20 : List (List DV)) (s21 : ByteArray) (b22 : Bool) (j23 : Int) (s24 : ByteArray) (b32 : Bool) (r33 : List (List DV)) : z96_l8 n b0 r1 j2 (i0 + 1) b11 r12 j13 s14 b15 j16 s17 s18 b19 r20 s21 b22 j23 s24 b32 r33 =
 obind (z71_v n b11 r12 j13) fun y34 =>
 bif y34.fst then
 bif (↑(List.length r33) : Int) == 4 then
 obind (z101_v n 81 y34.snd.fst.fst.fst y34.snd.fst.fst.snd y34.snd.fst.snd.fst) fun y35 =>
 bif y35.fst then
 some (true, Sh.dflt (.agg [.s, .b, .i .i64, .s, .s, .sl kdT, .s, .b, .i .i64, .s, .sl kdL]), (y35.snd.snd.fst.fst, (y35.snd.snd.fst.snd.fst, ())), (((y35.snd.snd.snd.fst.fst.fst, y35.snd.snd.snd.fst.fst.snd), (y35.snd.snd.snd.fst.snd.fst, ())), ()))
 else obind (z57_v n y35.snd.snd.snd.fst.fst.fst y35.snd.snd.snd.fst.fst.snd y35.snd.snd.snd.fst.snd.fst) fun y36 =>
 bif y36.fst then
 some (true, Sh.dflt (.agg [.s, .b, .i .i64, .s, .s, .sl kdT, .s, .b, .i .i64, .s, .sl kdL]), (y36.snd.snd.fst.fst, (y36.snd.snd.fst.snd.fst, ())), (((y36.snd.snd.snd.fst.fst.fst, y36.snd.snd.snd.fst.fst.snd), (y36.snd.snd.snd.fst.snd.fst, ())), ()))
 else if (List.length r33 + List.length [[DV.val (Value.string y36.snd.fst.fst), DV.val (Value.bool y36.snd.fst.snd.fst), DV.val (Value.int .i64 y36.snd.fst.snd.snd.fst), DV.val (Value.string y36.snd.fst.snd.snd.snd.fst), DV.val (Value.string y36.snd.fst.snd.snd.snd.snd.fst), DV.sl y36.snd.fst.snd.snd.snd.snd.snd.fst.fst kdT y36.snd.fst.snd.snd.snd.snd.snd.fst.snd, DV.val (Value.string y36.snd.fst.snd.snd.snd.snd.snd.snd.fst), DV.val (Value.bool y36.snd.fst.snd.snd.snd.snd.snd.snd.snd.fst), DV.val (Value.int .i64 y36.snd.fst.snd.snd.snd.snd.snd.snd.snd.snd.fst), DV.val (Value.string y36.snd.fst.snd.snd.snd.snd.snd.snd.snd.snd.snd.fst)]]) * 136 ≤ 140737488355328 then
 obind (z99_v n (ByteArray.mk #[46]) y36.snd.snd.snd.fst.fst.fst y36.snd.snd.snd.fst.fst.snd y36.snd.snd.snd.fst.snd.fst) fun y37 =>
 bif y37.fst then
 some (false, (s14, (b15, (j16, (s17, (s18, ((b19, r20), (s21, (b22, (j23, (s24, ((b32 && List.isEmpty [[DV.val (Value.string y36.snd.fst.fst), DV.val (Value.bool y36.snd.fst.snd.fst), DV.val (Value.int .i64 y36.snd.fst.snd.snd.fst), DV.val (Value.string y36.snd.fst.snd.snd.snd.fst), DV.val (Value.string y36.snd.fst.snd.snd.snd.snd.fst), DV.sl y36.snd.fst.snd.snd.snd.snd.snd.fst.fst kdT y36.snd.fst.snd.snd.snd.snd.snd.fst.snd, DV.val (Value.string y36.snd.fst.snd.snd.snd.snd.snd.snd.fst), DV.val (Value.bool y36.snd.fst.snd.snd.snd.snd.snd.snd.snd.fst), DV.val (Value.int .i64 y36.snd.fst.snd.snd.snd.snd.snd.snd.snd.snd.fst), DV.val (Value.string y36.snd.fst.snd.snd.snd.snd.snd.snd.snd.snd.snd.fst)]], appX r33 [[DV.val (Value.string y36.snd.fst.fst), DV.val (Value.bool y36.snd.fst.snd.fst), DV.val (Value.int .i64 y36.snd.fst.snd.snd.fst), DV.val (Value.string y36.snd.fst.snd.snd.snd.fst), DV.val (Value.string y36.snd.fst.snd.snd.snd.snd.fst), DV.sl y36.snd.fst.snd.snd.snd.snd.snd.fst.fst kdT y36.snd.fst.snd.snd.snd.snd.snd.fst.snd, DV.val (Value.string y36.snd.fst.snd.snd.snd.snd.snd.snd.fst), DV.val (Value.bool y36.snd.fst.snd.snd.snd.snd.snd.snd.snd.fst), DV.val (Value.int .i64 y36.snd.fst.snd.snd.snd.snd.snd.snd.snd.snd.fst), DV.val (Value.string y36.snd.fst.snd.snd.snd.snd.snd.snd.snd.snd.snd.fst)]]), ()))))))))))), Sh.dflt (.ifc 79 (.agg [.i .i64, .i .i64])), (((y37.snd.fst.fst.fst, y37.snd.fst.fst.snd), (y37.snd.fst.snd.fst, ())), ()))
 else obind (z94_v n (ByteArray.mk #[44]) y37.snd.fst.fst.fst y37.snd.fst.fst.snd y37.snd.fst.snd.fst) fun y38 =>
 bif y38.fst then
 some (true, Sh.dflt (.agg [.s, .b, .i .i64, .s, .s, .sl kdT, .s, .b, .i .i64, .s, .sl kdL]), (y38.snd.snd.fst.fst, (y38.snd.snd.fst.snd.fst, ())), (((y38.snd.snd.snd.fst.fst.fst, y38.snd.snd.snd.fst.fst.snd), (y38.snd.snd.snd.fst.snd.fst, ())), ()))
 else z96_l8 n b0 r1 j2 i0 y38.snd.snd.snd.fst.fst.fst y38.snd.snd.snd.fst.fst.snd y38.snd.snd.snd.fst.snd.fst s14 b15 j16 s17 s18 b19 r20 s21 b22 j23 s24 (b32 && List.isEmpty [[DV.val (Value.string y36.snd.fst.fst), DV.val (Value.bool y36.snd.fst.snd.fst), DV.val (Value.int .i64 y36.snd.fst.snd.snd.fst), DV.val (Value.string y36.snd.fst.snd.snd.snd.fst), DV.val (Value.string y36.snd.fst.snd.snd.snd.snd.fst), DV.sl y36.snd.fst.snd.snd.snd.snd.snd.fst.fst kdT y36.snd.fst.snd.snd.snd.snd.snd.fst.snd, DV.val (Value.string y36.snd.fst.snd.snd.snd.snd.snd.snd.fst), DV.val (Value.bool y36.snd.fst.snd.snd.snd.snd.snd.snd.snd.fst), DV.val (Value.int .i64 y36.snd.fst.snd.snd.snd.snd.snd.snd.snd.snd.fst), DV.val (Value.string y36.snd.fst.snd.snd.snd.snd.snd.snd.snd.snd.snd.fst)]]) (appX r33 [[DV.val (Value.string y36.snd.fst.fst), DV.val (Value.bool y36.snd.fst.snd.fst), DV.val (Value.int .i64 y36.snd.fst.snd.snd.fst), DV.val (Value.string y36.snd.fst.snd.snd.snd.fst), DV.val (Value.string y36.snd.fst.snd.snd.snd.snd.fst), DV.sl y36.snd.fst.snd.snd.snd.snd.snd.fst.fst kdT y36.snd.fst.snd.snd.snd.snd.snd.fst.snd, DV.val (Value.string y36.snd.fst.snd.snd.snd.snd.snd.snd.fst), DV.val (Value.bool y36.snd.fst.snd.snd.snd.snd.snd.snd.snd.fst), DV.val (Value.int .i64 y36.snd.fst.snd.snd.snd.snd.snd.snd.snd.snd.fst), DV.val (Value.string y36.snd.fst.snd.snd.snd.snd.snd.snd.snd.snd.snd.fst)]])
 else none
 else obind (z57_v n y34.snd.fst.fst.fst y34.snd.fst.fst.snd y34.snd.fst.snd.fst) fun y39 =>
 bif y39.fst then
 some (true, Sh.dflt (.agg [.s, .b, .i .i64, .s, .s, .sl kdT, .s, .b, .i .i64, .s, .sl kdL]), (y39.snd.snd.fst.fst, (y39.snd.snd.fst.snd.fst, ())), (((y39.snd.snd.snd.fst.fst.fst, y39.snd.snd.snd.fst.fst.snd), (y39.snd.snd.snd.fst.snd.fst, ())), ()))
 else if (List.length r33 + List.length [[DV.val (Value.string y39.snd.fst.fst), DV.val (Value.bool y39.snd.fst.snd.fst), DV.val (Value.int .i64 y39.snd.fst.snd.snd.fst), DV.val (Value.string y39.snd.fst.snd.snd.snd.fst), DV.val (Value.string y39.snd.fst.snd.snd.snd.snd.fst), DV.sl y39.snd.fst.snd.snd.snd.snd.snd.fst.fst kdT y39.snd.fst.snd.snd.snd.snd.snd.fst.snd, DV.val (Value.string y39.snd.fst.snd.snd.snd.snd.snd.snd.fst), DV.val (Value.bool y39.snd.fst.snd.snd.snd.snd.snd.snd.snd.fst), DV.val (Value.int .i64 y39.snd.fst.snd.snd.snd.snd.snd.snd.snd.snd.fst), DV.val (Value.string y39.snd.fst.snd.snd.snd.snd.snd.snd.snd.snd.snd.fst)]]) * 136 ≤ 140737488355328 then
 obind (z99_v n (ByteArray.mk #[46]) y39.snd.snd.snd.fst.fst.fst y39.snd.snd.snd.fst.fst.snd y39.snd.snd.snd.fst.snd.fst) fun y40 =>
 bif y40.fst then
 some (false, (s14, (b15, (j16, (s17, (s18, ((b19, r20), (s21, (b22, (j23, (s24, ((b32 && List.isEmpty [[DV.val (Value.string y39.snd.fst.fst), DV.val (Value.bool y39.snd.fst.snd.fst), DV.val (Value.int .i64 y39.snd.fst.snd.snd.fst), DV.val (Value.string y39.snd.fst.snd.snd.snd.fst), DV.val (Value.string y39.snd.fst.snd.snd.snd.snd.fst), DV.sl y39.snd.fst.snd.snd.snd.snd.snd.fst.fst kdT y39.snd.fst.snd.snd.snd.snd.snd.fst.snd, DV.val (Value.string y39.snd.fst.snd.snd.snd.snd.snd.snd.fst), DV.val (Value.bool y39.snd.fst.snd.snd.snd.snd.snd.snd.snd.fst), DV.val (Value.int .i64 y39.snd.fst.snd.snd.snd.snd.snd.snd.snd.snd.fst), DV.val (Value.string y39.snd.fst.snd.snd.snd.snd.snd.snd.snd.snd.snd.fst)]], appX r33 [[DV.val (Value.string y39.snd.fst.fst), DV.val (Value.bool y39.snd.fst.snd.fst), DV.val (Value.int .i64 y39.snd.fst.snd.snd.fst), DV.val (Value.string y39.snd.fst.snd.snd.snd.fst), DV.val (Value.string y39.snd.fst.snd.snd.snd.snd.fst), DV.sl y39.snd.fst.snd.snd.snd.snd.snd.fst.fst kdT y39.snd.fst.snd.snd.snd.snd.snd.fst.snd, DV.val (Value.string y39.snd.fst.snd.snd.snd.snd.snd.snd.fst), DV.val (Value.bool y39.snd.fst.snd.snd.snd.snd.snd.snd.snd.fst), DV.val (Value.int .i64 y39.snd.fst.snd.snd.snd.snd.snd.snd.snd.snd.fst), DV.val (Value.string y39.snd.fst.snd.snd.snd.snd.snd.snd.snd.snd.snd.fst)]]), ()))))))))))), Sh.dflt (.ifc 79 (.agg [.i .i64, .i .i64])), (((y40.snd.fst.fst.fst, y40.snd.fst.fst.snd), (y40.snd.fst.snd.fst, ())), ()))
 else obind (z94_v n (ByteArray.mk #[44]) y40.snd.fst.fst.fst y40.snd.fst.fst.snd y40.snd.fst.snd.fst) fun y41 =>
 bif y41.fst then
 some (true, Sh.dflt (.agg [.s, .b, .i .i64, .s, .s, .sl kdT, .s, .b, .i .i64, .s, .sl kdL]), (y41.snd.snd.fst.fst, (y41.snd.snd.fst.snd.fst, ())), (((y41.snd.snd.snd.fst.fst.fst, y41.snd.snd.snd.fst.fst.snd), (y41.snd.snd.snd.fst.snd.fst, ())), ()))
 else z96_l8 n b0 r1 j2 i0 y41.snd.snd.snd.fst.fst.fst y41.snd.snd.snd.fst.fst.snd y41.snd.snd.snd.fst.snd.fst s14 b15 j16 s17 s18 b19 r20 s21 b22 j23 s24 (b32 && List.isEmpty [[DV.val (Value.string y39.snd.fst.fst), DV.val (Value.bool y39.snd.fst.snd.fst), DV.val (Value.int .i64 y39.snd.fst.snd.snd.fst), DV.val (Value.string y39.snd.fst.snd.snd.snd.fst), DV.val (Value.string y39.snd.fst.snd.snd.snd.snd.fst), DV.sl y39.snd.fst.snd.snd.snd.snd.snd.fst.fst kdT y39.snd.fst.snd.snd.snd.snd.snd.fst.snd, DV.val (Value.string y39.snd.fst.snd.snd.snd.snd.snd.snd.fst), DV.val (Value.bool y39.snd.fst.snd.snd.snd.snd.snd.snd.snd.fst), DV.val (Value.int .i64 y39.snd.fst.snd.snd.snd.snd.snd.snd.snd.snd.fst), DV.val (Value.string y39.snd.fst.snd.snd.snd.snd.snd.snd.snd.snd.snd.fst)]]) (appX r33 [[DV.val (Value.string y39.snd.fst.fst), DV.val (Value.bool y39.snd.fst.snd.fst), DV.val (Value.int .i64 y39.snd.fst.snd.snd.fst), DV.val (Value.string y39.snd.fst.snd.snd.snd.fst), DV.val (Value.string y39.snd.fst.snd.snd.snd.snd.fst), DV.sl y39.snd.fst.snd.snd.snd.snd.snd.fst.fst kdT y39.snd.fst.snd.snd.snd.snd.snd.fst.snd, DV.val (Value.string y39.snd.fst.snd.snd.snd.snd.snd.snd.fst), DV.val (Value.bool y39.snd.fst.snd.snd.snd.snd.snd.snd.snd.fst), DV.val (Value.int .i64 y39.snd.fst.snd.snd.snd.snd.snd.snd.snd.snd.fst), DV.val (Value.string y39.snd.fst.snd.snd.snd.snd.snd.snd.snd.snd.snd.fst)]])
 else none
 else obind (z57_v n y34.snd.fst.fst.fst y34.snd.fst.fst.snd y34.snd.fst.snd.fst) fun y42 =>
 bif y42.fst then
 some (true, Sh.dflt (.agg [.s, .b, .i .i64, .s, .s, .sl kdT, .s, .b, .i .i64, .s, .sl kdL]), (y42.snd.snd.fst.fst, (y42.snd.snd.fst.snd.fst, ())), (((y42.snd.snd.snd.fst.fst.fst, y42.snd.snd.snd.fst.fst.snd), (y42.snd.snd.snd.fst.snd.fst, ())), ()))
 else if (List.length r33 + List.length [[DV.val (Value.string y42.snd.fst.fst), DV.val (Value.bool y42.snd.fst.snd.fst), DV.val (Value.int .i64 y42.snd.fst.snd.snd.fst), DV.val (Value.string y42.snd.fst.snd.snd.snd.fst), DV.val (Value.string y42.snd.fst.snd.snd.snd.snd.fst), DV.sl y42.snd.fst.snd.snd.snd.snd.snd.fst.fst kdT y42.snd.fst.snd.snd.snd.snd.snd.fst.snd, DV.val (Value.string y42.snd.fst.snd.snd.snd.snd.snd.snd.fst), DV.val (Value.bool y42.snd.fst.snd.snd.snd.snd.snd.snd.snd.fst), DV.val (Value.int .i64 y42.snd.fst.snd.snd.snd.snd.snd.snd.snd.snd.fst), DV.val (Value.string y42.snd.fst.snd.snd.snd.snd.snd.snd.snd.snd.snd.fst)]]) * 136 ≤ 140737488355328 then
 obind (z99_v n (ByteArray.mk #[46]) y42.snd.snd.snd.fst.fst.fst y42.snd.snd.snd.fst.fst.snd y42.snd.snd.snd.fst.snd.fst) fun y43 =>
 bif y43.fst then
 some (false, (s14, (b15, (j16, (s17, (s18, ((b19, r20), (s21, (b22, (j23, (s24, ((b32 && List.isEmpty [[DV.val (Value.string y42.snd.fst.fst), DV.val (Value.bool y42.snd.fst.snd.fst), DV.val (Value.int .i64 y42.snd.fst.snd.snd.fst), DV.val (Value.string y42.snd.fst.snd.snd.snd.fst), DV.val (Value.string y42.snd.fst.snd.snd.snd.snd.fst), DV.sl y42.snd.fst.snd.snd.snd.snd.snd.fst.fst kdT y42.snd.fst.snd.snd.snd.snd.snd.fst.snd, DV.val (Value.string y42.snd.fst.snd.snd.snd.snd.snd.snd.fst), DV.val (Value.bool y42.snd.fst.snd.snd.snd.snd.snd.snd.snd.fst), DV.val (Value.int .i64 y42.snd.fst.snd.snd.snd.snd.snd.snd.snd.snd.fst), DV.val (Value.string y42.snd.fst.snd.snd.snd.snd.snd.snd.snd.snd.snd.fst)]], appX r33 [[DV.val (Value.string y42.snd.fst.fst), DV.val (Value.bool y42.snd.fst.snd.fst), DV.val (Value.int .i64 y42.snd.fst.snd.snd.fst), DV.val (Value.string y42.snd.fst.snd.snd.snd.fst), DV.val (Value.string y42.snd.fst.snd.snd.snd.snd.fst), DV.sl y42.snd.fst.snd.snd.snd.snd.snd.fst.fst kdT y42.snd.fst.snd.snd.snd.snd.snd.fst.snd, DV.val (Value.string y42.snd.fst.snd.snd.snd.snd.snd.snd.fst), DV.val (Value.bool y42.snd.fst.snd.snd.snd.snd.snd.snd.snd.fst), DV.val (Value.int .i64 y42.snd.fst.snd.snd.snd.snd.snd.snd.snd.snd.fst), DV.val (Value.string y42.snd.fst.snd.snd.snd.snd.snd.snd.snd.snd.snd.fst)]]), ()))))))))))), Sh.dflt (.ifc 79 (.agg [.i .i64, .i .i64])), (((y43.snd.fst.fst.fst, y43.snd.fst.fst.snd), (y43.snd.fst.snd.fst, ())), ()))
 else obind (z94_v n (ByteArray.mk #[44]) y43.snd.fst.fst.fst y43.snd.fst.fst.snd y43.snd.fst.snd.fst) fun y44 =>
 bif y44.fst then
 some (true, Sh.dflt (.agg [.s, .b, .i .i64, .s, .s, .sl kdT, .s, .b, .i .i64, .s, .sl kdL]), (y44.snd.snd.fst.fst, (y44.snd.snd.fst.snd.fst, ())), (((y44.snd.snd.snd.fst.fst.fst, y44.snd.snd.snd.fst.fst.snd), (y44.snd.snd.snd.fst.snd.fst, ())), ()))
 else z96_l8 n b0 r1 j2 i0 y44.snd.snd.snd.fst.fst.fst y44.snd.snd.snd.fst.fst.snd y44.snd.snd.snd.fst.snd.fst s14 b15 j16 s17 s18 b19 r20 s21 b22 j23 s24 (b32 && List.isEmpty [[DV.val (Value.string y42.snd.fst.fst), DV.val (Value.bool y42.snd.fst.snd.fst), DV.val (Value.int .i64 y42.snd.fst.snd.snd.fst), DV.val (Value.string y42.snd.fst.snd.snd.snd.fst), DV.val (Value.string y42.snd.fst.snd.snd.snd.snd.fst), DV.sl y42.snd.fst.snd.snd.snd.snd.snd.fst.fst kdT y42.snd.fst.snd.snd.snd.snd.snd.fst.snd, DV.val (Value.string y42.snd.fst.snd.snd.snd.snd.snd.snd.fst), DV.val (Value.bool y42.snd.fst.snd.snd.snd.snd.snd.snd.snd.fst), DV.val (Value.int .i64 y42.snd.fst.snd.snd.snd.snd.snd.snd.snd.snd.fst), DV.val (Value.string y42.snd.fst.snd.snd.snd.snd.snd.snd.snd.snd.snd.fst)]]) (appX r33 [[DV.val (Value.string y42.snd.fst.fst), DV.val (Value.bool y42.snd.fst.snd.fst), DV.val (Value.int .i64 y42.snd.fst.snd.snd.fst), DV.val (Value.string y42.snd.fst.snd.snd.snd.fst), DV.val (Value.string y42.snd.fst.snd.snd.snd.snd.fst), DV.sl y42.snd.fst.snd.snd.snd.snd.snd.fst.fst kdT y42.snd.fst.snd.snd.snd.snd.snd.fst.snd, DV.val (Value.string y42.snd.fst.snd.snd.snd.snd.snd.snd.fst), DV.val (Value.bool y42.snd.fst.snd.snd.snd.snd.snd.snd.snd.fst), DV.val (Value.int .i64 y42.snd.fst.snd.snd.snd.snd.snd.snd.snd.snd.fst), DV.val (Value.string y42.snd.fst.snd.snd.snd.snd.snd.snd.snd.snd.snd.fst)]])
 else none := by kernel_rfl
theorem z96_e (n : Nat) (b0 : Bool) (r1 : Rows) (j2 : Int) : z96_v n b0 r1 j2 =
 obind (z92_v n b0 r1 j2) fun y3 =>
 bif y3.fst then
 some (true, Sh.dflt (.agg [.s, .b, .i .i64, .s, .s, .sl kdT, .s, .b, .i .i64, .s, .sl kdL]), (y3.snd.snd.fst.fst, (y3.snd.snd.fst.snd.fst, ())), (((y3.snd.snd.snd.fst.fst.fst, y3.snd.snd.snd.fst.fst.snd), (y3.snd.snd.snd.fst.snd.fst, ())), ()))
 else obind (z94_v n (ByteArray.mk #[58]) y3.snd.snd.snd.fst.fst.fst y3.snd.snd.snd.fst.fst.snd y3.snd.snd.snd.fst.snd.fst) fun y4 =>
 bif y4.fst then
 some (true, Sh.dflt (.agg [.s, .b, .i .i64, .s, .s, .sl kdT, .s, .b, .i .i64, .s, .sl kdL]), (y4.snd.snd.fst.fst, (y4.snd.snd.fst.snd.fst, ())), (((y4.snd.snd.snd.fst.fst.fst, y4.snd.snd.snd.fst.fst.snd), (y4.snd.snd.snd.fst.snd.fst, ())), ()))
 else obind (z98_v n y4.snd.snd.snd.fst.fst.fst y4.snd.snd.snd.fst.fst.snd y4.snd.snd.snd.fst.snd.fst) fun y5 =>
 bif y5.fst then
 some (true, Sh.dflt (.agg [.s, .b, .i .i64, .s, .s, .sl kdT, .s, .b, .i .i64, .s, .sl kdL]), (y5.snd.snd.fst.fst, (y5.snd.snd.fst.snd.fst, ())), (((y5.snd.snd.snd.fst.fst.fst, y5.snd.snd.snd.fst.fst.snd), (y5.snd.snd.snd.fst.snd.fst, ())), ()))
 else obind (z100_v n y5.snd.snd.snd.fst.fst.fst y5.snd.snd.snd.fst.fst.snd y5.snd.snd.snd.fst.snd.fst) fun y6 =>
 bif y6.fst then
 some (true, Sh.dflt (.agg [.s, .b, .i .i64, .s, .s, .sl kdT, .s, .b, .i .i64, .s, .sl kdL]), (y6.snd.snd.fst.fst, (y6.snd.snd.fst.snd.fst, ())), (((y6.snd.snd.snd.fst.fst.fst, y6.snd.snd.snd.fst.fst.snd), (y6.snd.snd.snd.fst.snd.fst, ())), ()))
 else obind (z99_v n (ByteArray.mk #[116, 111]) y6.snd.snd.snd.fst.fst.fst y6.snd.snd.snd.fst.fst.snd y6.snd.snd.snd.fst.snd.fst) fun y7 =>
 bif y7.fst then
 obind (z92_v n y7.snd.fst.fst.fst y7.snd.fst.fst.snd y7.snd.fst.snd.fst) fun y8 =>
 bif y8.fst then
 some (true, Sh.dflt (.agg [.s, .b, .i .i64, .s, .s, .sl kdT, .s, .b, .i .i64, .s, .sl kdL]), (y8.snd.snd.fst.fst, (y8.snd.snd.fst.snd.fst, ())), (((y8.snd.snd.snd.fst.fst.fst, y8.snd.snd.snd.fst.fst.snd), (y8.snd.snd.snd.fst.snd.fst, ())), ()))
 else obind (z94_v n (ByteArray.mk #[58, 45]) y8.snd.snd.snd.fst.fst.fst y8.snd.snd.snd.fst.fst.snd y8.snd.snd.snd.fst.snd.fst) fun y9 =>
 bif y9.fst then
 some (true, Sh.dflt (.agg [.s, .b, .i .i64, .s, .s, .sl kdT, .s, .b, .i .i64, .s, .sl kdL]), (y9.snd.snd.fst.fst, (y9.snd.snd.fst.snd.fst, ())), (((y9.snd.snd.snd.fst.fst.fst, y9.snd.snd.snd.fst.fst.snd), (y9.snd.snd.snd.fst.snd.fst, ())), ()))
 else z96_l8 n b0 r1 j2 n y9.snd.snd.snd.fst.fst.fst y9.snd.snd.snd.fst.fst.snd y9.snd.snd.snd.fst.snd.fst y3.snd.fst.fst y3.snd.fst.snd.fst y3.snd.fst.snd.snd.fst y3.snd.fst.snd.snd.snd.fst y5.snd.fst y6.snd.fst.fst y6.snd.fst.snd y8.snd.fst.fst y8.snd.fst.snd.fst y8.snd.fst.snd.snd.fst y8.snd.fst.snd.snd.snd.fst true []
 else obind (z94_v n (ByteArray.mk #[58, 45]) y7.snd.fst.fst.fst y7.snd.fst.fst.snd y7.snd.fst.snd.fst) fun y10 =>
 bif y10.fst then
 some (true, Sh.dflt (.agg [.s, .b, .i .i64, .s, .s, .sl kdT, .s, .b, .i .i64, .s, .sl kdL]), (y10.snd.snd.fst.fst, (y10.snd.snd.fst.snd.fst, ())), (((y10.snd.snd.snd.fst.fst.fst, y10.snd.snd.snd.fst.fst.snd), (y10.snd.snd.snd.fst.snd.fst, ())), ()))
 else z96_l8 n b0 r1 j2 n y10.snd.snd.snd.fst.fst.fst y10.snd.snd.snd.fst.fst.snd y10.snd.snd.snd.fst.snd.fst y3.snd.fst.fst y3.snd.fst.snd.fst y3.snd.fst.snd.snd.fst y3.snd.fst.snd.snd.snd.fst y5.snd.fst y6.snd.fst.fst y6.snd.fst.snd (ByteArray.mk #[]) false 0 (ByteArray.mk #[]) true [] := by kernel_rfl
theorem z96_c (n : Nat) (b0 : Bool) (r1 : Rows) (j2 : Int) (y : Bool × (ByteArray × Bool × Int × ByteArray × ByteArray × (Bool × Rows) × ByteArray × Bool × Int × ByteArray × (Bool × Rows) × Unit) × (Int × Int × Unit) × ((Bool × Rows) × Int × Unit) × Unit) (h : z96_v n b0 r1 j2 = some y) : Contract Tryz.prog 35 [AV.pl 1000 0] [[AV.sl b0 kdK r1 Right.no, aI j2]] (OSh.enc (OSh.pan (.agg [.s, .b, .i .i64, .s, .s, .sl kdT, .s, .b, .i .i64, .s, .sl kdL]) (.ifc 79 (.agg [.i .i64, .i .i64])) [[.sl kdK, .i .i64]]) y) :=
 ac (OSh.pan (.agg [.s, .b, .i .i64, .s, .s, .sl kdT, .s, .b, .i .i64, .s, .sl kdL]) (.ifc 79 (.agg [.i .i64, .i .i64])) [[.sl kdK, .i .i64]]) (z96_σok n) Tryz.func35 (by decide) h
def z14_lv : Live := [(6, [2, 3, 4, 6], [2, 3, 4, 21, 1000, 1001, 1002, 1003])]
def z14_σ (n : Nat) : Spec := (inst 31 [.s] [] (OSh.plain (.tup [.sl kdK, .i .i64, .i .i64]) []) (fun x e => z63_v n x.1) (inst 33 [.pl 1000 0] [[.sl kdK, .i .i64]] (OSh.plain (.b) [[.sl kdK, .i .i64]]) (fun x e => z71_v n e.1.1.1 e.1.1.2 e.1.2.1) (inst 35 [.pl 1000 0] [[.sl kdK, .i .i64]] (OSh.pan (.agg [.s, .b, .i .i64, .s, .s, .sl kdT, .s, .b, .i .i64, .s, .sl kdL]) (.ifc 79 (.agg [.i .i64, .i .i64])) [[.sl kdK, .i .i64]]) (fun x e => z96_v n e.1.1.1 e.1.1.2 e.1.2.1) (inst 34 [.pl 1000 0, .i .i64] [[.sl kdK, .i .i64]] (OSh.pan (.junk) (.ifc 79 (.agg [.i .i64, .i .i64])) [[.sl kdK, .i .i64]]) (fun x e => z101_v n x.2.1 e.1.1.1 e.1.1.2 e.1.2.1) Spec.none))))
theorem z14_σok (n : Nat) : SpecOk Tryz.prog (z14_σ n) := (inst_ok (fun x e y h => z63_c n x.1 y h) (inst_ok (fun x e y h => z71_c n e.1.1.1 e.1.1.2 e.1.2.1 y h) (inst_ok (fun x e y h => z96_c n e.1.1.1 e.1.1.2 e.1.2.1 y h) (inst_ok (fun x e y h => z101_c n x.2.1 e.1.1.1 e.1.1.2 e.1.2.1 y h) (SpecOk.none _)))))
def z14_Φ (n : Nat) : Orc := with_ Tryz.prog (z14_σ n) [] n 0 hsL
def z14_v (n : Nat) (s0 : ByteArray) : Option (((Bool × Rows) × Int × Int × Unit) × Unit) :=
 DM.denFnD tm (z14_Φ n) z14_lv n Tryz.f17 Tryz.f32 32 ([]) [aS s0] (OSh.chk (OSh.plain (.tup [.sl kdR, .i .i64, .i .i64]) []))
def z14_l6 (n : Nat) (s0 : ByteArray) (i0 : Nat) (b2 : Bool) (r3 : List (List DV)) (j4 : Int) (j5 : Int) (j9 : Int) (b10 : Bool) (r11 : List (List DV)) : Option (((Bool × Rows) × Int × Int × Unit) × Unit) :=
 DM.loopFnD tm (z14_Φ n) z14_lv n Tryz.f17 Tryz.f32 32 ([]) [.pl 1001 0, .pl 1002 0, .pl 1003 0] (OSh.chk (OSh.plain (.tup [.sl kdR, .i .i64, .i .i64]) [])) 6 [] i0 (St.mk ([Jk, Jk, AV.pl 1001 0, AV.pl 1002 0, AV.pl 1003 0, Jk, AV.pl 1000 0] ++ jk 37) [(1000, [AV.sl b2 kdK r3 Right.no, aI j9]), (1001, [AV.sl b10 kdR r11 (Right.tok 84064)]), (1002, [aI j4]), (1003, [aI j5])])
theorem z14_s6 (n : Nat) (s0 : ByteArray) (i0 : Nat) (b2 : Bool) (r3 : List (List DV)) (j4 : Int) (j5 : Int) (j9 : Int) (b10 : Bool) (r11 : List (List DV)) : z14_l6 n s0 (i0 + 1) b2 r3 j4 j5 j9 b10 r11 =
 bif decide ((↑(List.length r3) : Int) > 0) then
 obind (z71_v n b2 r3 j9) fun y12 =>
 bif y12.fst then
 bif (↑(List.length r11) : Int) == 16 then
 obind (z101_v n 81 y12.snd.fst.fst.fst y12.snd.fst.fst.snd y12.snd.fst.snd.fst) fun y13 =>
 bif y13.fst then
 some (((true, []), (y13.snd.snd.fst.fst, (y13.snd.snd.fst.snd.fst, ()))), ())
 else obind (z96_v n y13.snd.snd.snd.fst.fst.fst y13.snd.snd.snd.fst.fst.snd y13.snd.snd.snd.fst.snd.fst) fun y14 =>
 bif y14.fst then
 some (((true, []), (y14.snd.snd.fst.fst, (y14.snd.snd.fst.snd.fst, ()))), ())
 else if (List.length r11 + List.length [[DV.val (Value.string y14.snd.fst.fst), DV.val (Value.bool y14.snd.fst.snd.fst), DV.val (Value.int .i64 y14.snd.fst.snd.snd.fst), DV.val (Value.string y14.snd.fst.snd.snd.snd.fst), DV.val (Value.string y14.snd.fst.snd.snd.snd.snd.fst), DV.sl y14.snd.fst.snd.snd.snd.snd.snd.fst.fst kdT y14.snd.fst.snd.snd.snd.snd.snd.fst.snd, DV.val (Value.string y14.snd.fst.snd.snd.snd.snd.snd.snd.fst), DV.val (Value.bool y14.snd.fst.snd.snd.snd.snd.snd.snd.snd.fst), DV.val (Value.int .i64 y14.snd.fst.snd.snd.snd.snd.snd.snd.snd.snd.fst), DV.val (Value.string y14.snd.fst.snd.snd.snd.snd.snd.snd.snd.snd.snd.fst), DV.sl y14.snd.fst.snd.snd.snd.snd.snd.snd.snd.snd.snd.snd.fst.fst kdL y14.snd.fst.snd.snd.snd.snd.snd.snd.snd.snd.snd.snd.fst.snd]]) * 160 ≤ 140737488355328 then
 z14_l6 n s0 i0 y14.snd.snd.snd.fst.fst.fst y14.snd.snd.snd.fst.fst.snd j4 j5 y14.snd.snd.snd.fst.snd.fst (b10 && List.isEmpty [[DV.val (Value.string y14.snd.fst.fst), DV.val (Value.bool y14.snd.fst.snd.fst), DV.val (Value.int .i64 y14.snd.fst.snd.snd.fst), DV.val (Value.string y14.snd.fst.snd.snd.snd.fst), DV.val (Value.string y14.snd.fst.snd.snd.snd.snd.fst), DV.sl y14.snd.fst.snd.snd.snd.snd.snd.fst.fst kdT y14.snd.fst.snd.snd.snd.snd.snd.fst.snd, DV.val (Value.string y14.snd.fst.snd.snd.snd.snd.snd.snd.fst), DV.val (Value.bool y14.snd.fst.snd.snd.snd.snd.snd.snd.snd.fst), DV.val (Value.int .i64 y14.snd.fst.snd.snd.snd.snd.snd.snd.snd.snd.fst), DV.val (Value.string y14.snd.fst.snd.snd.snd.snd.snd.snd.snd.snd.snd.fst), DV.sl y14.snd.fst.snd.snd.snd.snd.snd.snd.snd.snd.snd.snd.fst.fst kdL y14.snd.fst.snd.snd.snd.snd.snd.snd.snd.snd.snd.snd.fst.snd]]) (appX r11 [[DV.val (Value.string y14.snd.fst.fst), DV.val (Value.bool y14.snd.fst.snd.fst), DV.val (Value.int .i64 y14.snd.fst.snd.snd.fst), DV.val (Value.string y14.snd.fst.snd.snd.snd.fst), DV.val (Value.string y14.snd.fst.snd.snd.snd.snd.fst), DV.sl y14.snd.fst.snd.snd.snd.snd.snd.fst.fst kdT y14.snd.fst.snd.snd.snd.snd.snd.fst.snd, DV.val (Value.string y14.snd.fst.snd.snd.snd.snd.snd.snd.fst), DV.val (Value.bool y14.snd.fst.snd.snd.snd.snd.snd.snd.snd.fst), DV.val (Value.int .i64 y14.snd.fst.snd.snd.snd.snd.snd.snd.snd.snd.fst), DV.val (Value.string y14.snd.fst.snd.snd.snd.snd.snd.snd.snd.snd.snd.fst), DV.sl y14.snd.fst.snd.snd.snd.snd.snd.snd.snd.snd.snd.snd.fst.fst kdL y14.snd.fst.snd.snd.snd.snd.snd.snd.snd.snd.snd.snd.fst.snd]])
 else none
 else obind (z96_v n y12.snd.fst.fst.fst y12.snd.fst.fst.snd y12.snd.fst.snd.fst) fun y15 =>
 bif y15.fst then
 some (((true, []), (y15.snd.snd.fst.fst, (y15.snd.snd.fst.snd.fst, ()))), ())
 else if (List.length r11 + List.length [[DV.val (Value.string y15.snd.fst.fst), DV.val (Value.bool y15.snd.fst.snd.fst), DV.val (Value.int .i64 y15.snd.fst.snd.snd.fst), DV.val (Value.string y15.snd.fst.snd.snd.snd.fst), DV.val (Value.string y15.snd.fst.snd.snd.snd.snd.fst), DV.sl y15.snd.fst.snd.snd.snd.snd.snd.fst.fst kdT y15.snd.fst.snd.snd.snd.snd.snd.fst.snd, DV.val (Value.string y15.snd.fst.snd.snd.snd.snd.snd.snd.fst), DV.val (Value.bool y15.snd.fst.snd.snd.snd.snd.snd.snd.snd.fst), DV.val (Value.int .i64 y15.snd.fst.snd.snd.snd.snd.snd.snd.snd.snd.fst), DV.val (Value.string y15.snd.fst.snd.snd.snd.snd.snd.snd.snd.snd.snd.fst), DV.sl y15.snd.fst.snd.snd.snd.snd.snd.snd.snd.snd.snd.snd.fst.fst kdL y15.snd.fst.snd.snd.snd.snd.snd.snd.snd.snd.snd.snd.fst.snd]]) * 160 ≤ 140737488355328 then
 z14_l6 n s0 i0 y15.snd.snd.snd.fst.fst.fst y15.snd.snd.snd.fst.fst.snd j4 j5 y15.snd.snd.snd.fst.snd.fst (b10 && List.isEmpty [[DV.val (Value.string y15.snd.fst.fst), DV.val (Value.bool y15.snd.fst.snd.fst), DV.val (Value.int .i64 y15.snd.fst.snd.snd.fst), DV.val (Value.string y15.snd.fst.snd.snd.snd.fst), DV.val (Value.string y15.snd.fst.snd.snd.snd.snd.fst), DV.sl y15.snd.fst.snd.snd.snd.snd.snd.fst.fst kdT y15.snd.fst.snd.snd.snd.snd.snd.fst.snd, DV.val (Value.string y15.snd.fst.snd.snd.snd.snd.snd.snd.fst), DV.val (Value.bool y15.snd.fst.snd.snd.snd.snd.snd.snd.snd.fst), DV.val (Value.int .i64 y15.snd.fst.snd.snd.snd.snd.snd.snd.snd.snd.fst), DV.val (Value.string y15.snd.fst.snd.snd.snd.snd.snd.snd.snd.snd.snd.fst), DV.sl y15.snd.fst.snd.snd.snd.snd.snd.snd.snd.snd.snd.snd.fst.fst kdL y15.snd.fst.snd.snd.snd.snd.snd.snd.snd.snd.snd.snd.fst.snd]]) (appX r11 [[DV.val (Value.string y15.snd.fst.fst), DV.val (Value.bool y15.snd.fst.snd.fst), DV.val (Value.int .i64 y15.snd.fst.snd.snd.fst), DV.val (Value.string y15.snd.fst.snd.snd.snd.fst), DV.val (Value.string y15.snd.fst.snd.snd.snd.snd.fst), DV.sl y15.snd.fst.snd.snd.snd.snd.snd.fst.fst kdT y15.snd.fst.snd.snd.snd.snd.snd.fst.snd, DV.val (Value.string y15.snd.fst.snd.snd.snd.snd.snd.snd.fst), DV.val (Value.bool y15.snd.fst.snd.snd.snd.snd.snd.snd.snd.fst), DV.val (Value.int .i64 y15.snd.fst.snd.snd.snd.snd.snd.snd.snd.snd.fst), DV.val (Value.string y15.snd.fst.snd.snd.snd.snd.snd.snd.snd.snd.snd.fst), DV.sl y15.snd.fst.snd.snd.snd.snd.snd.snd.snd.snd.snd.snd.fst.fst kdL y15.snd.fst.snd.snd.snd.snd.snd.snd.snd.snd.snd.snd.fst.snd]])
 else none
 else obind (z96_v n y12.snd.fst.fst.fst y12.snd.fst.fst.snd y12.snd.fst.snd.fst) fun y16 =>
 bif y16.fst then
 some (((true, []), (y16.snd.snd.fst.fst, (y16.snd.snd.fst.snd.fst, ()))), ())
 else if (List.length r11 + List.length [[DV.val (Value.string y16.snd.fst.fst), DV.val (Value.bool y16.snd.fst.snd.fst), DV.val (Value.int .i64 y16.snd.fst.snd.snd.fst), DV.val (Value.string y16.snd.fst.snd.snd.snd.fst), DV.val (Value.string y16.snd.fst.snd.snd.snd.snd.fst), DV.sl y16.snd.fst.snd.snd.snd.snd.snd.fst.fst kdT y16.snd.fst.snd.snd.snd.snd.snd.fst.snd, DV.val (Value.string y16.snd.fst.snd.snd.snd.snd.snd.snd.fst), DV.val (Value.bool y16.snd.fst.snd.snd.snd.snd.snd.snd.snd.fst), DV.val (Value.int .i64 y16.snd.fst.snd.snd.snd.snd.snd.snd.snd.snd.fst), DV.val (Value.string y16.snd.fst.snd.snd.snd.snd.snd.snd.snd.snd.snd.fst), DV.sl y16.snd.fst.snd.snd.snd.snd.snd.snd.snd.snd.snd.snd.fst.fst kdL y16.snd.fst.snd.snd.snd.snd.snd.snd.snd.snd.snd.snd.fst.snd]]) * 160 ≤ 140737488355328 then
 z14_l6 n s0 i0 y16.snd.snd.snd.fst.fst.fst y16.snd.snd.snd.fst.fst.snd j4 j5 y16.snd.snd.snd.fst.snd.fst (b10 && List.isEmpty [[DV.val (Value.string y16.snd.fst.fst), DV.val (Value.bool y16.snd.fst.snd.fst), DV.val (Value.int .i64 y16.snd.fst.snd.snd.fst), DV.val (Value.string y16.snd.fst.snd.snd.snd.fst), DV.val (Value.string y16.snd.fst.snd.snd.snd.snd.fst), DV.sl y16.snd.fst.snd.snd.snd.snd.snd.fst.fst kdT y16.snd.fst.snd.snd.snd.snd.snd.fst.snd, DV.val (Value.string y16.snd.fst.snd.snd.snd.snd.snd.snd.fst), DV.val (Value.bool y16.snd.fst.snd.snd.snd.snd.snd.snd.snd.fst), DV.val (Value.int .i64 y16.snd.fst.snd.snd.snd.snd.snd.snd.snd.snd.fst), DV.val (Value.string y16.snd.fst.snd.snd.snd.snd.snd.snd.snd.snd.snd.fst), DV.sl y16.snd.fst.snd.snd.snd.snd.snd.snd.snd.snd.snd.snd.fst.fst kdL y16.snd.fst.snd.snd.snd.snd.snd.snd.snd.snd.snd.snd.fst.snd]]) (appX r11 [[DV.val (Value.string y16.snd.fst.fst), DV.val (Value.bool y16.snd.fst.snd.fst), DV.val (Value.int .i64 y16.snd.fst.snd.snd.fst), DV.val (Value.string y16.snd.fst.snd.snd.snd.fst), DV.val (Value.string y16.snd.fst.snd.snd.snd.snd.fst), DV.sl y16.snd.fst.snd.snd.snd.snd.snd.fst.fst kdT y16.snd.fst.snd.snd.snd.snd.snd.fst.snd, DV.val (Value.string y16.snd.fst.snd.snd.snd.snd.snd.snd.fst), DV.val (Value.bool y16.snd.fst.snd.snd.snd.snd.snd.snd.snd.fst), DV.val (Value.int .i64 y16.snd.fst.snd.snd.snd.snd.snd.snd.snd.snd.fst), DV.val (Value.string y16.snd.fst.snd.snd.snd.snd.snd.snd.snd.snd.snd.fst), DV.sl y16.snd.fst.snd.snd.snd.snd.snd.snd.snd.snd.snd.snd.fst.fst kdL y16.snd.fst.snd.snd.snd.snd.snd.snd.snd.snd.snd.snd.fst.snd]])
 else none
 else some (((b10, r11), (0, (0, ()))), ()) := by kernel_rfl
theorem z14_e (n : Nat) (s0 : ByteArray) : z14_v n s0 =
 obind (z63_v n s0) fun y1 =>
 bif y1.fst.snd.snd.fst != 0 then
 some (((true, []), (y1.fst.snd.fst, (y1.fst.snd.snd.fst, ()))), ())
 else z14_l6 n s0 n y1.fst.fst.fst y1.fst.fst.snd y1.fst.snd.fst y1.fst.snd.snd.fst ((↑(ByteArray.size s0) : Int)) true [] := by kernel_rfl
theorem z14_c (n : Nat) (s0 : ByteArray) (y : ((Bool × Rows) × Int × Int × Unit) × Unit) (h : z14_v n s0 = some y) : Contract Tryz.prog 17 [aS s0] [] (OSh.enc (OSh.plain (.tup [.sl kdR, .i .i64, .i .i64]) []) y) :=
 autoD_okM tm_std (with_ok mixed (by kernel_rfl) (z14_σok n) n 0 hsL) mixed Tryz.func17 (by decide) Tryz.func32 (by decide) (by decide) (o := (OSh.plain (.tup [.sl kdR, .i .i64, .i .i64]) [])) h
def z20_lv : Live := []
def z20_σ (n : Nat) : Spec := (inst 31 [.s] [] (OSh.plain (.tup [.sl kdK, .i .i64, .i .i64]) []) (fun x e => z63_v n x.1) Spec.none)
theorem z20_σok (n : Nat) : SpecOk Tryz.prog (z20_σ n) := (inst_ok (fun x e y h => z63_c n x.1 y h) (SpecOk.none _))
def z20_Φ (n : Nat) : Orc := with_ Tryz.prog (z20_σ n) [] n 0 hsL
def z20_v (n : Nat) (s0 : ByteArray) : Option (Bool × Unit) :=
 DM.denFn tm (z20_Φ n) z20_lv n Tryz.f159 false [aS s0] [] (OSh.chk (OSh.plain (.b) []))
theorem z20_e (n : Nat) (s0 : ByteArray) : z20_v n s0 =
 obind (z63_v n s0) fun y1 =>
 bif y1.fst.snd.snd.fst == 0 then
 bif (↑(List.length y1.fst.fst.snd) : Int) == 1 then
 if 0 < (↑(List.length y1.fst.fst.snd) : Int) then
 bif Row.I (List.getD y1.fst.fst.snd 0 []) 0 == 2 then
 if 0 < (↑(List.length y1.fst.fst.snd) : Int) then
 some (Row.S (List.getD y1.fst.fst.snd 0 []) 1 == s0, ())
 else none
 else some (false, ())
 else none
 else some (false, ())
 else some (false, ()) := by kernel_rfl
theorem z20_c (n : Nat) (s0 : ByteArray) (y : Bool × Unit) (h : z20_v n s0 = some y) : Contract Tryz.prog 159 [aS s0] [] (OSh.enc (OSh.plain (.b) []) y) :=
 ac (OSh.plain (.b) []) (z20_σok n) Tryz.func159 (by decide) h
def z64_lv : Live := [(2, [0, 5, 6], [1000, 1001, 1002, 1003])]
def z64_σ (n : Nat) : Spec := Spec.none
theorem z64_σok (n : Nat) : SpecOk Tryz.prog (z64_σ n) := (SpecOk.none _)
def z64_Φ (n : Nat) : Orc := with_ Tryz.prog (z64_σ n) [] n 0 hsL
def z64_v (n : Nat) (s0 : ByteArray) : Option (Bool × Unit) :=
 DM.denFn tm (z64_Φ n) z64_lv n Tryz.f160 false [aS s0] [] (OSh.chk (OSh.plain (.b) []))
def z64_l2 (n : Nat) (s0 : ByteArray) (i0 : Nat) (j1 : Int) : Option (Bool × Unit) :=
 DM.loopFn tm (z64_Φ n) z64_lv n Tryz.f160 false [] (OSh.chk (OSh.plain (.b) [])) 2 [] i0 (St.mk ([aS s0, Jk, Jk, Jk, Jk, AV.dv (DV.val (Value.int .i64 (↑(ByteArray.size s0) : Int))), aI j1] ++ jk 33) [])
theorem z64_s2 (n : Nat) (s0 : ByteArray) (i0 : Nat) (j1 : Int) : z64_l2 n s0 (i0 + 1) j1 =
 bif decide (j1 < (↑(ByteArray.size s0) : Int)) then
 if 0 ≤ j1 then
 if j1 < (↑(ByteArray.size s0) : Int) then
 bif decide (bt s0 j1 < 32) then
 some (false, ())
 else if 0 ≤ j1 then
 if j1 < (↑(ByteArray.size s0) : Int) then
 bif decide (bt s0 j1 > 126) then
 some (false, ())
 else if 0 ≤ j1 then
 if j1 < (↑(ByteArray.size s0) : Int) then
 bif bt s0 j1 == 34 then
 some (false, ())
 else if 0 ≤ j1 then
 if j1 < (↑(ByteArray.size s0) : Int) then
 bif bt s0 j1 == 92 then
 some (false, ())
 else z64_l2 n s0 i0 (IntKind.wrap IntKind.i64 (j1 + 1))
 else none
 else none
 else none
 else none
 else none
 else none
 else none
 else none
 else bif decide ((↑(ByteArray.size s0) : Int) ≥ 1) then
 some (decide ((↑(ByteArray.size s0) : Int) ≤ 32), ())
 else some (false, ()) := by kernel_rfl
theorem z64_e (n : Nat) (s0 : ByteArray) : z64_v n s0 =
 z64_l2 n s0 n 0 := by kernel_rfl
theorem z64_c (n : Nat) (s0 : ByteArray) (y : Bool × Unit) (h : z64_v n s0 = some y) : Contract Tryz.prog 160 [aS s0] [] (OSh.enc (OSh.plain (.b) []) y) :=
 ac (OSh.plain (.b) []) (z64_σok n) Tryz.func160 (by decide) h
def z77_lv : Live := []
def z77_σ (n : Nat) : Spec := (inst 31 [.s] [] (OSh.plain (.tup [.sl kdK, .i .i64, .i .i64]) []) (fun x e => z63_v n x.1) Spec.none)
theorem z77_σok (n : Nat) : SpecOk Tryz.prog (z77_σ n) := (inst_ok (fun x e y h => z63_c n x.1 y h) (SpecOk.none _))
def z77_Φ (n : Nat) : Orc := with_ Tryz.prog (z77_σ n) [] n 0 hsL
def z77_v (n : Nat) (s0 : ByteArray) : Option (Bool × Unit) :=
 DM.denFn tm (z77_Φ n) z77_lv n Tryz.f133 false [aS s0] [] (OSh.chk (OSh.plain (.b) []))
theorem z77_e (n : Nat) (s0 : ByteArray) : z77_v n s0 =
 obind (z63_v n s0) fun y1 =>
 bif y1.fst.snd.snd.fst == 0 then
 bif (↑(List.length y1.fst.fst.snd) : Int) == 1 then
 if 0 < (↑(List.length y1.fst.fst.snd) : Int) then
 bif Row.I (List.getD y1.fst.fst.snd 0 []) 0 == 1 then
 if 0 < (↑(List.length y1.fst.fst.snd) : Int) then
 bif Row.S (List.getD y1.fst.fst.snd 0 []) 1 == s0 then
 bif !s0 == ByteArray.mk #[115, 97, 121, 115] then
 bif !s0 == ByteArray.mk #[116, 111] then
 some (!s0 == ByteArray.mk #[97, 116], ())
 else some (false, ())
 else some (false, ())
 else some (false, ())
 else none
 else some (false, ())
 else none
 else some (false, ())
 else some (false, ()) := by kernel_rfl
theorem z77_c (n : Nat) (s0 : ByteArray) (y : Bool × Unit) (h : z77_v n s0 = some y) : Contract Tryz.prog 133 [aS s0] [] (OSh.enc (OSh.plain (.b) []) y) :=
 ac (OSh.plain (.b) []) (z77_σok n) Tryz.func133 (by decide) h
end
end Go.Den
namespace Go.Den
noncomputable section
open Go.Proofs
set_option maxRecDepth 100000
def z76_lv : Live := []
def z76_σ (n : Nat) : Spec := (inst 159 [.s] [] (OSh.plain (.b) []) (fun x e => z20_v n x.1) (inst 42 [.i .i64] [] (OSh.plain (.s) []) (fun x e => strconv_Itoa_v n x.1) (inst 160 [.s] [] (OSh.plain (.b) []) (fun x e => z64_v n x.1) (inst 133 [.s] [] (OSh.plain (.b) []) (fun x e => z77_v n x.1) Spec.none))))
theorem z76_σok (n : Nat) : SpecOk Tryz.prog (z76_σ n) := (inst_ok (fun x e y h => z20_c n x.1 y h) (inst_ok (fun x e y h => strconv_Itoa_c n x.1 y h) (inst_ok (fun x e y h => z64_c n x.1 y h) (inst_ok (fun x e y h => z77_c n x.1 y h) (SpecOk.none _)))))
def z76_Φ (n : Nat) : Orc := with_ Tryz.prog (z76_σ n) [] n 0 hsL
def z76_v (n : Nat) (s0 : ByteArray) (b1 : Bool) (j2 : Int) (s3 : ByteArray) : Option ((ByteArray × Int × Unit) × Unit) :=
 DM.denFn tm (z76_Φ n) z76_lv n Tryz.f131 false [AV.agg [aS s0, aB b1, aI j2, aS s3]] [] (OSh.chk (OSh.plain (.tup [.s, .i .i64]) []))
theorem z76_e (n : Nat) (s0 : ByteArray) (b1 : Bool) (j2 : Int) (s3 : ByteArray) : z76_v n s0 b1 j2 s3 =
 bif !s0 == ByteArray.mk #[] then
 bif !(b1 == false && (j2 == 0 && (s3 == ByteArray.mk #[] && true))) then
 some ((ByteArray.mk #[], (100, ())), ())
 else obind (z20_v n s0) fun y4 =>
 bif !y4.fst then
 some ((ByteArray.mk #[], (100, ())), ())
 else some ((s0, (0, ())), ())
 else bif b1 then
 bif s3 == ByteArray.mk #[] then
 obind (strconv_Itoa_v n j2) fun y5 =>
 some ((y5.fst, (0, ())), ())
 else bif b1 then
 some ((ByteArray.mk #[], (100, ())), ())
 else bif j2 != 0 then
 some ((ByteArray.mk #[], (100, ())), ())
 else obind (z64_v n s3) fun y6 =>
 bif !y6.fst then
 some ((ByteArray.mk #[], (100, ())), ())
 else obind (z77_v n s3) fun y7 =>
 bif y7.fst then
 some ((s3, (0, ())), ())
 else if 1 + ByteArray.size s3 < 4611686018427387904 then
 if ByteArray.size (ByteArray.mk #[34] ++ s3) + 1 < 4611686018427387904 then
 some ((ByteArray.mk #[34] ++ s3 ++ ByteArray.mk #[34], (0, ())), ())
 else none
 else none
 else bif b1 then
 some ((ByteArray.mk #[], (100, ())), ())
 else bif j2 != 0 then
 some ((ByteArray.mk #[], (100, ())), ())
 else obind (z64_v n s3) fun y8 =>
 bif !y8.fst then
 some ((ByteArray.mk #[], (100, ())), ())
 else obind (z77_v n s3) fun y9 =>
 bif y9.fst then
 some ((s3, (0, ())), ())
 else if 1 + ByteArray.size s3 < 4611686018427387904 then
 if ByteArray.size (ByteArray.mk #[34] ++ s3) + 1 < 4611686018427387904 then
 some ((ByteArray.mk #[34] ++ s3 ++ ByteArray.mk #[34], (0, ())), ())
 else none
 else none := by kernel_rfl
theorem z76_c (n : Nat) (s0 : ByteArray) (b1 : Bool) (j2 : Int) (s3 : ByteArray) (y : (ByteArray × Int × Unit) × Unit) (h : z76_v n s0 b1 j2 s3 = some y) : Contract Tryz.prog 131 [AV.agg [aS s0, aB b1, aI j2, aS s3]] [] (OSh.enc (OSh.plain (.tup [.s, .i .i64]) []) y) :=
 ac (OSh.plain (.tup [.s, .i .i64]) []) (z76_σok n) Tryz.func131 (by decide) h
def z1_lv : Live := []
def z1_σ (n : Nat) : Spec := (inst 132 [.pl 1000 0] [[.nilp, .slt [Kd.i IntKind.u8] 500002, .b]] (OSh.plain (.tup []) [[.pl 1000 0, .slt [Kd.i IntKind.u8] 1, .b]]) (fun x e => sB_copyCheck_nilp_v n e.1.2.1.1 e.1.2.1.2 e.1.2.2.1) Spec.none)
theorem z1_σok (n : Nat) : SpecOk Tryz.prog (z1_σ n) := (inst_ok (fun x e y h => sB_copyCheck_nilp_c n e.1.2.1.1 e.1.2.1.2 e.1.2.2.1 y h) (SpecOk.none _))
def z1_Φ (n : Nat) : Orc := with_ Tryz.prog (z1_σ n) [] n 0 hsL
def z1_v (n : Nat) (s0 : ByteArray) (b1 : Bool) (r2 : Rows) (b3 : Bool) : Option ((Int × Unit × Unit) × (Unit × (Bool × Rows) × Bool × Unit) × Unit) :=
 DM.denFn tm (z1_Φ n) z1_lv n Tryz.f81 false [AV.pl 1000 0, aS s0] [[AV.dv (DV.val (Value.pointer none)), AV.sl b1 [Kd.i IntKind.u8] r2 (Right.tok 500003), aB b3]] (OSh.chk (OSh.plain (.tup [.i .i64, .nili]) [[.pl 1000 0, .slt [Kd.i IntKind.u8] 1, .b]]))
theorem z1_e (n : Nat) (s0 : ByteArray) (b1 : Bool) (r2 : Rows) (b3 : Bool) : z1_v n s0 b1 r2 b3 =
 obind (sB_copyCheck_nilp_v n b1 r2 b3) fun y4 =>
 if (List.length y4.snd.fst.snd.fst.snd + ByteArray.size s0) * 1 ≤ 140737488355328 then
 some (((↑(ByteArray.size s0) : Int), ((), ())), (((), ((y4.snd.fst.snd.fst.fst && ByteArray.size s0 == 0, appX y4.snd.fst.snd.fst.snd (byteRows s0)), (y4.snd.fst.snd.snd.fst, ()))), ()))
 else none := by kernel_rfl
theorem z1_c (n : Nat) (s0 : ByteArray) (b1 : Bool) (r2 : Rows) (b3 : Bool) (y : (Int × Unit × Unit) × (Unit × (Bool × Rows) × Bool × Unit) × Unit) (h : z1_v n s0 b1 r2 b3 = some y) : Contract Tryz.prog 81 [AV.pl 1000 0, aS s0] [[AV.dv (DV.val (Value.pointer none)), AV.sl b1 [Kd.i IntKind.u8] r2 (Right.tok 500003), aB b3]] (OSh.enc (OSh.plain (.tup [.i .i64, .nili]) [[.pl 1000 0, .slt [Kd.i IntKind.u8] 1, .b]]) y) :=
 ac (OSh.plain (.tup [.i .i64, .nili]) [[.pl 1000 0, .slt [Kd.i IntKind.u8] 1, .b]]) (z1_σok n) Tryz.func81 (by decide) h
def z26_lv : Live := []
def z26_σ (n : Nat) : Spec := (inst 131 [.agg [.s, .b, .i .i64, .s]] [] (OSh.plain (.tup [.s, .i .i64]) []) (fun x e => z76_v n x.1.1 x.1.2.1 x.1.2.2.1 x.1.2.2.2.1) (inst 81 [.pl 1000 0, .s] [[.nilp, .slt [Kd.i IntKind.u8] 500003, .b]] (OSh.plain (.tup [.i .i64, .nili]) [[.pl 1000 0, .slt [Kd.i IntKind.u8] 1, .b]]) (fun x e => z1_v n x.2.1 e.1.2.1.1 e.1.2.1.2 e.1.2.2.1) Spec.none))
theorem z26_σok (n : Nat) : SpecOk Tryz.prog (z26_σ n) := (inst_ok (fun x e y h => z76_c n x.1.1 x.1.2.1 x.1.2.2.1 x.1.2.2.2.1 y h) (inst_ok (fun x e y h => z1_c n x.2.1 e.1.2.1.1 e.1.2.1.2 e.1.2.2.1 y h) (SpecOk.none _)))
def z26_Φ (n : Nat) : Orc := with_ Tryz.prog (z26_σ n) [] n 0 hsL
def z26_v (n : Nat) (s0 : ByteArray) (s1 : ByteArray) (b2 : Bool) (j3 : Int) (s4 : ByteArray) (b5 : Bool) (r6 : Rows) (b7 : Bool) : Option (Unit × (Unit × (Bool × Rows) × Bool × Unit) × Unit) :=
 DM.denFn tm (z26_Φ n) z26_lv n Tryz.f80 false [AV.pl 1000 0, aS s0, AV.agg [aS s1, aB b2, aI j3, aS s4]] [[AV.dv (DV.val (Value.pointer none)), AV.sl b5 [Kd.i IntKind.u8] r6 (Right.tok 500004), aB b7]] (OSh.chk (OSh.plain (.tup []) [[.pl 1000 0, .slt [Kd.i IntKind.u8] 1, .b]]))
theorem z26_e (n : Nat) (s0 : ByteArray) (s1 : ByteArray) (b2 : Bool) (j3 : Int) (s4 : ByteArray) (b5 : Bool) (r6 : Rows) (b7 : Bool) : z26_v n s0 s1 b2 j3 s4 b5 r6 b7 =
 obind (z76_v n s1 b2 j3 s4) fun y8 =>
 bif b7 then
 if (Nat.beq 1 1 && Nat.ble 3 (List.length [AV.dv (DV.val (Value.pointer none)), AV.sl b5 [Kd.i IntKind.u8] r6 (Right.tok 500004), aB b7]) && AV.areCells [aB true] && virLe [AV.dv (DV.val (Value.pointer none)), AV.sl b5 [Kd.i IntKind.u8] r6 (Right.tok 500004), aB true] [AV.dv (DV.val (Value.pointer none)), AV.sl b5 [Kd.i IntKind.u8] r6 (Right.tok 500004), aB b7] && !Nat.beq 2 1000000000) = true then
 if ByteArray.size s0 + ByteArray.size y8.fst.fst < 4611686018427387904 then
 obind (z1_v n (s0 ++ y8.fst.fst) b5 r6 true) fun y9 =>
 some ((), (((), ((y9.snd.fst.snd.fst.fst, y9.snd.fst.snd.fst.snd), (y9.snd.fst.snd.snd.fst, ()))), ()))
 else none
 else none
 else if (Nat.beq (List.length [AV.dv (DV.val (Value.bool (y8.fst.snd.fst != 0)))]) 1 && Nat.ble 3 (List.length [AV.dv (DV.val (Value.pointer none)), AV.sl b5 [Kd.i IntKind.u8] r6 (Right.tok 500004), aB b7]) && AV.areCells [AV.dv (DV.val (Value.bool (y8.fst.snd.fst != 0)))] && virLe [AV.dv (DV.val (Value.pointer none)), AV.sl b5 [Kd.i IntKind.u8] r6 (Right.tok 500004), AV.dv (DV.val (Value.bool (y8.fst.snd.fst != 0)))] [AV.dv (DV.val (Value.pointer none)), AV.sl b5 [Kd.i IntKind.u8] r6 (Right.tok 500004), aB b7] && !Nat.beq 2 1000000000) = true then
 if ByteArray.size s0 + ByteArray.size y8.fst.fst < 4611686018427387904 then
 obind (z1_v n (s0 ++ y8.fst.fst) b5 r6 (y8.fst.snd.fst != 0)) fun y10 =>
 some ((), (((), ((y10.snd.fst.snd.fst.fst, y10.snd.fst.snd.fst.snd), (y10.snd.fst.snd.snd.fst, ()))), ()))
 else none
 else none := by kernel_rfl
theorem z26_c (n : Nat) (s0 : ByteArray) (s1 : ByteArray) (b2 : Bool) (j3 : Int) (s4 : ByteArray) (b5 : Bool) (r6 : Rows) (b7 : Bool) (y : Unit × (Unit × (Bool × Rows) × Bool × Unit) × Unit) (h : z26_v n s0 s1 b2 j3 s4 b5 r6 b7 = some y) : Contract Tryz.prog 80 [AV.pl 1000 0, aS s0, AV.agg [aS s1, aB b2, aI j3, aS s4]] [[AV.dv (DV.val (Value.pointer none)), AV.sl b5 [Kd.i IntKind.u8] r6 (Right.tok 500004), aB b7]] (OSh.enc (OSh.plain (.tup []) [[.pl 1000 0, .slt [Kd.i IntKind.u8] 1, .b]]) y) :=
 ac (OSh.plain (.tup []) [[.pl 1000 0, .slt [Kd.i IntKind.u8] 1, .b]]) (z26_σok n) Tryz.func80 (by decide) h
def z12_lv : Live := []
def z12_σ (n : Nat) : Spec := (inst 132 [.pl 1000 0] [[.pl 1000 0, .slt [Kd.i IntKind.u8] 500002, .b]] (OSh.plain (.tup []) [[.pl 1000 0, .slt [Kd.i IntKind.u8] 1, .b]]) (fun x e => sB_copyCheck_v n e.1.2.1.1 e.1.2.1.2 e.1.2.2.1) Spec.none)
theorem z12_σok (n : Nat) : SpecOk Tryz.prog (z12_σ n) := (inst_ok (fun x e y h => sB_copyCheck_c n e.1.2.1.1 e.1.2.1.2 e.1.2.2.1 y h) (SpecOk.none _))
def z12_Φ (n : Nat) : Orc := with_ Tryz.prog (z12_σ n) [] n 0 hsL
def z12_v (n : Nat) (s0 : ByteArray) (b1 : Bool) (r2 : Rows) (b3 : Bool) : Option ((Int × Unit × Unit) × (Unit × (Bool × Rows) × Bool × Unit) × Unit) :=
 DM.denFn tm (z12_Φ n) z12_lv n Tryz.f81 false [AV.pl 1000 0, aS s0] [[AV.pl 1000 0, AV.sl b1 [Kd.i IntKind.u8] r2 (Right.tok 500003), aB b3]] (OSh.chk (OSh.plain (.tup [.i .i64, .nili]) [[.pl 1000 0, .slt [Kd.i IntKind.u8] 1, .b]]))
theorem z12_e (n : Nat) (s0 : ByteArray) (b1 : Bool) (r2 : Rows) (b3 : Bool) : z12_v n s0 b1 r2 b3 =
 obind (sB_copyCheck_v n b1 r2 b3) fun y4 =>
 if (List.length y4.snd.fst.snd.fst.snd + ByteArray.size s0) * 1 ≤ 140737488355328 then
 some (((↑(ByteArray.size s0) : Int), ((), ())), (((), ((y4.snd.fst.snd.fst.fst && ByteArray.size s0 == 0, appX y4.snd.fst.snd.fst.snd (byteRows s0)), (y4.snd.fst.snd.snd.fst, ()))), ()))
 else none := by kernel_rfl
theorem z12_c (n : Nat) (s0 : ByteArray) (b1 : Bool) (r2 : Rows) (b3 : Bool) (y : (Int × Unit × Unit) × (Unit × (Bool × Rows) × Bool × Unit) × Unit) (h : z12_v n s0 b1 r2 b3 = some y) : Contract Tryz.prog 81 [AV.pl 1000 0, aS s0] [[AV.pl 1000 0, AV.sl b1 [Kd.i IntKind.u8] r2 (Right.tok 500003), aB b3]] (OSh.enc (OSh.plain (.tup [.i .i64, .nili]) [[.pl 1000 0, .slt [Kd.i IntKind.u8] 1, .b]]) y) :=
 ac (OSh.plain (.tup [.i .i64, .nili]) [[.pl 1000 0, .slt [Kd.i IntKind.u8] 1, .b]]) (z12_σok n) Tryz.func81 (by decide) h
def z95_lv : Live := []
def z95_σ (n : Nat) : Spec := (inst 131 [.agg [.s, .b, .i .i64, .s]] [] (OSh.plain (.tup [.s, .i .i64]) []) (fun x e => z76_v n x.1.1 x.1.2.1 x.1.2.2.1 x.1.2.2.2.1) (inst 81 [.pl 1000 0, .s] [[.pl 1000 0, .slt [Kd.i IntKind.u8] 500003, .b]] (OSh.plain (.tup [.i .i64, .nili]) [[.pl 1000 0, .slt [Kd.i IntKind.u8] 1, .b]]) (fun x e => z12_v n x.2.1 e.1.2.1.1 e.1.2.1.2 e.1.2.2.1) Spec.none))
theorem z95_σok (n : Nat) : SpecOk Tryz.prog (z95_σ n) := (inst_ok (fun x e y h => z76_c n x.1.1 x.1.2.1 x.1.2.2.1 x.1.2.2.2.1 y h) (inst_ok (fun x e y h => z12_c n x.2.1 e.1.2.1.1 e.1.2.1.2 e.1.2.2.1 y h) (SpecOk.none _)))
def z95_Φ (n : Nat) : Orc := with_ Tryz.prog (z95_σ n) [] n 0 hsL
def z95_v (n : Nat) (s0 : ByteArray) (s1 : ByteArray) (b2 : Bool) (j3 : Int) (s4 : ByteArray) (b5 : Bool) (r6 : Rows) (b7 : Bool) : Option (Unit × (Unit × (Bool × Rows) × Bool × Unit) × Unit) :=
 DM.denFn tm (z95_Φ n) z95_lv n Tryz.f80 false [AV.pl 1000 0, aS s0, AV.agg [aS s1, aB b2, aI j3, aS s4]] [[AV.pl 1000 0, AV.sl b5 [Kd.i IntKind.u8] r6 (Right.tok 500004), aB b7]] (OSh.chk (OSh.plain (.tup []) [[.pl 1000 0, .slt [Kd.i IntKind.u8] 1, .b]]))
theorem z95_e (n : Nat) (s0 : ByteArray) (s1 : ByteArray) (b2 : Bool) (j3 : Int) (s4 : ByteArray) (b5 : Bool) (r6 : Rows) (b7 : Bool) : z95_v n s0 s1 b2 j3 s4 b5 r6 b7 =
 obind (z76_v n s1 b2 j3 s4) fun y8 =>
 bif b7 then
 if ByteArray.size s0 + ByteArray.size y8.fst.fst < 4611686018427387904 then
 obind (z12_v n (s0 ++ y8.fst.fst) b5 r6 true) fun y9 =>
 some ((), (((), ((y9.snd.fst.snd.fst.fst, y9.snd.fst.snd.fst.snd), (y9.snd.fst.snd.snd.fst, ()))), ()))
 else none
 else if ByteArray.size s0 + ByteArray.size y8.fst.fst < 4611686018427387904 then
 obind (z12_v n (s0 ++ y8.fst.fst) b5 r6 (y8.fst.snd.fst != 0)) fun y10 =>
 some ((), (((), ((y10.snd.fst.snd.fst.fst, y10.snd.fst.snd.fst.snd), (y10.snd.fst.snd.snd.fst, ()))), ()))
 else none := by kernel_rfl
theorem z95_c (n : Nat) (s0 : ByteArray) (s1 : ByteArray) (b2 : Bool) (j3 : Int) (s4 : ByteArray) (b5 : Bool) (r6 : Rows) (b7 : Bool) (y : Unit × (Unit × (Bool × Rows) × Bool × Unit) × Unit) (h : z95_v n s0 s1 b2 j3 s4 b5 r6 b7 = some y) : Contract Tryz.prog 80 [AV.pl 1000 0, aS s0, AV.agg [aS s1, aB b2, aI j3, aS s4]] [[AV.pl 1000 0, AV.sl b5 [Kd.i IntKind.u8] r6 (Right.tok 500004), aB b7]] (OSh.enc (OSh.plain (.tup []) [[.pl 1000 0, .slt [Kd.i IntKind.u8] 1, .b]]) y) :=
 ac (OSh.plain (.tup []) [[.pl 1000 0, .slt [Kd.i IntKind.u8] 1, .b]]) (z95_σok n) Tryz.func80 (by decide) h
def z97_lv : Live := [(3, [0, 31, 32, 33], [1000, 1001, 1002, 1003])]
def z97_σ (n : Nat) : Spec := (inst 81 [.pl 1000 0, .s] [[.pl 1000 0, .slt [Kd.i IntKind.u8] 500003, .b]] (OSh.plain (.tup [.i .i64, .nili]) [[.pl 1000 0, .slt [Kd.i IntKind.u8] 1, .b]]) (fun x e => z12_v n x.2.1 e.1.2.1.1 e.1.2.1.2 e.1.2.2.1) (inst 133 [.s] [] (OSh.plain (.b) []) (fun x e => z77_v n x.1) (inst 80 [.pl 1000 0, .s, .agg [.s, .b, .i .i64, .s]] [[.pl 1000 0, .slt [Kd.i IntKind.u8] 500004, .b]] (OSh.plain (.tup []) [[.pl 1000 0, .slt [Kd.i IntKind.u8] 1, .b]]) (fun x e => z95_v n x.2.1 x.2.2.1.1 x.2.2.1.2.1 x.2.2.1.2.2.1 x.2.2.1.2.2.2.1 e.1.2.1.1 e.1.2.1.2 e.1.2.2.1) Spec.none)))
theorem z97_σok (n : Nat) : SpecOk Tryz.prog (z97_σ n) := (inst_ok (fun x e y h => z12_c n x.2.1 e.1.2.1.1 e.1.2.1.2 e.1.2.2.1 y h) (inst_ok (fun x e y h => z77_c n x.1 y h) (inst_ok (fun x e y h => z95_c n x.2.1 x.2.2.1.1 x.2.2.1.2.1 x.2.2.1.2.2.1 x.2.2.1.2.2.2.1 e.1.2.1.1 e.1.2.1.2 e.1.2.2.1 y h) (SpecOk.none _))))
def z97_Φ (n : Nat) : Orc := with_ Tryz.prog (z97_σ n) [] n 0 hsL
def z97_v (n : Nat) (s0 : ByteArray) (b1 : Bool) (r2 : Rows) (b3 : Bool) (r4 : Rows) (b5 : Bool) : Option (Unit × (Unit × (Bool × Rows) × Bool × Unit) × Unit) :=
 DM.denFn tm (z97_Φ n) z97_lv n Tryz.f82 false [AV.pl 1000 0, aS s0, AV.sl b1 kdT r2 Right.no] [[AV.pl 1000 0, AV.sl b3 [Kd.i IntKind.u8] r4 (Right.tok 500004), aB b5]] (OSh.chk (OSh.plain (.tup []) [[.pl 1000 0, .slt [Kd.i IntKind.u8] 1, .b]]))
def z97_l3 (n : Nat) (s0 : ByteArray) (b1 : Bool) (r2 : Rows) (b3 : Bool) (r4 : Rows) (b5 : Bool) (i0 : Nat) (b10 : Bool) (r11 : List (List DV)) (b12 : Bool) (j15 : Int) : Option (Unit × (Unit × (Bool × Rows) × Bool × Unit) × Unit) :=
 DM.loopFn tm (z97_Φ n) z97_lv n Tryz.f82 false [[AV.pl 1000 0, AV.sl b3 [Kd.i IntKind.u8] r4 (Right.tok 500004), aB b5]] (OSh.chk (OSh.plain (.tup []) [[.pl 1000 0, .slt [Kd.i IntKind.u8] 1, .b]])) 3 [] i0 (St.mk ([AV.pl 1000 0, Jk, Jk, Jk, Jk, Jk, Jk, Jk, Jk, Jk, Jk, Jk, Jk, Jk, Jk, Jk, Jk, Jk, Jk, Jk, Jk, Jk, Jk, Jk, Jk, Jk, Jk, Jk, Jk, Jk, Jk, AV.sl b1 kdT r2 Right.no, AV.dv (DV.val (Value.int .i64 (↑(List.length r2) : Int))), aI j15] ++ jk 23) [(1000, [AV.pl 1000 0, AV.sl b10 [Kd.i IntKind.u8] r11 (Right.tok 84001), aB b12])])
theorem z97_s3 (n : Nat) (s0 : ByteArray) (b1 : Bool) (r2 : Rows) (b3 : Bool) (r4 : Rows) (b5 : Bool) (i0 : Nat) (b10 : Bool) (r11 : List (List DV)) (b12 : Bool) (j15 : Int) : z97_l3 n s0 b1 r2 b3 r4 b5 (i0 + 1) b10 r11 b12 j15 =
 bif decide (j15 < (↑(List.length r2) : Int)) then
 if 0 ≤ j15 then
 if j15 < (↑(List.length r2) : Int) then
 bif decide (j15 > 0) then
 obind (z12_v n (ByteArray.mk #[44, 32]) b10 r11 b12) fun y16 =>
 bif !y16.snd.fst.snd.snd.fst then
 obind (z95_v n (ByteArray.mk #[]) (Row.S (List.getD r2 (Int.toNat j15) []) 0) (Row.B (List.getD r2 (Int.toNat j15) []) 1) (Row.I (List.getD r2 (Int.toNat j15) []) 2) (Row.S (List.getD r2 (Int.toNat j15) []) 3) y16.snd.fst.snd.fst.fst y16.snd.fst.snd.fst.snd y16.snd.fst.snd.snd.fst) fun y17 =>
 z97_l3 n s0 b1 r2 b3 r4 b5 i0 y17.snd.fst.snd.fst.fst y17.snd.fst.snd.fst.snd y17.snd.fst.snd.snd.fst (IntKind.wrap IntKind.i64 (j15 + 1))
 else z97_l3 n s0 b1 r2 b3 r4 b5 i0 y16.snd.fst.snd.fst.fst y16.snd.fst.snd.fst.snd y16.snd.fst.snd.snd.fst (IntKind.wrap IntKind.i64 (j15 + 1))
 else bif !b12 then
 obind (z95_v n (ByteArray.mk #[]) (Row.S (List.getD r2 (Int.toNat j15) []) 0) (Row.B (List.getD r2 (Int.toNat j15) []) 1) (Row.I (List.getD r2 (Int.toNat j15) []) 2) (Row.S (List.getD r2 (Int.toNat j15) []) 3) b10 r11 b12) fun y18 =>
 z97_l3 n s0 b1 r2 b3 r4 b5 i0 y18.snd.fst.snd.fst.fst y18.snd.fst.snd.fst.snd y18.snd.fst.snd.snd.fst (IntKind.wrap IntKind.i64 (j15 + 1))
 else z97_l3 n s0 b1 r2 b3 r4 b5 i0 b10 r11 b12 (IntKind.wrap IntKind.i64 (j15 + 1))
 else none
 else none
 else obind (z12_v n (ByteArray.mk #[41]) b10 r11 b12) fun y19 =>
 some ((), (((), ((y19.snd.fst.snd.fst.fst, y19.snd.fst.snd.fst.snd), (y19.snd.fst.snd.snd.fst, ()))), ())) := by kernel_rfl
theorem z97_e (n : Nat) (s0 : ByteArray) (b1 : Bool) (r2 : Rows) (b3 : Bool) (r4 : Rows) (b5 : Bool) : z97_v n s0 b1 r2 b3 r4 b5 =
 bif b5 then
 if ByteArray.size s0 + 1 < 4611686018427387904 then
 obind (z12_v n (s0 ++ ByteArray.mk #[40]) b3 r4 true) fun y6 =>
 z97_l3 n s0 b1 r2 b3 r4 b5 n y6.snd.fst.snd.fst.fst y6.snd.fst.snd.fst.snd y6.snd.fst.snd.snd.fst 0
 else none
 else obind (z77_v n s0) fun y7 =>
 bif !y7.fst then
 if ByteArray.size s0 + 1 < 4611686018427387904 then
 obind (z12_v n (s0 ++ ByteArray.mk #[40]) b3 r4 true) fun y8 =>
 z97_l3 n s0 b1 r2 b3 r4 b5 n y8.snd.fst.snd.fst.fst y8.snd.fst.snd.fst.snd y8.snd.fst.snd.snd.fst 0
 else none
 else if ByteArray.size s0 + 1 < 4611686018427387904 then
 obind (z12_v n (s0 ++ ByteArray.mk #[40]) b3 r4 (decide ((↑(List.length r2) : Int) > 4))) fun y9 =>
 z97_l3 n s0 b1 r2 b3 r4 b5 n y9.snd.fst.snd.fst.fst y9.snd.fst.snd.fst.snd y9.snd.fst.snd.snd.fst 0
 else none := by kernel_rfl
theorem z97_c (n : Nat) (s0 : ByteArray) (b1 : Bool) (r2 : Rows) (b3 : Bool) (r4 : Rows) (b5 : Bool) (y : Unit × (Unit × (Bool × Rows) × Bool × Unit) × Unit) (h : z97_v n s0 b1 r2 b3 r4 b5 = some y) : Contract Tryz.prog 82 [AV.pl 1000 0, aS s0, AV.sl b1 kdT r2 Right.no] [[AV.pl 1000 0, AV.sl b3 [Kd.i IntKind.u8] r4 (Right.tok 500004), aB b5]] (OSh.enc (OSh.plain (.tup []) [[.pl 1000 0, .slt [Kd.i IntKind.u8] 1, .b]]) y) :=
 ac (OSh.plain (.tup []) [[.pl 1000 0, .slt [Kd.i IntKind.u8] 1, .b]]) (z97_σok n) Tryz.func82 (by decide) h
def z87_lv : Live := []
def z87_σ (n : Nat) : Spec := (inst 80 [.pl 1000 0, .s, .agg [.s, .b, .i .i64, .s]] [[.pl 1000 0, .slt [Kd.i IntKind.u8] 500004, .b]] (OSh.plain (.tup []) [[.pl 1000 0, .slt [Kd.i IntKind.u8] 1, .b]]) (fun x e => z95_v n x.2.1 x.2.2.1.1 x.2.2.1.2.1 x.2.2.1.2.2.1 x.2.2.1.2.2.2.1 e.1.2.1.1 e.1.2.1.2 e.1.2.2.1) (inst 81 [.pl 1000 0, .s] [[.pl 1000 0, .slt [Kd.i IntKind.u8] 500003, .b]] (OSh.plain (.tup [.i .i64, .nili]) [[.pl 1000 0, .slt [Kd.i IntKind.u8] 1, .b]]) (fun x e => z12_v n x.2.1 e.1.2.1.1 e.1.2.1.2 e.1.2.2.1) Spec.none))
theorem z87_σok (n : Nat) : SpecOk Tryz.prog (z87_σ n) := (inst_ok (fun x e y h => z95_c n x.2.1 x.2.2.1.1 x.2.2.1.2.1 x.2.2.1.2.2.1 x.2.2.1.2.2.2.1 e.1.2.1.1 e.1.2.1.2 e.1.2.2.1 y h) (inst_ok (fun x e y h => z12_c n x.2.1 e.1.2.1.1 e.1.2.1.2 e.1.2.2.1 y h) (SpecOk.none _)))
def z87_Φ (n : Nat) : Orc := with_ Tryz.prog (z87_σ n) [] n 0 hsL
def z87_v (n : Nat) (s0 : ByteArray) (s1 : ByteArray) (b2 : Bool) (j3 : Int) (s4 : ByteArray) (s5 : ByteArray) (b6 : Bool) (r7 : Rows) (b8 : Bool) : Option (Unit × (Unit × (Bool × Rows) × Bool × Unit) × Unit) :=
 DM.denFn tm (z87_Φ n) z87_lv n Tryz.f83 false [AV.pl 1000 0, aS s0, AV.agg [aS s1, aB b2, aI j3, aS s4], aS s5] [[AV.pl 1000 0, AV.sl b6 [Kd.i IntKind.u8] r7 (Right.tok 500005), aB b8]] (OSh.chk (OSh.plain (.tup []) [[.pl 1000 0, .slt [Kd.i IntKind.u8] 1, .b]]))
theorem z87_e (n : Nat) (s0 : ByteArray) (s1 : ByteArray) (b2 : Bool) (j3 : Int) (s4 : ByteArray) (s5 : ByteArray) (b6 : Bool) (r7 : Rows) (b8 : Bool) : z87_v n s0 s1 b2 j3 s4 s5 b6 r7 b8 =
 bif !(s1 == ByteArray.mk #[] && (b2 == false && (j3 == 0 && (s4 == ByteArray.mk #[] && true)))) then
 obind (z95_v n s0 s1 b2 j3 s4 b6 r7 b8) fun y9 =>
 obind (z12_v n s5 y9.snd.fst.snd.fst.fst y9.snd.fst.snd.fst.snd y9.snd.fst.snd.snd.fst) fun y10 =>
 some ((), (((), ((y10.snd.fst.snd.fst.fst, y10.snd.fst.snd.fst.snd), (y10.snd.fst.snd.snd.fst, ()))), ()))
 else some ((), (((), ((b6, r7), (b8, ()))), ())) := by kernel_rfl
theorem z87_c (n : Nat) (s0 : ByteArray) (s1 : ByteArray) (b2 : Bool) (j3 : Int) (s4 : ByteArray) (s5 : ByteArray) (b6 : Bool) (r7 : Rows) (b8 : Bool) (y : Unit × (Unit × (Bool × Rows) × Bool × Unit) × Unit) (h : z87_v n s0 s1 b2 j3 s4 s5 b6 r7 b8 = some y) : Contract Tryz.prog 83 [AV.pl 1000 0, aS s0, AV.agg [aS s1, aB b2, aI j3, aS s4], aS s5] [[AV.pl 1000 0, AV.sl b6 [Kd.i IntKind.u8] r7 (Right.tok 500005), aB b8]] (OSh.enc (OSh.plain (.tup []) [[.pl 1000 0, .slt [Kd.i IntKind.u8] 1, .b]]) y) :=
 ac (OSh.plain (.tup []) [[.pl 1000 0, .slt [Kd.i IntKind.u8] 1, .b]]) (z87_σok n) Tryz.func83 (by decide) h
def z82_lv : Live := [(10, [4, 48, 49, 50], [24, 1000, 1001, 1002, 1003])]
def z82_σ (n : Nat) : Spec := (inst 80 [.pl 1000 0, .s, .agg [.s, .b, .i .i64, .s]] [[.nilp, .slt [Kd.i IntKind.u8] 500004, .b]] (OSh.plain (.tup []) [[.pl 1000 0, .slt [Kd.i IntKind.u8] 1, .b]]) (fun x e => z26_v n x.2.1 x.2.2.1.1 x.2.2.1.2.1 x.2.2.1.2.2.1 x.2.2.1.2.2.2.1 e.1.2.1.1 e.1.2.1.2 e.1.2.2.1) (inst 81 [.pl 1000 0, .s] [[.pl 1000 0, .slt [Kd.i IntKind.u8] 500003, .b]] (OSh.plain (.tup [.i .i64, .nili]) [[.pl 1000 0, .slt [Kd.i IntKind.u8] 1, .b]]) (fun x e => z12_v n x.2.1 e.1.2.1.1 e.1.2.1.2 e.1.2.2.1) (inst 82 [.pl 1000 0, .s, .sl kdT] [[.pl 1000 0, .slt [Kd.i IntKind.u8] 500004, .b]] (OSh.plain (.tup []) [[.pl 1000 0, .slt [Kd.i IntKind.u8] 1, .b]]) (fun x e => z97_v n x.2.1 x.2.2.1.1 x.2.2.1.2 e.1.2.1.1 e.1.2.1.2 e.1.2.2.1) (inst 83 [.pl 1000 0, .s, .agg [.s, .b, .i .i64, .s], .s] [[.pl 1000 0, .slt [Kd.i IntKind.u8] 500005, .b]] (OSh.plain (.tup []) [[.pl 1000 0, .slt [Kd.i IntKind.u8] 1, .b]]) (fun x e => z87_v n x.2.1 x.2.2.1.1 x.2.2.1.2.1 x.2.2.1.2.2.1 x.2.2.1.2.2.2.1 x.2.2.2.1 e.1.2.1.1 e.1.2.1.2 e.1.2.2.1) (inst 84 [.pl 1000 0] [[.pl 1000 0, .slt [Kd.i IntKind.u8] 500002, .b]] (OSh.plain (.s) [[.pl 1000 0, .sl [Kd.i IntKind.u8], .b]]) (fun x e => sB_String_v n e.1.2.1.1 e.1.2.1.2 e.1.2.2.1) Spec.none)))))
theorem z82_σok (n : Nat) : SpecOk Tryz.prog (z82_σ n) := (inst_ok (fun x e y h => z26_c n x.2.1 x.2.2.1.1 x.2.2.1.2.1 x.2.2.1.2.2.1 x.2.2.1.2.2.2.1 e.1.2.1.1 e.1.2.1.2 e.1.2.2.1 y h) (inst_ok (fun x e y h => z12_c n x.2.1 e.1.2.1.1 e.1.2.1.2 e.1.2.2.1 y h) (inst_ok (fun x e y h => z97_c n x.2.1 x.2.2.1.1 x.2.2.1.2 e.1.2.1.1 e.1.2.1.2 e.1.2.2.1 y h) (inst_ok (fun x e y h => z87_c n x.2.1 x.2.2.1.1 x.2.2.1.2.1 x.2.2.1.2.2.1 x.2.2.1.2.2.2.1 x.2.2.2.1 e.1.2.1.1 e.1.2.1.2 e.1.2.2.1 y h) (inst_ok (fun x e y h => sB_String_c n e.1.2.1.1 e.1.2.1.2 e.1.2.2.1 y h) (SpecOk.none _))))))
def z82_Φ (n : Nat) : Orc := with_ Tryz.prog (z82_σ n) [] n 0 hsL
def z82_v (n : Nat) (s0 : ByteArray) (b1 : Bool) (j2 : Int) (s3 : ByteArray) (s4 : ByteArray) (b5 : Bool) (r6 : Rows) (s7 : ByteArray) (b8 : Bool) (j9 : Int) (s10 : ByteArray) (b11 : Bool) (r12 : Rows) : Option ((ByteArray × Int × Unit) × Unit) :=
 DM.denFn tm (z82_Φ n) z82_lv n Tryz.f37 false [AV.agg [aS s0, aB b1, aI j2, aS s3, aS s4, AV.sl b5 kdT r6 Right.no, aS s7, aB b8, aI j9, aS s10, AV.sl b11 kdL r12 Right.no]] [] (OSh.chk (OSh.plain (.tup [.s, .i .i64]) []))
def z82_l10 (n : Nat) (s0 : ByteArray) (b1 : Bool) (j2 : Int) (s3 : ByteArray) (s4 : ByteArray) (b5 : Bool) (r6 : Rows) (s7 : ByteArray) (b8 : Bool) (j9 : Int) (s10 : ByteArray) (b11 : Bool) (r12 : Rows) (i0 : Nat) (b18 : Bool) (r19 : List (List DV)) (b20 : Bool) (j25 : Int) : Option ((ByteArray × Int × Unit) × Unit) :=
 DM.loopFn tm (z82_Φ n) z82_lv n Tryz.f37 false [] (OSh.chk (OSh.plain (.tup [.s, .i .i64]) [])) 10 [] i0 (St.mk ([Jk, Jk, Jk, Jk, AV.pl 24 0, Jk, Jk, Jk, Jk, Jk, Jk, Jk, Jk, Jk, Jk, Jk, Jk, Jk, Jk, Jk, Jk, Jk, Jk, Jk, Jk, Jk, Jk, Jk, Jk, Jk, Jk, Jk, Jk, Jk, Jk, Jk, Jk, Jk, Jk, Jk, Jk, Jk, Jk, Jk, Jk, Jk, Jk, Jk, AV.sl b11 kdL r12 Right.no, AV.dv (DV.val (Value.int .i64 (↑(List.length r12) : Int))), aI j25] ++ jk 44) [(24, [AV.pl 24 0, AV.sl b18 [Kd.i IntKind.u8] r19 (Right.tok 21537), aB b20])])
theorem z82_s10 (n : Nat) (s0 : ByteArray) (b1 : Bool) (j2 : Int) (s3 : ByteArray) (s4 : ByteArray) (b5 : Bool) (r6 : Rows) (s7 : ByteArray) (b8 : Bool) (j9 : Int) (s10 : ByteArray) (b11 : Bool) (r12 : Rows) (i0 : Nat) (b18 : Bool) (r19 : List (List DV)) (b20 : Bool) (j25 : Int) : z82_l10 n s0 b1 j2 s3 s4 b5 r6 s7 b8 j9 s10 b11 r12 (i0 + 1) b18 r19 b20 j25 =
 bif decide (j25 < (↑(List.length r12) : Int)) then
 if 0 ≤ j25 then
 if j25 < (↑(List.length r12) : Int) then
 bif decide (j25 > 0) then
 obind (z12_v n (ByteArray.mk #[44, 32]) b18 r19 b20) fun y26 =>
 bif y26.snd.fst.snd.snd.fst then
 some ((ByteArray.mk #[], (100, ())), ())
 else bif decide ((↑(List.length (Row.R (List.getD r12 (Int.toNat j25) []) 5)) : Int) > 4) then
 some ((ByteArray.mk #[], (100, ())), ())
 else obind (z87_v n (ByteArray.mk #[]) (Row.S (List.getD r12 (Int.toNat j25) []) 0) (Row.B (List.getD r12 (Int.toNat j25) []) 1) (Row.I (List.getD r12 (Int.toNat j25) []) 2) (Row.S (List.getD r12 (Int.toNat j25) []) 3) (ByteArray.mk #[32, 115, 97, 121, 115, 32]) y26.snd.fst.snd.fst.fst y26.snd.fst.snd.fst.snd y26.snd.fst.snd.snd.fst) fun y27 =>
 obind (z97_v n (Row.S (List.getD r12 (Int.toNat j25) []) 4) (Row.N (List.getD r12 (Int.toNat j25) []) 5) (Row.R (List.getD r12 (Int.toNat j25) []) 5) y27.snd.fst.snd.fst.fst y27.snd.fst.snd.fst.snd y27.snd.fst.snd.snd.fst) fun y28 =>
 obind (z87_v n (ByteArray.mk #[32, 97, 116, 32]) (Row.S (List.getD r12 (Int.toNat j25) []) 6) (Row.B (List.getD r12 (Int.toNat j25) []) 7) (Row.I (List.getD r12 (Int.toNat j25) []) 8) (Row.S (List.getD r12 (Int.toNat j25) []) 9) (ByteArray.mk #[]) y28.snd.fst.snd.fst.fst y28.snd.fst.snd.fst.snd y28.snd.fst.snd.snd.fst) fun y29 =>
 z82_l10 n s0 b1 j2 s3 s4 b5 r6 s7 b8 j9 s10 b11 r12 i0 y29.snd.fst.snd.fst.fst y29.snd.fst.snd.fst.snd y29.snd.fst.snd.snd.fst (IntKind.wrap IntKind.i64 (j25 + 1))
 else bif b20 then
 some ((ByteArray.mk #[], (100, ())), ())
 else bif decide ((↑(List.length (Row.R (List.getD r12 (Int.toNat j25) []) 5)) : Int) > 4) then
 some ((ByteArray.mk #[], (100, ())), ())
 else obind (z87_v n (ByteArray.mk #[]) (Row.S (List.getD r12 (Int.toNat j25) []) 0) (Row.B (List.getD r12 (Int.toNat j25) []) 1) (Row.I (List.getD r12 (Int.toNat j25) []) 2) (Row.S (List.getD r12 (Int.toNat j25) []) 3) (ByteArray.mk #[32, 115, 97, 121, 115, 32]) b18 r19 b20) fun y30 =>
 obind (z97_v n (Row.S (List.getD r12 (Int.toNat j25) []) 4) (Row.N (List.getD r12 (Int.toNat j25) []) 5) (Row.R (List.getD r12 (Int.toNat j25) []) 5) y30.snd.fst.snd.fst.fst y30.snd.fst.snd.fst.snd y30.snd.fst.snd.snd.fst) fun y31 =>
 obind (z87_v n (ByteArray.mk #[32, 97, 116, 32]) (Row.S (List.getD r12 (Int.toNat j25) []) 6) (Row.B (List.getD r12 (Int.toNat j25) []) 7) (Row.I (List.getD r12 (Int.toNat j25) []) 8) (Row.S (List.getD r12 (Int.toNat j25) []) 9) (ByteArray.mk #[]) y31.snd.fst.snd.fst.fst y31.snd.fst.snd.fst.snd y31.snd.fst.snd.snd.fst) fun y32 =>
 z82_l10 n s0 b1 j2 s3 s4 b5 r6 s7 b8 j9 s10 b11 r12 i0 y32.snd.fst.snd.fst.fst y32.snd.fst.snd.fst.snd y32.snd.fst.snd.snd.fst (IntKind.wrap IntKind.i64 (j25 + 1))
 else none
 else none
 else bif b20 then
 some ((ByteArray.mk #[], (100, ())), ())
 else obind (sB_String_v n b18 r19 b20) fun y33 =>
 if ByteArray.size y33.fst + 1 < 4611686018427387904 then
 some ((y33.fst ++ ByteArray.mk #[46], (0, ())), ())
 else none := by kernel_rfl
theorem z82_e (n : Nat) (s0 : ByteArray) (b1 : Bool) (j2 : Int) (s3 : ByteArray) (s4 : ByteArray) (b5 : Bool) (r6 : Rows) (s7 : ByteArray) (b8 : Bool) (j9 : Int) (s10 : ByteArray) (b11 : Bool) (r12 : Rows) : z82_v n s0 b1 j2 s3 s4 b5 r6 s7 b8 j9 s10 b11 r12 =
 bif decide ((↑(List.length r12) : Int) < 1) then
 some ((ByteArray.mk #[], (100, ())), ())
 else bif decide ((↑(List.length r12) : Int) > 4) then
 some ((ByteArray.mk #[], (100, ())), ())
 else bif decide ((↑(List.length r6) : Int) > 4) then
 some ((ByteArray.mk #[], (100, ())), ())
 else obind (z26_v n (ByteArray.mk #[]) s0 b1 j2 s3 true [] false) fun y13 =>
 obind (z12_v n (ByteArray.mk #[58, 32]) y13.snd.fst.snd.fst.fst y13.snd.fst.snd.fst.snd y13.snd.fst.snd.snd.fst) fun y14 =>
 obind (z97_v n s4 b5 r6 y14.snd.fst.snd.fst.fst y14.snd.fst.snd.fst.snd y14.snd.fst.snd.snd.fst) fun y15 =>
 obind (z87_v n (ByteArray.mk #[32, 116, 111, 32]) s7 b8 j9 s10 (ByteArray.mk #[]) y15.snd.fst.snd.fst.fst y15.snd.fst.snd.fst.snd y15.snd.fst.snd.snd.fst) fun y16 =>
 obind (z12_v n (ByteArray.mk #[32, 58, 45, 32]) y16.snd.fst.snd.fst.fst y16.snd.fst.snd.fst.snd y16.snd.fst.snd.snd.fst) fun y17 =>
 z82_l10 n s0 b1 j2 s3 s4 b5 r6 s7 b8 j9 s10 b11 r12 n y17.snd.fst.snd.fst.fst y17.snd.fst.snd.fst.snd y17.snd.fst.snd.snd.fst 0 := by kernel_rfl
theorem z82_c (n : Nat) (s0 : ByteArray) (b1 : Bool) (j2 : Int) (s3 : ByteArray) (s4 : ByteArray) (b5 : Bool) (r6 : Rows) (s7 : ByteArray) (b8 : Bool) (j9 : Int) (s10 : ByteArray) (b11 : Bool) (r12 : Rows) (y : (ByteArray × Int × Unit) × Unit) (h : z82_v n s0 b1 j2 s3 s4 b5 r6 s7 b8 j9 s10 b11 r12 = some y) : Contract Tryz.prog 37 [AV.agg [aS s0, aB b1, aI j2, aS s3, aS s4, AV.sl b5 kdT r6 Right.no, aS s7, aB b8, aI j9, aS s10, AV.sl b11 kdL r12 Right.no]] [] (OSh.enc (OSh.plain (.tup [.s, .i .i64]) []) y) :=
 ac (OSh.plain (.tup [.s, .i .i64]) []) (z82_σok n) Tryz.func37 (by decide) h
def z23_lv : Live := []
def z23_σ (n : Nat) : Spec := Spec.none
theorem z23_σok (n : Nat) : SpecOk Tryz.prog (z23_σ n) := (SpecOk.none _)
def z23_Φ (n : Nat) : Orc := with_ Tryz.prog (z23_σ n) [] n 0 hsL
def z23_v (n : Nat) (s0 : ByteArray) (b1 : Bool) (j2 : Int) (s3 : ByteArray) : Option (Bool × Unit) :=
 DM.denFn tm (z23_Φ n) z23_lv n Tryz.f85 false [AV.agg [aS s0, aB b1, aI j2, aS s3]] [] (OSh.chk (OSh.plain (.b) []))
theorem z23_e (n : Nat) (s0 : ByteArray) (b1 : Bool) (j2 : Int) (s3 : ByteArray) : z23_v n s0 b1 j2 s3 =
 bif s0 == ByteArray.mk #[] then
 some (b1, ())
 else some (false, ()) := by kernel_rfl
theorem z23_c (n : Nat) (s0 : ByteArray) (b1 : Bool) (j2 : Int) (s3 : ByteArray) (y : Bool × Unit) (h : z23_v n s0 b1 j2 s3 = some y) : Contract Tryz.prog 85 [AV.agg [aS s0, aB b1, aI j2, aS s3]] [] (OSh.enc (OSh.plain (.b) []) y) :=
 ac (OSh.plain (.b) []) (z23_σok n) Tryz.func85 (by decide) h
def z15_lv : Live := []
def z15_σ (n : Nat) : Spec := (inst 85 [.agg [.s, .b, .i .i64, .s]] [] (OSh.plain (.b) []) (fun x e => z23_v n x.1.1 x.1.2.1 x.1.2.2.1 x.1.2.2.2.1) Spec.none)
theorem z15_σok (n : Nat) : SpecOk Tryz.prog (z15_σ n) := (inst_ok (fun x e y h => z23_c n x.1.1 x.1.2.1 x.1.2.2.1 x.1.2.2.2.1 y h) (SpecOk.none _))
def z15_Φ (n : Nat) : Orc := with_ Tryz.prog (z15_σ n) [] n 0 hsL
def z15_v (n : Nat) (s0 : ByteArray) (b1 : Bool) (j2 : Int) (s3 : ByteArray) (s4 : ByteArray) (b5 : Bool) (r6 : Rows) (s7 : ByteArray) (b8 : Bool) (j9 : Int) (s10 : ByteArray) : Option (Bool × Unit) :=
 DM.denFn tm (z15_Φ n) z15_lv n Tryz.f87 false [AV.agg [aS s0, aB b1, aI j2, aS s3, aS s4, AV.sl b5 kdT r6 Right.no, aS s7, aB b8, aI j9, aS s10]] [] (OSh.chk (OSh.plain (.b) []))
theorem z15_e (n : Nat) (s0 : ByteArray) (b1 : Bool) (j2 : Int) (s3 : ByteArray) (s4 : ByteArray) (b5 : Bool) (r6 : Rows) (s7 : ByteArray) (b8 : Bool) (j9 : Int) (s10 : ByteArray) : z15_v n s0 b1 j2 s3 s4 b5 r6 s7 b8 j9 s10 =
 obind (z23_v n s0 b1 j2 s3) fun y11 =>
 bif y11.fst then
 some (true, ())
 else obind (z23_v n s7 b8 j9 s10) fun y12 =>
 some (y12.fst, ()) := by kernel_rfl
theorem z15_c (n : Nat) (s0 : ByteArray) (b1 : Bool) (j2 : Int) (s3 : ByteArray) (s4 : ByteArray) (b5 : Bool) (r6 : Rows) (s7 : ByteArray) (b8 : Bool) (j9 : Int) (s10 : ByteArray) (y : Bool × Unit) (h : z15_v n s0 b1 j2 s3 s4 b5 r6 s7 b8 j9 s10 = some y) : Contract Tryz.prog 87 [AV.agg [aS s0, aB b1, aI j2, aS s3, aS s4, AV.sl b5 kdT r6 Right.no, aS s7, aB b8, aI j9, aS s10]] [] (OSh.enc (OSh.plain (.b) []) y) :=
 ac (OSh.plain (.b) []) (z15_σok n) Tryz.func87 (by decide) h
def z6_lv : Live := [(2, [0, 1, 7, 8], [1000, 1001, 1002, 1003])]
def z6_σ (n : Nat) : Spec := (inst 87 [.agg [.s, .b, .i .i64, .s, .s, .sl kdT, .s, .b, .i .i64, .s]] [] (OSh.plain (.b) []) (fun x e => z15_v n x.1.1 x.1.2.1 x.1.2.2.1 x.1.2.2.2.1 x.1.2.2.2.2.1 x.1.2.2.2.2.2.1.1 x.1.2.2.2.2.2.1.2 x.1.2.2.2.2.2.2.1 x.1.2.2.2.2.2.2.2.1 x.1.2.2.2.2.2.2.2.2.1 x.1.2.2.2.2.2.2.2.2.2.1) Spec.none)
theorem z6_σok (n : Nat) : SpecOk Tryz.prog (z6_σ n) := (inst_ok (fun x e y h => z15_c n x.1.1 x.1.2.1 x.1.2.2.1 x.1.2.2.2.1 x.1.2.2.2.2.1 x.1.2.2.2.2.2.1.1 x.1.2.2.2.2.2.1.2 x.1.2.2.2.2.2.2.1 x.1.2.2.2.2.2.2.2.1 x.1.2.2.2.2.2.2.2.2.1 x.1.2.2.2.2.2.2.2.2.2.1 y h) (SpecOk.none _))
def z6_Φ (n : Nat) : Orc := with_ Tryz.prog (z6_σ n) [] n 0 hsL
def z6_v (n : Nat) (b0 : Bool) (r1 : Rows) : Option (Int × Unit) :=
 DM.denFn tm (z6_Φ n) z6_lv n Tryz.f86 false [AV.sl b0 kdL r1 Right.no, AV.fn 87 []] [] (OSh.chk (OSh.plain (.i .i64) []))
def z6_l2 (n : Nat) (b0 : Bool) (r1 : Rows) (i0 : Nat) (j3 : Int) : Option (Int × Unit) :=
 DM.loopFn tm (z6_Φ n) z6_lv n Tryz.f86 false [] (OSh.chk (OSh.plain (.i .i64) [])) 2 [] i0 (St.mk ([AV.sl b0 kdL r1 Right.no, AV.fn 87 [], Jk, Jk, Jk, Jk, Jk, AV.dv (DV.val (Value.int .i64 (↑(List.length r1) : Int))), aI j3] ++ jk 10) [])
theorem z6_s2 (n : Nat) (b0 : Bool) (r1 : Rows) (i0 : Nat) (j3 : Int) : z6_l2 n b0 r1 (i0 + 1) j3 =
 bif decide (j3 < (↑(List.length r1) : Int)) then
 if 0 ≤ j3 then
 if j3 < (↑(List.length r1) : Int) then
 obind (z15_v n (Row.S (List.getD r1 (Int.toNat j3) []) 0) (Row.B (List.getD r1 (Int.toNat j3) []) 1) (Row.I (List.getD r1 (Int.toNat j3) []) 2) (Row.S (List.getD r1 (Int.toNat j3) []) 3) (Row.S (List.getD r1 (Int.toNat j3) []) 4) (Row.N (List.getD r1 (Int.toNat j3) []) 5) (Row.R (List.getD r1 (Int.toNat j3) []) 5) (Row.S (List.getD r1 (Int.toNat j3) []) 6) (Row.B (List.getD r1 (Int.toNat j3) []) 7) (Row.I (List.getD r1 (Int.toNat j3) []) 8) (Row.S (List.getD r1 (Int.toNat j3) []) 9)) fun y4 =>
 bif y4.fst then
 some (j3, ())
 else z6_l2 n b0 r1 i0 (IntKind.wrap IntKind.i64 (j3 + 1))
 else none
 else none
 else some (-1, ()) := by kernel_rfl
theorem z6_e (n : Nat) (b0 : Bool) (r1 : Rows) : z6_v n b0 r1 =
 z6_l2 n b0 r1 n 0 := by kernel_rfl
theorem z6_c (n : Nat) (b0 : Bool) (r1 : Rows) (y : Int × Unit) (h : z6_v n b0 r1 = some y) : Contract Tryz.prog 86 [AV.sl b0 kdL r1 Right.no, AV.fn 87 []] [] (OSh.enc (OSh.plain (.i .i64) []) y) :=
 ac (OSh.plain (.i .i64) []) (z6_σok n) Tryz.func86 (by decide) h
def z39_lv : Live := []
def z39_σ (n : Nat) : Spec := (inst 85 [.agg [.s, .b, .i .i64, .s]] [] (OSh.plain (.b) []) (fun x e => z23_v n x.1.1 x.1.2.1 x.1.2.2.1 x.1.2.2.2.1) (inst 86 [.sl kdL, .fn 87 []] [] (OSh.plain (.i .i64) []) (fun x e => z6_v n x.1.1 x.1.2) Spec.none))
theorem z39_σok (n : Nat) : SpecOk Tryz.prog (z39_σ n) := (inst_ok (fun x e y h => z23_c n x.1.1 x.1.2.1 x.1.2.2.1 x.1.2.2.2.1 y h) (inst_ok (fun x e y h => z6_c n x.1.1 x.1.2 y h) (SpecOk.none _)))
def z39_Φ (n : Nat) : Orc := with_ Tryz.prog (z39_σ n) [] n 0 hsL
def z39_v (n : Nat) (s0 : ByteArray) (b1 : Bool) (j2 : Int) (s3 : ByteArray) (s4 : ByteArray) (b5 : Bool) (r6 : Rows) (s7 : ByteArray) (b8 : Bool) (j9 : Int) (s10 : ByteArray) (b11 : Bool) (r12 : Rows) : Option (Int × Unit) :=
 DM.denFn tm (z39_Φ n) z39_lv n Tryz.f38 false [AV.agg [aS s0, aB b1, aI j2, aS s3, aS s4, AV.sl b5 kdT r6 Right.no, aS s7, aB b8, aI j9, aS s10, AV.sl b11 kdL r12 Right.no]] [] (OSh.chk (OSh.plain (.i .i64) []))
theorem z39_e (n : Nat) (s0 : ByteArray) (b1 : Bool) (j2 : Int) (s3 : ByteArray) (s4 : ByteArray) (b5 : Bool) (r6 : Rows) (s7 : ByteArray) (b8 : Bool) (j9 : Int) (s10 : ByteArray) (b11 : Bool) (r12 : Rows) : z39_v n s0 b1 j2 s3 s4 b5 r6 s7 b8 j9 s10 b11 r12 =
 obind (z23_v n s0 b1 j2 s3) fun y13 =>
 bif y13.fst then
 some (-1, ())
 else obind (z23_v n s7 b8 j9 s10) fun y14 =>
 bif y14.fst then
 some (-1, ())
 else if (1 + List.length r12) * 136 ≤ 140737488355328 then
 bif List.isEmpty [[DV.val (Value.string (ByteArray.mk #[])), DV.val (Value.bool false), DV.val (Value.int .i64 0), DV.val (Value.string (ByteArray.mk #[])), DV.val (Value.string (ByteArray.mk #[])), DV.sl true kdT [], DV.val (Value.string (ByteArray.mk #[])), DV.val (Value.bool false), DV.val (Value.int .i64 0), DV.val (Value.string (ByteArray.mk #[]))]] || !List.isEmpty r12 then
 obind (z6_v n (false && List.isEmpty r12) (appX [[DV.val (Value.string (ByteArray.mk #[])), DV.val (Value.bool false), DV.val (Value.int .i64 0), DV.val (Value.string (ByteArray.mk #[])), DV.val (Value.string (ByteArray.mk #[])), DV.sl true kdT [], DV.val (Value.string (ByteArray.mk #[])), DV.val (Value.bool false), DV.val (Value.int .i64 0), DV.val (Value.string (ByteArray.mk #[]))]] r12)) fun y15 =>
 some (IntKind.wrap IntKind.i64 (y15.fst - 1), ())
 else obind (z6_v n (false && List.isEmpty r12) (appX [[DV.val (Value.string (ByteArray.mk #[])), DV.val (Value.bool false), DV.val (Value.int .i64 0), DV.val (Value.string (ByteArray.mk #[])), DV.val (Value.string (ByteArray.mk #[])), DV.sl true kdT [], DV.val (Value.string (ByteArray.mk #[])), DV.val (Value.bool false), DV.val (Value.int .i64 0), DV.val (Value.string (ByteArray.mk #[]))]] r12)) fun y16 =>
 some (IntKind.wrap IntKind.i64 (y16.fst - 1), ())
 else none := by kernel_rfl
theorem z39_c (n : Nat) (s0 : ByteArray) (b1 : Bool) (j2 : Int) (s3 : ByteArray) (s4 : ByteArray) (b5 : Bool) (r6 : Rows) (s7 : ByteArray) (b8 : Bool) (j9 : Int) (s10 : ByteArray) (b11 : Bool) (r12 : Rows) (y : Int × Unit) (h : z39_v n s0 b1 j2 s3 s4 b5 r6 s7 b8 j9 s10 b11 r12 = some y) : Contract Tryz.prog 38 [AV.agg [aS s0, aB b1, aI j2, aS s3, aS s4, AV.sl b5 kdT r6 Right.no, aS s7, aB b8, aI j9, aS s10, AV.sl b11 kdL r12 Right.no]] [] (OSh.enc (OSh.plain (.i .i64) []) y) :=
 ac (OSh.plain (.i .i64) []) (z39_σok n) Tryz.func38 (by decide) h
def z4_lv : Live := []
def z4_σ (n : Nat) : Spec := Spec.none
theorem z4_σok (n : Nat) : SpecOk Tryz.prog (z4_σ n) := (SpecOk.none _)
def z4_Φ (n : Nat) : Orc := with_ Tryz.prog (z4_σ n) [] n 0 hsL
def z4_v (n : Nat) (s0 : ByteArray) (j1 : Int) (r2 : Rows) : Option (Bool × (Unit × Unit) × (Unit × Rows × Unit) × Unit) :=
 DM.denFn tm (z4_Φ n) z4_lv n Tryz.f88 false [aS s0, aI j1, AV.pl 1000 0] [[AV.pl 1001 1000000000], [AV.dv (DV.val Value.nilFunc), AV.arr [Kd.s, Kd.i .i64] r2]] (OSh.chk (OSh.plain (.b) [[.pl 1001 1000000000], [.nilf, .arr [Kd.s, Kd.i .i64]]]))
theorem z4_e (n : Nat) (s0 : ByteArray) (j1 : Int) (r2 : Rows) : z4_v n s0 j1 r2 =
 bif !mhas r2 (DV.val (Value.string s0)) then
 bif mhas r2 (DV.val (Value.string s0)) then
 some (Row.I (mget r2 (DV.val (Value.string s0)) [DV.val (Value.string s0), DV.val (Value.int .i64 0)]) 1 != j1, (((), ()), (((), (mput r2 (DV.val (Value.string s0)) [DV.val (Value.string s0), DV.val (Value.int .i64 j1)], ())), ())))
 else some (false, (((), ()), (((), (mput r2 (DV.val (Value.string s0)) [DV.val (Value.string s0), DV.val (Value.int .i64 j1)], ())), ())))
 else bif mhas r2 (DV.val (Value.string s0)) then
 some (Row.I (mget r2 (DV.val (Value.string s0)) [DV.val (Value.string s0), DV.val (Value.int .i64 0)]) 1 != j1, (((), ()), (((), (r2, ())), ())))
 else some (false, (((), ()), (((), (r2, ())), ()))) := by kernel_rfl
theorem z4_c (n : Nat) (s0 : ByteArray) (j1 : Int) (r2 : Rows) (y : Bool × (Unit × Unit) × (Unit × Rows × Unit) × Unit) (h : z4_v n s0 j1 r2 = some y) : Contract Tryz.prog 88 [aS s0, aI j1, AV.pl 1000 0] [[AV.pl 1001 1000000000], [AV.dv (DV.val Value.nilFunc), AV.arr [Kd.s, Kd.i .i64] r2]] (OSh.enc (OSh.plain (.b) [[.pl 1001 1000000000], [.nilf, .arr [Kd.s, Kd.i .i64]]]) y) :=
 ac (OSh.plain (.b) [[.pl 1001 1000000000], [.nilf, .arr [Kd.s, Kd.i .i64]]]) (z4_σok n) Tryz.func88 (by decide) h
def z7_lv : Live := [(5, [5, 17, 18, 19], [3, 1000, 1001, 1002, 1003])]
def z7_σ (n : Nat) : Spec := (inst 88 [.s, .i .i64, .pl 1000 0] [[.pl 1001 1000000000], [.nilf, .arr [Kd.s, Kd.i .i64]]] (OSh.plain (.b) [[.pl 1001 1000000000], [.nilf, .arr [Kd.s, Kd.i .i64]]]) (fun x e => z4_v n x.1 x.2.1 e.2.1.2.1) Spec.none)
theorem z7_σok (n : Nat) : SpecOk Tryz.prog (z7_σ n) := (inst_ok (fun x e y h => z4_c n x.1 x.2.1 e.2.1.2.1 y h) (SpecOk.none _))
def z7_Φ (n : Nat) : Orc := with_ Tryz.prog (z7_σ n) [] n 0 hsL
def z7_v (n : Nat) (s0 : ByteArray) (b1 : Bool) (j2 : Int) (s3 : ByteArray) (s4 : ByteArray) (b5 : Bool) (r6 : Rows) (s7 : ByteArray) (b8 : Bool) (j9 : Int) (s10 : ByteArray) (b11 : Bool) (r12 : Rows) (r13 : Rows) : Option (Int × (Unit × Rows × Unit) × Unit) :=
 DM.denFn tm (z7_Φ n) z7_lv n Tryz.f39 false [AV.agg [aS s0, aB b1, aI j2, aS s3, aS s4, AV.sl b5 kdT r6 Right.no, aS s7, aB b8, aI j9, aS s10, AV.sl b11 kdL r12 Right.no], AV.pl 1000 1000000000] [[AV.dv (DV.val Value.nilFunc), AV.arr [Kd.s, Kd.i .i64] r13]] (OSh.chk (OSh.plain (.i .i64) [[.nilf, .arr [Kd.s, Kd.i .i64]]]))
def z7_l5 (n : Nat) (s0 : ByteArray) (b1 : Bool) (j2 : Int) (s3 : ByteArray) (s4 : ByteArray) (b5 : Bool) (r6 : Rows) (s7 : ByteArray) (b8 : Bool) (j9 : Int) (s10 : ByteArray) (b11 : Bool) (r12 : Rows) (r13 : Rows) (i0 : Nat) (r15 : List (List DV)) (j17 : Int) : Option (Int × (Unit × Rows × Unit) × Unit) :=
 DM.loopFn tm (z7_Φ n) z7_lv n Tryz.f39 false [[AV.dv (DV.val Value.nilFunc), AV.arr [Kd.s, Kd.i .i64] r13]] (OSh.chk (OSh.plain (.i .i64) [[.nilf, .arr [Kd.s, Kd.i .i64]]])) 5 [] i0 (St.mk ([Jk, Jk, Jk, Jk, Jk, AV.fn 88 [AV.pl 3 0], Jk, Jk, Jk, Jk, Jk, Jk, Jk, Jk, Jk, Jk, Jk, AV.sl b11 kdL r12 Right.no, AV.dv (DV.val (Value.int .i64 (↑(List.length r12) : Int))), aI j17] ++ jk 13) [(1000, [AV.dv (DV.val Value.nilFunc), AV.arr [Kd.s, Kd.i .i64] r15]), (3, [AV.pl 1000 1000000000])])
theorem z7_s5 (n : Nat) (s0 : ByteArray) (b1 : Bool) (j2 : Int) (s3 : ByteArray) (s4 : ByteArray) (b5 : Bool) (r6 : Rows) (s7 : ByteArray) (b8 : Bool) (j9 : Int) (s10 : ByteArray) (b11 : Bool) (r12 : Rows) (r13 : Rows) (i0 : Nat) (r15 : List (List DV)) (j17 : Int) : z7_l5 n s0 b1 j2 s3 s4 b5 r6 s7 b8 j9 s10 b11 r12 r13 (i0 + 1) r15 j17 =
 bif decide (j17 < (↑(List.length r12) : Int)) then
 if 0 ≤ j17 then
 if j17 < (↑(List.length r12) : Int) then
 obind (z4_v n (Row.S (List.getD r12 (Int.toNat j17) []) 4) ((↑(List.length (Row.R (List.getD r12 (Int.toNat j17) []) 5)) : Int)) r15) fun y18 =>
 bif y18.fst then
 some (j17, (((), (y18.snd.snd.fst.snd.fst, ())), ()))
 else z7_l5 n s0 b1 j2 s3 s4 b5 r6 s7 b8 j9 s10 b11 r12 r13 i0 y18.snd.snd.fst.snd.fst (IntKind.wrap IntKind.i64 (j17 + 1))
 else none
 else none
 else some (-2, (((), (r15, ())), ())) := by kernel_rfl
theorem z7_e (n : Nat) (s0 : ByteArray) (b1 : Bool) (j2 : Int) (s3 : ByteArray) (s4 : ByteArray) (b5 : Bool) (r6 : Rows) (s7 : ByteArray) (b8 : Bool) (j9 : Int) (s10 : ByteArray) (b11 : Bool) (r12 : Rows) (r13 : Rows) : z7_v n s0 b1 j2 s3 s4 b5 r6 s7 b8 j9 s10 b11 r12 r13 =
 obind (z4_v n s4 ((↑(List.length r6) : Int)) r13) fun y14 =>
 bif y14.fst then
 some (-1, (((), (y14.snd.snd.fst.snd.fst, ())), ()))
 else z7_l5 n s0 b1 j2 s3 s4 b5 r6 s7 b8 j9 s10 b11 r12 r13 n y14.snd.snd.fst.snd.fst 0 := by kernel_rfl
theorem z7_c (n : Nat) (s0 : ByteArray) (b1 : Bool) (j2 : Int) (s3 : ByteArray) (s4 : ByteArray) (b5 : Bool) (r6 : Rows) (s7 : ByteArray) (b8 : Bool) (j9 : Int) (s10 : ByteArray) (b11 : Bool) (r12 : Rows) (r13 : Rows) (y : Int × (Unit × Rows × Unit) × Unit) (h : z7_v n s0 b1 j2 s3 s4 b5 r6 s7 b8 j9 s10 b11 r12 r13 = some y) : Contract Tryz.prog 39 [AV.agg [aS s0, aB b1, aI j2, aS s3, aS s4, AV.sl b5 kdT r6 Right.no, aS s7, aB b8, aI j9, aS s10, AV.sl b11 kdL r12 Right.no], AV.pl 1000 1000000000] [[AV.dv (DV.val Value.nilFunc), AV.arr [Kd.s, Kd.i .i64] r13]] (OSh.enc (OSh.plain (.i .i64) [[.nilf, .arr [Kd.s, Kd.i .i64]]]) y) :=
 ac (OSh.plain (.i .i64) [[.nilf, .arr [Kd.s, Kd.i .i64]]]) (z7_σok n) Tryz.func39 (by decide) h
def z28_lv : Live := [(2, [0, 1, 7, 8], [1000, 1001, 1002, 1003])]
def z28_σ (n : Nat) : Spec := Spec.none
theorem z28_σok (n : Nat) : SpecOk Tryz.prog (z28_σ n) := (SpecOk.none _)
def z28_Φ (n : Nat) : Orc := with_ Tryz.prog (z28_σ n) [] n 0 hsL
def z28_v (n : Nat) (b0 : Bool) (r1 : Rows) (s2 : ByteArray) : Option (Int × Unit) :=
 DM.denFn tm (z28_Φ n) z28_lv n Tryz.f120 false [AV.sl b0 [Kd.s] r1 Right.no, aS s2] [] (OSh.chk (OSh.plain (.i .i64) []))
def z28_l2 (n : Nat) (b0 : Bool) (r1 : Rows) (s2 : ByteArray) (i0 : Nat) (j3 : Int) : Option (Int × Unit) :=
 DM.loopFn tm (z28_Φ n) z28_lv n Tryz.f120 false [] (OSh.chk (OSh.plain (.i .i64) [])) 2 [] i0 (St.mk ([AV.sl b0 [Kd.s] r1 Right.no, aS s2, Jk, Jk, Jk, Jk, Jk, AV.dv (DV.val (Value.int .i64 (↑(List.length r1) : Int))), aI j3] ++ jk 10) [])
theorem z28_s2 (n : Nat) (b0 : Bool) (r1 : Rows) (s2 : ByteArray) (i0 : Nat) (j3 : Int) : z28_l2 n b0 r1 s2 (i0 + 1) j3 =
 bif decide (j3 < (↑(List.length r1) : Int)) then
 if 0 ≤ j3 then
 if j3 < (↑(List.length r1) : Int) then
 bif s2 == Row.S (List.getD r1 (Int.toNat j3) []) 0 then
 some (j3, ())
 else z28_l2 n b0 r1 s2 i0 (IntKind.wrap IntKind.i64 (j3 + 1))
 else none
 else none
 else some (-1, ()) := by kernel_rfl
theorem z28_e (n : Nat) (b0 : Bool) (r1 : Rows) (s2 : ByteArray) : z28_v n b0 r1 s2 =
 z28_l2 n b0 r1 s2 n 0 := by kernel_rfl
theorem z28_c (n : Nat) (b0 : Bool) (r1 : Rows) (s2 : ByteArray) (y : Int × Unit) (h : z28_v n b0 r1 s2 = some y) : Contract Tryz.prog 120 [AV.sl b0 [Kd.s] r1 Right.no, aS s2] [] (OSh.enc (OSh.plain (.i .i64) []) y) :=
 ac (OSh.plain (.i .i64) []) (z28_σok n) Tryz.func120 (by decide) h
def z10_lv : Live := []
def z10_σ (n : Nat) : Spec := (inst 120 [.sl [Kd.s], .s] [] (OSh.plain (.i .i64) []) (fun x e => z28_v n x.1.1 x.1.2 x.2.1) Spec.none)
theorem z10_σok (n : Nat) : SpecOk Tryz.prog (z10_σ n) := (inst_ok (fun x e y h => z28_c n x.1.1 x.1.2 x.2.1 y h) (SpecOk.none _))
def z10_Φ (n : Nat) : Orc := with_ Tryz.prog (z10_σ n) [] n 0 hsL
def z10_v (n : Nat) (b0 : Bool) (r1 : Rows) (s2 : ByteArray) : Option (Bool × Unit) :=
 DM.denFn tm (z10_Φ n) z10_lv n Tryz.f66 false [AV.sl b0 [Kd.s] r1 Right.no, aS s2] [] (OSh.chk (OSh.plain (.b) []))
theorem z10_e (n : Nat) (b0 : Bool) (r1 : Rows) (s2 : ByteArray) : z10_v n b0 r1 s2 =
 obind (z28_v n b0 r1 s2) fun y3 =>
 some (decide (y3.fst ≥ 0), ()) := by kernel_rfl
theorem z10_c (n : Nat) (b0 : Bool) (r1 : Rows) (s2 : ByteArray) (y : Bool × Unit) (h : z10_v n b0 r1 s2 = some y) : Contract Tryz.prog 66 [AV.sl b0 [Kd.s] r1 Right.no, aS s2] [] (OSh.enc (OSh.plain (.b) []) y) :=
 ac (OSh.plain (.b) []) (z10_σok n) Tryz.func66 (by decide) h
def z13_lv : Live := []
def z13_σ (n : Nat) : Spec := (inst 66 [.sl [Kd.s], .s] [] (OSh.plain (.b) []) (fun x e => z10_v n x.1.1 x.1.2 x.2.1) Spec.none)
theorem z13_σok (n : Nat) : SpecOk Tryz.prog (z13_σ n) := (inst_ok (fun x e y h => z10_c n x.1.1 x.1.2 x.2.1 y h) (SpecOk.none _))
def z13_Φ (n : Nat) : Orc := with_ Tryz.prog (z13_σ n) [] n 0 hsL
def z13_v (n : Nat) (s0 : ByteArray) (b1 : Bool) (j2 : Int) (s3 : ByteArray) (b4 : Bool) (r5 : Rows) : Option (Unit × ((Bool × Rows) × Unit) × Unit) :=
 DM.denFn tm (z13_Φ n) z13_lv n Tryz.f93 false [AV.agg [aS s0, aB b1, aI j2, aS s3], AV.pl 1000 0] [[AV.sl b4 [Kd.s] r5 (Right.tok 500002)]] (OSh.chk (OSh.plain (.tup []) [[.slt [Kd.s] 0]]))
theorem z13_e (n : Nat) (s0 : ByteArray) (b1 : Bool) (j2 : Int) (s3 : ByteArray) (b4 : Bool) (r5 : Rows) : z13_v n s0 b1 j2 s3 b4 r5 =
 bif !s0 == ByteArray.mk #[] then
 obind (z10_v n b4 r5 s0) fun y6 =>
 bif !y6.fst then
 if (List.length r5 + List.length [[DV.val (Value.string s0)]]) * 16 ≤ 140737488355328 then
 some ((), (((b4 && List.isEmpty [[DV.val (Value.string s0)]], appX r5 [[DV.val (Value.string s0)]]), ()), ()))
 else none
 else some ((), (((b4, r5), ()), ()))
 else some ((), (((b4, r5), ()), ())) := by kernel_rfl
theorem z13_c (n : Nat) (s0 : ByteArray) (b1 : Bool) (j2 : Int) (s3 : ByteArray) (b4 : Bool) (r5 : Rows) (y : Unit × ((Bool × Rows) × Unit) × Unit) (h : z13_v n s0 b1 j2 s3 b4 r5 = some y) : Contract Tryz.prog 93 [AV.agg [aS s0, aB b1, aI j2, aS s3], AV.pl 1000 0] [[AV.sl b4 [Kd.s] r5 (Right.tok 500002)]] (OSh.enc (OSh.plain (.tup []) [[.slt [Kd.s] 0]]) y) :=
 ac (OSh.plain (.tup []) [[.slt [Kd.s] 0]]) (z13_σok n) Tryz.func93 (by decide) h
def z40_lv : Live := []
def z40_σ (n : Nat) : Spec := Spec.none
theorem z40_σok (n : Nat) : SpecOk Tryz.prog (z40_σ n) := (SpecOk.none _)
def z40_Φ (n : Nat) : Orc := with_ Tryz.prog (z40_σ n) [] n 0 hsL
def z40_v (n : Nat) (s0 : ByteArray) (b1 : Bool) (j2 : Int) (s3 : ByteArray) (s4 : ByteArray) (b5 : Bool) (r6 : Rows) (s7 : ByteArray) (b8 : Bool) (j9 : Int) (s10 : ByteArray) : Option ((Bool × Rows) × Unit) :=
 DM.denFn tm (z40_Φ n) z40_lv n Tryz.f94 false [AV.agg [aS s0, aB b1, aI j2, aS s3, aS s4, AV.sl b5 kdT r6 Right.no, aS s7, aB b8, aI j9, aS s10]] [] (OSh.chk (OSh.plain (.sl kdT) []))
theorem z40_e (n : Nat) (s0 : ByteArray) (b1 : Bool) (j2 : Int) (s3 : ByteArray) (s4 : ByteArray) (b5 : Bool) (r6 : Rows) (s7 : ByteArray) (b8 : Bool) (j9 : Int) (s10 : ByteArray) : z40_v n s0 b1 j2 s3 s4 b5 r6 s7 b8 j9 s10 =
 if (List.length [[DV.val (Value.string s0), DV.val (Value.bool b1), DV.val (Value.int .i64 j2), DV.val (Value.string s3)]] + List.length r6) * 48 ≤ 140737488355328 then
 bif List.isEmpty [[DV.val (Value.string s0), DV.val (Value.bool b1), DV.val (Value.int .i64 j2), DV.val (Value.string s3)]] || !List.isEmpty r6 then
 if (List.length (appX [[DV.val (Value.string s0), DV.val (Value.bool b1), DV.val (Value.int .i64 j2), DV.val (Value.string s3)]] r6) + List.length [[DV.val (Value.string s7), DV.val (Value.bool b8), DV.val (Value.int .i64 j9), DV.val (Value.string s10)]]) * 48 ≤ 140737488355328 then
 some ((false && List.isEmpty r6 && List.isEmpty [[DV.val (Value.string s7), DV.val (Value.bool b8), DV.val (Value.int .i64 j9), DV.val (Value.string s10)]], appX (appX [[DV.val (Value.string s0), DV.val (Value.bool b1), DV.val (Value.int .i64 j2), DV.val (Value.string s3)]] r6) [[DV.val (Value.string s7), DV.val (Value.bool b8), DV.val (Value.int .i64 j9), DV.val (Value.string s10)]]), ())
 else none
 else if (List.length (appX [[DV.val (Value.string s0), DV.val (Value.bool b1), DV.val (Value.int .i64 j2), DV.val (Value.string s3)]] r6) + List.length [[DV.val (Value.string s7), DV.val (Value.bool b8), DV.val (Value.int .i64 j9), DV.val (Value.string s10)]]) * 48 ≤ 140737488355328 then
 some ((false && List.isEmpty r6 && List.isEmpty [[DV.val (Value.string s7), DV.val (Value.bool b8), DV.val (Value.int .i64 j9), DV.val (Value.string s10)]], appX (appX [[DV.val (Value.string s0), DV.val (Value.bool b1), DV.val (Value.int .i64 j2), DV.val (Value.string s3)]] r6) [[DV.val (Value.string s7), DV.val (Value.bool b8), DV.val (Value.int .i64 j9), DV.val (Value.string s10)]]), ())
 else none
 else none := by kernel_rfl
theorem z40_c (n : Nat) (s0 : ByteArray) (b1 : Bool) (j2 : Int) (s3 : ByteArray) (s4 : ByteArray) (b5 : Bool) (r6 : Rows) (s7 : ByteArray) (b8 : Bool) (j9 : Int) (s10 : ByteArray) (y : (Bool × Rows) × Unit) (h : z40_v n s0 b1 j2 s3 s4 b5 r6 s7 b8 j9 s10 = some y) : Contract Tryz.prog 94 [AV.agg [aS s0, aB b1, aI j2, aS s3, aS s4, AV.sl b5 kdT r6 Right.no, aS s7, aB b8, aI j9, aS s10]] [] (OSh.enc (OSh.plain (.sl kdT) []) y) :=
 ac (OSh.plain (.sl kdT) []) (z40_σok n) Tryz.func94 (by decide) h
def z33_lv : Live := [(5, [5, 6, 24, 25, 26], [5, 1000, 1001, 1002, 1003]), (8, [5, 6, 24, 25, 26, 31, 32, 33], [5, 1000, 1001, 1002, 1003])]
def z33_σ (n : Nat) : Spec := (inst 93 [.agg [.s, .b, .i .i64, .s], .pl 1000 0] [[.slt [Kd.s] 500002]] (OSh.plain (.tup []) [[.slt [Kd.s] 0]]) (fun x e => z13_v n x.1.1 x.1.2.1 x.1.2.2.1 x.1.2.2.2.1 e.1.1.1 e.1.1.2) (inst 94 [.agg [.s, .b, .i .i64, .s, .s, .sl kdT, .s, .b, .i .i64, .s]] [] (OSh.plain (.sl kdT) []) (fun x e => z40_v n x.1.1 x.1.2.1 x.1.2.2.1 x.1.2.2.2.1 x.1.2.2.2.2.1 x.1.2.2.2.2.2.1.1 x.1.2.2.2.2.2.1.2 x.1.2.2.2.2.2.2.1 x.1.2.2.2.2.2.2.2.1 x.1.2.2.2.2.2.2.2.2.1 x.1.2.2.2.2.2.2.2.2.2.1) Spec.none))
theorem z33_σok (n : Nat) : SpecOk Tryz.prog (z33_σ n) := (inst_ok (fun x e y h => z13_c n x.1.1 x.1.2.1 x.1.2.2.1 x.1.2.2.2.1 e.1.1.1 e.1.1.2 y h) (inst_ok (fun x e y h => z40_c n x.1.1 x.1.2.1 x.1.2.2.1 x.1.2.2.2.1 x.1.2.2.2.2.1 x.1.2.2.2.2.2.1.1 x.1.2.2.2.2.2.1.2 x.1.2.2.2.2.2.2.1 x.1.2.2.2.2.2.2.2.1 x.1.2.2.2.2.2.2.2.2.1 x.1.2.2.2.2.2.2.2.2.2.1 y h) (SpecOk.none _)))
def z33_Φ (n : Nat) : Orc := with_ Tryz.prog (z33_σ n) [] n 0 hsL
def z33_v (n : Nat) (s0 : ByteArray) (b1 : Bool) (j2 : Int) (s3 : ByteArray) (s4 : ByteArray) (b5 : Bool) (r6 : Rows) (s7 : ByteArray) (b8 : Bool) (j9 : Int) (s10 : ByteArray) (b11 : Bool) (r12 : Rows) (j13 : Int) : Option ((Bool × Rows) × Unit) :=
 DM.denFn tm (z33_Φ n) z33_lv n Tryz.f44 true [AV.agg [aS s0, aB b1, aI j2, aS s3, aS s4, AV.sl b5 kdT r6 Right.no, aS s7, aB b8, aI j9, aS s10, AV.sl b11 kdL r12 Right.no], aI j13] [] (OSh.chk (OSh.plain (.slt [Kd.s] 0) []))
def z33_l5 (n : Nat) (s0 : ByteArray) (b1 : Bool) (j2 : Int) (s3 : ByteArray) (s4 : ByteArray) (b5 : Bool) (r6 : Rows) (s7 : ByteArray) (b8 : Bool) (j9 : Int) (s10 : ByteArray) (b11 : Bool) (r12 : Rows) (j13 : Int) (i0 : Nat) (b15 : Bool) (r16 : List (List DV)) (j25 : Int) : Option ((Bool × Rows) × Unit) :=
 DM.loopFn tm (z33_Φ n) z33_lv n Tryz.f44 true [] (OSh.chk (OSh.plain (.slt [Kd.s] 0) [])) 5 [] i0 (St.mk ([Jk, Jk, Jk, Jk, Jk, AV.pl 5 0, AV.fn 93 [AV.pl 5 0], Jk, Jk, Jk, Jk, Jk, Jk, Jk, Jk, Jk, Jk, Jk, Jk, Jk, Jk, Jk, Jk, Jk, AV.sl b11 kdL (List.drop 0 (List.take (Int.toNat (if (↑(List.length r12) : Int) < if 0 > j13 then 0 else j13 then (↑(List.length r12) : Int) else if 0 > j13 then 0 else j13)) r12)) Right.no, AV.dv (DV.val (Value.int .i64 (↑(List.length (List.drop 0 (List.take (Int.toNat (if (↑(List.length r12) : Int) < if 0 > j13 then 0 else j13 then (↑(List.length r12) : Int) else if 0 > j13 then 0 else j13)) r12))) : Int))), aI j25] ++ jk 16) [(5, [AV.sl b15 [Kd.s] r16 (Right.tok 20320)])])
def z33_l8 (n : Nat) (s0 : ByteArray) (b1 : Bool) (j2 : Int) (s3 : ByteArray) (s4 : ByteArray) (b5 : Bool) (r6 : Rows) (s7 : ByteArray) (b8 : Bool) (j9 : Int) (s10 : ByteArray) (b11 : Bool) (r12 : Rows) (j13 : Int) (i0 i1 : Nat) (b18 : Bool) (r19 : List (List DV)) (j20 : Int) (b21 : Bool) (r22 : List (List DV)) (j24 : Int) (j27 : Int) : Option ((Bool × Rows) × Unit) :=
 DM.loopFn tm (z33_Φ n) z33_lv n Tryz.f44 true [] (OSh.chk (OSh.plain (.slt [Kd.s] 0) [])) 8 [i0] i1 (St.mk ([Jk, Jk, Jk, Jk, Jk, AV.pl 5 0, AV.fn 93 [AV.pl 5 0], Jk, Jk, Jk, Jk, Jk, Jk, Jk, Jk, Jk, Jk, Jk, Jk, Jk, Jk, Jk, Jk, Jk, AV.sl b11 kdL (List.drop 0 (List.take (Int.toNat (if (↑(List.length r12) : Int) < if 0 > j13 then 0 else j13 then (↑(List.length r12) : Int) else if 0 > j13 then 0 else j13)) r12)) Right.no, AV.dv (DV.val (Value.int .i64 (↑(List.length (List.drop 0 (List.take (Int.toNat (if (↑(List.length r12) : Int) < if 0 > j13 then 0 else j13 then (↑(List.length r12) : Int) else if 0 > j13 then 0 else j13)) r12))) : Int))), aI j27, Jk, Jk, Jk, Jk, AV.sl b18 kdT r19 Right.no, aI j20, aI j24] ++ jk 9) [(5, [AV.sl b21 [Kd.s] r22 (Right.tok 20320)])])
theorem z33_s5 (n : Nat) (s0 : ByteArray) (b1 : Bool) (j2 : Int) (s3 : ByteArray) (s4 : ByteArray) (b5 : Bool) (r6 : Rows) (s7 : ByteArray) (b8 : Bool) (j9 : Int) (s10 : ByteArray) (b11 : Bool) (r12 : Rows) (j13 : Int) (i0 : Nat) (b15 : Bool) (r16 : List (List DV)) (j25 : Int) : z33_l5 n s0 b1 j2 s3 s4 b5 r6 s7 b8 j9 s10 b11 r12 j13 (i0 + 1) b15 r16 j25 =
 bif decide (j25 < (↑(List.length (List.drop 0 (List.take (Int.toNat (if (↑(List.length r12) : Int) < if 0 > j13 then 0 else j13 then (↑(List.length r12) : Int) else if 0 > j13 then 0 else j13)) r12))) : Int)) then
 if 0 ≤ j25 then
 if j25 < (↑(List.length (List.drop 0 (List.take (Int.toNat (if (↑(List.length r12) : Int) < if 0 > j13 then 0 else j13 then (↑(List.length r12) : Int) else if 0 > j13 then 0 else j13)) r12))) : Int) then
 obind (z40_v n (Row.S (List.getD (List.drop 0 (List.take (Int.toNat (if (↑(List.length r12) : Int) < if 0 > j13 then 0 else j13 then (↑(List.length r12) : Int) else if 0 > j13 then 0 else j13)) r12)) (Int.toNat j25) []) 0) (Row.B (List.getD (List.drop 0 (List.take (Int.toNat (if (↑(List.length r12) : Int) < if 0 > j13 then 0 else j13 then (↑(List.length r12) : Int) else if 0 > j13 then 0 else j13)) r12)) (Int.toNat j25) []) 1) (Row.I (List.getD (List.drop 0 (List.take (Int.toNat (if (↑(List.length r12) : Int) < if 0 > j13 then 0 else j13 then (↑(List.length r12) : Int) else if 0 > j13 then 0 else j13)) r12)) (Int.toNat j25) []) 2) (Row.S (List.getD (List.drop 0 (List.take (Int.toNat (if (↑(List.length r12) : Int) < if 0 > j13 then 0 else j13 then (↑(List.length r12) : Int) else if 0 > j13 then 0 else j13)) r12)) (Int.toNat j25) []) 3) (Row.S (List.getD (List.drop 0 (List.take (Int.toNat (if (↑(List.length r12) : Int) < if 0 > j13 then 0 else j13 then (↑(List.length r12) : Int) else if 0 > j13 then 0 else j13)) r12)) (Int.toNat j25) []) 4) (Row.N (List.getD (List.drop 0 (List.take (Int.toNat (if (↑(List.length r12) : Int) < if 0 > j13 then 0 else j13 then (↑(List.length r12) : Int) else if 0 > j13 then 0 else j13)) r12)) (Int.toNat j25) []) 5) (Row.R (List.getD (List.drop 0 (List.take (Int.toNat (if (↑(List.length r12) : Int) < if 0 > j13 then 0 else j13 then (↑(List.length r12) : Int) else if 0 > j13 then 0 else j13)) r12)) (Int.toNat j25) []) 5) (Row.S (List.getD (List.drop 0 (List.take (Int.toNat (if (↑(List.length r12) : Int) < if 0 > j13 then 0 else j13 then (↑(List.length r12) : Int) else if 0 > j13 then 0 else j13)) r12)) (Int.toNat j25) []) 6) (Row.B (List.getD (List.drop 0 (List.take (Int.toNat (if (↑(List.length r12) : Int) < if 0 > j13 then 0 else j13 then (↑(List.length r12) : Int) else if 0 > j13 then 0 else j13)) r12)) (Int.toNat j25) []) 7) (Row.I (List.getD (List.drop 0 (List.take (Int.toNat (if (↑(List.length r12) : Int) < if 0 > j13 then 0 else j13 then (↑(List.length r12) : Int) else if 0 > j13 then 0 else j13)) r12)) (Int.toNat j25) []) 8) (Row.S (List.getD (List.drop 0 (List.take (Int.toNat (if (↑(List.length r12) : Int) < if 0 > j13 then 0 else j13 then (↑(List.length r12) : Int) else if 0 > j13 then 0 else j13)) r12)) (Int.toNat j25) []) 9)) fun y26 =>
 z33_l8 n s0 b1 j2 s3 s4 b5 r6 s7 b8 j9 s10 b11 r12 j13 i0 n y26.fst.fst y26.fst.snd ((↑(List.length y26.fst.snd) : Int)) b15 r16 0 j25
 else none
 else none
 else some ((b15, r16), ()) := by kernel_rfl
theorem z33_s8 (n : Nat) (s0 : ByteArray) (b1 : Bool) (j2 : Int) (s3 : ByteArray) (s4 : ByteArray) (b5 : Bool) (r6 : Rows) (s7 : ByteArray) (b8 : Bool) (j9 : Int) (s10 : ByteArray) (b11 : Bool) (r12 : Rows) (j13 : Int) (i0 i1 : Nat) (b18 : Bool) (r19 : List (List DV)) (j20 : Int) (b21 : Bool) (r22 : List (List DV)) (j24 : Int) (j27 : Int) : z33_l8 n s0 b1 j2 s3 s4 b5 r6 s7 b8 j9 s10 b11 r12 j13 i0 (i1 + 1) b18 r19 j20 b21 r22 j24 j27 =
 bif decide (j24 < j20) then
 if 0 ≤ j24 then
 if j24 < (↑(List.length r19) : Int) then
 obind (z13_v n (Row.S (List.getD r19 (Int.toNat j24) []) 0) (Row.B (List.getD r19 (Int.toNat j24) []) 1) (Row.I (List.getD r19 (Int.toNat j24) []) 2) (Row.S (List.getD r19 (Int.toNat j24) []) 3) b21 r22) fun y28 =>
 z33_l8 n s0 b1 j2 s3 s4 b5 r6 s7 b8 j9 s10 b11 r12 j13 i0 i1 b18 r19 j20 y28.snd.fst.fst.fst y28.snd.fst.fst.snd (IntKind.wrap IntKind.i64 (j24 + 1)) j27
 else none
 else none
 else z33_l5 n s0 b1 j2 s3 s4 b5 r6 s7 b8 j9 s10 b11 r12 j13 i0 b21 r22 (IntKind.wrap IntKind.i64 (j27 + 1)) := by kernel_rfl
theorem z33_e (n : Nat) (s0 : ByteArray) (b1 : Bool) (j2 : Int) (s3 : ByteArray) (s4 : ByteArray) (b5 : Bool) (r6 : Rows) (s7 : ByteArray) (b8 : Bool) (j9 : Int) (s10 : ByteArray) (b11 : Bool) (r12 : Rows) (j13 : Int) : z33_v n s0 b1 j2 s3 s4 b5 r6 s7 b8 j9 s10 b11 r12 j13 =
 obind (z13_v n s0 b1 j2 s3 true []) fun y14 =>
 if 0 ≤ if (↑(List.length r12) : Int) < if 0 > j13 then 0 else j13 then (↑(List.length r12) : Int) else if 0 > j13 then 0 else j13 then
 if (if (↑(List.length r12) : Int) < if 0 > j13 then 0 else j13 then (↑(List.length r12) : Int) else if 0 > j13 then 0 else j13) ≤ (↑(List.length r12) : Int) then
 z33_l5 n s0 b1 j2 s3 s4 b5 r6 s7 b8 j9 s10 b11 r12 j13 n y14.snd.fst.fst.fst y14.snd.fst.fst.snd 0
 else none
 else none := by kernel_rfl
theorem z33_c (n : Nat) (s0 : ByteArray) (b1 : Bool) (j2 : Int) (s3 : ByteArray) (s4 : ByteArray) (b5 : Bool) (r6 : Rows) (s7 : ByteArray) (b8 : Bool) (j9 : Int) (s10 : ByteArray) (b11 : Bool) (r12 : Rows) (j13 : Int) (y : (Bool × Rows) × Unit) (h : z33_v n s0 b1 j2 s3 s4 b5 r6 s7 b8 j9 s10 b11 r12 j13 = some y) : Contract Tryz.prog 44 [AV.agg [aS s0, aB b1, aI j2, aS s3, aS s4, AV.sl b5 kdT r6 Right.no, aS s7, aB b8, aI j9, aS s10, AV.sl b11 kdL r12 Right.no], aI j13] [] (OSh.enc (OSh.plain (.slt [Kd.s] 0) []) y) :=
 ac (OSh.plain (.slt [Kd.s] 0) []) (z33_σok n) Tryz.func44 (by decide) h
def z60_lv : Live := [(2, [1, 6, 7, 8], [1, 1000, 1001, 1002, 1003])]
def z60_σ (n : Nat) : Spec := (inst 44 [.agg [.s, .b, .i .i64, .s, .s, .sl kdT, .s, .b, .i .i64, .s, .sl kdL], .i .i64] [] (OSh.plain (.slt [Kd.s] 0) []) (fun x e => z33_v n x.1.1 x.1.2.1 x.1.2.2.1 x.1.2.2.2.1 x.1.2.2.2.2.1 x.1.2.2.2.2.2.1.1 x.1.2.2.2.2.2.1.2 x.1.2.2.2.2.2.2.1 x.1.2.2.2.2.2.2.2.1 x.1.2.2.2.2.2.2.2.2.1 x.1.2.2.2.2.2.2.2.2.2.1 x.1.2.2.2.2.2.2.2.2.2.2.1.1 x.1.2.2.2.2.2.2.2.2.2.2.1.2 x.2.1) (inst 66 [.sl [Kd.s], .s] [] (OSh.plain (.b) []) (fun x e => z10_v n x.1.1 x.1.2 x.2.1) Spec.none))
theorem z60_σok (n : Nat) : SpecOk Tryz.prog (z60_σ n) := (inst_ok (fun x e y h => z33_c n x.1.1 x.1.2.1 x.1.2.2.1 x.1.2.2.2.1 x.1.2.2.2.2.1 x.1.2.2.2.2.2.1.1 x.1.2.2.2.2.2.1.2 x.1.2.2.2.2.2.2.1 x.1.2.2.2.2.2.2.2.1 x.1.2.2.2.2.2.2.2.2.1 x.1.2.2.2.2.2.2.2.2.2.1 x.1.2.2.2.2.2.2.2.2.2.2.1.1 x.1.2.2.2.2.2.2.2.2.2.2.1.2 x.2.1 y h) (inst_ok (fun x e y h => z10_c n x.1.1 x.1.2 x.2.1 y h) (SpecOk.none _)))
def z60_Φ (n : Nat) : Orc := with_ Tryz.prog (z60_σ n) [] n 0 hsL
def z60_v (n : Nat) (s0 : ByteArray) (b1 : Bool) (j2 : Int) (s3 : ByteArray) (s4 : ByteArray) (b5 : Bool) (r6 : Rows) (s7 : ByteArray) (b8 : Bool) (j9 : Int) (s10 : ByteArray) (b11 : Bool) (r12 : Rows) : Option (Int × Unit) :=
 DM.denFn tm (z60_Φ n) z60_lv n Tryz.f40 false [AV.agg [aS s0, aB b1, aI j2, aS s3, aS s4, AV.sl b5 kdT r6 Right.no, aS s7, aB b8, aI j9, aS s10, AV.sl b11 kdL r12 Right.no]] [] (OSh.chk (OSh.plain (.i .i64) []))
def z60_l2 (n : Nat) (s0 : ByteArray) (b1 : Bool) (j2 : Int) (s3 : ByteArray) (s4 : ByteArray) (b5 : Bool) (r6 : Rows) (s7 : ByteArray) (b8 : Bool) (j9 : Int) (s10 : ByteArray) (b11 : Bool) (r12 : Rows) (i0 : Nat) (j15 : Int) : Option (Int × Unit) :=
 DM.loopFn tm (z60_Φ n) z60_lv n Tryz.f40 false [] (OSh.chk (OSh.plain (.i .i64) [])) 2 [] i0 (St.mk ([Jk, AV.pl 1 0, Jk, Jk, Jk, Jk, AV.sl b11 kdL r12 Right.no, AV.dv (DV.val (Value.int .i64 (↑(List.length r12) : Int))), aI j15] ++ jk 20) [(1, [aS s0, aB b1, aI j2, aS s3, aS s4, AV.sl b5 kdT r6 Right.no, aS s7, aB b8, aI j9, aS s10, AV.sl b11 kdL r12 Right.no])])
theorem z60_s2 (n : Nat) (s0 : ByteArray) (b1 : Bool) (j2 : Int) (s3 : ByteArray) (s4 : ByteArray) (b5 : Bool) (r6 : Rows) (s7 : ByteArray) (b8 : Bool) (j9 : Int) (s10 : ByteArray) (b11 : Bool) (r12 : Rows) (i0 : Nat) (j15 : Int) : z60_l2 n s0 b1 j2 s3 s4 b5 r6 s7 b8 j9 s10 b11 r12 (i0 + 1) j15 =
 bif decide (j15 < (↑(List.length r12) : Int)) then
 if 0 ≤ j15 then
 if j15 < (↑(List.length r12) : Int) then
 bif !Row.S (List.getD r12 (Int.toNat j15) []) 6 == ByteArray.mk #[] then
 obind (z33_v n s0 b1 j2 s3 s4 b5 r6 s7 b8 j9 s10 b11 r12 j15) fun y16 =>
 obind (z10_v n y16.fst.fst y16.fst.snd (Row.S (List.getD r12 (Int.toNat j15) []) 6)) fun y17 =>
 bif !y17.fst then
 some (j15, ())
 else z60_l2 n s0 b1 j2 s3 s4 b5 r6 s7 b8 j9 s10 b11 r12 i0 (IntKind.wrap IntKind.i64 (j15 + 1))
 else z60_l2 n s0 b1 j2 s3 s4 b5 r6 s7 b8 j9 s10 b11 r12 i0 (IntKind.wrap IntKind.i64 (j15 + 1))
 else none
 else none
 else some (-2, ()) := by kernel_rfl
theorem z60_e (n : Nat) (s0 : ByteArray) (b1 : Bool) (j2 : Int) (s3 : ByteArray) (s4 : ByteArray) (b5 : Bool) (r6 : Rows) (s7 : ByteArray) (b8 : Bool) (j9 : Int) (s10 : ByteArray) (b11 : Bool) (r12 : Rows) : z60_v n s0 b1 j2 s3 s4 b5 r6 s7 b8 j9 s10 b11 r12 =
 z60_l2 n s0 b1 j2 s3 s4 b5 r6 s7 b8 j9 s10 b11 r12 n 0 := by kernel_rfl
theorem z60_c (n : Nat) (s0 : ByteArray) (b1 : Bool) (j2 : Int) (s3 : ByteArray) (s4 : ByteArray) (b5 : Bool) (r6 : Rows) (s7 : ByteArray) (b8 : Bool) (j9 : Int) (s10 : ByteArray) (b11 : Bool) (r12 : Rows) (y : Int × Unit) (h : z60_v n s0 b1 j2 s3 s4 b5 r6 s7 b8 j9 s10 b11 r12 = some y) : Contract Tryz.prog 40 [AV.agg [aS s0, aB b1, aI j2, aS s3, aS s4, AV.sl b5 kdT r6 Right.no, aS s7, aB b8, aI j9, aS s10, AV.sl b11 kdL r12 Right.no]] [] (OSh.enc (OSh.plain (.i .i64) []) y) :=
 ac (OSh.plain (.i .i64) []) (z60_σok n) Tryz.func40 (by decide) h
def z66_lv : Live := []
def z66_σ (n : Nat) : Spec := (inst 44 [.agg [.s, .b, .i .i64, .s, .s, .sl kdT, .s, .b, .i .i64, .s, .sl kdL], .i .i64] [] (OSh.plain (.slt [Kd.s] 0) []) (fun x e => z33_v n x.1.1 x.1.2.1 x.1.2.2.1 x.1.2.2.2.1 x.1.2.2.2.2.1 x.1.2.2.2.2.2.1.1 x.1.2.2.2.2.2.1.2 x.1.2.2.2.2.2.2.1 x.1.2.2.2.2.2.2.2.1 x.1.2.2.2.2.2.2.2.2.1 x.1.2.2.2.2.2.2.2.2.2.1 x.1.2.2.2.2.2.2.2.2.2.2.1.1 x.1.2.2.2.2.2.2.2.2.2.2.1.2 x.2.1) Spec.none)
theorem z66_σok (n : Nat) : SpecOk Tryz.prog (z66_σ n) := (inst_ok (fun x e y h => z33_c n x.1.1 x.1.2.1 x.1.2.2.1 x.1.2.2.2.1 x.1.2.2.2.2.1 x.1.2.2.2.2.2.1.1 x.1.2.2.2.2.2.1.2 x.1.2.2.2.2.2.2.1 x.1.2.2.2.2.2.2.2.1 x.1.2.2.2.2.2.2.2.2.1 x.1.2.2.2.2.2.2.2.2.2.1 x.1.2.2.2.2.2.2.2.2.2.2.1.1 x.1.2.2.2.2.2.2.2.2.2.2.1.2 x.2.1 y h) (SpecOk.none _))
def z66_Φ (n : Nat) : Orc := with_ Tryz.prog (z66_σ n) [] n 0 hsL
def z66_v (n : Nat) (s0 : ByteArray) (b1 : Bool) (j2 : Int) (s3 : ByteArray) (s4 : ByteArray) (b5 : Bool) (r6 : Rows) (s7 : ByteArray) (b8 : Bool) (j9 : Int) (s10 : ByteArray) (b11 : Bool) (r12 : Rows) : Option ((Bool × Rows) × Unit) :=
 DM.denFn tm (z66_Φ n) z66_lv n Tryz.f89 true [AV.agg [aS s0, aB b1, aI j2, aS s3, aS s4, AV.sl b5 kdT r6 Right.no, aS s7, aB b8, aI j9, aS s10, AV.sl b11 kdL r12 Right.no]] [] (OSh.chk (OSh.plain (.slt [Kd.s] 0) []))
theorem z66_e (n : Nat) (s0 : ByteArray) (b1 : Bool) (j2 : Int) (s3 : ByteArray) (s4 : ByteArray) (b5 : Bool) (r6 : Rows) (s7 : ByteArray) (b8 : Bool) (j9 : Int) (s10 : ByteArray) (b11 : Bool) (r12 : Rows) : z66_v n s0 b1 j2 s3 s4 b5 r6 s7 b8 j9 s10 b11 r12 =
 obind (z33_v n s0 b1 j2 s3 s4 b5 r6 s7 b8 j9 s10 b11 r12 ((↑(List.length r12) : Int))) fun y13 =>
 some ((y13.fst.fst, y13.fst.snd), ()) := by kernel_rfl
theorem z66_c (n : Nat) (s0 : ByteArray) (b1 : Bool) (j2 : Int) (s3 : ByteArray) (s4 : ByteArray) (b5 : Bool) (r6 : Rows) (s7 : ByteArray) (b8 : Bool) (j9 : Int) (s10 : ByteArray) (b11 : Bool) (r12 : Rows) (y : (Bool × Rows) × Unit) (h : z66_v n s0 b1 j2 s3 s4 b5 r6 s7 b8 j9 s10 b11 r12 = some y) : Contract Tryz.prog 89 [AV.agg [aS s0, aB b1, aI j2, aS s3, aS s4, AV.sl b5 kdT r6 Right.no, aS s7, aB b8, aI j9, aS s10, AV.sl b11 kdL r12 Right.no]] [] (OSh.enc (OSh.plain (.slt [Kd.s] 0) []) y) :=
 ac (OSh.plain (.slt [Kd.s] 0) []) (z66_σok n) Tryz.func89 (by decide) h
def z32_lv : Live := []
def z32_σ (n : Nat) : Spec := (inst 66 [.sl [Kd.s], .s] [] (OSh.plain (.b) []) (fun x e => z10_v n x.1.1 x.1.2 x.2.1) Spec.none)
theorem z32_σok (n : Nat) : SpecOk Tryz.prog (z32_σ n) := (inst_ok (fun x e y h => z10_c n x.1.1 x.1.2 x.2.1 y h) (SpecOk.none _))
def z32_Φ (n : Nat) : Orc := with_ Tryz.prog (z32_σ n) [] n 0 hsL
def z32_v (n : Nat) (s0 : ByteArray) (b1 : Bool) (j2 : Int) (s3 : ByteArray) (b4 : Bool) (r5 : Rows) : Option (Bool × ((Bool × Rows) × Unit) × Unit) :=
 DM.denFn tm (z32_Φ n) z32_lv n Tryz.f91 false [AV.agg [aS s0, aB b1, aI j2, aS s3], AV.pl 1000 0] [[AV.sl b4 [Kd.s] r5 Right.no]] (OSh.chk (OSh.plain (.b) [[.sl [Kd.s]]]))
theorem z32_e (n : Nat) (s0 : ByteArray) (b1 : Bool) (j2 : Int) (s3 : ByteArray) (b4 : Bool) (r5 : Rows) : z32_v n s0 b1 j2 s3 b4 r5 =
 bif !s0 == ByteArray.mk #[] then
 obind (z10_v n b4 r5 s0) fun y6 =>
 some (!y6.fst, (((b4, r5), ()), ()))
 else some (false, (((b4, r5), ()), ())) := by kernel_rfl
theorem z32_c (n : Nat) (s0 : ByteArray) (b1 : Bool) (j2 : Int) (s3 : ByteArray) (b4 : Bool) (r5 : Rows) (y : Bool × ((Bool × Rows) × Unit) × Unit) (h : z32_v n s0 b1 j2 s3 b4 r5 = some y) : Contract Tryz.prog 91 [AV.agg [aS s0, aB b1, aI j2, aS s3], AV.pl 1000 0] [[AV.sl b4 [Kd.s] r5 Right.no]] (OSh.enc (OSh.plain (.b) [[.sl [Kd.s]]]) y) :=
 ac (OSh.plain (.b) [[.sl [Kd.s]]]) (z32_σok n) Tryz.func91 (by decide) h
def z3_lv : Live := [(2, [0, 1, 7, 8], [1000, 1001, 1002, 1003])]
def z3_σ (n : Nat) : Spec := (inst 91 [.agg [.s, .b, .i .i64, .s], .pl 1000 0] [[.sl [Kd.s]]] (OSh.plain (.b) [[.sl [Kd.s]]]) (fun x e => z32_v n x.1.1 x.1.2.1 x.1.2.2.1 x.1.2.2.2.1 e.1.1.1 e.1.1.2) Spec.none)
theorem z3_σok (n : Nat) : SpecOk Tryz.prog (z3_σ n) := (inst_ok (fun x e y h => z32_c n x.1.1 x.1.2.1 x.1.2.2.1 x.1.2.2.2.1 e.1.1.1 e.1.1.2 y h) (SpecOk.none _))
def z3_Φ (n : Nat) : Orc := with_ Tryz.prog (z3_σ n) [] n 0 hsL
def z3_v (n : Nat) (b0 : Bool) (r1 : Rows) (b2 : Bool) (r3 : Rows) : Option (Int × ((Bool × Rows) × Unit) × Unit) :=
 DM.denFn tm (z3_Φ n) z3_lv n Tryz.f134 false [AV.sl b0 kdT r1 Right.no, AV.fn 91 [AV.pl 1000 0]] [[AV.sl b2 [Kd.s] r3 Right.no]] (OSh.chk (OSh.plain (.i .i64) [[.sl [Kd.s]]]))
def z3_l2 (n : Nat) (b0 : Bool) (r1 : Rows) (b2 : Bool) (r3 : Rows) (i0 : Nat) (j5 : Int) (b6 : Bool) (r7 : List (List DV)) : Option (Int × ((Bool × Rows) × Unit) × Unit) :=
 DM.loopFn tm (z3_Φ n) z3_lv n Tryz.f134 false [[AV.sl b2 [Kd.s] r3 Right.no]] (OSh.chk (OSh.plain (.i .i64) [[.sl [Kd.s]]])) 2 [] i0 (St.mk ([AV.sl b0 kdT r1 Right.no, AV.fn 91 [AV.pl 1000 0], Jk, Jk, Jk, Jk, Jk, AV.dv (DV.val (Value.int .i64 (↑(List.length r1) : Int))), aI j5] ++ jk 10) [(1000, [AV.sl b6 [Kd.s] r7 Right.no])])
theorem z3_s2 (n : Nat) (b0 : Bool) (r1 : Rows) (b2 : Bool) (r3 : Rows) (i0 : Nat) (j5 : Int) (b6 : Bool) (r7 : List (List DV)) : z3_l2 n b0 r1 b2 r3 (i0 + 1) j5 b6 r7 =
 bif decide (j5 < (↑(List.length r1) : Int)) then
 if 0 ≤ j5 then
 if j5 < (↑(List.length r1) : Int) then
 obind (z32_v n (Row.S (List.getD r1 (Int.toNat j5) []) 0) (Row.B (List.getD r1 (Int.toNat j5) []) 1) (Row.I (List.getD r1 (Int.toNat j5) []) 2) (Row.S (List.getD r1 (Int.toNat j5) []) 3) b6 r7) fun y8 =>
 bif y8.fst then
 some (j5, (((y8.snd.fst.fst.fst, y8.snd.fst.fst.snd), ()), ()))
 else z3_l2 n b0 r1 b2 r3 i0 (IntKind.wrap IntKind.i64 (j5 + 1)) y8.snd.fst.fst.fst y8.snd.fst.fst.snd
 else none
 else none
 else some (-1, (((b6, r7), ()), ())) := by kernel_rfl
theorem z3_e (n : Nat) (b0 : Bool) (r1 : Rows) (b2 : Bool) (r3 : Rows) : z3_v n b0 r1 b2 r3 =
 z3_l2 n b0 r1 b2 r3 n 0 b2 r3 := by kernel_rfl
theorem z3_c (n : Nat) (b0 : Bool) (r1 : Rows) (b2 : Bool) (r3 : Rows) (y : Int × ((Bool × Rows) × Unit) × Unit) (h : z3_v n b0 r1 b2 r3 = some y) : Contract Tryz.prog 134 [AV.sl b0 kdT r1 Right.no, AV.fn 91 [AV.pl 1000 0]] [[AV.sl b2 [Kd.s] r3 Right.no]] (OSh.enc (OSh.plain (.i .i64) [[.sl [Kd.s]]]) y) :=
 ac (OSh.plain (.i .i64) [[.sl [Kd.s]]]) (z3_σok n) Tryz.func134 (by decide) h
def z9_lv : Live := []
def z9_σ (n : Nat) : Spec := (inst 134 [.sl kdT, .fn 91 [.pl 1000 0]] [[.sl [Kd.s]]] (OSh.plain (.i .i64) [[.sl [Kd.s]]]) (fun x e => z3_v n x.1.1 x.1.2 e.1.1.1 e.1.1.2) Spec.none)
theorem z9_σok (n : Nat) : SpecOk Tryz.prog (z9_σ n) := (inst_ok (fun x e y h => z3_c n x.1.1 x.1.2 e.1.1.1 e.1.1.2 y h) (SpecOk.none _))
def z9_Φ (n : Nat) : Orc := with_ Tryz.prog (z9_σ n) [] n 0 hsL
def z9_v (n : Nat) (b0 : Bool) (r1 : Rows) (b2 : Bool) (r3 : Rows) : Option (Bool × ((Bool × Rows) × Unit) × Unit) :=
 DM.denFn tm (z9_Φ n) z9_lv n Tryz.f90 false [AV.sl b0 kdT r1 Right.no, AV.fn 91 [AV.pl 1000 0]] [[AV.sl b2 [Kd.s] r3 Right.no]] (OSh.chk (OSh.plain (.b) [[.sl [Kd.s]]]))
theorem z9_e (n : Nat) (b0 : Bool) (r1 : Rows) (b2 : Bool) (r3 : Rows) : z9_v n b0 r1 b2 r3 =
 obind (z3_v n b0 r1 b2 r3) fun y4 =>
 some (decide (y4.fst ≥ 0), (((y4.snd.fst.fst.fst, y4.snd.fst.fst.snd), ()), ())) := by kernel_rfl
theorem z9_c (n : Nat) (b0 : Bool) (r1 : Rows) (b2 : Bool) (r3 : Rows) (y : Bool × ((Bool × Rows) × Unit) × Unit) (h : z9_v n b0 r1 b2 r3 = some y) : Contract Tryz.prog 90 [AV.sl b0 kdT r1 Right.no, AV.fn 91 [AV.pl 1000 0]] [[AV.sl b2 [Kd.s] r3 Right.no]] (OSh.enc (OSh.plain (.b) [[.sl [Kd.s]]]) y) :=
 ac (OSh.plain (.b) [[.sl [Kd.s]]]) (z9_σok n) Tryz.func90 (by decide) h
def z56_lv : Live := []
def z56_σ (n : Nat) : Spec := (inst 89 [.agg [.s, .b, .i .i64, .s, .s, .sl kdT, .s, .b, .i .i64, .s, .sl kdL]] [] (OSh.plain (.slt [Kd.s] 0) []) (fun x e => z66_v n x.1.1 x.1.2.1 x.1.2.2.1 x.1.2.2.2.1 x.1.2.2.2.2.1 x.1.2.2.2.2.2.1.1 x.1.2.2.2.2.2.1.2 x.1.2.2.2.2.2.2.1 x.1.2.2.2.2.2.2.2.1 x.1.2.2.2.2.2.2.2.2.1 x.1.2.2.2.2.2.2.2.2.2.1 x.1.2.2.2.2.2.2.2.2.2.2.1.1 x.1.2.2.2.2.2.2.2.2.2.2.1.2) (inst 90 [.sl kdT, .fn 91 [.pl 1000 0]] [[.sl [Kd.s]]] (OSh.plain (.b) [[.sl [Kd.s]]]) (fun x e => z9_v n x.1.1 x.1.2 e.1.1.1 e.1.1.2) Spec.none))
theorem z56_σok (n : Nat) : SpecOk Tryz.prog (z56_σ n) := (inst_ok (fun x e y h => z66_c n x.1.1 x.1.2.1 x.1.2.2.1 x.1.2.2.2.1 x.1.2.2.2.2.1 x.1.2.2.2.2.2.1.1 x.1.2.2.2.2.2.1.2 x.1.2.2.2.2.2.2.1 x.1.2.2.2.2.2.2.2.1 x.1.2.2.2.2.2.2.2.2.1 x.1.2.2.2.2.2.2.2.2.2.1 x.1.2.2.2.2.2.2.2.2.2.2.1.1 x.1.2.2.2.2.2.2.2.2.2.2.1.2 y h) (inst_ok (fun x e y h => z9_c n x.1.1 x.1.2 e.1.1.1 e.1.1.2 y h) (SpecOk.none _)))
def z56_Φ (n : Nat) : Orc := with_ Tryz.prog (z56_σ n) [] n 0 hsL
def z56_v (n : Nat) (s0 : ByteArray) (b1 : Bool) (j2 : Int) (s3 : ByteArray) (s4 : ByteArray) (b5 : Bool) (r6 : Rows) (s7 : ByteArray) (b8 : Bool) (j9 : Int) (s10 : ByteArray) (b11 : Bool) (r12 : Rows) : Option (Bool × Unit) :=
 DM.denFn tm (z56_Φ n) z56_lv n Tryz.f41 false [AV.agg [aS s0, aB b1, aI j2, aS s3, aS s4, AV.sl b5 kdT r6 Right.no, aS s7, aB b8, aI j9, aS s10, AV.sl b11 kdL r12 Right.no]] [] (OSh.chk (OSh.plain (.b) []))
theorem z56_e (n : Nat) (s0 : ByteArray) (b1 : Bool) (j2 : Int) (s3 : ByteArray) (s4 : ByteArray) (b5 : Bool) (r6 : Rows) (s7 : ByteArray) (b8 : Bool) (j9 : Int) (s10 : ByteArray) (b11 : Bool) (r12 : Rows) : z56_v n s0 b1 j2 s3 s4 b5 r6 s7 b8 j9 s10 b11 r12 =
 obind (z66_v n s0 b1 j2 s3 s4 b5 r6 s7 b8 j9 s10 b11 r12) fun y13 =>
 if (List.length [[DV.val (Value.string s7), DV.val (Value.bool b8), DV.val (Value.int .i64 j9), DV.val (Value.string s10)]] + List.length r6) * 48 ≤ 140737488355328 then
 bif List.isEmpty [[DV.val (Value.string s7), DV.val (Value.bool b8), DV.val (Value.int .i64 j9), DV.val (Value.string s10)]] || !List.isEmpty r6 then
 obind (z9_v n (false && List.isEmpty r6) (appX [[DV.val (Value.string s7), DV.val (Value.bool b8), DV.val (Value.int .i64 j9), DV.val (Value.string s10)]] r6) y13.fst.fst y13.fst.snd) fun y14 =>
 some (y14.fst, ())
 else obind (z9_v n (false && List.isEmpty r6) (appX [[DV.val (Value.string s7), DV.val (Value.bool b8), DV.val (Value.int .i64 j9), DV.val (Value.string s10)]] r6) y13.fst.fst y13.fst.snd) fun y15 =>
 some (y15.fst, ())
 else none := by kernel_rfl
theorem z56_c (n : Nat) (s0 : ByteArray) (b1 : Bool) (j2 : Int) (s3 : ByteArray) (s4 : ByteArray) (b5 : Bool) (r6 : Rows) (s7 : ByteArray) (b8 : Bool) (j9 : Int) (s10 : ByteArray) (b11 : Bool) (r12 : Rows) (y : Bool × Unit) (h : z56_v n s0 b1 j2 s3 s4 b5 r6 s7 b8 j9 s10 b11 r12 = some y) : Contract Tryz.prog 41 [AV.agg [aS s0, aB b1, aI j2, aS s3, aS s4, AV.sl b5 kdT r6 Right.no, aS s7, aB b8, aI j9, aS s10, AV.sl b11 kdL r12 Right.no]] [] (OSh.enc (OSh.plain (.b) []) y) :=
 ac (OSh.plain (.b) []) (z56_σok n) Tryz.func41 (by decide) h
def z19_lv : Live := [(5, [5, 17, 18, 19], [16, 1000, 1001, 1002, 1003])]
def z19_σ (n : Nat) : Spec := (inst 37 [.agg [.s, .b, .i .i64, .s, .s, .sl kdT, .s, .b, .i .i64, .s, .sl kdL]] [] (OSh.plain (.tup [.s, .i .i64]) []) (fun x e => z82_v n x.1.1 x.1.2.1 x.1.2.2.1 x.1.2.2.2.1 x.1.2.2.2.2.1 x.1.2.2.2.2.2.1.1 x.1.2.2.2.2.2.1.2 x.1.2.2.2.2.2.2.1 x.1.2.2.2.2.2.2.2.1 x.1.2.2.2.2.2.2.2.2.1 x.1.2.2.2.2.2.2.2.2.2.1 x.1.2.2.2.2.2.2.2.2.2.2.1.1 x.1.2.2.2.2.2.2.2.2.2.2.1.2) (inst 38 [.agg [.s, .b, .i .i64, .s, .s, .sl kdT, .s, .b, .i .i64, .s, .sl kdL]] [] (OSh.plain (.i .i64) []) (fun x e => z39_v n x.1.1 x.1.2.1 x.1.2.2.1 x.1.2.2.2.1 x.1.2.2.2.2.1 x.1.2.2.2.2.2.1.1 x.1.2.2.2.2.2.1.2 x.1.2.2.2.2.2.2.1 x.1.2.2.2.2.2.2.2.1 x.1.2.2.2.2.2.2.2.2.1 x.1.2.2.2.2.2.2.2.2.2.1 x.1.2.2.2.2.2.2.2.2.2.2.1.1 x.1.2.2.2.2.2.2.2.2.2.2.1.2) (inst 39 [.agg [.s, .b, .i .i64, .s, .s, .sl kdT, .s, .b, .i .i64, .s, .sl kdL], .pl 1000 1000000000] [[.nilf, .arr [Kd.s, Kd.i .i64]]] (OSh.plain (.i .i64) [[.nilf, .arr [Kd.s, Kd.i .i64]]]) (fun x e => z7_v n x.1.1 x.1.2.1 x.1.2.2.1 x.1.2.2.2.1 x.1.2.2.2.2.1 x.1.2.2.2.2.2.1.1 x.1.2.2.2.2.2.1.2 x.1.2.2.2.2.2.2.1 x.1.2.2.2.2.2.2.2.1 x.1.2.2.2.2.2.2.2.2.1 x.1.2.2.2.2.2.2.2.2.2.1 x.1.2.2.2.2.2.2.2.2.2.2.1.1 x.1.2.2.2.2.2.2.2.2.2.2.1.2 e.1.2.1) (inst 40 [.agg [.s, .b, .i .i64, .s, .s, .sl kdT, .s, .b, .i .i64, .s, .sl kdL]] [] (OSh.plain (.i .i64) []) (fun x e => z60_v n x.1.1 x.1.2.1 x.1.2.2.1 x.1.2.2.2.1 x.1.2.2.2.2.1 x.1.2.2.2.2.2.1.1 x.1.2.2.2.2.2.1.2 x.1.2.2.2.2.2.2.1 x.1.2.2.2.2.2.2.2.1 x.1.2.2.2.2.2.2.2.2.1 x.1.2.2.2.2.2.2.2.2.2.1 x.1.2.2.2.2.2.2.2.2.2.2.1.1 x.1.2.2.2.2.2.2.2.2.2.2.1.2) (inst 41 [.agg [.s, .b, .i .i64, .s, .s, .sl kdT, .s, .b, .i .i64, .s, .sl kdL]] [] (OSh.plain (.b) []) (fun x e => z56_v n x.1.1 x.1.2.1 x.1.2.2.1 x.1.2.2.2.1 x.1.2.2.2.2.1 x.1.2.2.2.2.2.1.1 x.1.2.2.2.2.2.1.2 x.1.2.2.2.2.2.2.1 x.1.2.2.2.2.2.2.2.1 x.1.2.2.2.2.2.2.2.2.1 x.1.2.2.2.2.2.2.2.2.2.1 x.1.2.2.2.2.2.2.2.2.2.2.1.1 x.1.2.2.2.2.2.2.2.2.2.2.1.2) Spec.none)))))
theorem z19_σok (n : Nat) : SpecOk Tryz.prog (z19_σ n) := (inst_ok (fun x e y h => z82_c n x.1.1 x.1.2.1 x.1.2.2.1 x.1.2.2.2.1 x.1.2.2.2.2.1 x.1.2.2.2.2.2.1.1 x.1.2.2.2.2.2.1.2 x.1.2.2.2.2.2.2.1 x.1.2.2.2.2.2.2.2.1 x.1.2.2.2.2.2.2.2.2.1 x.1.2.2.2.2.2.2.2.2.2.1 x.1.2.2.2.2.2.2.2.2.2.2.1.1 x.1.2.2.2.2.2.2.2.2.2.2.1.2 y h) (inst_ok (fun x e y h => z39_c n x.1.1 x.1.2.1 x.1.2.2.1 x.1.2.2.2.1 x.1.2.2.2.2.1 x.1.2.2.2.2.2.1.1 x.1.2.2.2.2.2.1.2 x.1.2.2.2.2.2.2.1 x.1.2.2.2.2.2.2.2.1 x.1.2.2.2.2.2.2.2.2.1 x.1.2.2.2.2.2.2.2.2.2.1 x.1.2.2.2.2.2.2.2.2.2.2.1.1 x.1.2.2.2.2.2.2.2.2.2.2.1.2 y h) (inst_ok (fun x e y h => z7_c n x.1.1 x.1.2.1 x.1.2.2.1 x.1.2.2.2.1 x.1.2.2.2.2.1 x.1.2.2.2.2.2.1.1 x.1.2.2.2.2.2.1.2 x.1.2.2.2.2.2.2.1 x.1.2.2.2.2.2.2.2.1 x.1.2.2.2.2.2.2.2.2.1 x.1.2.2.2.2.2.2.2.2.2.1 x.1.2.2.2.2.2.2.2.2.2.2.1.1 x.1.2.2.2.2.2.2.2.2.2.2.1.2 e.1.2.1 y h) (inst_ok (fun x e y h => z60_c n x.1.1 x.1.2.1 x.1.2.2.1 x.1.2.2.2.1 x.1.2.2.2.2.1 x.1.2.2.2.2.2.1.1 x.1.2.2.2.2.2.1.2 x.1.2.2.2.2.2.2.1 x.1.2.2.2.2.2.2.2.1 x.1.2.2.2.2.2.2.2.2.1 x.1.2.2.2.2.2.2.2.2.2.1 x.1.2.2.2.2.2.2.2.2.2.2.1.1 x.1.2.2.2.2.2.2.2.2.2.2.1.2 y h) (inst_ok (fun x e y h => z56_c n x.1.1 x.1.2.1 x.1.2.2.1 x.1.2.2.2.1 x.1.2.2.2.2.1 x.1.2.2.2.2.2.1.1 x.1.2.2.2.2.2.1.2 x.1.2.2.2.2.2.2.1 x.1.2.2.2.2.2.2.2.1 x.1.2.2.2.2.2.2.2.2.1 x.1.2.2.2.2.2.2.2.2.2.1 x.1.2.2.2.2.2.2.2.2.2.2.1.1 x.1.2.2.2.2.2.2.2.2.2.2.1.2 y h) (SpecOk.none _))))))
def z19_Φ (n : Nat) : Orc := with_ Tryz.prog (z19_σ n) [] n 0 hsL
def z19_v (n : Nat) (b0 : Bool) (r1 : Rows) : Option ((Int × Int × Int × Unit) × Unit) :=
 DM.denFn tm (z19_Φ n) z19_lv n Tryz.f19 false [AV.sl b0 kdR r1 Right.no] [] (OSh.chk (OSh.plain (.tup [.i .i64, .i .i64, .i .i64]) []))
def z19_l5 (n : Nat) (b0 : Bool) (r1 : Rows) (i0 : Nat) (j7 : Int) (r8 : List (List DV)) : Option ((Int × Int × Int × Unit) × Unit) :=
 DM.loopFn tm (z19_Φ n) z19_lv n Tryz.f19 false [] (OSh.chk (OSh.plain (.tup [.i .i64, .i .i64, .i .i64]) [])) 5 [] i0 (St.mk ([Jk, Jk, Jk, Jk, Jk, AV.pl 16 1000000000, Jk, Jk, Jk, Jk, Jk, Jk, Jk, Jk, Jk, Jk, Jk, AV.sl b0 kdR r1 Right.no, AV.dv (DV.val (Value.int .i64 (↑(List.length r1) : Int))), aI j7] ++ jk 35) [(16, [AV.dv (DV.val Value.nilFunc), AV.arr [Kd.s, Kd.i .i64] r8])])
theorem z19_s5 (n : Nat) (b0 : Bool) (r1 : Rows) (i0 : Nat) (j7 : Int) (r8 : List (List DV)) : z19_l5 n b0 r1 (i0 + 1) j7 r8 =
 bif decide (j7 < (↑(List.length r1) : Int)) then
 if 0 ≤ j7 then
 if j7 < (↑(List.length r1) : Int) then
 obind (z82_v n (Row.S (List.getD r1 (Int.toNat j7) []) 0) (Row.B (List.getD r1 (Int.toNat j7) []) 1) (Row.I (List.getD r1 (Int.toNat j7) []) 2) (Row.S (List.getD r1 (Int.toNat j7) []) 3) (Row.S (List.getD r1 (Int.toNat j7) []) 4) (Row.N (List.getD r1 (Int.toNat j7) []) 5) (Row.R (List.getD r1 (Int.toNat j7) []) 5) (Row.S (List.getD r1 (Int.toNat j7) []) 6) (Row.B (List.getD r1 (Int.toNat j7) []) 7) (Row.I (List.getD r1 (Int.toNat j7) []) 8) (Row.S (List.getD r1 (Int.toNat j7) []) 9) (Row.N (List.getD r1 (Int.toNat j7) []) 10) (Row.R (List.getD r1 (Int.toNat j7) []) 10)) fun y9 =>
 bif y9.fst.snd.fst != 0 then
 some ((100, (j7, (-1, ()))), ())
 else obind (z39_v n (Row.S (List.getD r1 (Int.toNat j7) []) 0) (Row.B (List.getD r1 (Int.toNat j7) []) 1) (Row.I (List.getD r1 (Int.toNat j7) []) 2) (Row.S (List.getD r1 (Int.toNat j7) []) 3) (Row.S (List.getD r1 (Int.toNat j7) []) 4) (Row.N (List.getD r1 (Int.toNat j7) []) 5) (Row.R (List.getD r1 (Int.toNat j7) []) 5) (Row.S (List.getD r1 (Int.toNat j7) []) 6) (Row.B (List.getD r1 (Int.toNat j7) []) 7) (Row.I (List.getD r1 (Int.toNat j7) []) 8) (Row.S (List.getD r1 (Int.toNat j7) []) 9) (Row.N (List.getD r1 (Int.toNat j7) []) 10) (Row.R (List.getD r1 (Int.toNat j7) []) 10)) fun y10 =>
 bif decide (y10.fst > -2) then
 some ((101, (j7, (y10.fst, ()))), ())
 else obind (z7_v n (Row.S (List.getD r1 (Int.toNat j7) []) 0) (Row.B (List.getD r1 (Int.toNat j7) []) 1) (Row.I (List.getD r1 (Int.toNat j7) []) 2) (Row.S (List.getD r1 (Int.toNat j7) []) 3) (Row.S (List.getD r1 (Int.toNat j7) []) 4) (Row.N (List.getD r1 (Int.toNat j7) []) 5) (Row.R (List.getD r1 (Int.toNat j7) []) 5) (Row.S (List.getD r1 (Int.toNat j7) []) 6) (Row.B (List.getD r1 (Int.toNat j7) []) 7) (Row.I (List.getD r1 (Int.toNat j7) []) 8) (Row.S (List.getD r1 (Int.toNat j7) []) 9) (Row.N (List.getD r1 (Int.toNat j7) []) 10) (Row.R (List.getD r1 (Int.toNat j7) []) 10) r8) fun y11 =>
 bif decide (y11.fst > -2) then
 some ((102, (j7, (y11.fst, ()))), ())
 else obind (z60_v n (Row.S (List.getD r1 (Int.toNat j7) []) 0) (Row.B (List.getD r1 (Int.toNat j7) []) 1) (Row.I (List.getD r1 (Int.toNat j7) []) 2) (Row.S (List.getD r1 (Int.toNat j7) []) 3) (Row.S (List.getD r1 (Int.toNat j7) []) 4) (Row.N (List.getD r1 (Int.toNat j7) []) 5) (Row.R (List.getD r1 (Int.toNat j7) []) 5) (Row.S (List.getD r1 (Int.toNat j7) []) 6) (Row.B (List.getD r1 (Int.toNat j7) []) 7) (Row.I (List.getD r1 (Int.toNat j7) []) 8) (Row.S (List.getD r1 (Int.toNat j7) []) 9) (Row.N (List.getD r1 (Int.toNat j7) []) 10) (Row.R (List.getD r1 (Int.toNat j7) []) 10)) fun y12 =>
 bif decide (y12.fst > -2) then
 some ((103, (j7, (y12.fst, ()))), ())
 else obind (z56_v n (Row.S (List.getD r1 (Int.toNat j7) []) 0) (Row.B (List.getD r1 (Int.toNat j7) []) 1) (Row.I (List.getD r1 (Int.toNat j7) []) 2) (Row.S (List.getD r1 (Int.toNat j7) []) 3) (Row.S (List.getD r1 (Int.toNat j7) []) 4) (Row.N (List.getD r1 (Int.toNat j7) []) 5) (Row.R (List.getD r1 (Int.toNat j7) []) 5) (Row.S (List.getD r1 (Int.toNat j7) []) 6) (Row.B (List.getD r1 (Int.toNat j7) []) 7) (Row.I (List.getD r1 (Int.toNat j7) []) 8) (Row.S (List.getD r1 (Int.toNat j7) []) 9) (Row.N (List.getD r1 (Int.toNat j7) []) 10) (Row.R (List.getD r1 (Int.toNat j7) []) 10)) fun y13 =>
 bif y13.fst then
 some ((104, (j7, (-1, ()))), ())
 else z19_l5 n b0 r1 i0 (IntKind.wrap IntKind.i64 (j7 + 1)) y11.snd.fst.snd.fst
 else none
 else none
 else some ((0, (-1, (-1, ()))), ()) := by kernel_rfl
theorem z19_e (n : Nat) (b0 : Bool) (r1 : Rows) : z19_v n b0 r1 =
 bif decide ((↑(List.length r1) : Int) > 16) then
 some ((81, (-1, (-1, ()))), ())
 else z19_l5 n b0 r1 n 0 [] := by kernel_rfl
theorem z19_c (n : Nat) (b0 : Bool) (r1 : Rows) (y : (Int × Int × Int × Unit) × Unit) (h : z19_v n b0 r1 = some y) : Contract Tryz.prog 19 [AV.sl b0 kdR r1 Right.no] [] (OSh.enc (OSh.plain (.tup [.i .i64, .i .i64, .i .i64]) []) y) :=
 ac (OSh.plain (.tup [.i .i64, .i .i64, .i .i64]) []) (z19_σok n) Tryz.func19 (by decide) h
def z41_lv : Live := [(3, [3, 6, 7, 8], [1000, 1001, 1002, 1003])]
def z41_σ (n : Nat) : Spec := Spec.none
theorem z41_σok (n : Nat) : SpecOk Tryz.prog (z41_σ n) := (SpecOk.none _)
def z41_Φ (n : Nat) : Orc := with_ Tryz.prog (z41_σ n) [] n 0 hsL
def z41_v (n : Nat) (b0 : Bool) (r1 : Rows) : Option ((Bool × Rows) × Unit) :=
 DM.denFn tm (z41_Φ n) z41_lv n Tryz.f43 true [AV.sl b0 [Kd.s] r1 Right.no] [] (OSh.chk (OSh.plain (.slt kdT 0) []))
def z41_l3 (n : Nat) (b0 : Bool) (r1 : Rows) (i0 : Nat) (b2 : Bool) (r3 : List (List DV)) (j4 : Int) : Option ((Bool × Rows) × Unit) :=
 DM.loopFn tm (z41_Φ n) z41_lv n Tryz.f43 true [] (OSh.chk (OSh.plain (.slt kdT 0) [])) 3 [] i0 (St.mk ([Jk, Jk, Jk, AV.sl b2 kdT r3 (Right.tok 3), Jk, Jk, AV.sl b0 [Kd.s] r1 Right.no, AV.dv (DV.val (Value.int .i64 (↑(List.length r1) : Int))), aI j4] ++ jk 10) [])
theorem z41_s3 (n : Nat) (b0 : Bool) (r1 : Rows) (i0 : Nat) (b2 : Bool) (r3 : List (List DV)) (j4 : Int) : z41_l3 n b0 r1 (i0 + 1) b2 r3 j4 =
 bif decide (j4 < (↑(List.length r1) : Int)) then
 if 0 ≤ j4 then
 if j4 < (↑(List.length r1) : Int) then
 if (List.length r3 + List.length [[DV.val (Value.string (Row.S (List.getD r1 (Int.toNat j4) []) 0)), DV.val (Value.bool false), DV.val (Value.int .i64 0), DV.val (Value.string (ByteArray.mk #[]))]]) * 48 ≤ 140737488355328 then
 z41_l3 n b0 r1 i0 (b2 && List.isEmpty [[DV.val (Value.string (Row.S (List.getD r1 (Int.toNat j4) []) 0)), DV.val (Value.bool false), DV.val (Value.int .i64 0), DV.val (Value.string (ByteArray.mk #[]))]]) (appX r3 [[DV.val (Value.string (Row.S (List.getD r1 (Int.toNat j4) []) 0)), DV.val (Value.bool false), DV.val (Value.int .i64 0), DV.val (Value.string (ByteArray.mk #[]))]]) (IntKind.wrap IntKind.i64 (j4 + 1))
 else none
 else none
 else none
 else some ((b2, r3), ()) := by kernel_rfl
theorem z41_e (n : Nat) (b0 : Bool) (r1 : Rows) : z41_v n b0 r1 =
 z41_l3 n b0 r1 n true [] 0 := by kernel_rfl
theorem z41_c (n : Nat) (b0 : Bool) (r1 : Rows) (y : (Bool × Rows) × Unit) (h : z41_v n b0 r1 = some y) : Contract Tryz.prog 43 [AV.sl b0 [Kd.s] r1 Right.no] [] (OSh.enc (OSh.plain (.slt kdT 0) []) y) :=
 ac (OSh.plain (.slt kdT 0) []) (z41_σok n) Tryz.func43 (by decide) h
def z79_lv : Live := [(3, [3, 6, 7, 8], [1000, 1001, 1002, 1003])]
def z79_σ (n : Nat) : Spec := Spec.none
theorem z79_σok (n : Nat) : SpecOk Tryz.prog (z79_σ n) := (SpecOk.none _)
def z79_Φ (n : Nat) : Orc := with_ Tryz.prog (z79_σ n) [] n 0 hsL
def z79_v (n : Nat) (b0 : Bool) (r1 : Rows) : Option ((Bool × Rows) × Unit) :=
 DM.denFn tm (z79_Φ n) z79_lv n Tryz.f45 true [AV.sl b0 kdL r1 Right.no] [] (OSh.chk (OSh.plain (.slt kdL 0) []))
def z79_l3 (n : Nat) (b0 : Bool) (r1 : Rows) (i0 : Nat) (b2 : Bool) (r3 : List (List DV)) (j4 : Int) : Option ((Bool × Rows) × Unit) :=
 DM.loopFn tm (z79_Φ n) z79_lv n Tryz.f45 true [] (OSh.chk (OSh.plain (.slt kdL 0) [])) 3 [] i0 (St.mk ([Jk, Jk, Jk, AV.sl b2 kdL r3 (Right.tok 3), Jk, Jk, AV.sl b0 kdL r1 Right.no, AV.dv (DV.val (Value.int .i64 (↑(List.length r1) : Int))), aI j4] ++ jk 13) [])
theorem z79_s3 (n : Nat) (b0 : Bool) (r1 : Rows) (i0 : Nat) (b2 : Bool) (r3 : List (List DV)) (j4 : Int) : z79_l3 n b0 r1 (i0 + 1) b2 r3 j4 =
 bif decide (j4 < (↑(List.length r1) : Int)) then
 if 0 ≤ j4 then
 if j4 < (↑(List.length r1) : Int) then
 if (0 + List.length (Row.R (List.getD r1 (Int.toNat j4) []) 5)) * 48 ≤ 140737488355328 then
 if (List.length r3 + List.length [[DV.val (Value.string (Row.S (List.getD r1 (Int.toNat j4) []) 0)), DV.val (Value.bool (Row.B (List.getD r1 (Int.toNat j4) []) 1)), DV.val (Value.int .i64 (Row.I (List.getD r1 (Int.toNat j4) []) 2)), DV.val (Value.string (Row.S (List.getD r1 (Int.toNat j4) []) 3)), DV.val (Value.string (Row.S (List.getD r1 (Int.toNat j4) []) 4)), DV.sl (true && List.isEmpty (Row.R (List.getD r1 (Int.toNat j4) []) 5)) kdT (appX [] (Row.R (List.getD r1 (Int.toNat j4) []) 5)), DV.val (Value.string (Row.S (List.getD r1 (Int.toNat j4) []) 6)), DV.val (Value.bool (Row.B (List.getD r1 (Int.toNat j4) []) 7)), DV.val (Value.int .i64 (Row.I (List.getD r1 (Int.toNat j4) []) 8)), DV.val (Value.string (Row.S (List.getD r1 (Int.toNat j4) []) 9))]]) * 136 ≤ 140737488355328 then
 z79_l3 n b0 r1 i0 (b2 && List.isEmpty [[DV.val (Value.string (Row.S (List.getD r1 (Int.toNat j4) []) 0)), DV.val (Value.bool (Row.B (List.getD r1 (Int.toNat j4) []) 1)), DV.val (Value.int .i64 (Row.I (List.getD r1 (Int.toNat j4) []) 2)), DV.val (Value.string (Row.S (List.getD r1 (Int.toNat j4) []) 3)), DV.val (Value.string (Row.S (List.getD r1 (Int.toNat j4) []) 4)), DV.sl (true && List.isEmpty (Row.R (List.getD r1 (Int.toNat j4) []) 5)) kdT (appX [] (Row.R (List.getD r1 (Int.toNat j4) []) 5)), DV.val (Value.string (Row.S (List.getD r1 (Int.toNat j4) []) 6)), DV.val (Value.bool (Row.B (List.getD r1 (Int.toNat j4) []) 7)), DV.val (Value.int .i64 (Row.I (List.getD r1 (Int.toNat j4) []) 8)), DV.val (Value.string (Row.S (List.getD r1 (Int.toNat j4) []) 9))]]) (appX r3 [[DV.val (Value.string (Row.S (List.getD r1 (Int.toNat j4) []) 0)), DV.val (Value.bool (Row.B (List.getD r1 (Int.toNat j4) []) 1)), DV.val (Value.int .i64 (Row.I (List.getD r1 (Int.toNat j4) []) 2)), DV.val (Value.string (Row.S (List.getD r1 (Int.toNat j4) []) 3)), DV.val (Value.string (Row.S (List.getD r1 (Int.toNat j4) []) 4)), DV.sl (true && List.isEmpty (Row.R (List.getD r1 (Int.toNat j4) []) 5)) kdT (appX [] (Row.R (List.getD r1 (Int.toNat j4) []) 5)), DV.val (Value.string (Row.S (List.getD r1 (Int.toNat j4) []) 6)), DV.val (Value.bool (Row.B (List.getD r1 (Int.toNat j4) []) 7)), DV.val (Value.int .i64 (Row.I (List.getD r1 (Int.toNat j4) []) 8)), DV.val (Value.string (Row.S (List.getD r1 (Int.toNat j4) []) 9))]]) (IntKind.wrap IntKind.i64 (j4 + 1))
 else none
 else none
 else none
 else none
 else some ((b2, r3), ()) := by kernel_rfl
theorem z79_e (n : Nat) (b0 : Bool) (r1 : Rows) : z79_v n b0 r1 =
 z79_l3 n b0 r1 n true [] 0 := by kernel_rfl
theorem z79_c (n : Nat) (b0 : Bool) (r1 : Rows) (y : (Bool × Rows) × Unit) (h : z79_v n b0 r1 = some y) : Contract Tryz.prog 45 [AV.sl b0 kdL r1 Right.no] [] (OSh.enc (OSh.plain (.slt kdL 0) []) y) :=
 ac (OSh.plain (.slt kdL 0) []) (z79_σok n) Tryz.func45 (by decide) h
end
end Go.Den
namespace Go.Den
noncomputable section
open Go.Proofs
set_option maxRecDepth 100000
def z80_lv : Live := [(4, [0, 3, 5, 6, 15, 16, 17], [3, 1000, 1001, 1002, 1003])]
def z80_σ (n : Nat) : Spec := (inst 42 [.i .i64] [] (OSh.plain (.s) []) (fun x e => strconv_Itoa_v n x.1) (inst 44 [.agg [.s, .b, .i .i64, .s, .s, .sl kdT, .s, .b, .i .i64, .s, .sl kdL], .i .i64] [] (OSh.plain (.slt [Kd.s] 0) []) (fun x e => z33_v n x.1.1 x.1.2.1 x.1.2.2.1 x.1.2.2.2.1 x.1.2.2.2.2.1 x.1.2.2.2.2.2.1.1 x.1.2.2.2.2.2.1.2 x.1.2.2.2.2.2.2.1 x.1.2.2.2.2.2.2.2.1 x.1.2.2.2.2.2.2.2.2.1 x.1.2.2.2.2.2.2.2.2.2.1 x.1.2.2.2.2.2.2.2.2.2.2.1.1 x.1.2.2.2.2.2.2.2.2.2.2.1.2 x.2.1) (inst 43 [.sl [Kd.s]] [] (OSh.plain (.slt kdT 0) []) (fun x e => z41_v n x.1.1 x.1.2) (inst 45 [.sl kdL] [] (OSh.plain (.slt kdL 0) []) (fun x e => z79_v n x.1.1 x.1.2) Spec.none))))
theorem z80_σok (n : Nat) : SpecOk Tryz.prog (z80_σ n) := (inst_ok (fun x e y h => strconv_Itoa_c n x.1 y h) (inst_ok (fun x e y h => z33_c n x.1.1 x.1.2.1 x.1.2.2.1 x.1.2.2.2.1 x.1.2.2.2.2.1 x.1.2.2.2.2.2.1.1 x.1.2.2.2.2.2.1.2 x.1.2.2.2.2.2.2.1 x.1.2.2.2.2.2.2.2.1 x.1.2.2.2.2.2.2.2.2.1 x.1.2.2.2.2.2.2.2.2.2.1 x.1.2.2.2.2.2.2.2.2.2.2.1.1 x.1.2.2.2.2.2.2.2.2.2.2.1.2 x.2.1 y h) (inst_ok (fun x e y h => z41_c n x.1.1 x.1.2 y h) (inst_ok (fun x e y h => z79_c n x.1.1 x.1.2 y h) (SpecOk.none _)))))
def z80_Φ (n : Nat) : Orc := with_ Tryz.prog (z80_σ n) [] n 0 [2000089, 1000048, 1000080, 1000081, 1000082, 1000083, 1000084, 1000093, 1000099, 1000102, 1000132]
def z80_v (n : Nat) (j0 : Int) (s1 : ByteArray) (b2 : Bool) (j3 : Int) (s4 : ByteArray) (s5 : ByteArray) (b6 : Bool) (r7 : Rows) (s8 : ByteArray) (b9 : Bool) (j10 : Int) (s11 : ByteArray) (b12 : Bool) (r13 : Rows) : Option ((Bool × Rows) × Unit) :=
 DM.denFn tm (z80_Φ n) z80_lv n Tryz.f20 true [aI j0, AV.agg [aS s1, aB b2, aI j3, aS s4, aS s5, AV.sl b6 kdT r7 Right.no, aS s8, aB b9, aI j10, aS s11, AV.sl b12 kdL r13 Right.no]] [] (OSh.chk (OSh.plain (.slt kdR 0) []))
def z80_l4 (n : Nat) (j0 : Int) (s1 : ByteArray) (b2 : Bool) (j3 : Int) (s4 : ByteArray) (s5 : ByteArray) (b6 : Bool) (r7 : Rows) (s8 : ByteArray) (b9 : Bool) (j10 : Int) (s11 : ByteArray) (b12 : Bool) (r13 : Rows) (i0 : Nat) (b23 : Bool) (r24 : List (List DV)) (j25 : Int) (b26 : Bool) (r27 : List (List DV)) : Option ((Bool × Rows) × Unit) :=
 DM.loopFn tm (z80_Φ n) z80_lv n Tryz.f20 true [] (OSh.chk (OSh.plain (.slt kdR 0) [])) 4 [] i0 (St.mk ([aI j0, Jk, Jk, AV.pl 3 0, Jk, AV.sl b26 kdR r27 (Right.tok 5), AV.sl b23 kdL r24 (Right.tok 6), Jk, Jk, Jk, Jk, Jk, Jk, Jk, Jk, AV.sl b12 kdL r13 Right.no, AV.dv (DV.val (Value.int .i64 (↑(List.length r13) : Int))), aI j25] ++ jk 88) [(3, [aS s1, aB b2, aI j3, aS s4, aS s5, AV.sl b6 kdT r7 Right.no, aS s8, aB b9, aI j10, aS s11, AV.sl b12 kdL r13 Right.no])])
theorem z80_s4 (n : Nat) (j0 : Int) (s1 : ByteArray) (b2 : Bool) (j3 : Int) (s4 : ByteArray) (s5 : ByteArray) (b6 : Bool) (r7 : Rows) (s8 : ByteArray) (b9 : Bool) (j10 : Int) (s11 : ByteArray) (b12 : Bool) (r13 : Rows) (i0 : Nat) (b23 : Bool) (r24 : List (List DV)) (j25 : Int) (b26 : Bool) (r27 : List (List DV)) : z80_l4 n j0 s1 b2 j3 s4 s5 b6 r7 s8 b9 j10 s11 b12 r13 (i0 + 1) b23 r24 j25 b26 r27 =
 bif decide (j25 < (↑(List.length r13) : Int)) then
 if 0 ≤ j25 then
 if j25 < (↑(List.length r13) : Int) then
 bif Row.S (List.getD r13 (Int.toNat j25) []) 6 == ByteArray.mk #[] && (Row.B (List.getD r13 (Int.toNat j25) []) 7 == false && (Row.I (List.getD r13 (Int.toNat j25) []) 8 == 0 && (Row.S (List.getD r13 (Int.toNat j25) []) 9 == ByteArray.mk #[] && true))) then
 if (List.length r24 + List.length [[DV.val (Value.string (Row.S (List.getD r13 (Int.toNat j25) []) 0)), DV.val (Value.bool (Row.B (List.getD r13 (Int.toNat j25) []) 1)), DV.val (Value.int .i64 (Row.I (List.getD r13 (Int.toNat j25) []) 2)), DV.val (Value.string (Row.S (List.getD r13 (Int.toNat j25) []) 3)), DV.val (Value.string (Row.S (List.getD r13 (Int.toNat j25) []) 4)), DV.sl (Row.N (List.getD r13 (Int.toNat j25) []) 5) kdT (Row.R (List.getD r13 (Int.toNat j25) []) 5), DV.val (Value.string (ByteArray.mk #[])), DV.val (Value.bool false), DV.val (Value.int .i64 0), DV.val (Value.string (ByteArray.mk #[]))]]) * 136 ≤ 140737488355328 then
 z80_l4 n j0 s1 b2 j3 s4 s5 b6 r7 s8 b9 j10 s11 b12 r13 i0 (b23 && List.isEmpty [[DV.val (Value.string (Row.S (List.getD r13 (Int.toNat j25) []) 0)), DV.val (Value.bool (Row.B (List.getD r13 (Int.toNat j25) []) 1)), DV.val (Value.int .i64 (Row.I (List.getD r13 (Int.toNat j25) []) 2)), DV.val (Value.string (Row.S (List.getD r13 (Int.toNat j25) []) 3)), DV.val (Value.string (Row.S (List.getD r13 (Int.toNat j25) []) 4)), DV.sl (Row.N (List.getD r13 (Int.toNat j25) []) 5) kdT (Row.R (List.getD r13 (Int.toNat j25) []) 5), DV.val (Value.string (ByteArray.mk #[])), DV.val (Value.bool false), DV.val (Value.int .i64 0), DV.val (Value.string (ByteArray.mk #[]))]]) (appX r24 [[DV.val (Value.string (Row.S (List.getD r13 (Int.toNat j25) []) 0)), DV.val (Value.bool (Row.B (List.getD r13 (Int.toNat j25) []) 1)), DV.val (Value.int .i64 (Row.I (List.getD r13 (Int.toNat j25) []) 2)), DV.val (Value.string (Row.S (List.getD r13 (Int.toNat j25) []) 3)), DV.val (Value.string (Row.S (List.getD r13 (Int.toNat j25) []) 4)), DV.sl (Row.N (List.getD r13 (Int.toNat j25) []) 5) kdT (Row.R (List.getD r13 (Int.toNat j25) []) 5), DV.val (Value.string (ByteArray.mk #[])), DV.val (Value.bool false), DV.val (Value.int .i64 0), DV.val (Value.string (ByteArray.mk #[]))]]) (IntKind.wrap IntKind.i64 (j25 + 1)) b26 r27
 else none
 else bif Row.S (List.getD r13 (Int.toNat j25) []) 6 == s1 && (Row.B (List.getD r13 (Int.toNat j25) []) 7 == b2 && (Row.I (List.getD r13 (Int.toNat j25) []) 8 == j3 && (Row.S (List.getD r13 (Int.toNat j25) []) 9 == s4 && true))) then
 if (List.length r24 + List.length [[DV.val (Value.string (Row.S (List.getD r13 (Int.toNat j25) []) 0)), DV.val (Value.bool (Row.B (List.getD r13 (Int.toNat j25) []) 1)), DV.val (Value.int .i64 (Row.I (List.getD r13 (Int.toNat j25) []) 2)), DV.val (Value.string (Row.S (List.getD r13 (Int.toNat j25) []) 3)), DV.val (Value.string (Row.S (List.getD r13 (Int.toNat j25) []) 4)), DV.sl (Row.N (List.getD r13 (Int.toNat j25) []) 5) kdT (Row.R (List.getD r13 (Int.toNat j25) []) 5), DV.val (Value.string (ByteArray.mk #[])), DV.val (Value.bool false), DV.val (Value.int .i64 0), DV.val (Value.string (ByteArray.mk #[]))]]) * 136 ≤ 140737488355328 then
 z80_l4 n j0 s1 b2 j3 s4 s5 b6 r7 s8 b9 j10 s11 b12 r13 i0 (b23 && List.isEmpty [[DV.val (Value.string (Row.S (List.getD r13 (Int.toNat j25) []) 0)), DV.val (Value.bool (Row.B (List.getD r13 (Int.toNat j25) []) 1)), DV.val (Value.int .i64 (Row.I (List.getD r13 (Int.toNat j25) []) 2)), DV.val (Value.string (Row.S (List.getD r13 (Int.toNat j25) []) 3)), DV.val (Value.string (Row.S (List.getD r13 (Int.toNat j25) []) 4)), DV.sl (Row.N (List.getD r13 (Int.toNat j25) []) 5) kdT (Row.R (List.getD r13 (Int.toNat j25) []) 5), DV.val (Value.string (ByteArray.mk #[])), DV.val (Value.bool false), DV.val (Value.int .i64 0), DV.val (Value.string (ByteArray.mk #[]))]]) (appX r24 [[DV.val (Value.string (Row.S (List.getD r13 (Int.toNat j25) []) 0)), DV.val (Value.bool (Row.B (List.getD r13 (Int.toNat j25) []) 1)), DV.val (Value.int .i64 (Row.I (List.getD r13 (Int.toNat j25) []) 2)), DV.val (Value.string (Row.S (List.getD r13 (Int.toNat j25) []) 3)), DV.val (Value.string (Row.S (List.getD r13 (Int.toNat j25) []) 4)), DV.sl (Row.N (List.getD r13 (Int.toNat j25) []) 5) kdT (Row.R (List.getD r13 (Int.toNat j25) []) 5), DV.val (Value.string (ByteArray.mk #[])), DV.val (Value.bool false), DV.val (Value.int .i64 0), DV.val (Value.string (ByteArray.mk #[]))]]) (IntKind.wrap IntKind.i64 (j25 + 1)) b26 r27
 else none
 else obind (strconv_Itoa_v n j0) fun y28 =>
 if ByteArray.size y28.fst + 1 < 4611686018427387904 then
 obind (strconv_Itoa_v n j25) fun y29 =>
 if ByteArray.size (y28.fst ++ ByteArray.mk #[46]) + ByteArray.size y29.fst < 4611686018427387904 then
 obind (z33_v n s1 b2 j3 s4 s5 b6 r7 s8 b9 j10 s11 b12 r13 j25) fun y30 =>
 obind (z41_v n y30.fst.fst y30.fst.snd) fun y31 =>
 obind (z33_v n s1 b2 j3 s4 s5 b6 r7 s8 b9 j10 s11 b12 r13 (IntKind.wrap IntKind.i64 (j25 + 1))) fun y32 =>
 obind (z41_v n y32.fst.fst y32.fst.snd) fun y33 =>
 if 4 + ByteArray.size (y28.fst ++ ByteArray.mk #[46] ++ y29.fst) < 4611686018427387904 then
 obind (z79_v n b23 r24) fun y34 =>
 if 5 + ByteArray.size (y28.fst ++ ByteArray.mk #[46] ++ y29.fst) < 4611686018427387904 then
 obind (z79_v n false ([[DV.val (Value.string s1), DV.val (Value.bool b2), DV.val (Value.int .i64 j3), DV.val (Value.string s4), DV.val (Value.string (ByteArray.mk #[126, 97, 115, 107] ++ (y28.fst ++ ByteArray.mk #[46] ++ y29.fst))), DV.sl y31.fst.fst kdT y31.fst.snd, DV.val (Value.string (ByteArray.mk #[])), DV.val (Value.bool false), DV.val (Value.int .i64 0), DV.val (Value.string (ByteArray.mk #[]))], [DV.val (Value.string (Row.S (List.getD r13 (Int.toNat j25) []) 0)), DV.val (Value.bool (Row.B (List.getD r13 (Int.toNat j25) []) 1)), DV.val (Value.int .i64 (Row.I (List.getD r13 (Int.toNat j25) []) 2)), DV.val (Value.string (Row.S (List.getD r13 (Int.toNat j25) []) 3)), DV.val (Value.string (Row.S (List.getD r13 (Int.toNat j25) []) 4)), DV.sl (Row.N (List.getD r13 (Int.toNat j25) []) 5) kdT (Row.R (List.getD r13 (Int.toNat j25) []) 5), DV.val (Value.string (ByteArray.mk #[])), DV.val (Value.bool false), DV.val (Value.int .i64 0), DV.val (Value.string (ByteArray.mk #[]))]])) fun y35 =>
 if (List.length r27 + List.length [[DV.val (Value.string s1), DV.val (Value.bool b2), DV.val (Value.int .i64 j3), DV.val (Value.string s4), DV.val (Value.string (ByteArray.mk #[126, 97, 115, 107] ++ (y28.fst ++ ByteArray.mk #[46] ++ y29.fst))), DV.sl y31.fst.fst kdT y31.fst.snd, DV.val (Value.string (Row.S (List.getD r13 (Int.toNat j25) []) 6)), DV.val (Value.bool (Row.B (List.getD r13 (Int.toNat j25) []) 7)), DV.val (Value.int .i64 (Row.I (List.getD r13 (Int.toNat j25) []) 8)), DV.val (Value.string (Row.S (List.getD r13 (Int.toNat j25) []) 9)), DV.sl y34.fst.fst kdL y34.fst.snd], [DV.val (Value.string (Row.S (List.getD r13 (Int.toNat j25) []) 6)), DV.val (Value.bool (Row.B (List.getD r13 (Int.toNat j25) []) 7)), DV.val (Value.int .i64 (Row.I (List.getD r13 (Int.toNat j25) []) 8)), DV.val (Value.string (Row.S (List.getD r13 (Int.toNat j25) []) 9)), DV.val (Value.string (ByteArray.mk #[126, 116, 101, 108, 108] ++ (y28.fst ++ ByteArray.mk #[46] ++ y29.fst))), DV.sl y33.fst.fst kdT y33.fst.snd, DV.val (Value.string s1), DV.val (Value.bool b2), DV.val (Value.int .i64 j3), DV.val (Value.string s4), DV.sl y35.fst.fst kdL y35.fst.snd]]) * 160 ≤ 140737488355328 then
 if 5 + ByteArray.size (y28.fst ++ ByteArray.mk #[46] ++ y29.fst) < 4611686018427387904 then
 z80_l4 n j0 s1 b2 j3 s4 s5 b6 r7 s8 b9 j10 s11 b12 r13 i0 false ([[DV.val (Value.string (Row.S (List.getD r13 (Int.toNat j25) []) 6)), DV.val (Value.bool (Row.B (List.getD r13 (Int.toNat j25) []) 7)), DV.val (Value.int .i64 (Row.I (List.getD r13 (Int.toNat j25) []) 8)), DV.val (Value.string (Row.S (List.getD r13 (Int.toNat j25) []) 9)), DV.val (Value.string (ByteArray.mk #[126, 116, 101, 108, 108] ++ (y28.fst ++ ByteArray.mk #[46] ++ y29.fst))), DV.sl y33.fst.fst kdT y33.fst.snd, DV.val (Value.string (ByteArray.mk #[])), DV.val (Value.bool false), DV.val (Value.int .i64 0), DV.val (Value.string (ByteArray.mk #[]))]]) (IntKind.wrap IntKind.i64 (j25 + 1)) (b26 && List.isEmpty [[DV.val (Value.string s1), DV.val (Value.bool b2), DV.val (Value.int .i64 j3), DV.val (Value.string s4), DV.val (Value.string (ByteArray.mk #[126, 97, 115, 107] ++ (y28.fst ++ ByteArray.mk #[46] ++ y29.fst))), DV.sl y31.fst.fst kdT y31.fst.snd, DV.val (Value.string (Row.S (List.getD r13 (Int.toNat j25) []) 6)), DV.val (Value.bool (Row.B (List.getD r13 (Int.toNat j25) []) 7)), DV.val (Value.int .i64 (Row.I (List.getD r13 (Int.toNat j25) []) 8)), DV.val (Value.string (Row.S (List.getD r13 (Int.toNat j25) []) 9)), DV.sl y34.fst.fst kdL y34.fst.snd], [DV.val (Value.string (Row.S (List.getD r13 (Int.toNat j25) []) 6)), DV.val (Value.bool (Row.B (List.getD r13 (Int.toNat j25) []) 7)), DV.val (Value.int .i64 (Row.I (List.getD r13 (Int.toNat j25) []) 8)), DV.val (Value.string (Row.S (List.getD r13 (Int.toNat j25) []) 9)), DV.val (Value.string (ByteArray.mk #[126, 116, 101, 108, 108] ++ (y28.fst ++ ByteArray.mk #[46] ++ y29.fst))), DV.sl y33.fst.fst kdT y33.fst.snd, DV.val (Value.string s1), DV.val (Value.bool b2), DV.val (Value.int .i64 j3), DV.val (Value.string s4), DV.sl y35.fst.fst kdL y35.fst.snd]]) (appX r27 [[DV.val (Value.string s1), DV.val (Value.bool b2), DV.val (Value.int .i64 j3), DV.val (Value.string s4), DV.val (Value.string (ByteArray.mk #[126, 97, 115, 107] ++ (y28.fst ++ ByteArray.mk #[46] ++ y29.fst))), DV.sl y31.fst.fst kdT y31.fst.snd, DV.val (Value.string (Row.S (List.getD r13 (Int.toNat j25) []) 6)), DV.val (Value.bool (Row.B (List.getD r13 (Int.toNat j25) []) 7)), DV.val (Value.int .i64 (Row.I (List.getD r13 (Int.toNat j25) []) 8)), DV.val (Value.string (Row.S (List.getD r13 (Int.toNat j25) []) 9)), DV.sl y34.fst.fst kdL y34.fst.snd], [DV.val (Value.string (Row.S (List.getD r13 (Int.toNat j25) []) 6)), DV.val (Value.bool (Row.B (List.getD r13 (Int.toNat j25) []) 7)), DV.val (Value.int .i64 (Row.I (List.getD r13 (Int.toNat j25) []) 8)), DV.val (Value.string (Row.S (List.getD r13 (Int.toNat j25) []) 9)), DV.val (Value.string (ByteArray.mk #[126, 116, 101, 108, 108] ++ (y28.fst ++ ByteArray.mk #[46] ++ y29.fst))), DV.sl y33.fst.fst kdT y33.fst.snd, DV.val (Value.string s1), DV.val (Value.bool b2), DV.val (Value.int .i64 j3), DV.val (Value.string s4), DV.sl y35.fst.fst kdL y35.fst.snd]])
 else none
 else none
 else none
 else none
 else none
 else none
 else none
 else none
 else if (0 + List.length r7) * 48 ≤ 140737488355328 then
 obind (z79_v n b23 r24) fun y36 =>
 if (List.length r27 + List.length [[DV.val (Value.string s1), DV.val (Value.bool b2), DV.val (Value.int .i64 j3), DV.val (Value.string s4), DV.val (Value.string s5), DV.sl (true && List.isEmpty r7) kdT (appX [] r7), DV.val (Value.string s8), DV.val (Value.bool b9), DV.val (Value.int .i64 j10), DV.val (Value.string s11), DV.sl y36.fst.fst kdL y36.fst.snd]]) * 160 ≤ 140737488355328 then
 some ((b26 && List.isEmpty [[DV.val (Value.string s1), DV.val (Value.bool b2), DV.val (Value.int .i64 j3), DV.val (Value.string s4), DV.val (Value.string s5), DV.sl (true && List.isEmpty r7) kdT (appX [] r7), DV.val (Value.string s8), DV.val (Value.bool b9), DV.val (Value.int .i64 j10), DV.val (Value.string s11), DV.sl y36.fst.fst kdL y36.fst.snd]], appX r27 [[DV.val (Value.string s1), DV.val (Value.bool b2), DV.val (Value.int .i64 j3), DV.val (Value.string s4), DV.val (Value.string s5), DV.sl (true && List.isEmpty r7) kdT (appX [] r7), DV.val (Value.string s8), DV.val (Value.bool b9), DV.val (Value.int .i64 j10), DV.val (Value.string s11), DV.sl y36.fst.fst kdL y36.fst.snd]]), ())
 else none
 else none := by kernel_rfl
theorem z80_e (n : Nat) (j0 : Int) (s1 : ByteArray) (b2 : Bool) (j3 : Int) (s4 : ByteArray) (s5 : ByteArray) (b6 : Bool) (r7 : Rows) (s8 : ByteArray) (b9 : Bool) (j10 : Int) (s11 : ByteArray) (b12 : Bool) (r13 : Rows) : z80_v n j0 s1 b2 j3 s4 s5 b6 r7 s8 b9 j10 s11 b12 r13 =
 z80_l4 n j0 s1 b2 j3 s4 s5 b6 r7 s8 b9 j10 s11 b12 r13 n true [] 0 true [] := by kernel_rfl
theorem z80_c (n : Nat) (j0 : Int) (s1 : ByteArray) (b2 : Bool) (j3 : Int) (s4 : ByteArray) (s5 : ByteArray) (b6 : Bool) (r7 : Rows) (s8 : ByteArray) (b9 : Bool) (j10 : Int) (s11 : ByteArray) (b12 : Bool) (r13 : Rows) (y : (Bool × Rows) × Unit) (h : z80_v n j0 s1 b2 j3 s4 s5 b6 r7 s8 b9 j10 s11 b12 r13 = some y) : Contract Tryz.prog 20 [aI j0, AV.agg [aS s1, aB b2, aI j3, aS s4, aS s5, AV.sl b6 kdT r7 Right.no, aS s8, aB b9, aI j10, aS s11, AV.sl b12 kdL r13 Right.no]] [] (OSh.enc (OSh.plain (.slt kdR 0) []) y) :=
 ac (OSh.plain (.slt kdR 0) []) (z80_σok n) Tryz.func20 (by decide) h
def z18_lv : Live := [(6, [7, 19, 20, 21], [1000, 1001, 1002, 1003])]
def z18_σ (n : Nat) : Spec := (inst 19 [.sl kdR] [] (OSh.plain (.tup [.i .i64, .i .i64, .i .i64]) []) (fun x e => z19_v n x.1.1 x.1.2) (inst 20 [.i .i64, .agg [.s, .b, .i .i64, .s, .s, .sl kdT, .s, .b, .i .i64, .s, .sl kdL]] [] (OSh.plain (.slt kdR 0) []) (fun x e => z80_v n x.1 x.2.1.1 x.2.1.2.1 x.2.1.2.2.1 x.2.1.2.2.2.1 x.2.1.2.2.2.2.1 x.2.1.2.2.2.2.2.1.1 x.2.1.2.2.2.2.2.1.2 x.2.1.2.2.2.2.2.2.1 x.2.1.2.2.2.2.2.2.2.1 x.2.1.2.2.2.2.2.2.2.2.1 x.2.1.2.2.2.2.2.2.2.2.2.1 x.2.1.2.2.2.2.2.2.2.2.2.2.1.1 x.2.1.2.2.2.2.2.2.2.2.2.2.1.2) Spec.none))
theorem z18_σok (n : Nat) : SpecOk Tryz.prog (z18_σ n) := (inst_ok (fun x e y h => z19_c n x.1.1 x.1.2 y h) (inst_ok (fun x e y h => z80_c n x.1 x.2.1.1 x.2.1.2.1 x.2.1.2.2.1 x.2.1.2.2.2.1 x.2.1.2.2.2.2.1 x.2.1.2.2.2.2.2.1.1 x.2.1.2.2.2.2.2.1.2 x.2.1.2.2.2.2.2.2.1 x.2.1.2.2.2.2.2.2.2.1 x.2.1.2.2.2.2.2.2.2.2.1 x.2.1.2.2.2.2.2.2.2.2.2.1 x.2.1.2.2.2.2.2.2.2.2.2.2.1.1 x.2.1.2.2.2.2.2.2.2.2.2.2.1.2 y h) (SpecOk.none _)))
def z18_Φ (n : Nat) : Orc := with_ Tryz.prog (z18_σ n) [] n 0 hsL
def z18_v (n : Nat) (b0 : Bool) (r1 : Rows) : Option (((Bool × Rows) × Int × Unit) × Unit) :=
 DM.denFn tm (z18_Φ n) z18_lv n Tryz.f8 true [AV.sl b0 kdR r1 Right.no] [] (OSh.chk (OSh.plain (.tup [.slt kdR 0, .i .i64]) []))
def z18_l6 (n : Nat) (b0 : Bool) (r1 : Rows) (i0 : Nat) (b4 : Bool) (r5 : List (List DV)) (j6 : Int) : Option (((Bool × Rows) × Int × Unit) × Unit) :=
 DM.loopFn tm (z18_Φ n) z18_lv n Tryz.f8 true [] (OSh.chk (OSh.plain (.tup [.slt kdR 0, .i .i64]) [])) 6 [] i0 (St.mk ([Jk, Jk, Jk, Jk, Jk, Jk, Jk, AV.sl b4 kdR r5 (Right.tok 7), Jk, Jk, Jk, Jk, Jk, Jk, Jk, Jk, Jk, Jk, Jk, AV.sl b0 kdR r1 Right.no, AV.dv (DV.val (Value.int .i64 (↑(List.length r1) : Int))), aI j6] ++ jk 11) [])
theorem z18_s6 (n : Nat) (b0 : Bool) (r1 : Rows) (i0 : Nat) (b4 : Bool) (r5 : List (List DV)) (j6 : Int) : z18_l6 n b0 r1 (i0 + 1) b4 r5 j6 =
 bif decide (j6 < (↑(List.length r1) : Int)) then
 if 0 ≤ j6 then
 if j6 < (↑(List.length r1) : Int) then
 obind (z80_v n j6 (Row.S (List.getD r1 (Int.toNat j6) []) 0) (Row.B (List.getD r1 (Int.toNat j6) []) 1) (Row.I (List.getD r1 (Int.toNat j6) []) 2) (Row.S (List.getD r1 (Int.toNat j6) []) 3) (Row.S (List.getD r1 (Int.toNat j6) []) 4) (Row.N (List.getD r1 (Int.toNat j6) []) 5) (Row.R (List.getD r1 (Int.toNat j6) []) 5) (Row.S (List.getD r1 (Int.toNat j6) []) 6) (Row.B (List.getD r1 (Int.toNat j6) []) 7) (Row.I (List.getD r1 (Int.toNat j6) []) 8) (Row.S (List.getD r1 (Int.toNat j6) []) 9) (Row.N (List.getD r1 (Int.toNat j6) []) 10) (Row.R (List.getD r1 (Int.toNat j6) []) 10)) fun y7 =>
 if (List.length r5 + List.length y7.fst.snd) * 160 ≤ 140737488355328 then
 z18_l6 n b0 r1 i0 (b4 && List.isEmpty y7.fst.snd) (appX r5 y7.fst.snd) (IntKind.wrap IntKind.i64 (j6 + 1))
 else none
 else none
 else none
 else some (((b4, r5), (0, ())), ()) := by kernel_rfl
theorem z18_e (n : Nat) (b0 : Bool) (r1 : Rows) : z18_v n b0 r1 =
 obind (z19_v n b0 r1) fun y2 =>
 bif y2.fst.fst != 0 then
 some (((true, []), (y2.fst.fst, ())), ())
 else z18_l6 n b0 r1 n true [] 0 := by kernel_rfl
theorem z18_c (n : Nat) (b0 : Bool) (r1 : Rows) (y : ((Bool × Rows) × Int × Unit) × Unit) (h : z18_v n b0 r1 = some y) : Contract Tryz.prog 8 [AV.sl b0 kdR r1 Right.no] [] (OSh.enc (OSh.plain (.tup [.slt kdR 0, .i .i64]) []) y) :=
 ac (OSh.plain (.tup [.slt kdR 0, .i .i64]) []) (z18_σok n) Tryz.func8 (by decide) h
def z0_lv : Live := []
def z0_σ (n : Nat) : Spec := Spec.none
theorem z0_σok (n : Nat) : SpecOk Tryz.prog (z0_σ n) := (SpecOk.none _)
def z0_Φ (n : Nat) : Orc := with_ Tryz.prog (z0_σ n) [] n 0 hsL
def z0_v (n : Nat) (s0 : ByteArray) (s1 : ByteArray) : Option (Bool × Unit) :=
 DM.denFn tm (z0_Φ n) z0_lv n Tryz.f79 false [aS s0, aS s1] [] (OSh.chk (OSh.plain (.b) []))
theorem z0_e (n : Nat) (s0 : ByteArray) (s1 : ByteArray) : z0_v n s0 s1 =
 bif decide ((↑(ByteArray.size s0) : Int) ≥ (↑(ByteArray.size s1) : Int)) then
 if (↑(ByteArray.size s1) : Int) ≤ (↑(ByteArray.size s0) : Int) then
 some (ByteArray.extract s0 0 (Int.toNat (↑(ByteArray.size s1) : Int)) == s1, ())
 else none
 else some (false, ()) := by kernel_rfl
theorem z0_c (n : Nat) (s0 : ByteArray) (s1 : ByteArray) (y : Bool × Unit) (h : z0_v n s0 s1 = some y) : Contract Tryz.prog 79 [aS s0, aS s1] [] (OSh.enc (OSh.plain (.b) []) y) :=
 ac (OSh.plain (.b) []) (z0_σok n) Tryz.func79 (by decide) h
def z5_lv : Live := []
def z5_σ (n : Nat) : Spec := (inst 79 [.s, .s] [] (OSh.plain (.b) []) (fun x e => z0_v n x.1 x.2.1) Spec.none)
theorem z5_σok (n : Nat) : SpecOk Tryz.prog (z5_σ n) := (inst_ok (fun x e y h => z0_c n x.1 x.2.1 y h) (SpecOk.none _))
def z5_Φ (n : Nat) : Orc := with_ Tryz.prog (z5_σ n) [] n 0 hsL
def z5_v (n : Nat) (s0 : ByteArray) (s1 : ByteArray) : Option (Bool × Unit) :=
 DM.denFn tm (z5_Φ n) z5_lv n Tryz.f36 false [aS s0, aS s1] [] (OSh.chk (OSh.plain (.b) []))
theorem z5_e (n : Nat) (s0 : ByteArray) (s1 : ByteArray) : z5_v n s0 s1 =
 obind (z0_v n s0 s1) fun y2 =>
 some (y2.fst, ()) := by kernel_rfl
theorem z5_c (n : Nat) (s0 : ByteArray) (s1 : ByteArray) (y : Bool × Unit) (h : z5_v n s0 s1 = some y) : Contract Tryz.prog 36 [aS s0, aS s1] [] (OSh.enc (OSh.plain (.b) []) y) :=
 ac (OSh.plain (.b) []) (z5_σok n) Tryz.func36 (by decide) h
def z35_lv : Live := []
def z35_σ (n : Nat) : Spec := (inst 36 [.s, .s] [] (OSh.plain (.b) []) (fun x e => z5_v n x.1 x.2.1) Spec.none)
theorem z35_σok (n : Nat) : SpecOk Tryz.prog (z35_σ n) := (inst_ok (fun x e y h => z5_c n x.1 x.2.1 y h) (SpecOk.none _))
def z35_Φ (n : Nat) : Orc := with_ Tryz.prog (z35_σ n) [] n 0 hsL
def z35_v (n : Nat) (s0 : ByteArray) : Option (Bool × Unit) :=
 DM.denFn tm (z35_Φ n) z35_lv n Tryz.f18 false [aS s0] [] (OSh.chk (OSh.plain (.b) []))
theorem z35_e (n : Nat) (s0 : ByteArray) : z35_v n s0 =
 obind (z5_v n s0 (ByteArray.mk #[126])) fun y1 =>
 some (y1.fst, ()) := by kernel_rfl
theorem z35_c (n : Nat) (s0 : ByteArray) (y : Bool × Unit) (h : z35_v n s0 = some y) : Contract Tryz.prog 18 [aS s0] [] (OSh.enc (OSh.plain (.b) []) y) :=
 ac (OSh.plain (.b) []) (z35_σok n) Tryz.func18 (by decide) h
def z51_lv : Live := []
def z51_σ (n : Nat) : Spec := (inst 17 [.s] [] (OSh.plain (.tup [.sl kdR, .i .i64, .i .i64]) []) (fun x e => z14_v n x.1) (inst 8 [.sl kdR] [] (OSh.plain (.tup [.slt kdR 0, .i .i64]) []) (fun x e => z18_v n x.1.1 x.1.2) (inst 18 [.s] [] (OSh.plain (.b) []) (fun x e => z35_v n x.1) Spec.none)))
theorem z51_σok (n : Nat) : SpecOk Tryz.prog (z51_σ n) := (inst_ok (fun x e y h => z14_c n x.1 y h) (inst_ok (fun x e y h => z18_c n x.1.1 x.1.2 y h) (inst_ok (fun x e y h => z35_c n x.1 y h) (SpecOk.none _))))
def z51_Φ (n : Nat) : Orc := with_ Tryz.prog (z51_σ n) [] n 0 hsL
def z51_v (n : Nat) : Option (Bool × Unit) :=
 DM.denFn tm (z51_Φ n) z51_lv n Tryz.f6 false [] [] (OSh.chk (OSh.plain (.b) []))
theorem z51_e (n : Nat) : z51_v n =
 obind (z14_v n (ByteArray.mk #[65, 58, 32, 112, 40, 88, 41, 32, 58, 45, 32, 113, 40, 66, 41, 44, 32, 114, 40, 88, 41, 32, 97, 116, 32, 66, 46])) fun y0 =>
 obind (z18_v n y0.fst.fst.fst y0.fst.fst.snd) fun y1 =>
 bif y1.fst.snd.fst == 0 then
 bif (↑(List.length y1.fst.fst.snd) : Int) == 3 then
 if 0 < (↑(List.length y1.fst.fst.snd) : Int) then
 bif Row.S (List.getD y1.fst.fst.snd 0 []) 4 == ByteArray.mk #[126, 97, 115, 107, 48, 46, 49] then
 if 1 < (↑(List.length y1.fst.fst.snd) : Int) then
 bif Row.S (List.getD y1.fst.fst.snd 1 []) 0 == ByteArray.mk #[66] then
 if 2 < (↑(List.length y1.fst.fst.snd) : Int) then
 bif (↑(List.length (Row.R (List.getD y1.fst.fst.snd 2 []) 10)) : Int) == 1 then
 if 2 < (↑(List.length y1.fst.fst.snd) : Int) then
 if 0 < (↑(List.length (Row.R (List.getD y1.fst.fst.snd 2 []) 10)) : Int) then
 bif Row.S (List.getD (Row.R (List.getD y1.fst.fst.snd 2 []) 10) 0 []) 0 == ByteArray.mk #[66] then
 obind (z35_v n (ByteArray.mk #[126, 120])) fun y2 =>
 bif y2.fst then
 obind (z35_v n (ByteArray.mk #[120])) fun y3 =>
 some (!y3.fst, ())
 else some (false, ())
 else some (false, ())
 else none
 else none
 else some (false, ())
 else none
 else some (false, ())
 else none
 else some (false, ())
 else none
 else some (false, ())
 else some (false, ()) := by kernel_rfl
theorem z51_c (n : Nat) (y : Bool × Unit) (h : z51_v n = some y) : Contract Tryz.prog 6 [] [] (OSh.enc (OSh.plain (.b) []) y) :=
 ac (OSh.plain (.b) []) (z51_σok n) Tryz.func6 (by decide) h
def z52_lv : Live := [(3, [0, 3, 4], [1000, 1001, 1002, 1003]), (9, [0, 3, 4, 5, 6], [25, 5, 1000, 1001, 1002, 1003]), (1000012, [1, 29], [])]
def z52_σ (n : Nat) : Spec := Spec.none
theorem z52_σok (n : Nat) : SpecOk Tryz.prog (z52_σ n) := (SpecOk.none _)
def z52_Φ (n : Nat) : Orc := with_ Tryz.prog (z52_σ n) [] n 0 [22, 1000048, 1000080, 1000081, 1000082, 1000083, 1000084, 1000093, 1000099, 1000102, 1000132]
def z52_v (n : Nat) (b0 : Bool) (r1 : Rows) : Option ((Bool × Rows) × Unit) :=
 DM.denFn tm (z52_Φ n) z52_lv n Tryz.f7 true [AV.sl b0 kdR r1 Right.no] [] (OSh.chk (OSh.plain (.slt kdR 0) []))
def z52_l3 (n : Nat) (b0 : Bool) (r1 : Rows) (i0 : Nat) (b4 : Bool) (r5 : List (List DV)) (j6 : Int) : Option ((Bool × Rows) × Unit) :=
 DM.loopFn tm (z52_Φ n) z52_lv n Tryz.f7 true [] (OSh.chk (OSh.plain (.slt kdR 0) [])) 3 [] i0 (St.mk ([AV.sl b0 kdR r1 Right.no, Jk, Jk, AV.sl b4 kdR r5 (Right.tok 3), aI j6] ++ jk 47) [])
def z52_l9 (n : Nat) (b0 : Bool) (r1 : Rows) (i0 i1 : Nat) (j2 : Int) (r3 : List (List DV)) (b7 : Bool) (r8 : List (List DV)) (j9 : Int) (s10 : ByteArray) (b11 : Bool) (j12 : Int) (s13 : ByteArray) (s14 : ByteArray) (b15 : Bool) (r16 : List (List DV)) (s17 : ByteArray) (b18 : Bool) (j19 : Int) (s20 : ByteArray) (m21 : Nat) (m22 : Nat) : Option ((Bool × Rows) × Unit) :=
 DM.loopFn tm (z52_Φ n) z52_lv n Tryz.f7 true [] (OSh.chk (OSh.plain (.slt kdR 0) [])) 9 [i0] i1 (St.mk ([AV.sl b0 kdR r1 Right.no, Jk, Jk, AV.sl b7 kdR r8 (Right.tok 3), aI j9, AV.pl 5 0, aI j2] ++ jk 45) [(5, [aS s10, aB b11, aI j12, aS s13, aS s14, AV.sl b15 kdT r16 (Right.tok 20325), aS s17, aB b18, aI j19, aS s20, AV.ms 25 kdL 0 m21 m22]), (25, [AV.arr kdL r3])])
theorem z52_s3 (n : Nat) (b0 : Bool) (r1 : Rows) (i0 : Nat) (b4 : Bool) (r5 : List (List DV)) (j6 : Int) : z52_l3 n b0 r1 (i0 + 1) b4 r5 j6 =
 bif decide (j6 < (↑(List.length r1) : Int)) then
 if 0 ≤ j6 then
 if j6 < (↑(List.length r1) : Int) then
 if (0 + List.length (Row.R (List.getD r1 (Int.toNat j6) []) 5)) * 48 ≤ 140737488355328 then
 if List.length (Row.R (List.getD r1 (Int.toNat j6) []) 10) * 136 ≤ 140737488355328 then
 z52_l9 n b0 r1 i0 n 0 (Row.R (List.getD r1 (Int.toNat j6) []) 10) b4 r5 j6 (Row.S (List.getD r1 (Int.toNat j6) []) 0) (Row.B (List.getD r1 (Int.toNat j6) []) 1) (Row.I (List.getD r1 (Int.toNat j6) []) 2) (Row.S (List.getD r1 (Int.toNat j6) []) 3) (Row.S (List.getD r1 (Int.toNat j6) []) 4) (false && List.isEmpty (Row.R (List.getD r1 (Int.toNat j6) []) 5)) (appX [] (Row.R (List.getD r1 (Int.toNat j6) []) 5)) (Row.S (List.getD r1 (Int.toNat j6) []) 6) (Row.B (List.getD r1 (Int.toNat j6) []) 7) (Row.I (List.getD r1 (Int.toNat j6) []) 8) (Row.S (List.getD r1 (Int.toNat j6) []) 9) (List.length (Row.R (List.getD r1 (Int.toNat j6) []) 10)) (List.length (Row.R (List.getD r1 (Int.toNat j6) []) 10))
 else none
 else none
 else none
 else none
 else some ((b4, r5), ()) := by kernel_rfl
theorem z52_s9 (n : Nat) (b0 : Bool) (r1 : Rows) (i0 i1 : Nat) (j2 : Int) (r3 : List (List DV)) (b7 : Bool) (r8 : List (List DV)) (j9 : Int) (s10 : ByteArray) (b11 : Bool) (j12 : Int) (s13 : ByteArray) (s14 : ByteArray) (b15 : Bool) (r16 : List (List DV)) (s17 : ByteArray) (b18 : Bool) (j19 : Int) (s20 : ByteArray) (m21 : Nat) (m22 : Nat) : z52_l9 n b0 r1 i0 (i1 + 1) j2 r3 b7 r8 j9 s10 b11 j12 s13 s14 b15 r16 s17 b18 j19 s20 m21 m22 =
 bif decide (j2 < (↑m21 : Int)) then
 if 0 ≤ j2 then
 if j2 < (↑m21 : Int) then
 if 0 + Int.toNat j2 < List.length r3 then
 if (0 + List.length (Row.R (List.getD r3 (0 + Int.toNat j2) []) 5)) * 48 ≤ 140737488355328 then
 if 0 ≤ j2 then
 if j2 < (↑m21 : Int) then
 if 0 + Int.toNat j2 < List.length r3 then
 z52_l9 n b0 r1 i0 i1 (IntKind.wrap IntKind.i64 (j2 + 1)) (List.set r3 (0 + Int.toNat j2) (spliceD (List.getD r3 (0 + Int.toNat j2) []) 5 [DV.sl (false && List.isEmpty (Row.R (List.getD r3 (0 + Int.toNat j2) []) 5)) kdT (appX [] (Row.R (List.getD r3 (0 + Int.toNat j2) []) 5))])) b7 r8 j9 s10 b11 j12 s13 s14 b15 r16 s17 b18 j19 s20 m21 m22
 else none
 else none
 else none
 else none
 else none
 else none
 else none
 else if 0 + m21 ≤ List.length r3 then
 bif Kd.sameL kdL kdL && Nat.ble (0 + m21) (0 + m21) then
 if (List.length r8 + List.length [[DV.val (Value.string s10), DV.val (Value.bool b11), DV.val (Value.int .i64 j12), DV.val (Value.string s13), DV.val (Value.string s14), DV.sl b15 kdT r16, DV.val (Value.string s17), DV.val (Value.bool b18), DV.val (Value.int .i64 j19), DV.val (Value.string s20), DV.sl false kdL (List.take m21 (List.drop 0 r3))]]) * 160 ≤ 140737488355328 then
 z52_l3 n b0 r1 i0 (b7 && List.isEmpty [[DV.val (Value.string s10), DV.val (Value.bool b11), DV.val (Value.int .i64 j12), DV.val (Value.string s13), DV.val (Value.string s14), DV.sl b15 kdT r16, DV.val (Value.string s17), DV.val (Value.bool b18), DV.val (Value.int .i64 j19), DV.val (Value.string s20), DV.sl false kdL (List.take m21 (List.drop 0 r3))]]) (appX r8 [[DV.val (Value.string s10), DV.val (Value.bool b11), DV.val (Value.int .i64 j12), DV.val (Value.string s13), DV.val (Value.string s14), DV.sl b15 kdT r16, DV.val (Value.string s17), DV.val (Value.bool b18), DV.val (Value.int .i64 j19), DV.val (Value.string s20), DV.sl false kdL (List.take m21 (List.drop 0 r3))]]) (IntKind.wrap IntKind.i64 (j9 + 1))
 else none
 else none
 else none := by kernel_rfl
theorem z52_e (n : Nat) (b0 : Bool) (r1 : Rows) : z52_v n b0 r1 =
 z52_l3 n b0 r1 n true [] 0 := by kernel_rfl
theorem z52_c (n : Nat) (b0 : Bool) (r1 : Rows) (y : (Bool × Rows) × Unit) (h : z52_v n b0 r1 = some y) : Contract Tryz.prog 7 [AV.sl b0 kdR r1 Right.no] [] (OSh.enc (OSh.plain (.slt kdR 0) []) y) :=
 ac (OSh.plain (.slt kdR 0) []) (z52_σok n) Tryz.func7 (by decide) h
def z24_lv : Live := []
def z24_σ (n : Nat) : Spec := Spec.none
theorem z24_σok (n : Nat) : SpecOk Tryz.prog (z24_σ n) := (SpecOk.none _)
def z24_Φ (n : Nat) : Orc := with_ Tryz.prog (z24_σ n) [] n 0 hsL
def z24_v (n : Nat) (j0 : Int) (j1 : Int) (j2 : Int) : Option (Bool × Unit) :=
 DM.denFn tm (z24_Φ n) z24_lv n Tryz.f166 false [AV.dv (DV.val (Value.int IntKind.u8 j0)), AV.dv (DV.val (Value.int IntKind.u8 j1)), AV.dv (DV.val (Value.int IntKind.u8 j2))] [] (OSh.chk (OSh.plain (.b) []))
theorem z24_e (n : Nat) (j0 : Int) (j1 : Int) (j2 : Int) : z24_v n j0 j1 j2 =
 bif decide (j0 ≥ j1) then
 some (decide (j0 ≤ j2), ())
 else some (false, ()) := by kernel_rfl
theorem z24_c (n : Nat) (j0 : Int) (j1 : Int) (j2 : Int) (y : Bool × Unit) (h : z24_v n j0 j1 j2 = some y) : Contract Tryz.prog 166 [AV.dv (DV.val (Value.int IntKind.u8 j0)), AV.dv (DV.val (Value.int IntKind.u8 j1)), AV.dv (DV.val (Value.int IntKind.u8 j2))] [] (OSh.enc (OSh.plain (.b) []) y) :=
 ac (OSh.plain (.b) []) (z24_σok n) Tryz.func166 (by decide) h
def z42_lv : Live := []
def z42_σ (n : Nat) : Spec := Spec.none
theorem z42_σok (n : Nat) : SpecOk Tryz.prog (z42_σ n) := (SpecOk.none _)
def z42_Φ (n : Nat) : Orc := with_ Tryz.prog (z42_σ n) [] n 0 hsL
def z42_v (n : Nat) (j0 : Int) : Option (Bool × Unit) :=
 DM.denFn tm (z42_Φ n) z42_lv n Tryz.f181 false [AV.dv (DV.val (Value.int IntKind.u8 j0))] [] (OSh.chk (OSh.plain (.b) []))
theorem z42_e (n : Nat) (j0 : Int) : z42_v n j0 =
 bif decide (j0 ≥ 97) then
 some (decide (j0 ≤ 122), ())
 else some (false, ()) := by kernel_rfl
theorem z42_c (n : Nat) (j0 : Int) (y : Bool × Unit) (h : z42_v n j0 = some y) : Contract Tryz.prog 181 [AV.dv (DV.val (Value.int IntKind.u8 j0))] [] (OSh.enc (OSh.plain (.b) []) y) :=
 ac (OSh.plain (.b) []) (z42_σok n) Tryz.func181 (by decide) h
def z43_lv : Live := []
def z43_σ (n : Nat) : Spec := Spec.none
theorem z43_σok (n : Nat) : SpecOk Tryz.prog (z43_σ n) := (SpecOk.none _)
def z43_Φ (n : Nat) : Orc := with_ Tryz.prog (z43_σ n) [] n 0 hsL
def z43_v (n : Nat) (j0 : Int) : Option (Bool × Unit) :=
 DM.denFn tm (z43_Φ n) z43_lv n Tryz.f182 false [AV.dv (DV.val (Value.int IntKind.u8 j0))] [] (OSh.chk (OSh.plain (.b) []))
theorem z43_e (n : Nat) (j0 : Int) : z43_v n j0 =
 bif decide (j0 ≥ 65) then
 some (decide (j0 ≤ 90), ())
 else some (false, ()) := by kernel_rfl
theorem z43_c (n : Nat) (j0 : Int) (y : Bool × Unit) (h : z43_v n j0 = some y) : Contract Tryz.prog 182 [AV.dv (DV.val (Value.int IntKind.u8 j0))] [] (OSh.enc (OSh.plain (.b) []) y) :=
 ac (OSh.plain (.b) []) (z43_σok n) Tryz.func182 (by decide) h
def z46_lv : Live := []
def z46_σ (n : Nat) : Spec := Spec.none
theorem z46_σok (n : Nat) : SpecOk Tryz.prog (z46_σ n) := (SpecOk.none _)
def z46_Φ (n : Nat) : Orc := with_ Tryz.prog (z46_σ n) [] n 0 hsL
def z46_v (n : Nat) (j0 : Int) : Option (Bool × Unit) :=
 DM.denFn tm (z46_Φ n) z46_lv n Tryz.f183 false [AV.dv (DV.val (Value.int IntKind.u8 j0))] [] (OSh.chk (OSh.plain (.b) []))
theorem z46_e (n : Nat) (j0 : Int) : z46_v n j0 =
 bif decide (j0 ≥ 48) then
 some (decide (j0 ≤ 57), ())
 else some (false, ()) := by kernel_rfl
theorem z46_c (n : Nat) (j0 : Int) (y : Bool × Unit) (h : z46_v n j0 = some y) : Contract Tryz.prog 183 [AV.dv (DV.val (Value.int IntKind.u8 j0))] [] (OSh.enc (OSh.plain (.b) []) y) :=
 ac (OSh.plain (.b) []) (z46_σok n) Tryz.func183 (by decide) h
def z47_lv : Live := []
def z47_σ (n : Nat) : Spec := (inst 181 [.i IntKind.u8] [] (OSh.plain (.b) []) (fun x e => z42_v n x.1) (inst 182 [.i IntKind.u8] [] (OSh.plain (.b) []) (fun x e => z43_v n x.1) (inst 183 [.i IntKind.u8] [] (OSh.plain (.b) []) (fun x e => z46_v n x.1) Spec.none)))
theorem z47_σok (n : Nat) : SpecOk Tryz.prog (z47_σ n) := (inst_ok (fun x e y h => z42_c n x.1 y h) (inst_ok (fun x e y h => z43_c n x.1 y h) (inst_ok (fun x e y h => z46_c n x.1 y h) (SpecOk.none _))))
def z47_Φ (n : Nat) : Orc := with_ Tryz.prog (z47_σ n) [] n 0 hsL
def z47_v (n : Nat) (j0 : Int) : Option (Bool × Unit) :=
 DM.denFn tm (z47_Φ n) z47_lv n Tryz.f167 false [AV.dv (DV.val (Value.int IntKind.u8 j0))] [] (OSh.chk (OSh.plain (.b) []))
theorem z47_e (n : Nat) (j0 : Int) : z47_v n j0 =
 obind (z42_v n j0) fun y1 =>
 bif y1.fst then
 some (true, ())
 else obind (z43_v n j0) fun y2 =>
 bif y2.fst then
 some (true, ())
 else obind (z46_v n j0) fun y3 =>
 bif y3.fst then
 some (true, ())
 else some (j0 == 95, ()) := by kernel_rfl
theorem z47_c (n : Nat) (j0 : Int) (y : Bool × Unit) (h : z47_v n j0 = some y) : Contract Tryz.prog 167 [AV.dv (DV.val (Value.int IntKind.u8 j0))] [] (OSh.enc (OSh.plain (.b) []) y) :=
 ac (OSh.plain (.b) []) (z47_σok n) Tryz.func167 (by decide) h
def z38_lv : Live := [(4, [0, 7], [1000, 1001, 1002, 1003])]
def z38_σ (n : Nat) : Spec := (inst 166 [.i IntKind.u8, .i IntKind.u8, .i IntKind.u8] [] (OSh.plain (.b) []) (fun x e => z24_v n x.1 x.2.1 x.2.2.1) (inst 167 [.i IntKind.u8] [] (OSh.plain (.b) []) (fun x e => z47_v n x.1) Spec.none))
theorem z38_σok (n : Nat) : SpecOk Tryz.prog (z38_σ n) := (inst_ok (fun x e y h => z24_c n x.1 x.2.1 x.2.2.1 y h) (inst_ok (fun x e y h => z47_c n x.1 y h) (SpecOk.none _)))
def z38_Φ (n : Nat) : Orc := with_ Tryz.prog (z38_σ n) [] n 0 hsL
def z38_v (n : Nat) (s0 : ByteArray) (j1 : Int) (j2 : Int) : Option (Bool × Unit) :=
 DM.denFn tm (z38_Φ n) z38_lv n Tryz.f136 false [aS s0, AV.dv (DV.val (Value.int IntKind.u8 j1)), AV.dv (DV.val (Value.int IntKind.u8 j2))] [] (OSh.chk (OSh.plain (.b) []))
def z38_l4 (n : Nat) (s0 : ByteArray) (j1 : Int) (j2 : Int) (i0 : Nat) (j5 : Int) : Option (Bool × Unit) :=
 DM.loopFn tm (z38_Φ n) z38_lv n Tryz.f136 false [] (OSh.chk (OSh.plain (.b) [])) 4 [] i0 (St.mk ([aS s0, Jk, Jk, Jk, Jk, Jk, Jk, aI j5] ++ jk 27) [])
theorem z38_s4 (n : Nat) (s0 : ByteArray) (j1 : Int) (j2 : Int) (i0 : Nat) (j5 : Int) : z38_l4 n s0 j1 j2 (i0 + 1) j5 =
 bif decide (j5 < (↑(ByteArray.size s0) : Int)) then
 if 0 ≤ j5 then
 if j5 < (↑(ByteArray.size s0) : Int) then
 obind (z47_v n (bt s0 j5)) fun y6 =>
 bif !y6.fst then
 some (false, ())
 else z38_l4 n s0 j1 j2 i0 (IntKind.wrap IntKind.i64 (j5 + 1))
 else none
 else none
 else some (true, ()) := by kernel_rfl
theorem z38_e (n : Nat) (s0 : ByteArray) (j1 : Int) (j2 : Int) : z38_v n s0 j1 j2 =
 bif decide ((↑(ByteArray.size s0) : Int) < 1) then
 some (false, ())
 else bif decide ((↑(ByteArray.size s0) : Int) > 32) then
 some (false, ())
 else if 0 < (↑(ByteArray.size s0) : Int) then
 obind (z24_v n (bt s0 0) j1 j2) fun y3 =>
 bif !y3.fst then
 some (false, ())
 else z38_l4 n s0 j1 j2 n 0
 else none := by kernel_rfl
theorem z38_c (n : Nat) (s0 : ByteArray) (j1 : Int) (j2 : Int) (y : Bool × Unit) (h : z38_v n s0 j1 j2 = some y) : Contract Tryz.prog 136 [aS s0, AV.dv (DV.val (Value.int IntKind.u8 j1)), AV.dv (DV.val (Value.int IntKind.u8 j2))] [] (OSh.enc (OSh.plain (.b) []) y) :=
 ac (OSh.plain (.b) []) (z38_σok n) Tryz.func136 (by decide) h
def z22_lv : Live := [(3, [0, 3, 4], [1000, 1001, 1002, 1003])]
def z22_σ (n : Nat) : Spec := Spec.none
theorem z22_σok (n : Nat) : SpecOk Tryz.prog (z22_σ n) := (SpecOk.none _)
def z22_Φ (n : Nat) : Orc := with_ Tryz.prog (z22_σ n) [] n 0 hsL
def z22_v (n : Nat) (j0 : Int) : Option (ByteArray × Unit) :=
 DM.denFn tm (z22_Φ n) z22_lv n Tryz.f52 false [aI j0] [] (OSh.chk (OSh.plain (.s) []))
def z22_l3 (n : Nat) (j0 : Int) (i0 : Nat) (s1 : ByteArray) (j2 : Int) : Option (ByteArray × Unit) :=
 DM.loopFn tm (z22_Φ n) z22_lv n Tryz.f52 false [] (OSh.chk (OSh.plain (.s) [])) 3 [] i0 (St.mk ([aI j0, Jk, Jk, aS s1, aI j2] ++ jk 28) [])
theorem z22_s3 (n : Nat) (j0 : Int) (i0 : Nat) (s1 : ByteArray) (j2 : Int) : z22_l3 n j0 (i0 + 1) s1 j2 =
 bif j2 != 0 then
 bif decide (Int.tmod j2 10 < 0) then
 if ByteArray.size (bytesOf [[DV.val (Value.int IntKind.u8 (IntKind.wrap IntKind.u8 (IntKind.wrap IntKind.i64 (48 + IntKind.wrap IntKind.i64 (0 - Int.tmod j2 10)))))]]) + ByteArray.size s1 < 4611686018427387904 then
 z22_l3 n j0 i0 (bytesOf [[DV.val (Value.int IntKind.u8 (IntKind.wrap IntKind.u8 (IntKind.wrap IntKind.i64 (48 + IntKind.wrap IntKind.i64 (0 - Int.tmod j2 10)))))]] ++ s1) (IntKind.wrap IntKind.i64 (Int.tdiv j2 10))
 else none
 else if ByteArray.size (bytesOf [[DV.val (Value.int IntKind.u8 (IntKind.wrap IntKind.u8 (IntKind.wrap IntKind.i64 (48 + Int.tmod j2 10))))]]) + ByteArray.size s1 < 4611686018427387904 then
 z22_l3 n j0 i0 (bytesOf [[DV.val (Value.int IntKind.u8 (IntKind.wrap IntKind.u8 (IntKind.wrap IntKind.i64 (48 + Int.tmod j2 10))))]] ++ s1) (IntKind.wrap IntKind.i64 (Int.tdiv j2 10))
 else none
 else bif s1 == ByteArray.mk #[] then
 bif decide (Int.tmod j2 10 < 0) then
 if ByteArray.size (bytesOf [[DV.val (Value.int IntKind.u8 (IntKind.wrap IntKind.u8 (IntKind.wrap IntKind.i64 (48 + IntKind.wrap IntKind.i64 (0 - Int.tmod j2 10)))))]]) + ByteArray.size s1 < 4611686018427387904 then
 z22_l3 n j0 i0 (bytesOf [[DV.val (Value.int IntKind.u8 (IntKind.wrap IntKind.u8 (IntKind.wrap IntKind.i64 (48 + IntKind.wrap IntKind.i64 (0 - Int.tmod j2 10)))))]] ++ s1) (IntKind.wrap IntKind.i64 (Int.tdiv j2 10))
 else none
 else if ByteArray.size (bytesOf [[DV.val (Value.int IntKind.u8 (IntKind.wrap IntKind.u8 (IntKind.wrap IntKind.i64 (48 + Int.tmod j2 10))))]]) + ByteArray.size s1 < 4611686018427387904 then
 z22_l3 n j0 i0 (bytesOf [[DV.val (Value.int IntKind.u8 (IntKind.wrap IntKind.u8 (IntKind.wrap IntKind.i64 (48 + Int.tmod j2 10))))]] ++ s1) (IntKind.wrap IntKind.i64 (Int.tdiv j2 10))
 else none
 else bif decide (j0 < 0) then
 if 1 + ByteArray.size s1 < 4611686018427387904 then
 some (ByteArray.mk #[45] ++ s1, ())
 else none
 else some (s1, ()) := by kernel_rfl
theorem z22_e (n : Nat) (j0 : Int) : z22_v n j0 =
 z22_l3 n j0 n (ByteArray.mk #[]) j0 := by kernel_rfl
theorem z22_c (n : Nat) (j0 : Int) (y : ByteArray × Unit) (h : z22_v n j0 = some y) : Contract Tryz.prog 52 [aI j0] [] (OSh.enc (OSh.plain (.s) []) y) :=
 ac (OSh.plain (.s) []) (z22_σok n) Tryz.func52 (by decide) h
def z34_lv : Live := []
def z34_σ (n : Nat) : Spec := Spec.none
theorem z34_σok (n : Nat) : SpecOk Tryz.prog (z34_σ n) := (SpecOk.none _)
def z34_Φ (n : Nat) : Orc := with_ Tryz.prog (z34_σ n) [] n 0 hsL
def z34_v (n : Nat) (j0 : Int) : Option (Bool × Unit) :=
 DM.denFn tm (z34_Φ n) z34_lv n Tryz.f137 false [AV.dv (DV.val (Value.int IntKind.u8 j0))] [] (OSh.chk (OSh.plain (.b) []))
theorem z34_e (n : Nat) (j0 : Int) : z34_v n j0 =
 bif decide (j0 ≥ 32) then
 bif decide (j0 ≤ 126) then
 bif j0 != 34 then
 some (j0 != 92, ())
 else some (false, ())
 else some (false, ())
 else some (false, ()) := by kernel_rfl
theorem z34_c (n : Nat) (j0 : Int) (y : Bool × Unit) (h : z34_v n j0 = some y) : Contract Tryz.prog 137 [AV.dv (DV.val (Value.int IntKind.u8 j0))] [] (OSh.enc (OSh.plain (.b) []) y) :=
 ac (OSh.plain (.b) []) (z34_σok n) Tryz.func137 (by decide) h
def z59_lv : Live := []
def z59_σ (n : Nat) : Spec := Spec.none
theorem z59_σok (n : Nat) : SpecOk Tryz.prog (z59_σ n) := (SpecOk.none _)
def z59_Φ (n : Nat) : Orc := with_ Tryz.prog (z59_σ n) [] n 0 hsL
def z59_v (n : Nat) (s0 : ByteArray) : Option (Bool × Unit) :=
 DM.denFn tm (z59_Φ n) z59_lv n Tryz.f168 false [aS s0] [] (OSh.chk (OSh.plain (.b) []))
theorem z59_e (n : Nat) (s0 : ByteArray) : z59_v n s0 =
 bif s0 == ByteArray.mk #[115, 97, 121, 115] then
 some (true, ())
 else bif s0 == ByteArray.mk #[116, 111] then
 some (true, ())
 else some (s0 == ByteArray.mk #[97, 116], ()) := by kernel_rfl
theorem z59_c (n : Nat) (s0 : ByteArray) (y : Bool × Unit) (h : z59_v n s0 = some y) : Contract Tryz.prog 168 [aS s0] [] (OSh.enc (OSh.plain (.b) []) y) :=
 ac (OSh.plain (.b) []) (z59_σok n) Tryz.func168 (by decide) h
def z68_lv : Live := []
def z68_σ (n : Nat) : Spec := (inst 136 [.s, .i IntKind.u8, .i IntKind.u8] [] (OSh.plain (.b) []) (fun x e => z38_v n x.1 x.2.1 x.2.2.1) (inst 168 [.s] [] (OSh.plain (.b) []) (fun x e => z59_v n x.1) Spec.none))
theorem z68_σok (n : Nat) : SpecOk Tryz.prog (z68_σ n) := (inst_ok (fun x e y h => z38_c n x.1 x.2.1 x.2.2.1 y h) (inst_ok (fun x e y h => z59_c n x.1 y h) (SpecOk.none _)))
def z68_Φ (n : Nat) : Orc := with_ Tryz.prog (z68_σ n) [] n 0 hsL
def z68_v (n : Nat) (s0 : ByteArray) : Option (Bool × Unit) :=
 DM.denFn tm (z68_Φ n) z68_lv n Tryz.f138 false [aS s0] [] (OSh.chk (OSh.plain (.b) []))
theorem z68_e (n : Nat) (s0 : ByteArray) : z68_v n s0 =
 obind (z38_v n s0 97 122) fun y1 =>
 bif y1.fst then
 obind (z59_v n s0) fun y2 =>
 some (!y2.fst, ())
 else some (false, ()) := by kernel_rfl
theorem z68_c (n : Nat) (s0 : ByteArray) (y : Bool × Unit) (h : z68_v n s0 = some y) : Contract Tryz.prog 138 [aS s0] [] (OSh.enc (OSh.plain (.b) []) y) :=
 ac (OSh.plain (.b) []) (z68_σok n) Tryz.func138 (by decide) h
def z48_lv : Live := [(13, [4, 5], [4, 1000, 1001, 1002, 1003])]
def z48_σ (n : Nat) : Spec := (inst 136 [.s, .i IntKind.u8, .i IntKind.u8] [] (OSh.plain (.b) []) (fun x e => z38_v n x.1 x.2.1 x.2.2.1) (inst 52 [.i .i64] [] (OSh.plain (.s) []) (fun x e => z22_v n x.1) (inst 137 [.i IntKind.u8] [] (OSh.plain (.b) []) (fun x e => z34_v n x.1) (inst 138 [.s] [] (OSh.plain (.b) []) (fun x e => z68_v n x.1) Spec.none))))
theorem z48_σok (n : Nat) : SpecOk Tryz.prog (z48_σ n) := (inst_ok (fun x e y h => z38_c n x.1 x.2.1 x.2.2.1 y h) (inst_ok (fun x e y h => z22_c n x.1 y h) (inst_ok (fun x e y h => z34_c n x.1 y h) (inst_ok (fun x e y h => z68_c n x.1 y h) (SpecOk.none _)))))
def z48_Φ (n : Nat) : Orc := with_ Tryz.prog (z48_σ n) [] n 0 hsL
def z48_v (n : Nat) (s0 : ByteArray) (b1 : Bool) (j2 : Int) (s3 : ByteArray) : Option ((ByteArray × Int × Unit) × Unit) :=
 DM.denFn tm (z48_Φ n) z48_lv n Tryz.f95 false [AV.agg [aS s0, aB b1, aI j2, aS s3]] [] (OSh.chk (OSh.plain (.tup [.s, .i .i64]) []))
def z48_l13 (n : Nat) (s0 : ByteArray) (b1 : Bool) (j2 : Int) (s3 : ByteArray) (i0 : Nat) (j8 : Int) : Option ((ByteArray × Int × Unit) × Unit) :=
 DM.loopFn tm (z48_Φ n) z48_lv n Tryz.f95 false [] (OSh.chk (OSh.plain (.tup [.s, .i .i64]) [])) 13 [] i0 (St.mk ([Jk, Jk, Jk, Jk, AV.pl 4 0, aI j8] ++ jk 62) [(4, [aB b1, aI j2, aS s3])])
theorem z48_s13 (n : Nat) (s0 : ByteArray) (b1 : Bool) (j2 : Int) (s3 : ByteArray) (i0 : Nat) (j8 : Int) : z48_l13 n s0 b1 j2 s3 (i0 + 1) j8 =
 bif decide (j8 < (↑(ByteArray.size s3) : Int)) then
 if 0 ≤ j8 then
 if j8 < (↑(ByteArray.size s3) : Int) then
 obind (z34_v n (bt s3 j8)) fun y9 =>
 bif !y9.fst then
 some ((ByteArray.mk #[], (100, ())), ())
 else z48_l13 n s0 b1 j2 s3 i0 (IntKind.wrap IntKind.i64 (j8 + 1))
 else none
 else none
 else obind (z68_v n s3) fun y10 =>
 bif y10.fst then
 some ((s3, (0, ())), ())
 else if 1 + ByteArray.size s3 < 4611686018427387904 then
 if ByteArray.size (ByteArray.mk #[34] ++ s3) + 1 < 4611686018427387904 then
 some ((ByteArray.mk #[34] ++ s3 ++ ByteArray.mk #[34], (0, ())), ())
 else none
 else none := by kernel_rfl
theorem z48_e (n : Nat) (s0 : ByteArray) (b1 : Bool) (j2 : Int) (s3 : ByteArray) : z48_v n s0 b1 j2 s3 =
 bif !s0 == ByteArray.mk #[] then
 bif !(b1 == false && (j2 == 0 && (s3 == ByteArray.mk #[] && true))) then
 some ((ByteArray.mk #[], (100, ())), ())
 else obind (z38_v n s0 65 90) fun y4 =>
 bif !y4.fst then
 some ((ByteArray.mk #[], (100, ())), ())
 else some ((s0, (0, ())), ())
 else bif b1 then
 bif !s3 == ByteArray.mk #[] then
 some ((ByteArray.mk #[], (100, ())), ())
 else obind (z22_v n j2) fun y5 =>
 some ((y5.fst, (0, ())), ())
 else bif j2 != 0 then
 some ((ByteArray.mk #[], (100, ())), ())
 else bif decide ((↑(ByteArray.size s3) : Int) < 1) then
 some ((ByteArray.mk #[], (100, ())), ())
 else bif decide ((↑(ByteArray.size s3) : Int) > 32) then
 some ((ByteArray.mk #[], (100, ())), ())
 else z48_l13 n s0 b1 j2 s3 n 0 := by kernel_rfl
theorem z48_c (n : Nat) (s0 : ByteArray) (b1 : Bool) (j2 : Int) (s3 : ByteArray) (y : (ByteArray × Int × Unit) × Unit) (h : z48_v n s0 b1 j2 s3 = some y) : Contract Tryz.prog 95 [AV.agg [aS s0, aB b1, aI j2, aS s3]] [] (OSh.enc (OSh.plain (.tup [.s, .i .i64]) []) y) :=
 ac (OSh.plain (.tup [.s, .i .i64]) []) (z48_σok n) Tryz.func95 (by decide) h
def z55_lv : Live := [(5, [1, 6, 7], [1000, 1001, 1002, 1003])]
def z55_σ (n : Nat) : Spec := (inst 138 [.s] [] (OSh.plain (.b) []) (fun x e => z68_v n x.1) (inst 95 [.agg [.s, .b, .i .i64, .s]] [] (OSh.plain (.tup [.s, .i .i64]) []) (fun x e => z48_v n x.1.1 x.1.2.1 x.1.2.2.1 x.1.2.2.2.1) Spec.none))
theorem z55_σok (n : Nat) : SpecOk Tryz.prog (z55_σ n) := (inst_ok (fun x e y h => z68_c n x.1 y h) (inst_ok (fun x e y h => z48_c n x.1.1 x.1.2.1 x.1.2.2.1 x.1.2.2.2.1 y h) (SpecOk.none _)))
def z55_Φ (n : Nat) : Orc := with_ Tryz.prog (z55_σ n) [] n 0 hsL
def z55_v (n : Nat) (s0 : ByteArray) (b1 : Bool) (r2 : Rows) : Option ((ByteArray × Bool × Unit) × Unit) :=
 DM.denFn tm (z55_Φ n) z55_lv n Tryz.f96 false [aS s0, AV.sl b1 kdT r2 Right.no] [] (OSh.chk (OSh.plain (.tup [.s, .b]) []))
def z55_l5 (n : Nat) (s0 : ByteArray) (b1 : Bool) (r2 : Rows) (i0 : Nat) (s5 : ByteArray) (j6 : Int) : Option ((ByteArray × Bool × Unit) × Unit) :=
 DM.loopFn tm (z55_Φ n) z55_lv n Tryz.f96 false [] (OSh.chk (OSh.plain (.tup [.s, .b]) [])) 5 [] i0 (St.mk ([Jk, AV.sl b1 kdT r2 Right.no, Jk, Jk, Jk, Jk, aS s5, aI j6] ++ jk 37) [])
theorem z55_s5 (n : Nat) (s0 : ByteArray) (b1 : Bool) (r2 : Rows) (i0 : Nat) (s5 : ByteArray) (j6 : Int) : z55_l5 n s0 b1 r2 (i0 + 1) s5 j6 =
 bif decide (j6 < (↑(List.length r2) : Int)) then
 if 0 ≤ j6 then
 if j6 < (↑(List.length r2) : Int) then
 obind (z48_v n (Row.S (List.getD r2 (Int.toNat j6) []) 0) (Row.B (List.getD r2 (Int.toNat j6) []) 1) (Row.I (List.getD r2 (Int.toNat j6) []) 2) (Row.S (List.getD r2 (Int.toNat j6) []) 3)) fun y7 =>
 bif y7.fst.snd.fst != 0 then
 some ((ByteArray.mk #[], (false, ())), ())
 else bif decide (j6 > 0) then
 if ByteArray.size s5 + 2 < 4611686018427387904 then
 if ByteArray.size (s5 ++ ByteArray.mk #[44, 32]) + ByteArray.size y7.fst.fst < 4611686018427387904 then
 z55_l5 n s0 b1 r2 i0 (s5 ++ ByteArray.mk #[44, 32] ++ y7.fst.fst) (IntKind.wrap IntKind.i64 (j6 + 1))
 else none
 else none
 else if ByteArray.size s5 + ByteArray.size y7.fst.fst < 4611686018427387904 then
 z55_l5 n s0 b1 r2 i0 (s5 ++ y7.fst.fst) (IntKind.wrap IntKind.i64 (j6 + 1))
 else none
 else none
 else none
 else if ByteArray.size s5 + 1 < 4611686018427387904 then
 some ((s5 ++ ByteArray.mk #[41], (true, ())), ())
 else none := by kernel_rfl
theorem z55_e (n : Nat) (s0 : ByteArray) (b1 : Bool) (r2 : Rows) : z55_v n s0 b1 r2 =
 obind (z68_v n s0) fun y3 =>
 bif !y3.fst then
 some ((ByteArray.mk #[], (false, ())), ())
 else bif decide ((↑(List.length r2) : Int) > 4) then
 some ((ByteArray.mk #[], (false, ())), ())
 else if ByteArray.size s0 + 1 < 4611686018427387904 then
 z55_l5 n s0 b1 r2 n (s0 ++ ByteArray.mk #[40]) 0
 else none := by kernel_rfl
theorem z55_c (n : Nat) (s0 : ByteArray) (b1 : Bool) (r2 : Rows) (y : (ByteArray × Bool × Unit) × Unit) (h : z55_v n s0 b1 r2 = some y) : Contract Tryz.prog 96 [aS s0, AV.sl b1 kdT r2 Right.no] [] (OSh.enc (OSh.plain (.tup [.s, .b]) []) y) :=
 ac (OSh.plain (.tup [.s, .b]) []) (z55_σok n) Tryz.func96 (by decide) h
def z69_lv : Live := []
def z69_σ (n : Nat) : Spec := Spec.none
theorem z69_σok (n : Nat) : SpecOk Tryz.prog (z69_σ n) := (SpecOk.none _)
def z69_Φ (n : Nat) : Orc := with_ Tryz.prog (z69_σ n) [] n 0 hsL
def z69_v (n : Nat) (s0 : ByteArray) (b1 : Bool) (j2 : Int) (s3 : ByteArray) : Option (Bool × Unit) :=
 DM.denFn tm (z69_Φ n) z69_lv n Tryz.f139 false [AV.agg [aS s0, aB b1, aI j2, aS s3]] [] (OSh.chk (OSh.plain (.b) []))
theorem z69_e (n : Nat) (s0 : ByteArray) (b1 : Bool) (j2 : Int) (s3 : ByteArray) : z69_v n s0 b1 j2 s3 =
 some (s0 == ByteArray.mk #[] && (b1 == false && (j2 == 0 && (s3 == ByteArray.mk #[] && true))), ()) := by kernel_rfl
theorem z69_c (n : Nat) (s0 : ByteArray) (b1 : Bool) (j2 : Int) (s3 : ByteArray) (y : Bool × Unit) (h : z69_v n s0 b1 j2 s3 = some y) : Contract Tryz.prog 139 [AV.agg [aS s0, aB b1, aI j2, aS s3]] [] (OSh.enc (OSh.plain (.b) []) y) :=
 ac (OSh.plain (.b) []) (z69_σok n) Tryz.func139 (by decide) h
def z36_lv : Live := []
def z36_σ (n : Nat) : Spec := (inst 139 [.agg [.s, .b, .i .i64, .s]] [] (OSh.plain (.b) []) (fun x e => z69_v n x.1.1 x.1.2.1 x.1.2.2.1 x.1.2.2.2.1) (inst 95 [.agg [.s, .b, .i .i64, .s]] [] (OSh.plain (.tup [.s, .i .i64]) []) (fun x e => z48_v n x.1.1 x.1.2.1 x.1.2.2.1 x.1.2.2.2.1) Spec.none))
theorem z36_σok (n : Nat) : SpecOk Tryz.prog (z36_σ n) := (inst_ok (fun x e y h => z69_c n x.1.1 x.1.2.1 x.1.2.2.1 x.1.2.2.2.1 y h) (inst_ok (fun x e y h => z48_c n x.1.1 x.1.2.1 x.1.2.2.1 x.1.2.2.2.1 y h) (SpecOk.none _)))
def z36_Φ (n : Nat) : Orc := with_ Tryz.prog (z36_σ n) [] n 0 hsL
def z36_v (n : Nat) (s0 : ByteArray) (s1 : ByteArray) (b2 : Bool) (j3 : Int) (s4 : ByteArray) (s5 : ByteArray) : Option ((ByteArray × Bool × Unit) × Unit) :=
 DM.denFn tm (z36_Φ n) z36_lv n Tryz.f97 false [aS s0, AV.agg [aS s1, aB b2, aI j3, aS s4], aS s5] [] (OSh.chk (OSh.plain (.tup [.s, .b]) []))
theorem z36_e (n : Nat) (s0 : ByteArray) (s1 : ByteArray) (b2 : Bool) (j3 : Int) (s4 : ByteArray) (s5 : ByteArray) : z36_v n s0 s1 b2 j3 s4 s5 =
 obind (z69_v n s1 b2 j3 s4) fun y6 =>
 bif y6.fst then
 some ((ByteArray.mk #[], (true, ())), ())
 else obind (z48_v n s1 b2 j3 s4) fun y7 =>
 if ByteArray.size s0 + ByteArray.size y7.fst.fst < 4611686018427387904 then
 if ByteArray.size (s0 ++ y7.fst.fst) + ByteArray.size s5 < 4611686018427387904 then
 some ((s0 ++ y7.fst.fst ++ s5, (y7.fst.snd.fst == 0, ())), ())
 else none
 else none := by kernel_rfl
theorem z36_c (n : Nat) (s0 : ByteArray) (s1 : ByteArray) (b2 : Bool) (j3 : Int) (s4 : ByteArray) (s5 : ByteArray) (y : (ByteArray × Bool × Unit) × Unit) (h : z36_v n s0 s1 b2 j3 s4 s5 = some y) : Contract Tryz.prog 97 [aS s0, AV.agg [aS s1, aB b2, aI j3, aS s4], aS s5] [] (OSh.enc (OSh.plain (.tup [.s, .b]) []) y) :=
 ac (OSh.plain (.tup [.s, .b]) []) (z36_σok n) Tryz.func97 (by decide) h
def z58_lv : Live := [(10, [1, 10, 11], [1, 1000, 1001, 1002, 1003])]
def z58_σ (n : Nat) : Spec := (inst 95 [.agg [.s, .b, .i .i64, .s]] [] (OSh.plain (.tup [.s, .i .i64]) []) (fun x e => z48_v n x.1.1 x.1.2.1 x.1.2.2.1 x.1.2.2.2.1) (inst 96 [.s, .sl kdT] [] (OSh.plain (.tup [.s, .b]) []) (fun x e => z55_v n x.1 x.2.1.1 x.2.1.2) (inst 97 [.s, .agg [.s, .b, .i .i64, .s], .s] [] (OSh.plain (.tup [.s, .b]) []) (fun x e => z36_v n x.1 x.2.1.1 x.2.1.2.1 x.2.1.2.2.1 x.2.1.2.2.2.1 x.2.2.1) Spec.none)))
theorem z58_σok (n : Nat) : SpecOk Tryz.prog (z58_σ n) := (inst_ok (fun x e y h => z48_c n x.1.1 x.1.2.1 x.1.2.2.1 x.1.2.2.2.1 y h) (inst_ok (fun x e y h => z55_c n x.1 x.2.1.1 x.2.1.2 y h) (inst_ok (fun x e y h => z36_c n x.1 x.2.1.1 x.2.1.2.1 x.2.1.2.2.1 x.2.1.2.2.2.1 x.2.2.1 y h) (SpecOk.none _))))
def z58_Φ (n : Nat) : Orc := with_ Tryz.prog (z58_σ n) [] n 0 hsL
def z58_v (n : Nat) (s0 : ByteArray) (b1 : Bool) (j2 : Int) (s3 : ByteArray) (s4 : ByteArray) (b5 : Bool) (r6 : Rows) (s7 : ByteArray) (b8 : Bool) (j9 : Int) (s10 : ByteArray) (b11 : Bool) (r12 : Rows) : Option ((ByteArray × Int × Unit) × Unit) :=
 DM.denFn tm (z58_Φ n) z58_lv n Tryz.f46 false [AV.agg [aS s0, aB b1, aI j2, aS s3, aS s4, AV.sl b5 kdT r6 Right.no, aS s7, aB b8, aI j9, aS s10, AV.sl b11 kdL r12 Right.no]] [] (OSh.chk (OSh.plain (.tup [.s, .i .i64]) []))
def z58_l10 (n : Nat) (s0 : ByteArray) (b1 : Bool) (j2 : Int) (s3 : ByteArray) (s4 : ByteArray) (b5 : Bool) (r6 : Rows) (s7 : ByteArray) (b8 : Bool) (j9 : Int) (s10 : ByteArray) (b11 : Bool) (r12 : Rows) (i0 : Nat) (s16 : ByteArray) (j20 : Int) : Option ((ByteArray × Int × Unit) × Unit) :=
 DM.loopFn tm (z58_Φ n) z58_lv n Tryz.f46 false [] (OSh.chk (OSh.plain (.tup [.s, .i .i64]) [])) 10 [] i0 (St.mk ([Jk, AV.pl 1 0, Jk, Jk, Jk, Jk, Jk, Jk, Jk, Jk, aS s16, aI j20] ++ jk 119) [(1, [aS s0, aB b1, aI j2, aS s3, aS s4, AV.sl b5 kdT r6 Right.no, aS s7, aB b8, aI j9, aS s10, AV.sl b11 kdL r12 Right.no])])
theorem z58_s10 (n : Nat) (s0 : ByteArray) (b1 : Bool) (j2 : Int) (s3 : ByteArray) (s4 : ByteArray) (b5 : Bool) (r6 : Rows) (s7 : ByteArray) (b8 : Bool) (j9 : Int) (s10 : ByteArray) (b11 : Bool) (r12 : Rows) (i0 : Nat) (s16 : ByteArray) (j20 : Int) : z58_l10 n s0 b1 j2 s3 s4 b5 r6 s7 b8 j9 s10 b11 r12 (i0 + 1) s16 j20 =
 bif decide (j20 < (↑(List.length r12) : Int)) then
 if 0 ≤ j20 then
 if j20 < (↑(List.length r12) : Int) then
 obind (z36_v n (ByteArray.mk #[]) (Row.S (List.getD r12 (Int.toNat j20) []) 0) (Row.B (List.getD r12 (Int.toNat j20) []) 1) (Row.I (List.getD r12 (Int.toNat j20) []) 2) (Row.S (List.getD r12 (Int.toNat j20) []) 3) (ByteArray.mk #[32, 115, 97, 121, 115, 32])) fun y21 =>
 if 0 ≤ j20 then
 if j20 < (↑(List.length r12) : Int) then
 if 0 ≤ j20 then
 if j20 < (↑(List.length r12) : Int) then
 obind (z55_v n (Row.S (List.getD r12 (Int.toNat j20) []) 4) (Row.N (List.getD r12 (Int.toNat j20) []) 5) (Row.R (List.getD r12 (Int.toNat j20) []) 5)) fun y22 =>
 if 0 ≤ j20 then
 if j20 < (↑(List.length r12) : Int) then
 obind (z36_v n (ByteArray.mk #[32, 97, 116, 32]) (Row.S (List.getD r12 (Int.toNat j20) []) 6) (Row.B (List.getD r12 (Int.toNat j20) []) 7) (Row.I (List.getD r12 (Int.toNat j20) []) 8) (Row.S (List.getD r12 (Int.toNat j20) []) 9) (ByteArray.mk #[])) fun y23 =>
 bif !y21.fst.snd.fst then
 some ((ByteArray.mk #[], (100, ())), ())
 else bif !y22.fst.snd.fst then
 some ((ByteArray.mk #[], (100, ())), ())
 else bif !y23.fst.snd.fst then
 some ((ByteArray.mk #[], (100, ())), ())
 else bif decide (j20 > 0) then
 if ByteArray.size s16 + 2 < 4611686018427387904 then
 if ByteArray.size y21.fst.fst + ByteArray.size y22.fst.fst < 4611686018427387904 then
 if ByteArray.size (y21.fst.fst ++ y22.fst.fst) + ByteArray.size y23.fst.fst < 4611686018427387904 then
 if ByteArray.size (s16 ++ ByteArray.mk #[44, 32]) + ByteArray.size (y21.fst.fst ++ y22.fst.fst ++ y23.fst.fst) < 4611686018427387904 then
 z58_l10 n s0 b1 j2 s3 s4 b5 r6 s7 b8 j9 s10 b11 r12 i0 (s16 ++ ByteArray.mk #[44, 32] ++ (y21.fst.fst ++ y22.fst.fst ++ y23.fst.fst)) (IntKind.wrap IntKind.i64 (j20 + 1))
 else none
 else none
 else none
 else none
 else if ByteArray.size y21.fst.fst + ByteArray.size y22.fst.fst < 4611686018427387904 then
 if ByteArray.size (y21.fst.fst ++ y22.fst.fst) + ByteArray.size y23.fst.fst < 4611686018427387904 then
 if ByteArray.size s16 + ByteArray.size (y21.fst.fst ++ y22.fst.fst ++ y23.fst.fst) < 4611686018427387904 then
 z58_l10 n s0 b1 j2 s3 s4 b5 r6 s7 b8 j9 s10 b11 r12 i0 (s16 ++ (y21.fst.fst ++ y22.fst.fst ++ y23.fst.fst)) (IntKind.wrap IntKind.i64 (j20 + 1))
 else none
 else none
 else none
 else none
 else none
 else none
 else none
 else none
 else none
 else none
 else none
 else if ByteArray.size s16 + 1 < 4611686018427387904 then
 some ((s16 ++ ByteArray.mk #[46], (0, ())), ())
 else none := by kernel_rfl
theorem z58_e (n : Nat) (s0 : ByteArray) (b1 : Bool) (j2 : Int) (s3 : ByteArray) (s4 : ByteArray) (b5 : Bool) (r6 : Rows) (s7 : ByteArray) (b8 : Bool) (j9 : Int) (s10 : ByteArray) (b11 : Bool) (r12 : Rows) : z58_v n s0 b1 j2 s3 s4 b5 r6 s7 b8 j9 s10 b11 r12 =
 bif decide ((↑(List.length r12) : Int) < 1) then
 some ((ByteArray.mk #[], (100, ())), ())
 else bif decide ((↑(List.length r12) : Int) > 4) then
 some ((ByteArray.mk #[], (100, ())), ())
 else obind (z48_v n s0 b1 j2 s3) fun y13 =>
 obind (z55_v n s4 b5 r6) fun y14 =>
 obind (z36_v n (ByteArray.mk #[32, 116, 111, 32]) s7 b8 j9 s10 (ByteArray.mk #[])) fun y15 =>
 bif y13.fst.snd.fst != 0 then
 some ((ByteArray.mk #[], (100, ())), ())
 else bif !y14.fst.snd.fst then
 some ((ByteArray.mk #[], (100, ())), ())
 else bif !y15.fst.snd.fst then
 some ((ByteArray.mk #[], (100, ())), ())
 else if ByteArray.size y13.fst.fst + 2 < 4611686018427387904 then
 if ByteArray.size (y13.fst.fst ++ ByteArray.mk #[58, 32]) + ByteArray.size y14.fst.fst < 4611686018427387904 then
 if ByteArray.size (y13.fst.fst ++ ByteArray.mk #[58, 32] ++ y14.fst.fst) + ByteArray.size y15.fst.fst < 4611686018427387904 then
 if ByteArray.size (y13.fst.fst ++ ByteArray.mk #[58, 32] ++ y14.fst.fst ++ y15.fst.fst) + 4 < 4611686018427387904 then
 z58_l10 n s0 b1 j2 s3 s4 b5 r6 s7 b8 j9 s10 b11 r12 n (y13.fst.fst ++ ByteArray.mk #[58, 32] ++ y14.fst.fst ++ y15.fst.fst ++ ByteArray.mk #[32, 58, 45, 32]) 0
 else none
 else none
 else none
 else none := by kernel_rfl
theorem z58_c (n : Nat) (s0 : ByteArray) (b1 : Bool) (j2 : Int) (s3 : ByteArray) (s4 : ByteArray) (b5 : Bool) (r6 : Rows) (s7 : ByteArray) (b8 : Bool) (j9 : Int) (s10 : ByteArray) (b11 : Bool) (r12 : Rows) (y : (ByteArray × Int × Unit) × Unit) (h : z58_v n s0 b1 j2 s3 s4 b5 r6 s7 b8 j9 s10 b11 r12 = some y) : Contract Tryz.prog 46 [AV.agg [aS s0, aB b1, aI j2, aS s3, aS s4, AV.sl b5 kdT r6 Right.no, aS s7, aB b8, aI j9, aS s10, AV.sl b11 kdL r12 Right.no]] [] (OSh.enc (OSh.plain (.tup [.s, .i .i64]) []) y) :=
 ac (OSh.plain (.tup [.s, .i .i64]) []) (z58_σok n) Tryz.func46 (by decide) h
def z30_lv : Live := []
def z30_σ (n : Nat) : Spec := Spec.none
theorem z30_σok (n : Nat) : SpecOk Tryz.prog (z30_σ n) := (SpecOk.none _)
def z30_Φ (n : Nat) : Orc := with_ Tryz.prog (z30_σ n) [] n 0 hsL
def z30_v (n : Nat) (s0 : ByteArray) (b1 : Bool) (j2 : Int) (s3 : ByteArray) : Option (Bool × Unit) :=
 DM.denFn tm (z30_Φ n) z30_lv n Tryz.f98 false [AV.agg [aS s0, aB b1, aI j2, aS s3]] [] (OSh.chk (OSh.plain (.b) []))
theorem z30_e (n : Nat) (s0 : ByteArray) (b1 : Bool) (j2 : Int) (s3 : ByteArray) : z30_v n s0 b1 j2 s3 =
 bif s0 == ByteArray.mk #[] then
 some (b1, ())
 else some (false, ()) := by kernel_rfl
theorem z30_c (n : Nat) (s0 : ByteArray) (b1 : Bool) (j2 : Int) (s3 : ByteArray) (y : Bool × Unit) (h : z30_v n s0 b1 j2 s3 = some y) : Contract Tryz.prog 98 [AV.agg [aS s0, aB b1, aI j2, aS s3]] [] (OSh.enc (OSh.plain (.b) []) y) :=
 ac (OSh.plain (.b) []) (z30_σok n) Tryz.func98 (by decide) h
def z25_lv : Live := [(4, [1, 3], [1, 1000, 1001, 1002, 1003])]
def z25_σ (n : Nat) : Spec := (inst 98 [.agg [.s, .b, .i .i64, .s]] [] (OSh.plain (.b) []) (fun x e => z30_v n x.1.1 x.1.2.1 x.1.2.2.1 x.1.2.2.2.1) Spec.none)
theorem z25_σok (n : Nat) : SpecOk Tryz.prog (z25_σ n) := (inst_ok (fun x e y h => z30_c n x.1.1 x.1.2.1 x.1.2.2.1 x.1.2.2.2.1 y h) (SpecOk.none _))
def z25_Φ (n : Nat) : Orc := with_ Tryz.prog (z25_σ n) [] n 0 hsL
def z25_v (n : Nat) (s0 : ByteArray) (b1 : Bool) (j2 : Int) (s3 : ByteArray) (s4 : ByteArray) (b5 : Bool) (r6 : Rows) (s7 : ByteArray) (b8 : Bool) (j9 : Int) (s10 : ByteArray) (b11 : Bool) (r12 : Rows) : Option (Int × Unit) :=
 DM.denFn tm (z25_Φ n) z25_lv n Tryz.f47 false [AV.agg [aS s0, aB b1, aI j2, aS s3, aS s4, AV.sl b5 kdT r6 Right.no, aS s7, aB b8, aI j9, aS s10, AV.sl b11 kdL r12 Right.no]] [] (OSh.chk (OSh.plain (.i .i64) []))
def z25_l4 (n : Nat) (s0 : ByteArray) (b1 : Bool) (j2 : Int) (s3 : ByteArray) (s4 : ByteArray) (b5 : Bool) (r6 : Rows) (s7 : ByteArray) (b8 : Bool) (j9 : Int) (s10 : ByteArray) (b11 : Bool) (r12 : Rows) (i0 : Nat) (j17 : Int) : Option (Int × Unit) :=
 DM.loopFn tm (z25_Φ n) z25_lv n Tryz.f47 false [] (OSh.chk (OSh.plain (.i .i64) [])) 4 [] i0 (St.mk ([Jk, AV.pl 1 0, Jk, aI j17] ++ jk 32) [(1, [aS s0, aB b1, aI j2, aS s3, aS s4, AV.sl b5 kdT r6 Right.no, aS s7, aB b8, aI j9, aS s10, AV.sl b11 kdL r12 Right.no])])
theorem z25_s4 (n : Nat) (s0 : ByteArray) (b1 : Bool) (j2 : Int) (s3 : ByteArray) (s4 : ByteArray) (b5 : Bool) (r6 : Rows) (s7 : ByteArray) (b8 : Bool) (j9 : Int) (s10 : ByteArray) (b11 : Bool) (r12 : Rows) (i0 : Nat) (j17 : Int) : z25_l4 n s0 b1 j2 s3 s4 b5 r6 s7 b8 j9 s10 b11 r12 (i0 + 1) j17 =
 bif decide (j17 < (↑(List.length r12) : Int)) then
 if 0 ≤ j17 then
 if j17 < (↑(List.length r12) : Int) then
 obind (z30_v n (Row.S (List.getD r12 (Int.toNat j17) []) 0) (Row.B (List.getD r12 (Int.toNat j17) []) 1) (Row.I (List.getD r12 (Int.toNat j17) []) 2) (Row.S (List.getD r12 (Int.toNat j17) []) 3)) fun y18 =>
 bif y18.fst then
 some (j17, ())
 else if 0 ≤ j17 then
 if j17 < (↑(List.length r12) : Int) then
 obind (z30_v n (Row.S (List.getD r12 (Int.toNat j17) []) 6) (Row.B (List.getD r12 (Int.toNat j17) []) 7) (Row.I (List.getD r12 (Int.toNat j17) []) 8) (Row.S (List.getD r12 (Int.toNat j17) []) 9)) fun y19 =>
 bif y19.fst then
 some (j17, ())
 else z25_l4 n s0 b1 j2 s3 s4 b5 r6 s7 b8 j9 s10 b11 r12 i0 (IntKind.wrap IntKind.i64 (j17 + 1))
 else none
 else none
 else none
 else none
 else some (-2, ()) := by kernel_rfl
theorem z25_e (n : Nat) (s0 : ByteArray) (b1 : Bool) (j2 : Int) (s3 : ByteArray) (s4 : ByteArray) (b5 : Bool) (r6 : Rows) (s7 : ByteArray) (b8 : Bool) (j9 : Int) (s10 : ByteArray) (b11 : Bool) (r12 : Rows) : z25_v n s0 b1 j2 s3 s4 b5 r6 s7 b8 j9 s10 b11 r12 =
 obind (z30_v n s0 b1 j2 s3) fun y13 =>
 bif y13.fst then
 some (-1, ())
 else obind (z30_v n s7 b8 j9 s10) fun y14 =>
 bif y14.fst then
 some (-1, ())
 else z25_l4 n s0 b1 j2 s3 s4 b5 r6 s7 b8 j9 s10 b11 r12 n 0 := by kernel_rfl
theorem z25_c (n : Nat) (s0 : ByteArray) (b1 : Bool) (j2 : Int) (s3 : ByteArray) (s4 : ByteArray) (b5 : Bool) (r6 : Rows) (s7 : ByteArray) (b8 : Bool) (j9 : Int) (s10 : ByteArray) (b11 : Bool) (r12 : Rows) (y : Int × Unit) (h : z25_v n s0 b1 j2 s3 s4 b5 r6 s7 b8 j9 s10 b11 r12 = some y) : Contract Tryz.prog 47 [AV.agg [aS s0, aB b1, aI j2, aS s3, aS s4, AV.sl b5 kdT r6 Right.no, aS s7, aB b8, aI j9, aS s10, AV.sl b11 kdL r12 Right.no]] [] (OSh.enc (OSh.plain (.i .i64) []) y) :=
 ac (OSh.plain (.i .i64) []) (z25_σok n) Tryz.func47 (by decide) h
def z74_lv : Live := [(2, [0, 1, 2, 8], [1000, 1001, 1002, 1003])]
def z74_σ (n : Nat) : Spec := Spec.none
theorem z74_σok (n : Nat) : SpecOk Tryz.prog (z74_σ n) := (SpecOk.none _)
def z74_Φ (n : Nat) : Orc := with_ Tryz.prog (z74_σ n) [] n 0 hsL
def z74_v (n : Nat) (b0 : Bool) (r1 : Rows) (s2 : ByteArray) (j3 : Int) : Option (((Bool × Rows) × Bool × Unit) × Unit) :=
 DM.denFn tm (z74_Φ n) z74_lv n Tryz.f99 true [AV.sl b0 [Kd.s, Kd.i .i64] r1 (Right.tok 500000), aS s2, aI j3] [] (OSh.chk (OSh.plain (.tup [.slt [Kd.s, Kd.i .i64] 0, .b]) []))
def z74_l2 (n : Nat) (b0 : Bool) (r1 : Rows) (s2 : ByteArray) (j3 : Int) (i0 : Nat) (j4 : Int) : Option (((Bool × Rows) × Bool × Unit) × Unit) :=
 DM.loopFn tm (z74_Φ n) z74_lv n Tryz.f99 true [] (OSh.chk (OSh.plain (.tup [.slt [Kd.s, Kd.i .i64] 0, .b]) [])) 2 [] i0 (St.mk ([AV.sl b0 [Kd.s, Kd.i .i64] r1 (Right.tok 0), aS s2, aI j3, Jk, Jk, Jk, Jk, Jk, aI j4] ++ jk 27) [])
theorem z74_s2 (n : Nat) (b0 : Bool) (r1 : Rows) (s2 : ByteArray) (j3 : Int) (i0 : Nat) (j4 : Int) : z74_l2 n b0 r1 s2 j3 (i0 + 1) j4 =
 bif decide (j4 < (↑(List.length r1) : Int)) then
 if 0 ≤ j4 then
 if j4 < (↑(List.length r1) : Int) then
 bif Row.S (List.getD r1 (Int.toNat j4) []) 0 == s2 then
 if 0 ≤ j4 then
 if j4 < (↑(List.length r1) : Int) then
 some (((b0, r1), (Row.I (List.getD r1 (Int.toNat j4) []) 1 != j3, ())), ())
 else none
 else none
 else z74_l2 n b0 r1 s2 j3 i0 (IntKind.wrap IntKind.i64 (j4 + 1))
 else none
 else none
 else if (List.length r1 + List.length [[DV.val (Value.string s2), DV.val (Value.int .i64 j3)]]) * 24 ≤ 140737488355328 then
 some (((b0 && List.isEmpty [[DV.val (Value.string s2), DV.val (Value.int .i64 j3)]], appX r1 [[DV.val (Value.string s2), DV.val (Value.int .i64 j3)]]), (false, ())), ())
 else none := by kernel_rfl
theorem z74_e (n : Nat) (b0 : Bool) (r1 : Rows) (s2 : ByteArray) (j3 : Int) : z74_v n b0 r1 s2 j3 =
 z74_l2 n b0 r1 s2 j3 n 0 := by kernel_rfl
theorem z74_c (n : Nat) (b0 : Bool) (r1 : Rows) (s2 : ByteArray) (j3 : Int) (y : ((Bool × Rows) × Bool × Unit) × Unit) (h : z74_v n b0 r1 s2 j3 = some y) : Contract Tryz.prog 99 [AV.sl b0 [Kd.s, Kd.i .i64] r1 (Right.tok 500000), aS s2, aI j3] [] (OSh.enc (OSh.plain (.tup [.slt [Kd.s, Kd.i .i64] 0, .b]) []) y) :=
 ac (OSh.plain (.tup [.slt [Kd.s, Kd.i .i64] 0, .b]) []) (z74_σok n) Tryz.func99 (by decide) h
def z17_lv : Live := [(5, [0, 3, 7], [3, 1000, 1001, 1002, 1003])]
def z17_σ (n : Nat) : Spec := (inst 99 [.slt [Kd.s, Kd.i .i64] 500000, .s, .i .i64] [] (OSh.plain (.tup [.slt [Kd.s, Kd.i .i64] 0, .b]) []) (fun x e => z74_v n x.1.1 x.1.2 x.2.1 x.2.2.1) Spec.none)
theorem z17_σok (n : Nat) : SpecOk Tryz.prog (z17_σ n) := (inst_ok (fun x e y h => z74_c n x.1.1 x.1.2 x.2.1 x.2.2.1 y h) (SpecOk.none _))
def z17_Φ (n : Nat) : Orc := with_ Tryz.prog (z17_σ n) [] n 0 hsL
def z17_v (n : Nat) (b0 : Bool) (r1 : Rows) (s2 : ByteArray) (b3 : Bool) (j4 : Int) (s5 : ByteArray) (s6 : ByteArray) (b7 : Bool) (r8 : Rows) (s9 : ByteArray) (b10 : Bool) (j11 : Int) (s12 : ByteArray) (b13 : Bool) (r14 : Rows) : Option (((Bool × Rows) × Int × Unit) × Unit) :=
 DM.denFn tm (z17_Φ n) z17_lv n Tryz.f48 true [AV.sl b0 [Kd.s, Kd.i .i64] r1 (Right.tok 500000), AV.agg [aS s2, aB b3, aI j4, aS s5, aS s6, AV.sl b7 kdT r8 Right.no, aS s9, aB b10, aI j11, aS s12, AV.sl b13 kdL r14 Right.no]] [] (OSh.chk (OSh.plain (.tup [.slt [Kd.s, Kd.i .i64] 0, .i .i64]) []))
def z17_l5 (n : Nat) (b0 : Bool) (r1 : Rows) (s2 : ByteArray) (b3 : Bool) (j4 : Int) (s5 : ByteArray) (s6 : ByteArray) (b7 : Bool) (r8 : Rows) (s9 : ByteArray) (b10 : Bool) (j11 : Int) (s12 : ByteArray) (b13 : Bool) (r14 : Rows) (i0 : Nat) (b16 : Bool) (r17 : List (List DV)) (j19 : Int) : Option (((Bool × Rows) × Int × Unit) × Unit) :=
 DM.loopFn tm (z17_Φ n) z17_lv n Tryz.f48 true [] (OSh.chk (OSh.plain (.tup [.slt [Kd.s, Kd.i .i64] 0, .i .i64]) [])) 5 [] i0 (St.mk ([AV.sl b16 [Kd.s, Kd.i .i64] r17 (Right.tok 0), Jk, Jk, AV.pl 3 0, Jk, Jk, Jk, aI j19] ++ jk 41) [(3, [aS s2, aB b3, aI j4, aS s5, aS s6, AV.sl b7 kdT r8 Right.no, aS s9, aB b10, aI j11, aS s12, AV.sl b13 kdL r14 Right.no])])
theorem z17_s5 (n : Nat) (b0 : Bool) (r1 : Rows) (s2 : ByteArray) (b3 : Bool) (j4 : Int) (s5 : ByteArray) (s6 : ByteArray) (b7 : Bool) (r8 : Rows) (s9 : ByteArray) (b10 : Bool) (j11 : Int) (s12 : ByteArray) (b13 : Bool) (r14 : Rows) (i0 : Nat) (b16 : Bool) (r17 : List (List DV)) (j19 : Int) : z17_l5 n b0 r1 s2 b3 j4 s5 s6 b7 r8 s9 b10 j11 s12 b13 r14 (i0 + 1) b16 r17 j19 =
 bif decide (j19 < (↑(List.length r14) : Int)) then
 if 0 ≤ j19 then
 if j19 < (↑(List.length r14) : Int) then
 if 0 ≤ j19 then
 if j19 < (↑(List.length r14) : Int) then
 obind (z74_v n b16 r17 (Row.S (List.getD r14 (Int.toNat j19) []) 4) ((↑(List.length (Row.R (List.getD r14 (Int.toNat j19) []) 5)) : Int))) fun y20 =>
 bif y20.fst.snd.fst then
 some (((y20.fst.fst.fst, y20.fst.fst.snd), (j19, ())), ())
 else z17_l5 n b0 r1 s2 b3 j4 s5 s6 b7 r8 s9 b10 j11 s12 b13 r14 i0 y20.fst.fst.fst y20.fst.fst.snd (IntKind.wrap IntKind.i64 (j19 + 1))
 else none
 else none
 else none
 else none
 else some (((b16, r17), (-2, ())), ()) := by kernel_rfl
theorem z17_e (n : Nat) (b0 : Bool) (r1 : Rows) (s2 : ByteArray) (b3 : Bool) (j4 : Int) (s5 : ByteArray) (s6 : ByteArray) (b7 : Bool) (r8 : Rows) (s9 : ByteArray) (b10 : Bool) (j11 : Int) (s12 : ByteArray) (b13 : Bool) (r14 : Rows) : z17_v n b0 r1 s2 b3 j4 s5 s6 b7 r8 s9 b10 j11 s12 b13 r14 =
 obind (z74_v n b0 r1 s6 ((↑(List.length r8) : Int))) fun y15 =>
 bif y15.fst.snd.fst then
 some (((y15.fst.fst.fst, y15.fst.fst.snd), (-1, ())), ())
 else z17_l5 n b0 r1 s2 b3 j4 s5 s6 b7 r8 s9 b10 j11 s12 b13 r14 n y15.fst.fst.fst y15.fst.fst.snd 0 := by kernel_rfl
theorem z17_c (n : Nat) (b0 : Bool) (r1 : Rows) (s2 : ByteArray) (b3 : Bool) (j4 : Int) (s5 : ByteArray) (s6 : ByteArray) (b7 : Bool) (r8 : Rows) (s9 : ByteArray) (b10 : Bool) (j11 : Int) (s12 : ByteArray) (b13 : Bool) (r14 : Rows) (y : ((Bool × Rows) × Int × Unit) × Unit) (h : z17_v n b0 r1 s2 b3 j4 s5 s6 b7 r8 s9 b10 j11 s12 b13 r14 = some y) : Contract Tryz.prog 48 [AV.sl b0 [Kd.s, Kd.i .i64] r1 (Right.tok 500000), AV.agg [aS s2, aB b3, aI j4, aS s5, aS s6, AV.sl b7 kdT r8 Right.no, aS s9, aB b10, aI j11, aS s12, AV.sl b13 kdL r14 Right.no]] [] (OSh.enc (OSh.plain (.tup [.slt [Kd.s, Kd.i .i64] 0, .i .i64]) []) y) :=
 ac (OSh.plain (.tup [.slt [Kd.s, Kd.i .i64] 0, .i .i64]) []) (z17_σok n) Tryz.func48 (by decide) h
def z85_lv : Live := [(2, [0, 1, 5], [1000, 1001, 1002, 1003])]
def z85_σ (n : Nat) : Spec := Spec.none
theorem z85_σok (n : Nat) : SpecOk Tryz.prog (z85_σ n) := (SpecOk.none _)
def z85_Φ (n : Nat) : Orc := with_ Tryz.prog (z85_σ n) [] n 0 hsL
def z85_v (n : Nat) (b0 : Bool) (r1 : Rows) (s2 : ByteArray) : Option (Bool × Unit) :=
 DM.denFn tm (z85_Φ n) z85_lv n Tryz.f100 false [AV.sl b0 [Kd.s] r1 Right.no, aS s2] [] (OSh.chk (OSh.plain (.b) []))
def z85_l2 (n : Nat) (b0 : Bool) (r1 : Rows) (s2 : ByteArray) (i0 : Nat) (j3 : Int) : Option (Bool × Unit) :=
 DM.loopFn tm (z85_Φ n) z85_lv n Tryz.f100 false [] (OSh.chk (OSh.plain (.b) [])) 2 [] i0 (St.mk ([AV.sl b0 [Kd.s] r1 Right.no, aS s2, Jk, Jk, Jk, aI j3] ++ jk 12) [])
theorem z85_s2 (n : Nat) (b0 : Bool) (r1 : Rows) (s2 : ByteArray) (i0 : Nat) (j3 : Int) : z85_l2 n b0 r1 s2 (i0 + 1) j3 =
 bif decide (j3 < (↑(List.length r1) : Int)) then
 if 0 ≤ j3 then
 if j3 < (↑(List.length r1) : Int) then
 bif Row.S (List.getD r1 (Int.toNat j3) []) 0 == s2 then
 some (true, ())
 else z85_l2 n b0 r1 s2 i0 (IntKind.wrap IntKind.i64 (j3 + 1))
 else none
 else none
 else some (false, ()) := by kernel_rfl
theorem z85_e (n : Nat) (b0 : Bool) (r1 : Rows) (s2 : ByteArray) : z85_v n b0 r1 s2 =
 z85_l2 n b0 r1 s2 n 0 := by kernel_rfl
theorem z85_c (n : Nat) (b0 : Bool) (r1 : Rows) (s2 : ByteArray) (y : Bool × Unit) (h : z85_v n b0 r1 s2 = some y) : Contract Tryz.prog 100 [AV.sl b0 [Kd.s] r1 Right.no, aS s2] [] (OSh.enc (OSh.plain (.b) []) y) :=
 ac (OSh.plain (.b) []) (z85_σok n) Tryz.func100 (by decide) h
def z50_lv : Live := []
def z50_σ (n : Nat) : Spec := (inst 100 [.sl [Kd.s], .s] [] (OSh.plain (.b) []) (fun x e => z85_v n x.1.1 x.1.2 x.2.1) Spec.none)
theorem z50_σok (n : Nat) : SpecOk Tryz.prog (z50_σ n) := (inst_ok (fun x e y h => z85_c n x.1.1 x.1.2 x.2.1 y h) (SpecOk.none _))
def z50_Φ (n : Nat) : Orc := with_ Tryz.prog (z50_σ n) [] n 0 hsL
def z50_v (n : Nat) (b0 : Bool) (r1 : Rows) (s2 : ByteArray) (b3 : Bool) (j4 : Int) (s5 : ByteArray) : Option ((Bool × Rows) × Unit) :=
 DM.denFn tm (z50_Φ n) z50_lv n Tryz.f102 true [AV.sl b0 [Kd.s] r1 (Right.tok 500000), AV.agg [aS s2, aB b3, aI j4, aS s5]] [] (OSh.chk (OSh.plain (.slt [Kd.s] 0) []))
theorem z50_e (n : Nat) (b0 : Bool) (r1 : Rows) (s2 : ByteArray) (b3 : Bool) (j4 : Int) (s5 : ByteArray) : z50_v n b0 r1 s2 b3 j4 s5 =
 bif s2 == ByteArray.mk #[] then
 some ((b0, r1), ())
 else obind (z85_v n b0 r1 s2) fun y6 =>
 bif y6.fst then
 some ((b0, r1), ())
 else if (List.length r1 + List.length [[DV.val (Value.string s2)]]) * 16 ≤ 140737488355328 then
 some ((b0 && List.isEmpty [[DV.val (Value.string s2)]], appX r1 [[DV.val (Value.string s2)]]), ())
 else none := by kernel_rfl
theorem z50_c (n : Nat) (b0 : Bool) (r1 : Rows) (s2 : ByteArray) (b3 : Bool) (j4 : Int) (s5 : ByteArray) (y : (Bool × Rows) × Unit) (h : z50_v n b0 r1 s2 b3 j4 s5 = some y) : Contract Tryz.prog 102 [AV.sl b0 [Kd.s] r1 (Right.tok 500000), AV.agg [aS s2, aB b3, aI j4, aS s5]] [] (OSh.enc (OSh.plain (.slt [Kd.s] 0) []) y) :=
 ac (OSh.plain (.slt [Kd.s] 0) []) (z50_σok n) Tryz.func102 (by decide) h
def z37_lv : Live := [(3, [1, 2, 5, 6], [2, 1000, 1001, 1002, 1003]), (7, [1, 2, 5, 6, 7], [2, 1000, 1001, 1002, 1003])]
def z37_σ (n : Nat) : Spec := (inst 102 [.slt [Kd.s] 500000, .agg [.s, .b, .i .i64, .s]] [] (OSh.plain (.slt [Kd.s] 0) []) (fun x e => z50_v n x.1.1 x.1.2 x.2.1.1 x.2.1.2.1 x.2.1.2.2.1 x.2.1.2.2.2.1) Spec.none)
theorem z37_σok (n : Nat) : SpecOk Tryz.prog (z37_σ n) := (inst_ok (fun x e y h => z50_c n x.1.1 x.1.2 x.2.1.1 x.2.1.2.1 x.2.1.2.2.1 x.2.1.2.2.2.1 y h) (SpecOk.none _))
def z37_Φ (n : Nat) : Orc := with_ Tryz.prog (z37_σ n) [] n 0 hsL
def z37_v (n : Nat) (s0 : ByteArray) (b1 : Bool) (j2 : Int) (s3 : ByteArray) (s4 : ByteArray) (b5 : Bool) (r6 : Rows) (s7 : ByteArray) (b8 : Bool) (j9 : Int) (s10 : ByteArray) (b11 : Bool) (r12 : Rows) (j13 : Int) : Option ((Bool × Rows) × Unit) :=
 DM.denFn tm (z37_Φ n) z37_lv n Tryz.f54 true [AV.agg [aS s0, aB b1, aI j2, aS s3, aS s4, AV.sl b5 kdT r6 Right.no, aS s7, aB b8, aI j9, aS s10, AV.sl b11 kdL r12 Right.no], aI j13] [] (OSh.chk (OSh.plain (.slt [Kd.s] 0) []))
def z37_l3 (n : Nat) (s0 : ByteArray) (b1 : Bool) (j2 : Int) (s3 : ByteArray) (s4 : ByteArray) (b5 : Bool) (r6 : Rows) (s7 : ByteArray) (b8 : Bool) (j9 : Int) (s10 : ByteArray) (b11 : Bool) (r12 : Rows) (j13 : Int) (i0 : Nat) (b15 : Bool) (r16 : List (List DV)) (j23 : Int) : Option ((Bool × Rows) × Unit) :=
 DM.loopFn tm (z37_Φ n) z37_lv n Tryz.f54 true [] (OSh.chk (OSh.plain (.slt [Kd.s] 0) [])) 3 [] i0 (St.mk ([Jk, aI j13, AV.pl 2 0, Jk, Jk, AV.sl b15 [Kd.s] r16 (Right.tok 5), aI j23] ++ jk 55) [(2, [aS s0, aB b1, aI j2, aS s3, aS s4, AV.sl b5 kdT r6 Right.no, aS s7, aB b8, aI j9, aS s10, AV.sl b11 kdL r12 Right.no])])
def z37_l7 (n : Nat) (s0 : ByteArray) (b1 : Bool) (j2 : Int) (s3 : ByteArray) (s4 : ByteArray) (b5 : Bool) (r6 : Rows) (s7 : ByteArray) (b8 : Bool) (j9 : Int) (s10 : ByteArray) (b11 : Bool) (r12 : Rows) (j13 : Int) (i0 i1 : Nat) (b18 : Bool) (r19 : List (List DV)) (j22 : Int) (j25 : Int) : Option ((Bool × Rows) × Unit) :=
 DM.loopFn tm (z37_Φ n) z37_lv n Tryz.f54 true [] (OSh.chk (OSh.plain (.slt [Kd.s] 0) [])) 7 [i0] i1 (St.mk ([Jk, aI j13, AV.pl 2 0, Jk, Jk, AV.sl b18 [Kd.s] r19 (Right.tok 5), aI j25, aI j22] ++ jk 54) [(2, [aS s0, aB b1, aI j2, aS s3, aS s4, AV.sl b5 kdT r6 Right.no, aS s7, aB b8, aI j9, aS s10, AV.sl b11 kdL r12 Right.no])])
theorem z37_s3 (n : Nat) (s0 : ByteArray) (b1 : Bool) (j2 : Int) (s3 : ByteArray) (s4 : ByteArray) (b5 : Bool) (r6 : Rows) (s7 : ByteArray) (b8 : Bool) (j9 : Int) (s10 : ByteArray) (b11 : Bool) (r12 : Rows) (j13 : Int) (i0 : Nat) (b15 : Bool) (r16 : List (List DV)) (j23 : Int) : z37_l3 n s0 b1 j2 s3 s4 b5 r6 s7 b8 j9 s10 b11 r12 j13 (i0 + 1) b15 r16 j23 =
 bif decide (j23 < (↑(List.length r12) : Int)) then
 bif decide (j23 < j13) then
 if 0 ≤ j23 then
 if j23 < (↑(List.length r12) : Int) then
 obind (z50_v n b15 r16 (Row.S (List.getD r12 (Int.toNat j23) []) 0) (Row.B (List.getD r12 (Int.toNat j23) []) 1) (Row.I (List.getD r12 (Int.toNat j23) []) 2) (Row.S (List.getD r12 (Int.toNat j23) []) 3)) fun y24 =>
 z37_l7 n s0 b1 j2 s3 s4 b5 r6 s7 b8 j9 s10 b11 r12 j13 i0 n y24.fst.fst y24.fst.snd 0 j23
 else none
 else none
 else some ((b15, r16), ())
 else some ((b15, r16), ()) := by kernel_rfl
theorem z37_s7 (n : Nat) (s0 : ByteArray) (b1 : Bool) (j2 : Int) (s3 : ByteArray) (s4 : ByteArray) (b5 : Bool) (r6 : Rows) (s7 : ByteArray) (b8 : Bool) (j9 : Int) (s10 : ByteArray) (b11 : Bool) (r12 : Rows) (j13 : Int) (i0 i1 : Nat) (b18 : Bool) (r19 : List (List DV)) (j22 : Int) (j25 : Int) : z37_l7 n s0 b1 j2 s3 s4 b5 r6 s7 b8 j9 s10 b11 r12 j13 i0 (i1 + 1) b18 r19 j22 j25 =
 if 0 ≤ j25 then
 if j25 < (↑(List.length r12) : Int) then
 bif decide (j22 < (↑(List.length (Row.R (List.getD r12 (Int.toNat j25) []) 5)) : Int)) then
 if 0 ≤ j25 then
 if j25 < (↑(List.length r12) : Int) then
 if 0 ≤ j22 then
 if j22 < (↑(List.length (Row.R (List.getD r12 (Int.toNat j25) []) 5)) : Int) then
 obind (z50_v n b18 r19 (Row.S (List.getD (Row.R (List.getD r12 (Int.toNat j25) []) 5) (Int.toNat j22) []) 0) (Row.B (List.getD (Row.R (List.getD r12 (Int.toNat j25) []) 5) (Int.toNat j22) []) 1) (Row.I (List.getD (Row.R (List.getD r12 (Int.toNat j25) []) 5) (Int.toNat j22) []) 2) (Row.S (List.getD (Row.R (List.getD r12 (Int.toNat j25) []) 5) (Int.toNat j22) []) 3)) fun y26 =>
 z37_l7 n s0 b1 j2 s3 s4 b5 r6 s7 b8 j9 s10 b11 r12 j13 i0 i1 y26.fst.fst y26.fst.snd (IntKind.wrap IntKind.i64 (j22 + 1)) j25
 else none
 else none
 else none
 else none
 else if 0 ≤ j25 then
 if j25 < (↑(List.length r12) : Int) then
 obind (z50_v n b18 r19 (Row.S (List.getD r12 (Int.toNat j25) []) 6) (Row.B (List.getD r12 (Int.toNat j25) []) 7) (Row.I (List.getD r12 (Int.toNat j25) []) 8) (Row.S (List.getD r12 (Int.toNat j25) []) 9)) fun y27 =>
 z37_l3 n s0 b1 j2 s3 s4 b5 r6 s7 b8 j9 s10 b11 r12 j13 i0 y27.fst.fst y27.fst.snd (IntKind.wrap IntKind.i64 (j25 + 1))
 else none
 else none
 else none
 else none := by kernel_rfl
theorem z37_e (n : Nat) (s0 : ByteArray) (b1 : Bool) (j2 : Int) (s3 : ByteArray) (s4 : ByteArray) (b5 : Bool) (r6 : Rows) (s7 : ByteArray) (b8 : Bool) (j9 : Int) (s10 : ByteArray) (b11 : Bool) (r12 : Rows) (j13 : Int) : z37_v n s0 b1 j2 s3 s4 b5 r6 s7 b8 j9 s10 b11 r12 j13 =
 obind (z50_v n true [] s0 b1 j2 s3) fun y14 =>
 z37_l3 n s0 b1 j2 s3 s4 b5 r6 s7 b8 j9 s10 b11 r12 j13 n y14.fst.fst y14.fst.snd 0 := by kernel_rfl
theorem z37_c (n : Nat) (s0 : ByteArray) (b1 : Bool) (j2 : Int) (s3 : ByteArray) (s4 : ByteArray) (b5 : Bool) (r6 : Rows) (s7 : ByteArray) (b8 : Bool) (j9 : Int) (s10 : ByteArray) (b11 : Bool) (r12 : Rows) (j13 : Int) (y : (Bool × Rows) × Unit) (h : z37_v n s0 b1 j2 s3 s4 b5 r6 s7 b8 j9 s10 b11 r12 j13 = some y) : Contract Tryz.prog 54 [AV.agg [aS s0, aB b1, aI j2, aS s3, aS s4, AV.sl b5 kdT r6 Right.no, aS s7, aB b8, aI j9, aS s10, AV.sl b11 kdL r12 Right.no], aI j13] [] (OSh.enc (OSh.plain (.slt [Kd.s] 0) []) y) :=
 ac (OSh.plain (.slt [Kd.s] 0) []) (z37_σok n) Tryz.func54 (by decide) h
def z62_lv : Live := [(2, [1, 3], [1, 1000, 1001, 1002, 1003])]
def z62_σ (n : Nat) : Spec := (inst 54 [.agg [.s, .b, .i .i64, .s, .s, .sl kdT, .s, .b, .i .i64, .s, .sl kdL], .i .i64] [] (OSh.plain (.slt [Kd.s] 0) []) (fun x e => z37_v n x.1.1 x.1.2.1 x.1.2.2.1 x.1.2.2.2.1 x.1.2.2.2.2.1 x.1.2.2.2.2.2.1.1 x.1.2.2.2.2.2.1.2 x.1.2.2.2.2.2.2.1 x.1.2.2.2.2.2.2.2.1 x.1.2.2.2.2.2.2.2.2.1 x.1.2.2.2.2.2.2.2.2.2.1 x.1.2.2.2.2.2.2.2.2.2.2.1.1 x.1.2.2.2.2.2.2.2.2.2.2.1.2 x.2.1) (inst 100 [.sl [Kd.s], .s] [] (OSh.plain (.b) []) (fun x e => z85_v n x.1.1 x.1.2 x.2.1) Spec.none))
theorem z62_σok (n : Nat) : SpecOk Tryz.prog (z62_σ n) := (inst_ok (fun x e y h => z37_c n x.1.1 x.1.2.1 x.1.2.2.1 x.1.2.2.2.1 x.1.2.2.2.2.1 x.1.2.2.2.2.2.1.1 x.1.2.2.2.2.2.1.2 x.1.2.2.2.2.2.2.1 x.1.2.2.2.2.2.2.2.1 x.1.2.2.2.2.2.2.2.2.1 x.1.2.2.2.2.2.2.2.2.2.1 x.1.2.2.2.2.2.2.2.2.2.2.1.1 x.1.2.2.2.2.2.2.2.2.2.2.1.2 x.2.1 y h) (inst_ok (fun x e y h => z85_c n x.1.1 x.1.2 x.2.1 y h) (SpecOk.none _)))
def z62_Φ (n : Nat) : Orc := with_ Tryz.prog (z62_σ n) [] n 0 hsL
def z62_v (n : Nat) (s0 : ByteArray) (b1 : Bool) (j2 : Int) (s3 : ByteArray) (s4 : ByteArray) (b5 : Bool) (r6 : Rows) (s7 : ByteArray) (b8 : Bool) (j9 : Int) (s10 : ByteArray) (b11 : Bool) (r12 : Rows) : Option (Int × Unit) :=
 DM.denFn tm (z62_Φ n) z62_lv n Tryz.f49 false [AV.agg [aS s0, aB b1, aI j2, aS s3, aS s4, AV.sl b5 kdT r6 Right.no, aS s7, aB b8, aI j9, aS s10, AV.sl b11 kdL r12 Right.no]] [] (OSh.chk (OSh.plain (.i .i64) []))
def z62_l2 (n : Nat) (s0 : ByteArray) (b1 : Bool) (j2 : Int) (s3 : ByteArray) (s4 : ByteArray) (b5 : Bool) (r6 : Rows) (s7 : ByteArray) (b8 : Bool) (j9 : Int) (s10 : ByteArray) (b11 : Bool) (r12 : Rows) (i0 : Nat) (j15 : Int) : Option (Int × Unit) :=
 DM.loopFn tm (z62_Φ n) z62_lv n Tryz.f49 false [] (OSh.chk (OSh.plain (.i .i64) [])) 2 [] i0 (St.mk ([Jk, AV.pl 1 0, Jk, aI j15] ++ jk 26) [(1, [aS s0, aB b1, aI j2, aS s3, aS s4, AV.sl b5 kdT r6 Right.no, aS s7, aB b8, aI j9, aS s10, AV.sl b11 kdL r12 Right.no])])
theorem z62_s2 (n : Nat) (s0 : ByteArray) (b1 : Bool) (j2 : Int) (s3 : ByteArray) (s4 : ByteArray) (b5 : Bool) (r6 : Rows) (s7 : ByteArray) (b8 : Bool) (j9 : Int) (s10 : ByteArray) (b11 : Bool) (r12 : Rows) (i0 : Nat) (j15 : Int) : z62_l2 n s0 b1 j2 s3 s4 b5 r6 s7 b8 j9 s10 b11 r12 (i0 + 1) j15 =
 bif decide (j15 < (↑(List.length r12) : Int)) then
 if 0 ≤ j15 then
 if j15 < (↑(List.length r12) : Int) then
 bif !Row.S (List.getD r12 (Int.toNat j15) []) 6 == ByteArray.mk #[] then
 obind (z37_v n s0 b1 j2 s3 s4 b5 r6 s7 b8 j9 s10 b11 r12 j15) fun y16 =>
 obind (z85_v n y16.fst.fst y16.fst.snd (Row.S (List.getD r12 (Int.toNat j15) []) 6)) fun y17 =>
 bif !y17.fst then
 some (j15, ())
 else z62_l2 n s0 b1 j2 s3 s4 b5 r6 s7 b8 j9 s10 b11 r12 i0 (IntKind.wrap IntKind.i64 (j15 + 1))
 else z62_l2 n s0 b1 j2 s3 s4 b5 r6 s7 b8 j9 s10 b11 r12 i0 (IntKind.wrap IntKind.i64 (j15 + 1))
 else none
 else none
 else some (-2, ()) := by kernel_rfl
theorem z62_e (n : Nat) (s0 : ByteArray) (b1 : Bool) (j2 : Int) (s3 : ByteArray) (s4 : ByteArray) (b5 : Bool) (r6 : Rows) (s7 : ByteArray) (b8 : Bool) (j9 : Int) (s10 : ByteArray) (b11 : Bool) (r12 : Rows) : z62_v n s0 b1 j2 s3 s4 b5 r6 s7 b8 j9 s10 b11 r12 =
 z62_l2 n s0 b1 j2 s3 s4 b5 r6 s7 b8 j9 s10 b11 r12 n 0 := by kernel_rfl
theorem z62_c (n : Nat) (s0 : ByteArray) (b1 : Bool) (j2 : Int) (s3 : ByteArray) (s4 : ByteArray) (b5 : Bool) (r6 : Rows) (s7 : ByteArray) (b8 : Bool) (j9 : Int) (s10 : ByteArray) (b11 : Bool) (r12 : Rows) (y : Int × Unit) (h : z62_v n s0 b1 j2 s3 s4 b5 r6 s7 b8 j9 s10 b11 r12 = some y) : Contract Tryz.prog 49 [AV.agg [aS s0, aB b1, aI j2, aS s3, aS s4, AV.sl b5 kdT r6 Right.no, aS s7, aB b8, aI j9, aS s10, AV.sl b11 kdL r12 Right.no]] [] (OSh.enc (OSh.plain (.i .i64) []) y) :=
 ac (OSh.plain (.i .i64) []) (z62_σok n) Tryz.func49 (by decide) h
def z49_lv : Live := []
def z49_σ (n : Nat) : Spec := (inst 54 [.agg [.s, .b, .i .i64, .s, .s, .sl kdT, .s, .b, .i .i64, .s, .sl kdL], .i .i64] [] (OSh.plain (.slt [Kd.s] 0) []) (fun x e => z37_v n x.1.1 x.1.2.1 x.1.2.2.1 x.1.2.2.2.1 x.1.2.2.2.2.1 x.1.2.2.2.2.2.1.1 x.1.2.2.2.2.2.1.2 x.1.2.2.2.2.2.2.1 x.1.2.2.2.2.2.2.2.1 x.1.2.2.2.2.2.2.2.2.1 x.1.2.2.2.2.2.2.2.2.2.1 x.1.2.2.2.2.2.2.2.2.2.2.1.1 x.1.2.2.2.2.2.2.2.2.2.2.1.2 x.2.1) Spec.none)
theorem z49_σok (n : Nat) : SpecOk Tryz.prog (z49_σ n) := (inst_ok (fun x e y h => z37_c n x.1.1 x.1.2.1 x.1.2.2.1 x.1.2.2.2.1 x.1.2.2.2.2.1 x.1.2.2.2.2.2.1.1 x.1.2.2.2.2.2.1.2 x.1.2.2.2.2.2.2.1 x.1.2.2.2.2.2.2.2.1 x.1.2.2.2.2.2.2.2.2.1 x.1.2.2.2.2.2.2.2.2.2.1 x.1.2.2.2.2.2.2.2.2.2.2.1.1 x.1.2.2.2.2.2.2.2.2.2.2.1.2 x.2.1 y h) (SpecOk.none _))
def z49_Φ (n : Nat) : Orc := with_ Tryz.prog (z49_σ n) [] n 0 hsL
def z49_v (n : Nat) (s0 : ByteArray) (b1 : Bool) (j2 : Int) (s3 : ByteArray) (s4 : ByteArray) (b5 : Bool) (r6 : Rows) (s7 : ByteArray) (b8 : Bool) (j9 : Int) (s10 : ByteArray) (b11 : Bool) (r12 : Rows) : Option ((Bool × Rows) × Unit) :=
 DM.denFn tm (z49_Φ n) z49_lv n Tryz.f101 true [AV.agg [aS s0, aB b1, aI j2, aS s3, aS s4, AV.sl b5 kdT r6 Right.no, aS s7, aB b8, aI j9, aS s10, AV.sl b11 kdL r12 Right.no]] [] (OSh.chk (OSh.plain (.slt [Kd.s] 0) []))
theorem z49_e (n : Nat) (s0 : ByteArray) (b1 : Bool) (j2 : Int) (s3 : ByteArray) (s4 : ByteArray) (b5 : Bool) (r6 : Rows) (s7 : ByteArray) (b8 : Bool) (j9 : Int) (s10 : ByteArray) (b11 : Bool) (r12 : Rows) : z49_v n s0 b1 j2 s3 s4 b5 r6 s7 b8 j9 s10 b11 r12 =
 obind (z37_v n s0 b1 j2 s3 s4 b5 r6 s7 b8 j9 s10 b11 r12 ((↑(List.length r12) : Int))) fun y13 =>
 some ((y13.fst.fst, y13.fst.snd), ()) := by kernel_rfl
theorem z49_c (n : Nat) (s0 : ByteArray) (b1 : Bool) (j2 : Int) (s3 : ByteArray) (s4 : ByteArray) (b5 : Bool) (r6 : Rows) (s7 : ByteArray) (b8 : Bool) (j9 : Int) (s10 : ByteArray) (b11 : Bool) (r12 : Rows) (y : (Bool × Rows) × Unit) (h : z49_v n s0 b1 j2 s3 s4 b5 r6 s7 b8 j9 s10 b11 r12 = some y) : Contract Tryz.prog 101 [AV.agg [aS s0, aB b1, aI j2, aS s3, aS s4, AV.sl b5 kdT r6 Right.no, aS s7, aB b8, aI j9, aS s10, AV.sl b11 kdL r12 Right.no]] [] (OSh.enc (OSh.plain (.slt [Kd.s] 0) []) y) :=
 ac (OSh.plain (.slt [Kd.s] 0) []) (z49_σok n) Tryz.func101 (by decide) h
def z70_lv : Live := [(5, [1, 3, 4], [1, 1000, 1001, 1002, 1003])]
def z70_σ (n : Nat) : Spec := (inst 101 [.agg [.s, .b, .i .i64, .s, .s, .sl kdT, .s, .b, .i .i64, .s, .sl kdL]] [] (OSh.plain (.slt [Kd.s] 0) []) (fun x e => z49_v n x.1.1 x.1.2.1 x.1.2.2.1 x.1.2.2.2.1 x.1.2.2.2.2.1 x.1.2.2.2.2.2.1.1 x.1.2.2.2.2.2.1.2 x.1.2.2.2.2.2.2.1 x.1.2.2.2.2.2.2.2.1 x.1.2.2.2.2.2.2.2.2.1 x.1.2.2.2.2.2.2.2.2.2.1 x.1.2.2.2.2.2.2.2.2.2.2.1.1 x.1.2.2.2.2.2.2.2.2.2.2.1.2) (inst 100 [.sl [Kd.s], .s] [] (OSh.plain (.b) []) (fun x e => z85_v n x.1.1 x.1.2 x.2.1) Spec.none))
theorem z70_σok (n : Nat) : SpecOk Tryz.prog (z70_σ n) := (inst_ok (fun x e y h => z49_c n x.1.1 x.1.2.1 x.1.2.2.1 x.1.2.2.2.1 x.1.2.2.2.2.1 x.1.2.2.2.2.2.1.1 x.1.2.2.2.2.2.1.2 x.1.2.2.2.2.2.2.1 x.1.2.2.2.2.2.2.2.1 x.1.2.2.2.2.2.2.2.2.1 x.1.2.2.2.2.2.2.2.2.2.1 x.1.2.2.2.2.2.2.2.2.2.2.1.1 x.1.2.2.2.2.2.2.2.2.2.2.1.2 y h) (inst_ok (fun x e y h => z85_c n x.1.1 x.1.2 x.2.1 y h) (SpecOk.none _)))
def z70_Φ (n : Nat) : Orc := with_ Tryz.prog (z70_σ n) [] n 0 hsL
def z70_v (n : Nat) (s0 : ByteArray) (b1 : Bool) (j2 : Int) (s3 : ByteArray) (s4 : ByteArray) (b5 : Bool) (r6 : Rows) (s7 : ByteArray) (b8 : Bool) (j9 : Int) (s10 : ByteArray) (b11 : Bool) (r12 : Rows) : Option (Bool × Unit) :=
 DM.denFn tm (z70_Φ n) z70_lv n Tryz.f50 false [AV.agg [aS s0, aB b1, aI j2, aS s3, aS s4, AV.sl b5 kdT r6 Right.no, aS s7, aB b8, aI j9, aS s10, AV.sl b11 kdL r12 Right.no]] [] (OSh.chk (OSh.plain (.b) []))
def z70_l5 (n : Nat) (s0 : ByteArray) (b1 : Bool) (j2 : Int) (s3 : ByteArray) (s4 : ByteArray) (b5 : Bool) (r6 : Rows) (s7 : ByteArray) (b8 : Bool) (j9 : Int) (s10 : ByteArray) (b11 : Bool) (r12 : Rows) (i0 : Nat) (b15 : Bool) (r16 : List (List DV)) (j18 : Int) : Option (Bool × Unit) :=
 DM.loopFn tm (z70_Φ n) z70_lv n Tryz.f50 false [] (OSh.chk (OSh.plain (.b) [])) 5 [] i0 (St.mk ([Jk, AV.pl 1 0, Jk, AV.sl b15 [Kd.s] r16 (Right.tok 3), aI j18] ++ jk 39) [(1, [aS s0, aB b1, aI j2, aS s3, aS s4, AV.sl b5 kdT r6 Right.no, aS s7, aB b8, aI j9, aS s10, AV.sl b11 kdL r12 Right.no])])
theorem z70_s5 (n : Nat) (s0 : ByteArray) (b1 : Bool) (j2 : Int) (s3 : ByteArray) (s4 : ByteArray) (b5 : Bool) (r6 : Rows) (s7 : ByteArray) (b8 : Bool) (j9 : Int) (s10 : ByteArray) (b11 : Bool) (r12 : Rows) (i0 : Nat) (b15 : Bool) (r16 : List (List DV)) (j18 : Int) : z70_l5 n s0 b1 j2 s3 s4 b5 r6 s7 b8 j9 s10 b11 r12 (i0 + 1) b15 r16 j18 =
 bif decide (j18 < (↑(List.length r6) : Int)) then
 if 0 ≤ j18 then
 if j18 < (↑(List.length r6) : Int) then
 bif !Row.S (List.getD r6 (Int.toNat j18) []) 0 == ByteArray.mk #[] then
 if 0 ≤ j18 then
 if j18 < (↑(List.length r6) : Int) then
 obind (z85_v n b15 r16 (Row.S (List.getD r6 (Int.toNat j18) []) 0)) fun y19 =>
 bif !y19.fst then
 some (true, ())
 else z70_l5 n s0 b1 j2 s3 s4 b5 r6 s7 b8 j9 s10 b11 r12 i0 b15 r16 (IntKind.wrap IntKind.i64 (j18 + 1))
 else none
 else none
 else z70_l5 n s0 b1 j2 s3 s4 b5 r6 s7 b8 j9 s10 b11 r12 i0 b15 r16 (IntKind.wrap IntKind.i64 (j18 + 1))
 else none
 else none
 else some (false, ()) := by kernel_rfl
theorem z70_e (n : Nat) (s0 : ByteArray) (b1 : Bool) (j2 : Int) (s3 : ByteArray) (s4 : ByteArray) (b5 : Bool) (r6 : Rows) (s7 : ByteArray) (b8 : Bool) (j9 : Int) (s10 : ByteArray) (b11 : Bool) (r12 : Rows) : z70_v n s0 b1 j2 s3 s4 b5 r6 s7 b8 j9 s10 b11 r12 =
 obind (z49_v n s0 b1 j2 s3 s4 b5 r6 s7 b8 j9 s10 b11 r12) fun y13 =>
 bif !s7 == ByteArray.mk #[] then
 obind (z85_v n y13.fst.fst y13.fst.snd s7) fun y14 =>
 bif !y14.fst then
 some (true, ())
 else z70_l5 n s0 b1 j2 s3 s4 b5 r6 s7 b8 j9 s10 b11 r12 n y13.fst.fst y13.fst.snd 0
 else z70_l5 n s0 b1 j2 s3 s4 b5 r6 s7 b8 j9 s10 b11 r12 n y13.fst.fst y13.fst.snd 0 := by kernel_rfl
theorem z70_c (n : Nat) (s0 : ByteArray) (b1 : Bool) (j2 : Int) (s3 : ByteArray) (s4 : ByteArray) (b5 : Bool) (r6 : Rows) (s7 : ByteArray) (b8 : Bool) (j9 : Int) (s10 : ByteArray) (b11 : Bool) (r12 : Rows) (y : Bool × Unit) (h : z70_v n s0 b1 j2 s3 s4 b5 r6 s7 b8 j9 s10 b11 r12 = some y) : Contract Tryz.prog 50 [AV.agg [aS s0, aB b1, aI j2, aS s3, aS s4, AV.sl b5 kdT r6 Right.no, aS s7, aB b8, aI j9, aS s10, AV.sl b11 kdL r12 Right.no]] [] (OSh.enc (OSh.plain (.b) []) y) :=
 ac (OSh.plain (.b) []) (z70_σok n) Tryz.func50 (by decide) h
end
end Go.Den
