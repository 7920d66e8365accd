import Derived.Test.YtlpnccpagikioaaGreatDoorZ04
set_option linter.unusedVariables false
set_option linter.unusedSimpArgs false
set_option linter.unusedSectionVars false
namespace Go.Den
noncomputable section
open Go.Proofs
set_option maxRecDepth 100000
def show_Term_lv : Live := []
def show_Term_σ (n : Nat) : Spec := (inst 85 [.s] [] (OSh.plain (.b) []) (fun x e => show_variable_v n x.1) (inst 86 [.i .i64] [] (OSh.plain (.s) []) (fun x e => strconv_Itoa_v n x.1) (inst 87 [.s] [] (OSh.plain (.b) []) (fun x e => show_plain_v n x.1) (inst 64 [.s] [] (OSh.plain (.b) []) (fun x e => show_word_v n x.1) Spec.none))))
theorem show_Term_σok (n : Nat) : SpecOk Tryz.prog (show_Term_σ n) := (inst_ok (fun x e y h => show_variable_c n x.1 y h) (inst_ok (fun x e y h => strconv_Itoa_c n x.1 y h) (inst_ok (fun x e y h => show_plain_c n x.1 y h) (inst_ok (fun x e y h => show_word_c n x.1 y h) (SpecOk.none _)))))
def show_Term_Φ (n : Nat) : Orc := with_ Tryz.prog (show_Term_σ n) [] n 0 hsL
def show_Term_v (n : Nat) (s0 : ByteArray) (b1 : Bool) (j2 : Int) (s3 : ByteArray) : Option ((ByteArray × Int × Unit) × Unit) :=
 DM.denFn tm (show_Term_Φ n) show_Term_lv n Tryz.f62 false [AV.agg [aS s0, aB b1, aI j2, aS s3]] [] (OSh.chk (OSh.plain (.tup [.s, .i .i64]) []))
theorem show_Term_e (n : Nat) (s0 : ByteArray) (b1 : Bool) (j2 : Int) (s3 : ByteArray) : show_Term_v n s0 b1 j2 s3 =
 bif !s0 == ByteArray.mk #[] then
 bif !(b1 == false && (j2 == 0 && (s3 == ByteArray.mk #[] && true))) then
 some ((ByteArray.mk #[], (100, ())), ())
 else obind (show_variable_v n s0) fun y4 =>
 bif !y4.fst then
 some ((ByteArray.mk #[], (100, ())), ())
 else some ((s0, (0, ())), ())
 else bif b1 then
 bif s3 == ByteArray.mk #[] then
 obind (strconv_Itoa_v n j2) fun y5 =>
 some ((y5.fst, (0, ())), ())
 else bif b1 then
 some ((ByteArray.mk #[], (100, ())), ())
 else bif j2 != 0 then
 some ((ByteArray.mk #[], (100, ())), ())
 else obind (show_plain_v n s3) fun y6 =>
 bif !y6.fst then
 some ((ByteArray.mk #[], (100, ())), ())
 else obind (show_word_v n s3) fun y7 =>
 bif y7.fst then
 some ((s3, (0, ())), ())
 else if 1 + ByteArray.size s3 < 4611686018427387904 then
 if ByteArray.size (ByteArray.mk #[34] ++ s3) + 1 < 4611686018427387904 then
 some ((ByteArray.mk #[34] ++ s3 ++ ByteArray.mk #[34], (0, ())), ())
 else none
 else none
 else bif b1 then
 some ((ByteArray.mk #[], (100, ())), ())
 else bif j2 != 0 then
 some ((ByteArray.mk #[], (100, ())), ())
 else obind (show_plain_v n s3) fun y8 =>
 bif !y8.fst then
 some ((ByteArray.mk #[], (100, ())), ())
 else obind (show_word_v n s3) fun y9 =>
 bif y9.fst then
 some ((s3, (0, ())), ())
 else if 1 + ByteArray.size s3 < 4611686018427387904 then
 if ByteArray.size (ByteArray.mk #[34] ++ s3) + 1 < 4611686018427387904 then
 some ((ByteArray.mk #[34] ++ s3 ++ ByteArray.mk #[34], (0, ())), ())
 else none
 else none := by kernel_rfl
theorem show_Term_c (n : Nat) (s0 : ByteArray) (b1 : Bool) (j2 : Int) (s3 : ByteArray) (y : (ByteArray × Int × Unit) × Unit) (h : show_Term_v n s0 b1 j2 s3 = some y) : Contract Tryz.prog 62 [AV.agg [aS s0, aB b1, aI j2, aS s3]] [] (OSh.enc (OSh.plain (.tup [.s, .i .i64]) []) y) :=
 ac (OSh.plain (.tup [.s, .i .i64]) []) (show_Term_σok n) Tryz.func62 (by decide) h
def sB_WriteString_nilp_lv : Live := []
def sB_WriteString_nilp_σ (n : Nat) : Spec := (inst 63 [.pl 1000 0] [[.nilp, .slt [Kd.i IntKind.u8] 500002, .b]] (OSh.plain (.tup []) [[.pl 1000 0, .slt [Kd.i IntKind.u8] 1, .b]]) (fun x e => sB_copyCheck_nilp_v n e.1.2.1.1 e.1.2.1.2 e.1.2.2.1) Spec.none)
theorem sB_WriteString_nilp_σok (n : Nat) : SpecOk Tryz.prog (sB_WriteString_nilp_σ n) := (inst_ok (fun x e y h => sB_copyCheck_nilp_c n e.1.2.1.1 e.1.2.1.2 e.1.2.2.1 y h) (SpecOk.none _))
def sB_WriteString_nilp_Φ (n : Nat) : Orc := with_ Tryz.prog (sB_WriteString_nilp_σ n) [] n 0 hsL
def sB_WriteString_nilp_v (n : Nat) (s0 : ByteArray) (b1 : Bool) (r2 : Rows) (b3 : Bool) : Option ((Int × Unit × Unit) × (Unit × (Bool × Rows) × Bool × Unit) × Unit) :=
 DM.denFn tm (sB_WriteString_nilp_Φ n) sB_WriteString_nilp_lv n Tryz.f30 false [AV.pl 1000 0, aS s0] [[AV.dv (DV.val (Value.pointer none)), AV.sl b1 [Kd.i IntKind.u8] r2 (Right.tok 500003), aB b3]] (OSh.chk (OSh.plain (.tup [.i .i64, .nili]) [[.pl 1000 0, .slt [Kd.i IntKind.u8] 1, .b]]))
theorem sB_WriteString_nilp_e (n : Nat) (s0 : ByteArray) (b1 : Bool) (r2 : Rows) (b3 : Bool) : sB_WriteString_nilp_v n s0 b1 r2 b3 =
 obind (sB_copyCheck_nilp_v n b1 r2 b3) fun y4 =>
 if (List.length y4.snd.fst.snd.fst.snd + ByteArray.size s0) * 1 ≤ 140737488355328 then
 some (((↑(ByteArray.size s0) : Int), ((), ())), (((), ((y4.snd.fst.snd.fst.fst && ByteArray.size s0 == 0, appX y4.snd.fst.snd.fst.snd (byteRows s0)), (y4.snd.fst.snd.snd.fst, ()))), ()))
 else none := by kernel_rfl
theorem sB_WriteString_nilp_c (n : Nat) (s0 : ByteArray) (b1 : Bool) (r2 : Rows) (b3 : Bool) (y : (Int × Unit × Unit) × (Unit × (Bool × Rows) × Bool × Unit) × Unit) (h : sB_WriteString_nilp_v n s0 b1 r2 b3 = some y) : Contract Tryz.prog 30 [AV.pl 1000 0, aS s0] [[AV.dv (DV.val (Value.pointer none)), AV.sl b1 [Kd.i IntKind.u8] r2 (Right.tok 500003), aB b3]] (OSh.enc (OSh.plain (.tup [.i .i64, .nili]) [[.pl 1000 0, .slt [Kd.i IntKind.u8] 1, .b]]) y) :=
 ac (OSh.plain (.tup [.i .i64, .nili]) [[.pl 1000 0, .slt [Kd.i IntKind.u8] 1, .b]]) (sB_WriteString_nilp_σok n) Tryz.func30 (by decide) h
def sp_term_nilp_lv : Live := []
def sp_term_nilp_σ (n : Nat) : Spec := (inst 62 [.agg [.s, .b, .i .i64, .s]] [] (OSh.plain (.tup [.s, .i .i64]) []) (fun x e => show_Term_v n x.1.1 x.1.2.1 x.1.2.2.1 x.1.2.2.2.1) (inst 30 [.pl 1000 0, .s] [[.nilp, .slt [Kd.i IntKind.u8] 500003, .b]] (OSh.plain (.tup [.i .i64, .nili]) [[.pl 1000 0, .slt [Kd.i IntKind.u8] 1, .b]]) (fun x e => sB_WriteString_nilp_v n x.2.1 e.1.2.1.1 e.1.2.1.2 e.1.2.2.1) Spec.none))
theorem sp_term_nilp_σok (n : Nat) : SpecOk Tryz.prog (sp_term_nilp_σ n) := (inst_ok (fun x e y h => show_Term_c n x.1.1 x.1.2.1 x.1.2.2.1 x.1.2.2.2.1 y h) (inst_ok (fun x e y h => sB_WriteString_nilp_c n x.2.1 e.1.2.1.1 e.1.2.1.2 e.1.2.2.1 y h) (SpecOk.none _)))
def sp_term_nilp_Φ (n : Nat) : Orc := with_ Tryz.prog (sp_term_nilp_σ n) [] n 0 hsL
def sp_term_nilp_v (n : Nat) (s0 : ByteArray) (s1 : ByteArray) (b2 : Bool) (j3 : Int) (s4 : ByteArray) (b5 : Bool) (r6 : Rows) (b7 : Bool) : Option (Unit × (Unit × (Bool × Rows) × Bool × Unit) × Unit) :=
 DM.denFn tm (sp_term_nilp_Φ n) sp_term_nilp_lv n Tryz.f29 false [AV.pl 1000 0, aS s0, AV.agg [aS s1, aB b2, aI j3, aS s4]] [[AV.dv (DV.val (Value.pointer none)), AV.sl b5 [Kd.i IntKind.u8] r6 (Right.tok 500004), aB b7]] (OSh.chk (OSh.plain (.tup []) [[.pl 1000 0, .slt [Kd.i IntKind.u8] 1, .b]]))
theorem sp_term_nilp_e (n : Nat) (s0 : ByteArray) (s1 : ByteArray) (b2 : Bool) (j3 : Int) (s4 : ByteArray) (b5 : Bool) (r6 : Rows) (b7 : Bool) : sp_term_nilp_v n s0 s1 b2 j3 s4 b5 r6 b7 =
 obind (show_Term_v n s1 b2 j3 s4) fun y8 =>
 bif b7 then
 if (Nat.beq 1 1 && Nat.ble 3 (List.length [AV.dv (DV.val (Value.pointer none)), AV.sl b5 [Kd.i IntKind.u8] r6 (Right.tok 500004), aB b7]) && AV.areCells [aB true] && virLe [AV.dv (DV.val (Value.pointer none)), AV.sl b5 [Kd.i IntKind.u8] r6 (Right.tok 500004), aB true] [AV.dv (DV.val (Value.pointer none)), AV.sl b5 [Kd.i IntKind.u8] r6 (Right.tok 500004), aB b7] && !Nat.beq 2 1000000000) = true then
 if ByteArray.size s0 + ByteArray.size y8.fst.fst < 4611686018427387904 then
 obind (sB_WriteString_nilp_v n (s0 ++ y8.fst.fst) b5 r6 true) fun y9 =>
 some ((), (((), ((y9.snd.fst.snd.fst.fst, y9.snd.fst.snd.fst.snd), (y9.snd.fst.snd.snd.fst, ()))), ()))
 else none
 else none
 else if (Nat.beq (List.length [AV.dv (DV.val (Value.bool (y8.fst.snd.fst != 0)))]) 1 && Nat.ble 3 (List.length [AV.dv (DV.val (Value.pointer none)), AV.sl b5 [Kd.i IntKind.u8] r6 (Right.tok 500004), aB b7]) && AV.areCells [AV.dv (DV.val (Value.bool (y8.fst.snd.fst != 0)))] && virLe [AV.dv (DV.val (Value.pointer none)), AV.sl b5 [Kd.i IntKind.u8] r6 (Right.tok 500004), AV.dv (DV.val (Value.bool (y8.fst.snd.fst != 0)))] [AV.dv (DV.val (Value.pointer none)), AV.sl b5 [Kd.i IntKind.u8] r6 (Right.tok 500004), aB b7] && !Nat.beq 2 1000000000) = true then
 if ByteArray.size s0 + ByteArray.size y8.fst.fst < 4611686018427387904 then
 obind (sB_WriteString_nilp_v n (s0 ++ y8.fst.fst) b5 r6 (y8.fst.snd.fst != 0)) fun y10 =>
 some ((), (((), ((y10.snd.fst.snd.fst.fst, y10.snd.fst.snd.fst.snd), (y10.snd.fst.snd.snd.fst, ()))), ()))
 else none
 else none := by kernel_rfl
theorem sp_term_nilp_c (n : Nat) (s0 : ByteArray) (s1 : ByteArray) (b2 : Bool) (j3 : Int) (s4 : ByteArray) (b5 : Bool) (r6 : Rows) (b7 : Bool) (y : Unit × (Unit × (Bool × Rows) × Bool × Unit) × Unit) (h : sp_term_nilp_v n s0 s1 b2 j3 s4 b5 r6 b7 = some y) : Contract Tryz.prog 29 [AV.pl 1000 0, aS s0, AV.agg [aS s1, aB b2, aI j3, aS s4]] [[AV.dv (DV.val (Value.pointer none)), AV.sl b5 [Kd.i IntKind.u8] r6 (Right.tok 500004), aB b7]] (OSh.enc (OSh.plain (.tup []) [[.pl 1000 0, .slt [Kd.i IntKind.u8] 1, .b]]) y) :=
 ac (OSh.plain (.tup []) [[.pl 1000 0, .slt [Kd.i IntKind.u8] 1, .b]]) (sp_term_nilp_σok n) Tryz.func29 (by decide) h
def sB_WriteString_lv : Live := []
def sB_WriteString_σ (n : Nat) : Spec := (inst 63 [.pl 1000 0] [[.pl 1000 0, .slt [Kd.i IntKind.u8] 500002, .b]] (OSh.plain (.tup []) [[.pl 1000 0, .slt [Kd.i IntKind.u8] 1, .b]]) (fun x e => sB_copyCheck_v n e.1.2.1.1 e.1.2.1.2 e.1.2.2.1) Spec.none)
theorem sB_WriteString_σok (n : Nat) : SpecOk Tryz.prog (sB_WriteString_σ n) := (inst_ok (fun x e y h => sB_copyCheck_c n e.1.2.1.1 e.1.2.1.2 e.1.2.2.1 y h) (SpecOk.none _))
def sB_WriteString_Φ (n : Nat) : Orc := with_ Tryz.prog (sB_WriteString_σ n) [] n 0 hsL
def sB_WriteString_v (n : Nat) (s0 : ByteArray) (b1 : Bool) (r2 : Rows) (b3 : Bool) : Option ((Int × Unit × Unit) × (Unit × (Bool × Rows) × Bool × Unit) × Unit) :=
 DM.denFn tm (sB_WriteString_Φ n) sB_WriteString_lv n Tryz.f30 false [AV.pl 1000 0, aS s0] [[AV.pl 1000 0, AV.sl b1 [Kd.i IntKind.u8] r2 (Right.tok 500003), aB b3]] (OSh.chk (OSh.plain (.tup [.i .i64, .nili]) [[.pl 1000 0, .slt [Kd.i IntKind.u8] 1, .b]]))
theorem sB_WriteString_e (n : Nat) (s0 : ByteArray) (b1 : Bool) (r2 : Rows) (b3 : Bool) : sB_WriteString_v n s0 b1 r2 b3 =
 obind (sB_copyCheck_v n b1 r2 b3) fun y4 =>
 if (List.length y4.snd.fst.snd.fst.snd + ByteArray.size s0) * 1 ≤ 140737488355328 then
 some (((↑(ByteArray.size s0) : Int), ((), ())), (((), ((y4.snd.fst.snd.fst.fst && ByteArray.size s0 == 0, appX y4.snd.fst.snd.fst.snd (byteRows s0)), (y4.snd.fst.snd.snd.fst, ()))), ()))
 else none := by kernel_rfl
theorem sB_WriteString_c (n : Nat) (s0 : ByteArray) (b1 : Bool) (r2 : Rows) (b3 : Bool) (y : (Int × Unit × Unit) × (Unit × (Bool × Rows) × Bool × Unit) × Unit) (h : sB_WriteString_v n s0 b1 r2 b3 = some y) : Contract Tryz.prog 30 [AV.pl 1000 0, aS s0] [[AV.pl 1000 0, AV.sl b1 [Kd.i IntKind.u8] r2 (Right.tok 500003), aB b3]] (OSh.enc (OSh.plain (.tup [.i .i64, .nili]) [[.pl 1000 0, .slt [Kd.i IntKind.u8] 1, .b]]) y) :=
 ac (OSh.plain (.tup [.i .i64, .nili]) [[.pl 1000 0, .slt [Kd.i IntKind.u8] 1, .b]]) (sB_WriteString_σok n) Tryz.func30 (by decide) h
def sp_term_lv : Live := []
def sp_term_σ (n : Nat) : Spec := (inst 62 [.agg [.s, .b, .i .i64, .s]] [] (OSh.plain (.tup [.s, .i .i64]) []) (fun x e => show_Term_v n x.1.1 x.1.2.1 x.1.2.2.1 x.1.2.2.2.1) (inst 30 [.pl 1000 0, .s] [[.pl 1000 0, .slt [Kd.i IntKind.u8] 500003, .b]] (OSh.plain (.tup [.i .i64, .nili]) [[.pl 1000 0, .slt [Kd.i IntKind.u8] 1, .b]]) (fun x e => sB_WriteString_v n x.2.1 e.1.2.1.1 e.1.2.1.2 e.1.2.2.1) Spec.none))
theorem sp_term_σok (n : Nat) : SpecOk Tryz.prog (sp_term_σ n) := (inst_ok (fun x e y h => show_Term_c n x.1.1 x.1.2.1 x.1.2.2.1 x.1.2.2.2.1 y h) (inst_ok (fun x e y h => sB_WriteString_c n x.2.1 e.1.2.1.1 e.1.2.1.2 e.1.2.2.1 y h) (SpecOk.none _)))
def sp_term_Φ (n : Nat) : Orc := with_ Tryz.prog (sp_term_σ n) [] n 0 hsL
def sp_term_v (n : Nat) (s0 : ByteArray) (s1 : ByteArray) (b2 : Bool) (j3 : Int) (s4 : ByteArray) (b5 : Bool) (r6 : Rows) (b7 : Bool) : Option (Unit × (Unit × (Bool × Rows) × Bool × Unit) × Unit) :=
 DM.denFn tm (sp_term_Φ n) sp_term_lv n Tryz.f29 false [AV.pl 1000 0, aS s0, AV.agg [aS s1, aB b2, aI j3, aS s4]] [[AV.pl 1000 0, AV.sl b5 [Kd.i IntKind.u8] r6 (Right.tok 500004), aB b7]] (OSh.chk (OSh.plain (.tup []) [[.pl 1000 0, .slt [Kd.i IntKind.u8] 1, .b]]))
theorem sp_term_e (n : Nat) (s0 : ByteArray) (s1 : ByteArray) (b2 : Bool) (j3 : Int) (s4 : ByteArray) (b5 : Bool) (r6 : Rows) (b7 : Bool) : sp_term_v n s0 s1 b2 j3 s4 b5 r6 b7 =
 obind (show_Term_v n s1 b2 j3 s4) fun y8 =>
 bif b7 then
 if ByteArray.size s0 + ByteArray.size y8.fst.fst < 4611686018427387904 then
 obind (sB_WriteString_v n (s0 ++ y8.fst.fst) b5 r6 true) fun y9 =>
 some ((), (((), ((y9.snd.fst.snd.fst.fst, y9.snd.fst.snd.fst.snd), (y9.snd.fst.snd.snd.fst, ()))), ()))
 else none
 else if ByteArray.size s0 + ByteArray.size y8.fst.fst < 4611686018427387904 then
 obind (sB_WriteString_v n (s0 ++ y8.fst.fst) b5 r6 (y8.fst.snd.fst != 0)) fun y10 =>
 some ((), (((), ((y10.snd.fst.snd.fst.fst, y10.snd.fst.snd.fst.snd), (y10.snd.fst.snd.snd.fst, ()))), ()))
 else none := by kernel_rfl
theorem sp_term_c (n : Nat) (s0 : ByteArray) (s1 : ByteArray) (b2 : Bool) (j3 : Int) (s4 : ByteArray) (b5 : Bool) (r6 : Rows) (b7 : Bool) (y : Unit × (Unit × (Bool × Rows) × Bool × Unit) × Unit) (h : sp_term_v n s0 s1 b2 j3 s4 b5 r6 b7 = some y) : Contract Tryz.prog 29 [AV.pl 1000 0, aS s0, AV.agg [aS s1, aB b2, aI j3, aS s4]] [[AV.pl 1000 0, AV.sl b5 [Kd.i IntKind.u8] r6 (Right.tok 500004), aB b7]] (OSh.enc (OSh.plain (.tup []) [[.pl 1000 0, .slt [Kd.i IntKind.u8] 1, .b]]) y) :=
 ac (OSh.plain (.tup []) [[.pl 1000 0, .slt [Kd.i IntKind.u8] 1, .b]]) (sp_term_σok n) Tryz.func29 (by decide) h
def sp_atom_lv : Live := [(3, [0, 31, 32, 33], [1000, 1001, 1002, 1003])]
def sp_atom_σ (n : Nat) : Spec := (inst 30 [.pl 1000 0, .s] [[.pl 1000 0, .slt [Kd.i IntKind.u8] 500003, .b]] (OSh.plain (.tup [.i .i64, .nili]) [[.pl 1000 0, .slt [Kd.i IntKind.u8] 1, .b]]) (fun x e => sB_WriteString_v n x.2.1 e.1.2.1.1 e.1.2.1.2 e.1.2.2.1) (inst 64 [.s] [] (OSh.plain (.b) []) (fun x e => show_word_v n x.1) (inst 29 [.pl 1000 0, .s, .agg [.s, .b, .i .i64, .s]] [[.pl 1000 0, .slt [Kd.i IntKind.u8] 500004, .b]] (OSh.plain (.tup []) [[.pl 1000 0, .slt [Kd.i IntKind.u8] 1, .b]]) (fun x e => sp_term_v n x.2.1 x.2.2.1.1 x.2.2.1.2.1 x.2.2.1.2.2.1 x.2.2.1.2.2.2.1 e.1.2.1.1 e.1.2.1.2 e.1.2.2.1) Spec.none)))
theorem sp_atom_σok (n : Nat) : SpecOk Tryz.prog (sp_atom_σ n) := (inst_ok (fun x e y h => sB_WriteString_c n x.2.1 e.1.2.1.1 e.1.2.1.2 e.1.2.2.1 y h) (inst_ok (fun x e y h => show_word_c n x.1 y h) (inst_ok (fun x e y h => sp_term_c n x.2.1 x.2.2.1.1 x.2.2.1.2.1 x.2.2.1.2.2.1 x.2.2.1.2.2.2.1 e.1.2.1.1 e.1.2.1.2 e.1.2.2.1 y h) (SpecOk.none _))))
def sp_atom_Φ (n : Nat) : Orc := with_ Tryz.prog (sp_atom_σ n) [] n 0 hsL
def sp_atom_v (n : Nat) (s0 : ByteArray) (b1 : Bool) (r2 : Rows) (b3 : Bool) (r4 : Rows) (b5 : Bool) : Option (Unit × (Unit × (Bool × Rows) × Bool × Unit) × Unit) :=
 DM.denFn tm (sp_atom_Φ n) sp_atom_lv n Tryz.f31 false [AV.pl 1000 0, aS s0, AV.sl b1 kdT r2 Right.no] [[AV.pl 1000 0, AV.sl b3 [Kd.i IntKind.u8] r4 (Right.tok 500004), aB b5]] (OSh.chk (OSh.plain (.tup []) [[.pl 1000 0, .slt [Kd.i IntKind.u8] 1, .b]]))
def sp_atom_l3 (n : Nat) (s0 : ByteArray) (b1 : Bool) (r2 : Rows) (b3 : Bool) (r4 : Rows) (b5 : Bool) (i0 : Nat) (b10 : Bool) (r11 : List (List DV)) (b12 : Bool) (j15 : Int) : Option (Unit × (Unit × (Bool × Rows) × Bool × Unit) × Unit) :=
 DM.loopFn tm (sp_atom_Φ n) sp_atom_lv n Tryz.f31 false [[AV.pl 1000 0, AV.sl b3 [Kd.i IntKind.u8] r4 (Right.tok 500004), aB b5]] (OSh.chk (OSh.plain (.tup []) [[.pl 1000 0, .slt [Kd.i IntKind.u8] 1, .b]])) 3 [] i0 (St.mk ([AV.pl 1000 0, Jk, Jk, Jk, Jk, Jk, Jk, Jk, Jk, Jk, Jk, Jk, Jk, Jk, Jk, Jk, Jk, Jk, Jk, Jk, Jk, Jk, Jk, Jk, Jk, Jk, Jk, Jk, Jk, Jk, Jk, AV.sl b1 kdT r2 Right.no, AV.dv (DV.val (Value.int .i64 (↑(List.length r2) : Int))), aI j15] ++ jk 23) [(1000, [AV.pl 1000 0, AV.sl b10 [Kd.i IntKind.u8] r11 (Right.tok 84001), aB b12])])
theorem sp_atom_s3 (n : Nat) (s0 : ByteArray) (b1 : Bool) (r2 : Rows) (b3 : Bool) (r4 : Rows) (b5 : Bool) (i0 : Nat) (b10 : Bool) (r11 : List (List DV)) (b12 : Bool) (j15 : Int) : sp_atom_l3 n s0 b1 r2 b3 r4 b5 (i0 + 1) b10 r11 b12 j15 =
 bif decide (j15 < (↑(List.length r2) : Int)) then
 if 0 ≤ j15 then
 if j15 < (↑(List.length r2) : Int) then
 bif decide (j15 > 0) then
 obind (sB_WriteString_v n (ByteArray.mk #[44, 32]) b10 r11 b12) fun y16 =>
 bif !y16.snd.fst.snd.snd.fst then
 obind (sp_term_v n (ByteArray.mk #[]) (Row.S (List.getD r2 (Int.toNat j15) []) 0) (Row.B (List.getD r2 (Int.toNat j15) []) 1) (Row.I (List.getD r2 (Int.toNat j15) []) 2) (Row.S (List.getD r2 (Int.toNat j15) []) 3) y16.snd.fst.snd.fst.fst y16.snd.fst.snd.fst.snd y16.snd.fst.snd.snd.fst) fun y17 =>
 sp_atom_l3 n s0 b1 r2 b3 r4 b5 i0 y17.snd.fst.snd.fst.fst y17.snd.fst.snd.fst.snd y17.snd.fst.snd.snd.fst (IntKind.wrap IntKind.i64 (j15 + 1))
 else sp_atom_l3 n s0 b1 r2 b3 r4 b5 i0 y16.snd.fst.snd.fst.fst y16.snd.fst.snd.fst.snd y16.snd.fst.snd.snd.fst (IntKind.wrap IntKind.i64 (j15 + 1))
 else bif !b12 then
 obind (sp_term_v n (ByteArray.mk #[]) (Row.S (List.getD r2 (Int.toNat j15) []) 0) (Row.B (List.getD r2 (Int.toNat j15) []) 1) (Row.I (List.getD r2 (Int.toNat j15) []) 2) (Row.S (List.getD r2 (Int.toNat j15) []) 3) b10 r11 b12) fun y18 =>
 sp_atom_l3 n s0 b1 r2 b3 r4 b5 i0 y18.snd.fst.snd.fst.fst y18.snd.fst.snd.fst.snd y18.snd.fst.snd.snd.fst (IntKind.wrap IntKind.i64 (j15 + 1))
 else sp_atom_l3 n s0 b1 r2 b3 r4 b5 i0 b10 r11 b12 (IntKind.wrap IntKind.i64 (j15 + 1))
 else none
 else none
 else obind (sB_WriteString_v n (ByteArray.mk #[41]) b10 r11 b12) fun y19 =>
 some ((), (((), ((y19.snd.fst.snd.fst.fst, y19.snd.fst.snd.fst.snd), (y19.snd.fst.snd.snd.fst, ()))), ())) := by kernel_rfl
theorem sp_atom_e (n : Nat) (s0 : ByteArray) (b1 : Bool) (r2 : Rows) (b3 : Bool) (r4 : Rows) (b5 : Bool) : sp_atom_v n s0 b1 r2 b3 r4 b5 =
 bif b5 then
 if ByteArray.size s0 + 1 < 4611686018427387904 then
 obind (sB_WriteString_v n (s0 ++ ByteArray.mk #[40]) b3 r4 true) fun y6 =>
 sp_atom_l3 n s0 b1 r2 b3 r4 b5 n y6.snd.fst.snd.fst.fst y6.snd.fst.snd.fst.snd y6.snd.fst.snd.snd.fst 0
 else none
 else obind (show_word_v n s0) fun y7 =>
 bif !y7.fst then
 if ByteArray.size s0 + 1 < 4611686018427387904 then
 obind (sB_WriteString_v n (s0 ++ ByteArray.mk #[40]) b3 r4 true) fun y8 =>
 sp_atom_l3 n s0 b1 r2 b3 r4 b5 n y8.snd.fst.snd.fst.fst y8.snd.fst.snd.fst.snd y8.snd.fst.snd.snd.fst 0
 else none
 else if ByteArray.size s0 + 1 < 4611686018427387904 then
 obind (sB_WriteString_v n (s0 ++ ByteArray.mk #[40]) b3 r4 (decide ((↑(List.length r2) : Int) > 4))) fun y9 =>
 sp_atom_l3 n s0 b1 r2 b3 r4 b5 n y9.snd.fst.snd.fst.fst y9.snd.fst.snd.fst.snd y9.snd.fst.snd.snd.fst 0
 else none := by kernel_rfl
theorem sp_atom_c (n : Nat) (s0 : ByteArray) (b1 : Bool) (r2 : Rows) (b3 : Bool) (r4 : Rows) (b5 : Bool) (y : Unit × (Unit × (Bool × Rows) × Bool × Unit) × Unit) (h : sp_atom_v n s0 b1 r2 b3 r4 b5 = some y) : Contract Tryz.prog 31 [AV.pl 1000 0, aS s0, AV.sl b1 kdT r2 Right.no] [[AV.pl 1000 0, AV.sl b3 [Kd.i IntKind.u8] r4 (Right.tok 500004), aB b5]] (OSh.enc (OSh.plain (.tup []) [[.pl 1000 0, .slt [Kd.i IntKind.u8] 1, .b]]) y) :=
 ac (OSh.plain (.tup []) [[.pl 1000 0, .slt [Kd.i IntKind.u8] 1, .b]]) (sp_atom_σok n) Tryz.func31 (by decide) h
def sp_maybe_lv : Live := []
def sp_maybe_σ (n : Nat) : Spec := (inst 29 [.pl 1000 0, .s, .agg [.s, .b, .i .i64, .s]] [[.pl 1000 0, .slt [Kd.i IntKind.u8] 500004, .b]] (OSh.plain (.tup []) [[.pl 1000 0, .slt [Kd.i IntKind.u8] 1, .b]]) (fun x e => sp_term_v n x.2.1 x.2.2.1.1 x.2.2.1.2.1 x.2.2.1.2.2.1 x.2.2.1.2.2.2.1 e.1.2.1.1 e.1.2.1.2 e.1.2.2.1) (inst 30 [.pl 1000 0, .s] [[.pl 1000 0, .slt [Kd.i IntKind.u8] 500003, .b]] (OSh.plain (.tup [.i .i64, .nili]) [[.pl 1000 0, .slt [Kd.i IntKind.u8] 1, .b]]) (fun x e => sB_WriteString_v n x.2.1 e.1.2.1.1 e.1.2.1.2 e.1.2.2.1) Spec.none))
theorem sp_maybe_σok (n : Nat) : SpecOk Tryz.prog (sp_maybe_σ n) := (inst_ok (fun x e y h => sp_term_c n x.2.1 x.2.2.1.1 x.2.2.1.2.1 x.2.2.1.2.2.1 x.2.2.1.2.2.2.1 e.1.2.1.1 e.1.2.1.2 e.1.2.2.1 y h) (inst_ok (fun x e y h => sB_WriteString_c n x.2.1 e.1.2.1.1 e.1.2.1.2 e.1.2.2.1 y h) (SpecOk.none _)))
def sp_maybe_Φ (n : Nat) : Orc := with_ Tryz.prog (sp_maybe_σ n) [] n 0 hsL
def sp_maybe_v (n : Nat) (s0 : ByteArray) (s1 : ByteArray) (b2 : Bool) (j3 : Int) (s4 : ByteArray) (s5 : ByteArray) (b6 : Bool) (r7 : Rows) (b8 : Bool) : Option (Unit × (Unit × (Bool × Rows) × Bool × Unit) × Unit) :=
 DM.denFn tm (sp_maybe_Φ n) sp_maybe_lv n Tryz.f32 false [AV.pl 1000 0, aS s0, AV.agg [aS s1, aB b2, aI j3, aS s4], aS s5] [[AV.pl 1000 0, AV.sl b6 [Kd.i IntKind.u8] r7 (Right.tok 500005), aB b8]] (OSh.chk (OSh.plain (.tup []) [[.pl 1000 0, .slt [Kd.i IntKind.u8] 1, .b]]))
theorem sp_maybe_e (n : Nat) (s0 : ByteArray) (s1 : ByteArray) (b2 : Bool) (j3 : Int) (s4 : ByteArray) (s5 : ByteArray) (b6 : Bool) (r7 : Rows) (b8 : Bool) : sp_maybe_v n s0 s1 b2 j3 s4 s5 b6 r7 b8 =
 bif !(s1 == ByteArray.mk #[] && (b2 == false && (j3 == 0 && (s4 == ByteArray.mk #[] && true)))) then
 obind (sp_term_v n s0 s1 b2 j3 s4 b6 r7 b8) fun y9 =>
 obind (sB_WriteString_v n s5 y9.snd.fst.snd.fst.fst y9.snd.fst.snd.fst.snd y9.snd.fst.snd.snd.fst) fun y10 =>
 some ((), (((), ((y10.snd.fst.snd.fst.fst, y10.snd.fst.snd.fst.snd), (y10.snd.fst.snd.snd.fst, ()))), ()))
 else some ((), (((), ((b6, r7), (b8, ()))), ())) := by kernel_rfl
theorem sp_maybe_c (n : Nat) (s0 : ByteArray) (s1 : ByteArray) (b2 : Bool) (j3 : Int) (s4 : ByteArray) (s5 : ByteArray) (b6 : Bool) (r7 : Rows) (b8 : Bool) (y : Unit × (Unit × (Bool × Rows) × Bool × Unit) × Unit) (h : sp_maybe_v n s0 s1 b2 j3 s4 s5 b6 r7 b8 = some y) : Contract Tryz.prog 32 [AV.pl 1000 0, aS s0, AV.agg [aS s1, aB b2, aI j3, aS s4], aS s5] [[AV.pl 1000 0, AV.sl b6 [Kd.i IntKind.u8] r7 (Right.tok 500005), aB b8]] (OSh.enc (OSh.plain (.tup []) [[.pl 1000 0, .slt [Kd.i IntKind.u8] 1, .b]]) y) :=
 ac (OSh.plain (.tup []) [[.pl 1000 0, .slt [Kd.i IntKind.u8] 1, .b]]) (sp_maybe_σok n) Tryz.func32 (by decide) h
def show_Rule_lv : Live := [(10, [4, 48, 49, 50], [24, 1000, 1001, 1002, 1003])]
def show_Rule_σ (n : Nat) : Spec := (inst 29 [.pl 1000 0, .s, .agg [.s, .b, .i .i64, .s]] [[.nilp, .slt [Kd.i IntKind.u8] 500004, .b]] (OSh.plain (.tup []) [[.pl 1000 0, .slt [Kd.i IntKind.u8] 1, .b]]) (fun x e => sp_term_nilp_v n x.2.1 x.2.2.1.1 x.2.2.1.2.1 x.2.2.1.2.2.1 x.2.2.1.2.2.2.1 e.1.2.1.1 e.1.2.1.2 e.1.2.2.1) (inst 30 [.pl 1000 0, .s] [[.pl 1000 0, .slt [Kd.i IntKind.u8] 500003, .b]] (OSh.plain (.tup [.i .i64, .nili]) [[.pl 1000 0, .slt [Kd.i IntKind.u8] 1, .b]]) (fun x e => sB_WriteString_v n x.2.1 e.1.2.1.1 e.1.2.1.2 e.1.2.2.1) (inst 31 [.pl 1000 0, .s, .sl kdT] [[.pl 1000 0, .slt [Kd.i IntKind.u8] 500004, .b]] (OSh.plain (.tup []) [[.pl 1000 0, .slt [Kd.i IntKind.u8] 1, .b]]) (fun x e => sp_atom_v n x.2.1 x.2.2.1.1 x.2.2.1.2 e.1.2.1.1 e.1.2.1.2 e.1.2.2.1) (inst 32 [.pl 1000 0, .s, .agg [.s, .b, .i .i64, .s], .s] [[.pl 1000 0, .slt [Kd.i IntKind.u8] 500005, .b]] (OSh.plain (.tup []) [[.pl 1000 0, .slt [Kd.i IntKind.u8] 1, .b]]) (fun x e => sp_maybe_v n x.2.1 x.2.2.1.1 x.2.2.1.2.1 x.2.2.1.2.2.1 x.2.2.1.2.2.2.1 x.2.2.2.1 e.1.2.1.1 e.1.2.1.2 e.1.2.2.1) (inst 33 [.pl 1000 0] [[.pl 1000 0, .slt [Kd.i IntKind.u8] 500002, .b]] (OSh.plain (.s) [[.pl 1000 0, .sl [Kd.i IntKind.u8], .b]]) (fun x e => sB_String_v n e.1.2.1.1 e.1.2.1.2 e.1.2.2.1) Spec.none)))))
theorem show_Rule_σok (n : Nat) : SpecOk Tryz.prog (show_Rule_σ n) := (inst_ok (fun x e y h => sp_term_nilp_c n x.2.1 x.2.2.1.1 x.2.2.1.2.1 x.2.2.1.2.2.1 x.2.2.1.2.2.2.1 e.1.2.1.1 e.1.2.1.2 e.1.2.2.1 y h) (inst_ok (fun x e y h => sB_WriteString_c n x.2.1 e.1.2.1.1 e.1.2.1.2 e.1.2.2.1 y h) (inst_ok (fun x e y h => sp_atom_c n x.2.1 x.2.2.1.1 x.2.2.1.2 e.1.2.1.1 e.1.2.1.2 e.1.2.2.1 y h) (inst_ok (fun x e y h => sp_maybe_c n x.2.1 x.2.2.1.1 x.2.2.1.2.1 x.2.2.1.2.2.1 x.2.2.1.2.2.2.1 x.2.2.2.1 e.1.2.1.1 e.1.2.1.2 e.1.2.2.1 y h) (inst_ok (fun x e y h => sB_String_c n e.1.2.1.1 e.1.2.1.2 e.1.2.2.1 y h) (SpecOk.none _))))))
def show_Rule_Φ (n : Nat) : Orc := with_ Tryz.prog (show_Rule_σ n) [] n 0 hsL
def show_Rule_v (n : Nat) (s0 : ByteArray) (b1 : Bool) (j2 : Int) (s3 : ByteArray) (s4 : ByteArray) (b5 : Bool) (r6 : Rows) (s7 : ByteArray) (b8 : Bool) (j9 : Int) (s10 : ByteArray) (b11 : Bool) (r12 : Rows) : Option ((ByteArray × Int × Unit) × Unit) :=
 DM.denFn tm (show_Rule_Φ n) show_Rule_lv n Tryz.f13 false [AV.agg [aS s0, aB b1, aI j2, aS s3, aS s4, AV.sl b5 kdT r6 Right.no, aS s7, aB b8, aI j9, aS s10, AV.sl b11 kdL r12 Right.no]] [] (OSh.chk (OSh.plain (.tup [.s, .i .i64]) []))
def show_Rule_l10 (n : Nat) (s0 : ByteArray) (b1 : Bool) (j2 : Int) (s3 : ByteArray) (s4 : ByteArray) (b5 : Bool) (r6 : Rows) (s7 : ByteArray) (b8 : Bool) (j9 : Int) (s10 : ByteArray) (b11 : Bool) (r12 : Rows) (i0 : Nat) (b18 : Bool) (r19 : List (List DV)) (b20 : Bool) (j25 : Int) : Option ((ByteArray × Int × Unit) × Unit) :=
 DM.loopFn tm (show_Rule_Φ n) show_Rule_lv n Tryz.f13 false [] (OSh.chk (OSh.plain (.tup [.s, .i .i64]) [])) 10 [] i0 (St.mk ([Jk, Jk, Jk, Jk, AV.pl 24 0, Jk, Jk, Jk, Jk, Jk, Jk, Jk, Jk, Jk, Jk, Jk, Jk, Jk, Jk, Jk, Jk, Jk, Jk, Jk, Jk, Jk, Jk, Jk, Jk, Jk, Jk, Jk, Jk, Jk, Jk, Jk, Jk, Jk, Jk, Jk, Jk, Jk, Jk, Jk, Jk, Jk, Jk, Jk, AV.sl b11 kdL r12 Right.no, AV.dv (DV.val (Value.int .i64 (↑(List.length r12) : Int))), aI j25] ++ jk 44) [(24, [AV.pl 24 0, AV.sl b18 [Kd.i IntKind.u8] r19 (Right.tok 21537), aB b20])])
theorem show_Rule_s10 (n : Nat) (s0 : ByteArray) (b1 : Bool) (j2 : Int) (s3 : ByteArray) (s4 : ByteArray) (b5 : Bool) (r6 : Rows) (s7 : ByteArray) (b8 : Bool) (j9 : Int) (s10 : ByteArray) (b11 : Bool) (r12 : Rows) (i0 : Nat) (b18 : Bool) (r19 : List (List DV)) (b20 : Bool) (j25 : Int) : show_Rule_l10 n s0 b1 j2 s3 s4 b5 r6 s7 b8 j9 s10 b11 r12 (i0 + 1) b18 r19 b20 j25 =
 bif decide (j25 < (↑(List.length r12) : Int)) then
 if 0 ≤ j25 then
 if j25 < (↑(List.length r12) : Int) then
 bif decide (j25 > 0) then
 obind (sB_WriteString_v n (ByteArray.mk #[44, 32]) b18 r19 b20) fun y26 =>
 bif y26.snd.fst.snd.snd.fst then
 some ((ByteArray.mk #[], (100, ())), ())
 else bif decide ((↑(List.length (Row.R (List.getD r12 (Int.toNat j25) []) 5)) : Int) > 4) then
 some ((ByteArray.mk #[], (100, ())), ())
 else obind (sp_maybe_v n (ByteArray.mk #[]) (Row.S (List.getD r12 (Int.toNat j25) []) 0) (Row.B (List.getD r12 (Int.toNat j25) []) 1) (Row.I (List.getD r12 (Int.toNat j25) []) 2) (Row.S (List.getD r12 (Int.toNat j25) []) 3) (ByteArray.mk #[32, 115, 97, 121, 115, 32]) y26.snd.fst.snd.fst.fst y26.snd.fst.snd.fst.snd y26.snd.fst.snd.snd.fst) fun y27 =>
 obind (sp_atom_v n (Row.S (List.getD r12 (Int.toNat j25) []) 4) (Row.N (List.getD r12 (Int.toNat j25) []) 5) (Row.R (List.getD r12 (Int.toNat j25) []) 5) y27.snd.fst.snd.fst.fst y27.snd.fst.snd.fst.snd y27.snd.fst.snd.snd.fst) fun y28 =>
 obind (sp_maybe_v n (ByteArray.mk #[32, 97, 116, 32]) (Row.S (List.getD r12 (Int.toNat j25) []) 6) (Row.B (List.getD r12 (Int.toNat j25) []) 7) (Row.I (List.getD r12 (Int.toNat j25) []) 8) (Row.S (List.getD r12 (Int.toNat j25) []) 9) (ByteArray.mk #[]) y28.snd.fst.snd.fst.fst y28.snd.fst.snd.fst.snd y28.snd.fst.snd.snd.fst) fun y29 =>
 show_Rule_l10 n s0 b1 j2 s3 s4 b5 r6 s7 b8 j9 s10 b11 r12 i0 y29.snd.fst.snd.fst.fst y29.snd.fst.snd.fst.snd y29.snd.fst.snd.snd.fst (IntKind.wrap IntKind.i64 (j25 + 1))
 else bif b20 then
 some ((ByteArray.mk #[], (100, ())), ())
 else bif decide ((↑(List.length (Row.R (List.getD r12 (Int.toNat j25) []) 5)) : Int) > 4) then
 some ((ByteArray.mk #[], (100, ())), ())
 else obind (sp_maybe_v n (ByteArray.mk #[]) (Row.S (List.getD r12 (Int.toNat j25) []) 0) (Row.B (List.getD r12 (Int.toNat j25) []) 1) (Row.I (List.getD r12 (Int.toNat j25) []) 2) (Row.S (List.getD r12 (Int.toNat j25) []) 3) (ByteArray.mk #[32, 115, 97, 121, 115, 32]) b18 r19 b20) fun y30 =>
 obind (sp_atom_v n (Row.S (List.getD r12 (Int.toNat j25) []) 4) (Row.N (List.getD r12 (Int.toNat j25) []) 5) (Row.R (List.getD r12 (Int.toNat j25) []) 5) y30.snd.fst.snd.fst.fst y30.snd.fst.snd.fst.snd y30.snd.fst.snd.snd.fst) fun y31 =>
 obind (sp_maybe_v n (ByteArray.mk #[32, 97, 116, 32]) (Row.S (List.getD r12 (Int.toNat j25) []) 6) (Row.B (List.getD r12 (Int.toNat j25) []) 7) (Row.I (List.getD r12 (Int.toNat j25) []) 8) (Row.S (List.getD r12 (Int.toNat j25) []) 9) (ByteArray.mk #[]) y31.snd.fst.snd.fst.fst y31.snd.fst.snd.fst.snd y31.snd.fst.snd.snd.fst) fun y32 =>
 show_Rule_l10 n s0 b1 j2 s3 s4 b5 r6 s7 b8 j9 s10 b11 r12 i0 y32.snd.fst.snd.fst.fst y32.snd.fst.snd.fst.snd y32.snd.fst.snd.snd.fst (IntKind.wrap IntKind.i64 (j25 + 1))
 else none
 else none
 else bif b20 then
 some ((ByteArray.mk #[], (100, ())), ())
 else obind (sB_String_v n b18 r19 b20) fun y33 =>
 if ByteArray.size y33.fst + 1 < 4611686018427387904 then
 some ((y33.fst ++ ByteArray.mk #[46], (0, ())), ())
 else none := by kernel_rfl
theorem show_Rule_e (n : Nat) (s0 : ByteArray) (b1 : Bool) (j2 : Int) (s3 : ByteArray) (s4 : ByteArray) (b5 : Bool) (r6 : Rows) (s7 : ByteArray) (b8 : Bool) (j9 : Int) (s10 : ByteArray) (b11 : Bool) (r12 : Rows) : show_Rule_v n s0 b1 j2 s3 s4 b5 r6 s7 b8 j9 s10 b11 r12 =
 bif decide ((↑(List.length r12) : Int) < 1) then
 some ((ByteArray.mk #[], (100, ())), ())
 else bif decide ((↑(List.length r12) : Int) > 4) then
 some ((ByteArray.mk #[], (100, ())), ())
 else bif decide ((↑(List.length r6) : Int) > 4) then
 some ((ByteArray.mk #[], (100, ())), ())
 else obind (sp_term_nilp_v n (ByteArray.mk #[]) s0 b1 j2 s3 true [] false) fun y13 =>
 obind (sB_WriteString_v n (ByteArray.mk #[58, 32]) y13.snd.fst.snd.fst.fst y13.snd.fst.snd.fst.snd y13.snd.fst.snd.snd.fst) fun y14 =>
 obind (sp_atom_v n s4 b5 r6 y14.snd.fst.snd.fst.fst y14.snd.fst.snd.fst.snd y14.snd.fst.snd.snd.fst) fun y15 =>
 obind (sp_maybe_v n (ByteArray.mk #[32, 116, 111, 32]) s7 b8 j9 s10 (ByteArray.mk #[]) y15.snd.fst.snd.fst.fst y15.snd.fst.snd.fst.snd y15.snd.fst.snd.snd.fst) fun y16 =>
 obind (sB_WriteString_v n (ByteArray.mk #[32, 58, 45, 32]) y16.snd.fst.snd.fst.fst y16.snd.fst.snd.fst.snd y16.snd.fst.snd.snd.fst) fun y17 =>
 show_Rule_l10 n s0 b1 j2 s3 s4 b5 r6 s7 b8 j9 s10 b11 r12 n y17.snd.fst.snd.fst.fst y17.snd.fst.snd.fst.snd y17.snd.fst.snd.snd.fst 0 := by kernel_rfl
theorem show_Rule_c (n : Nat) (s0 : ByteArray) (b1 : Bool) (j2 : Int) (s3 : ByteArray) (s4 : ByteArray) (b5 : Bool) (r6 : Rows) (s7 : ByteArray) (b8 : Bool) (j9 : Int) (s10 : ByteArray) (b11 : Bool) (r12 : Rows) (y : (ByteArray × Int × Unit) × Unit) (h : show_Rule_v n s0 b1 j2 s3 s4 b5 r6 s7 b8 j9 s10 b11 r12 = some y) : Contract Tryz.prog 13 [AV.agg [aS s0, aB b1, aI j2, aS s3, aS s4, AV.sl b5 kdT r6 Right.no, aS s7, aB b8, aI j9, aS s10, AV.sl b11 kdL r12 Right.no]] [] (OSh.enc (OSh.plain (.tup [.s, .i .i64]) []) y) :=
 ac (OSh.plain (.tup [.s, .i .i64]) []) (show_Rule_σok n) Tryz.func13 (by decide) h
def check_number_lv : Live := []
def check_number_σ (n : Nat) : Spec := Spec.none
theorem check_number_σok (n : Nat) : SpecOk Tryz.prog (check_number_σ n) := (SpecOk.none _)
def check_number_Φ (n : Nat) : Orc := with_ Tryz.prog (check_number_σ n) [] n 0 hsL
def check_number_v (n : Nat) (s0 : ByteArray) (b1 : Bool) (j2 : Int) (s3 : ByteArray) : Option (Bool × Unit) :=
 DM.denFn tm (check_number_Φ n) check_number_lv n Tryz.f34 false [AV.agg [aS s0, aB b1, aI j2, aS s3]] [] (OSh.chk (OSh.plain (.b) []))
theorem check_number_e (n : Nat) (s0 : ByteArray) (b1 : Bool) (j2 : Int) (s3 : ByteArray) : check_number_v n s0 b1 j2 s3 =
 bif s0 == ByteArray.mk #[] then
 some (b1, ())
 else some (false, ()) := by kernel_rfl
theorem check_number_c (n : Nat) (s0 : ByteArray) (b1 : Bool) (j2 : Int) (s3 : ByteArray) (y : Bool × Unit) (h : check_number_v n s0 b1 j2 s3 = some y) : Contract Tryz.prog 34 [AV.agg [aS s0, aB b1, aI j2, aS s3]] [] (OSh.enc (OSh.plain (.b) []) y) :=
 ac (OSh.plain (.b) []) (check_number_σok n) Tryz.func34 (by decide) h
def check_place_1_lv : Live := []
def check_place_1_σ (n : Nat) : Spec := (inst 34 [.agg [.s, .b, .i .i64, .s]] [] (OSh.plain (.b) []) (fun x e => check_number_v n x.1.1 x.1.2.1 x.1.2.2.1 x.1.2.2.2.1) Spec.none)
theorem check_place_1_σok (n : Nat) : SpecOk Tryz.prog (check_place_1_σ n) := (inst_ok (fun x e y h => check_number_c n x.1.1 x.1.2.1 x.1.2.2.1 x.1.2.2.2.1 y h) (SpecOk.none _))
def check_place_1_Φ (n : Nat) : Orc := with_ Tryz.prog (check_place_1_σ n) [] n 0 hsL
def check_place_1_v (n : Nat) (s0 : ByteArray) (b1 : Bool) (j2 : Int) (s3 : ByteArray) (s4 : ByteArray) (b5 : Bool) (r6 : Rows) (s7 : ByteArray) (b8 : Bool) (j9 : Int) (s10 : ByteArray) : Option (Bool × Unit) :=
 DM.denFn tm (check_place_1_Φ n) check_place_1_lv n Tryz.f36 false [AV.agg [aS s0, aB b1, aI j2, aS s3, aS s4, AV.sl b5 kdT r6 Right.no, aS s7, aB b8, aI j9, aS s10]] [] (OSh.chk (OSh.plain (.b) []))
theorem check_place_1_e (n : Nat) (s0 : ByteArray) (b1 : Bool) (j2 : Int) (s3 : ByteArray) (s4 : ByteArray) (b5 : Bool) (r6 : Rows) (s7 : ByteArray) (b8 : Bool) (j9 : Int) (s10 : ByteArray) : check_place_1_v n s0 b1 j2 s3 s4 b5 r6 s7 b8 j9 s10 =
 obind (check_number_v n s0 b1 j2 s3) fun y11 =>
 bif y11.fst then
 some (true, ())
 else obind (check_number_v n s7 b8 j9 s10) fun y12 =>
 some (y12.fst, ()) := by kernel_rfl
theorem check_place_1_c (n : Nat) (s0 : ByteArray) (b1 : Bool) (j2 : Int) (s3 : ByteArray) (s4 : ByteArray) (b5 : Bool) (r6 : Rows) (s7 : ByteArray) (b8 : Bool) (j9 : Int) (s10 : ByteArray) (y : Bool × Unit) (h : check_place_1_v n s0 b1 j2 s3 s4 b5 r6 s7 b8 j9 s10 = some y) : Contract Tryz.prog 36 [AV.agg [aS s0, aB b1, aI j2, aS s3, aS s4, AV.sl b5 kdT r6 Right.no, aS s7, aB b8, aI j9, aS s10]] [] (OSh.enc (OSh.plain (.b) []) y) :=
 ac (OSh.plain (.b) []) (check_place_1_σok n) Tryz.func36 (by decide) h
def sI_check_place_1_lv : Live := [(2, [0, 1, 7, 8], [1000, 1001, 1002, 1003])]
def sI_check_place_1_σ (n : Nat) : Spec := (inst 36 [.agg [.s, .b, .i .i64, .s, .s, .sl kdT, .s, .b, .i .i64, .s]] [] (OSh.plain (.b) []) (fun x e => check_place_1_v n x.1.1 x.1.2.1 x.1.2.2.1 x.1.2.2.2.1 x.1.2.2.2.2.1 x.1.2.2.2.2.2.1.1 x.1.2.2.2.2.2.1.2 x.1.2.2.2.2.2.2.1 x.1.2.2.2.2.2.2.2.1 x.1.2.2.2.2.2.2.2.2.1 x.1.2.2.2.2.2.2.2.2.2.1) Spec.none)
theorem sI_check_place_1_σok (n : Nat) : SpecOk Tryz.prog (sI_check_place_1_σ n) := (inst_ok (fun x e y h => check_place_1_c n x.1.1 x.1.2.1 x.1.2.2.1 x.1.2.2.2.1 x.1.2.2.2.2.1 x.1.2.2.2.2.2.1.1 x.1.2.2.2.2.2.1.2 x.1.2.2.2.2.2.2.1 x.1.2.2.2.2.2.2.2.1 x.1.2.2.2.2.2.2.2.2.1 x.1.2.2.2.2.2.2.2.2.2.1 y h) (SpecOk.none _))
def sI_check_place_1_Φ (n : Nat) : Orc := with_ Tryz.prog (sI_check_place_1_σ n) [] n 0 hsL
def sI_check_place_1_v (n : Nat) (b0 : Bool) (r1 : Rows) : Option (Int × Unit) :=
 DM.denFn tm (sI_check_place_1_Φ n) sI_check_place_1_lv n Tryz.f35 false [AV.sl b0 kdL r1 Right.no, AV.fn 36 []] [] (OSh.chk (OSh.plain (.i .i64) []))
def sI_check_place_1_l2 (n : Nat) (b0 : Bool) (r1 : Rows) (i0 : Nat) (j3 : Int) : Option (Int × Unit) :=
 DM.loopFn tm (sI_check_place_1_Φ n) sI_check_place_1_lv n Tryz.f35 false [] (OSh.chk (OSh.plain (.i .i64) [])) 2 [] i0 (St.mk ([AV.sl b0 kdL r1 Right.no, AV.fn 36 [], Jk, Jk, Jk, Jk, Jk, AV.dv (DV.val (Value.int .i64 (↑(List.length r1) : Int))), aI j3] ++ jk 10) [])
theorem sI_check_place_1_s2 (n : Nat) (b0 : Bool) (r1 : Rows) (i0 : Nat) (j3 : Int) : sI_check_place_1_l2 n b0 r1 (i0 + 1) j3 =
 bif decide (j3 < (↑(List.length r1) : Int)) then
 if 0 ≤ j3 then
 if j3 < (↑(List.length r1) : Int) then
 obind (check_place_1_v n (Row.S (List.getD r1 (Int.toNat j3) []) 0) (Row.B (List.getD r1 (Int.toNat j3) []) 1) (Row.I (List.getD r1 (Int.toNat j3) []) 2) (Row.S (List.getD r1 (Int.toNat j3) []) 3) (Row.S (List.getD r1 (Int.toNat j3) []) 4) (Row.N (List.getD r1 (Int.toNat j3) []) 5) (Row.R (List.getD r1 (Int.toNat j3) []) 5) (Row.S (List.getD r1 (Int.toNat j3) []) 6) (Row.B (List.getD r1 (Int.toNat j3) []) 7) (Row.I (List.getD r1 (Int.toNat j3) []) 8) (Row.S (List.getD r1 (Int.toNat j3) []) 9)) fun y4 =>
 bif y4.fst then
 some (j3, ())
 else sI_check_place_1_l2 n b0 r1 i0 (IntKind.wrap IntKind.i64 (j3 + 1))
 else none
 else none
 else some (-1, ()) := by kernel_rfl
theorem sI_check_place_1_e (n : Nat) (b0 : Bool) (r1 : Rows) : sI_check_place_1_v n b0 r1 =
 sI_check_place_1_l2 n b0 r1 n 0 := by kernel_rfl
theorem sI_check_place_1_c (n : Nat) (b0 : Bool) (r1 : Rows) (y : Int × Unit) (h : sI_check_place_1_v n b0 r1 = some y) : Contract Tryz.prog 35 [AV.sl b0 kdL r1 Right.no, AV.fn 36 []] [] (OSh.enc (OSh.plain (.i .i64) []) y) :=
 ac (OSh.plain (.i .i64) []) (sI_check_place_1_σok n) Tryz.func35 (by decide) h
def check_place_lv : Live := []
def check_place_σ (n : Nat) : Spec := (inst 34 [.agg [.s, .b, .i .i64, .s]] [] (OSh.plain (.b) []) (fun x e => check_number_v n x.1.1 x.1.2.1 x.1.2.2.1 x.1.2.2.2.1) (inst 35 [.sl kdL, .fn 36 []] [] (OSh.plain (.i .i64) []) (fun x e => sI_check_place_1_v n x.1.1 x.1.2) Spec.none))
theorem check_place_σok (n : Nat) : SpecOk Tryz.prog (check_place_σ n) := (inst_ok (fun x e y h => check_number_c n x.1.1 x.1.2.1 x.1.2.2.1 x.1.2.2.2.1 y h) (inst_ok (fun x e y h => sI_check_place_1_c n x.1.1 x.1.2 y h) (SpecOk.none _)))
def check_place_Φ (n : Nat) : Orc := with_ Tryz.prog (check_place_σ n) [] n 0 hsL
def check_place_v (n : Nat) (s0 : ByteArray) (b1 : Bool) (j2 : Int) (s3 : ByteArray) (s4 : ByteArray) (b5 : Bool) (r6 : Rows) (s7 : ByteArray) (b8 : Bool) (j9 : Int) (s10 : ByteArray) (b11 : Bool) (r12 : Rows) : Option (Int × Unit) :=
 DM.denFn tm (check_place_Φ n) check_place_lv n Tryz.f14 false [AV.agg [aS s0, aB b1, aI j2, aS s3, aS s4, AV.sl b5 kdT r6 Right.no, aS s7, aB b8, aI j9, aS s10, AV.sl b11 kdL r12 Right.no]] [] (OSh.chk (OSh.plain (.i .i64) []))
theorem check_place_e (n : Nat) (s0 : ByteArray) (b1 : Bool) (j2 : Int) (s3 : ByteArray) (s4 : ByteArray) (b5 : Bool) (r6 : Rows) (s7 : ByteArray) (b8 : Bool) (j9 : Int) (s10 : ByteArray) (b11 : Bool) (r12 : Rows) : check_place_v n s0 b1 j2 s3 s4 b5 r6 s7 b8 j9 s10 b11 r12 =
 obind (check_number_v n s0 b1 j2 s3) fun y13 =>
 bif y13.fst then
 some (-1, ())
 else obind (check_number_v n s7 b8 j9 s10) fun y14 =>
 bif y14.fst then
 some (-1, ())
 else if (1 + List.length r12) * 136 ≤ 140737488355328 then
 bif List.isEmpty [[DV.val (Value.string (ByteArray.mk #[])), DV.val (Value.bool false), DV.val (Value.int .i64 0), DV.val (Value.string (ByteArray.mk #[])), DV.val (Value.string (ByteArray.mk #[])), DV.sl true kdT [], DV.val (Value.string (ByteArray.mk #[])), DV.val (Value.bool false), DV.val (Value.int .i64 0), DV.val (Value.string (ByteArray.mk #[]))]] || !List.isEmpty r12 then
 obind (sI_check_place_1_v n (false && List.isEmpty r12) (appX [[DV.val (Value.string (ByteArray.mk #[])), DV.val (Value.bool false), DV.val (Value.int .i64 0), DV.val (Value.string (ByteArray.mk #[])), DV.val (Value.string (ByteArray.mk #[])), DV.sl true kdT [], DV.val (Value.string (ByteArray.mk #[])), DV.val (Value.bool false), DV.val (Value.int .i64 0), DV.val (Value.string (ByteArray.mk #[]))]] r12)) fun y15 =>
 some (IntKind.wrap IntKind.i64 (y15.fst - 1), ())
 else obind (sI_check_place_1_v n (false && List.isEmpty r12) (appX [[DV.val (Value.string (ByteArray.mk #[])), DV.val (Value.bool false), DV.val (Value.int .i64 0), DV.val (Value.string (ByteArray.mk #[])), DV.val (Value.string (ByteArray.mk #[])), DV.sl true kdT [], DV.val (Value.string (ByteArray.mk #[])), DV.val (Value.bool false), DV.val (Value.int .i64 0), DV.val (Value.string (ByteArray.mk #[]))]] r12)) fun y16 =>
 some (IntKind.wrap IntKind.i64 (y16.fst - 1), ())
 else none := by kernel_rfl
theorem check_place_c (n : Nat) (s0 : ByteArray) (b1 : Bool) (j2 : Int) (s3 : ByteArray) (s4 : ByteArray) (b5 : Bool) (r6 : Rows) (s7 : ByteArray) (b8 : Bool) (j9 : Int) (s10 : ByteArray) (b11 : Bool) (r12 : Rows) (y : Int × Unit) (h : check_place_v n s0 b1 j2 s3 s4 b5 r6 s7 b8 j9 s10 b11 r12 = some y) : Contract Tryz.prog 14 [AV.agg [aS s0, aB b1, aI j2, aS s3, aS s4, AV.sl b5 kdT r6 Right.no, aS s7, aB b8, aI j9, aS s10, AV.sl b11 kdL r12 Right.no]] [] (OSh.enc (OSh.plain (.i .i64) []) y) :=
 ac (OSh.plain (.i .i64) []) (check_place_σok n) Tryz.func14 (by decide) h
def check_arity_1_nilf_lv : Live := []
def check_arity_1_nilf_σ (n : Nat) : Spec := Spec.none
theorem check_arity_1_nilf_σok (n : Nat) : SpecOk Tryz.prog (check_arity_1_nilf_σ n) := (SpecOk.none _)
def check_arity_1_nilf_Φ (n : Nat) : Orc := with_ Tryz.prog (check_arity_1_nilf_σ n) [] n 0 hsL
def check_arity_1_nilf_v (n : Nat) (s0 : ByteArray) (j1 : Int) (r2 : Rows) : Option (Bool × (Unit × Unit) × (Unit × Rows × Unit) × Unit) :=
 DM.denFn tm (check_arity_1_nilf_Φ n) check_arity_1_nilf_lv n Tryz.f37 false [aS s0, aI j1, AV.pl 1000 0] [[AV.pl 1001 1000000000], [AV.dv (DV.val Value.nilFunc), AV.arr [Kd.s, Kd.i .i64] r2]] (OSh.chk (OSh.plain (.b) [[.pl 1001 1000000000], [.nilf, .arr [Kd.s, Kd.i .i64]]]))
theorem check_arity_1_nilf_e (n : Nat) (s0 : ByteArray) (j1 : Int) (r2 : Rows) : check_arity_1_nilf_v n s0 j1 r2 =
 bif !mhas r2 (DV.val (Value.string s0)) then
 bif mhas r2 (DV.val (Value.string s0)) then
 some (Row.I (mget r2 (DV.val (Value.string s0)) [DV.val (Value.string s0), DV.val (Value.int .i64 0)]) 1 != j1, (((), ()), (((), (mput r2 (DV.val (Value.string s0)) [DV.val (Value.string s0), DV.val (Value.int .i64 j1)], ())), ())))
 else some (false, (((), ()), (((), (mput r2 (DV.val (Value.string s0)) [DV.val (Value.string s0), DV.val (Value.int .i64 j1)], ())), ())))
 else bif mhas r2 (DV.val (Value.string s0)) then
 some (Row.I (mget r2 (DV.val (Value.string s0)) [DV.val (Value.string s0), DV.val (Value.int .i64 0)]) 1 != j1, (((), ()), (((), (r2, ())), ())))
 else some (false, (((), ()), (((), (r2, ())), ()))) := by kernel_rfl
theorem check_arity_1_nilf_c (n : Nat) (s0 : ByteArray) (j1 : Int) (r2 : Rows) (y : Bool × (Unit × Unit) × (Unit × Rows × Unit) × Unit) (h : check_arity_1_nilf_v n s0 j1 r2 = some y) : Contract Tryz.prog 37 [aS s0, aI j1, AV.pl 1000 0] [[AV.pl 1001 1000000000], [AV.dv (DV.val Value.nilFunc), AV.arr [Kd.s, Kd.i .i64] r2]] (OSh.enc (OSh.plain (.b) [[.pl 1001 1000000000], [.nilf, .arr [Kd.s, Kd.i .i64]]]) y) :=
 ac (OSh.plain (.b) [[.pl 1001 1000000000], [.nilf, .arr [Kd.s, Kd.i .i64]]]) (check_arity_1_nilf_σok n) Tryz.func37 (by decide) h
def check_arity_nilf_lv : Live := [(5, [5, 17, 18, 19], [3, 1000, 1001, 1002, 1003])]
def check_arity_nilf_σ (n : Nat) : Spec := (inst 37 [.s, .i .i64, .pl 1000 0] [[.pl 1001 1000000000], [.nilf, .arr [Kd.s, Kd.i .i64]]] (OSh.plain (.b) [[.pl 1001 1000000000], [.nilf, .arr [Kd.s, Kd.i .i64]]]) (fun x e => check_arity_1_nilf_v n x.1 x.2.1 e.2.1.2.1) Spec.none)
theorem check_arity_nilf_σok (n : Nat) : SpecOk Tryz.prog (check_arity_nilf_σ n) := (inst_ok (fun x e y h => check_arity_1_nilf_c n x.1 x.2.1 e.2.1.2.1 y h) (SpecOk.none _))
def check_arity_nilf_Φ (n : Nat) : Orc := with_ Tryz.prog (check_arity_nilf_σ n) [] n 0 hsL
def check_arity_nilf_v (n : Nat) (s0 : ByteArray) (b1 : Bool) (j2 : Int) (s3 : ByteArray) (s4 : ByteArray) (b5 : Bool) (r6 : Rows) (s7 : ByteArray) (b8 : Bool) (j9 : Int) (s10 : ByteArray) (b11 : Bool) (r12 : Rows) (r13 : Rows) : Option (Int × (Unit × Rows × Unit) × Unit) :=
 DM.denFn tm (check_arity_nilf_Φ n) check_arity_nilf_lv n Tryz.f15 false [AV.agg [aS s0, aB b1, aI j2, aS s3, aS s4, AV.sl b5 kdT r6 Right.no, aS s7, aB b8, aI j9, aS s10, AV.sl b11 kdL r12 Right.no], AV.pl 1000 1000000000] [[AV.dv (DV.val Value.nilFunc), AV.arr [Kd.s, Kd.i .i64] r13]] (OSh.chk (OSh.plain (.i .i64) [[.nilf, .arr [Kd.s, Kd.i .i64]]]))
def check_arity_nilf_l5 (n : Nat) (s0 : ByteArray) (b1 : Bool) (j2 : Int) (s3 : ByteArray) (s4 : ByteArray) (b5 : Bool) (r6 : Rows) (s7 : ByteArray) (b8 : Bool) (j9 : Int) (s10 : ByteArray) (b11 : Bool) (r12 : Rows) (r13 : Rows) (i0 : Nat) (r15 : List (List DV)) (j17 : Int) : Option (Int × (Unit × Rows × Unit) × Unit) :=
 DM.loopFn tm (check_arity_nilf_Φ n) check_arity_nilf_lv n Tryz.f15 false [[AV.dv (DV.val Value.nilFunc), AV.arr [Kd.s, Kd.i .i64] r13]] (OSh.chk (OSh.plain (.i .i64) [[.nilf, .arr [Kd.s, Kd.i .i64]]])) 5 [] i0 (St.mk ([Jk, Jk, Jk, Jk, Jk, AV.fn 37 [AV.pl 3 0], Jk, Jk, Jk, Jk, Jk, Jk, Jk, Jk, Jk, Jk, Jk, AV.sl b11 kdL r12 Right.no, AV.dv (DV.val (Value.int .i64 (↑(List.length r12) : Int))), aI j17] ++ jk 13) [(1000, [AV.dv (DV.val Value.nilFunc), AV.arr [Kd.s, Kd.i .i64] r15]), (3, [AV.pl 1000 1000000000])])
theorem check_arity_nilf_s5 (n : Nat) (s0 : ByteArray) (b1 : Bool) (j2 : Int) (s3 : ByteArray) (s4 : ByteArray) (b5 : Bool) (r6 : Rows) (s7 : ByteArray) (b8 : Bool) (j9 : Int) (s10 : ByteArray) (b11 : Bool) (r12 : Rows) (r13 : Rows) (i0 : Nat) (r15 : List (List DV)) (j17 : Int) : check_arity_nilf_l5 n s0 b1 j2 s3 s4 b5 r6 s7 b8 j9 s10 b11 r12 r13 (i0 + 1) r15 j17 =
 bif decide (j17 < (↑(List.length r12) : Int)) then
 if 0 ≤ j17 then
 if j17 < (↑(List.length r12) : Int) then
 obind (check_arity_1_nilf_v n (Row.S (List.getD r12 (Int.toNat j17) []) 4) ((↑(List.length (Row.R (List.getD r12 (Int.toNat j17) []) 5)) : Int)) r15) fun y18 =>
 bif y18.fst then
 some (j17, (((), (y18.snd.snd.fst.snd.fst, ())), ()))
 else check_arity_nilf_l5 n s0 b1 j2 s3 s4 b5 r6 s7 b8 j9 s10 b11 r12 r13 i0 y18.snd.snd.fst.snd.fst (IntKind.wrap IntKind.i64 (j17 + 1))
 else none
 else none
 else some (-2, (((), (r15, ())), ())) := by kernel_rfl
theorem check_arity_nilf_e (n : Nat) (s0 : ByteArray) (b1 : Bool) (j2 : Int) (s3 : ByteArray) (s4 : ByteArray) (b5 : Bool) (r6 : Rows) (s7 : ByteArray) (b8 : Bool) (j9 : Int) (s10 : ByteArray) (b11 : Bool) (r12 : Rows) (r13 : Rows) : check_arity_nilf_v n s0 b1 j2 s3 s4 b5 r6 s7 b8 j9 s10 b11 r12 r13 =
 obind (check_arity_1_nilf_v n s4 ((↑(List.length r6) : Int)) r13) fun y14 =>
 bif y14.fst then
 some (-1, (((), (y14.snd.snd.fst.snd.fst, ())), ()))
 else check_arity_nilf_l5 n s0 b1 j2 s3 s4 b5 r6 s7 b8 j9 s10 b11 r12 r13 n y14.snd.snd.fst.snd.fst 0 := by kernel_rfl
theorem check_arity_nilf_c (n : Nat) (s0 : ByteArray) (b1 : Bool) (j2 : Int) (s3 : ByteArray) (s4 : ByteArray) (b5 : Bool) (r6 : Rows) (s7 : ByteArray) (b8 : Bool) (j9 : Int) (s10 : ByteArray) (b11 : Bool) (r12 : Rows) (r13 : Rows) (y : Int × (Unit × Rows × Unit) × Unit) (h : check_arity_nilf_v n s0 b1 j2 s3 s4 b5 r6 s7 b8 j9 s10 b11 r12 r13 = some y) : Contract Tryz.prog 15 [AV.agg [aS s0, aB b1, aI j2, aS s3, aS s4, AV.sl b5 kdT r6 Right.no, aS s7, aB b8, aI j9, aS s10, AV.sl b11 kdL r12 Right.no], AV.pl 1000 1000000000] [[AV.dv (DV.val Value.nilFunc), AV.arr [Kd.s, Kd.i .i64] r13]] (OSh.enc (OSh.plain (.i .i64) [[.nilf, .arr [Kd.s, Kd.i .i64]]]) y) :=
 ac (OSh.plain (.i .i64) [[.nilf, .arr [Kd.s, Kd.i .i64]]]) (check_arity_nilf_σok n) Tryz.func15 (by decide) h
def slices_Index_lv : Live := [(2, [0, 1, 7, 8], [1000, 1001, 1002, 1003])]
def slices_Index_σ (n : Nat) : Spec := Spec.none
theorem slices_Index_σok (n : Nat) : SpecOk Tryz.prog (slices_Index_σ n) := (SpecOk.none _)
def slices_Index_Φ (n : Nat) : Orc := with_ Tryz.prog (slices_Index_σ n) [] n 0 hsL
def slices_Index_v (n : Nat) (b0 : Bool) (r1 : Rows) (s2 : ByteArray) : Option (Int × Unit) :=
 DM.denFn tm (slices_Index_Φ n) slices_Index_lv n Tryz.f65 false [AV.sl b0 [Kd.s] r1 Right.no, aS s2] [] (OSh.chk (OSh.plain (.i .i64) []))
def slices_Index_l2 (n : Nat) (b0 : Bool) (r1 : Rows) (s2 : ByteArray) (i0 : Nat) (j3 : Int) : Option (Int × Unit) :=
 DM.loopFn tm (slices_Index_Φ n) slices_Index_lv n Tryz.f65 false [] (OSh.chk (OSh.plain (.i .i64) [])) 2 [] i0 (St.mk ([AV.sl b0 [Kd.s] r1 Right.no, aS s2, Jk, Jk, Jk, Jk, Jk, AV.dv (DV.val (Value.int .i64 (↑(List.length r1) : Int))), aI j3] ++ jk 10) [])
theorem slices_Index_s2 (n : Nat) (b0 : Bool) (r1 : Rows) (s2 : ByteArray) (i0 : Nat) (j3 : Int) : slices_Index_l2 n b0 r1 s2 (i0 + 1) j3 =
 bif decide (j3 < (↑(List.length r1) : Int)) then
 if 0 ≤ j3 then
 if j3 < (↑(List.length r1) : Int) then
 bif s2 == Row.S (List.getD r1 (Int.toNat j3) []) 0 then
 some (j3, ())
 else slices_Index_l2 n b0 r1 s2 i0 (IntKind.wrap IntKind.i64 (j3 + 1))
 else none
 else none
 else some (-1, ()) := by kernel_rfl
theorem slices_Index_e (n : Nat) (b0 : Bool) (r1 : Rows) (s2 : ByteArray) : slices_Index_v n b0 r1 s2 =
 slices_Index_l2 n b0 r1 s2 n 0 := by kernel_rfl
theorem slices_Index_c (n : Nat) (b0 : Bool) (r1 : Rows) (s2 : ByteArray) (y : Int × Unit) (h : slices_Index_v n b0 r1 s2 = some y) : Contract Tryz.prog 65 [AV.sl b0 [Kd.s] r1 Right.no, aS s2] [] (OSh.enc (OSh.plain (.i .i64) []) y) :=
 ac (OSh.plain (.i .i64) []) (slices_Index_σok n) Tryz.func65 (by decide) h
def slices_Contains_lv : Live := []
def slices_Contains_σ (n : Nat) : Spec := (inst 65 [.sl [Kd.s], .s] [] (OSh.plain (.i .i64) []) (fun x e => slices_Index_v n x.1.1 x.1.2 x.2.1) Spec.none)
theorem slices_Contains_σok (n : Nat) : SpecOk Tryz.prog (slices_Contains_σ n) := (inst_ok (fun x e y h => slices_Index_c n x.1.1 x.1.2 x.2.1 y h) (SpecOk.none _))
def slices_Contains_Φ (n : Nat) : Orc := with_ Tryz.prog (slices_Contains_σ n) [] n 0 hsL
def slices_Contains_v (n : Nat) (b0 : Bool) (r1 : Rows) (s2 : ByteArray) : Option (Bool × Unit) :=
 DM.denFn tm (slices_Contains_Φ n) slices_Contains_lv n Tryz.f38 false [AV.sl b0 [Kd.s] r1 Right.no, aS s2] [] (OSh.chk (OSh.plain (.b) []))
theorem slices_Contains_e (n : Nat) (b0 : Bool) (r1 : Rows) (s2 : ByteArray) : slices_Contains_v n b0 r1 s2 =
 obind (slices_Index_v n b0 r1 s2) fun y3 =>
 some (decide (y3.fst ≥ 0), ()) := by kernel_rfl
theorem slices_Contains_c (n : Nat) (b0 : Bool) (r1 : Rows) (s2 : ByteArray) (y : Bool × Unit) (h : slices_Contains_v n b0 r1 s2 = some y) : Contract Tryz.prog 38 [AV.sl b0 [Kd.s] r1 Right.no, aS s2] [] (OSh.enc (OSh.plain (.b) []) y) :=
 ac (OSh.plain (.b) []) (slices_Contains_σok n) Tryz.func38 (by decide) h
def check_Bound_1_lv : Live := []
def check_Bound_1_σ (n : Nat) : Spec := (inst 38 [.sl [Kd.s], .s] [] (OSh.plain (.b) []) (fun x e => slices_Contains_v n x.1.1 x.1.2 x.2.1) Spec.none)
theorem check_Bound_1_σok (n : Nat) : SpecOk Tryz.prog (check_Bound_1_σ n) := (inst_ok (fun x e y h => slices_Contains_c n x.1.1 x.1.2 x.2.1 y h) (SpecOk.none _))
def check_Bound_1_Φ (n : Nat) : Orc := with_ Tryz.prog (check_Bound_1_σ n) [] n 0 hsL
def check_Bound_1_v (n : Nat) (s0 : ByteArray) (b1 : Bool) (j2 : Int) (s3 : ByteArray) (b4 : Bool) (r5 : Rows) : Option (Unit × ((Bool × Rows) × Unit) × Unit) :=
 DM.denFn tm (check_Bound_1_Φ n) check_Bound_1_lv n Tryz.f66 false [AV.agg [aS s0, aB b1, aI j2, aS s3], AV.pl 1000 0] [[AV.sl b4 [Kd.s] r5 (Right.tok 500002)]] (OSh.chk (OSh.plain (.tup []) [[.slt [Kd.s] 0]]))
theorem check_Bound_1_e (n : Nat) (s0 : ByteArray) (b1 : Bool) (j2 : Int) (s3 : ByteArray) (b4 : Bool) (r5 : Rows) : check_Bound_1_v n s0 b1 j2 s3 b4 r5 =
 bif !s0 == ByteArray.mk #[] then
 obind (slices_Contains_v n b4 r5 s0) fun y6 =>
 bif !y6.fst then
 if (List.length r5 + List.length [[DV.val (Value.string s0)]]) * 16 ≤ 140737488355328 then
 some ((), (((b4 && List.isEmpty [[DV.val (Value.string s0)]], appX r5 [[DV.val (Value.string s0)]]), ()), ()))
 else none
 else some ((), (((b4, r5), ()), ()))
 else some ((), (((b4, r5), ()), ())) := by kernel_rfl
theorem check_Bound_1_c (n : Nat) (s0 : ByteArray) (b1 : Bool) (j2 : Int) (s3 : ByteArray) (b4 : Bool) (r5 : Rows) (y : Unit × ((Bool × Rows) × Unit) × Unit) (h : check_Bound_1_v n s0 b1 j2 s3 b4 r5 = some y) : Contract Tryz.prog 66 [AV.agg [aS s0, aB b1, aI j2, aS s3], AV.pl 1000 0] [[AV.sl b4 [Kd.s] r5 (Right.tok 500002)]] (OSh.enc (OSh.plain (.tup []) [[.slt [Kd.s] 0]]) y) :=
 ac (OSh.plain (.tup []) [[.slt [Kd.s] 0]]) (check_Bound_1_σok n) Tryz.func66 (by decide) h
def check_terms_lv : Live := []
def check_terms_σ (n : Nat) : Spec := Spec.none
theorem check_terms_σok (n : Nat) : SpecOk Tryz.prog (check_terms_σ n) := (SpecOk.none _)
def check_terms_Φ (n : Nat) : Orc := with_ Tryz.prog (check_terms_σ n) [] n 0 hsL
def check_terms_v (n : Nat) (s0 : ByteArray) (b1 : Bool) (j2 : Int) (s3 : ByteArray) (s4 : ByteArray) (b5 : Bool) (r6 : Rows) (s7 : ByteArray) (b8 : Bool) (j9 : Int) (s10 : ByteArray) : Option ((Bool × Rows) × Unit) :=
 DM.denFn tm (check_terms_Φ n) check_terms_lv n Tryz.f67 false [AV.agg [aS s0, aB b1, aI j2, aS s3, aS s4, AV.sl b5 kdT r6 Right.no, aS s7, aB b8, aI j9, aS s10]] [] (OSh.chk (OSh.plain (.sl kdT) []))
theorem check_terms_e (n : Nat) (s0 : ByteArray) (b1 : Bool) (j2 : Int) (s3 : ByteArray) (s4 : ByteArray) (b5 : Bool) (r6 : Rows) (s7 : ByteArray) (b8 : Bool) (j9 : Int) (s10 : ByteArray) : check_terms_v n s0 b1 j2 s3 s4 b5 r6 s7 b8 j9 s10 =
 if (List.length [[DV.val (Value.string s0), DV.val (Value.bool b1), DV.val (Value.int .i64 j2), DV.val (Value.string s3)]] + List.length r6) * 48 ≤ 140737488355328 then
 bif List.isEmpty [[DV.val (Value.string s0), DV.val (Value.bool b1), DV.val (Value.int .i64 j2), DV.val (Value.string s3)]] || !List.isEmpty r6 then
 if (List.length (appX [[DV.val (Value.string s0), DV.val (Value.bool b1), DV.val (Value.int .i64 j2), DV.val (Value.string s3)]] r6) + List.length [[DV.val (Value.string s7), DV.val (Value.bool b8), DV.val (Value.int .i64 j9), DV.val (Value.string s10)]]) * 48 ≤ 140737488355328 then
 some ((false && List.isEmpty r6 && List.isEmpty [[DV.val (Value.string s7), DV.val (Value.bool b8), DV.val (Value.int .i64 j9), DV.val (Value.string s10)]], appX (appX [[DV.val (Value.string s0), DV.val (Value.bool b1), DV.val (Value.int .i64 j2), DV.val (Value.string s3)]] r6) [[DV.val (Value.string s7), DV.val (Value.bool b8), DV.val (Value.int .i64 j9), DV.val (Value.string s10)]]), ())
 else none
 else if (List.length (appX [[DV.val (Value.string s0), DV.val (Value.bool b1), DV.val (Value.int .i64 j2), DV.val (Value.string s3)]] r6) + List.length [[DV.val (Value.string s7), DV.val (Value.bool b8), DV.val (Value.int .i64 j9), DV.val (Value.string s10)]]) * 48 ≤ 140737488355328 then
 some ((false && List.isEmpty r6 && List.isEmpty [[DV.val (Value.string s7), DV.val (Value.bool b8), DV.val (Value.int .i64 j9), DV.val (Value.string s10)]], appX (appX [[DV.val (Value.string s0), DV.val (Value.bool b1), DV.val (Value.int .i64 j2), DV.val (Value.string s3)]] r6) [[DV.val (Value.string s7), DV.val (Value.bool b8), DV.val (Value.int .i64 j9), DV.val (Value.string s10)]]), ())
 else none
 else none := by kernel_rfl
theorem check_terms_c (n : Nat) (s0 : ByteArray) (b1 : Bool) (j2 : Int) (s3 : ByteArray) (s4 : ByteArray) (b5 : Bool) (r6 : Rows) (s7 : ByteArray) (b8 : Bool) (j9 : Int) (s10 : ByteArray) (y : (Bool × Rows) × Unit) (h : check_terms_v n s0 b1 j2 s3 s4 b5 r6 s7 b8 j9 s10 = some y) : Contract Tryz.prog 67 [AV.agg [aS s0, aB b1, aI j2, aS s3, aS s4, AV.sl b5 kdT r6 Right.no, aS s7, aB b8, aI j9, aS s10]] [] (OSh.enc (OSh.plain (.sl kdT) []) y) :=
 ac (OSh.plain (.sl kdT) []) (check_terms_σok n) Tryz.func67 (by decide) h
def check_Bound_lv : Live := [(5, [5, 6, 24, 25, 26], [5, 1000, 1001, 1002, 1003]), (8, [5, 6, 24, 25, 26, 31, 32, 33], [5, 1000, 1001, 1002, 1003])]
def check_Bound_σ (n : Nat) : Spec := (inst 66 [.agg [.s, .b, .i .i64, .s], .pl 1000 0] [[.slt [Kd.s] 500002]] (OSh.plain (.tup []) [[.slt [Kd.s] 0]]) (fun x e => check_Bound_1_v n x.1.1 x.1.2.1 x.1.2.2.1 x.1.2.2.2.1 e.1.1.1 e.1.1.2) (inst 67 [.agg [.s, .b, .i .i64, .s, .s, .sl kdT, .s, .b, .i .i64, .s]] [] (OSh.plain (.sl kdT) []) (fun x e => check_terms_v n x.1.1 x.1.2.1 x.1.2.2.1 x.1.2.2.2.1 x.1.2.2.2.2.1 x.1.2.2.2.2.2.1.1 x.1.2.2.2.2.2.1.2 x.1.2.2.2.2.2.2.1 x.1.2.2.2.2.2.2.2.1 x.1.2.2.2.2.2.2.2.2.1 x.1.2.2.2.2.2.2.2.2.2.1) Spec.none))
theorem check_Bound_σok (n : Nat) : SpecOk Tryz.prog (check_Bound_σ n) := (inst_ok (fun x e y h => check_Bound_1_c n x.1.1 x.1.2.1 x.1.2.2.1 x.1.2.2.2.1 e.1.1.1 e.1.1.2 y h) (inst_ok (fun x e y h => check_terms_c n x.1.1 x.1.2.1 x.1.2.2.1 x.1.2.2.2.1 x.1.2.2.2.2.1 x.1.2.2.2.2.2.1.1 x.1.2.2.2.2.2.1.2 x.1.2.2.2.2.2.2.1 x.1.2.2.2.2.2.2.2.1 x.1.2.2.2.2.2.2.2.2.1 x.1.2.2.2.2.2.2.2.2.2.1 y h) (SpecOk.none _)))
def check_Bound_Φ (n : Nat) : Orc := with_ Tryz.prog (check_Bound_σ n) [] n 0 hsL
def check_Bound_v (n : Nat) (s0 : ByteArray) (b1 : Bool) (j2 : Int) (s3 : ByteArray) (s4 : ByteArray) (b5 : Bool) (r6 : Rows) (s7 : ByteArray) (b8 : Bool) (j9 : Int) (s10 : ByteArray) (b11 : Bool) (r12 : Rows) (j13 : Int) : Option ((Bool × Rows) × Unit) :=
 DM.denFn tm (check_Bound_Φ n) check_Bound_lv n Tryz.f39 true [AV.agg [aS s0, aB b1, aI j2, aS s3, aS s4, AV.sl b5 kdT r6 Right.no, aS s7, aB b8, aI j9, aS s10, AV.sl b11 kdL r12 Right.no], aI j13] [] (OSh.chk (OSh.plain (.slt [Kd.s] 0) []))
def check_Bound_l5 (n : Nat) (s0 : ByteArray) (b1 : Bool) (j2 : Int) (s3 : ByteArray) (s4 : ByteArray) (b5 : Bool) (r6 : Rows) (s7 : ByteArray) (b8 : Bool) (j9 : Int) (s10 : ByteArray) (b11 : Bool) (r12 : Rows) (j13 : Int) (i0 : Nat) (b15 : Bool) (r16 : List (List DV)) (j25 : Int) : Option ((Bool × Rows) × Unit) :=
 DM.loopFn tm (check_Bound_Φ n) check_Bound_lv n Tryz.f39 true [] (OSh.chk (OSh.plain (.slt [Kd.s] 0) [])) 5 [] i0 (St.mk ([Jk, Jk, Jk, Jk, Jk, AV.pl 5 0, AV.fn 66 [AV.pl 5 0], Jk, Jk, Jk, Jk, Jk, Jk, Jk, Jk, Jk, Jk, Jk, Jk, Jk, Jk, Jk, Jk, Jk, AV.sl b11 kdL (List.drop 0 (List.take (Int.toNat (if (↑(List.length r12) : Int) < if 0 > j13 then 0 else j13 then (↑(List.length r12) : Int) else if 0 > j13 then 0 else j13)) r12)) Right.no, AV.dv (DV.val (Value.int .i64 (↑(List.length (List.drop 0 (List.take (Int.toNat (if (↑(List.length r12) : Int) < if 0 > j13 then 0 else j13 then (↑(List.length r12) : Int) else if 0 > j13 then 0 else j13)) r12))) : Int))), aI j25] ++ jk 16) [(5, [AV.sl b15 [Kd.s] r16 (Right.tok 20320)])])
def check_Bound_l8 (n : Nat) (s0 : ByteArray) (b1 : Bool) (j2 : Int) (s3 : ByteArray) (s4 : ByteArray) (b5 : Bool) (r6 : Rows) (s7 : ByteArray) (b8 : Bool) (j9 : Int) (s10 : ByteArray) (b11 : Bool) (r12 : Rows) (j13 : Int) (i0 i1 : Nat) (b18 : Bool) (r19 : List (List DV)) (j20 : Int) (b21 : Bool) (r22 : List (List DV)) (j24 : Int) (j27 : Int) : Option ((Bool × Rows) × Unit) :=
 DM.loopFn tm (check_Bound_Φ n) check_Bound_lv n Tryz.f39 true [] (OSh.chk (OSh.plain (.slt [Kd.s] 0) [])) 8 [i0] i1 (St.mk ([Jk, Jk, Jk, Jk, Jk, AV.pl 5 0, AV.fn 66 [AV.pl 5 0], Jk, Jk, Jk, Jk, Jk, Jk, Jk, Jk, Jk, Jk, Jk, Jk, Jk, Jk, Jk, Jk, Jk, AV.sl b11 kdL (List.drop 0 (List.take (Int.toNat (if (↑(List.length r12) : Int) < if 0 > j13 then 0 else j13 then (↑(List.length r12) : Int) else if 0 > j13 then 0 else j13)) r12)) Right.no, AV.dv (DV.val (Value.int .i64 (↑(List.length (List.drop 0 (List.take (Int.toNat (if (↑(List.length r12) : Int) < if 0 > j13 then 0 else j13 then (↑(List.length r12) : Int) else if 0 > j13 then 0 else j13)) r12))) : Int))), aI j27, Jk, Jk, Jk, Jk, AV.sl b18 kdT r19 Right.no, aI j20, aI j24] ++ jk 9) [(5, [AV.sl b21 [Kd.s] r22 (Right.tok 20320)])])
theorem check_Bound_s5 (n : Nat) (s0 : ByteArray) (b1 : Bool) (j2 : Int) (s3 : ByteArray) (s4 : ByteArray) (b5 : Bool) (r6 : Rows) (s7 : ByteArray) (b8 : Bool) (j9 : Int) (s10 : ByteArray) (b11 : Bool) (r12 : Rows) (j13 : Int) (i0 : Nat) (b15 : Bool) (r16 : List (List DV)) (j25 : Int) : check_Bound_l5 n s0 b1 j2 s3 s4 b5 r6 s7 b8 j9 s10 b11 r12 j13 (i0 + 1) b15 r16 j25 =
 bif decide (j25 < (↑(List.length (List.drop 0 (List.take (Int.toNat (if (↑(List.length r12) : Int) < if 0 > j13 then 0 else j13 then (↑(List.length r12) : Int) else if 0 > j13 then 0 else j13)) r12))) : Int)) then
 if 0 ≤ j25 then
 if j25 < (↑(List.length (List.drop 0 (List.take (Int.toNat (if (↑(List.length r12) : Int) < if 0 > j13 then 0 else j13 then (↑(List.length r12) : Int) else if 0 > j13 then 0 else j13)) r12))) : Int) then
 obind (check_terms_v n (Row.S (List.getD (List.drop 0 (List.take (Int.toNat (if (↑(List.length r12) : Int) < if 0 > j13 then 0 else j13 then (↑(List.length r12) : Int) else if 0 > j13 then 0 else j13)) r12)) (Int.toNat j25) []) 0) (Row.B (List.getD (List.drop 0 (List.take (Int.toNat (if (↑(List.length r12) : Int) < if 0 > j13 then 0 else j13 then (↑(List.length r12) : Int) else if 0 > j13 then 0 else j13)) r12)) (Int.toNat j25) []) 1) (Row.I (List.getD (List.drop 0 (List.take (Int.toNat (if (↑(List.length r12) : Int) < if 0 > j13 then 0 else j13 then (↑(List.length r12) : Int) else if 0 > j13 then 0 else j13)) r12)) (Int.toNat j25) []) 2) (Row.S (List.getD (List.drop 0 (List.take (Int.toNat (if (↑(List.length r12) : Int) < if 0 > j13 then 0 else j13 then (↑(List.length r12) : Int) else if 0 > j13 then 0 else j13)) r12)) (Int.toNat j25) []) 3) (Row.S (List.getD (List.drop 0 (List.take (Int.toNat (if (↑(List.length r12) : Int) < if 0 > j13 then 0 else j13 then (↑(List.length r12) : Int) else if 0 > j13 then 0 else j13)) r12)) (Int.toNat j25) []) 4) (Row.N (List.getD (List.drop 0 (List.take (Int.toNat (if (↑(List.length r12) : Int) < if 0 > j13 then 0 else j13 then (↑(List.length r12) : Int) else if 0 > j13 then 0 else j13)) r12)) (Int.toNat j25) []) 5) (Row.R (List.getD (List.drop 0 (List.take (Int.toNat (if (↑(List.length r12) : Int) < if 0 > j13 then 0 else j13 then (↑(List.length r12) : Int) else if 0 > j13 then 0 else j13)) r12)) (Int.toNat j25) []) 5) (Row.S (List.getD (List.drop 0 (List.take (Int.toNat (if (↑(List.length r12) : Int) < if 0 > j13 then 0 else j13 then (↑(List.length r12) : Int) else if 0 > j13 then 0 else j13)) r12)) (Int.toNat j25) []) 6) (Row.B (List.getD (List.drop 0 (List.take (Int.toNat (if (↑(List.length r12) : Int) < if 0 > j13 then 0 else j13 then (↑(List.length r12) : Int) else if 0 > j13 then 0 else j13)) r12)) (Int.toNat j25) []) 7) (Row.I (List.getD (List.drop 0 (List.take (Int.toNat (if (↑(List.length r12) : Int) < if 0 > j13 then 0 else j13 then (↑(List.length r12) : Int) else if 0 > j13 then 0 else j13)) r12)) (Int.toNat j25) []) 8) (Row.S (List.getD (List.drop 0 (List.take (Int.toNat (if (↑(List.length r12) : Int) < if 0 > j13 then 0 else j13 then (↑(List.length r12) : Int) else if 0 > j13 then 0 else j13)) r12)) (Int.toNat j25) []) 9)) fun y26 =>
 check_Bound_l8 n s0 b1 j2 s3 s4 b5 r6 s7 b8 j9 s10 b11 r12 j13 i0 n y26.fst.fst y26.fst.snd ((↑(List.length y26.fst.snd) : Int)) b15 r16 0 j25
 else none
 else none
 else some ((b15, r16), ()) := by kernel_rfl
theorem check_Bound_s8 (n : Nat) (s0 : ByteArray) (b1 : Bool) (j2 : Int) (s3 : ByteArray) (s4 : ByteArray) (b5 : Bool) (r6 : Rows) (s7 : ByteArray) (b8 : Bool) (j9 : Int) (s10 : ByteArray) (b11 : Bool) (r12 : Rows) (j13 : Int) (i0 i1 : Nat) (b18 : Bool) (r19 : List (List DV)) (j20 : Int) (b21 : Bool) (r22 : List (List DV)) (j24 : Int) (j27 : Int) : check_Bound_l8 n s0 b1 j2 s3 s4 b5 r6 s7 b8 j9 s10 b11 r12 j13 i0 (i1 + 1) b18 r19 j20 b21 r22 j24 j27 =
 bif decide (j24 < j20) then
 if 0 ≤ j24 then
 if j24 < (↑(List.length r19) : Int) then
 obind (check_Bound_1_v n (Row.S (List.getD r19 (Int.toNat j24) []) 0) (Row.B (List.getD r19 (Int.toNat j24) []) 1) (Row.I (List.getD r19 (Int.toNat j24) []) 2) (Row.S (List.getD r19 (Int.toNat j24) []) 3) b21 r22) fun y28 =>
 check_Bound_l8 n s0 b1 j2 s3 s4 b5 r6 s7 b8 j9 s10 b11 r12 j13 i0 i1 b18 r19 j20 y28.snd.fst.fst.fst y28.snd.fst.fst.snd (IntKind.wrap IntKind.i64 (j24 + 1)) j27
 else none
 else none
 else check_Bound_l5 n s0 b1 j2 s3 s4 b5 r6 s7 b8 j9 s10 b11 r12 j13 i0 b21 r22 (IntKind.wrap IntKind.i64 (j27 + 1)) := by kernel_rfl
theorem check_Bound_e (n : Nat) (s0 : ByteArray) (b1 : Bool) (j2 : Int) (s3 : ByteArray) (s4 : ByteArray) (b5 : Bool) (r6 : Rows) (s7 : ByteArray) (b8 : Bool) (j9 : Int) (s10 : ByteArray) (b11 : Bool) (r12 : Rows) (j13 : Int) : check_Bound_v n s0 b1 j2 s3 s4 b5 r6 s7 b8 j9 s10 b11 r12 j13 =
 obind (check_Bound_1_v n s0 b1 j2 s3 true []) fun y14 =>
 if 0 ≤ if (↑(List.length r12) : Int) < if 0 > j13 then 0 else j13 then (↑(List.length r12) : Int) else if 0 > j13 then 0 else j13 then
 if (if (↑(List.length r12) : Int) < if 0 > j13 then 0 else j13 then (↑(List.length r12) : Int) else if 0 > j13 then 0 else j13) ≤ (↑(List.length r12) : Int) then
 check_Bound_l5 n s0 b1 j2 s3 s4 b5 r6 s7 b8 j9 s10 b11 r12 j13 n y14.snd.fst.fst.fst y14.snd.fst.fst.snd 0
 else none
 else none := by kernel_rfl
theorem check_Bound_c (n : Nat) (s0 : ByteArray) (b1 : Bool) (j2 : Int) (s3 : ByteArray) (s4 : ByteArray) (b5 : Bool) (r6 : Rows) (s7 : ByteArray) (b8 : Bool) (j9 : Int) (s10 : ByteArray) (b11 : Bool) (r12 : Rows) (j13 : Int) (y : (Bool × Rows) × Unit) (h : check_Bound_v n s0 b1 j2 s3 s4 b5 r6 s7 b8 j9 s10 b11 r12 j13 = some y) : Contract Tryz.prog 39 [AV.agg [aS s0, aB b1, aI j2, aS s3, aS s4, AV.sl b5 kdT r6 Right.no, aS s7, aB b8, aI j9, aS s10, AV.sl b11 kdL r12 Right.no], aI j13] [] (OSh.enc (OSh.plain (.slt [Kd.s] 0) []) y) :=
 ac (OSh.plain (.slt [Kd.s] 0) []) (check_Bound_σok n) Tryz.func39 (by decide) h
def check_free_lv : Live := [(2, [1, 6, 7, 8], [1, 1000, 1001, 1002, 1003])]
def check_free_σ (n : Nat) : Spec := (inst 39 [.agg [.s, .b, .i .i64, .s, .s, .sl kdT, .s, .b, .i .i64, .s, .sl kdL], .i .i64] [] (OSh.plain (.slt [Kd.s] 0) []) (fun x e => check_Bound_v n x.1.1 x.1.2.1 x.1.2.2.1 x.1.2.2.2.1 x.1.2.2.2.2.1 x.1.2.2.2.2.2.1.1 x.1.2.2.2.2.2.1.2 x.1.2.2.2.2.2.2.1 x.1.2.2.2.2.2.2.2.1 x.1.2.2.2.2.2.2.2.2.1 x.1.2.2.2.2.2.2.2.2.2.1 x.1.2.2.2.2.2.2.2.2.2.2.1.1 x.1.2.2.2.2.2.2.2.2.2.2.1.2 x.2.1) (inst 38 [.sl [Kd.s], .s] [] (OSh.plain (.b) []) (fun x e => slices_Contains_v n x.1.1 x.1.2 x.2.1) Spec.none))
theorem check_free_σok (n : Nat) : SpecOk Tryz.prog (check_free_σ n) := (inst_ok (fun x e y h => check_Bound_c n x.1.1 x.1.2.1 x.1.2.2.1 x.1.2.2.2.1 x.1.2.2.2.2.1 x.1.2.2.2.2.2.1.1 x.1.2.2.2.2.2.1.2 x.1.2.2.2.2.2.2.1 x.1.2.2.2.2.2.2.2.1 x.1.2.2.2.2.2.2.2.2.1 x.1.2.2.2.2.2.2.2.2.2.1 x.1.2.2.2.2.2.2.2.2.2.2.1.1 x.1.2.2.2.2.2.2.2.2.2.2.1.2 x.2.1 y h) (inst_ok (fun x e y h => slices_Contains_c n x.1.1 x.1.2 x.2.1 y h) (SpecOk.none _)))
def check_free_Φ (n : Nat) : Orc := with_ Tryz.prog (check_free_σ n) [] n 0 hsL
def check_free_v (n : Nat) (s0 : ByteArray) (b1 : Bool) (j2 : Int) (s3 : ByteArray) (s4 : ByteArray) (b5 : Bool) (r6 : Rows) (s7 : ByteArray) (b8 : Bool) (j9 : Int) (s10 : ByteArray) (b11 : Bool) (r12 : Rows) : Option (Int × Unit) :=
 DM.denFn tm (check_free_Φ n) check_free_lv n Tryz.f16 false [AV.agg [aS s0, aB b1, aI j2, aS s3, aS s4, AV.sl b5 kdT r6 Right.no, aS s7, aB b8, aI j9, aS s10, AV.sl b11 kdL r12 Right.no]] [] (OSh.chk (OSh.plain (.i .i64) []))
def check_free_l2 (n : Nat) (s0 : ByteArray) (b1 : Bool) (j2 : Int) (s3 : ByteArray) (s4 : ByteArray) (b5 : Bool) (r6 : Rows) (s7 : ByteArray) (b8 : Bool) (j9 : Int) (s10 : ByteArray) (b11 : Bool) (r12 : Rows) (i0 : Nat) (j15 : Int) : Option (Int × Unit) :=
 DM.loopFn tm (check_free_Φ n) check_free_lv n Tryz.f16 false [] (OSh.chk (OSh.plain (.i .i64) [])) 2 [] i0 (St.mk ([Jk, AV.pl 1 0, Jk, Jk, Jk, Jk, AV.sl b11 kdL r12 Right.no, AV.dv (DV.val (Value.int .i64 (↑(List.length r12) : Int))), aI j15] ++ jk 20) [(1, [aS s0, aB b1, aI j2, aS s3, aS s4, AV.sl b5 kdT r6 Right.no, aS s7, aB b8, aI j9, aS s10, AV.sl b11 kdL r12 Right.no])])
theorem check_free_s2 (n : Nat) (s0 : ByteArray) (b1 : Bool) (j2 : Int) (s3 : ByteArray) (s4 : ByteArray) (b5 : Bool) (r6 : Rows) (s7 : ByteArray) (b8 : Bool) (j9 : Int) (s10 : ByteArray) (b11 : Bool) (r12 : Rows) (i0 : Nat) (j15 : Int) : check_free_l2 n s0 b1 j2 s3 s4 b5 r6 s7 b8 j9 s10 b11 r12 (i0 + 1) j15 =
 bif decide (j15 < (↑(List.length r12) : Int)) then
 if 0 ≤ j15 then
 if j15 < (↑(List.length r12) : Int) then
 bif !Row.S (List.getD r12 (Int.toNat j15) []) 6 == ByteArray.mk #[] then
 obind (check_Bound_v n s0 b1 j2 s3 s4 b5 r6 s7 b8 j9 s10 b11 r12 j15) fun y16 =>
 obind (slices_Contains_v n y16.fst.fst y16.fst.snd (Row.S (List.getD r12 (Int.toNat j15) []) 6)) fun y17 =>
 bif !y17.fst then
 some (j15, ())
 else check_free_l2 n s0 b1 j2 s3 s4 b5 r6 s7 b8 j9 s10 b11 r12 i0 (IntKind.wrap IntKind.i64 (j15 + 1))
 else check_free_l2 n s0 b1 j2 s3 s4 b5 r6 s7 b8 j9 s10 b11 r12 i0 (IntKind.wrap IntKind.i64 (j15 + 1))
 else none
 else none
 else some (-2, ()) := by kernel_rfl
theorem check_free_e (n : Nat) (s0 : ByteArray) (b1 : Bool) (j2 : Int) (s3 : ByteArray) (s4 : ByteArray) (b5 : Bool) (r6 : Rows) (s7 : ByteArray) (b8 : Bool) (j9 : Int) (s10 : ByteArray) (b11 : Bool) (r12 : Rows) : check_free_v n s0 b1 j2 s3 s4 b5 r6 s7 b8 j9 s10 b11 r12 =
 check_free_l2 n s0 b1 j2 s3 s4 b5 r6 s7 b8 j9 s10 b11 r12 n 0 := by kernel_rfl
theorem check_free_c (n : Nat) (s0 : ByteArray) (b1 : Bool) (j2 : Int) (s3 : ByteArray) (s4 : ByteArray) (b5 : Bool) (r6 : Rows) (s7 : ByteArray) (b8 : Bool) (j9 : Int) (s10 : ByteArray) (b11 : Bool) (r12 : Rows) (y : Int × Unit) (h : check_free_v n s0 b1 j2 s3 s4 b5 r6 s7 b8 j9 s10 b11 r12 = some y) : Contract Tryz.prog 16 [AV.agg [aS s0, aB b1, aI j2, aS s3, aS s4, AV.sl b5 kdT r6 Right.no, aS s7, aB b8, aI j9, aS s10, AV.sl b11 kdL r12 Right.no]] [] (OSh.enc (OSh.plain (.i .i64) []) y) :=
 ac (OSh.plain (.i .i64) []) (check_free_σok n) Tryz.func16 (by decide) h
def check_Vars_lv : Live := []
def check_Vars_σ (n : Nat) : Spec := (inst 39 [.agg [.s, .b, .i .i64, .s, .s, .sl kdT, .s, .b, .i .i64, .s, .sl kdL], .i .i64] [] (OSh.plain (.slt [Kd.s] 0) []) (fun x e => check_Bound_v n x.1.1 x.1.2.1 x.1.2.2.1 x.1.2.2.2.1 x.1.2.2.2.2.1 x.1.2.2.2.2.2.1.1 x.1.2.2.2.2.2.1.2 x.1.2.2.2.2.2.2.1 x.1.2.2.2.2.2.2.2.1 x.1.2.2.2.2.2.2.2.2.1 x.1.2.2.2.2.2.2.2.2.2.1 x.1.2.2.2.2.2.2.2.2.2.2.1.1 x.1.2.2.2.2.2.2.2.2.2.2.1.2 x.2.1) Spec.none)
theorem check_Vars_σok (n : Nat) : SpecOk Tryz.prog (check_Vars_σ n) := (inst_ok (fun x e y h => check_Bound_c n x.1.1 x.1.2.1 x.1.2.2.1 x.1.2.2.2.1 x.1.2.2.2.2.1 x.1.2.2.2.2.2.1.1 x.1.2.2.2.2.2.1.2 x.1.2.2.2.2.2.2.1 x.1.2.2.2.2.2.2.2.1 x.1.2.2.2.2.2.2.2.2.1 x.1.2.2.2.2.2.2.2.2.2.1 x.1.2.2.2.2.2.2.2.2.2.2.1.1 x.1.2.2.2.2.2.2.2.2.2.2.1.2 x.2.1 y h) (SpecOk.none _))
def check_Vars_Φ (n : Nat) : Orc := with_ Tryz.prog (check_Vars_σ n) [] n 0 hsL
def check_Vars_v (n : Nat) (s0 : ByteArray) (b1 : Bool) (j2 : Int) (s3 : ByteArray) (s4 : ByteArray) (b5 : Bool) (r6 : Rows) (s7 : ByteArray) (b8 : Bool) (j9 : Int) (s10 : ByteArray) (b11 : Bool) (r12 : Rows) : Option ((Bool × Rows) × Unit) :=
 DM.denFn tm (check_Vars_Φ n) check_Vars_lv n Tryz.f40 true [AV.agg [aS s0, aB b1, aI j2, aS s3, aS s4, AV.sl b5 kdT r6 Right.no, aS s7, aB b8, aI j9, aS s10, AV.sl b11 kdL r12 Right.no]] [] (OSh.chk (OSh.plain (.slt [Kd.s] 0) []))
theorem check_Vars_e (n : Nat) (s0 : ByteArray) (b1 : Bool) (j2 : Int) (s3 : ByteArray) (s4 : ByteArray) (b5 : Bool) (r6 : Rows) (s7 : ByteArray) (b8 : Bool) (j9 : Int) (s10 : ByteArray) (b11 : Bool) (r12 : Rows) : check_Vars_v n s0 b1 j2 s3 s4 b5 r6 s7 b8 j9 s10 b11 r12 =
 obind (check_Bound_v n s0 b1 j2 s3 s4 b5 r6 s7 b8 j9 s10 b11 r12 ((↑(List.length r12) : Int))) fun y13 =>
 some ((y13.fst.fst, y13.fst.snd), ()) := by kernel_rfl
theorem check_Vars_c (n : Nat) (s0 : ByteArray) (b1 : Bool) (j2 : Int) (s3 : ByteArray) (s4 : ByteArray) (b5 : Bool) (r6 : Rows) (s7 : ByteArray) (b8 : Bool) (j9 : Int) (s10 : ByteArray) (b11 : Bool) (r12 : Rows) (y : (Bool × Rows) × Unit) (h : check_Vars_v n s0 b1 j2 s3 s4 b5 r6 s7 b8 j9 s10 b11 r12 = some y) : Contract Tryz.prog 40 [AV.agg [aS s0, aB b1, aI j2, aS s3, aS s4, AV.sl b5 kdT r6 Right.no, aS s7, aB b8, aI j9, aS s10, AV.sl b11 kdL r12 Right.no]] [] (OSh.enc (OSh.plain (.slt [Kd.s] 0) []) y) :=
 ac (OSh.plain (.slt [Kd.s] 0) []) (check_Vars_σok n) Tryz.func40 (by decide) h
def check_open_1_lv : Live := []
def check_open_1_σ (n : Nat) : Spec := (inst 38 [.sl [Kd.s], .s] [] (OSh.plain (.b) []) (fun x e => slices_Contains_v n x.1.1 x.1.2 x.2.1) Spec.none)
theorem check_open_1_σok (n : Nat) : SpecOk Tryz.prog (check_open_1_σ n) := (inst_ok (fun x e y h => slices_Contains_c n x.1.1 x.1.2 x.2.1 y h) (SpecOk.none _))
def check_open_1_Φ (n : Nat) : Orc := with_ Tryz.prog (check_open_1_σ n) [] n 0 hsL
def check_open_1_v (n : Nat) (s0 : ByteArray) (b1 : Bool) (j2 : Int) (s3 : ByteArray) (b4 : Bool) (r5 : Rows) : Option (Bool × ((Bool × Rows) × Unit) × Unit) :=
 DM.denFn tm (check_open_1_Φ n) check_open_1_lv n Tryz.f42 false [AV.agg [aS s0, aB b1, aI j2, aS s3], AV.pl 1000 0] [[AV.sl b4 [Kd.s] r5 Right.no]] (OSh.chk (OSh.plain (.b) [[.sl [Kd.s]]]))
theorem check_open_1_e (n : Nat) (s0 : ByteArray) (b1 : Bool) (j2 : Int) (s3 : ByteArray) (b4 : Bool) (r5 : Rows) : check_open_1_v n s0 b1 j2 s3 b4 r5 =
 bif !s0 == ByteArray.mk #[] then
 obind (slices_Contains_v n b4 r5 s0) fun y6 =>
 some (!y6.fst, (((b4, r5), ()), ()))
 else some (false, (((b4, r5), ()), ())) := by kernel_rfl
theorem check_open_1_c (n : Nat) (s0 : ByteArray) (b1 : Bool) (j2 : Int) (s3 : ByteArray) (b4 : Bool) (r5 : Rows) (y : Bool × ((Bool × Rows) × Unit) × Unit) (h : check_open_1_v n s0 b1 j2 s3 b4 r5 = some y) : Contract Tryz.prog 42 [AV.agg [aS s0, aB b1, aI j2, aS s3], AV.pl 1000 0] [[AV.sl b4 [Kd.s] r5 Right.no]] (OSh.enc (OSh.plain (.b) [[.sl [Kd.s]]]) y) :=
 ac (OSh.plain (.b) [[.sl [Kd.s]]]) (check_open_1_σok n) Tryz.func42 (by decide) h
def sI_i2_check_open_1_lv : Live := [(2, [0, 1, 7, 8], [1000, 1001, 1002, 1003])]
def sI_i2_check_open_1_σ (n : Nat) : Spec := (inst 42 [.agg [.s, .b, .i .i64, .s], .pl 1000 0] [[.sl [Kd.s]]] (OSh.plain (.b) [[.sl [Kd.s]]]) (fun x e => check_open_1_v n x.1.1 x.1.2.1 x.1.2.2.1 x.1.2.2.2.1 e.1.1.1 e.1.1.2) Spec.none)
theorem sI_i2_check_open_1_σok (n : Nat) : SpecOk Tryz.prog (sI_i2_check_open_1_σ n) := (inst_ok (fun x e y h => check_open_1_c n x.1.1 x.1.2.1 x.1.2.2.1 x.1.2.2.2.1 e.1.1.1 e.1.1.2 y h) (SpecOk.none _))
def sI_i2_check_open_1_Φ (n : Nat) : Orc := with_ Tryz.prog (sI_i2_check_open_1_σ n) [] n 0 hsL
def sI_i2_check_open_1_v (n : Nat) (b0 : Bool) (r1 : Rows) (b2 : Bool) (r3 : Rows) : Option (Int × ((Bool × Rows) × Unit) × Unit) :=
 DM.denFn tm (sI_i2_check_open_1_Φ n) sI_i2_check_open_1_lv n Tryz.f68 false [AV.sl b0 kdT r1 Right.no, AV.fn 42 [AV.pl 1000 0]] [[AV.sl b2 [Kd.s] r3 Right.no]] (OSh.chk (OSh.plain (.i .i64) [[.sl [Kd.s]]]))
def sI_i2_check_open_1_l2 (n : Nat) (b0 : Bool) (r1 : Rows) (b2 : Bool) (r3 : Rows) (i0 : Nat) (j5 : Int) (b6 : Bool) (r7 : List (List DV)) : Option (Int × ((Bool × Rows) × Unit) × Unit) :=
 DM.loopFn tm (sI_i2_check_open_1_Φ n) sI_i2_check_open_1_lv n Tryz.f68 false [[AV.sl b2 [Kd.s] r3 Right.no]] (OSh.chk (OSh.plain (.i .i64) [[.sl [Kd.s]]])) 2 [] i0 (St.mk ([AV.sl b0 kdT r1 Right.no, AV.fn 42 [AV.pl 1000 0], Jk, Jk, Jk, Jk, Jk, AV.dv (DV.val (Value.int .i64 (↑(List.length r1) : Int))), aI j5] ++ jk 10) [(1000, [AV.sl b6 [Kd.s] r7 Right.no])])
theorem sI_i2_check_open_1_s2 (n : Nat) (b0 : Bool) (r1 : Rows) (b2 : Bool) (r3 : Rows) (i0 : Nat) (j5 : Int) (b6 : Bool) (r7 : List (List DV)) : sI_i2_check_open_1_l2 n b0 r1 b2 r3 (i0 + 1) j5 b6 r7 =
 bif decide (j5 < (↑(List.length r1) : Int)) then
 if 0 ≤ j5 then
 if j5 < (↑(List.length r1) : Int) then
 obind (check_open_1_v n (Row.S (List.getD r1 (Int.toNat j5) []) 0) (Row.B (List.getD r1 (Int.toNat j5) []) 1) (Row.I (List.getD r1 (Int.toNat j5) []) 2) (Row.S (List.getD r1 (Int.toNat j5) []) 3) b6 r7) fun y8 =>
 bif y8.fst then
 some (j5, (((y8.snd.fst.fst.fst, y8.snd.fst.fst.snd), ()), ()))
 else sI_i2_check_open_1_l2 n b0 r1 b2 r3 i0 (IntKind.wrap IntKind.i64 (j5 + 1)) y8.snd.fst.fst.fst y8.snd.fst.fst.snd
 else none
 else none
 else some (-1, (((b6, r7), ()), ())) := by kernel_rfl
theorem sI_i2_check_open_1_e (n : Nat) (b0 : Bool) (r1 : Rows) (b2 : Bool) (r3 : Rows) : sI_i2_check_open_1_v n b0 r1 b2 r3 =
 sI_i2_check_open_1_l2 n b0 r1 b2 r3 n 0 b2 r3 := by kernel_rfl
theorem sI_i2_check_open_1_c (n : Nat) (b0 : Bool) (r1 : Rows) (b2 : Bool) (r3 : Rows) (y : Int × ((Bool × Rows) × Unit) × Unit) (h : sI_i2_check_open_1_v n b0 r1 b2 r3 = some y) : Contract Tryz.prog 68 [AV.sl b0 kdT r1 Right.no, AV.fn 42 [AV.pl 1000 0]] [[AV.sl b2 [Kd.s] r3 Right.no]] (OSh.enc (OSh.plain (.i .i64) [[.sl [Kd.s]]]) y) :=
 ac (OSh.plain (.i .i64) [[.sl [Kd.s]]]) (sI_i2_check_open_1_σok n) Tryz.func68 (by decide) h
def sC_check_open_1_lv : Live := []
def sC_check_open_1_σ (n : Nat) : Spec := (inst 68 [.sl kdT, .fn 42 [.pl 1000 0]] [[.sl [Kd.s]]] (OSh.plain (.i .i64) [[.sl [Kd.s]]]) (fun x e => sI_i2_check_open_1_v n x.1.1 x.1.2 e.1.1.1 e.1.1.2) Spec.none)
theorem sC_check_open_1_σok (n : Nat) : SpecOk Tryz.prog (sC_check_open_1_σ n) := (inst_ok (fun x e y h => sI_i2_check_open_1_c n x.1.1 x.1.2 e.1.1.1 e.1.1.2 y h) (SpecOk.none _))
def sC_check_open_1_Φ (n : Nat) : Orc := with_ Tryz.prog (sC_check_open_1_σ n) [] n 0 hsL
def sC_check_open_1_v (n : Nat) (b0 : Bool) (r1 : Rows) (b2 : Bool) (r3 : Rows) : Option (Bool × ((Bool × Rows) × Unit) × Unit) :=
 DM.denFn tm (sC_check_open_1_Φ n) sC_check_open_1_lv n Tryz.f41 false [AV.sl b0 kdT r1 Right.no, AV.fn 42 [AV.pl 1000 0]] [[AV.sl b2 [Kd.s] r3 Right.no]] (OSh.chk (OSh.plain (.b) [[.sl [Kd.s]]]))
theorem sC_check_open_1_e (n : Nat) (b0 : Bool) (r1 : Rows) (b2 : Bool) (r3 : Rows) : sC_check_open_1_v n b0 r1 b2 r3 =
 obind (sI_i2_check_open_1_v n b0 r1 b2 r3) fun y4 =>
 some (decide (y4.fst ≥ 0), (((y4.snd.fst.fst.fst, y4.snd.fst.fst.snd), ()), ())) := by kernel_rfl
theorem sC_check_open_1_c (n : Nat) (b0 : Bool) (r1 : Rows) (b2 : Bool) (r3 : Rows) (y : Bool × ((Bool × Rows) × Unit) × Unit) (h : sC_check_open_1_v n b0 r1 b2 r3 = some y) : Contract Tryz.prog 41 [AV.sl b0 kdT r1 Right.no, AV.fn 42 [AV.pl 1000 0]] [[AV.sl b2 [Kd.s] r3 Right.no]] (OSh.enc (OSh.plain (.b) [[.sl [Kd.s]]]) y) :=
 ac (OSh.plain (.b) [[.sl [Kd.s]]]) (sC_check_open_1_σok n) Tryz.func41 (by decide) h
def check_open_lv : Live := []
def check_open_σ (n : Nat) : Spec := (inst 40 [.agg [.s, .b, .i .i64, .s, .s, .sl kdT, .s, .b, .i .i64, .s, .sl kdL]] [] (OSh.plain (.slt [Kd.s] 0) []) (fun x e => check_Vars_v n x.1.1 x.1.2.1 x.1.2.2.1 x.1.2.2.2.1 x.1.2.2.2.2.1 x.1.2.2.2.2.2.1.1 x.1.2.2.2.2.2.1.2 x.1.2.2.2.2.2.2.1 x.1.2.2.2.2.2.2.2.1 x.1.2.2.2.2.2.2.2.2.1 x.1.2.2.2.2.2.2.2.2.2.1 x.1.2.2.2.2.2.2.2.2.2.2.1.1 x.1.2.2.2.2.2.2.2.2.2.2.1.2) (inst 41 [.sl kdT, .fn 42 [.pl 1000 0]] [[.sl [Kd.s]]] (OSh.plain (.b) [[.sl [Kd.s]]]) (fun x e => sC_check_open_1_v n x.1.1 x.1.2 e.1.1.1 e.1.1.2) Spec.none))
theorem check_open_σok (n : Nat) : SpecOk Tryz.prog (check_open_σ n) := (inst_ok (fun x e y h => check_Vars_c n x.1.1 x.1.2.1 x.1.2.2.1 x.1.2.2.2.1 x.1.2.2.2.2.1 x.1.2.2.2.2.2.1.1 x.1.2.2.2.2.2.1.2 x.1.2.2.2.2.2.2.1 x.1.2.2.2.2.2.2.2.1 x.1.2.2.2.2.2.2.2.2.1 x.1.2.2.2.2.2.2.2.2.2.1 x.1.2.2.2.2.2.2.2.2.2.2.1.1 x.1.2.2.2.2.2.2.2.2.2.2.1.2 y h) (inst_ok (fun x e y h => sC_check_open_1_c n x.1.1 x.1.2 e.1.1.1 e.1.1.2 y h) (SpecOk.none _)))
def check_open_Φ (n : Nat) : Orc := with_ Tryz.prog (check_open_σ n) [] n 0 hsL
def check_open_v (n : Nat) (s0 : ByteArray) (b1 : Bool) (j2 : Int) (s3 : ByteArray) (s4 : ByteArray) (b5 : Bool) (r6 : Rows) (s7 : ByteArray) (b8 : Bool) (j9 : Int) (s10 : ByteArray) (b11 : Bool) (r12 : Rows) : Option (Bool × Unit) :=
 DM.denFn tm (check_open_Φ n) check_open_lv n Tryz.f17 false [AV.agg [aS s0, aB b1, aI j2, aS s3, aS s4, AV.sl b5 kdT r6 Right.no, aS s7, aB b8, aI j9, aS s10, AV.sl b11 kdL r12 Right.no]] [] (OSh.chk (OSh.plain (.b) []))
theorem check_open_e (n : Nat) (s0 : ByteArray) (b1 : Bool) (j2 : Int) (s3 : ByteArray) (s4 : ByteArray) (b5 : Bool) (r6 : Rows) (s7 : ByteArray) (b8 : Bool) (j9 : Int) (s10 : ByteArray) (b11 : Bool) (r12 : Rows) : check_open_v n s0 b1 j2 s3 s4 b5 r6 s7 b8 j9 s10 b11 r12 =
 obind (check_Vars_v n s0 b1 j2 s3 s4 b5 r6 s7 b8 j9 s10 b11 r12) fun y13 =>
 if (List.length [[DV.val (Value.string s7), DV.val (Value.bool b8), DV.val (Value.int .i64 j9), DV.val (Value.string s10)]] + List.length r6) * 48 ≤ 140737488355328 then
 bif List.isEmpty [[DV.val (Value.string s7), DV.val (Value.bool b8), DV.val (Value.int .i64 j9), DV.val (Value.string s10)]] || !List.isEmpty r6 then
 obind (sC_check_open_1_v n (false && List.isEmpty r6) (appX [[DV.val (Value.string s7), DV.val (Value.bool b8), DV.val (Value.int .i64 j9), DV.val (Value.string s10)]] r6) y13.fst.fst y13.fst.snd) fun y14 =>
 some (y14.fst, ())
 else obind (sC_check_open_1_v n (false && List.isEmpty r6) (appX [[DV.val (Value.string s7), DV.val (Value.bool b8), DV.val (Value.int .i64 j9), DV.val (Value.string s10)]] r6) y13.fst.fst y13.fst.snd) fun y15 =>
 some (y15.fst, ())
 else none := by kernel_rfl
theorem check_open_c (n : Nat) (s0 : ByteArray) (b1 : Bool) (j2 : Int) (s3 : ByteArray) (s4 : ByteArray) (b5 : Bool) (r6 : Rows) (s7 : ByteArray) (b8 : Bool) (j9 : Int) (s10 : ByteArray) (b11 : Bool) (r12 : Rows) (y : Bool × Unit) (h : check_open_v n s0 b1 j2 s3 s4 b5 r6 s7 b8 j9 s10 b11 r12 = some y) : Contract Tryz.prog 17 [AV.agg [aS s0, aB b1, aI j2, aS s3, aS s4, AV.sl b5 kdT r6 Right.no, aS s7, aB b8, aI j9, aS s10, AV.sl b11 kdL r12 Right.no]] [] (OSh.enc (OSh.plain (.b) []) y) :=
 ac (OSh.plain (.b) []) (check_open_σok n) Tryz.func17 (by decide) h
def check_Program_lv : Live := [(5, [5, 17, 18, 19], [16, 1000, 1001, 1002, 1003])]
def check_Program_σ (n : Nat) : Spec := (inst 13 [.agg [.s, .b, .i .i64, .s, .s, .sl kdT, .s, .b, .i .i64, .s, .sl kdL]] [] (OSh.plain (.tup [.s, .i .i64]) []) (fun x e => show_Rule_v n x.1.1 x.1.2.1 x.1.2.2.1 x.1.2.2.2.1 x.1.2.2.2.2.1 x.1.2.2.2.2.2.1.1 x.1.2.2.2.2.2.1.2 x.1.2.2.2.2.2.2.1 x.1.2.2.2.2.2.2.2.1 x.1.2.2.2.2.2.2.2.2.1 x.1.2.2.2.2.2.2.2.2.2.1 x.1.2.2.2.2.2.2.2.2.2.2.1.1 x.1.2.2.2.2.2.2.2.2.2.2.1.2) (inst 14 [.agg [.s, .b, .i .i64, .s, .s, .sl kdT, .s, .b, .i .i64, .s, .sl kdL]] [] (OSh.plain (.i .i64) []) (fun x e => check_place_v n x.1.1 x.1.2.1 x.1.2.2.1 x.1.2.2.2.1 x.1.2.2.2.2.1 x.1.2.2.2.2.2.1.1 x.1.2.2.2.2.2.1.2 x.1.2.2.2.2.2.2.1 x.1.2.2.2.2.2.2.2.1 x.1.2.2.2.2.2.2.2.2.1 x.1.2.2.2.2.2.2.2.2.2.1 x.1.2.2.2.2.2.2.2.2.2.2.1.1 x.1.2.2.2.2.2.2.2.2.2.2.1.2) (inst 15 [.agg [.s, .b, .i .i64, .s, .s, .sl kdT, .s, .b, .i .i64, .s, .sl kdL], .pl 1000 1000000000] [[.nilf, .arr [Kd.s, Kd.i .i64]]] (OSh.plain (.i .i64) [[.nilf, .arr [Kd.s, Kd.i .i64]]]) (fun x e => check_arity_nilf_v n x.1.1 x.1.2.1 x.1.2.2.1 x.1.2.2.2.1 x.1.2.2.2.2.1 x.1.2.2.2.2.2.1.1 x.1.2.2.2.2.2.1.2 x.1.2.2.2.2.2.2.1 x.1.2.2.2.2.2.2.2.1 x.1.2.2.2.2.2.2.2.2.1 x.1.2.2.2.2.2.2.2.2.2.1 x.1.2.2.2.2.2.2.2.2.2.2.1.1 x.1.2.2.2.2.2.2.2.2.2.2.1.2 e.1.2.1) (inst 16 [.agg [.s, .b, .i .i64, .s, .s, .sl kdT, .s, .b, .i .i64, .s, .sl kdL]] [] (OSh.plain (.i .i64) []) (fun x e => check_free_v n x.1.1 x.1.2.1 x.1.2.2.1 x.1.2.2.2.1 x.1.2.2.2.2.1 x.1.2.2.2.2.2.1.1 x.1.2.2.2.2.2.1.2 x.1.2.2.2.2.2.2.1 x.1.2.2.2.2.2.2.2.1 x.1.2.2.2.2.2.2.2.2.1 x.1.2.2.2.2.2.2.2.2.2.1 x.1.2.2.2.2.2.2.2.2.2.2.1.1 x.1.2.2.2.2.2.2.2.2.2.2.1.2) (inst 17 [.agg [.s, .b, .i .i64, .s, .s, .sl kdT, .s, .b, .i .i64, .s, .sl kdL]] [] (OSh.plain (.b) []) (fun x e => check_open_v n x.1.1 x.1.2.1 x.1.2.2.1 x.1.2.2.2.1 x.1.2.2.2.2.1 x.1.2.2.2.2.2.1.1 x.1.2.2.2.2.2.1.2 x.1.2.2.2.2.2.2.1 x.1.2.2.2.2.2.2.2.1 x.1.2.2.2.2.2.2.2.2.1 x.1.2.2.2.2.2.2.2.2.2.1 x.1.2.2.2.2.2.2.2.2.2.2.1.1 x.1.2.2.2.2.2.2.2.2.2.2.1.2) Spec.none)))))
theorem check_Program_σok (n : Nat) : SpecOk Tryz.prog (check_Program_σ n) := (inst_ok (fun x e y h => show_Rule_c n x.1.1 x.1.2.1 x.1.2.2.1 x.1.2.2.2.1 x.1.2.2.2.2.1 x.1.2.2.2.2.2.1.1 x.1.2.2.2.2.2.1.2 x.1.2.2.2.2.2.2.1 x.1.2.2.2.2.2.2.2.1 x.1.2.2.2.2.2.2.2.2.1 x.1.2.2.2.2.2.2.2.2.2.1 x.1.2.2.2.2.2.2.2.2.2.2.1.1 x.1.2.2.2.2.2.2.2.2.2.2.1.2 y h) (inst_ok (fun x e y h => check_place_c n x.1.1 x.1.2.1 x.1.2.2.1 x.1.2.2.2.1 x.1.2.2.2.2.1 x.1.2.2.2.2.2.1.1 x.1.2.2.2.2.2.1.2 x.1.2.2.2.2.2.2.1 x.1.2.2.2.2.2.2.2.1 x.1.2.2.2.2.2.2.2.2.1 x.1.2.2.2.2.2.2.2.2.2.1 x.1.2.2.2.2.2.2.2.2.2.2.1.1 x.1.2.2.2.2.2.2.2.2.2.2.1.2 y h) (inst_ok (fun x e y h => check_arity_nilf_c n x.1.1 x.1.2.1 x.1.2.2.1 x.1.2.2.2.1 x.1.2.2.2.2.1 x.1.2.2.2.2.2.1.1 x.1.2.2.2.2.2.1.2 x.1.2.2.2.2.2.2.1 x.1.2.2.2.2.2.2.2.1 x.1.2.2.2.2.2.2.2.2.1 x.1.2.2.2.2.2.2.2.2.2.1 x.1.2.2.2.2.2.2.2.2.2.2.1.1 x.1.2.2.2.2.2.2.2.2.2.2.1.2 e.1.2.1 y h) (inst_ok (fun x e y h => check_free_c n x.1.1 x.1.2.1 x.1.2.2.1 x.1.2.2.2.1 x.1.2.2.2.2.1 x.1.2.2.2.2.2.1.1 x.1.2.2.2.2.2.1.2 x.1.2.2.2.2.2.2.1 x.1.2.2.2.2.2.2.2.1 x.1.2.2.2.2.2.2.2.2.1 x.1.2.2.2.2.2.2.2.2.2.1 x.1.2.2.2.2.2.2.2.2.2.2.1.1 x.1.2.2.2.2.2.2.2.2.2.2.1.2 y h) (inst_ok (fun x e y h => check_open_c n x.1.1 x.1.2.1 x.1.2.2.1 x.1.2.2.2.1 x.1.2.2.2.2.1 x.1.2.2.2.2.2.1.1 x.1.2.2.2.2.2.1.2 x.1.2.2.2.2.2.2.1 x.1.2.2.2.2.2.2.2.1 x.1.2.2.2.2.2.2.2.2.1 x.1.2.2.2.2.2.2.2.2.2.1 x.1.2.2.2.2.2.2.2.2.2.2.1.1 x.1.2.2.2.2.2.2.2.2.2.2.1.2 y h) (SpecOk.none _))))))
def check_Program_Φ (n : Nat) : Orc := with_ Tryz.prog (check_Program_σ n) [] n 0 hsL
def check_Program_v (n : Nat) (b0 : Bool) (r1 : Rows) : Option ((Int × Int × Int × Unit) × Unit) :=
 DM.denFn tm (check_Program_Φ n) check_Program_lv n Tryz.f8 false [AV.sl b0 kdR r1 Right.no] [] (OSh.chk (OSh.plain (.tup [.i .i64, .i .i64, .i .i64]) []))
def check_Program_l5 (n : Nat) (b0 : Bool) (r1 : Rows) (i0 : Nat) (j7 : Int) (r8 : List (List DV)) : Option ((Int × Int × Int × Unit) × Unit) :=
 DM.loopFn tm (check_Program_Φ n) check_Program_lv n Tryz.f8 false [] (OSh.chk (OSh.plain (.tup [.i .i64, .i .i64, .i .i64]) [])) 5 [] i0 (St.mk ([Jk, Jk, Jk, Jk, Jk, AV.pl 16 1000000000, Jk, Jk, Jk, Jk, Jk, Jk, Jk, Jk, Jk, Jk, Jk, AV.sl b0 kdR r1 Right.no, AV.dv (DV.val (Value.int .i64 (↑(List.length r1) : Int))), aI j7] ++ jk 35) [(16, [AV.dv (DV.val Value.nilFunc), AV.arr [Kd.s, Kd.i .i64] r8])])
theorem check_Program_s5 (n : Nat) (b0 : Bool) (r1 : Rows) (i0 : Nat) (j7 : Int) (r8 : List (List DV)) : check_Program_l5 n b0 r1 (i0 + 1) j7 r8 =
 bif decide (j7 < (↑(List.length r1) : Int)) then
 if 0 ≤ j7 then
 if j7 < (↑(List.length r1) : Int) then
 obind (show_Rule_v n (Row.S (List.getD r1 (Int.toNat j7) []) 0) (Row.B (List.getD r1 (Int.toNat j7) []) 1) (Row.I (List.getD r1 (Int.toNat j7) []) 2) (Row.S (List.getD r1 (Int.toNat j7) []) 3) (Row.S (List.getD r1 (Int.toNat j7) []) 4) (Row.N (List.getD r1 (Int.toNat j7) []) 5) (Row.R (List.getD r1 (Int.toNat j7) []) 5) (Row.S (List.getD r1 (Int.toNat j7) []) 6) (Row.B (List.getD r1 (Int.toNat j7) []) 7) (Row.I (List.getD r1 (Int.toNat j7) []) 8) (Row.S (List.getD r1 (Int.toNat j7) []) 9) (Row.N (List.getD r1 (Int.toNat j7) []) 10) (Row.R (List.getD r1 (Int.toNat j7) []) 10)) fun y9 =>
 bif y9.fst.snd.fst != 0 then
 some ((100, (j7, (-1, ()))), ())
 else obind (check_place_v n (Row.S (List.getD r1 (Int.toNat j7) []) 0) (Row.B (List.getD r1 (Int.toNat j7) []) 1) (Row.I (List.getD r1 (Int.toNat j7) []) 2) (Row.S (List.getD r1 (Int.toNat j7) []) 3) (Row.S (List.getD r1 (Int.toNat j7) []) 4) (Row.N (List.getD r1 (Int.toNat j7) []) 5) (Row.R (List.getD r1 (Int.toNat j7) []) 5) (Row.S (List.getD r1 (Int.toNat j7) []) 6) (Row.B (List.getD r1 (Int.toNat j7) []) 7) (Row.I (List.getD r1 (Int.toNat j7) []) 8) (Row.S (List.getD r1 (Int.toNat j7) []) 9) (Row.N (List.getD r1 (Int.toNat j7) []) 10) (Row.R (List.getD r1 (Int.toNat j7) []) 10)) fun y10 =>
 bif decide (y10.fst > -2) then
 some ((101, (j7, (y10.fst, ()))), ())
 else obind (check_arity_nilf_v n (Row.S (List.getD r1 (Int.toNat j7) []) 0) (Row.B (List.getD r1 (Int.toNat j7) []) 1) (Row.I (List.getD r1 (Int.toNat j7) []) 2) (Row.S (List.getD r1 (Int.toNat j7) []) 3) (Row.S (List.getD r1 (Int.toNat j7) []) 4) (Row.N (List.getD r1 (Int.toNat j7) []) 5) (Row.R (List.getD r1 (Int.toNat j7) []) 5) (Row.S (List.getD r1 (Int.toNat j7) []) 6) (Row.B (List.getD r1 (Int.toNat j7) []) 7) (Row.I (List.getD r1 (Int.toNat j7) []) 8) (Row.S (List.getD r1 (Int.toNat j7) []) 9) (Row.N (List.getD r1 (Int.toNat j7) []) 10) (Row.R (List.getD r1 (Int.toNat j7) []) 10) r8) fun y11 =>
 bif decide (y11.fst > -2) then
 some ((102, (j7, (y11.fst, ()))), ())
 else obind (check_free_v n (Row.S (List.getD r1 (Int.toNat j7) []) 0) (Row.B (List.getD r1 (Int.toNat j7) []) 1) (Row.I (List.getD r1 (Int.toNat j7) []) 2) (Row.S (List.getD r1 (Int.toNat j7) []) 3) (Row.S (List.getD r1 (Int.toNat j7) []) 4) (Row.N (List.getD r1 (Int.toNat j7) []) 5) (Row.R (List.getD r1 (Int.toNat j7) []) 5) (Row.S (List.getD r1 (Int.toNat j7) []) 6) (Row.B (List.getD r1 (Int.toNat j7) []) 7) (Row.I (List.getD r1 (Int.toNat j7) []) 8) (Row.S (List.getD r1 (Int.toNat j7) []) 9) (Row.N (List.getD r1 (Int.toNat j7) []) 10) (Row.R (List.getD r1 (Int.toNat j7) []) 10)) fun y12 =>
 bif decide (y12.fst > -2) then
 some ((103, (j7, (y12.fst, ()))), ())
 else obind (check_open_v n (Row.S (List.getD r1 (Int.toNat j7) []) 0) (Row.B (List.getD r1 (Int.toNat j7) []) 1) (Row.I (List.getD r1 (Int.toNat j7) []) 2) (Row.S (List.getD r1 (Int.toNat j7) []) 3) (Row.S (List.getD r1 (Int.toNat j7) []) 4) (Row.N (List.getD r1 (Int.toNat j7) []) 5) (Row.R (List.getD r1 (Int.toNat j7) []) 5) (Row.S (List.getD r1 (Int.toNat j7) []) 6) (Row.B (List.getD r1 (Int.toNat j7) []) 7) (Row.I (List.getD r1 (Int.toNat j7) []) 8) (Row.S (List.getD r1 (Int.toNat j7) []) 9) (Row.N (List.getD r1 (Int.toNat j7) []) 10) (Row.R (List.getD r1 (Int.toNat j7) []) 10)) fun y13 =>
 bif y13.fst then
 some ((104, (j7, (-1, ()))), ())
 else check_Program_l5 n b0 r1 i0 (IntKind.wrap IntKind.i64 (j7 + 1)) y11.snd.fst.snd.fst
 else none
 else none
 else some ((0, (-1, (-1, ()))), ()) := by kernel_rfl
theorem check_Program_e (n : Nat) (b0 : Bool) (r1 : Rows) : check_Program_v n b0 r1 =
 bif decide ((↑(List.length r1) : Int) > 16) then
 some ((81, (-1, (-1, ()))), ())
 else check_Program_l5 n b0 r1 n 0 [] := by kernel_rfl
theorem check_Program_c (n : Nat) (b0 : Bool) (r1 : Rows) (y : (Int × Int × Int × Unit) × Unit) (h : check_Program_v n b0 r1 = some y) : Contract Tryz.prog 8 [AV.sl b0 kdR r1 Right.no] [] (OSh.enc (OSh.plain (.tup [.i .i64, .i .i64, .i .i64]) []) y) :=
 ac (OSh.plain (.tup [.i .i64, .i .i64, .i .i64]) []) (check_Program_σok n) Tryz.func8 (by decide) h
def law10_ask_lv : Live := []
def law10_ask_σ (n : Nat) : Spec := (inst 11 [.s] [] (OSh.plain (.tup [.sl kdR, .i .i64, .i .i64]) []) (fun x e => parse_Program_v n x.1) (inst 8 [.sl kdR] [] (OSh.plain (.tup [.i .i64, .i .i64, .i .i64]) []) (fun x e => check_Program_v n x.1.1 x.1.2) Spec.none))
theorem law10_ask_σok (n : Nat) : SpecOk Tryz.prog (law10_ask_σ n) := (inst_ok (fun x e y h => parse_Program_c n x.1 y h) (inst_ok (fun x e y h => check_Program_c n x.1.1 x.1.2 y h) (SpecOk.none _)))
def law10_ask_Φ (n : Nat) : Orc := with_ Tryz.prog (law10_ask_σ n) [] n 0 hsL
def law10_ask_v (n : Nat) (s0 : ByteArray) : Option ((Int × Int × Int × Unit) × Unit) :=
 DM.denFn tm (law10_ask_Φ n) law10_ask_lv n Tryz.f12 false [aS s0] [] (OSh.chk (OSh.plain (.tup [.i .i64, .i .i64, .i .i64]) []))
theorem law10_ask_e (n : Nat) (s0 : ByteArray) : law10_ask_v n s0 =
 obind (parse_Program_v n s0) fun y1 =>
 obind (check_Program_v n y1.fst.fst.fst y1.fst.fst.snd) fun y2 =>
 some ((y2.fst.fst, (y2.fst.snd.fst, (y2.fst.snd.snd.fst, ()))), ()) := by kernel_rfl
theorem law10_ask_c (n : Nat) (s0 : ByteArray) (y : (Int × Int × Int × Unit) × Unit) (h : law10_ask_v n s0 = some y) : Contract Tryz.prog 12 [aS s0] [] (OSh.enc (OSh.plain (.tup [.i .i64, .i .i64, .i .i64]) []) y) :=
 ac (OSh.plain (.tup [.i .i64, .i .i64, .i .i64]) []) (law10_ask_σok n) Tryz.func12 (by decide) h
def law10_live_lv : Live := []
def law10_live_σ (n : Nat) : Spec := (inst 12 [.s] [] (OSh.plain (.tup [.i .i64, .i .i64, .i .i64]) []) (fun x e => law10_ask_v n x.1) Spec.none)
theorem law10_live_σok (n : Nat) : SpecOk Tryz.prog (law10_live_σ n) := (inst_ok (fun x e y h => law10_ask_c n x.1 y h) (SpecOk.none _))
def law10_live_Φ (n : Nat) : Orc := with_ Tryz.prog (law10_live_σ n) [] n 0 hsL
def law10_live_v (n : Nat) : Option (Bool × Unit) :=
 DM.denFn tm (law10_live_Φ n) law10_live_lv n Tryz.f6 false [] [] (OSh.chk (OSh.plain (.b) []))
theorem law10_live_e (n : Nat) : law10_live_v n =
 obind (law10_ask_v n (ByteArray.mk #[65, 58, 32, 112, 40, 88, 41, 32, 58, 45, 32, 113, 40, 89, 41, 46])) fun y0 =>
 obind (law10_ask_v n (ByteArray.mk #[65, 58, 32, 112, 40, 41, 32, 58, 45, 32, 113, 40, 88, 41, 32, 97, 116, 32, 88, 46])) fun y1 =>
 obind (law10_ask_v n (ByteArray.mk #[65, 58, 32, 112, 40, 41, 32, 58, 45, 32, 114, 40, 88, 41, 44, 32, 113, 40, 88, 41, 32, 97, 116, 32, 88, 46])) fun y2 =>
 bif y0.fst.fst == 104 then
 bif y0.fst.snd.fst == 0 then
 bif y0.fst.snd.snd.fst == -1 then
 bif y1.fst.fst == 103 then
 bif y1.fst.snd.fst == 0 then
 bif y1.fst.snd.snd.fst == 0 then
 some (y2.fst.fst == 0, ())
 else some (false, ())
 else some (false, ())
 else some (false, ())
 else some (false, ())
 else some (false, ())
 else some (false, ()) := by kernel_rfl
theorem law10_live_c (n : Nat) (y : Bool × Unit) (h : law10_live_v n = some y) : Contract Tryz.prog 6 [] [] (OSh.enc (OSh.plain (.b) []) y) :=
 ac (OSh.plain (.b) []) (law10_live_σok n) Tryz.func6 (by decide) h
def ref09_letter_lv : Live := []
def ref09_letter_σ (n : Nat) : Spec := Spec.none
theorem ref09_letter_σok (n : Nat) : SpecOk Tryz.prog (ref09_letter_σ n) := (SpecOk.none _)
def ref09_letter_Φ (n : Nat) : Orc := with_ Tryz.prog (ref09_letter_σ n) [] n 0 hsL
def ref09_letter_v (n : Nat) (j0 : Int) (j1 : Int) (j2 : Int) : Option (Bool × Unit) :=
 DM.denFn tm (ref09_letter_Φ n) ref09_letter_lv n Tryz.f89 false [AV.dv (DV.val (Value.int IntKind.u8 j0)), AV.dv (DV.val (Value.int IntKind.u8 j1)), AV.dv (DV.val (Value.int IntKind.u8 j2))] [] (OSh.chk (OSh.plain (.b) []))
theorem ref09_letter_e (n : Nat) (j0 : Int) (j1 : Int) (j2 : Int) : ref09_letter_v n j0 j1 j2 =
 bif decide (j0 ≥ j1) then
 some (decide (j0 ≤ j2), ())
 else some (false, ()) := by kernel_rfl
theorem ref09_letter_c (n : Nat) (j0 : Int) (j1 : Int) (j2 : Int) (y : Bool × Unit) (h : ref09_letter_v n j0 j1 j2 = some y) : Contract Tryz.prog 89 [AV.dv (DV.val (Value.int IntKind.u8 j0)), AV.dv (DV.val (Value.int IntKind.u8 j1)), AV.dv (DV.val (Value.int IntKind.u8 j2))] [] (OSh.enc (OSh.plain (.b) []) y) :=
 ac (OSh.plain (.b) []) (ref09_letter_σok n) Tryz.func89 (by decide) h
def ref07_small_lv : Live := []
def ref07_small_σ (n : Nat) : Spec := Spec.none
theorem ref07_small_σok (n : Nat) : SpecOk Tryz.prog (ref07_small_σ n) := (SpecOk.none _)
def ref07_small_Φ (n : Nat) : Orc := with_ Tryz.prog (ref07_small_σ n) [] n 0 hsL
def ref07_small_v (n : Nat) (j0 : Int) : Option (Bool × Unit) :=
 DM.denFn tm (ref07_small_Φ n) ref07_small_lv n Tryz.f94 false [AV.dv (DV.val (Value.int IntKind.u8 j0))] [] (OSh.chk (OSh.plain (.b) []))
theorem ref07_small_e (n : Nat) (j0 : Int) : ref07_small_v n j0 =
 bif decide (j0 ≥ 97) then
 some (decide (j0 ≤ 122), ())
 else some (false, ()) := by kernel_rfl
theorem ref07_small_c (n : Nat) (j0 : Int) (y : Bool × Unit) (h : ref07_small_v n j0 = some y) : Contract Tryz.prog 94 [AV.dv (DV.val (Value.int IntKind.u8 j0))] [] (OSh.enc (OSh.plain (.b) []) y) :=
 ac (OSh.plain (.b) []) (ref07_small_σok n) Tryz.func94 (by decide) h
def ref07_great_lv : Live := []
def ref07_great_σ (n : Nat) : Spec := Spec.none
theorem ref07_great_σok (n : Nat) : SpecOk Tryz.prog (ref07_great_σ n) := (SpecOk.none _)
def ref07_great_Φ (n : Nat) : Orc := with_ Tryz.prog (ref07_great_σ n) [] n 0 hsL
def ref07_great_v (n : Nat) (j0 : Int) : Option (Bool × Unit) :=
 DM.denFn tm (ref07_great_Φ n) ref07_great_lv n Tryz.f95 false [AV.dv (DV.val (Value.int IntKind.u8 j0))] [] (OSh.chk (OSh.plain (.b) []))
theorem ref07_great_e (n : Nat) (j0 : Int) : ref07_great_v n j0 =
 bif decide (j0 ≥ 65) then
 some (decide (j0 ≤ 90), ())
 else some (false, ()) := by kernel_rfl
theorem ref07_great_c (n : Nat) (j0 : Int) (y : Bool × Unit) (h : ref07_great_v n j0 = some y) : Contract Tryz.prog 95 [AV.dv (DV.val (Value.int IntKind.u8 j0))] [] (OSh.enc (OSh.plain (.b) []) y) :=
 ac (OSh.plain (.b) []) (ref07_great_σok n) Tryz.func95 (by decide) h
def ref07_digit_lv : Live := []
def ref07_digit_σ (n : Nat) : Spec := Spec.none
theorem ref07_digit_σok (n : Nat) : SpecOk Tryz.prog (ref07_digit_σ n) := (SpecOk.none _)
def ref07_digit_Φ (n : Nat) : Orc := with_ Tryz.prog (ref07_digit_σ n) [] n 0 hsL
def ref07_digit_v (n : Nat) (j0 : Int) : Option (Bool × Unit) :=
 DM.denFn tm (ref07_digit_Φ n) ref07_digit_lv n Tryz.f96 false [AV.dv (DV.val (Value.int IntKind.u8 j0))] [] (OSh.chk (OSh.plain (.b) []))
theorem ref07_digit_e (n : Nat) (j0 : Int) : ref07_digit_v n j0 =
 bif decide (j0 ≥ 48) then
 some (decide (j0 ≤ 57), ())
 else some (false, ()) := by kernel_rfl
theorem ref07_digit_c (n : Nat) (j0 : Int) (y : Bool × Unit) (h : ref07_digit_v n j0 = some y) : Contract Tryz.prog 96 [AV.dv (DV.val (Value.int IntKind.u8 j0))] [] (OSh.enc (OSh.plain (.b) []) y) :=
 ac (OSh.plain (.b) []) (ref07_digit_σok n) Tryz.func96 (by decide) h
def ref07_Inner_lv : Live := []
def ref07_Inner_σ (n : Nat) : Spec := (inst 94 [.i IntKind.u8] [] (OSh.plain (.b) []) (fun x e => ref07_small_v n x.1) (inst 95 [.i IntKind.u8] [] (OSh.plain (.b) []) (fun x e => ref07_great_v n x.1) (inst 96 [.i IntKind.u8] [] (OSh.plain (.b) []) (fun x e => ref07_digit_v n x.1) Spec.none)))
theorem ref07_Inner_σok (n : Nat) : SpecOk Tryz.prog (ref07_Inner_σ n) := (inst_ok (fun x e y h => ref07_small_c n x.1 y h) (inst_ok (fun x e y h => ref07_great_c n x.1 y h) (inst_ok (fun x e y h => ref07_digit_c n x.1 y h) (SpecOk.none _))))
def ref07_Inner_Φ (n : Nat) : Orc := with_ Tryz.prog (ref07_Inner_σ n) [] n 0 hsL
def ref07_Inner_v (n : Nat) (j0 : Int) : Option (Bool × Unit) :=
 DM.denFn tm (ref07_Inner_Φ n) ref07_Inner_lv n Tryz.f90 false [AV.dv (DV.val (Value.int IntKind.u8 j0))] [] (OSh.chk (OSh.plain (.b) []))
theorem ref07_Inner_e (n : Nat) (j0 : Int) : ref07_Inner_v n j0 =
 obind (ref07_small_v n j0) fun y1 =>
 bif y1.fst then
 some (true, ())
 else obind (ref07_great_v n j0) fun y2 =>
 bif y2.fst then
 some (true, ())
 else obind (ref07_digit_v n j0) fun y3 =>
 bif y3.fst then
 some (true, ())
 else some (j0 == 95, ()) := by kernel_rfl
theorem ref07_Inner_c (n : Nat) (j0 : Int) (y : Bool × Unit) (h : ref07_Inner_v n j0 = some y) : Contract Tryz.prog 90 [AV.dv (DV.val (Value.int IntKind.u8 j0))] [] (OSh.enc (OSh.plain (.b) []) y) :=
 ac (OSh.plain (.b) []) (ref07_Inner_σok n) Tryz.func90 (by decide) h
def ref09_named_lv : Live := [(4, [0, 7], [1000, 1001, 1002, 1003])]
def ref09_named_σ (n : Nat) : Spec := (inst 89 [.i IntKind.u8, .i IntKind.u8, .i IntKind.u8] [] (OSh.plain (.b) []) (fun x e => ref09_letter_v n x.1 x.2.1 x.2.2.1) (inst 90 [.i IntKind.u8] [] (OSh.plain (.b) []) (fun x e => ref07_Inner_v n x.1) Spec.none))
theorem ref09_named_σok (n : Nat) : SpecOk Tryz.prog (ref09_named_σ n) := (inst_ok (fun x e y h => ref09_letter_c n x.1 x.2.1 x.2.2.1 y h) (inst_ok (fun x e y h => ref07_Inner_c n x.1 y h) (SpecOk.none _)))
def ref09_named_Φ (n : Nat) : Orc := with_ Tryz.prog (ref09_named_σ n) [] n 0 hsL
def ref09_named_v (n : Nat) (s0 : ByteArray) (j1 : Int) (j2 : Int) : Option (Bool × Unit) :=
 DM.denFn tm (ref09_named_Φ n) ref09_named_lv n Tryz.f69 false [aS s0, AV.dv (DV.val (Value.int IntKind.u8 j1)), AV.dv (DV.val (Value.int IntKind.u8 j2))] [] (OSh.chk (OSh.plain (.b) []))
def ref09_named_l4 (n : Nat) (s0 : ByteArray) (j1 : Int) (j2 : Int) (i0 : Nat) (j5 : Int) : Option (Bool × Unit) :=
 DM.loopFn tm (ref09_named_Φ n) ref09_named_lv n Tryz.f69 false [] (OSh.chk (OSh.plain (.b) [])) 4 [] i0 (St.mk ([aS s0, Jk, Jk, Jk, Jk, Jk, Jk, aI j5] ++ jk 27) [])
theorem ref09_named_s4 (n : Nat) (s0 : ByteArray) (j1 : Int) (j2 : Int) (i0 : Nat) (j5 : Int) : ref09_named_l4 n s0 j1 j2 (i0 + 1) j5 =
 bif decide (j5 < (↑(ByteArray.size s0) : Int)) then
 if 0 ≤ j5 then
 if j5 < (↑(ByteArray.size s0) : Int) then
 obind (ref07_Inner_v n (bt s0 j5)) fun y6 =>
 bif !y6.fst then
 some (false, ())
 else ref09_named_l4 n s0 j1 j2 i0 (IntKind.wrap IntKind.i64 (j5 + 1))
 else none
 else none
 else some (true, ()) := by kernel_rfl
theorem ref09_named_e (n : Nat) (s0 : ByteArray) (j1 : Int) (j2 : Int) : ref09_named_v n s0 j1 j2 =
 bif decide ((↑(ByteArray.size s0) : Int) < 1) then
 some (false, ())
 else bif decide ((↑(ByteArray.size s0) : Int) > 32) then
 some (false, ())
 else if 0 < (↑(ByteArray.size s0) : Int) then
 obind (ref09_letter_v n (bt s0 0) j1 j2) fun y3 =>
 bif !y3.fst then
 some (false, ())
 else ref09_named_l4 n s0 j1 j2 n 0
 else none := by kernel_rfl
theorem ref09_named_c (n : Nat) (s0 : ByteArray) (j1 : Int) (j2 : Int) (y : Bool × Unit) (h : ref09_named_v n s0 j1 j2 = some y) : Contract Tryz.prog 69 [aS s0, AV.dv (DV.val (Value.int IntKind.u8 j1)), AV.dv (DV.val (Value.int IntKind.u8 j2))] [] (OSh.enc (OSh.plain (.b) []) y) :=
 ac (OSh.plain (.b) []) (ref09_named_σok n) Tryz.func69 (by decide) h
def ref09_Digits_lv : Live := [(3, [0, 3, 4], [1000, 1001, 1002, 1003])]
def ref09_Digits_σ (n : Nat) : Spec := Spec.none
theorem ref09_Digits_σok (n : Nat) : SpecOk Tryz.prog (ref09_Digits_σ n) := (SpecOk.none _)
def ref09_Digits_Φ (n : Nat) : Orc := with_ Tryz.prog (ref09_Digits_σ n) [] n 0 hsL
def ref09_Digits_v (n : Nat) (j0 : Int) : Option (ByteArray × Unit) :=
 DM.denFn tm (ref09_Digits_Φ n) ref09_Digits_lv n Tryz.f70 false [aI j0] [] (OSh.chk (OSh.plain (.s) []))
def ref09_Digits_l3 (n : Nat) (j0 : Int) (i0 : Nat) (s1 : ByteArray) (j2 : Int) : Option (ByteArray × Unit) :=
 DM.loopFn tm (ref09_Digits_Φ n) ref09_Digits_lv n Tryz.f70 false [] (OSh.chk (OSh.plain (.s) [])) 3 [] i0 (St.mk ([aI j0, Jk, Jk, aS s1, aI j2] ++ jk 28) [])
theorem ref09_Digits_s3 (n : Nat) (j0 : Int) (i0 : Nat) (s1 : ByteArray) (j2 : Int) : ref09_Digits_l3 n j0 (i0 + 1) s1 j2 =
 bif j2 != 0 then
 bif decide (Int.tmod j2 10 < 0) then
 if ByteArray.size (bytesOf [[DV.val (Value.int IntKind.u8 (IntKind.wrap IntKind.u8 (IntKind.wrap IntKind.i64 (48 + IntKind.wrap IntKind.i64 (0 - Int.tmod j2 10)))))]]) + ByteArray.size s1 < 4611686018427387904 then
 ref09_Digits_l3 n j0 i0 (bytesOf [[DV.val (Value.int IntKind.u8 (IntKind.wrap IntKind.u8 (IntKind.wrap IntKind.i64 (48 + IntKind.wrap IntKind.i64 (0 - Int.tmod j2 10)))))]] ++ s1) (IntKind.wrap IntKind.i64 (Int.tdiv j2 10))
 else none
 else if ByteArray.size (bytesOf [[DV.val (Value.int IntKind.u8 (IntKind.wrap IntKind.u8 (IntKind.wrap IntKind.i64 (48 + Int.tmod j2 10))))]]) + ByteArray.size s1 < 4611686018427387904 then
 ref09_Digits_l3 n j0 i0 (bytesOf [[DV.val (Value.int IntKind.u8 (IntKind.wrap IntKind.u8 (IntKind.wrap IntKind.i64 (48 + Int.tmod j2 10))))]] ++ s1) (IntKind.wrap IntKind.i64 (Int.tdiv j2 10))
 else none
 else bif s1 == ByteArray.mk #[] then
 bif decide (Int.tmod j2 10 < 0) then
 if ByteArray.size (bytesOf [[DV.val (Value.int IntKind.u8 (IntKind.wrap IntKind.u8 (IntKind.wrap IntKind.i64 (48 + IntKind.wrap IntKind.i64 (0 - Int.tmod j2 10)))))]]) + ByteArray.size s1 < 4611686018427387904 then
 ref09_Digits_l3 n j0 i0 (bytesOf [[DV.val (Value.int IntKind.u8 (IntKind.wrap IntKind.u8 (IntKind.wrap IntKind.i64 (48 + IntKind.wrap IntKind.i64 (0 - Int.tmod j2 10)))))]] ++ s1) (IntKind.wrap IntKind.i64 (Int.tdiv j2 10))
 else none
 else if ByteArray.size (bytesOf [[DV.val (Value.int IntKind.u8 (IntKind.wrap IntKind.u8 (IntKind.wrap IntKind.i64 (48 + Int.tmod j2 10))))]]) + ByteArray.size s1 < 4611686018427387904 then
 ref09_Digits_l3 n j0 i0 (bytesOf [[DV.val (Value.int IntKind.u8 (IntKind.wrap IntKind.u8 (IntKind.wrap IntKind.i64 (48 + Int.tmod j2 10))))]] ++ s1) (IntKind.wrap IntKind.i64 (Int.tdiv j2 10))
 else none
 else bif decide (j0 < 0) then
 if 1 + ByteArray.size s1 < 4611686018427387904 then
 some (ByteArray.mk #[45] ++ s1, ())
 else none
 else some (s1, ()) := by kernel_rfl
theorem ref09_Digits_e (n : Nat) (j0 : Int) : ref09_Digits_v n j0 =
 ref09_Digits_l3 n j0 n (ByteArray.mk #[]) j0 := by kernel_rfl
theorem ref09_Digits_c (n : Nat) (j0 : Int) (y : ByteArray × Unit) (h : ref09_Digits_v n j0 = some y) : Contract Tryz.prog 70 [aI j0] [] (OSh.enc (OSh.plain (.s) []) y) :=
 ac (OSh.plain (.s) []) (ref09_Digits_σok n) Tryz.func70 (by decide) h
end
end Go.Den
namespace Go.Den
noncomputable section
open Go.Proofs
set_option maxRecDepth 100000
def ref07_Plain_lv : Live := []
def ref07_Plain_σ (n : Nat) : Spec := Spec.none
theorem ref07_Plain_σok (n : Nat) : SpecOk Tryz.prog (ref07_Plain_σ n) := (SpecOk.none _)
def ref07_Plain_Φ (n : Nat) : Orc := with_ Tryz.prog (ref07_Plain_σ n) [] n 0 hsL
def ref07_Plain_v (n : Nat) (j0 : Int) : Option (Bool × Unit) :=
 DM.denFn tm (ref07_Plain_Φ n) ref07_Plain_lv n Tryz.f71 false [AV.dv (DV.val (Value.int IntKind.u8 j0))] [] (OSh.chk (OSh.plain (.b) []))
theorem ref07_Plain_e (n : Nat) (j0 : Int) : ref07_Plain_v n j0 =
 bif decide (j0 ≥ 32) then
 bif decide (j0 ≤ 126) then
 bif j0 != 34 then
 some (j0 != 92, ())
 else some (false, ())
 else some (false, ())
 else some (false, ()) := by kernel_rfl
theorem ref07_Plain_c (n : Nat) (j0 : Int) (y : Bool × Unit) (h : ref07_Plain_v n j0 = some y) : Contract Tryz.prog 71 [AV.dv (DV.val (Value.int IntKind.u8 j0))] [] (OSh.enc (OSh.plain (.b) []) y) :=
 ac (OSh.plain (.b) []) (ref07_Plain_σok n) Tryz.func71 (by decide) h
def ref08_Kept_lv : Live := []
def ref08_Kept_σ (n : Nat) : Spec := Spec.none
theorem ref08_Kept_σok (n : Nat) : SpecOk Tryz.prog (ref08_Kept_σ n) := (SpecOk.none _)
def ref08_Kept_Φ (n : Nat) : Orc := with_ Tryz.prog (ref08_Kept_σ n) [] n 0 hsL
def ref08_Kept_v (n : Nat) (s0 : ByteArray) : Option (Bool × Unit) :=
 DM.denFn tm (ref08_Kept_Φ n) ref08_Kept_lv n Tryz.f91 false [aS s0] [] (OSh.chk (OSh.plain (.b) []))
theorem ref08_Kept_e (n : Nat) (s0 : ByteArray) : ref08_Kept_v n s0 =
 bif s0 == ByteArray.mk #[115, 97, 121, 115] then
 some (true, ())
 else bif s0 == ByteArray.mk #[116, 111] then
 some (true, ())
 else some (s0 == ByteArray.mk #[97, 116], ()) := by kernel_rfl
theorem ref08_Kept_c (n : Nat) (s0 : ByteArray) (y : Bool × Unit) (h : ref08_Kept_v n s0 = some y) : Contract Tryz.prog 91 [aS s0] [] (OSh.enc (OSh.plain (.b) []) y) :=
 ac (OSh.plain (.b) []) (ref08_Kept_σok n) Tryz.func91 (by decide) h
def ref09_Word_lv : Live := []
def ref09_Word_σ (n : Nat) : Spec := (inst 69 [.s, .i IntKind.u8, .i IntKind.u8] [] (OSh.plain (.b) []) (fun x e => ref09_named_v n x.1 x.2.1 x.2.2.1) (inst 91 [.s] [] (OSh.plain (.b) []) (fun x e => ref08_Kept_v n x.1) Spec.none))
theorem ref09_Word_σok (n : Nat) : SpecOk Tryz.prog (ref09_Word_σ n) := (inst_ok (fun x e y h => ref09_named_c n x.1 x.2.1 x.2.2.1 y h) (inst_ok (fun x e y h => ref08_Kept_c n x.1 y h) (SpecOk.none _)))
def ref09_Word_Φ (n : Nat) : Orc := with_ Tryz.prog (ref09_Word_σ n) [] n 0 hsL
def ref09_Word_v (n : Nat) (s0 : ByteArray) : Option (Bool × Unit) :=
 DM.denFn tm (ref09_Word_Φ n) ref09_Word_lv n Tryz.f72 false [aS s0] [] (OSh.chk (OSh.plain (.b) []))
theorem ref09_Word_e (n : Nat) (s0 : ByteArray) : ref09_Word_v n s0 =
 obind (ref09_named_v n s0 97 122) fun y1 =>
 bif y1.fst then
 obind (ref08_Kept_v n s0) fun y2 =>
 some (!y2.fst, ())
 else some (false, ()) := by kernel_rfl
theorem ref09_Word_c (n : Nat) (s0 : ByteArray) (y : Bool × Unit) (h : ref09_Word_v n s0 = some y) : Contract Tryz.prog 72 [aS s0] [] (OSh.enc (OSh.plain (.b) []) y) :=
 ac (OSh.plain (.b) []) (ref09_Word_σok n) Tryz.func72 (by decide) h
def ref09_Term_lv : Live := [(13, [4, 5], [4, 1000, 1001, 1002, 1003])]
def ref09_Term_σ (n : Nat) : Spec := (inst 69 [.s, .i IntKind.u8, .i IntKind.u8] [] (OSh.plain (.b) []) (fun x e => ref09_named_v n x.1 x.2.1 x.2.2.1) (inst 70 [.i .i64] [] (OSh.plain (.s) []) (fun x e => ref09_Digits_v n x.1) (inst 71 [.i IntKind.u8] [] (OSh.plain (.b) []) (fun x e => ref07_Plain_v n x.1) (inst 72 [.s] [] (OSh.plain (.b) []) (fun x e => ref09_Word_v n x.1) Spec.none))))
theorem ref09_Term_σok (n : Nat) : SpecOk Tryz.prog (ref09_Term_σ n) := (inst_ok (fun x e y h => ref09_named_c n x.1 x.2.1 x.2.2.1 y h) (inst_ok (fun x e y h => ref09_Digits_c n x.1 y h) (inst_ok (fun x e y h => ref07_Plain_c n x.1 y h) (inst_ok (fun x e y h => ref09_Word_c n x.1 y h) (SpecOk.none _)))))
def ref09_Term_Φ (n : Nat) : Orc := with_ Tryz.prog (ref09_Term_σ n) [] n 0 hsL
def ref09_Term_v (n : Nat) (s0 : ByteArray) (b1 : Bool) (j2 : Int) (s3 : ByteArray) : Option ((ByteArray × Int × Unit) × Unit) :=
 DM.denFn tm (ref09_Term_Φ n) ref09_Term_lv n Tryz.f43 false [AV.agg [aS s0, aB b1, aI j2, aS s3]] [] (OSh.chk (OSh.plain (.tup [.s, .i .i64]) []))
def ref09_Term_l13 (n : Nat) (s0 : ByteArray) (b1 : Bool) (j2 : Int) (s3 : ByteArray) (i0 : Nat) (j8 : Int) : Option ((ByteArray × Int × Unit) × Unit) :=
 DM.loopFn tm (ref09_Term_Φ n) ref09_Term_lv n Tryz.f43 false [] (OSh.chk (OSh.plain (.tup [.s, .i .i64]) [])) 13 [] i0 (St.mk ([Jk, Jk, Jk, Jk, AV.pl 4 0, aI j8] ++ jk 62) [(4, [aB b1, aI j2, aS s3])])
theorem ref09_Term_s13 (n : Nat) (s0 : ByteArray) (b1 : Bool) (j2 : Int) (s3 : ByteArray) (i0 : Nat) (j8 : Int) : ref09_Term_l13 n s0 b1 j2 s3 (i0 + 1) j8 =
 bif decide (j8 < (↑(ByteArray.size s3) : Int)) then
 if 0 ≤ j8 then
 if j8 < (↑(ByteArray.size s3) : Int) then
 obind (ref07_Plain_v n (bt s3 j8)) fun y9 =>
 bif !y9.fst then
 some ((ByteArray.mk #[], (100, ())), ())
 else ref09_Term_l13 n s0 b1 j2 s3 i0 (IntKind.wrap IntKind.i64 (j8 + 1))
 else none
 else none
 else obind (ref09_Word_v n s3) fun y10 =>
 bif y10.fst then
 some ((s3, (0, ())), ())
 else if 1 + ByteArray.size s3 < 4611686018427387904 then
 if ByteArray.size (ByteArray.mk #[34] ++ s3) + 1 < 4611686018427387904 then
 some ((ByteArray.mk #[34] ++ s3 ++ ByteArray.mk #[34], (0, ())), ())
 else none
 else none := by kernel_rfl
theorem ref09_Term_e (n : Nat) (s0 : ByteArray) (b1 : Bool) (j2 : Int) (s3 : ByteArray) : ref09_Term_v n s0 b1 j2 s3 =
 bif !s0 == ByteArray.mk #[] then
 bif !(b1 == false && (j2 == 0 && (s3 == ByteArray.mk #[] && true))) then
 some ((ByteArray.mk #[], (100, ())), ())
 else obind (ref09_named_v n s0 65 90) fun y4 =>
 bif !y4.fst then
 some ((ByteArray.mk #[], (100, ())), ())
 else some ((s0, (0, ())), ())
 else bif b1 then
 bif !s3 == ByteArray.mk #[] then
 some ((ByteArray.mk #[], (100, ())), ())
 else obind (ref09_Digits_v n j2) fun y5 =>
 some ((y5.fst, (0, ())), ())
 else bif j2 != 0 then
 some ((ByteArray.mk #[], (100, ())), ())
 else bif decide ((↑(ByteArray.size s3) : Int) < 1) then
 some ((ByteArray.mk #[], (100, ())), ())
 else bif decide ((↑(ByteArray.size s3) : Int) > 32) then
 some ((ByteArray.mk #[], (100, ())), ())
 else ref09_Term_l13 n s0 b1 j2 s3 n 0 := by kernel_rfl
theorem ref09_Term_c (n : Nat) (s0 : ByteArray) (b1 : Bool) (j2 : Int) (s3 : ByteArray) (y : (ByteArray × Int × Unit) × Unit) (h : ref09_Term_v n s0 b1 j2 s3 = some y) : Contract Tryz.prog 43 [AV.agg [aS s0, aB b1, aI j2, aS s3]] [] (OSh.enc (OSh.plain (.tup [.s, .i .i64]) []) y) :=
 ac (OSh.plain (.tup [.s, .i .i64]) []) (ref09_Term_σok n) Tryz.func43 (by decide) h
def ref09_atom_lv : Live := [(5, [1, 6, 7], [1000, 1001, 1002, 1003])]
def ref09_atom_σ (n : Nat) : Spec := (inst 72 [.s] [] (OSh.plain (.b) []) (fun x e => ref09_Word_v n x.1) (inst 43 [.agg [.s, .b, .i .i64, .s]] [] (OSh.plain (.tup [.s, .i .i64]) []) (fun x e => ref09_Term_v n x.1.1 x.1.2.1 x.1.2.2.1 x.1.2.2.2.1) Spec.none))
theorem ref09_atom_σok (n : Nat) : SpecOk Tryz.prog (ref09_atom_σ n) := (inst_ok (fun x e y h => ref09_Word_c n x.1 y h) (inst_ok (fun x e y h => ref09_Term_c n x.1.1 x.1.2.1 x.1.2.2.1 x.1.2.2.2.1 y h) (SpecOk.none _)))
def ref09_atom_Φ (n : Nat) : Orc := with_ Tryz.prog (ref09_atom_σ n) [] n 0 hsL
def ref09_atom_v (n : Nat) (s0 : ByteArray) (b1 : Bool) (r2 : Rows) : Option ((ByteArray × Bool × Unit) × Unit) :=
 DM.denFn tm (ref09_atom_Φ n) ref09_atom_lv n Tryz.f44 false [aS s0, AV.sl b1 kdT r2 Right.no] [] (OSh.chk (OSh.plain (.tup [.s, .b]) []))
def ref09_atom_l5 (n : Nat) (s0 : ByteArray) (b1 : Bool) (r2 : Rows) (i0 : Nat) (s5 : ByteArray) (j6 : Int) : Option ((ByteArray × Bool × Unit) × Unit) :=
 DM.loopFn tm (ref09_atom_Φ n) ref09_atom_lv n Tryz.f44 false [] (OSh.chk (OSh.plain (.tup [.s, .b]) [])) 5 [] i0 (St.mk ([Jk, AV.sl b1 kdT r2 Right.no, Jk, Jk, Jk, Jk, aS s5, aI j6] ++ jk 37) [])
theorem ref09_atom_s5 (n : Nat) (s0 : ByteArray) (b1 : Bool) (r2 : Rows) (i0 : Nat) (s5 : ByteArray) (j6 : Int) : ref09_atom_l5 n s0 b1 r2 (i0 + 1) s5 j6 =
 bif decide (j6 < (↑(List.length r2) : Int)) then
 if 0 ≤ j6 then
 if j6 < (↑(List.length r2) : Int) then
 obind (ref09_Term_v n (Row.S (List.getD r2 (Int.toNat j6) []) 0) (Row.B (List.getD r2 (Int.toNat j6) []) 1) (Row.I (List.getD r2 (Int.toNat j6) []) 2) (Row.S (List.getD r2 (Int.toNat j6) []) 3)) fun y7 =>
 bif y7.fst.snd.fst != 0 then
 some ((ByteArray.mk #[], (false, ())), ())
 else bif decide (j6 > 0) then
 if ByteArray.size s5 + 2 < 4611686018427387904 then
 if ByteArray.size (s5 ++ ByteArray.mk #[44, 32]) + ByteArray.size y7.fst.fst < 4611686018427387904 then
 ref09_atom_l5 n s0 b1 r2 i0 (s5 ++ ByteArray.mk #[44, 32] ++ y7.fst.fst) (IntKind.wrap IntKind.i64 (j6 + 1))
 else none
 else none
 else if ByteArray.size s5 + ByteArray.size y7.fst.fst < 4611686018427387904 then
 ref09_atom_l5 n s0 b1 r2 i0 (s5 ++ y7.fst.fst) (IntKind.wrap IntKind.i64 (j6 + 1))
 else none
 else none
 else none
 else if ByteArray.size s5 + 1 < 4611686018427387904 then
 some ((s5 ++ ByteArray.mk #[41], (true, ())), ())
 else none := by kernel_rfl
theorem ref09_atom_e (n : Nat) (s0 : ByteArray) (b1 : Bool) (r2 : Rows) : ref09_atom_v n s0 b1 r2 =
 obind (ref09_Word_v n s0) fun y3 =>
 bif !y3.fst then
 some ((ByteArray.mk #[], (false, ())), ())
 else bif decide ((↑(List.length r2) : Int) > 4) then
 some ((ByteArray.mk #[], (false, ())), ())
 else if ByteArray.size s0 + 1 < 4611686018427387904 then
 ref09_atom_l5 n s0 b1 r2 n (s0 ++ ByteArray.mk #[40]) 0
 else none := by kernel_rfl
theorem ref09_atom_c (n : Nat) (s0 : ByteArray) (b1 : Bool) (r2 : Rows) (y : (ByteArray × Bool × Unit) × Unit) (h : ref09_atom_v n s0 b1 r2 = some y) : Contract Tryz.prog 44 [aS s0, AV.sl b1 kdT r2 Right.no] [] (OSh.enc (OSh.plain (.tup [.s, .b]) []) y) :=
 ac (OSh.plain (.tup [.s, .b]) []) (ref09_atom_σok n) Tryz.func44 (by decide) h
def ref09_none_lv : Live := []
def ref09_none_σ (n : Nat) : Spec := Spec.none
theorem ref09_none_σok (n : Nat) : SpecOk Tryz.prog (ref09_none_σ n) := (SpecOk.none _)
def ref09_none_Φ (n : Nat) : Orc := with_ Tryz.prog (ref09_none_σ n) [] n 0 hsL
def ref09_none_v (n : Nat) (s0 : ByteArray) (b1 : Bool) (j2 : Int) (s3 : ByteArray) : Option (Bool × Unit) :=
 DM.denFn tm (ref09_none_Φ n) ref09_none_lv n Tryz.f73 false [AV.agg [aS s0, aB b1, aI j2, aS s3]] [] (OSh.chk (OSh.plain (.b) []))
theorem ref09_none_e (n : Nat) (s0 : ByteArray) (b1 : Bool) (j2 : Int) (s3 : ByteArray) : ref09_none_v n s0 b1 j2 s3 =
 some (s0 == ByteArray.mk #[] && (b1 == false && (j2 == 0 && (s3 == ByteArray.mk #[] && true))), ()) := by kernel_rfl
theorem ref09_none_c (n : Nat) (s0 : ByteArray) (b1 : Bool) (j2 : Int) (s3 : ByteArray) (y : Bool × Unit) (h : ref09_none_v n s0 b1 j2 s3 = some y) : Contract Tryz.prog 73 [AV.agg [aS s0, aB b1, aI j2, aS s3]] [] (OSh.enc (OSh.plain (.b) []) y) :=
 ac (OSh.plain (.b) []) (ref09_none_σok n) Tryz.func73 (by decide) h
def ref09_maybe_lv : Live := []
def ref09_maybe_σ (n : Nat) : Spec := (inst 73 [.agg [.s, .b, .i .i64, .s]] [] (OSh.plain (.b) []) (fun x e => ref09_none_v n x.1.1 x.1.2.1 x.1.2.2.1 x.1.2.2.2.1) (inst 43 [.agg [.s, .b, .i .i64, .s]] [] (OSh.plain (.tup [.s, .i .i64]) []) (fun x e => ref09_Term_v n x.1.1 x.1.2.1 x.1.2.2.1 x.1.2.2.2.1) Spec.none))
theorem ref09_maybe_σok (n : Nat) : SpecOk Tryz.prog (ref09_maybe_σ n) := (inst_ok (fun x e y h => ref09_none_c n x.1.1 x.1.2.1 x.1.2.2.1 x.1.2.2.2.1 y h) (inst_ok (fun x e y h => ref09_Term_c n x.1.1 x.1.2.1 x.1.2.2.1 x.1.2.2.2.1 y h) (SpecOk.none _)))
def ref09_maybe_Φ (n : Nat) : Orc := with_ Tryz.prog (ref09_maybe_σ n) [] n 0 hsL
def ref09_maybe_v (n : Nat) (s0 : ByteArray) (s1 : ByteArray) (b2 : Bool) (j3 : Int) (s4 : ByteArray) (s5 : ByteArray) : Option ((ByteArray × Bool × Unit) × Unit) :=
 DM.denFn tm (ref09_maybe_Φ n) ref09_maybe_lv n Tryz.f45 false [aS s0, AV.agg [aS s1, aB b2, aI j3, aS s4], aS s5] [] (OSh.chk (OSh.plain (.tup [.s, .b]) []))
theorem ref09_maybe_e (n : Nat) (s0 : ByteArray) (s1 : ByteArray) (b2 : Bool) (j3 : Int) (s4 : ByteArray) (s5 : ByteArray) : ref09_maybe_v n s0 s1 b2 j3 s4 s5 =
 obind (ref09_none_v n s1 b2 j3 s4) fun y6 =>
 bif y6.fst then
 some ((ByteArray.mk #[], (true, ())), ())
 else obind (ref09_Term_v n s1 b2 j3 s4) fun y7 =>
 if ByteArray.size s0 + ByteArray.size y7.fst.fst < 4611686018427387904 then
 if ByteArray.size (s0 ++ y7.fst.fst) + ByteArray.size s5 < 4611686018427387904 then
 some ((s0 ++ y7.fst.fst ++ s5, (y7.fst.snd.fst == 0, ())), ())
 else none
 else none := by kernel_rfl
theorem ref09_maybe_c (n : Nat) (s0 : ByteArray) (s1 : ByteArray) (b2 : Bool) (j3 : Int) (s4 : ByteArray) (s5 : ByteArray) (y : (ByteArray × Bool × Unit) × Unit) (h : ref09_maybe_v n s0 s1 b2 j3 s4 s5 = some y) : Contract Tryz.prog 45 [aS s0, AV.agg [aS s1, aB b2, aI j3, aS s4], aS s5] [] (OSh.enc (OSh.plain (.tup [.s, .b]) []) y) :=
 ac (OSh.plain (.tup [.s, .b]) []) (ref09_maybe_σok n) Tryz.func45 (by decide) h
def ref09_Rule_lv : Live := [(10, [1, 10, 11], [1, 1000, 1001, 1002, 1003])]
def ref09_Rule_σ (n : Nat) : Spec := (inst 43 [.agg [.s, .b, .i .i64, .s]] [] (OSh.plain (.tup [.s, .i .i64]) []) (fun x e => ref09_Term_v n x.1.1 x.1.2.1 x.1.2.2.1 x.1.2.2.2.1) (inst 44 [.s, .sl kdT] [] (OSh.plain (.tup [.s, .b]) []) (fun x e => ref09_atom_v n x.1 x.2.1.1 x.2.1.2) (inst 45 [.s, .agg [.s, .b, .i .i64, .s], .s] [] (OSh.plain (.tup [.s, .b]) []) (fun x e => ref09_maybe_v n x.1 x.2.1.1 x.2.1.2.1 x.2.1.2.2.1 x.2.1.2.2.2.1 x.2.2.1) Spec.none)))
theorem ref09_Rule_σok (n : Nat) : SpecOk Tryz.prog (ref09_Rule_σ n) := (inst_ok (fun x e y h => ref09_Term_c n x.1.1 x.1.2.1 x.1.2.2.1 x.1.2.2.2.1 y h) (inst_ok (fun x e y h => ref09_atom_c n x.1 x.2.1.1 x.2.1.2 y h) (inst_ok (fun x e y h => ref09_maybe_c n x.1 x.2.1.1 x.2.1.2.1 x.2.1.2.2.1 x.2.1.2.2.2.1 x.2.2.1 y h) (SpecOk.none _))))
def ref09_Rule_Φ (n : Nat) : Orc := with_ Tryz.prog (ref09_Rule_σ n) [] n 0 hsL
def ref09_Rule_v (n : Nat) (s0 : ByteArray) (b1 : Bool) (j2 : Int) (s3 : ByteArray) (s4 : ByteArray) (b5 : Bool) (r6 : Rows) (s7 : ByteArray) (b8 : Bool) (j9 : Int) (s10 : ByteArray) (b11 : Bool) (r12 : Rows) : Option ((ByteArray × Int × Unit) × Unit) :=
 DM.denFn tm (ref09_Rule_Φ n) ref09_Rule_lv n Tryz.f18 false [AV.agg [aS s0, aB b1, aI j2, aS s3, aS s4, AV.sl b5 kdT r6 Right.no, aS s7, aB b8, aI j9, aS s10, AV.sl b11 kdL r12 Right.no]] [] (OSh.chk (OSh.plain (.tup [.s, .i .i64]) []))
def ref09_Rule_l10 (n : Nat) (s0 : ByteArray) (b1 : Bool) (j2 : Int) (s3 : ByteArray) (s4 : ByteArray) (b5 : Bool) (r6 : Rows) (s7 : ByteArray) (b8 : Bool) (j9 : Int) (s10 : ByteArray) (b11 : Bool) (r12 : Rows) (i0 : Nat) (s16 : ByteArray) (j20 : Int) : Option ((ByteArray × Int × Unit) × Unit) :=
 DM.loopFn tm (ref09_Rule_Φ n) ref09_Rule_lv n Tryz.f18 false [] (OSh.chk (OSh.plain (.tup [.s, .i .i64]) [])) 10 [] i0 (St.mk ([Jk, AV.pl 1 0, Jk, Jk, Jk, Jk, Jk, Jk, Jk, Jk, aS s16, aI j20] ++ jk 119) [(1, [aS s0, aB b1, aI j2, aS s3, aS s4, AV.sl b5 kdT r6 Right.no, aS s7, aB b8, aI j9, aS s10, AV.sl b11 kdL r12 Right.no])])
theorem ref09_Rule_s10 (n : Nat) (s0 : ByteArray) (b1 : Bool) (j2 : Int) (s3 : ByteArray) (s4 : ByteArray) (b5 : Bool) (r6 : Rows) (s7 : ByteArray) (b8 : Bool) (j9 : Int) (s10 : ByteArray) (b11 : Bool) (r12 : Rows) (i0 : Nat) (s16 : ByteArray) (j20 : Int) : ref09_Rule_l10 n s0 b1 j2 s3 s4 b5 r6 s7 b8 j9 s10 b11 r12 (i0 + 1) s16 j20 =
 bif decide (j20 < (↑(List.length r12) : Int)) then
 if 0 ≤ j20 then
 if j20 < (↑(List.length r12) : Int) then
 obind (ref09_maybe_v n (ByteArray.mk #[]) (Row.S (List.getD r12 (Int.toNat j20) []) 0) (Row.B (List.getD r12 (Int.toNat j20) []) 1) (Row.I (List.getD r12 (Int.toNat j20) []) 2) (Row.S (List.getD r12 (Int.toNat j20) []) 3) (ByteArray.mk #[32, 115, 97, 121, 115, 32])) fun y21 =>
 if 0 ≤ j20 then
 if j20 < (↑(List.length r12) : Int) then
 if 0 ≤ j20 then
 if j20 < (↑(List.length r12) : Int) then
 obind (ref09_atom_v n (Row.S (List.getD r12 (Int.toNat j20) []) 4) (Row.N (List.getD r12 (Int.toNat j20) []) 5) (Row.R (List.getD r12 (Int.toNat j20) []) 5)) fun y22 =>
 if 0 ≤ j20 then
 if j20 < (↑(List.length r12) : Int) then
 obind (ref09_maybe_v n (ByteArray.mk #[32, 97, 116, 32]) (Row.S (List.getD r12 (Int.toNat j20) []) 6) (Row.B (List.getD r12 (Int.toNat j20) []) 7) (Row.I (List.getD r12 (Int.toNat j20) []) 8) (Row.S (List.getD r12 (Int.toNat j20) []) 9) (ByteArray.mk #[])) fun y23 =>
 bif !y21.fst.snd.fst then
 some ((ByteArray.mk #[], (100, ())), ())
 else bif !y22.fst.snd.fst then
 some ((ByteArray.mk #[], (100, ())), ())
 else bif !y23.fst.snd.fst then
 some ((ByteArray.mk #[], (100, ())), ())
 else bif decide (j20 > 0) then
 if ByteArray.size s16 + 2 < 4611686018427387904 then
 if ByteArray.size y21.fst.fst + ByteArray.size y22.fst.fst < 4611686018427387904 then
 if ByteArray.size (y21.fst.fst ++ y22.fst.fst) + ByteArray.size y23.fst.fst < 4611686018427387904 then
 if ByteArray.size (s16 ++ ByteArray.mk #[44, 32]) + ByteArray.size (y21.fst.fst ++ y22.fst.fst ++ y23.fst.fst) < 4611686018427387904 then
 ref09_Rule_l10 n s0 b1 j2 s3 s4 b5 r6 s7 b8 j9 s10 b11 r12 i0 (s16 ++ ByteArray.mk #[44, 32] ++ (y21.fst.fst ++ y22.fst.fst ++ y23.fst.fst)) (IntKind.wrap IntKind.i64 (j20 + 1))
 else none
 else none
 else none
 else none
 else if ByteArray.size y21.fst.fst + ByteArray.size y22.fst.fst < 4611686018427387904 then
 if ByteArray.size (y21.fst.fst ++ y22.fst.fst) + ByteArray.size y23.fst.fst < 4611686018427387904 then
 if ByteArray.size s16 + ByteArray.size (y21.fst.fst ++ y22.fst.fst ++ y23.fst.fst) < 4611686018427387904 then
 ref09_Rule_l10 n s0 b1 j2 s3 s4 b5 r6 s7 b8 j9 s10 b11 r12 i0 (s16 ++ (y21.fst.fst ++ y22.fst.fst ++ y23.fst.fst)) (IntKind.wrap IntKind.i64 (j20 + 1))
 else none
 else none
 else none
 else none
 else none
 else none
 else none
 else none
 else none
 else none
 else none
 else if ByteArray.size s16 + 1 < 4611686018427387904 then
 some ((s16 ++ ByteArray.mk #[46], (0, ())), ())
 else none := by kernel_rfl
theorem ref09_Rule_e (n : Nat) (s0 : ByteArray) (b1 : Bool) (j2 : Int) (s3 : ByteArray) (s4 : ByteArray) (b5 : Bool) (r6 : Rows) (s7 : ByteArray) (b8 : Bool) (j9 : Int) (s10 : ByteArray) (b11 : Bool) (r12 : Rows) : ref09_Rule_v n s0 b1 j2 s3 s4 b5 r6 s7 b8 j9 s10 b11 r12 =
 bif decide ((↑(List.length r12) : Int) < 1) then
 some ((ByteArray.mk #[], (100, ())), ())
 else bif decide ((↑(List.length r12) : Int) > 4) then
 some ((ByteArray.mk #[], (100, ())), ())
 else obind (ref09_Term_v n s0 b1 j2 s3) fun y13 =>
 obind (ref09_atom_v n s4 b5 r6) fun y14 =>
 obind (ref09_maybe_v n (ByteArray.mk #[32, 116, 111, 32]) s7 b8 j9 s10 (ByteArray.mk #[])) fun y15 =>
 bif y13.fst.snd.fst != 0 then
 some ((ByteArray.mk #[], (100, ())), ())
 else bif !y14.fst.snd.fst then
 some ((ByteArray.mk #[], (100, ())), ())
 else bif !y15.fst.snd.fst then
 some ((ByteArray.mk #[], (100, ())), ())
 else if ByteArray.size y13.fst.fst + 2 < 4611686018427387904 then
 if ByteArray.size (y13.fst.fst ++ ByteArray.mk #[58, 32]) + ByteArray.size y14.fst.fst < 4611686018427387904 then
 if ByteArray.size (y13.fst.fst ++ ByteArray.mk #[58, 32] ++ y14.fst.fst) + ByteArray.size y15.fst.fst < 4611686018427387904 then
 if ByteArray.size (y13.fst.fst ++ ByteArray.mk #[58, 32] ++ y14.fst.fst ++ y15.fst.fst) + 4 < 4611686018427387904 then
 ref09_Rule_l10 n s0 b1 j2 s3 s4 b5 r6 s7 b8 j9 s10 b11 r12 n (y13.fst.fst ++ ByteArray.mk #[58, 32] ++ y14.fst.fst ++ y15.fst.fst ++ ByteArray.mk #[32, 58, 45, 32]) 0
 else none
 else none
 else none
 else none := by kernel_rfl
theorem ref09_Rule_c (n : Nat) (s0 : ByteArray) (b1 : Bool) (j2 : Int) (s3 : ByteArray) (s4 : ByteArray) (b5 : Bool) (r6 : Rows) (s7 : ByteArray) (b8 : Bool) (j9 : Int) (s10 : ByteArray) (b11 : Bool) (r12 : Rows) (y : (ByteArray × Int × Unit) × Unit) (h : ref09_Rule_v n s0 b1 j2 s3 s4 b5 r6 s7 b8 j9 s10 b11 r12 = some y) : Contract Tryz.prog 18 [AV.agg [aS s0, aB b1, aI j2, aS s3, aS s4, AV.sl b5 kdT r6 Right.no, aS s7, aB b8, aI j9, aS s10, AV.sl b11 kdL r12 Right.no]] [] (OSh.enc (OSh.plain (.tup [.s, .i .i64]) []) y) :=
 ac (OSh.plain (.tup [.s, .i .i64]) []) (ref09_Rule_σok n) Tryz.func18 (by decide) h
def ref10_number_lv : Live := []
def ref10_number_σ (n : Nat) : Spec := Spec.none
theorem ref10_number_σok (n : Nat) : SpecOk Tryz.prog (ref10_number_σ n) := (SpecOk.none _)
def ref10_number_Φ (n : Nat) : Orc := with_ Tryz.prog (ref10_number_σ n) [] n 0 hsL
def ref10_number_v (n : Nat) (s0 : ByteArray) (b1 : Bool) (j2 : Int) (s3 : ByteArray) : Option (Bool × Unit) :=
 DM.denFn tm (ref10_number_Φ n) ref10_number_lv n Tryz.f46 false [AV.agg [aS s0, aB b1, aI j2, aS s3]] [] (OSh.chk (OSh.plain (.b) []))
theorem ref10_number_e (n : Nat) (s0 : ByteArray) (b1 : Bool) (j2 : Int) (s3 : ByteArray) : ref10_number_v n s0 b1 j2 s3 =
 bif s0 == ByteArray.mk #[] then
 some (b1, ())
 else some (false, ()) := by kernel_rfl
theorem ref10_number_c (n : Nat) (s0 : ByteArray) (b1 : Bool) (j2 : Int) (s3 : ByteArray) (y : Bool × Unit) (h : ref10_number_v n s0 b1 j2 s3 = some y) : Contract Tryz.prog 46 [AV.agg [aS s0, aB b1, aI j2, aS s3]] [] (OSh.enc (OSh.plain (.b) []) y) :=
 ac (OSh.plain (.b) []) (ref10_number_σok n) Tryz.func46 (by decide) h
def ref10_places_lv : Live := [(4, [1, 3], [1, 1000, 1001, 1002, 1003])]
def ref10_places_σ (n : Nat) : Spec := (inst 46 [.agg [.s, .b, .i .i64, .s]] [] (OSh.plain (.b) []) (fun x e => ref10_number_v n x.1.1 x.1.2.1 x.1.2.2.1 x.1.2.2.2.1) Spec.none)
theorem ref10_places_σok (n : Nat) : SpecOk Tryz.prog (ref10_places_σ n) := (inst_ok (fun x e y h => ref10_number_c n x.1.1 x.1.2.1 x.1.2.2.1 x.1.2.2.2.1 y h) (SpecOk.none _))
def ref10_places_Φ (n : Nat) : Orc := with_ Tryz.prog (ref10_places_σ n) [] n 0 hsL
def ref10_places_v (n : Nat) (s0 : ByteArray) (b1 : Bool) (j2 : Int) (s3 : ByteArray) (s4 : ByteArray) (b5 : Bool) (r6 : Rows) (s7 : ByteArray) (b8 : Bool) (j9 : Int) (s10 : ByteArray) (b11 : Bool) (r12 : Rows) : Option (Int × Unit) :=
 DM.denFn tm (ref10_places_Φ n) ref10_places_lv n Tryz.f19 false [AV.agg [aS s0, aB b1, aI j2, aS s3, aS s4, AV.sl b5 kdT r6 Right.no, aS s7, aB b8, aI j9, aS s10, AV.sl b11 kdL r12 Right.no]] [] (OSh.chk (OSh.plain (.i .i64) []))
def ref10_places_l4 (n : Nat) (s0 : ByteArray) (b1 : Bool) (j2 : Int) (s3 : ByteArray) (s4 : ByteArray) (b5 : Bool) (r6 : Rows) (s7 : ByteArray) (b8 : Bool) (j9 : Int) (s10 : ByteArray) (b11 : Bool) (r12 : Rows) (i0 : Nat) (j17 : Int) : Option (Int × Unit) :=
 DM.loopFn tm (ref10_places_Φ n) ref10_places_lv n Tryz.f19 false [] (OSh.chk (OSh.plain (.i .i64) [])) 4 [] i0 (St.mk ([Jk, AV.pl 1 0, Jk, aI j17] ++ jk 32) [(1, [aS s0, aB b1, aI j2, aS s3, aS s4, AV.sl b5 kdT r6 Right.no, aS s7, aB b8, aI j9, aS s10, AV.sl b11 kdL r12 Right.no])])
theorem ref10_places_s4 (n : Nat) (s0 : ByteArray) (b1 : Bool) (j2 : Int) (s3 : ByteArray) (s4 : ByteArray) (b5 : Bool) (r6 : Rows) (s7 : ByteArray) (b8 : Bool) (j9 : Int) (s10 : ByteArray) (b11 : Bool) (r12 : Rows) (i0 : Nat) (j17 : Int) : ref10_places_l4 n s0 b1 j2 s3 s4 b5 r6 s7 b8 j9 s10 b11 r12 (i0 + 1) j17 =
 bif decide (j17 < (↑(List.length r12) : Int)) then
 if 0 ≤ j17 then
 if j17 < (↑(List.length r12) : Int) then
 obind (ref10_number_v n (Row.S (List.getD r12 (Int.toNat j17) []) 0) (Row.B (List.getD r12 (Int.toNat j17) []) 1) (Row.I (List.getD r12 (Int.toNat j17) []) 2) (Row.S (List.getD r12 (Int.toNat j17) []) 3)) fun y18 =>
 bif y18.fst then
 some (j17, ())
 else if 0 ≤ j17 then
 if j17 < (↑(List.length r12) : Int) then
 obind (ref10_number_v n (Row.S (List.getD r12 (Int.toNat j17) []) 6) (Row.B (List.getD r12 (Int.toNat j17) []) 7) (Row.I (List.getD r12 (Int.toNat j17) []) 8) (Row.S (List.getD r12 (Int.toNat j17) []) 9)) fun y19 =>
 bif y19.fst then
 some (j17, ())
 else ref10_places_l4 n s0 b1 j2 s3 s4 b5 r6 s7 b8 j9 s10 b11 r12 i0 (IntKind.wrap IntKind.i64 (j17 + 1))
 else none
 else none
 else none
 else none
 else some (-2, ()) := by kernel_rfl
theorem ref10_places_e (n : Nat) (s0 : ByteArray) (b1 : Bool) (j2 : Int) (s3 : ByteArray) (s4 : ByteArray) (b5 : Bool) (r6 : Rows) (s7 : ByteArray) (b8 : Bool) (j9 : Int) (s10 : ByteArray) (b11 : Bool) (r12 : Rows) : ref10_places_v n s0 b1 j2 s3 s4 b5 r6 s7 b8 j9 s10 b11 r12 =
 obind (ref10_number_v n s0 b1 j2 s3) fun y13 =>
 bif y13.fst then
 some (-1, ())
 else obind (ref10_number_v n s7 b8 j9 s10) fun y14 =>
 bif y14.fst then
 some (-1, ())
 else ref10_places_l4 n s0 b1 j2 s3 s4 b5 r6 s7 b8 j9 s10 b11 r12 n 0 := by kernel_rfl
theorem ref10_places_c (n : Nat) (s0 : ByteArray) (b1 : Bool) (j2 : Int) (s3 : ByteArray) (s4 : ByteArray) (b5 : Bool) (r6 : Rows) (s7 : ByteArray) (b8 : Bool) (j9 : Int) (s10 : ByteArray) (b11 : Bool) (r12 : Rows) (y : Int × Unit) (h : ref10_places_v n s0 b1 j2 s3 s4 b5 r6 s7 b8 j9 s10 b11 r12 = some y) : Contract Tryz.prog 19 [AV.agg [aS s0, aB b1, aI j2, aS s3, aS s4, AV.sl b5 kdT r6 Right.no, aS s7, aB b8, aI j9, aS s10, AV.sl b11 kdL r12 Right.no]] [] (OSh.enc (OSh.plain (.i .i64) []) y) :=
 ac (OSh.plain (.i .i64) []) (ref10_places_σok n) Tryz.func19 (by decide) h
def ref10_odd_lv : Live := [(2, [0, 1, 2, 8], [1000, 1001, 1002, 1003])]
def ref10_odd_σ (n : Nat) : Spec := Spec.none
theorem ref10_odd_σok (n : Nat) : SpecOk Tryz.prog (ref10_odd_σ n) := (SpecOk.none _)
def ref10_odd_Φ (n : Nat) : Orc := with_ Tryz.prog (ref10_odd_σ n) [] n 0 hsL
def ref10_odd_v (n : Nat) (b0 : Bool) (r1 : Rows) (s2 : ByteArray) (j3 : Int) : Option (((Bool × Rows) × Bool × Unit) × Unit) :=
 DM.denFn tm (ref10_odd_Φ n) ref10_odd_lv n Tryz.f47 true [AV.sl b0 [Kd.s, Kd.i .i64] r1 (Right.tok 500000), aS s2, aI j3] [] (OSh.chk (OSh.plain (.tup [.slt [Kd.s, Kd.i .i64] 0, .b]) []))
def ref10_odd_l2 (n : Nat) (b0 : Bool) (r1 : Rows) (s2 : ByteArray) (j3 : Int) (i0 : Nat) (j4 : Int) : Option (((Bool × Rows) × Bool × Unit) × Unit) :=
 DM.loopFn tm (ref10_odd_Φ n) ref10_odd_lv n Tryz.f47 true [] (OSh.chk (OSh.plain (.tup [.slt [Kd.s, Kd.i .i64] 0, .b]) [])) 2 [] i0 (St.mk ([AV.sl b0 [Kd.s, Kd.i .i64] r1 (Right.tok 0), aS s2, aI j3, Jk, Jk, Jk, Jk, Jk, aI j4] ++ jk 27) [])
theorem ref10_odd_s2 (n : Nat) (b0 : Bool) (r1 : Rows) (s2 : ByteArray) (j3 : Int) (i0 : Nat) (j4 : Int) : ref10_odd_l2 n b0 r1 s2 j3 (i0 + 1) j4 =
 bif decide (j4 < (↑(List.length r1) : Int)) then
 if 0 ≤ j4 then
 if j4 < (↑(List.length r1) : Int) then
 bif Row.S (List.getD r1 (Int.toNat j4) []) 0 == s2 then
 if 0 ≤ j4 then
 if j4 < (↑(List.length r1) : Int) then
 some (((b0, r1), (Row.I (List.getD r1 (Int.toNat j4) []) 1 != j3, ())), ())
 else none
 else none
 else ref10_odd_l2 n b0 r1 s2 j3 i0 (IntKind.wrap IntKind.i64 (j4 + 1))
 else none
 else none
 else if (List.length r1 + List.length [[DV.val (Value.string s2), DV.val (Value.int .i64 j3)]]) * 24 ≤ 140737488355328 then
 some (((b0 && List.isEmpty [[DV.val (Value.string s2), DV.val (Value.int .i64 j3)]], appX r1 [[DV.val (Value.string s2), DV.val (Value.int .i64 j3)]]), (false, ())), ())
 else none := by kernel_rfl
theorem ref10_odd_e (n : Nat) (b0 : Bool) (r1 : Rows) (s2 : ByteArray) (j3 : Int) : ref10_odd_v n b0 r1 s2 j3 =
 ref10_odd_l2 n b0 r1 s2 j3 n 0 := by kernel_rfl
theorem ref10_odd_c (n : Nat) (b0 : Bool) (r1 : Rows) (s2 : ByteArray) (j3 : Int) (y : ((Bool × Rows) × Bool × Unit) × Unit) (h : ref10_odd_v n b0 r1 s2 j3 = some y) : Contract Tryz.prog 47 [AV.sl b0 [Kd.s, Kd.i .i64] r1 (Right.tok 500000), aS s2, aI j3] [] (OSh.enc (OSh.plain (.tup [.slt [Kd.s, Kd.i .i64] 0, .b]) []) y) :=
 ac (OSh.plain (.tup [.slt [Kd.s, Kd.i .i64] 0, .b]) []) (ref10_odd_σok n) Tryz.func47 (by decide) h
def ref10_arities_lv : Live := [(5, [0, 3, 7], [3, 1000, 1001, 1002, 1003])]
def ref10_arities_σ (n : Nat) : Spec := (inst 47 [.slt [Kd.s, Kd.i .i64] 500000, .s, .i .i64] [] (OSh.plain (.tup [.slt [Kd.s, Kd.i .i64] 0, .b]) []) (fun x e => ref10_odd_v n x.1.1 x.1.2 x.2.1 x.2.2.1) Spec.none)
theorem ref10_arities_σok (n : Nat) : SpecOk Tryz.prog (ref10_arities_σ n) := (inst_ok (fun x e y h => ref10_odd_c n x.1.1 x.1.2 x.2.1 x.2.2.1 y h) (SpecOk.none _))
def ref10_arities_Φ (n : Nat) : Orc := with_ Tryz.prog (ref10_arities_σ n) [] n 0 hsL
def ref10_arities_v (n : Nat) (b0 : Bool) (r1 : Rows) (s2 : ByteArray) (b3 : Bool) (j4 : Int) (s5 : ByteArray) (s6 : ByteArray) (b7 : Bool) (r8 : Rows) (s9 : ByteArray) (b10 : Bool) (j11 : Int) (s12 : ByteArray) (b13 : Bool) (r14 : Rows) : Option (((Bool × Rows) × Int × Unit) × Unit) :=
 DM.denFn tm (ref10_arities_Φ n) ref10_arities_lv n Tryz.f20 true [AV.sl b0 [Kd.s, Kd.i .i64] r1 (Right.tok 500000), AV.agg [aS s2, aB b3, aI j4, aS s5, aS s6, AV.sl b7 kdT r8 Right.no, aS s9, aB b10, aI j11, aS s12, AV.sl b13 kdL r14 Right.no]] [] (OSh.chk (OSh.plain (.tup [.slt [Kd.s, Kd.i .i64] 0, .i .i64]) []))
def ref10_arities_l5 (n : Nat) (b0 : Bool) (r1 : Rows) (s2 : ByteArray) (b3 : Bool) (j4 : Int) (s5 : ByteArray) (s6 : ByteArray) (b7 : Bool) (r8 : Rows) (s9 : ByteArray) (b10 : Bool) (j11 : Int) (s12 : ByteArray) (b13 : Bool) (r14 : Rows) (i0 : Nat) (b16 : Bool) (r17 : List (List DV)) (j19 : Int) : Option (((Bool × Rows) × Int × Unit) × Unit) :=
 DM.loopFn tm (ref10_arities_Φ n) ref10_arities_lv n Tryz.f20 true [] (OSh.chk (OSh.plain (.tup [.slt [Kd.s, Kd.i .i64] 0, .i .i64]) [])) 5 [] i0 (St.mk ([AV.sl b16 [Kd.s, Kd.i .i64] r17 (Right.tok 0), Jk, Jk, AV.pl 3 0, Jk, Jk, Jk, aI j19] ++ jk 41) [(3, [aS s2, aB b3, aI j4, aS s5, aS s6, AV.sl b7 kdT r8 Right.no, aS s9, aB b10, aI j11, aS s12, AV.sl b13 kdL r14 Right.no])])
theorem ref10_arities_s5 (n : Nat) (b0 : Bool) (r1 : Rows) (s2 : ByteArray) (b3 : Bool) (j4 : Int) (s5 : ByteArray) (s6 : ByteArray) (b7 : Bool) (r8 : Rows) (s9 : ByteArray) (b10 : Bool) (j11 : Int) (s12 : ByteArray) (b13 : Bool) (r14 : Rows) (i0 : Nat) (b16 : Bool) (r17 : List (List DV)) (j19 : Int) : ref10_arities_l5 n b0 r1 s2 b3 j4 s5 s6 b7 r8 s9 b10 j11 s12 b13 r14 (i0 + 1) b16 r17 j19 =
 bif decide (j19 < (↑(List.length r14) : Int)) then
 if 0 ≤ j19 then
 if j19 < (↑(List.length r14) : Int) then
 if 0 ≤ j19 then
 if j19 < (↑(List.length r14) : Int) then
 obind (ref10_odd_v n b16 r17 (Row.S (List.getD r14 (Int.toNat j19) []) 4) ((↑(List.length (Row.R (List.getD r14 (Int.toNat j19) []) 5)) : Int))) fun y20 =>
 bif y20.fst.snd.fst then
 some (((y20.fst.fst.fst, y20.fst.fst.snd), (j19, ())), ())
 else ref10_arities_l5 n b0 r1 s2 b3 j4 s5 s6 b7 r8 s9 b10 j11 s12 b13 r14 i0 y20.fst.fst.fst y20.fst.fst.snd (IntKind.wrap IntKind.i64 (j19 + 1))
 else none
 else none
 else none
 else none
 else some (((b16, r17), (-2, ())), ()) := by kernel_rfl
theorem ref10_arities_e (n : Nat) (b0 : Bool) (r1 : Rows) (s2 : ByteArray) (b3 : Bool) (j4 : Int) (s5 : ByteArray) (s6 : ByteArray) (b7 : Bool) (r8 : Rows) (s9 : ByteArray) (b10 : Bool) (j11 : Int) (s12 : ByteArray) (b13 : Bool) (r14 : Rows) : ref10_arities_v n b0 r1 s2 b3 j4 s5 s6 b7 r8 s9 b10 j11 s12 b13 r14 =
 obind (ref10_odd_v n b0 r1 s6 ((↑(List.length r8) : Int))) fun y15 =>
 bif y15.fst.snd.fst then
 some (((y15.fst.fst.fst, y15.fst.fst.snd), (-1, ())), ())
 else ref10_arities_l5 n b0 r1 s2 b3 j4 s5 s6 b7 r8 s9 b10 j11 s12 b13 r14 n y15.fst.fst.fst y15.fst.fst.snd 0 := by kernel_rfl
theorem ref10_arities_c (n : Nat) (b0 : Bool) (r1 : Rows) (s2 : ByteArray) (b3 : Bool) (j4 : Int) (s5 : ByteArray) (s6 : ByteArray) (b7 : Bool) (r8 : Rows) (s9 : ByteArray) (b10 : Bool) (j11 : Int) (s12 : ByteArray) (b13 : Bool) (r14 : Rows) (y : ((Bool × Rows) × Int × Unit) × Unit) (h : ref10_arities_v n b0 r1 s2 b3 j4 s5 s6 b7 r8 s9 b10 j11 s12 b13 r14 = some y) : Contract Tryz.prog 20 [AV.sl b0 [Kd.s, Kd.i .i64] r1 (Right.tok 500000), AV.agg [aS s2, aB b3, aI j4, aS s5, aS s6, AV.sl b7 kdT r8 Right.no, aS s9, aB b10, aI j11, aS s12, AV.sl b13 kdL r14 Right.no]] [] (OSh.enc (OSh.plain (.tup [.slt [Kd.s, Kd.i .i64] 0, .i .i64]) []) y) :=
 ac (OSh.plain (.tup [.slt [Kd.s, Kd.i .i64] 0, .i .i64]) []) (ref10_arities_σok n) Tryz.func20 (by decide) h
def ref10_Has_lv : Live := [(2, [0, 1, 5], [1000, 1001, 1002, 1003])]
def ref10_Has_σ (n : Nat) : Spec := Spec.none
theorem ref10_Has_σok (n : Nat) : SpecOk Tryz.prog (ref10_Has_σ n) := (SpecOk.none _)
def ref10_Has_Φ (n : Nat) : Orc := with_ Tryz.prog (ref10_Has_σ n) [] n 0 hsL
def ref10_Has_v (n : Nat) (b0 : Bool) (r1 : Rows) (s2 : ByteArray) : Option (Bool × Unit) :=
 DM.denFn tm (ref10_Has_Φ n) ref10_Has_lv n Tryz.f48 false [AV.sl b0 [Kd.s] r1 Right.no, aS s2] [] (OSh.chk (OSh.plain (.b) []))
def ref10_Has_l2 (n : Nat) (b0 : Bool) (r1 : Rows) (s2 : ByteArray) (i0 : Nat) (j3 : Int) : Option (Bool × Unit) :=
 DM.loopFn tm (ref10_Has_Φ n) ref10_Has_lv n Tryz.f48 false [] (OSh.chk (OSh.plain (.b) [])) 2 [] i0 (St.mk ([AV.sl b0 [Kd.s] r1 Right.no, aS s2, Jk, Jk, Jk, aI j3] ++ jk 12) [])
theorem ref10_Has_s2 (n : Nat) (b0 : Bool) (r1 : Rows) (s2 : ByteArray) (i0 : Nat) (j3 : Int) : ref10_Has_l2 n b0 r1 s2 (i0 + 1) j3 =
 bif decide (j3 < (↑(List.length r1) : Int)) then
 if 0 ≤ j3 then
 if j3 < (↑(List.length r1) : Int) then
 bif Row.S (List.getD r1 (Int.toNat j3) []) 0 == s2 then
 some (true, ())
 else ref10_Has_l2 n b0 r1 s2 i0 (IntKind.wrap IntKind.i64 (j3 + 1))
 else none
 else none
 else some (false, ()) := by kernel_rfl
theorem ref10_Has_e (n : Nat) (b0 : Bool) (r1 : Rows) (s2 : ByteArray) : ref10_Has_v n b0 r1 s2 =
 ref10_Has_l2 n b0 r1 s2 n 0 := by kernel_rfl
theorem ref10_Has_c (n : Nat) (b0 : Bool) (r1 : Rows) (s2 : ByteArray) (y : Bool × Unit) (h : ref10_Has_v n b0 r1 s2 = some y) : Contract Tryz.prog 48 [AV.sl b0 [Kd.s] r1 Right.no, aS s2] [] (OSh.enc (OSh.plain (.b) []) y) :=
 ac (OSh.plain (.b) []) (ref10_Has_σok n) Tryz.func48 (by decide) h
def ref10_with_lv : Live := []
def ref10_with_σ (n : Nat) : Spec := (inst 48 [.sl [Kd.s], .s] [] (OSh.plain (.b) []) (fun x e => ref10_Has_v n x.1.1 x.1.2 x.2.1) Spec.none)
theorem ref10_with_σok (n : Nat) : SpecOk Tryz.prog (ref10_with_σ n) := (inst_ok (fun x e y h => ref10_Has_c n x.1.1 x.1.2 x.2.1 y h) (SpecOk.none _))
def ref10_with_Φ (n : Nat) : Orc := with_ Tryz.prog (ref10_with_σ n) [] n 0 hsL
def ref10_with_v (n : Nat) (b0 : Bool) (r1 : Rows) (s2 : ByteArray) (b3 : Bool) (j4 : Int) (s5 : ByteArray) : Option ((Bool × Rows) × Unit) :=
 DM.denFn tm (ref10_with_Φ n) ref10_with_lv n Tryz.f74 true [AV.sl b0 [Kd.s] r1 (Right.tok 500000), AV.agg [aS s2, aB b3, aI j4, aS s5]] [] (OSh.chk (OSh.plain (.slt [Kd.s] 0) []))
theorem ref10_with_e (n : Nat) (b0 : Bool) (r1 : Rows) (s2 : ByteArray) (b3 : Bool) (j4 : Int) (s5 : ByteArray) : ref10_with_v n b0 r1 s2 b3 j4 s5 =
 bif s2 == ByteArray.mk #[] then
 some ((b0, r1), ())
 else obind (ref10_Has_v n b0 r1 s2) fun y6 =>
 bif y6.fst then
 some ((b0, r1), ())
 else if (List.length r1 + List.length [[DV.val (Value.string s2)]]) * 16 ≤ 140737488355328 then
 some ((b0 && List.isEmpty [[DV.val (Value.string s2)]], appX r1 [[DV.val (Value.string s2)]]), ())
 else none := by kernel_rfl
theorem ref10_with_c (n : Nat) (b0 : Bool) (r1 : Rows) (s2 : ByteArray) (b3 : Bool) (j4 : Int) (s5 : ByteArray) (y : (Bool × Rows) × Unit) (h : ref10_with_v n b0 r1 s2 b3 j4 s5 = some y) : Contract Tryz.prog 74 [AV.sl b0 [Kd.s] r1 (Right.tok 500000), AV.agg [aS s2, aB b3, aI j4, aS s5]] [] (OSh.enc (OSh.plain (.slt [Kd.s] 0) []) y) :=
 ac (OSh.plain (.slt [Kd.s] 0) []) (ref10_with_σok n) Tryz.func74 (by decide) h
def ref10_Bound_lv : Live := [(3, [1, 2, 5, 6], [2, 1000, 1001, 1002, 1003]), (7, [1, 2, 5, 6, 7], [2, 1000, 1001, 1002, 1003])]
def ref10_Bound_σ (n : Nat) : Spec := (inst 74 [.slt [Kd.s] 500000, .agg [.s, .b, .i .i64, .s]] [] (OSh.plain (.slt [Kd.s] 0) []) (fun x e => ref10_with_v n x.1.1 x.1.2 x.2.1.1 x.2.1.2.1 x.2.1.2.2.1 x.2.1.2.2.2.1) Spec.none)
theorem ref10_Bound_σok (n : Nat) : SpecOk Tryz.prog (ref10_Bound_σ n) := (inst_ok (fun x e y h => ref10_with_c n x.1.1 x.1.2 x.2.1.1 x.2.1.2.1 x.2.1.2.2.1 x.2.1.2.2.2.1 y h) (SpecOk.none _))
def ref10_Bound_Φ (n : Nat) : Orc := with_ Tryz.prog (ref10_Bound_σ n) [] n 0 hsL
def ref10_Bound_v (n : Nat) (s0 : ByteArray) (b1 : Bool) (j2 : Int) (s3 : ByteArray) (s4 : ByteArray) (b5 : Bool) (r6 : Rows) (s7 : ByteArray) (b8 : Bool) (j9 : Int) (s10 : ByteArray) (b11 : Bool) (r12 : Rows) (j13 : Int) : Option ((Bool × Rows) × Unit) :=
 DM.denFn tm (ref10_Bound_Φ n) ref10_Bound_lv n Tryz.f49 true [AV.agg [aS s0, aB b1, aI j2, aS s3, aS s4, AV.sl b5 kdT r6 Right.no, aS s7, aB b8, aI j9, aS s10, AV.sl b11 kdL r12 Right.no], aI j13] [] (OSh.chk (OSh.plain (.slt [Kd.s] 0) []))
def ref10_Bound_l3 (n : Nat) (s0 : ByteArray) (b1 : Bool) (j2 : Int) (s3 : ByteArray) (s4 : ByteArray) (b5 : Bool) (r6 : Rows) (s7 : ByteArray) (b8 : Bool) (j9 : Int) (s10 : ByteArray) (b11 : Bool) (r12 : Rows) (j13 : Int) (i0 : Nat) (b15 : Bool) (r16 : List (List DV)) (j23 : Int) : Option ((Bool × Rows) × Unit) :=
 DM.loopFn tm (ref10_Bound_Φ n) ref10_Bound_lv n Tryz.f49 true [] (OSh.chk (OSh.plain (.slt [Kd.s] 0) [])) 3 [] i0 (St.mk ([Jk, aI j13, AV.pl 2 0, Jk, Jk, AV.sl b15 [Kd.s] r16 (Right.tok 5), aI j23] ++ jk 55) [(2, [aS s0, aB b1, aI j2, aS s3, aS s4, AV.sl b5 kdT r6 Right.no, aS s7, aB b8, aI j9, aS s10, AV.sl b11 kdL r12 Right.no])])
def ref10_Bound_l7 (n : Nat) (s0 : ByteArray) (b1 : Bool) (j2 : Int) (s3 : ByteArray) (s4 : ByteArray) (b5 : Bool) (r6 : Rows) (s7 : ByteArray) (b8 : Bool) (j9 : Int) (s10 : ByteArray) (b11 : Bool) (r12 : Rows) (j13 : Int) (i0 i1 : Nat) (b18 : Bool) (r19 : List (List DV)) (j22 : Int) (j25 : Int) : Option ((Bool × Rows) × Unit) :=
 DM.loopFn tm (ref10_Bound_Φ n) ref10_Bound_lv n Tryz.f49 true [] (OSh.chk (OSh.plain (.slt [Kd.s] 0) [])) 7 [i0] i1 (St.mk ([Jk, aI j13, AV.pl 2 0, Jk, Jk, AV.sl b18 [Kd.s] r19 (Right.tok 5), aI j25, aI j22] ++ jk 54) [(2, [aS s0, aB b1, aI j2, aS s3, aS s4, AV.sl b5 kdT r6 Right.no, aS s7, aB b8, aI j9, aS s10, AV.sl b11 kdL r12 Right.no])])
theorem ref10_Bound_s3 (n : Nat) (s0 : ByteArray) (b1 : Bool) (j2 : Int) (s3 : ByteArray) (s4 : ByteArray) (b5 : Bool) (r6 : Rows) (s7 : ByteArray) (b8 : Bool) (j9 : Int) (s10 : ByteArray) (b11 : Bool) (r12 : Rows) (j13 : Int) (i0 : Nat) (b15 : Bool) (r16 : List (List DV)) (j23 : Int) : ref10_Bound_l3 n s0 b1 j2 s3 s4 b5 r6 s7 b8 j9 s10 b11 r12 j13 (i0 + 1) b15 r16 j23 =
 bif decide (j23 < (↑(List.length r12) : Int)) then
 bif decide (j23 < j13) then
 if 0 ≤ j23 then
 if j23 < (↑(List.length r12) : Int) then
 obind (ref10_with_v n b15 r16 (Row.S (List.getD r12 (Int.toNat j23) []) 0) (Row.B (List.getD r12 (Int.toNat j23) []) 1) (Row.I (List.getD r12 (Int.toNat j23) []) 2) (Row.S (List.getD r12 (Int.toNat j23) []) 3)) fun y24 =>
 ref10_Bound_l7 n s0 b1 j2 s3 s4 b5 r6 s7 b8 j9 s10 b11 r12 j13 i0 n y24.fst.fst y24.fst.snd 0 j23
 else none
 else none
 else some ((b15, r16), ())
 else some ((b15, r16), ()) := by kernel_rfl
theorem ref10_Bound_s7 (n : Nat) (s0 : ByteArray) (b1 : Bool) (j2 : Int) (s3 : ByteArray) (s4 : ByteArray) (b5 : Bool) (r6 : Rows) (s7 : ByteArray) (b8 : Bool) (j9 : Int) (s10 : ByteArray) (b11 : Bool) (r12 : Rows) (j13 : Int) (i0 i1 : Nat) (b18 : Bool) (r19 : List (List DV)) (j22 : Int) (j25 : Int) : ref10_Bound_l7 n s0 b1 j2 s3 s4 b5 r6 s7 b8 j9 s10 b11 r12 j13 i0 (i1 + 1) b18 r19 j22 j25 =
 if 0 ≤ j25 then
 if j25 < (↑(List.length r12) : Int) then
 bif decide (j22 < (↑(List.length (Row.R (List.getD r12 (Int.toNat j25) []) 5)) : Int)) then
 if 0 ≤ j25 then
 if j25 < (↑(List.length r12) : Int) then
 if 0 ≤ j22 then
 if j22 < (↑(List.length (Row.R (List.getD r12 (Int.toNat j25) []) 5)) : Int) then
 obind (ref10_with_v n b18 r19 (Row.S (List.getD (Row.R (List.getD r12 (Int.toNat j25) []) 5) (Int.toNat j22) []) 0) (Row.B (List.getD (Row.R (List.getD r12 (Int.toNat j25) []) 5) (Int.toNat j22) []) 1) (Row.I (List.getD (Row.R (List.getD r12 (Int.toNat j25) []) 5) (Int.toNat j22) []) 2) (Row.S (List.getD (Row.R (List.getD r12 (Int.toNat j25) []) 5) (Int.toNat j22) []) 3)) fun y26 =>
 ref10_Bound_l7 n s0 b1 j2 s3 s4 b5 r6 s7 b8 j9 s10 b11 r12 j13 i0 i1 y26.fst.fst y26.fst.snd (IntKind.wrap IntKind.i64 (j22 + 1)) j25
 else none
 else none
 else none
 else none
 else if 0 ≤ j25 then
 if j25 < (↑(List.length r12) : Int) then
 obind (ref10_with_v n b18 r19 (Row.S (List.getD r12 (Int.toNat j25) []) 6) (Row.B (List.getD r12 (Int.toNat j25) []) 7) (Row.I (List.getD r12 (Int.toNat j25) []) 8) (Row.S (List.getD r12 (Int.toNat j25) []) 9)) fun y27 =>
 ref10_Bound_l3 n s0 b1 j2 s3 s4 b5 r6 s7 b8 j9 s10 b11 r12 j13 i0 y27.fst.fst y27.fst.snd (IntKind.wrap IntKind.i64 (j25 + 1))
 else none
 else none
 else none
 else none := by kernel_rfl
theorem ref10_Bound_e (n : Nat) (s0 : ByteArray) (b1 : Bool) (j2 : Int) (s3 : ByteArray) (s4 : ByteArray) (b5 : Bool) (r6 : Rows) (s7 : ByteArray) (b8 : Bool) (j9 : Int) (s10 : ByteArray) (b11 : Bool) (r12 : Rows) (j13 : Int) : ref10_Bound_v n s0 b1 j2 s3 s4 b5 r6 s7 b8 j9 s10 b11 r12 j13 =
 obind (ref10_with_v n true [] s0 b1 j2 s3) fun y14 =>
 ref10_Bound_l3 n s0 b1 j2 s3 s4 b5 r6 s7 b8 j9 s10 b11 r12 j13 n y14.fst.fst y14.fst.snd 0 := by kernel_rfl
theorem ref10_Bound_c (n : Nat) (s0 : ByteArray) (b1 : Bool) (j2 : Int) (s3 : ByteArray) (s4 : ByteArray) (b5 : Bool) (r6 : Rows) (s7 : ByteArray) (b8 : Bool) (j9 : Int) (s10 : ByteArray) (b11 : Bool) (r12 : Rows) (j13 : Int) (y : (Bool × Rows) × Unit) (h : ref10_Bound_v n s0 b1 j2 s3 s4 b5 r6 s7 b8 j9 s10 b11 r12 j13 = some y) : Contract Tryz.prog 49 [AV.agg [aS s0, aB b1, aI j2, aS s3, aS s4, AV.sl b5 kdT r6 Right.no, aS s7, aB b8, aI j9, aS s10, AV.sl b11 kdL r12 Right.no], aI j13] [] (OSh.enc (OSh.plain (.slt [Kd.s] 0) []) y) :=
 ac (OSh.plain (.slt [Kd.s] 0) []) (ref10_Bound_σok n) Tryz.func49 (by decide) h
def ref10_free_lv : Live := [(2, [1, 3], [1, 1000, 1001, 1002, 1003])]
def ref10_free_σ (n : Nat) : Spec := (inst 49 [.agg [.s, .b, .i .i64, .s, .s, .sl kdT, .s, .b, .i .i64, .s, .sl kdL], .i .i64] [] (OSh.plain (.slt [Kd.s] 0) []) (fun x e => ref10_Bound_v n x.1.1 x.1.2.1 x.1.2.2.1 x.1.2.2.2.1 x.1.2.2.2.2.1 x.1.2.2.2.2.2.1.1 x.1.2.2.2.2.2.1.2 x.1.2.2.2.2.2.2.1 x.1.2.2.2.2.2.2.2.1 x.1.2.2.2.2.2.2.2.2.1 x.1.2.2.2.2.2.2.2.2.2.1 x.1.2.2.2.2.2.2.2.2.2.2.1.1 x.1.2.2.2.2.2.2.2.2.2.2.1.2 x.2.1) (inst 48 [.sl [Kd.s], .s] [] (OSh.plain (.b) []) (fun x e => ref10_Has_v n x.1.1 x.1.2 x.2.1) Spec.none))
theorem ref10_free_σok (n : Nat) : SpecOk Tryz.prog (ref10_free_σ n) := (inst_ok (fun x e y h => ref10_Bound_c n x.1.1 x.1.2.1 x.1.2.2.1 x.1.2.2.2.1 x.1.2.2.2.2.1 x.1.2.2.2.2.2.1.1 x.1.2.2.2.2.2.1.2 x.1.2.2.2.2.2.2.1 x.1.2.2.2.2.2.2.2.1 x.1.2.2.2.2.2.2.2.2.1 x.1.2.2.2.2.2.2.2.2.2.1 x.1.2.2.2.2.2.2.2.2.2.2.1.1 x.1.2.2.2.2.2.2.2.2.2.2.1.2 x.2.1 y h) (inst_ok (fun x e y h => ref10_Has_c n x.1.1 x.1.2 x.2.1 y h) (SpecOk.none _)))
def ref10_free_Φ (n : Nat) : Orc := with_ Tryz.prog (ref10_free_σ n) [] n 0 hsL
def ref10_free_v (n : Nat) (s0 : ByteArray) (b1 : Bool) (j2 : Int) (s3 : ByteArray) (s4 : ByteArray) (b5 : Bool) (r6 : Rows) (s7 : ByteArray) (b8 : Bool) (j9 : Int) (s10 : ByteArray) (b11 : Bool) (r12 : Rows) : Option (Int × Unit) :=
 DM.denFn tm (ref10_free_Φ n) ref10_free_lv n Tryz.f21 false [AV.agg [aS s0, aB b1, aI j2, aS s3, aS s4, AV.sl b5 kdT r6 Right.no, aS s7, aB b8, aI j9, aS s10, AV.sl b11 kdL r12 Right.no]] [] (OSh.chk (OSh.plain (.i .i64) []))
def ref10_free_l2 (n : Nat) (s0 : ByteArray) (b1 : Bool) (j2 : Int) (s3 : ByteArray) (s4 : ByteArray) (b5 : Bool) (r6 : Rows) (s7 : ByteArray) (b8 : Bool) (j9 : Int) (s10 : ByteArray) (b11 : Bool) (r12 : Rows) (i0 : Nat) (j15 : Int) : Option (Int × Unit) :=
 DM.loopFn tm (ref10_free_Φ n) ref10_free_lv n Tryz.f21 false [] (OSh.chk (OSh.plain (.i .i64) [])) 2 [] i0 (St.mk ([Jk, AV.pl 1 0, Jk, aI j15] ++ jk 26) [(1, [aS s0, aB b1, aI j2, aS s3, aS s4, AV.sl b5 kdT r6 Right.no, aS s7, aB b8, aI j9, aS s10, AV.sl b11 kdL r12 Right.no])])
theorem ref10_free_s2 (n : Nat) (s0 : ByteArray) (b1 : Bool) (j2 : Int) (s3 : ByteArray) (s4 : ByteArray) (b5 : Bool) (r6 : Rows) (s7 : ByteArray) (b8 : Bool) (j9 : Int) (s10 : ByteArray) (b11 : Bool) (r12 : Rows) (i0 : Nat) (j15 : Int) : ref10_free_l2 n s0 b1 j2 s3 s4 b5 r6 s7 b8 j9 s10 b11 r12 (i0 + 1) j15 =
 bif decide (j15 < (↑(List.length r12) : Int)) then
 if 0 ≤ j15 then
 if j15 < (↑(List.length r12) : Int) then
 bif !Row.S (List.getD r12 (Int.toNat j15) []) 6 == ByteArray.mk #[] then
 obind (ref10_Bound_v n s0 b1 j2 s3 s4 b5 r6 s7 b8 j9 s10 b11 r12 j15) fun y16 =>
 obind (ref10_Has_v n y16.fst.fst y16.fst.snd (Row.S (List.getD r12 (Int.toNat j15) []) 6)) fun y17 =>
 bif !y17.fst then
 some (j15, ())
 else ref10_free_l2 n s0 b1 j2 s3 s4 b5 r6 s7 b8 j9 s10 b11 r12 i0 (IntKind.wrap IntKind.i64 (j15 + 1))
 else ref10_free_l2 n s0 b1 j2 s3 s4 b5 r6 s7 b8 j9 s10 b11 r12 i0 (IntKind.wrap IntKind.i64 (j15 + 1))
 else none
 else none
 else some (-2, ()) := by kernel_rfl
theorem ref10_free_e (n : Nat) (s0 : ByteArray) (b1 : Bool) (j2 : Int) (s3 : ByteArray) (s4 : ByteArray) (b5 : Bool) (r6 : Rows) (s7 : ByteArray) (b8 : Bool) (j9 : Int) (s10 : ByteArray) (b11 : Bool) (r12 : Rows) : ref10_free_v n s0 b1 j2 s3 s4 b5 r6 s7 b8 j9 s10 b11 r12 =
 ref10_free_l2 n s0 b1 j2 s3 s4 b5 r6 s7 b8 j9 s10 b11 r12 n 0 := by kernel_rfl
theorem ref10_free_c (n : Nat) (s0 : ByteArray) (b1 : Bool) (j2 : Int) (s3 : ByteArray) (s4 : ByteArray) (b5 : Bool) (r6 : Rows) (s7 : ByteArray) (b8 : Bool) (j9 : Int) (s10 : ByteArray) (b11 : Bool) (r12 : Rows) (y : Int × Unit) (h : ref10_free_v n s0 b1 j2 s3 s4 b5 r6 s7 b8 j9 s10 b11 r12 = some y) : Contract Tryz.prog 21 [AV.agg [aS s0, aB b1, aI j2, aS s3, aS s4, AV.sl b5 kdT r6 Right.no, aS s7, aB b8, aI j9, aS s10, AV.sl b11 kdL r12 Right.no]] [] (OSh.enc (OSh.plain (.i .i64) []) y) :=
 ac (OSh.plain (.i .i64) []) (ref10_free_σok n) Tryz.func21 (by decide) h
def ref10_Vars_lv : Live := []
def ref10_Vars_σ (n : Nat) : Spec := (inst 49 [.agg [.s, .b, .i .i64, .s, .s, .sl kdT, .s, .b, .i .i64, .s, .sl kdL], .i .i64] [] (OSh.plain (.slt [Kd.s] 0) []) (fun x e => ref10_Bound_v n x.1.1 x.1.2.1 x.1.2.2.1 x.1.2.2.2.1 x.1.2.2.2.2.1 x.1.2.2.2.2.2.1.1 x.1.2.2.2.2.2.1.2 x.1.2.2.2.2.2.2.1 x.1.2.2.2.2.2.2.2.1 x.1.2.2.2.2.2.2.2.2.1 x.1.2.2.2.2.2.2.2.2.2.1 x.1.2.2.2.2.2.2.2.2.2.2.1.1 x.1.2.2.2.2.2.2.2.2.2.2.1.2 x.2.1) Spec.none)
theorem ref10_Vars_σok (n : Nat) : SpecOk Tryz.prog (ref10_Vars_σ n) := (inst_ok (fun x e y h => ref10_Bound_c n x.1.1 x.1.2.1 x.1.2.2.1 x.1.2.2.2.1 x.1.2.2.2.2.1 x.1.2.2.2.2.2.1.1 x.1.2.2.2.2.2.1.2 x.1.2.2.2.2.2.2.1 x.1.2.2.2.2.2.2.2.1 x.1.2.2.2.2.2.2.2.2.1 x.1.2.2.2.2.2.2.2.2.2.1 x.1.2.2.2.2.2.2.2.2.2.2.1.1 x.1.2.2.2.2.2.2.2.2.2.2.1.2 x.2.1 y h) (SpecOk.none _))
def ref10_Vars_Φ (n : Nat) : Orc := with_ Tryz.prog (ref10_Vars_σ n) [] n 0 hsL
def ref10_Vars_v (n : Nat) (s0 : ByteArray) (b1 : Bool) (j2 : Int) (s3 : ByteArray) (s4 : ByteArray) (b5 : Bool) (r6 : Rows) (s7 : ByteArray) (b8 : Bool) (j9 : Int) (s10 : ByteArray) (b11 : Bool) (r12 : Rows) : Option ((Bool × Rows) × Unit) :=
 DM.denFn tm (ref10_Vars_Φ n) ref10_Vars_lv n Tryz.f50 true [AV.agg [aS s0, aB b1, aI j2, aS s3, aS s4, AV.sl b5 kdT r6 Right.no, aS s7, aB b8, aI j9, aS s10, AV.sl b11 kdL r12 Right.no]] [] (OSh.chk (OSh.plain (.slt [Kd.s] 0) []))
theorem ref10_Vars_e (n : Nat) (s0 : ByteArray) (b1 : Bool) (j2 : Int) (s3 : ByteArray) (s4 : ByteArray) (b5 : Bool) (r6 : Rows) (s7 : ByteArray) (b8 : Bool) (j9 : Int) (s10 : ByteArray) (b11 : Bool) (r12 : Rows) : ref10_Vars_v n s0 b1 j2 s3 s4 b5 r6 s7 b8 j9 s10 b11 r12 =
 obind (ref10_Bound_v n s0 b1 j2 s3 s4 b5 r6 s7 b8 j9 s10 b11 r12 ((↑(List.length r12) : Int))) fun y13 =>
 some ((y13.fst.fst, y13.fst.snd), ()) := by kernel_rfl
theorem ref10_Vars_c (n : Nat) (s0 : ByteArray) (b1 : Bool) (j2 : Int) (s3 : ByteArray) (s4 : ByteArray) (b5 : Bool) (r6 : Rows) (s7 : ByteArray) (b8 : Bool) (j9 : Int) (s10 : ByteArray) (b11 : Bool) (r12 : Rows) (y : (Bool × Rows) × Unit) (h : ref10_Vars_v n s0 b1 j2 s3 s4 b5 r6 s7 b8 j9 s10 b11 r12 = some y) : Contract Tryz.prog 50 [AV.agg [aS s0, aB b1, aI j2, aS s3, aS s4, AV.sl b5 kdT r6 Right.no, aS s7, aB b8, aI j9, aS s10, AV.sl b11 kdL r12 Right.no]] [] (OSh.enc (OSh.plain (.slt [Kd.s] 0) []) y) :=
 ac (OSh.plain (.slt [Kd.s] 0) []) (ref10_Vars_σok n) Tryz.func50 (by decide) h
def ref10_open_lv : Live := [(5, [1, 3, 4], [1, 1000, 1001, 1002, 1003])]
def ref10_open_σ (n : Nat) : Spec := (inst 50 [.agg [.s, .b, .i .i64, .s, .s, .sl kdT, .s, .b, .i .i64, .s, .sl kdL]] [] (OSh.plain (.slt [Kd.s] 0) []) (fun x e => ref10_Vars_v n x.1.1 x.1.2.1 x.1.2.2.1 x.1.2.2.2.1 x.1.2.2.2.2.1 x.1.2.2.2.2.2.1.1 x.1.2.2.2.2.2.1.2 x.1.2.2.2.2.2.2.1 x.1.2.2.2.2.2.2.2.1 x.1.2.2.2.2.2.2.2.2.1 x.1.2.2.2.2.2.2.2.2.2.1 x.1.2.2.2.2.2.2.2.2.2.2.1.1 x.1.2.2.2.2.2.2.2.2.2.2.1.2) (inst 48 [.sl [Kd.s], .s] [] (OSh.plain (.b) []) (fun x e => ref10_Has_v n x.1.1 x.1.2 x.2.1) Spec.none))
theorem ref10_open_σok (n : Nat) : SpecOk Tryz.prog (ref10_open_σ n) := (inst_ok (fun x e y h => ref10_Vars_c n x.1.1 x.1.2.1 x.1.2.2.1 x.1.2.2.2.1 x.1.2.2.2.2.1 x.1.2.2.2.2.2.1.1 x.1.2.2.2.2.2.1.2 x.1.2.2.2.2.2.2.1 x.1.2.2.2.2.2.2.2.1 x.1.2.2.2.2.2.2.2.2.1 x.1.2.2.2.2.2.2.2.2.2.1 x.1.2.2.2.2.2.2.2.2.2.2.1.1 x.1.2.2.2.2.2.2.2.2.2.2.1.2 y h) (inst_ok (fun x e y h => ref10_Has_c n x.1.1 x.1.2 x.2.1 y h) (SpecOk.none _)))
def ref10_open_Φ (n : Nat) : Orc := with_ Tryz.prog (ref10_open_σ n) [] n 0 hsL
def ref10_open_v (n : Nat) (s0 : ByteArray) (b1 : Bool) (j2 : Int) (s3 : ByteArray) (s4 : ByteArray) (b5 : Bool) (r6 : Rows) (s7 : ByteArray) (b8 : Bool) (j9 : Int) (s10 : ByteArray) (b11 : Bool) (r12 : Rows) : Option (Bool × Unit) :=
 DM.denFn tm (ref10_open_Φ n) ref10_open_lv n Tryz.f22 false [AV.agg [aS s0, aB b1, aI j2, aS s3, aS s4, AV.sl b5 kdT r6 Right.no, aS s7, aB b8, aI j9, aS s10, AV.sl b11 kdL r12 Right.no]] [] (OSh.chk (OSh.plain (.b) []))
def ref10_open_l5 (n : Nat) (s0 : ByteArray) (b1 : Bool) (j2 : Int) (s3 : ByteArray) (s4 : ByteArray) (b5 : Bool) (r6 : Rows) (s7 : ByteArray) (b8 : Bool) (j9 : Int) (s10 : ByteArray) (b11 : Bool) (r12 : Rows) (i0 : Nat) (b15 : Bool) (r16 : List (List DV)) (j18 : Int) : Option (Bool × Unit) :=
 DM.loopFn tm (ref10_open_Φ n) ref10_open_lv n Tryz.f22 false [] (OSh.chk (OSh.plain (.b) [])) 5 [] i0 (St.mk ([Jk, AV.pl 1 0, Jk, AV.sl b15 [Kd.s] r16 (Right.tok 3), aI j18] ++ jk 39) [(1, [aS s0, aB b1, aI j2, aS s3, aS s4, AV.sl b5 kdT r6 Right.no, aS s7, aB b8, aI j9, aS s10, AV.sl b11 kdL r12 Right.no])])
theorem ref10_open_s5 (n : Nat) (s0 : ByteArray) (b1 : Bool) (j2 : Int) (s3 : ByteArray) (s4 : ByteArray) (b5 : Bool) (r6 : Rows) (s7 : ByteArray) (b8 : Bool) (j9 : Int) (s10 : ByteArray) (b11 : Bool) (r12 : Rows) (i0 : Nat) (b15 : Bool) (r16 : List (List DV)) (j18 : Int) : ref10_open_l5 n s0 b1 j2 s3 s4 b5 r6 s7 b8 j9 s10 b11 r12 (i0 + 1) b15 r16 j18 =
 bif decide (j18 < (↑(List.length r6) : Int)) then
 if 0 ≤ j18 then
 if j18 < (↑(List.length r6) : Int) then
 bif !Row.S (List.getD r6 (Int.toNat j18) []) 0 == ByteArray.mk #[] then
 if 0 ≤ j18 then
 if j18 < (↑(List.length r6) : Int) then
 obind (ref10_Has_v n b15 r16 (Row.S (List.getD r6 (Int.toNat j18) []) 0)) fun y19 =>
 bif !y19.fst then
 some (true, ())
 else ref10_open_l5 n s0 b1 j2 s3 s4 b5 r6 s7 b8 j9 s10 b11 r12 i0 b15 r16 (IntKind.wrap IntKind.i64 (j18 + 1))
 else none
 else none
 else ref10_open_l5 n s0 b1 j2 s3 s4 b5 r6 s7 b8 j9 s10 b11 r12 i0 b15 r16 (IntKind.wrap IntKind.i64 (j18 + 1))
 else none
 else none
 else some (false, ()) := by kernel_rfl
theorem ref10_open_e (n : Nat) (s0 : ByteArray) (b1 : Bool) (j2 : Int) (s3 : ByteArray) (s4 : ByteArray) (b5 : Bool) (r6 : Rows) (s7 : ByteArray) (b8 : Bool) (j9 : Int) (s10 : ByteArray) (b11 : Bool) (r12 : Rows) : ref10_open_v n s0 b1 j2 s3 s4 b5 r6 s7 b8 j9 s10 b11 r12 =
 obind (ref10_Vars_v n s0 b1 j2 s3 s4 b5 r6 s7 b8 j9 s10 b11 r12) fun y13 =>
 bif !s7 == ByteArray.mk #[] then
 obind (ref10_Has_v n y13.fst.fst y13.fst.snd s7) fun y14 =>
 bif !y14.fst then
 some (true, ())
 else ref10_open_l5 n s0 b1 j2 s3 s4 b5 r6 s7 b8 j9 s10 b11 r12 n y13.fst.fst y13.fst.snd 0
 else ref10_open_l5 n s0 b1 j2 s3 s4 b5 r6 s7 b8 j9 s10 b11 r12 n y13.fst.fst y13.fst.snd 0 := by kernel_rfl
theorem ref10_open_c (n : Nat) (s0 : ByteArray) (b1 : Bool) (j2 : Int) (s3 : ByteArray) (s4 : ByteArray) (b5 : Bool) (r6 : Rows) (s7 : ByteArray) (b8 : Bool) (j9 : Int) (s10 : ByteArray) (b11 : Bool) (r12 : Rows) (y : Bool × Unit) (h : ref10_open_v n s0 b1 j2 s3 s4 b5 r6 s7 b8 j9 s10 b11 r12 = some y) : Contract Tryz.prog 22 [AV.agg [aS s0, aB b1, aI j2, aS s3, aS s4, AV.sl b5 kdT r6 Right.no, aS s7, aB b8, aI j9, aS s10, AV.sl b11 kdL r12 Right.no]] [] (OSh.enc (OSh.plain (.b) []) y) :=
 ac (OSh.plain (.b) []) (ref10_open_σok n) Tryz.func22 (by decide) h
def ref10_Program_lv : Live := [(5, [0, 5, 6], [1000, 1001, 1002, 1003])]
def ref10_Program_σ (n : Nat) : Spec := (inst 18 [.agg [.s, .b, .i .i64, .s, .s, .sl kdT, .s, .b, .i .i64, .s, .sl kdL]] [] (OSh.plain (.tup [.s, .i .i64]) []) (fun x e => ref09_Rule_v n x.1.1 x.1.2.1 x.1.2.2.1 x.1.2.2.2.1 x.1.2.2.2.2.1 x.1.2.2.2.2.2.1.1 x.1.2.2.2.2.2.1.2 x.1.2.2.2.2.2.2.1 x.1.2.2.2.2.2.2.2.1 x.1.2.2.2.2.2.2.2.2.1 x.1.2.2.2.2.2.2.2.2.2.1 x.1.2.2.2.2.2.2.2.2.2.2.1.1 x.1.2.2.2.2.2.2.2.2.2.2.1.2) (inst 19 [.agg [.s, .b, .i .i64, .s, .s, .sl kdT, .s, .b, .i .i64, .s, .sl kdL]] [] (OSh.plain (.i .i64) []) (fun x e => ref10_places_v n x.1.1 x.1.2.1 x.1.2.2.1 x.1.2.2.2.1 x.1.2.2.2.2.1 x.1.2.2.2.2.2.1.1 x.1.2.2.2.2.2.1.2 x.1.2.2.2.2.2.2.1 x.1.2.2.2.2.2.2.2.1 x.1.2.2.2.2.2.2.2.2.1 x.1.2.2.2.2.2.2.2.2.2.1 x.1.2.2.2.2.2.2.2.2.2.2.1.1 x.1.2.2.2.2.2.2.2.2.2.2.1.2) (inst 20 [.slt [Kd.s, Kd.i .i64] 500000, .agg [.s, .b, .i .i64, .s, .s, .sl kdT, .s, .b, .i .i64, .s, .sl kdL]] [] (OSh.plain (.tup [.slt [Kd.s, Kd.i .i64] 0, .i .i64]) []) (fun x e => ref10_arities_v n x.1.1 x.1.2 x.2.1.1 x.2.1.2.1 x.2.1.2.2.1 x.2.1.2.2.2.1 x.2.1.2.2.2.2.1 x.2.1.2.2.2.2.2.1.1 x.2.1.2.2.2.2.2.1.2 x.2.1.2.2.2.2.2.2.1 x.2.1.2.2.2.2.2.2.2.1 x.2.1.2.2.2.2.2.2.2.2.1 x.2.1.2.2.2.2.2.2.2.2.2.1 x.2.1.2.2.2.2.2.2.2.2.2.2.1.1 x.2.1.2.2.2.2.2.2.2.2.2.2.1.2) (inst 21 [.agg [.s, .b, .i .i64, .s, .s, .sl kdT, .s, .b, .i .i64, .s, .sl kdL]] [] (OSh.plain (.i .i64) []) (fun x e => ref10_free_v n x.1.1 x.1.2.1 x.1.2.2.1 x.1.2.2.2.1 x.1.2.2.2.2.1 x.1.2.2.2.2.2.1.1 x.1.2.2.2.2.2.1.2 x.1.2.2.2.2.2.2.1 x.1.2.2.2.2.2.2.2.1 x.1.2.2.2.2.2.2.2.2.1 x.1.2.2.2.2.2.2.2.2.2.1 x.1.2.2.2.2.2.2.2.2.2.2.1.1 x.1.2.2.2.2.2.2.2.2.2.2.1.2) (inst 22 [.agg [.s, .b, .i .i64, .s, .s, .sl kdT, .s, .b, .i .i64, .s, .sl kdL]] [] (OSh.plain (.b) []) (fun x e => ref10_open_v n x.1.1 x.1.2.1 x.1.2.2.1 x.1.2.2.2.1 x.1.2.2.2.2.1 x.1.2.2.2.2.2.1.1 x.1.2.2.2.2.2.1.2 x.1.2.2.2.2.2.2.1 x.1.2.2.2.2.2.2.2.1 x.1.2.2.2.2.2.2.2.2.1 x.1.2.2.2.2.2.2.2.2.2.1 x.1.2.2.2.2.2.2.2.2.2.2.1.1 x.1.2.2.2.2.2.2.2.2.2.2.1.2) Spec.none)))))
theorem ref10_Program_σok (n : Nat) : SpecOk Tryz.prog (ref10_Program_σ n) := (inst_ok (fun x e y h => ref09_Rule_c n x.1.1 x.1.2.1 x.1.2.2.1 x.1.2.2.2.1 x.1.2.2.2.2.1 x.1.2.2.2.2.2.1.1 x.1.2.2.2.2.2.1.2 x.1.2.2.2.2.2.2.1 x.1.2.2.2.2.2.2.2.1 x.1.2.2.2.2.2.2.2.2.1 x.1.2.2.2.2.2.2.2.2.2.1 x.1.2.2.2.2.2.2.2.2.2.2.1.1 x.1.2.2.2.2.2.2.2.2.2.2.1.2 y h) (inst_ok (fun x e y h => ref10_places_c n x.1.1 x.1.2.1 x.1.2.2.1 x.1.2.2.2.1 x.1.2.2.2.2.1 x.1.2.2.2.2.2.1.1 x.1.2.2.2.2.2.1.2 x.1.2.2.2.2.2.2.1 x.1.2.2.2.2.2.2.2.1 x.1.2.2.2.2.2.2.2.2.1 x.1.2.2.2.2.2.2.2.2.2.1 x.1.2.2.2.2.2.2.2.2.2.2.1.1 x.1.2.2.2.2.2.2.2.2.2.2.1.2 y h) (inst_ok (fun x e y h => ref10_arities_c n x.1.1 x.1.2 x.2.1.1 x.2.1.2.1 x.2.1.2.2.1 x.2.1.2.2.2.1 x.2.1.2.2.2.2.1 x.2.1.2.2.2.2.2.1.1 x.2.1.2.2.2.2.2.1.2 x.2.1.2.2.2.2.2.2.1 x.2.1.2.2.2.2.2.2.2.1 x.2.1.2.2.2.2.2.2.2.2.1 x.2.1.2.2.2.2.2.2.2.2.2.1 x.2.1.2.2.2.2.2.2.2.2.2.2.1.1 x.2.1.2.2.2.2.2.2.2.2.2.2.1.2 y h) (inst_ok (fun x e y h => ref10_free_c n x.1.1 x.1.2.1 x.1.2.2.1 x.1.2.2.2.1 x.1.2.2.2.2.1 x.1.2.2.2.2.2.1.1 x.1.2.2.2.2.2.1.2 x.1.2.2.2.2.2.2.1 x.1.2.2.2.2.2.2.2.1 x.1.2.2.2.2.2.2.2.2.1 x.1.2.2.2.2.2.2.2.2.2.1 x.1.2.2.2.2.2.2.2.2.2.2.1.1 x.1.2.2.2.2.2.2.2.2.2.2.1.2 y h) (inst_ok (fun x e y h => ref10_open_c n x.1.1 x.1.2.1 x.1.2.2.1 x.1.2.2.2.1 x.1.2.2.2.2.1 x.1.2.2.2.2.2.1.1 x.1.2.2.2.2.2.1.2 x.1.2.2.2.2.2.2.1 x.1.2.2.2.2.2.2.2.1 x.1.2.2.2.2.2.2.2.2.1 x.1.2.2.2.2.2.2.2.2.2.1 x.1.2.2.2.2.2.2.2.2.2.2.1.1 x.1.2.2.2.2.2.2.2.2.2.2.1.2 y h) (SpecOk.none _))))))
def ref10_Program_Φ (n : Nat) : Orc := with_ Tryz.prog (ref10_Program_σ n) [] n 0 hsL
def ref10_Program_v (n : Nat) (b0 : Bool) (r1 : Rows) : Option ((Int × Int × Int × Unit) × Unit) :=
 DM.denFn tm (ref10_Program_Φ n) ref10_Program_lv n Tryz.f9 false [AV.sl b0 kdR r1 Right.no] [] (OSh.chk (OSh.plain (.tup [.i .i64, .i .i64, .i .i64]) []))
def ref10_Program_l5 (n : Nat) (b0 : Bool) (r1 : Rows) (i0 : Nat) (b7 : Bool) (r8 : List (List DV)) (j9 : Int) : Option ((Int × Int × Int × Unit) × Unit) :=
 DM.loopFn tm (ref10_Program_Φ n) ref10_Program_lv n Tryz.f9 false [] (OSh.chk (OSh.plain (.tup [.i .i64, .i .i64, .i .i64]) [])) 5 [] i0 (St.mk ([AV.sl b0 kdR r1 Right.no, Jk, Jk, Jk, Jk, AV.sl b7 [Kd.s, Kd.i .i64] r8 (Right.tok 5), aI j9] ++ jk 60) [])
theorem ref10_Program_s5 (n : Nat) (b0 : Bool) (r1 : Rows) (i0 : Nat) (b7 : Bool) (r8 : List (List DV)) (j9 : Int) : ref10_Program_l5 n b0 r1 (i0 + 1) b7 r8 j9 =
 bif decide (j9 < (↑(List.length r1) : Int)) then
 if 0 ≤ j9 then
 if j9 < (↑(List.length r1) : Int) then
 obind (ref09_Rule_v n (Row.S (List.getD r1 (Int.toNat j9) []) 0) (Row.B (List.getD r1 (Int.toNat j9) []) 1) (Row.I (List.getD r1 (Int.toNat j9) []) 2) (Row.S (List.getD r1 (Int.toNat j9) []) 3) (Row.S (List.getD r1 (Int.toNat j9) []) 4) (Row.N (List.getD r1 (Int.toNat j9) []) 5) (Row.R (List.getD r1 (Int.toNat j9) []) 5) (Row.S (List.getD r1 (Int.toNat j9) []) 6) (Row.B (List.getD r1 (Int.toNat j9) []) 7) (Row.I (List.getD r1 (Int.toNat j9) []) 8) (Row.S (List.getD r1 (Int.toNat j9) []) 9) (Row.N (List.getD r1 (Int.toNat j9) []) 10) (Row.R (List.getD r1 (Int.toNat j9) []) 10)) fun y10 =>
 bif y10.fst.snd.fst != 0 then
 some ((100, (j9, (-1, ()))), ())
 else if 0 ≤ j9 then
 if j9 < (↑(List.length r1) : Int) then
 obind (ref10_places_v n (Row.S (List.getD r1 (Int.toNat j9) []) 0) (Row.B (List.getD r1 (Int.toNat j9) []) 1) (Row.I (List.getD r1 (Int.toNat j9) []) 2) (Row.S (List.getD r1 (Int.toNat j9) []) 3) (Row.S (List.getD r1 (Int.toNat j9) []) 4) (Row.N (List.getD r1 (Int.toNat j9) []) 5) (Row.R (List.getD r1 (Int.toNat j9) []) 5) (Row.S (List.getD r1 (Int.toNat j9) []) 6) (Row.B (List.getD r1 (Int.toNat j9) []) 7) (Row.I (List.getD r1 (Int.toNat j9) []) 8) (Row.S (List.getD r1 (Int.toNat j9) []) 9) (Row.N (List.getD r1 (Int.toNat j9) []) 10) (Row.R (List.getD r1 (Int.toNat j9) []) 10)) fun y11 =>
 bif decide (y11.fst > -2) then
 some ((101, (j9, (y11.fst, ()))), ())
 else if 0 ≤ j9 then
 if j9 < (↑(List.length r1) : Int) then
 obind (ref10_arities_v n b7 r8 (Row.S (List.getD r1 (Int.toNat j9) []) 0) (Row.B (List.getD r1 (Int.toNat j9) []) 1) (Row.I (List.getD r1 (Int.toNat j9) []) 2) (Row.S (List.getD r1 (Int.toNat j9) []) 3) (Row.S (List.getD r1 (Int.toNat j9) []) 4) (Row.N (List.getD r1 (Int.toNat j9) []) 5) (Row.R (List.getD r1 (Int.toNat j9) []) 5) (Row.S (List.getD r1 (Int.toNat j9) []) 6) (Row.B (List.getD r1 (Int.toNat j9) []) 7) (Row.I (List.getD r1 (Int.toNat j9) []) 8) (Row.S (List.getD r1 (Int.toNat j9) []) 9) (Row.N (List.getD r1 (Int.toNat j9) []) 10) (Row.R (List.getD r1 (Int.toNat j9) []) 10)) fun y12 =>
 bif decide (y12.fst.snd.fst > -2) then
 some ((102, (j9, (y12.fst.snd.fst, ()))), ())
 else if 0 ≤ j9 then
 if j9 < (↑(List.length r1) : Int) then
 obind (ref10_free_v n (Row.S (List.getD r1 (Int.toNat j9) []) 0) (Row.B (List.getD r1 (Int.toNat j9) []) 1) (Row.I (List.getD r1 (Int.toNat j9) []) 2) (Row.S (List.getD r1 (Int.toNat j9) []) 3) (Row.S (List.getD r1 (Int.toNat j9) []) 4) (Row.N (List.getD r1 (Int.toNat j9) []) 5) (Row.R (List.getD r1 (Int.toNat j9) []) 5) (Row.S (List.getD r1 (Int.toNat j9) []) 6) (Row.B (List.getD r1 (Int.toNat j9) []) 7) (Row.I (List.getD r1 (Int.toNat j9) []) 8) (Row.S (List.getD r1 (Int.toNat j9) []) 9) (Row.N (List.getD r1 (Int.toNat j9) []) 10) (Row.R (List.getD r1 (Int.toNat j9) []) 10)) fun y13 =>
 bif decide (y13.fst > -2) then
 some ((103, (j9, (y13.fst, ()))), ())
 else if 0 ≤ j9 then
 if j9 < (↑(List.length r1) : Int) then
 obind (ref10_open_v n (Row.S (List.getD r1 (Int.toNat j9) []) 0) (Row.B (List.getD r1 (Int.toNat j9) []) 1) (Row.I (List.getD r1 (Int.toNat j9) []) 2) (Row.S (List.getD r1 (Int.toNat j9) []) 3) (Row.S (List.getD r1 (Int.toNat j9) []) 4) (Row.N (List.getD r1 (Int.toNat j9) []) 5) (Row.R (List.getD r1 (Int.toNat j9) []) 5) (Row.S (List.getD r1 (Int.toNat j9) []) 6) (Row.B (List.getD r1 (Int.toNat j9) []) 7) (Row.I (List.getD r1 (Int.toNat j9) []) 8) (Row.S (List.getD r1 (Int.toNat j9) []) 9) (Row.N (List.getD r1 (Int.toNat j9) []) 10) (Row.R (List.getD r1 (Int.toNat j9) []) 10)) fun y14 =>
 bif y14.fst then
 some ((104, (j9, (-1, ()))), ())
 else ref10_Program_l5 n b0 r1 i0 y12.fst.fst.fst y12.fst.fst.snd (IntKind.wrap IntKind.i64 (j9 + 1))
 else none
 else none
 else none
 else none
 else none
 else none
 else none
 else none
 else none
 else none
 else some ((0, (-1, (-1, ()))), ()) := by kernel_rfl
theorem ref10_Program_e (n : Nat) (b0 : Bool) (r1 : Rows) : ref10_Program_v n b0 r1 =
 bif decide ((↑(List.length r1) : Int) > 16) then
 some ((81, (-1, (-1, ()))), ())
 else ref10_Program_l5 n b0 r1 n true [] 0 := by kernel_rfl
theorem ref10_Program_c (n : Nat) (b0 : Bool) (r1 : Rows) (y : (Int × Int × Int × Unit) × Unit) (h : ref10_Program_v n b0 r1 = some y) : Contract Tryz.prog 9 [AV.sl b0 kdR r1 Right.no] [] (OSh.enc (OSh.plain (.tup [.i .i64, .i .i64, .i .i64]) []) y) :=
 ac (OSh.plain (.tup [.i .i64, .i .i64, .i .i64]) []) (ref10_Program_σok n) Tryz.func9 (by decide) h
def law10_CheckTexts_lv : Live := []
def law10_CheckTexts_σ (n : Nat) : Spec := (inst 11 [.s] [] (OSh.plain (.tup [.sl kdR, .i .i64, .i .i64]) []) (fun x e => parse_Program_v n x.1) (inst 6 [] [] (OSh.plain (.b) []) (fun x e => law10_live_v n) (inst 8 [.sl kdR] [] (OSh.plain (.tup [.i .i64, .i .i64, .i .i64]) []) (fun x e => check_Program_v n x.1.1 x.1.2) (inst 9 [.sl kdR] [] (OSh.plain (.tup [.i .i64, .i .i64, .i .i64]) []) (fun x e => ref10_Program_v n x.1.1 x.1.2) Spec.none))))
theorem law10_CheckTexts_σok (n : Nat) : SpecOk Tryz.prog (law10_CheckTexts_σ n) := (inst_ok (fun x e y h => parse_Program_c n x.1 y h) (inst_ok (fun x e y h => law10_live_c n y h) (inst_ok (fun x e y h => check_Program_c n x.1.1 x.1.2 y h) (inst_ok (fun x e y h => ref10_Program_c n x.1.1 x.1.2 y h) (SpecOk.none _)))))
def law10_CheckTexts_Φ (n : Nat) : Orc := with_ Tryz.prog (law10_CheckTexts_σ n) [] n 0 hsL
def law10_CheckTexts_v (n : Nat) (s0 : ByteArray) : Option (Bool × Unit) :=
 DM.denFn tm (law10_CheckTexts_Φ n) law10_CheckTexts_lv n Tryz.f4 false [aS s0] [] (OSh.chk (OSh.plain (.b) []))
theorem law10_CheckTexts_e (n : Nat) (s0 : ByteArray) : law10_CheckTexts_v n s0 =
 obind (parse_Program_v n s0) fun y1 =>
 bif y1.fst.snd.snd.fst != 0 then
 obind (law10_live_v n) fun y2 =>
 some (y2.fst, ())
 else obind (check_Program_v n y1.fst.fst.fst y1.fst.fst.snd) fun y3 =>
 obind (ref10_Program_v n y1.fst.fst.fst y1.fst.fst.snd) fun y4 =>
 bif y3.fst.fst == y4.fst.fst then
 bif y3.fst.snd.fst == y4.fst.snd.fst then
 bif y3.fst.snd.snd.fst == y4.fst.snd.snd.fst then
 obind (law10_live_v n) fun y5 =>
 some (y5.fst, ())
 else some (false, ())
 else some (false, ())
 else some (false, ()) := by kernel_rfl
theorem law10_CheckTexts_c (n : Nat) (s0 : ByteArray) (y : Bool × Unit) (h : law10_CheckTexts_v n s0 = some y) : Contract Tryz.prog 4 [aS s0] [] (OSh.enc (OSh.plain (.b) []) y) :=
 ac (OSh.plain (.b) []) (law10_CheckTexts_σok n) Tryz.func4 (by decide) h
end
end Go.Den

