import Derived.Test.YtbdjanjcphgjdaaDoorZ04
set_option linter.unusedVariables false
set_option linter.unusedSimpArgs false
set_option linter.unusedSectionVars false
namespace Go.Den
noncomputable section
open Go.Proofs
set_option maxRecDepth 100000
def show_Term_lv : Live := []
def show_Term_σ (n : Nat) : Spec := (inst 86 [.s] [] (OSh.plain (.b) []) (fun x e => show_variable_v n x.1) (inst 36 [.i .i64] [] (OSh.plain (.s) []) (fun x e => strconv_Itoa_v n x.1) (inst 87 [.s] [] (OSh.plain (.b) []) (fun x e => show_plain_v n x.1) (inst 81 [.s] [] (OSh.plain (.b) []) (fun x e => show_word_v n x.1) Spec.none))))
theorem show_Term_σok (n : Nat) : SpecOk Tryd.prog (show_Term_σ n) := (inst_ok (fun x e y h => show_variable_c n x.1 y h) (inst_ok (fun x e y h => strconv_Itoa_c n x.1 y h) (inst_ok (fun x e y h => show_plain_c n x.1 y h) (inst_ok (fun x e y h => show_word_c n x.1 y h) (SpecOk.none _)))))
def show_Term_Φ (n : Nat) : Orc := with_ Tryd.prog (show_Term_σ n) [] n 0 hsL
def show_Term_v (n : Nat) (s0 : ByteArray) (b1 : Bool) (j2 : Int) (s3 : ByteArray) : Option ((ByteArray × Int × Unit) × Unit) :=
 DM.denFn tm (show_Term_Φ n) show_Term_lv n Tryd.f79 false [AV.agg [aS s0, aB b1, aI j2, aS s3]] [] (OSh.chk (OSh.plain (.tup [.s, .i .i64]) []))
theorem show_Term_e (n : Nat) (s0 : ByteArray) (b1 : Bool) (j2 : Int) (s3 : ByteArray) : show_Term_v n s0 b1 j2 s3 =
 bif !s0 == ByteArray.mk #[] then
 bif !(b1 == false && (j2 == 0 && (s3 == ByteArray.mk #[] && true))) then
 some ((ByteArray.mk #[], (100, ())), ())
 else obind (show_variable_v n s0) fun y4 =>
 bif !y4.fst then
 some ((ByteArray.mk #[], (100, ())), ())
 else some ((s0, (0, ())), ())
 else bif b1 then
 bif s3 == ByteArray.mk #[] then
 obind (strconv_Itoa_v n j2) fun y5 =>
 some ((y5.fst, (0, ())), ())
 else bif b1 then
 some ((ByteArray.mk #[], (100, ())), ())
 else bif j2 != 0 then
 some ((ByteArray.mk #[], (100, ())), ())
 else obind (show_plain_v n s3) fun y6 =>
 bif !y6.fst then
 some ((ByteArray.mk #[], (100, ())), ())
 else obind (show_word_v n s3) fun y7 =>
 bif y7.fst then
 some ((s3, (0, ())), ())
 else if 1 + ByteArray.size s3 < 4611686018427387904 then
 if ByteArray.size (ByteArray.mk #[34] ++ s3) + 1 < 4611686018427387904 then
 some ((ByteArray.mk #[34] ++ s3 ++ ByteArray.mk #[34], (0, ())), ())
 else none
 else none
 else bif b1 then
 some ((ByteArray.mk #[], (100, ())), ())
 else bif j2 != 0 then
 some ((ByteArray.mk #[], (100, ())), ())
 else obind (show_plain_v n s3) fun y8 =>
 bif !y8.fst then
 some ((ByteArray.mk #[], (100, ())), ())
 else obind (show_word_v n s3) fun y9 =>
 bif y9.fst then
 some ((s3, (0, ())), ())
 else if 1 + ByteArray.size s3 < 4611686018427387904 then
 if ByteArray.size (ByteArray.mk #[34] ++ s3) + 1 < 4611686018427387904 then
 some ((ByteArray.mk #[34] ++ s3 ++ ByteArray.mk #[34], (0, ())), ())
 else none
 else none := by kernel_rfl
theorem show_Term_c (n : Nat) (s0 : ByteArray) (b1 : Bool) (j2 : Int) (s3 : ByteArray) (y : (ByteArray × Int × Unit) × Unit) (h : show_Term_v n s0 b1 j2 s3 = some y) : Contract Tryd.prog 79 [AV.agg [aS s0, aB b1, aI j2, aS s3]] [] (OSh.enc (OSh.plain (.tup [.s, .i .i64]) []) y) :=
 ac (OSh.plain (.tup [.s, .i .i64]) []) (show_Term_σok n) Tryd.func79 (by decide) h
def sB_WriteString_nilp_lv : Live := []
def sB_WriteString_nilp_σ (n : Nat) : Spec := (inst 80 [.pl 1000 0] [[.nilp, .slt [Kd.i IntKind.u8] 500002, .b]] (OSh.plain (.tup []) [[.pl 1000 0, .slt [Kd.i IntKind.u8] 1, .b]]) (fun x e => sB_copyCheck_nilp_v n e.1.2.1.1 e.1.2.1.2 e.1.2.2.1) Spec.none)
theorem sB_WriteString_nilp_σok (n : Nat) : SpecOk Tryd.prog (sB_WriteString_nilp_σ n) := (inst_ok (fun x e y h => sB_copyCheck_nilp_c n e.1.2.1.1 e.1.2.1.2 e.1.2.2.1 y h) (SpecOk.none _))
def sB_WriteString_nilp_Φ (n : Nat) : Orc := with_ Tryd.prog (sB_WriteString_nilp_σ n) [] n 0 hsL
def sB_WriteString_nilp_v (n : Nat) (s0 : ByteArray) (b1 : Bool) (r2 : Rows) (b3 : Bool) : Option ((Int × Unit × Unit) × (Unit × (Bool × Rows) × Bool × Unit) × Unit) :=
 DM.denFn tm (sB_WriteString_nilp_Φ n) sB_WriteString_nilp_lv n Tryd.f54 false [AV.pl 1000 0, aS s0] [[AV.dv (DV.val (Value.pointer none)), AV.sl b1 [Kd.i IntKind.u8] r2 (Right.tok 500003), aB b3]] (OSh.chk (OSh.plain (.tup [.i .i64, .nili]) [[.pl 1000 0, .slt [Kd.i IntKind.u8] 1, .b]]))
theorem sB_WriteString_nilp_e (n : Nat) (s0 : ByteArray) (b1 : Bool) (r2 : Rows) (b3 : Bool) : sB_WriteString_nilp_v n s0 b1 r2 b3 =
 obind (sB_copyCheck_nilp_v n b1 r2 b3) fun y4 =>
 if (List.length y4.snd.fst.snd.fst.snd + ByteArray.size s0) * 1 ≤ 140737488355328 then
 some (((↑(ByteArray.size s0) : Int), ((), ())), (((), ((y4.snd.fst.snd.fst.fst && ByteArray.size s0 == 0, appX y4.snd.fst.snd.fst.snd (byteRows s0)), (y4.snd.fst.snd.snd.fst, ()))), ()))
 else none := by kernel_rfl
theorem sB_WriteString_nilp_c (n : Nat) (s0 : ByteArray) (b1 : Bool) (r2 : Rows) (b3 : Bool) (y : (Int × Unit × Unit) × (Unit × (Bool × Rows) × Bool × Unit) × Unit) (h : sB_WriteString_nilp_v n s0 b1 r2 b3 = some y) : Contract Tryd.prog 54 [AV.pl 1000 0, aS s0] [[AV.dv (DV.val (Value.pointer none)), AV.sl b1 [Kd.i IntKind.u8] r2 (Right.tok 500003), aB b3]] (OSh.enc (OSh.plain (.tup [.i .i64, .nili]) [[.pl 1000 0, .slt [Kd.i IntKind.u8] 1, .b]]) y) :=
 ac (OSh.plain (.tup [.i .i64, .nili]) [[.pl 1000 0, .slt [Kd.i IntKind.u8] 1, .b]]) (sB_WriteString_nilp_σok n) Tryd.func54 (by decide) h
def sp_term_nilp_lv : Live := []
def sp_term_nilp_σ (n : Nat) : Spec := (inst 79 [.agg [.s, .b, .i .i64, .s]] [] (OSh.plain (.tup [.s, .i .i64]) []) (fun x e => show_Term_v n x.1.1 x.1.2.1 x.1.2.2.1 x.1.2.2.2.1) (inst 54 [.pl 1000 0, .s] [[.nilp, .slt [Kd.i IntKind.u8] 500003, .b]] (OSh.plain (.tup [.i .i64, .nili]) [[.pl 1000 0, .slt [Kd.i IntKind.u8] 1, .b]]) (fun x e => sB_WriteString_nilp_v n x.2.1 e.1.2.1.1 e.1.2.1.2 e.1.2.2.1) Spec.none))
theorem sp_term_nilp_σok (n : Nat) : SpecOk Tryd.prog (sp_term_nilp_σ n) := (inst_ok (fun x e y h => show_Term_c n x.1.1 x.1.2.1 x.1.2.2.1 x.1.2.2.2.1 y h) (inst_ok (fun x e y h => sB_WriteString_nilp_c n x.2.1 e.1.2.1.1 e.1.2.1.2 e.1.2.2.1 y h) (SpecOk.none _)))
def sp_term_nilp_Φ (n : Nat) : Orc := with_ Tryd.prog (sp_term_nilp_σ n) [] n 0 hsL
def sp_term_nilp_v (n : Nat) (s0 : ByteArray) (s1 : ByteArray) (b2 : Bool) (j3 : Int) (s4 : ByteArray) (b5 : Bool) (r6 : Rows) (b7 : Bool) : Option (Unit × (Unit × (Bool × Rows) × Bool × Unit) × Unit) :=
 DM.denFn tm (sp_term_nilp_Φ n) sp_term_nilp_lv n Tryd.f53 false [AV.pl 1000 0, aS s0, AV.agg [aS s1, aB b2, aI j3, aS s4]] [[AV.dv (DV.val (Value.pointer none)), AV.sl b5 [Kd.i IntKind.u8] r6 (Right.tok 500004), aB b7]] (OSh.chk (OSh.plain (.tup []) [[.pl 1000 0, .slt [Kd.i IntKind.u8] 1, .b]]))
theorem sp_term_nilp_e (n : Nat) (s0 : ByteArray) (s1 : ByteArray) (b2 : Bool) (j3 : Int) (s4 : ByteArray) (b5 : Bool) (r6 : Rows) (b7 : Bool) : sp_term_nilp_v n s0 s1 b2 j3 s4 b5 r6 b7 =
 obind (show_Term_v n s1 b2 j3 s4) fun y8 =>
 bif b7 then
 if (Nat.beq 1 1 && Nat.ble 3 (List.length [AV.dv (DV.val (Value.pointer none)), AV.sl b5 [Kd.i IntKind.u8] r6 (Right.tok 500004), aB b7]) && AV.areCells [aB true] && virLe [AV.dv (DV.val (Value.pointer none)), AV.sl b5 [Kd.i IntKind.u8] r6 (Right.tok 500004), aB true] [AV.dv (DV.val (Value.pointer none)), AV.sl b5 [Kd.i IntKind.u8] r6 (Right.tok 500004), aB b7] && !Nat.beq 2 1000000000) = true then
 if ByteArray.size s0 + ByteArray.size y8.fst.fst < 4611686018427387904 then
 obind (sB_WriteString_nilp_v n (s0 ++ y8.fst.fst) b5 r6 true) fun y9 =>
 some ((), (((), ((y9.snd.fst.snd.fst.fst, y9.snd.fst.snd.fst.snd), (y9.snd.fst.snd.snd.fst, ()))), ()))
 else none
 else none
 else if (Nat.beq (List.length [AV.dv (DV.val (Value.bool (y8.fst.snd.fst != 0)))]) 1 && Nat.ble 3 (List.length [AV.dv (DV.val (Value.pointer none)), AV.sl b5 [Kd.i IntKind.u8] r6 (Right.tok 500004), aB b7]) && AV.areCells [AV.dv (DV.val (Value.bool (y8.fst.snd.fst != 0)))] && virLe [AV.dv (DV.val (Value.pointer none)), AV.sl b5 [Kd.i IntKind.u8] r6 (Right.tok 500004), AV.dv (DV.val (Value.bool (y8.fst.snd.fst != 0)))] [AV.dv (DV.val (Value.pointer none)), AV.sl b5 [Kd.i IntKind.u8] r6 (Right.tok 500004), aB b7] && !Nat.beq 2 1000000000) = true then
 if ByteArray.size s0 + ByteArray.size y8.fst.fst < 4611686018427387904 then
 obind (sB_WriteString_nilp_v n (s0 ++ y8.fst.fst) b5 r6 (y8.fst.snd.fst != 0)) fun y10 =>
 some ((), (((), ((y10.snd.fst.snd.fst.fst, y10.snd.fst.snd.fst.snd), (y10.snd.fst.snd.snd.fst, ()))), ()))
 else none
 else none := by kernel_rfl
theorem sp_term_nilp_c (n : Nat) (s0 : ByteArray) (s1 : ByteArray) (b2 : Bool) (j3 : Int) (s4 : ByteArray) (b5 : Bool) (r6 : Rows) (b7 : Bool) (y : Unit × (Unit × (Bool × Rows) × Bool × Unit) × Unit) (h : sp_term_nilp_v n s0 s1 b2 j3 s4 b5 r6 b7 = some y) : Contract Tryd.prog 53 [AV.pl 1000 0, aS s0, AV.agg [aS s1, aB b2, aI j3, aS s4]] [[AV.dv (DV.val (Value.pointer none)), AV.sl b5 [Kd.i IntKind.u8] r6 (Right.tok 500004), aB b7]] (OSh.enc (OSh.plain (.tup []) [[.pl 1000 0, .slt [Kd.i IntKind.u8] 1, .b]]) y) :=
 ac (OSh.plain (.tup []) [[.pl 1000 0, .slt [Kd.i IntKind.u8] 1, .b]]) (sp_term_nilp_σok n) Tryd.func53 (by decide) h
def sB_WriteString_lv : Live := []
def sB_WriteString_σ (n : Nat) : Spec := (inst 80 [.pl 1000 0] [[.pl 1000 0, .slt [Kd.i IntKind.u8] 500002, .b]] (OSh.plain (.tup []) [[.pl 1000 0, .slt [Kd.i IntKind.u8] 1, .b]]) (fun x e => sB_copyCheck_v n e.1.2.1.1 e.1.2.1.2 e.1.2.2.1) Spec.none)
theorem sB_WriteString_σok (n : Nat) : SpecOk Tryd.prog (sB_WriteString_σ n) := (inst_ok (fun x e y h => sB_copyCheck_c n e.1.2.1.1 e.1.2.1.2 e.1.2.2.1 y h) (SpecOk.none _))
def sB_WriteString_Φ (n : Nat) : Orc := with_ Tryd.prog (sB_WriteString_σ n) [] n 0 hsL
def sB_WriteString_v (n : Nat) (s0 : ByteArray) (b1 : Bool) (r2 : Rows) (b3 : Bool) : Option ((Int × Unit × Unit) × (Unit × (Bool × Rows) × Bool × Unit) × Unit) :=
 DM.denFn tm (sB_WriteString_Φ n) sB_WriteString_lv n Tryd.f54 false [AV.pl 1000 0, aS s0] [[AV.pl 1000 0, AV.sl b1 [Kd.i IntKind.u8] r2 (Right.tok 500003), aB b3]] (OSh.chk (OSh.plain (.tup [.i .i64, .nili]) [[.pl 1000 0, .slt [Kd.i IntKind.u8] 1, .b]]))
theorem sB_WriteString_e (n : Nat) (s0 : ByteArray) (b1 : Bool) (r2 : Rows) (b3 : Bool) : sB_WriteString_v n s0 b1 r2 b3 =
 obind (sB_copyCheck_v n b1 r2 b3) fun y4 =>
 if (List.length y4.snd.fst.snd.fst.snd + ByteArray.size s0) * 1 ≤ 140737488355328 then
 some (((↑(ByteArray.size s0) : Int), ((), ())), (((), ((y4.snd.fst.snd.fst.fst && ByteArray.size s0 == 0, appX y4.snd.fst.snd.fst.snd (byteRows s0)), (y4.snd.fst.snd.snd.fst, ()))), ()))
 else none := by kernel_rfl
theorem sB_WriteString_c (n : Nat) (s0 : ByteArray) (b1 : Bool) (r2 : Rows) (b3 : Bool) (y : (Int × Unit × Unit) × (Unit × (Bool × Rows) × Bool × Unit) × Unit) (h : sB_WriteString_v n s0 b1 r2 b3 = some y) : Contract Tryd.prog 54 [AV.pl 1000 0, aS s0] [[AV.pl 1000 0, AV.sl b1 [Kd.i IntKind.u8] r2 (Right.tok 500003), aB b3]] (OSh.enc (OSh.plain (.tup [.i .i64, .nili]) [[.pl 1000 0, .slt [Kd.i IntKind.u8] 1, .b]]) y) :=
 ac (OSh.plain (.tup [.i .i64, .nili]) [[.pl 1000 0, .slt [Kd.i IntKind.u8] 1, .b]]) (sB_WriteString_σok n) Tryd.func54 (by decide) h
def sp_term_lv : Live := []
def sp_term_σ (n : Nat) : Spec := (inst 79 [.agg [.s, .b, .i .i64, .s]] [] (OSh.plain (.tup [.s, .i .i64]) []) (fun x e => show_Term_v n x.1.1 x.1.2.1 x.1.2.2.1 x.1.2.2.2.1) (inst 54 [.pl 1000 0, .s] [[.pl 1000 0, .slt [Kd.i IntKind.u8] 500003, .b]] (OSh.plain (.tup [.i .i64, .nili]) [[.pl 1000 0, .slt [Kd.i IntKind.u8] 1, .b]]) (fun x e => sB_WriteString_v n x.2.1 e.1.2.1.1 e.1.2.1.2 e.1.2.2.1) Spec.none))
theorem sp_term_σok (n : Nat) : SpecOk Tryd.prog (sp_term_σ n) := (inst_ok (fun x e y h => show_Term_c n x.1.1 x.1.2.1 x.1.2.2.1 x.1.2.2.2.1 y h) (inst_ok (fun x e y h => sB_WriteString_c n x.2.1 e.1.2.1.1 e.1.2.1.2 e.1.2.2.1 y h) (SpecOk.none _)))
def sp_term_Φ (n : Nat) : Orc := with_ Tryd.prog (sp_term_σ n) [] n 0 hsL
def sp_term_v (n : Nat) (s0 : ByteArray) (s1 : ByteArray) (b2 : Bool) (j3 : Int) (s4 : ByteArray) (b5 : Bool) (r6 : Rows) (b7 : Bool) : Option (Unit × (Unit × (Bool × Rows) × Bool × Unit) × Unit) :=
 DM.denFn tm (sp_term_Φ n) sp_term_lv n Tryd.f53 false [AV.pl 1000 0, aS s0, AV.agg [aS s1, aB b2, aI j3, aS s4]] [[AV.pl 1000 0, AV.sl b5 [Kd.i IntKind.u8] r6 (Right.tok 500004), aB b7]] (OSh.chk (OSh.plain (.tup []) [[.pl 1000 0, .slt [Kd.i IntKind.u8] 1, .b]]))
theorem sp_term_e (n : Nat) (s0 : ByteArray) (s1 : ByteArray) (b2 : Bool) (j3 : Int) (s4 : ByteArray) (b5 : Bool) (r6 : Rows) (b7 : Bool) : sp_term_v n s0 s1 b2 j3 s4 b5 r6 b7 =
 obind (show_Term_v n s1 b2 j3 s4) fun y8 =>
 bif b7 then
 if ByteArray.size s0 + ByteArray.size y8.fst.fst < 4611686018427387904 then
 obind (sB_WriteString_v n (s0 ++ y8.fst.fst) b5 r6 true) fun y9 =>
 some ((), (((), ((y9.snd.fst.snd.fst.fst, y9.snd.fst.snd.fst.snd), (y9.snd.fst.snd.snd.fst, ()))), ()))
 else none
 else if ByteArray.size s0 + ByteArray.size y8.fst.fst < 4611686018427387904 then
 obind (sB_WriteString_v n (s0 ++ y8.fst.fst) b5 r6 (y8.fst.snd.fst != 0)) fun y10 =>
 some ((), (((), ((y10.snd.fst.snd.fst.fst, y10.snd.fst.snd.fst.snd), (y10.snd.fst.snd.snd.fst, ()))), ()))
 else none := by kernel_rfl
theorem sp_term_c (n : Nat) (s0 : ByteArray) (s1 : ByteArray) (b2 : Bool) (j3 : Int) (s4 : ByteArray) (b5 : Bool) (r6 : Rows) (b7 : Bool) (y : Unit × (Unit × (Bool × Rows) × Bool × Unit) × Unit) (h : sp_term_v n s0 s1 b2 j3 s4 b5 r6 b7 = some y) : Contract Tryd.prog 53 [AV.pl 1000 0, aS s0, AV.agg [aS s1, aB b2, aI j3, aS s4]] [[AV.pl 1000 0, AV.sl b5 [Kd.i IntKind.u8] r6 (Right.tok 500004), aB b7]] (OSh.enc (OSh.plain (.tup []) [[.pl 1000 0, .slt [Kd.i IntKind.u8] 1, .b]]) y) :=
 ac (OSh.plain (.tup []) [[.pl 1000 0, .slt [Kd.i IntKind.u8] 1, .b]]) (sp_term_σok n) Tryd.func53 (by decide) h
def sp_atom_lv : Live := [(3, [0, 31, 32, 33], [1000, 1001, 1002, 1003])]
def sp_atom_σ (n : Nat) : Spec := (inst 54 [.pl 1000 0, .s] [[.pl 1000 0, .slt [Kd.i IntKind.u8] 500003, .b]] (OSh.plain (.tup [.i .i64, .nili]) [[.pl 1000 0, .slt [Kd.i IntKind.u8] 1, .b]]) (fun x e => sB_WriteString_v n x.2.1 e.1.2.1.1 e.1.2.1.2 e.1.2.2.1) (inst 81 [.s] [] (OSh.plain (.b) []) (fun x e => show_word_v n x.1) (inst 53 [.pl 1000 0, .s, .agg [.s, .b, .i .i64, .s]] [[.pl 1000 0, .slt [Kd.i IntKind.u8] 500004, .b]] (OSh.plain (.tup []) [[.pl 1000 0, .slt [Kd.i IntKind.u8] 1, .b]]) (fun x e => sp_term_v n x.2.1 x.2.2.1.1 x.2.2.1.2.1 x.2.2.1.2.2.1 x.2.2.1.2.2.2.1 e.1.2.1.1 e.1.2.1.2 e.1.2.2.1) Spec.none)))
theorem sp_atom_σok (n : Nat) : SpecOk Tryd.prog (sp_atom_σ n) := (inst_ok (fun x e y h => sB_WriteString_c n x.2.1 e.1.2.1.1 e.1.2.1.2 e.1.2.2.1 y h) (inst_ok (fun x e y h => show_word_c n x.1 y h) (inst_ok (fun x e y h => sp_term_c n x.2.1 x.2.2.1.1 x.2.2.1.2.1 x.2.2.1.2.2.1 x.2.2.1.2.2.2.1 e.1.2.1.1 e.1.2.1.2 e.1.2.2.1 y h) (SpecOk.none _))))
def sp_atom_Φ (n : Nat) : Orc := with_ Tryd.prog (sp_atom_σ n) [] n 0 hsL
def sp_atom_v (n : Nat) (s0 : ByteArray) (b1 : Bool) (r2 : Rows) (b3 : Bool) (r4 : Rows) (b5 : Bool) : Option (Unit × (Unit × (Bool × Rows) × Bool × Unit) × Unit) :=
 DM.denFn tm (sp_atom_Φ n) sp_atom_lv n Tryd.f55 false [AV.pl 1000 0, aS s0, AV.sl b1 kdT r2 Right.no] [[AV.pl 1000 0, AV.sl b3 [Kd.i IntKind.u8] r4 (Right.tok 500004), aB b5]] (OSh.chk (OSh.plain (.tup []) [[.pl 1000 0, .slt [Kd.i IntKind.u8] 1, .b]]))
def sp_atom_l3 (n : Nat) (s0 : ByteArray) (b1 : Bool) (r2 : Rows) (b3 : Bool) (r4 : Rows) (b5 : Bool) (i0 : Nat) (b10 : Bool) (r11 : List (List DV)) (b12 : Bool) (j15 : Int) : Option (Unit × (Unit × (Bool × Rows) × Bool × Unit) × Unit) :=
 DM.loopFn tm (sp_atom_Φ n) sp_atom_lv n Tryd.f55 false [[AV.pl 1000 0, AV.sl b3 [Kd.i IntKind.u8] r4 (Right.tok 500004), aB b5]] (OSh.chk (OSh.plain (.tup []) [[.pl 1000 0, .slt [Kd.i IntKind.u8] 1, .b]])) 3 [] i0 (St.mk ([AV.pl 1000 0, Jk, Jk, Jk, Jk, Jk, Jk, Jk, Jk, Jk, Jk, Jk, Jk, Jk, Jk, Jk, Jk, Jk, Jk, Jk, Jk, Jk, Jk, Jk, Jk, Jk, Jk, Jk, Jk, Jk, Jk, AV.sl b1 kdT r2 Right.no, AV.dv (DV.val (Value.int .i64 (↑(List.length r2) : Int))), aI j15] ++ jk 23) [(1000, [AV.pl 1000 0, AV.sl b10 [Kd.i IntKind.u8] r11 (Right.tok 84001), aB b12])])
theorem sp_atom_s3 (n : Nat) (s0 : ByteArray) (b1 : Bool) (r2 : Rows) (b3 : Bool) (r4 : Rows) (b5 : Bool) (i0 : Nat) (b10 : Bool) (r11 : List (List DV)) (b12 : Bool) (j15 : Int) : sp_atom_l3 n s0 b1 r2 b3 r4 b5 (i0 + 1) b10 r11 b12 j15 =
 bif decide (j15 < (↑(List.length r2) : Int)) then
 if 0 ≤ j15 then
 if j15 < (↑(List.length r2) : Int) then
 bif decide (j15 > 0) then
 obind (sB_WriteString_v n (ByteArray.mk #[44, 32]) b10 r11 b12) fun y16 =>
 bif !y16.snd.fst.snd.snd.fst then
 obind (sp_term_v n (ByteArray.mk #[]) (Row.S (List.getD r2 (Int.toNat j15) []) 0) (Row.B (List.getD r2 (Int.toNat j15) []) 1) (Row.I (List.getD r2 (Int.toNat j15) []) 2) (Row.S (List.getD r2 (Int.toNat j15) []) 3) y16.snd.fst.snd.fst.fst y16.snd.fst.snd.fst.snd y16.snd.fst.snd.snd.fst) fun y17 =>
 sp_atom_l3 n s0 b1 r2 b3 r4 b5 i0 y17.snd.fst.snd.fst.fst y17.snd.fst.snd.fst.snd y17.snd.fst.snd.snd.fst (IntKind.wrap IntKind.i64 (j15 + 1))
 else sp_atom_l3 n s0 b1 r2 b3 r4 b5 i0 y16.snd.fst.snd.fst.fst y16.snd.fst.snd.fst.snd y16.snd.fst.snd.snd.fst (IntKind.wrap IntKind.i64 (j15 + 1))
 else bif !b12 then
 obind (sp_term_v n (ByteArray.mk #[]) (Row.S (List.getD r2 (Int.toNat j15) []) 0) (Row.B (List.getD r2 (Int.toNat j15) []) 1) (Row.I (List.getD r2 (Int.toNat j15) []) 2) (Row.S (List.getD r2 (Int.toNat j15) []) 3) b10 r11 b12) fun y18 =>
 sp_atom_l3 n s0 b1 r2 b3 r4 b5 i0 y18.snd.fst.snd.fst.fst y18.snd.fst.snd.fst.snd y18.snd.fst.snd.snd.fst (IntKind.wrap IntKind.i64 (j15 + 1))
 else sp_atom_l3 n s0 b1 r2 b3 r4 b5 i0 b10 r11 b12 (IntKind.wrap IntKind.i64 (j15 + 1))
 else none
 else none
 else obind (sB_WriteString_v n (ByteArray.mk #[41]) b10 r11 b12) fun y19 =>
 some ((), (((), ((y19.snd.fst.snd.fst.fst, y19.snd.fst.snd.fst.snd), (y19.snd.fst.snd.snd.fst, ()))), ())) := by kernel_rfl
theorem sp_atom_e (n : Nat) (s0 : ByteArray) (b1 : Bool) (r2 : Rows) (b3 : Bool) (r4 : Rows) (b5 : Bool) : sp_atom_v n s0 b1 r2 b3 r4 b5 =
 bif b5 then
 if ByteArray.size s0 + 1 < 4611686018427387904 then
 obind (sB_WriteString_v n (s0 ++ ByteArray.mk #[40]) b3 r4 true) fun y6 =>
 sp_atom_l3 n s0 b1 r2 b3 r4 b5 n y6.snd.fst.snd.fst.fst y6.snd.fst.snd.fst.snd y6.snd.fst.snd.snd.fst 0
 else none
 else obind (show_word_v n s0) fun y7 =>
 bif !y7.fst then
 if ByteArray.size s0 + 1 < 4611686018427387904 then
 obind (sB_WriteString_v n (s0 ++ ByteArray.mk #[40]) b3 r4 true) fun y8 =>
 sp_atom_l3 n s0 b1 r2 b3 r4 b5 n y8.snd.fst.snd.fst.fst y8.snd.fst.snd.fst.snd y8.snd.fst.snd.snd.fst 0
 else none
 else if ByteArray.size s0 + 1 < 4611686018427387904 then
 obind (sB_WriteString_v n (s0 ++ ByteArray.mk #[40]) b3 r4 (decide ((↑(List.length r2) : Int) > 4))) fun y9 =>
 sp_atom_l3 n s0 b1 r2 b3 r4 b5 n y9.snd.fst.snd.fst.fst y9.snd.fst.snd.fst.snd y9.snd.fst.snd.snd.fst 0
 else none := by kernel_rfl
theorem sp_atom_c (n : Nat) (s0 : ByteArray) (b1 : Bool) (r2 : Rows) (b3 : Bool) (r4 : Rows) (b5 : Bool) (y : Unit × (Unit × (Bool × Rows) × Bool × Unit) × Unit) (h : sp_atom_v n s0 b1 r2 b3 r4 b5 = some y) : Contract Tryd.prog 55 [AV.pl 1000 0, aS s0, AV.sl b1 kdT r2 Right.no] [[AV.pl 1000 0, AV.sl b3 [Kd.i IntKind.u8] r4 (Right.tok 500004), aB b5]] (OSh.enc (OSh.plain (.tup []) [[.pl 1000 0, .slt [Kd.i IntKind.u8] 1, .b]]) y) :=
 ac (OSh.plain (.tup []) [[.pl 1000 0, .slt [Kd.i IntKind.u8] 1, .b]]) (sp_atom_σok n) Tryd.func55 (by decide) h
def sp_maybe_lv : Live := []
def sp_maybe_σ (n : Nat) : Spec := (inst 53 [.pl 1000 0, .s, .agg [.s, .b, .i .i64, .s]] [[.pl 1000 0, .slt [Kd.i IntKind.u8] 500004, .b]] (OSh.plain (.tup []) [[.pl 1000 0, .slt [Kd.i IntKind.u8] 1, .b]]) (fun x e => sp_term_v n x.2.1 x.2.2.1.1 x.2.2.1.2.1 x.2.2.1.2.2.1 x.2.2.1.2.2.2.1 e.1.2.1.1 e.1.2.1.2 e.1.2.2.1) (inst 54 [.pl 1000 0, .s] [[.pl 1000 0, .slt [Kd.i IntKind.u8] 500003, .b]] (OSh.plain (.tup [.i .i64, .nili]) [[.pl 1000 0, .slt [Kd.i IntKind.u8] 1, .b]]) (fun x e => sB_WriteString_v n x.2.1 e.1.2.1.1 e.1.2.1.2 e.1.2.2.1) Spec.none))
theorem sp_maybe_σok (n : Nat) : SpecOk Tryd.prog (sp_maybe_σ n) := (inst_ok (fun x e y h => sp_term_c n x.2.1 x.2.2.1.1 x.2.2.1.2.1 x.2.2.1.2.2.1 x.2.2.1.2.2.2.1 e.1.2.1.1 e.1.2.1.2 e.1.2.2.1 y h) (inst_ok (fun x e y h => sB_WriteString_c n x.2.1 e.1.2.1.1 e.1.2.1.2 e.1.2.2.1 y h) (SpecOk.none _)))
def sp_maybe_Φ (n : Nat) : Orc := with_ Tryd.prog (sp_maybe_σ n) [] n 0 hsL
def sp_maybe_v (n : Nat) (s0 : ByteArray) (s1 : ByteArray) (b2 : Bool) (j3 : Int) (s4 : ByteArray) (s5 : ByteArray) (b6 : Bool) (r7 : Rows) (b8 : Bool) : Option (Unit × (Unit × (Bool × Rows) × Bool × Unit) × Unit) :=
 DM.denFn tm (sp_maybe_Φ n) sp_maybe_lv n Tryd.f56 false [AV.pl 1000 0, aS s0, AV.agg [aS s1, aB b2, aI j3, aS s4], aS s5] [[AV.pl 1000 0, AV.sl b6 [Kd.i IntKind.u8] r7 (Right.tok 500005), aB b8]] (OSh.chk (OSh.plain (.tup []) [[.pl 1000 0, .slt [Kd.i IntKind.u8] 1, .b]]))
theorem sp_maybe_e (n : Nat) (s0 : ByteArray) (s1 : ByteArray) (b2 : Bool) (j3 : Int) (s4 : ByteArray) (s5 : ByteArray) (b6 : Bool) (r7 : Rows) (b8 : Bool) : sp_maybe_v n s0 s1 b2 j3 s4 s5 b6 r7 b8 =
 bif !(s1 == ByteArray.mk #[] && (b2 == false && (j3 == 0 && (s4 == ByteArray.mk #[] && true)))) then
 obind (sp_term_v n s0 s1 b2 j3 s4 b6 r7 b8) fun y9 =>
 obind (sB_WriteString_v n s5 y9.snd.fst.snd.fst.fst y9.snd.fst.snd.fst.snd y9.snd.fst.snd.snd.fst) fun y10 =>
 some ((), (((), ((y10.snd.fst.snd.fst.fst, y10.snd.fst.snd.fst.snd), (y10.snd.fst.snd.snd.fst, ()))), ()))
 else some ((), (((), ((b6, r7), (b8, ()))), ())) := by kernel_rfl
theorem sp_maybe_c (n : Nat) (s0 : ByteArray) (s1 : ByteArray) (b2 : Bool) (j3 : Int) (s4 : ByteArray) (s5 : ByteArray) (b6 : Bool) (r7 : Rows) (b8 : Bool) (y : Unit × (Unit × (Bool × Rows) × Bool × Unit) × Unit) (h : sp_maybe_v n s0 s1 b2 j3 s4 s5 b6 r7 b8 = some y) : Contract Tryd.prog 56 [AV.pl 1000 0, aS s0, AV.agg [aS s1, aB b2, aI j3, aS s4], aS s5] [[AV.pl 1000 0, AV.sl b6 [Kd.i IntKind.u8] r7 (Right.tok 500005), aB b8]] (OSh.enc (OSh.plain (.tup []) [[.pl 1000 0, .slt [Kd.i IntKind.u8] 1, .b]]) y) :=
 ac (OSh.plain (.tup []) [[.pl 1000 0, .slt [Kd.i IntKind.u8] 1, .b]]) (sp_maybe_σok n) Tryd.func56 (by decide) h
def show_Rule_lv : Live := [(10, [4, 48, 49, 50], [24, 1000, 1001, 1002, 1003])]
def show_Rule_σ (n : Nat) : Spec := (inst 53 [.pl 1000 0, .s, .agg [.s, .b, .i .i64, .s]] [[.nilp, .slt [Kd.i IntKind.u8] 500004, .b]] (OSh.plain (.tup []) [[.pl 1000 0, .slt [Kd.i IntKind.u8] 1, .b]]) (fun x e => sp_term_nilp_v n x.2.1 x.2.2.1.1 x.2.2.1.2.1 x.2.2.1.2.2.1 x.2.2.1.2.2.2.1 e.1.2.1.1 e.1.2.1.2 e.1.2.2.1) (inst 54 [.pl 1000 0, .s] [[.pl 1000 0, .slt [Kd.i IntKind.u8] 500003, .b]] (OSh.plain (.tup [.i .i64, .nili]) [[.pl 1000 0, .slt [Kd.i IntKind.u8] 1, .b]]) (fun x e => sB_WriteString_v n x.2.1 e.1.2.1.1 e.1.2.1.2 e.1.2.2.1) (inst 55 [.pl 1000 0, .s, .sl kdT] [[.pl 1000 0, .slt [Kd.i IntKind.u8] 500004, .b]] (OSh.plain (.tup []) [[.pl 1000 0, .slt [Kd.i IntKind.u8] 1, .b]]) (fun x e => sp_atom_v n x.2.1 x.2.2.1.1 x.2.2.1.2 e.1.2.1.1 e.1.2.1.2 e.1.2.2.1) (inst 56 [.pl 1000 0, .s, .agg [.s, .b, .i .i64, .s], .s] [[.pl 1000 0, .slt [Kd.i IntKind.u8] 500005, .b]] (OSh.plain (.tup []) [[.pl 1000 0, .slt [Kd.i IntKind.u8] 1, .b]]) (fun x e => sp_maybe_v n x.2.1 x.2.2.1.1 x.2.2.1.2.1 x.2.2.1.2.2.1 x.2.2.1.2.2.2.1 x.2.2.2.1 e.1.2.1.1 e.1.2.1.2 e.1.2.2.1) (inst 57 [.pl 1000 0] [[.pl 1000 0, .slt [Kd.i IntKind.u8] 500002, .b]] (OSh.plain (.s) [[.pl 1000 0, .sl [Kd.i IntKind.u8], .b]]) (fun x e => sB_String_v n e.1.2.1.1 e.1.2.1.2 e.1.2.2.1) Spec.none)))))
theorem show_Rule_σok (n : Nat) : SpecOk Tryd.prog (show_Rule_σ n) := (inst_ok (fun x e y h => sp_term_nilp_c n x.2.1 x.2.2.1.1 x.2.2.1.2.1 x.2.2.1.2.2.1 x.2.2.1.2.2.2.1 e.1.2.1.1 e.1.2.1.2 e.1.2.2.1 y h) (inst_ok (fun x e y h => sB_WriteString_c n x.2.1 e.1.2.1.1 e.1.2.1.2 e.1.2.2.1 y h) (inst_ok (fun x e y h => sp_atom_c n x.2.1 x.2.2.1.1 x.2.2.1.2 e.1.2.1.1 e.1.2.1.2 e.1.2.2.1 y h) (inst_ok (fun x e y h => sp_maybe_c n x.2.1 x.2.2.1.1 x.2.2.1.2.1 x.2.2.1.2.2.1 x.2.2.1.2.2.2.1 x.2.2.2.1 e.1.2.1.1 e.1.2.1.2 e.1.2.2.1 y h) (inst_ok (fun x e y h => sB_String_c n e.1.2.1.1 e.1.2.1.2 e.1.2.2.1 y h) (SpecOk.none _))))))
def show_Rule_Φ (n : Nat) : Orc := with_ Tryd.prog (show_Rule_σ n) [] n 0 hsL
def show_Rule_v (n : Nat) (s0 : ByteArray) (b1 : Bool) (j2 : Int) (s3 : ByteArray) (s4 : ByteArray) (b5 : Bool) (r6 : Rows) (s7 : ByteArray) (b8 : Bool) (j9 : Int) (s10 : ByteArray) (b11 : Bool) (r12 : Rows) : Option ((ByteArray × Int × Unit) × Unit) :=
 DM.denFn tm (show_Rule_Φ n) show_Rule_lv n Tryd.f31 false [AV.agg [aS s0, aB b1, aI j2, aS s3, aS s4, AV.sl b5 kdT r6 Right.no, aS s7, aB b8, aI j9, aS s10, AV.sl b11 kdL r12 Right.no]] [] (OSh.chk (OSh.plain (.tup [.s, .i .i64]) []))
def show_Rule_l10 (n : Nat) (s0 : ByteArray) (b1 : Bool) (j2 : Int) (s3 : ByteArray) (s4 : ByteArray) (b5 : Bool) (r6 : Rows) (s7 : ByteArray) (b8 : Bool) (j9 : Int) (s10 : ByteArray) (b11 : Bool) (r12 : Rows) (i0 : Nat) (b18 : Bool) (r19 : List (List DV)) (b20 : Bool) (j25 : Int) : Option ((ByteArray × Int × Unit) × Unit) :=
 DM.loopFn tm (show_Rule_Φ n) show_Rule_lv n Tryd.f31 false [] (OSh.chk (OSh.plain (.tup [.s, .i .i64]) [])) 10 [] i0 (St.mk ([Jk, Jk, Jk, Jk, AV.pl 24 0, Jk, Jk, Jk, Jk, Jk, Jk, Jk, Jk, Jk, Jk, Jk, Jk, Jk, Jk, Jk, Jk, Jk, Jk, Jk, Jk, Jk, Jk, Jk, Jk, Jk, Jk, Jk, Jk, Jk, Jk, Jk, Jk, Jk, Jk, Jk, Jk, Jk, Jk, Jk, Jk, Jk, Jk, Jk, AV.sl b11 kdL r12 Right.no, AV.dv (DV.val (Value.int .i64 (↑(List.length r12) : Int))), aI j25] ++ jk 44) [(24, [AV.pl 24 0, AV.sl b18 [Kd.i IntKind.u8] r19 (Right.tok 21537), aB b20])])
theorem show_Rule_s10 (n : Nat) (s0 : ByteArray) (b1 : Bool) (j2 : Int) (s3 : ByteArray) (s4 : ByteArray) (b5 : Bool) (r6 : Rows) (s7 : ByteArray) (b8 : Bool) (j9 : Int) (s10 : ByteArray) (b11 : Bool) (r12 : Rows) (i0 : Nat) (b18 : Bool) (r19 : List (List DV)) (b20 : Bool) (j25 : Int) : show_Rule_l10 n s0 b1 j2 s3 s4 b5 r6 s7 b8 j9 s10 b11 r12 (i0 + 1) b18 r19 b20 j25 =
 bif decide (j25 < (↑(List.length r12) : Int)) then
 if 0 ≤ j25 then
 if j25 < (↑(List.length r12) : Int) then
 bif decide (j25 > 0) then
 obind (sB_WriteString_v n (ByteArray.mk #[44, 32]) b18 r19 b20) fun y26 =>
 bif y26.snd.fst.snd.snd.fst then
 some ((ByteArray.mk #[], (100, ())), ())
 else bif decide ((↑(List.length (Row.R (List.getD r12 (Int.toNat j25) []) 5)) : Int) > 4) then
 some ((ByteArray.mk #[], (100, ())), ())
 else obind (sp_maybe_v n (ByteArray.mk #[]) (Row.S (List.getD r12 (Int.toNat j25) []) 0) (Row.B (List.getD r12 (Int.toNat j25) []) 1) (Row.I (List.getD r12 (Int.toNat j25) []) 2) (Row.S (List.getD r12 (Int.toNat j25) []) 3) (ByteArray.mk #[32, 115, 97, 121, 115, 32]) y26.snd.fst.snd.fst.fst y26.snd.fst.snd.fst.snd y26.snd.fst.snd.snd.fst) fun y27 =>
 obind (sp_atom_v n (Row.S (List.getD r12 (Int.toNat j25) []) 4) (Row.N (List.getD r12 (Int.toNat j25) []) 5) (Row.R (List.getD r12 (Int.toNat j25) []) 5) y27.snd.fst.snd.fst.fst y27.snd.fst.snd.fst.snd y27.snd.fst.snd.snd.fst) fun y28 =>
 obind (sp_maybe_v n (ByteArray.mk #[32, 97, 116, 32]) (Row.S (List.getD r12 (Int.toNat j25) []) 6) (Row.B (List.getD r12 (Int.toNat j25) []) 7) (Row.I (List.getD r12 (Int.toNat j25) []) 8) (Row.S (List.getD r12 (Int.toNat j25) []) 9) (ByteArray.mk #[]) y28.snd.fst.snd.fst.fst y28.snd.fst.snd.fst.snd y28.snd.fst.snd.snd.fst) fun y29 =>
 show_Rule_l10 n s0 b1 j2 s3 s4 b5 r6 s7 b8 j9 s10 b11 r12 i0 y29.snd.fst.snd.fst.fst y29.snd.fst.snd.fst.snd y29.snd.fst.snd.snd.fst (IntKind.wrap IntKind.i64 (j25 + 1))
 else bif b20 then
 some ((ByteArray.mk #[], (100, ())), ())
 else bif decide ((↑(List.length (Row.R (List.getD r12 (Int.toNat j25) []) 5)) : Int) > 4) then
 some ((ByteArray.mk #[], (100, ())), ())
 else obind (sp_maybe_v n (ByteArray.mk #[]) (Row.S (List.getD r12 (Int.toNat j25) []) 0) (Row.B (List.getD r12 (Int.toNat j25) []) 1) (Row.I (List.getD r12 (Int.toNat j25) []) 2) (Row.S (List.getD r12 (Int.toNat j25) []) 3) (ByteArray.mk #[32, 115, 97, 121, 115, 32]) b18 r19 b20) fun y30 =>
 obind (sp_atom_v n (Row.S (List.getD r12 (Int.toNat j25) []) 4) (Row.N (List.getD r12 (Int.toNat j25) []) 5) (Row.R (List.getD r12 (Int.toNat j25) []) 5) y30.snd.fst.snd.fst.fst y30.snd.fst.snd.fst.snd y30.snd.fst.snd.snd.fst) fun y31 =>
 obind (sp_maybe_v n (ByteArray.mk #[32, 97, 116, 32]) (Row.S (List.getD r12 (Int.toNat j25) []) 6) (Row.B (List.getD r12 (Int.toNat j25) []) 7) (Row.I (List.getD r12 (Int.toNat j25) []) 8) (Row.S (List.getD r12 (Int.toNat j25) []) 9) (ByteArray.mk #[]) y31.snd.fst.snd.fst.fst y31.snd.fst.snd.fst.snd y31.snd.fst.snd.snd.fst) fun y32 =>
 show_Rule_l10 n s0 b1 j2 s3 s4 b5 r6 s7 b8 j9 s10 b11 r12 i0 y32.snd.fst.snd.fst.fst y32.snd.fst.snd.fst.snd y32.snd.fst.snd.snd.fst (IntKind.wrap IntKind.i64 (j25 + 1))
 else none
 else none
 else bif b20 then
 some ((ByteArray.mk #[], (100, ())), ())
 else obind (sB_String_v n b18 r19 b20) fun y33 =>
 if ByteArray.size y33.fst + 1 < 4611686018427387904 then
 some ((y33.fst ++ ByteArray.mk #[46], (0, ())), ())
 else none := by kernel_rfl
theorem show_Rule_e (n : Nat) (s0 : ByteArray) (b1 : Bool) (j2 : Int) (s3 : ByteArray) (s4 : ByteArray) (b5 : Bool) (r6 : Rows) (s7 : ByteArray) (b8 : Bool) (j9 : Int) (s10 : ByteArray) (b11 : Bool) (r12 : Rows) : show_Rule_v n s0 b1 j2 s3 s4 b5 r6 s7 b8 j9 s10 b11 r12 =
 bif decide ((↑(List.length r12) : Int) < 1) then
 some ((ByteArray.mk #[], (100, ())), ())
 else bif decide ((↑(List.length r12) : Int) > 4) then
 some ((ByteArray.mk #[], (100, ())), ())
 else bif decide ((↑(List.length r6) : Int) > 4) then
 some ((ByteArray.mk #[], (100, ())), ())
 else obind (sp_term_nilp_v n (ByteArray.mk #[]) s0 b1 j2 s3 true [] false) fun y13 =>
 obind (sB_WriteString_v n (ByteArray.mk #[58, 32]) y13.snd.fst.snd.fst.fst y13.snd.fst.snd.fst.snd y13.snd.fst.snd.snd.fst) fun y14 =>
 obind (sp_atom_v n s4 b5 r6 y14.snd.fst.snd.fst.fst y14.snd.fst.snd.fst.snd y14.snd.fst.snd.snd.fst) fun y15 =>
 obind (sp_maybe_v n (ByteArray.mk #[32, 116, 111, 32]) s7 b8 j9 s10 (ByteArray.mk #[]) y15.snd.fst.snd.fst.fst y15.snd.fst.snd.fst.snd y15.snd.fst.snd.snd.fst) fun y16 =>
 obind (sB_WriteString_v n (ByteArray.mk #[32, 58, 45, 32]) y16.snd.fst.snd.fst.fst y16.snd.fst.snd.fst.snd y16.snd.fst.snd.snd.fst) fun y17 =>
 show_Rule_l10 n s0 b1 j2 s3 s4 b5 r6 s7 b8 j9 s10 b11 r12 n y17.snd.fst.snd.fst.fst y17.snd.fst.snd.fst.snd y17.snd.fst.snd.snd.fst 0 := by kernel_rfl
theorem show_Rule_c (n : Nat) (s0 : ByteArray) (b1 : Bool) (j2 : Int) (s3 : ByteArray) (s4 : ByteArray) (b5 : Bool) (r6 : Rows) (s7 : ByteArray) (b8 : Bool) (j9 : Int) (s10 : ByteArray) (b11 : Bool) (r12 : Rows) (y : (ByteArray × Int × Unit) × Unit) (h : show_Rule_v n s0 b1 j2 s3 s4 b5 r6 s7 b8 j9 s10 b11 r12 = some y) : Contract Tryd.prog 31 [AV.agg [aS s0, aB b1, aI j2, aS s3, aS s4, AV.sl b5 kdT r6 Right.no, aS s7, aB b8, aI j9, aS s10, AV.sl b11 kdL r12 Right.no]] [] (OSh.enc (OSh.plain (.tup [.s, .i .i64]) []) y) :=
 ac (OSh.plain (.tup [.s, .i .i64]) []) (show_Rule_σok n) Tryd.func31 (by decide) h
def check_number_lv : Live := []
def check_number_σ (n : Nat) : Spec := Spec.none
theorem check_number_σok (n : Nat) : SpecOk Tryd.prog (check_number_σ n) := (SpecOk.none _)
def check_number_Φ (n : Nat) : Orc := with_ Tryd.prog (check_number_σ n) [] n 0 hsL
def check_number_v (n : Nat) (s0 : ByteArray) (b1 : Bool) (j2 : Int) (s3 : ByteArray) : Option (Bool × Unit) :=
 DM.denFn tm (check_number_Φ n) check_number_lv n Tryd.f58 false [AV.agg [aS s0, aB b1, aI j2, aS s3]] [] (OSh.chk (OSh.plain (.b) []))
theorem check_number_e (n : Nat) (s0 : ByteArray) (b1 : Bool) (j2 : Int) (s3 : ByteArray) : check_number_v n s0 b1 j2 s3 =
 bif s0 == ByteArray.mk #[] then
 some (b1, ())
 else some (false, ()) := by kernel_rfl
theorem check_number_c (n : Nat) (s0 : ByteArray) (b1 : Bool) (j2 : Int) (s3 : ByteArray) (y : Bool × Unit) (h : check_number_v n s0 b1 j2 s3 = some y) : Contract Tryd.prog 58 [AV.agg [aS s0, aB b1, aI j2, aS s3]] [] (OSh.enc (OSh.plain (.b) []) y) :=
 ac (OSh.plain (.b) []) (check_number_σok n) Tryd.func58 (by decide) h
def check_place_1_lv : Live := []
def check_place_1_σ (n : Nat) : Spec := (inst 58 [.agg [.s, .b, .i .i64, .s]] [] (OSh.plain (.b) []) (fun x e => check_number_v n x.1.1 x.1.2.1 x.1.2.2.1 x.1.2.2.2.1) Spec.none)
theorem check_place_1_σok (n : Nat) : SpecOk Tryd.prog (check_place_1_σ n) := (inst_ok (fun x e y h => check_number_c n x.1.1 x.1.2.1 x.1.2.2.1 x.1.2.2.2.1 y h) (SpecOk.none _))
def check_place_1_Φ (n : Nat) : Orc := with_ Tryd.prog (check_place_1_σ n) [] n 0 hsL
def check_place_1_v (n : Nat) (s0 : ByteArray) (b1 : Bool) (j2 : Int) (s3 : ByteArray) (s4 : ByteArray) (b5 : Bool) (r6 : Rows) (s7 : ByteArray) (b8 : Bool) (j9 : Int) (s10 : ByteArray) : Option (Bool × Unit) :=
 DM.denFn tm (check_place_1_Φ n) check_place_1_lv n Tryd.f60 false [AV.agg [aS s0, aB b1, aI j2, aS s3, aS s4, AV.sl b5 kdT r6 Right.no, aS s7, aB b8, aI j9, aS s10]] [] (OSh.chk (OSh.plain (.b) []))
theorem check_place_1_e (n : Nat) (s0 : ByteArray) (b1 : Bool) (j2 : Int) (s3 : ByteArray) (s4 : ByteArray) (b5 : Bool) (r6 : Rows) (s7 : ByteArray) (b8 : Bool) (j9 : Int) (s10 : ByteArray) : check_place_1_v n s0 b1 j2 s3 s4 b5 r6 s7 b8 j9 s10 =
 obind (check_number_v n s0 b1 j2 s3) fun y11 =>
 bif y11.fst then
 some (true, ())
 else obind (check_number_v n s7 b8 j9 s10) fun y12 =>
 some (y12.fst, ()) := by kernel_rfl
theorem check_place_1_c (n : Nat) (s0 : ByteArray) (b1 : Bool) (j2 : Int) (s3 : ByteArray) (s4 : ByteArray) (b5 : Bool) (r6 : Rows) (s7 : ByteArray) (b8 : Bool) (j9 : Int) (s10 : ByteArray) (y : Bool × Unit) (h : check_place_1_v n s0 b1 j2 s3 s4 b5 r6 s7 b8 j9 s10 = some y) : Contract Tryd.prog 60 [AV.agg [aS s0, aB b1, aI j2, aS s3, aS s4, AV.sl b5 kdT r6 Right.no, aS s7, aB b8, aI j9, aS s10]] [] (OSh.enc (OSh.plain (.b) []) y) :=
 ac (OSh.plain (.b) []) (check_place_1_σok n) Tryd.func60 (by decide) h
def sI_check_place_1_lv : Live := [(2, [0, 1, 7, 8], [1000, 1001, 1002, 1003])]
def sI_check_place_1_σ (n : Nat) : Spec := (inst 60 [.agg [.s, .b, .i .i64, .s, .s, .sl kdT, .s, .b, .i .i64, .s]] [] (OSh.plain (.b) []) (fun x e => check_place_1_v n x.1.1 x.1.2.1 x.1.2.2.1 x.1.2.2.2.1 x.1.2.2.2.2.1 x.1.2.2.2.2.2.1.1 x.1.2.2.2.2.2.1.2 x.1.2.2.2.2.2.2.1 x.1.2.2.2.2.2.2.2.1 x.1.2.2.2.2.2.2.2.2.1 x.1.2.2.2.2.2.2.2.2.2.1) Spec.none)
theorem sI_check_place_1_σok (n : Nat) : SpecOk Tryd.prog (sI_check_place_1_σ n) := (inst_ok (fun x e y h => check_place_1_c n x.1.1 x.1.2.1 x.1.2.2.1 x.1.2.2.2.1 x.1.2.2.2.2.1 x.1.2.2.2.2.2.1.1 x.1.2.2.2.2.2.1.2 x.1.2.2.2.2.2.2.1 x.1.2.2.2.2.2.2.2.1 x.1.2.2.2.2.2.2.2.2.1 x.1.2.2.2.2.2.2.2.2.2.1 y h) (SpecOk.none _))
def sI_check_place_1_Φ (n : Nat) : Orc := with_ Tryd.prog (sI_check_place_1_σ n) [] n 0 hsL
def sI_check_place_1_v (n : Nat) (b0 : Bool) (r1 : Rows) : Option (Int × Unit) :=
 DM.denFn tm (sI_check_place_1_Φ n) sI_check_place_1_lv n Tryd.f59 false [AV.sl b0 kdL r1 Right.no, AV.fn 60 []] [] (OSh.chk (OSh.plain (.i .i64) []))
def sI_check_place_1_l2 (n : Nat) (b0 : Bool) (r1 : Rows) (i0 : Nat) (j3 : Int) : Option (Int × Unit) :=
 DM.loopFn tm (sI_check_place_1_Φ n) sI_check_place_1_lv n Tryd.f59 false [] (OSh.chk (OSh.plain (.i .i64) [])) 2 [] i0 (St.mk ([AV.sl b0 kdL r1 Right.no, AV.fn 60 [], Jk, Jk, Jk, Jk, Jk, AV.dv (DV.val (Value.int .i64 (↑(List.length r1) : Int))), aI j3] ++ jk 10) [])
theorem sI_check_place_1_s2 (n : Nat) (b0 : Bool) (r1 : Rows) (i0 : Nat) (j3 : Int) : sI_check_place_1_l2 n b0 r1 (i0 + 1) j3 =
 bif decide (j3 < (↑(List.length r1) : Int)) then
 if 0 ≤ j3 then
 if j3 < (↑(List.length r1) : Int) then
 obind (check_place_1_v n (Row.S (List.getD r1 (Int.toNat j3) []) 0) (Row.B (List.getD r1 (Int.toNat j3) []) 1) (Row.I (List.getD r1 (Int.toNat j3) []) 2) (Row.S (List.getD r1 (Int.toNat j3) []) 3) (Row.S (List.getD r1 (Int.toNat j3) []) 4) (Row.N (List.getD r1 (Int.toNat j3) []) 5) (Row.R (List.getD r1 (Int.toNat j3) []) 5) (Row.S (List.getD r1 (Int.toNat j3) []) 6) (Row.B (List.getD r1 (Int.toNat j3) []) 7) (Row.I (List.getD r1 (Int.toNat j3) []) 8) (Row.S (List.getD r1 (Int.toNat j3) []) 9)) fun y4 =>
 bif y4.fst then
 some (j3, ())
 else sI_check_place_1_l2 n b0 r1 i0 (IntKind.wrap IntKind.i64 (j3 + 1))
 else none
 else none
 else some (-1, ()) := by kernel_rfl
theorem sI_check_place_1_e (n : Nat) (b0 : Bool) (r1 : Rows) : sI_check_place_1_v n b0 r1 =
 sI_check_place_1_l2 n b0 r1 n 0 := by kernel_rfl
theorem sI_check_place_1_c (n : Nat) (b0 : Bool) (r1 : Rows) (y : Int × Unit) (h : sI_check_place_1_v n b0 r1 = some y) : Contract Tryd.prog 59 [AV.sl b0 kdL r1 Right.no, AV.fn 60 []] [] (OSh.enc (OSh.plain (.i .i64) []) y) :=
 ac (OSh.plain (.i .i64) []) (sI_check_place_1_σok n) Tryd.func59 (by decide) h
def check_place_lv : Live := []
def check_place_σ (n : Nat) : Spec := (inst 58 [.agg [.s, .b, .i .i64, .s]] [] (OSh.plain (.b) []) (fun x e => check_number_v n x.1.1 x.1.2.1 x.1.2.2.1 x.1.2.2.2.1) (inst 59 [.sl kdL, .fn 60 []] [] (OSh.plain (.i .i64) []) (fun x e => sI_check_place_1_v n x.1.1 x.1.2) Spec.none))
theorem check_place_σok (n : Nat) : SpecOk Tryd.prog (check_place_σ n) := (inst_ok (fun x e y h => check_number_c n x.1.1 x.1.2.1 x.1.2.2.1 x.1.2.2.2.1 y h) (inst_ok (fun x e y h => sI_check_place_1_c n x.1.1 x.1.2 y h) (SpecOk.none _)))
def check_place_Φ (n : Nat) : Orc := with_ Tryd.prog (check_place_σ n) [] n 0 hsL
def check_place_v (n : Nat) (s0 : ByteArray) (b1 : Bool) (j2 : Int) (s3 : ByteArray) (s4 : ByteArray) (b5 : Bool) (r6 : Rows) (s7 : ByteArray) (b8 : Bool) (j9 : Int) (s10 : ByteArray) (b11 : Bool) (r12 : Rows) : Option (Int × Unit) :=
 DM.denFn tm (check_place_Φ n) check_place_lv n Tryd.f32 false [AV.agg [aS s0, aB b1, aI j2, aS s3, aS s4, AV.sl b5 kdT r6 Right.no, aS s7, aB b8, aI j9, aS s10, AV.sl b11 kdL r12 Right.no]] [] (OSh.chk (OSh.plain (.i .i64) []))
theorem check_place_e (n : Nat) (s0 : ByteArray) (b1 : Bool) (j2 : Int) (s3 : ByteArray) (s4 : ByteArray) (b5 : Bool) (r6 : Rows) (s7 : ByteArray) (b8 : Bool) (j9 : Int) (s10 : ByteArray) (b11 : Bool) (r12 : Rows) : check_place_v n s0 b1 j2 s3 s4 b5 r6 s7 b8 j9 s10 b11 r12 =
 obind (check_number_v n s0 b1 j2 s3) fun y13 =>
 bif y13.fst then
 some (-1, ())
 else obind (check_number_v n s7 b8 j9 s10) fun y14 =>
 bif y14.fst then
 some (-1, ())
 else if (1 + List.length r12) * 136 ≤ 140737488355328 then
 bif List.isEmpty [[DV.val (Value.string (ByteArray.mk #[])), DV.val (Value.bool false), DV.val (Value.int .i64 0), DV.val (Value.string (ByteArray.mk #[])), DV.val (Value.string (ByteArray.mk #[])), DV.sl true kdT [], DV.val (Value.string (ByteArray.mk #[])), DV.val (Value.bool false), DV.val (Value.int .i64 0), DV.val (Value.string (ByteArray.mk #[]))]] || !List.isEmpty r12 then
 obind (sI_check_place_1_v n (false && List.isEmpty r12) (appX [[DV.val (Value.string (ByteArray.mk #[])), DV.val (Value.bool false), DV.val (Value.int .i64 0), DV.val (Value.string (ByteArray.mk #[])), DV.val (Value.string (ByteArray.mk #[])), DV.sl true kdT [], DV.val (Value.string (ByteArray.mk #[])), DV.val (Value.bool false), DV.val (Value.int .i64 0), DV.val (Value.string (ByteArray.mk #[]))]] r12)) fun y15 =>
 some (IntKind.wrap IntKind.i64 (y15.fst - 1), ())
 else obind (sI_check_place_1_v n (false && List.isEmpty r12) (appX [[DV.val (Value.string (ByteArray.mk #[])), DV.val (Value.bool false), DV.val (Value.int .i64 0), DV.val (Value.string (ByteArray.mk #[])), DV.val (Value.string (ByteArray.mk #[])), DV.sl true kdT [], DV.val (Value.string (ByteArray.mk #[])), DV.val (Value.bool false), DV.val (Value.int .i64 0), DV.val (Value.string (ByteArray.mk #[]))]] r12)) fun y16 =>
 some (IntKind.wrap IntKind.i64 (y16.fst - 1), ())
 else none := by kernel_rfl
theorem check_place_c (n : Nat) (s0 : ByteArray) (b1 : Bool) (j2 : Int) (s3 : ByteArray) (s4 : ByteArray) (b5 : Bool) (r6 : Rows) (s7 : ByteArray) (b8 : Bool) (j9 : Int) (s10 : ByteArray) (b11 : Bool) (r12 : Rows) (y : Int × Unit) (h : check_place_v n s0 b1 j2 s3 s4 b5 r6 s7 b8 j9 s10 b11 r12 = some y) : Contract Tryd.prog 32 [AV.agg [aS s0, aB b1, aI j2, aS s3, aS s4, AV.sl b5 kdT r6 Right.no, aS s7, aB b8, aI j9, aS s10, AV.sl b11 kdL r12 Right.no]] [] (OSh.enc (OSh.plain (.i .i64) []) y) :=
 ac (OSh.plain (.i .i64) []) (check_place_σok n) Tryd.func32 (by decide) h
def check_arity_1_nilf_lv : Live := []
def check_arity_1_nilf_σ (n : Nat) : Spec := Spec.none
theorem check_arity_1_nilf_σok (n : Nat) : SpecOk Tryd.prog (check_arity_1_nilf_σ n) := (SpecOk.none _)
def check_arity_1_nilf_Φ (n : Nat) : Orc := with_ Tryd.prog (check_arity_1_nilf_σ n) [] n 0 hsL
def check_arity_1_nilf_v (n : Nat) (s0 : ByteArray) (j1 : Int) (r2 : Rows) : Option (Bool × (Unit × Unit) × (Unit × Rows × Unit) × Unit) :=
 DM.denFn tm (check_arity_1_nilf_Φ n) check_arity_1_nilf_lv n Tryd.f61 false [aS s0, aI j1, AV.pl 1000 0] [[AV.pl 1001 1000000000], [AV.dv (DV.val Value.nilFunc), AV.arr [Kd.s, Kd.i .i64] r2]] (OSh.chk (OSh.plain (.b) [[.pl 1001 1000000000], [.nilf, .arr [Kd.s, Kd.i .i64]]]))
theorem check_arity_1_nilf_e (n : Nat) (s0 : ByteArray) (j1 : Int) (r2 : Rows) : check_arity_1_nilf_v n s0 j1 r2 =
 bif !mhas r2 (DV.val (Value.string s0)) then
 bif mhas r2 (DV.val (Value.string s0)) then
 some (Row.I (mget r2 (DV.val (Value.string s0)) [DV.val (Value.string s0), DV.val (Value.int .i64 0)]) 1 != j1, (((), ()), (((), (mput r2 (DV.val (Value.string s0)) [DV.val (Value.string s0), DV.val (Value.int .i64 j1)], ())), ())))
 else some (false, (((), ()), (((), (mput r2 (DV.val (Value.string s0)) [DV.val (Value.string s0), DV.val (Value.int .i64 j1)], ())), ())))
 else bif mhas r2 (DV.val (Value.string s0)) then
 some (Row.I (mget r2 (DV.val (Value.string s0)) [DV.val (Value.string s0), DV.val (Value.int .i64 0)]) 1 != j1, (((), ()), (((), (r2, ())), ())))
 else some (false, (((), ()), (((), (r2, ())), ()))) := by kernel_rfl
theorem check_arity_1_nilf_c (n : Nat) (s0 : ByteArray) (j1 : Int) (r2 : Rows) (y : Bool × (Unit × Unit) × (Unit × Rows × Unit) × Unit) (h : check_arity_1_nilf_v n s0 j1 r2 = some y) : Contract Tryd.prog 61 [aS s0, aI j1, AV.pl 1000 0] [[AV.pl 1001 1000000000], [AV.dv (DV.val Value.nilFunc), AV.arr [Kd.s, Kd.i .i64] r2]] (OSh.enc (OSh.plain (.b) [[.pl 1001 1000000000], [.nilf, .arr [Kd.s, Kd.i .i64]]]) y) :=
 ac (OSh.plain (.b) [[.pl 1001 1000000000], [.nilf, .arr [Kd.s, Kd.i .i64]]]) (check_arity_1_nilf_σok n) Tryd.func61 (by decide) h
def check_arity_nilf_lv : Live := [(5, [5, 17, 18, 19], [3, 1000, 1001, 1002, 1003])]
def check_arity_nilf_σ (n : Nat) : Spec := (inst 61 [.s, .i .i64, .pl 1000 0] [[.pl 1001 1000000000], [.nilf, .arr [Kd.s, Kd.i .i64]]] (OSh.plain (.b) [[.pl 1001 1000000000], [.nilf, .arr [Kd.s, Kd.i .i64]]]) (fun x e => check_arity_1_nilf_v n x.1 x.2.1 e.2.1.2.1) Spec.none)
theorem check_arity_nilf_σok (n : Nat) : SpecOk Tryd.prog (check_arity_nilf_σ n) := (inst_ok (fun x e y h => check_arity_1_nilf_c n x.1 x.2.1 e.2.1.2.1 y h) (SpecOk.none _))
def check_arity_nilf_Φ (n : Nat) : Orc := with_ Tryd.prog (check_arity_nilf_σ n) [] n 0 hsL
def check_arity_nilf_v (n : Nat) (s0 : ByteArray) (b1 : Bool) (j2 : Int) (s3 : ByteArray) (s4 : ByteArray) (b5 : Bool) (r6 : Rows) (s7 : ByteArray) (b8 : Bool) (j9 : Int) (s10 : ByteArray) (b11 : Bool) (r12 : Rows) (r13 : Rows) : Option (Int × (Unit × Rows × Unit) × Unit) :=
 DM.denFn tm (check_arity_nilf_Φ n) check_arity_nilf_lv n Tryd.f33 false [AV.agg [aS s0, aB b1, aI j2, aS s3, aS s4, AV.sl b5 kdT r6 Right.no, aS s7, aB b8, aI j9, aS s10, AV.sl b11 kdL r12 Right.no], AV.pl 1000 1000000000] [[AV.dv (DV.val Value.nilFunc), AV.arr [Kd.s, Kd.i .i64] r13]] (OSh.chk (OSh.plain (.i .i64) [[.nilf, .arr [Kd.s, Kd.i .i64]]]))
def check_arity_nilf_l5 (n : Nat) (s0 : ByteArray) (b1 : Bool) (j2 : Int) (s3 : ByteArray) (s4 : ByteArray) (b5 : Bool) (r6 : Rows) (s7 : ByteArray) (b8 : Bool) (j9 : Int) (s10 : ByteArray) (b11 : Bool) (r12 : Rows) (r13 : Rows) (i0 : Nat) (r15 : List (List DV)) (j17 : Int) : Option (Int × (Unit × Rows × Unit) × Unit) :=
 DM.loopFn tm (check_arity_nilf_Φ n) check_arity_nilf_lv n Tryd.f33 false [[AV.dv (DV.val Value.nilFunc), AV.arr [Kd.s, Kd.i .i64] r13]] (OSh.chk (OSh.plain (.i .i64) [[.nilf, .arr [Kd.s, Kd.i .i64]]])) 5 [] i0 (St.mk ([Jk, Jk, Jk, Jk, Jk, AV.fn 61 [AV.pl 3 0], Jk, Jk, Jk, Jk, Jk, Jk, Jk, Jk, Jk, Jk, Jk, AV.sl b11 kdL r12 Right.no, AV.dv (DV.val (Value.int .i64 (↑(List.length r12) : Int))), aI j17] ++ jk 13) [(1000, [AV.dv (DV.val Value.nilFunc), AV.arr [Kd.s, Kd.i .i64] r15]), (3, [AV.pl 1000 1000000000])])
theorem check_arity_nilf_s5 (n : Nat) (s0 : ByteArray) (b1 : Bool) (j2 : Int) (s3 : ByteArray) (s4 : ByteArray) (b5 : Bool) (r6 : Rows) (s7 : ByteArray) (b8 : Bool) (j9 : Int) (s10 : ByteArray) (b11 : Bool) (r12 : Rows) (r13 : Rows) (i0 : Nat) (r15 : List (List DV)) (j17 : Int) : check_arity_nilf_l5 n s0 b1 j2 s3 s4 b5 r6 s7 b8 j9 s10 b11 r12 r13 (i0 + 1) r15 j17 =
 bif decide (j17 < (↑(List.length r12) : Int)) then
 if 0 ≤ j17 then
 if j17 < (↑(List.length r12) : Int) then
 obind (check_arity_1_nilf_v n (Row.S (List.getD r12 (Int.toNat j17) []) 4) ((↑(List.length (Row.R (List.getD r12 (Int.toNat j17) []) 5)) : Int)) r15) fun y18 =>
 bif y18.fst then
 some (j17, (((), (y18.snd.snd.fst.snd.fst, ())), ()))
 else check_arity_nilf_l5 n s0 b1 j2 s3 s4 b5 r6 s7 b8 j9 s10 b11 r12 r13 i0 y18.snd.snd.fst.snd.fst (IntKind.wrap IntKind.i64 (j17 + 1))
 else none
 else none
 else some (-2, (((), (r15, ())), ())) := by kernel_rfl
theorem check_arity_nilf_e (n : Nat) (s0 : ByteArray) (b1 : Bool) (j2 : Int) (s3 : ByteArray) (s4 : ByteArray) (b5 : Bool) (r6 : Rows) (s7 : ByteArray) (b8 : Bool) (j9 : Int) (s10 : ByteArray) (b11 : Bool) (r12 : Rows) (r13 : Rows) : check_arity_nilf_v n s0 b1 j2 s3 s4 b5 r6 s7 b8 j9 s10 b11 r12 r13 =
 obind (check_arity_1_nilf_v n s4 ((↑(List.length r6) : Int)) r13) fun y14 =>
 bif y14.fst then
 some (-1, (((), (y14.snd.snd.fst.snd.fst, ())), ()))
 else check_arity_nilf_l5 n s0 b1 j2 s3 s4 b5 r6 s7 b8 j9 s10 b11 r12 r13 n y14.snd.snd.fst.snd.fst 0 := by kernel_rfl
theorem check_arity_nilf_c (n : Nat) (s0 : ByteArray) (b1 : Bool) (j2 : Int) (s3 : ByteArray) (s4 : ByteArray) (b5 : Bool) (r6 : Rows) (s7 : ByteArray) (b8 : Bool) (j9 : Int) (s10 : ByteArray) (b11 : Bool) (r12 : Rows) (r13 : Rows) (y : Int × (Unit × Rows × Unit) × Unit) (h : check_arity_nilf_v n s0 b1 j2 s3 s4 b5 r6 s7 b8 j9 s10 b11 r12 r13 = some y) : Contract Tryd.prog 33 [AV.agg [aS s0, aB b1, aI j2, aS s3, aS s4, AV.sl b5 kdT r6 Right.no, aS s7, aB b8, aI j9, aS s10, AV.sl b11 kdL r12 Right.no], AV.pl 1000 1000000000] [[AV.dv (DV.val Value.nilFunc), AV.arr [Kd.s, Kd.i .i64] r13]] (OSh.enc (OSh.plain (.i .i64) [[.nilf, .arr [Kd.s, Kd.i .i64]]]) y) :=
 ac (OSh.plain (.i .i64) [[.nilf, .arr [Kd.s, Kd.i .i64]]]) (check_arity_nilf_σok n) Tryd.func33 (by decide) h
def slices_Index_lv : Live := [(2, [0, 1, 7, 8], [1000, 1001, 1002, 1003])]
def slices_Index_σ (n : Nat) : Spec := Spec.none
theorem slices_Index_σok (n : Nat) : SpecOk Tryd.prog (slices_Index_σ n) := (SpecOk.none _)
def slices_Index_Φ (n : Nat) : Orc := with_ Tryd.prog (slices_Index_σ n) [] n 0 hsL
def slices_Index_v (n : Nat) (b0 : Bool) (r1 : Rows) (s2 : ByteArray) : Option (Int × Unit) :=
 DM.denFn tm (slices_Index_Φ n) slices_Index_lv n Tryd.f82 false [AV.sl b0 [Kd.s] r1 Right.no, aS s2] [] (OSh.chk (OSh.plain (.i .i64) []))
def slices_Index_l2 (n : Nat) (b0 : Bool) (r1 : Rows) (s2 : ByteArray) (i0 : Nat) (j3 : Int) : Option (Int × Unit) :=
 DM.loopFn tm (slices_Index_Φ n) slices_Index_lv n Tryd.f82 false [] (OSh.chk (OSh.plain (.i .i64) [])) 2 [] i0 (St.mk ([AV.sl b0 [Kd.s] r1 Right.no, aS s2, Jk, Jk, Jk, Jk, Jk, AV.dv (DV.val (Value.int .i64 (↑(List.length r1) : Int))), aI j3] ++ jk 10) [])
theorem slices_Index_s2 (n : Nat) (b0 : Bool) (r1 : Rows) (s2 : ByteArray) (i0 : Nat) (j3 : Int) : slices_Index_l2 n b0 r1 s2 (i0 + 1) j3 =
 bif decide (j3 < (↑(List.length r1) : Int)) then
 if 0 ≤ j3 then
 if j3 < (↑(List.length r1) : Int) then
 bif s2 == Row.S (List.getD r1 (Int.toNat j3) []) 0 then
 some (j3, ())
 else slices_Index_l2 n b0 r1 s2 i0 (IntKind.wrap IntKind.i64 (j3 + 1))
 else none
 else none
 else some (-1, ()) := by kernel_rfl
theorem slices_Index_e (n : Nat) (b0 : Bool) (r1 : Rows) (s2 : ByteArray) : slices_Index_v n b0 r1 s2 =
 slices_Index_l2 n b0 r1 s2 n 0 := by kernel_rfl
theorem slices_Index_c (n : Nat) (b0 : Bool) (r1 : Rows) (s2 : ByteArray) (y : Int × Unit) (h : slices_Index_v n b0 r1 s2 = some y) : Contract Tryd.prog 82 [AV.sl b0 [Kd.s] r1 Right.no, aS s2] [] (OSh.enc (OSh.plain (.i .i64) []) y) :=
 ac (OSh.plain (.i .i64) []) (slices_Index_σok n) Tryd.func82 (by decide) h
def slices_Contains_lv : Live := []
def slices_Contains_σ (n : Nat) : Spec := (inst 82 [.sl [Kd.s], .s] [] (OSh.plain (.i .i64) []) (fun x e => slices_Index_v n x.1.1 x.1.2 x.2.1) Spec.none)
theorem slices_Contains_σok (n : Nat) : SpecOk Tryd.prog (slices_Contains_σ n) := (inst_ok (fun x e y h => slices_Index_c n x.1.1 x.1.2 x.2.1 y h) (SpecOk.none _))
def slices_Contains_Φ (n : Nat) : Orc := with_ Tryd.prog (slices_Contains_σ n) [] n 0 hsL
def slices_Contains_v (n : Nat) (b0 : Bool) (r1 : Rows) (s2 : ByteArray) : Option (Bool × Unit) :=
 DM.denFn tm (slices_Contains_Φ n) slices_Contains_lv n Tryd.f62 false [AV.sl b0 [Kd.s] r1 Right.no, aS s2] [] (OSh.chk (OSh.plain (.b) []))
theorem slices_Contains_e (n : Nat) (b0 : Bool) (r1 : Rows) (s2 : ByteArray) : slices_Contains_v n b0 r1 s2 =
 obind (slices_Index_v n b0 r1 s2) fun y3 =>
 some (decide (y3.fst ≥ 0), ()) := by kernel_rfl
theorem slices_Contains_c (n : Nat) (b0 : Bool) (r1 : Rows) (s2 : ByteArray) (y : Bool × Unit) (h : slices_Contains_v n b0 r1 s2 = some y) : Contract Tryd.prog 62 [AV.sl b0 [Kd.s] r1 Right.no, aS s2] [] (OSh.enc (OSh.plain (.b) []) y) :=
 ac (OSh.plain (.b) []) (slices_Contains_σok n) Tryd.func62 (by decide) h
def check_Bound_1_lv : Live := []
def check_Bound_1_σ (n : Nat) : Spec := (inst 62 [.sl [Kd.s], .s] [] (OSh.plain (.b) []) (fun x e => slices_Contains_v n x.1.1 x.1.2 x.2.1) Spec.none)
theorem check_Bound_1_σok (n : Nat) : SpecOk Tryd.prog (check_Bound_1_σ n) := (inst_ok (fun x e y h => slices_Contains_c n x.1.1 x.1.2 x.2.1 y h) (SpecOk.none _))
def check_Bound_1_Φ (n : Nat) : Orc := with_ Tryd.prog (check_Bound_1_σ n) [] n 0 hsL
def check_Bound_1_v (n : Nat) (s0 : ByteArray) (b1 : Bool) (j2 : Int) (s3 : ByteArray) (b4 : Bool) (r5 : Rows) : Option (Unit × ((Bool × Rows) × Unit) × Unit) :=
 DM.denFn tm (check_Bound_1_Φ n) check_Bound_1_lv n Tryd.f67 false [AV.agg [aS s0, aB b1, aI j2, aS s3], AV.pl 1000 0] [[AV.sl b4 [Kd.s] r5 (Right.tok 500002)]] (OSh.chk (OSh.plain (.tup []) [[.slt [Kd.s] 0]]))
theorem check_Bound_1_e (n : Nat) (s0 : ByteArray) (b1 : Bool) (j2 : Int) (s3 : ByteArray) (b4 : Bool) (r5 : Rows) : check_Bound_1_v n s0 b1 j2 s3 b4 r5 =
 bif !s0 == ByteArray.mk #[] then
 obind (slices_Contains_v n b4 r5 s0) fun y6 =>
 bif !y6.fst then
 if (List.length r5 + List.length [[DV.val (Value.string s0)]]) * 16 ≤ 140737488355328 then
 some ((), (((b4 && List.isEmpty [[DV.val (Value.string s0)]], appX r5 [[DV.val (Value.string s0)]]), ()), ()))
 else none
 else some ((), (((b4, r5), ()), ()))
 else some ((), (((b4, r5), ()), ())) := by kernel_rfl
theorem check_Bound_1_c (n : Nat) (s0 : ByteArray) (b1 : Bool) (j2 : Int) (s3 : ByteArray) (b4 : Bool) (r5 : Rows) (y : Unit × ((Bool × Rows) × Unit) × Unit) (h : check_Bound_1_v n s0 b1 j2 s3 b4 r5 = some y) : Contract Tryd.prog 67 [AV.agg [aS s0, aB b1, aI j2, aS s3], AV.pl 1000 0] [[AV.sl b4 [Kd.s] r5 (Right.tok 500002)]] (OSh.enc (OSh.plain (.tup []) [[.slt [Kd.s] 0]]) y) :=
 ac (OSh.plain (.tup []) [[.slt [Kd.s] 0]]) (check_Bound_1_σok n) Tryd.func67 (by decide) h
def check_terms_lv : Live := []
def check_terms_σ (n : Nat) : Spec := Spec.none
theorem check_terms_σok (n : Nat) : SpecOk Tryd.prog (check_terms_σ n) := (SpecOk.none _)
def check_terms_Φ (n : Nat) : Orc := with_ Tryd.prog (check_terms_σ n) [] n 0 hsL
def check_terms_v (n : Nat) (s0 : ByteArray) (b1 : Bool) (j2 : Int) (s3 : ByteArray) (s4 : ByteArray) (b5 : Bool) (r6 : Rows) (s7 : ByteArray) (b8 : Bool) (j9 : Int) (s10 : ByteArray) : Option ((Bool × Rows) × Unit) :=
 DM.denFn tm (check_terms_Φ n) check_terms_lv n Tryd.f68 false [AV.agg [aS s0, aB b1, aI j2, aS s3, aS s4, AV.sl b5 kdT r6 Right.no, aS s7, aB b8, aI j9, aS s10]] [] (OSh.chk (OSh.plain (.sl kdT) []))
theorem check_terms_e (n : Nat) (s0 : ByteArray) (b1 : Bool) (j2 : Int) (s3 : ByteArray) (s4 : ByteArray) (b5 : Bool) (r6 : Rows) (s7 : ByteArray) (b8 : Bool) (j9 : Int) (s10 : ByteArray) : check_terms_v n s0 b1 j2 s3 s4 b5 r6 s7 b8 j9 s10 =
 if (List.length [[DV.val (Value.string s0), DV.val (Value.bool b1), DV.val (Value.int .i64 j2), DV.val (Value.string s3)]] + List.length r6) * 48 ≤ 140737488355328 then
 bif List.isEmpty [[DV.val (Value.string s0), DV.val (Value.bool b1), DV.val (Value.int .i64 j2), DV.val (Value.string s3)]] || !List.isEmpty r6 then
 if (List.length (appX [[DV.val (Value.string s0), DV.val (Value.bool b1), DV.val (Value.int .i64 j2), DV.val (Value.string s3)]] r6) + List.length [[DV.val (Value.string s7), DV.val (Value.bool b8), DV.val (Value.int .i64 j9), DV.val (Value.string s10)]]) * 48 ≤ 140737488355328 then
 some ((false && List.isEmpty r6 && List.isEmpty [[DV.val (Value.string s7), DV.val (Value.bool b8), DV.val (Value.int .i64 j9), DV.val (Value.string s10)]], appX (appX [[DV.val (Value.string s0), DV.val (Value.bool b1), DV.val (Value.int .i64 j2), DV.val (Value.string s3)]] r6) [[DV.val (Value.string s7), DV.val (Value.bool b8), DV.val (Value.int .i64 j9), DV.val (Value.string s10)]]), ())
 else none
 else if (List.length (appX [[DV.val (Value.string s0), DV.val (Value.bool b1), DV.val (Value.int .i64 j2), DV.val (Value.string s3)]] r6) + List.length [[DV.val (Value.string s7), DV.val (Value.bool b8), DV.val (Value.int .i64 j9), DV.val (Value.string s10)]]) * 48 ≤ 140737488355328 then
 some ((false && List.isEmpty r6 && List.isEmpty [[DV.val (Value.string s7), DV.val (Value.bool b8), DV.val (Value.int .i64 j9), DV.val (Value.string s10)]], appX (appX [[DV.val (Value.string s0), DV.val (Value.bool b1), DV.val (Value.int .i64 j2), DV.val (Value.string s3)]] r6) [[DV.val (Value.string s7), DV.val (Value.bool b8), DV.val (Value.int .i64 j9), DV.val (Value.string s10)]]), ())
 else none
 else none := by kernel_rfl
theorem check_terms_c (n : Nat) (s0 : ByteArray) (b1 : Bool) (j2 : Int) (s3 : ByteArray) (s4 : ByteArray) (b5 : Bool) (r6 : Rows) (s7 : ByteArray) (b8 : Bool) (j9 : Int) (s10 : ByteArray) (y : (Bool × Rows) × Unit) (h : check_terms_v n s0 b1 j2 s3 s4 b5 r6 s7 b8 j9 s10 = some y) : Contract Tryd.prog 68 [AV.agg [aS s0, aB b1, aI j2, aS s3, aS s4, AV.sl b5 kdT r6 Right.no, aS s7, aB b8, aI j9, aS s10]] [] (OSh.enc (OSh.plain (.sl kdT) []) y) :=
 ac (OSh.plain (.sl kdT) []) (check_terms_σok n) Tryd.func68 (by decide) h
def check_Bound_lv : Live := [(5, [5, 6, 24, 25, 26], [5, 1000, 1001, 1002, 1003]), (8, [5, 6, 24, 25, 26, 31, 32, 33], [5, 1000, 1001, 1002, 1003])]
def check_Bound_σ (n : Nat) : Spec := (inst 67 [.agg [.s, .b, .i .i64, .s], .pl 1000 0] [[.slt [Kd.s] 500002]] (OSh.plain (.tup []) [[.slt [Kd.s] 0]]) (fun x e => check_Bound_1_v n x.1.1 x.1.2.1 x.1.2.2.1 x.1.2.2.2.1 e.1.1.1 e.1.1.2) (inst 68 [.agg [.s, .b, .i .i64, .s, .s, .sl kdT, .s, .b, .i .i64, .s]] [] (OSh.plain (.sl kdT) []) (fun x e => check_terms_v n x.1.1 x.1.2.1 x.1.2.2.1 x.1.2.2.2.1 x.1.2.2.2.2.1 x.1.2.2.2.2.2.1.1 x.1.2.2.2.2.2.1.2 x.1.2.2.2.2.2.2.1 x.1.2.2.2.2.2.2.2.1 x.1.2.2.2.2.2.2.2.2.1 x.1.2.2.2.2.2.2.2.2.2.1) Spec.none))
theorem check_Bound_σok (n : Nat) : SpecOk Tryd.prog (check_Bound_σ n) := (inst_ok (fun x e y h => check_Bound_1_c n x.1.1 x.1.2.1 x.1.2.2.1 x.1.2.2.2.1 e.1.1.1 e.1.1.2 y h) (inst_ok (fun x e y h => check_terms_c n x.1.1 x.1.2.1 x.1.2.2.1 x.1.2.2.2.1 x.1.2.2.2.2.1 x.1.2.2.2.2.2.1.1 x.1.2.2.2.2.2.1.2 x.1.2.2.2.2.2.2.1 x.1.2.2.2.2.2.2.2.1 x.1.2.2.2.2.2.2.2.2.1 x.1.2.2.2.2.2.2.2.2.2.1 y h) (SpecOk.none _)))
def check_Bound_Φ (n : Nat) : Orc := with_ Tryd.prog (check_Bound_σ n) [] n 0 hsL
def check_Bound_v (n : Nat) (s0 : ByteArray) (b1 : Bool) (j2 : Int) (s3 : ByteArray) (s4 : ByteArray) (b5 : Bool) (r6 : Rows) (s7 : ByteArray) (b8 : Bool) (j9 : Int) (s10 : ByteArray) (b11 : Bool) (r12 : Rows) (j13 : Int) : Option ((Bool × Rows) × Unit) :=
 DM.denFn tm (check_Bound_Φ n) check_Bound_lv n Tryd.f38 true [AV.agg [aS s0, aB b1, aI j2, aS s3, aS s4, AV.sl b5 kdT r6 Right.no, aS s7, aB b8, aI j9, aS s10, AV.sl b11 kdL r12 Right.no], aI j13] [] (OSh.chk (OSh.plain (.slt [Kd.s] 0) []))
def check_Bound_l5 (n : Nat) (s0 : ByteArray) (b1 : Bool) (j2 : Int) (s3 : ByteArray) (s4 : ByteArray) (b5 : Bool) (r6 : Rows) (s7 : ByteArray) (b8 : Bool) (j9 : Int) (s10 : ByteArray) (b11 : Bool) (r12 : Rows) (j13 : Int) (i0 : Nat) (b15 : Bool) (r16 : List (List DV)) (j25 : Int) : Option ((Bool × Rows) × Unit) :=
 DM.loopFn tm (check_Bound_Φ n) check_Bound_lv n Tryd.f38 true [] (OSh.chk (OSh.plain (.slt [Kd.s] 0) [])) 5 [] i0 (St.mk ([Jk, Jk, Jk, Jk, Jk, AV.pl 5 0, AV.fn 67 [AV.pl 5 0], Jk, Jk, Jk, Jk, Jk, Jk, Jk, Jk, Jk, Jk, Jk, Jk, Jk, Jk, Jk, Jk, Jk, AV.sl b11 kdL (List.drop 0 (List.take (Int.toNat (if (↑(List.length r12) : Int) < if 0 > j13 then 0 else j13 then (↑(List.length r12) : Int) else if 0 > j13 then 0 else j13)) r12)) Right.no, AV.dv (DV.val (Value.int .i64 (↑(List.length (List.drop 0 (List.take (Int.toNat (if (↑(List.length r12) : Int) < if 0 > j13 then 0 else j13 then (↑(List.length r12) : Int) else if 0 > j13 then 0 else j13)) r12))) : Int))), aI j25] ++ jk 16) [(5, [AV.sl b15 [Kd.s] r16 (Right.tok 20320)])])
def check_Bound_l8 (n : Nat) (s0 : ByteArray) (b1 : Bool) (j2 : Int) (s3 : ByteArray) (s4 : ByteArray) (b5 : Bool) (r6 : Rows) (s7 : ByteArray) (b8 : Bool) (j9 : Int) (s10 : ByteArray) (b11 : Bool) (r12 : Rows) (j13 : Int) (i0 i1 : Nat) (b18 : Bool) (r19 : List (List DV)) (j20 : Int) (b21 : Bool) (r22 : List (List DV)) (j24 : Int) (j27 : Int) : Option ((Bool × Rows) × Unit) :=
 DM.loopFn tm (check_Bound_Φ n) check_Bound_lv n Tryd.f38 true [] (OSh.chk (OSh.plain (.slt [Kd.s] 0) [])) 8 [i0] i1 (St.mk ([Jk, Jk, Jk, Jk, Jk, AV.pl 5 0, AV.fn 67 [AV.pl 5 0], Jk, Jk, Jk, Jk, Jk, Jk, Jk, Jk, Jk, Jk, Jk, Jk, Jk, Jk, Jk, Jk, Jk, AV.sl b11 kdL (List.drop 0 (List.take (Int.toNat (if (↑(List.length r12) : Int) < if 0 > j13 then 0 else j13 then (↑(List.length r12) : Int) else if 0 > j13 then 0 else j13)) r12)) Right.no, AV.dv (DV.val (Value.int .i64 (↑(List.length (List.drop 0 (List.take (Int.toNat (if (↑(List.length r12) : Int) < if 0 > j13 then 0 else j13 then (↑(List.length r12) : Int) else if 0 > j13 then 0 else j13)) r12))) : Int))), aI j27, Jk, Jk, Jk, Jk, AV.sl b18 kdT r19 Right.no, aI j20, aI j24] ++ jk 9) [(5, [AV.sl b21 [Kd.s] r22 (Right.tok 20320)])])
theorem check_Bound_s5 (n : Nat) (s0 : ByteArray) (b1 : Bool) (j2 : Int) (s3 : ByteArray) (s4 : ByteArray) (b5 : Bool) (r6 : Rows) (s7 : ByteArray) (b8 : Bool) (j9 : Int) (s10 : ByteArray) (b11 : Bool) (r12 : Rows) (j13 : Int) (i0 : Nat) (b15 : Bool) (r16 : List (List DV)) (j25 : Int) : check_Bound_l5 n s0 b1 j2 s3 s4 b5 r6 s7 b8 j9 s10 b11 r12 j13 (i0 + 1) b15 r16 j25 =
 bif decide (j25 < (↑(List.length (List.drop 0 (List.take (Int.toNat (if (↑(List.length r12) : Int) < if 0 > j13 then 0 else j13 then (↑(List.length r12) : Int) else if 0 > j13 then 0 else j13)) r12))) : Int)) then
 if 0 ≤ j25 then
 if j25 < (↑(List.length (List.drop 0 (List.take (Int.toNat (if (↑(List.length r12) : Int) < if 0 > j13 then 0 else j13 then (↑(List.length r12) : Int) else if 0 > j13 then 0 else j13)) r12))) : Int) then
 obind (check_terms_v n (Row.S (List.getD (List.drop 0 (List.take (Int.toNat (if (↑(List.length r12) : Int) < if 0 > j13 then 0 else j13 then (↑(List.length r12) : Int) else if 0 > j13 then 0 else j13)) r12)) (Int.toNat j25) []) 0) (Row.B (List.getD (List.drop 0 (List.take (Int.toNat (if (↑(List.length r12) : Int) < if 0 > j13 then 0 else j13 then (↑(List.length r12) : Int) else if 0 > j13 then 0 else j13)) r12)) (Int.toNat j25) []) 1) (Row.I (List.getD (List.drop 0 (List.take (Int.toNat (if (↑(List.length r12) : Int) < if 0 > j13 then 0 else j13 then (↑(List.length r12) : Int) else if 0 > j13 then 0 else j13)) r12)) (Int.toNat j25) []) 2) (Row.S (List.getD (List.drop 0 (List.take (Int.toNat (if (↑(List.length r12) : Int) < if 0 > j13 then 0 else j13 then (↑(List.length r12) : Int) else if 0 > j13 then 0 else j13)) r12)) (Int.toNat j25) []) 3) (Row.S (List.getD (List.drop 0 (List.take (Int.toNat (if (↑(List.length r12) : Int) < if 0 > j13 then 0 else j13 then (↑(List.length r12) : Int) else if 0 > j13 then 0 else j13)) r12)) (Int.toNat j25) []) 4) (Row.N (List.getD (List.drop 0 (List.take (Int.toNat (if (↑(List.length r12) : Int) < if 0 > j13 then 0 else j13 then (↑(List.length r12) : Int) else if 0 > j13 then 0 else j13)) r12)) (Int.toNat j25) []) 5) (Row.R (List.getD (List.drop 0 (List.take (Int.toNat (if (↑(List.length r12) : Int) < if 0 > j13 then 0 else j13 then (↑(List.length r12) : Int) else if 0 > j13 then 0 else j13)) r12)) (Int.toNat j25) []) 5) (Row.S (List.getD (List.drop 0 (List.take (Int.toNat (if (↑(List.length r12) : Int) < if 0 > j13 then 0 else j13 then (↑(List.length r12) : Int) else if 0 > j13 then 0 else j13)) r12)) (Int.toNat j25) []) 6) (Row.B (List.getD (List.drop 0 (List.take (Int.toNat (if (↑(List.length r12) : Int) < if 0 > j13 then 0 else j13 then (↑(List.length r12) : Int) else if 0 > j13 then 0 else j13)) r12)) (Int.toNat j25) []) 7) (Row.I (List.getD (List.drop 0 (List.take (Int.toNat (if (↑(List.length r12) : Int) < if 0 > j13 then 0 else j13 then (↑(List.length r12) : Int) else if 0 > j13 then 0 else j13)) r12)) (Int.toNat j25) []) 8) (Row.S (List.getD (List.drop 0 (List.take (Int.toNat (if (↑(List.length r12) : Int) < if 0 > j13 then 0 else j13 then (↑(List.length r12) : Int) else if 0 > j13 then 0 else j13)) r12)) (Int.toNat j25) []) 9)) fun y26 =>
 check_Bound_l8 n s0 b1 j2 s3 s4 b5 r6 s7 b8 j9 s10 b11 r12 j13 i0 n y26.fst.fst y26.fst.snd ((↑(List.length y26.fst.snd) : Int)) b15 r16 0 j25
 else none
 else none
 else some ((b15, r16), ()) := by kernel_rfl
theorem check_Bound_s8 (n : Nat) (s0 : ByteArray) (b1 : Bool) (j2 : Int) (s3 : ByteArray) (s4 : ByteArray) (b5 : Bool) (r6 : Rows) (s7 : ByteArray) (b8 : Bool) (j9 : Int) (s10 : ByteArray) (b11 : Bool) (r12 : Rows) (j13 : Int) (i0 i1 : Nat) (b18 : Bool) (r19 : List (List DV)) (j20 : Int) (b21 : Bool) (r22 : List (List DV)) (j24 : Int) (j27 : Int) : check_Bound_l8 n s0 b1 j2 s3 s4 b5 r6 s7 b8 j9 s10 b11 r12 j13 i0 (i1 + 1) b18 r19 j20 b21 r22 j24 j27 =
 bif decide (j24 < j20) then
 if 0 ≤ j24 then
 if j24 < (↑(List.length r19) : Int) then
 obind (check_Bound_1_v n (Row.S (List.getD r19 (Int.toNat j24) []) 0) (Row.B (List.getD r19 (Int.toNat j24) []) 1) (Row.I (List.getD r19 (Int.toNat j24) []) 2) (Row.S (List.getD r19 (Int.toNat j24) []) 3) b21 r22) fun y28 =>
 check_Bound_l8 n s0 b1 j2 s3 s4 b5 r6 s7 b8 j9 s10 b11 r12 j13 i0 i1 b18 r19 j20 y28.snd.fst.fst.fst y28.snd.fst.fst.snd (IntKind.wrap IntKind.i64 (j24 + 1)) j27
 else none
 else none
 else check_Bound_l5 n s0 b1 j2 s3 s4 b5 r6 s7 b8 j9 s10 b11 r12 j13 i0 b21 r22 (IntKind.wrap IntKind.i64 (j27 + 1)) := by kernel_rfl
theorem check_Bound_e (n : Nat) (s0 : ByteArray) (b1 : Bool) (j2 : Int) (s3 : ByteArray) (s4 : ByteArray) (b5 : Bool) (r6 : Rows) (s7 : ByteArray) (b8 : Bool) (j9 : Int) (s10 : ByteArray) (b11 : Bool) (r12 : Rows) (j13 : Int) : check_Bound_v n s0 b1 j2 s3 s4 b5 r6 s7 b8 j9 s10 b11 r12 j13 =
 obind (check_Bound_1_v n s0 b1 j2 s3 true []) fun y14 =>
 if 0 ≤ if (↑(List.length r12) : Int) < if 0 > j13 then 0 else j13 then (↑(List.length r12) : Int) else if 0 > j13 then 0 else j13 then
 if (if (↑(List.length r12) : Int) < if 0 > j13 then 0 else j13 then (↑(List.length r12) : Int) else if 0 > j13 then 0 else j13) ≤ (↑(List.length r12) : Int) then
 check_Bound_l5 n s0 b1 j2 s3 s4 b5 r6 s7 b8 j9 s10 b11 r12 j13 n y14.snd.fst.fst.fst y14.snd.fst.fst.snd 0
 else none
 else none := by kernel_rfl
theorem check_Bound_c (n : Nat) (s0 : ByteArray) (b1 : Bool) (j2 : Int) (s3 : ByteArray) (s4 : ByteArray) (b5 : Bool) (r6 : Rows) (s7 : ByteArray) (b8 : Bool) (j9 : Int) (s10 : ByteArray) (b11 : Bool) (r12 : Rows) (j13 : Int) (y : (Bool × Rows) × Unit) (h : check_Bound_v n s0 b1 j2 s3 s4 b5 r6 s7 b8 j9 s10 b11 r12 j13 = some y) : Contract Tryd.prog 38 [AV.agg [aS s0, aB b1, aI j2, aS s3, aS s4, AV.sl b5 kdT r6 Right.no, aS s7, aB b8, aI j9, aS s10, AV.sl b11 kdL r12 Right.no], aI j13] [] (OSh.enc (OSh.plain (.slt [Kd.s] 0) []) y) :=
 ac (OSh.plain (.slt [Kd.s] 0) []) (check_Bound_σok n) Tryd.func38 (by decide) h
def check_free_lv : Live := [(2, [1, 6, 7, 8], [1, 1000, 1001, 1002, 1003])]
def check_free_σ (n : Nat) : Spec := (inst 38 [.agg [.s, .b, .i .i64, .s, .s, .sl kdT, .s, .b, .i .i64, .s, .sl kdL], .i .i64] [] (OSh.plain (.slt [Kd.s] 0) []) (fun x e => check_Bound_v n x.1.1 x.1.2.1 x.1.2.2.1 x.1.2.2.2.1 x.1.2.2.2.2.1 x.1.2.2.2.2.2.1.1 x.1.2.2.2.2.2.1.2 x.1.2.2.2.2.2.2.1 x.1.2.2.2.2.2.2.2.1 x.1.2.2.2.2.2.2.2.2.1 x.1.2.2.2.2.2.2.2.2.2.1 x.1.2.2.2.2.2.2.2.2.2.2.1.1 x.1.2.2.2.2.2.2.2.2.2.2.1.2 x.2.1) (inst 62 [.sl [Kd.s], .s] [] (OSh.plain (.b) []) (fun x e => slices_Contains_v n x.1.1 x.1.2 x.2.1) Spec.none))
theorem check_free_σok (n : Nat) : SpecOk Tryd.prog (check_free_σ n) := (inst_ok (fun x e y h => check_Bound_c n x.1.1 x.1.2.1 x.1.2.2.1 x.1.2.2.2.1 x.1.2.2.2.2.1 x.1.2.2.2.2.2.1.1 x.1.2.2.2.2.2.1.2 x.1.2.2.2.2.2.2.1 x.1.2.2.2.2.2.2.2.1 x.1.2.2.2.2.2.2.2.2.1 x.1.2.2.2.2.2.2.2.2.2.1 x.1.2.2.2.2.2.2.2.2.2.2.1.1 x.1.2.2.2.2.2.2.2.2.2.2.1.2 x.2.1 y h) (inst_ok (fun x e y h => slices_Contains_c n x.1.1 x.1.2 x.2.1 y h) (SpecOk.none _)))
def check_free_Φ (n : Nat) : Orc := with_ Tryd.prog (check_free_σ n) [] n 0 hsL
def check_free_v (n : Nat) (s0 : ByteArray) (b1 : Bool) (j2 : Int) (s3 : ByteArray) (s4 : ByteArray) (b5 : Bool) (r6 : Rows) (s7 : ByteArray) (b8 : Bool) (j9 : Int) (s10 : ByteArray) (b11 : Bool) (r12 : Rows) : Option (Int × Unit) :=
 DM.denFn tm (check_free_Φ n) check_free_lv n Tryd.f34 false [AV.agg [aS s0, aB b1, aI j2, aS s3, aS s4, AV.sl b5 kdT r6 Right.no, aS s7, aB b8, aI j9, aS s10, AV.sl b11 kdL r12 Right.no]] [] (OSh.chk (OSh.plain (.i .i64) []))
def check_free_l2 (n : Nat) (s0 : ByteArray) (b1 : Bool) (j2 : Int) (s3 : ByteArray) (s4 : ByteArray) (b5 : Bool) (r6 : Rows) (s7 : ByteArray) (b8 : Bool) (j9 : Int) (s10 : ByteArray) (b11 : Bool) (r12 : Rows) (i0 : Nat) (j15 : Int) : Option (Int × Unit) :=
 DM.loopFn tm (check_free_Φ n) check_free_lv n Tryd.f34 false [] (OSh.chk (OSh.plain (.i .i64) [])) 2 [] i0 (St.mk ([Jk, AV.pl 1 0, Jk, Jk, Jk, Jk, AV.sl b11 kdL r12 Right.no, AV.dv (DV.val (Value.int .i64 (↑(List.length r12) : Int))), aI j15] ++ jk 20) [(1, [aS s0, aB b1, aI j2, aS s3, aS s4, AV.sl b5 kdT r6 Right.no, aS s7, aB b8, aI j9, aS s10, AV.sl b11 kdL r12 Right.no])])
theorem check_free_s2 (n : Nat) (s0 : ByteArray) (b1 : Bool) (j2 : Int) (s3 : ByteArray) (s4 : ByteArray) (b5 : Bool) (r6 : Rows) (s7 : ByteArray) (b8 : Bool) (j9 : Int) (s10 : ByteArray) (b11 : Bool) (r12 : Rows) (i0 : Nat) (j15 : Int) : check_free_l2 n s0 b1 j2 s3 s4 b5 r6 s7 b8 j9 s10 b11 r12 (i0 + 1) j15 =
 bif decide (j15 < (↑(List.length r12) : Int)) then
 if 0 ≤ j15 then
 if j15 < (↑(List.length r12) : Int) then
 bif !Row.S (List.getD r12 (Int.toNat j15) []) 6 == ByteArray.mk #[] then
 obind (check_Bound_v n s0 b1 j2 s3 s4 b5 r6 s7 b8 j9 s10 b11 r12 j15) fun y16 =>
 obind (slices_Contains_v n y16.fst.fst y16.fst.snd (Row.S (List.getD r12 (Int.toNat j15) []) 6)) fun y17 =>
 bif !y17.fst then
 some (j15, ())
 else check_free_l2 n s0 b1 j2 s3 s4 b5 r6 s7 b8 j9 s10 b11 r12 i0 (IntKind.wrap IntKind.i64 (j15 + 1))
 else check_free_l2 n s0 b1 j2 s3 s4 b5 r6 s7 b8 j9 s10 b11 r12 i0 (IntKind.wrap IntKind.i64 (j15 + 1))
 else none
 else none
 else some (-2, ()) := by kernel_rfl
theorem check_free_e (n : Nat) (s0 : ByteArray) (b1 : Bool) (j2 : Int) (s3 : ByteArray) (s4 : ByteArray) (b5 : Bool) (r6 : Rows) (s7 : ByteArray) (b8 : Bool) (j9 : Int) (s10 : ByteArray) (b11 : Bool) (r12 : Rows) : check_free_v n s0 b1 j2 s3 s4 b5 r6 s7 b8 j9 s10 b11 r12 =
 check_free_l2 n s0 b1 j2 s3 s4 b5 r6 s7 b8 j9 s10 b11 r12 n 0 := by kernel_rfl
theorem check_free_c (n : Nat) (s0 : ByteArray) (b1 : Bool) (j2 : Int) (s3 : ByteArray) (s4 : ByteArray) (b5 : Bool) (r6 : Rows) (s7 : ByteArray) (b8 : Bool) (j9 : Int) (s10 : ByteArray) (b11 : Bool) (r12 : Rows) (y : Int × Unit) (h : check_free_v n s0 b1 j2 s3 s4 b5 r6 s7 b8 j9 s10 b11 r12 = some y) : Contract Tryd.prog 34 [AV.agg [aS s0, aB b1, aI j2, aS s3, aS s4, AV.sl b5 kdT r6 Right.no, aS s7, aB b8, aI j9, aS s10, AV.sl b11 kdL r12 Right.no]] [] (OSh.enc (OSh.plain (.i .i64) []) y) :=
 ac (OSh.plain (.i .i64) []) (check_free_σok n) Tryd.func34 (by decide) h
def check_Vars_lv : Live := []
def check_Vars_σ (n : Nat) : Spec := (inst 38 [.agg [.s, .b, .i .i64, .s, .s, .sl kdT, .s, .b, .i .i64, .s, .sl kdL], .i .i64] [] (OSh.plain (.slt [Kd.s] 0) []) (fun x e => check_Bound_v n x.1.1 x.1.2.1 x.1.2.2.1 x.1.2.2.2.1 x.1.2.2.2.2.1 x.1.2.2.2.2.2.1.1 x.1.2.2.2.2.2.1.2 x.1.2.2.2.2.2.2.1 x.1.2.2.2.2.2.2.2.1 x.1.2.2.2.2.2.2.2.2.1 x.1.2.2.2.2.2.2.2.2.2.1 x.1.2.2.2.2.2.2.2.2.2.2.1.1 x.1.2.2.2.2.2.2.2.2.2.2.1.2 x.2.1) Spec.none)
theorem check_Vars_σok (n : Nat) : SpecOk Tryd.prog (check_Vars_σ n) := (inst_ok (fun x e y h => check_Bound_c n x.1.1 x.1.2.1 x.1.2.2.1 x.1.2.2.2.1 x.1.2.2.2.2.1 x.1.2.2.2.2.2.1.1 x.1.2.2.2.2.2.1.2 x.1.2.2.2.2.2.2.1 x.1.2.2.2.2.2.2.2.1 x.1.2.2.2.2.2.2.2.2.1 x.1.2.2.2.2.2.2.2.2.2.1 x.1.2.2.2.2.2.2.2.2.2.2.1.1 x.1.2.2.2.2.2.2.2.2.2.2.1.2 x.2.1 y h) (SpecOk.none _))
def check_Vars_Φ (n : Nat) : Orc := with_ Tryd.prog (check_Vars_σ n) [] n 0 hsL
def check_Vars_v (n : Nat) (s0 : ByteArray) (b1 : Bool) (j2 : Int) (s3 : ByteArray) (s4 : ByteArray) (b5 : Bool) (r6 : Rows) (s7 : ByteArray) (b8 : Bool) (j9 : Int) (s10 : ByteArray) (b11 : Bool) (r12 : Rows) : Option ((Bool × Rows) × Unit) :=
 DM.denFn tm (check_Vars_Φ n) check_Vars_lv n Tryd.f63 true [AV.agg [aS s0, aB b1, aI j2, aS s3, aS s4, AV.sl b5 kdT r6 Right.no, aS s7, aB b8, aI j9, aS s10, AV.sl b11 kdL r12 Right.no]] [] (OSh.chk (OSh.plain (.slt [Kd.s] 0) []))
theorem check_Vars_e (n : Nat) (s0 : ByteArray) (b1 : Bool) (j2 : Int) (s3 : ByteArray) (s4 : ByteArray) (b5 : Bool) (r6 : Rows) (s7 : ByteArray) (b8 : Bool) (j9 : Int) (s10 : ByteArray) (b11 : Bool) (r12 : Rows) : check_Vars_v n s0 b1 j2 s3 s4 b5 r6 s7 b8 j9 s10 b11 r12 =
 obind (check_Bound_v n s0 b1 j2 s3 s4 b5 r6 s7 b8 j9 s10 b11 r12 ((↑(List.length r12) : Int))) fun y13 =>
 some ((y13.fst.fst, y13.fst.snd), ()) := by kernel_rfl
theorem check_Vars_c (n : Nat) (s0 : ByteArray) (b1 : Bool) (j2 : Int) (s3 : ByteArray) (s4 : ByteArray) (b5 : Bool) (r6 : Rows) (s7 : ByteArray) (b8 : Bool) (j9 : Int) (s10 : ByteArray) (b11 : Bool) (r12 : Rows) (y : (Bool × Rows) × Unit) (h : check_Vars_v n s0 b1 j2 s3 s4 b5 r6 s7 b8 j9 s10 b11 r12 = some y) : Contract Tryd.prog 63 [AV.agg [aS s0, aB b1, aI j2, aS s3, aS s4, AV.sl b5 kdT r6 Right.no, aS s7, aB b8, aI j9, aS s10, AV.sl b11 kdL r12 Right.no]] [] (OSh.enc (OSh.plain (.slt [Kd.s] 0) []) y) :=
 ac (OSh.plain (.slt [Kd.s] 0) []) (check_Vars_σok n) Tryd.func63 (by decide) h
def check_open_1_lv : Live := []
def check_open_1_σ (n : Nat) : Spec := (inst 62 [.sl [Kd.s], .s] [] (OSh.plain (.b) []) (fun x e => slices_Contains_v n x.1.1 x.1.2 x.2.1) Spec.none)
theorem check_open_1_σok (n : Nat) : SpecOk Tryd.prog (check_open_1_σ n) := (inst_ok (fun x e y h => slices_Contains_c n x.1.1 x.1.2 x.2.1 y h) (SpecOk.none _))
def check_open_1_Φ (n : Nat) : Orc := with_ Tryd.prog (check_open_1_σ n) [] n 0 hsL
def check_open_1_v (n : Nat) (s0 : ByteArray) (b1 : Bool) (j2 : Int) (s3 : ByteArray) (b4 : Bool) (r5 : Rows) : Option (Bool × ((Bool × Rows) × Unit) × Unit) :=
 DM.denFn tm (check_open_1_Φ n) check_open_1_lv n Tryd.f65 false [AV.agg [aS s0, aB b1, aI j2, aS s3], AV.pl 1000 0] [[AV.sl b4 [Kd.s] r5 Right.no]] (OSh.chk (OSh.plain (.b) [[.sl [Kd.s]]]))
theorem check_open_1_e (n : Nat) (s0 : ByteArray) (b1 : Bool) (j2 : Int) (s3 : ByteArray) (b4 : Bool) (r5 : Rows) : check_open_1_v n s0 b1 j2 s3 b4 r5 =
 bif !s0 == ByteArray.mk #[] then
 obind (slices_Contains_v n b4 r5 s0) fun y6 =>
 some (!y6.fst, (((b4, r5), ()), ()))
 else some (false, (((b4, r5), ()), ())) := by kernel_rfl
theorem check_open_1_c (n : Nat) (s0 : ByteArray) (b1 : Bool) (j2 : Int) (s3 : ByteArray) (b4 : Bool) (r5 : Rows) (y : Bool × ((Bool × Rows) × Unit) × Unit) (h : check_open_1_v n s0 b1 j2 s3 b4 r5 = some y) : Contract Tryd.prog 65 [AV.agg [aS s0, aB b1, aI j2, aS s3], AV.pl 1000 0] [[AV.sl b4 [Kd.s] r5 Right.no]] (OSh.enc (OSh.plain (.b) [[.sl [Kd.s]]]) y) :=
 ac (OSh.plain (.b) [[.sl [Kd.s]]]) (check_open_1_σok n) Tryd.func65 (by decide) h
def sI_i2_check_open_1_lv : Live := [(2, [0, 1, 7, 8], [1000, 1001, 1002, 1003])]
def sI_i2_check_open_1_σ (n : Nat) : Spec := (inst 65 [.agg [.s, .b, .i .i64, .s], .pl 1000 0] [[.sl [Kd.s]]] (OSh.plain (.b) [[.sl [Kd.s]]]) (fun x e => check_open_1_v n x.1.1 x.1.2.1 x.1.2.2.1 x.1.2.2.2.1 e.1.1.1 e.1.1.2) Spec.none)
theorem sI_i2_check_open_1_σok (n : Nat) : SpecOk Tryd.prog (sI_i2_check_open_1_σ n) := (inst_ok (fun x e y h => check_open_1_c n x.1.1 x.1.2.1 x.1.2.2.1 x.1.2.2.2.1 e.1.1.1 e.1.1.2 y h) (SpecOk.none _))
def sI_i2_check_open_1_Φ (n : Nat) : Orc := with_ Tryd.prog (sI_i2_check_open_1_σ n) [] n 0 hsL
def sI_i2_check_open_1_v (n : Nat) (b0 : Bool) (r1 : Rows) (b2 : Bool) (r3 : Rows) : Option (Int × ((Bool × Rows) × Unit) × Unit) :=
 DM.denFn tm (sI_i2_check_open_1_Φ n) sI_i2_check_open_1_lv n Tryd.f83 false [AV.sl b0 kdT r1 Right.no, AV.fn 65 [AV.pl 1000 0]] [[AV.sl b2 [Kd.s] r3 Right.no]] (OSh.chk (OSh.plain (.i .i64) [[.sl [Kd.s]]]))
def sI_i2_check_open_1_l2 (n : Nat) (b0 : Bool) (r1 : Rows) (b2 : Bool) (r3 : Rows) (i0 : Nat) (j5 : Int) (b6 : Bool) (r7 : List (List DV)) : Option (Int × ((Bool × Rows) × Unit) × Unit) :=
 DM.loopFn tm (sI_i2_check_open_1_Φ n) sI_i2_check_open_1_lv n Tryd.f83 false [[AV.sl b2 [Kd.s] r3 Right.no]] (OSh.chk (OSh.plain (.i .i64) [[.sl [Kd.s]]])) 2 [] i0 (St.mk ([AV.sl b0 kdT r1 Right.no, AV.fn 65 [AV.pl 1000 0], Jk, Jk, Jk, Jk, Jk, AV.dv (DV.val (Value.int .i64 (↑(List.length r1) : Int))), aI j5] ++ jk 10) [(1000, [AV.sl b6 [Kd.s] r7 Right.no])])
theorem sI_i2_check_open_1_s2 (n : Nat) (b0 : Bool) (r1 : Rows) (b2 : Bool) (r3 : Rows) (i0 : Nat) (j5 : Int) (b6 : Bool) (r7 : List (List DV)) : sI_i2_check_open_1_l2 n b0 r1 b2 r3 (i0 + 1) j5 b6 r7 =
 bif decide (j5 < (↑(List.length r1) : Int)) then
 if 0 ≤ j5 then
 if j5 < (↑(List.length r1) : Int) then
 obind (check_open_1_v n (Row.S (List.getD r1 (Int.toNat j5) []) 0) (Row.B (List.getD r1 (Int.toNat j5) []) 1) (Row.I (List.getD r1 (Int.toNat j5) []) 2) (Row.S (List.getD r1 (Int.toNat j5) []) 3) b6 r7) fun y8 =>
 bif y8.fst then
 some (j5, (((y8.snd.fst.fst.fst, y8.snd.fst.fst.snd), ()), ()))
 else sI_i2_check_open_1_l2 n b0 r1 b2 r3 i0 (IntKind.wrap IntKind.i64 (j5 + 1)) y8.snd.fst.fst.fst y8.snd.fst.fst.snd
 else none
 else none
 else some (-1, (((b6, r7), ()), ())) := by kernel_rfl
theorem sI_i2_check_open_1_e (n : Nat) (b0 : Bool) (r1 : Rows) (b2 : Bool) (r3 : Rows) : sI_i2_check_open_1_v n b0 r1 b2 r3 =
 sI_i2_check_open_1_l2 n b0 r1 b2 r3 n 0 b2 r3 := by kernel_rfl
theorem sI_i2_check_open_1_c (n : Nat) (b0 : Bool) (r1 : Rows) (b2 : Bool) (r3 : Rows) (y : Int × ((Bool × Rows) × Unit) × Unit) (h : sI_i2_check_open_1_v n b0 r1 b2 r3 = some y) : Contract Tryd.prog 83 [AV.sl b0 kdT r1 Right.no, AV.fn 65 [AV.pl 1000 0]] [[AV.sl b2 [Kd.s] r3 Right.no]] (OSh.enc (OSh.plain (.i .i64) [[.sl [Kd.s]]]) y) :=
 ac (OSh.plain (.i .i64) [[.sl [Kd.s]]]) (sI_i2_check_open_1_σok n) Tryd.func83 (by decide) h
def sC_check_open_1_lv : Live := []
def sC_check_open_1_σ (n : Nat) : Spec := (inst 83 [.sl kdT, .fn 65 [.pl 1000 0]] [[.sl [Kd.s]]] (OSh.plain (.i .i64) [[.sl [Kd.s]]]) (fun x e => sI_i2_check_open_1_v n x.1.1 x.1.2 e.1.1.1 e.1.1.2) Spec.none)
theorem sC_check_open_1_σok (n : Nat) : SpecOk Tryd.prog (sC_check_open_1_σ n) := (inst_ok (fun x e y h => sI_i2_check_open_1_c n x.1.1 x.1.2 e.1.1.1 e.1.1.2 y h) (SpecOk.none _))
def sC_check_open_1_Φ (n : Nat) : Orc := with_ Tryd.prog (sC_check_open_1_σ n) [] n 0 hsL
def sC_check_open_1_v (n : Nat) (b0 : Bool) (r1 : Rows) (b2 : Bool) (r3 : Rows) : Option (Bool × ((Bool × Rows) × Unit) × Unit) :=
 DM.denFn tm (sC_check_open_1_Φ n) sC_check_open_1_lv n Tryd.f64 false [AV.sl b0 kdT r1 Right.no, AV.fn 65 [AV.pl 1000 0]] [[AV.sl b2 [Kd.s] r3 Right.no]] (OSh.chk (OSh.plain (.b) [[.sl [Kd.s]]]))
theorem sC_check_open_1_e (n : Nat) (b0 : Bool) (r1 : Rows) (b2 : Bool) (r3 : Rows) : sC_check_open_1_v n b0 r1 b2 r3 =
 obind (sI_i2_check_open_1_v n b0 r1 b2 r3) fun y4 =>
 some (decide (y4.fst ≥ 0), (((y4.snd.fst.fst.fst, y4.snd.fst.fst.snd), ()), ())) := by kernel_rfl
theorem sC_check_open_1_c (n : Nat) (b0 : Bool) (r1 : Rows) (b2 : Bool) (r3 : Rows) (y : Bool × ((Bool × Rows) × Unit) × Unit) (h : sC_check_open_1_v n b0 r1 b2 r3 = some y) : Contract Tryd.prog 64 [AV.sl b0 kdT r1 Right.no, AV.fn 65 [AV.pl 1000 0]] [[AV.sl b2 [Kd.s] r3 Right.no]] (OSh.enc (OSh.plain (.b) [[.sl [Kd.s]]]) y) :=
 ac (OSh.plain (.b) [[.sl [Kd.s]]]) (sC_check_open_1_σok n) Tryd.func64 (by decide) h
def check_open_lv : Live := []
def check_open_σ (n : Nat) : Spec := (inst 63 [.agg [.s, .b, .i .i64, .s, .s, .sl kdT, .s, .b, .i .i64, .s, .sl kdL]] [] (OSh.plain (.slt [Kd.s] 0) []) (fun x e => check_Vars_v n x.1.1 x.1.2.1 x.1.2.2.1 x.1.2.2.2.1 x.1.2.2.2.2.1 x.1.2.2.2.2.2.1.1 x.1.2.2.2.2.2.1.2 x.1.2.2.2.2.2.2.1 x.1.2.2.2.2.2.2.2.1 x.1.2.2.2.2.2.2.2.2.1 x.1.2.2.2.2.2.2.2.2.2.1 x.1.2.2.2.2.2.2.2.2.2.2.1.1 x.1.2.2.2.2.2.2.2.2.2.2.1.2) (inst 64 [.sl kdT, .fn 65 [.pl 1000 0]] [[.sl [Kd.s]]] (OSh.plain (.b) [[.sl [Kd.s]]]) (fun x e => sC_check_open_1_v n x.1.1 x.1.2 e.1.1.1 e.1.1.2) Spec.none))
theorem check_open_σok (n : Nat) : SpecOk Tryd.prog (check_open_σ n) := (inst_ok (fun x e y h => check_Vars_c n x.1.1 x.1.2.1 x.1.2.2.1 x.1.2.2.2.1 x.1.2.2.2.2.1 x.1.2.2.2.2.2.1.1 x.1.2.2.2.2.2.1.2 x.1.2.2.2.2.2.2.1 x.1.2.2.2.2.2.2.2.1 x.1.2.2.2.2.2.2.2.2.1 x.1.2.2.2.2.2.2.2.2.2.1 x.1.2.2.2.2.2.2.2.2.2.2.1.1 x.1.2.2.2.2.2.2.2.2.2.2.1.2 y h) (inst_ok (fun x e y h => sC_check_open_1_c n x.1.1 x.1.2 e.1.1.1 e.1.1.2 y h) (SpecOk.none _)))
def check_open_Φ (n : Nat) : Orc := with_ Tryd.prog (check_open_σ n) [] n 0 hsL
def check_open_v (n : Nat) (s0 : ByteArray) (b1 : Bool) (j2 : Int) (s3 : ByteArray) (s4 : ByteArray) (b5 : Bool) (r6 : Rows) (s7 : ByteArray) (b8 : Bool) (j9 : Int) (s10 : ByteArray) (b11 : Bool) (r12 : Rows) : Option (Bool × Unit) :=
 DM.denFn tm (check_open_Φ n) check_open_lv n Tryd.f35 false [AV.agg [aS s0, aB b1, aI j2, aS s3, aS s4, AV.sl b5 kdT r6 Right.no, aS s7, aB b8, aI j9, aS s10, AV.sl b11 kdL r12 Right.no]] [] (OSh.chk (OSh.plain (.b) []))
theorem check_open_e (n : Nat) (s0 : ByteArray) (b1 : Bool) (j2 : Int) (s3 : ByteArray) (s4 : ByteArray) (b5 : Bool) (r6 : Rows) (s7 : ByteArray) (b8 : Bool) (j9 : Int) (s10 : ByteArray) (b11 : Bool) (r12 : Rows) : check_open_v n s0 b1 j2 s3 s4 b5 r6 s7 b8 j9 s10 b11 r12 =
 obind (check_Vars_v n s0 b1 j2 s3 s4 b5 r6 s7 b8 j9 s10 b11 r12) fun y13 =>
 if (List.length [[DV.val (Value.string s7), DV.val (Value.bool b8), DV.val (Value.int .i64 j9), DV.val (Value.string s10)]] + List.length r6) * 48 ≤ 140737488355328 then
 bif List.isEmpty [[DV.val (Value.string s7), DV.val (Value.bool b8), DV.val (Value.int .i64 j9), DV.val (Value.string s10)]] || !List.isEmpty r6 then
 obind (sC_check_open_1_v n (false && List.isEmpty r6) (appX [[DV.val (Value.string s7), DV.val (Value.bool b8), DV.val (Value.int .i64 j9), DV.val (Value.string s10)]] r6) y13.fst.fst y13.fst.snd) fun y14 =>
 some (y14.fst, ())
 else obind (sC_check_open_1_v n (false && List.isEmpty r6) (appX [[DV.val (Value.string s7), DV.val (Value.bool b8), DV.val (Value.int .i64 j9), DV.val (Value.string s10)]] r6) y13.fst.fst y13.fst.snd) fun y15 =>
 some (y15.fst, ())
 else none := by kernel_rfl
theorem check_open_c (n : Nat) (s0 : ByteArray) (b1 : Bool) (j2 : Int) (s3 : ByteArray) (s4 : ByteArray) (b5 : Bool) (r6 : Rows) (s7 : ByteArray) (b8 : Bool) (j9 : Int) (s10 : ByteArray) (b11 : Bool) (r12 : Rows) (y : Bool × Unit) (h : check_open_v n s0 b1 j2 s3 s4 b5 r6 s7 b8 j9 s10 b11 r12 = some y) : Contract Tryd.prog 35 [AV.agg [aS s0, aB b1, aI j2, aS s3, aS s4, AV.sl b5 kdT r6 Right.no, aS s7, aB b8, aI j9, aS s10, AV.sl b11 kdL r12 Right.no]] [] (OSh.enc (OSh.plain (.b) []) y) :=
 ac (OSh.plain (.b) []) (check_open_σok n) Tryd.func35 (by decide) h
def check_Program_lv : Live := [(5, [5, 17, 18, 19], [16, 1000, 1001, 1002, 1003])]
def check_Program_σ (n : Nat) : Spec := (inst 31 [.agg [.s, .b, .i .i64, .s, .s, .sl kdT, .s, .b, .i .i64, .s, .sl kdL]] [] (OSh.plain (.tup [.s, .i .i64]) []) (fun x e => show_Rule_v n x.1.1 x.1.2.1 x.1.2.2.1 x.1.2.2.2.1 x.1.2.2.2.2.1 x.1.2.2.2.2.2.1.1 x.1.2.2.2.2.2.1.2 x.1.2.2.2.2.2.2.1 x.1.2.2.2.2.2.2.2.1 x.1.2.2.2.2.2.2.2.2.1 x.1.2.2.2.2.2.2.2.2.2.1 x.1.2.2.2.2.2.2.2.2.2.2.1.1 x.1.2.2.2.2.2.2.2.2.2.2.1.2) (inst 32 [.agg [.s, .b, .i .i64, .s, .s, .sl kdT, .s, .b, .i .i64, .s, .sl kdL]] [] (OSh.plain (.i .i64) []) (fun x e => check_place_v n x.1.1 x.1.2.1 x.1.2.2.1 x.1.2.2.2.1 x.1.2.2.2.2.1 x.1.2.2.2.2.2.1.1 x.1.2.2.2.2.2.1.2 x.1.2.2.2.2.2.2.1 x.1.2.2.2.2.2.2.2.1 x.1.2.2.2.2.2.2.2.2.1 x.1.2.2.2.2.2.2.2.2.2.1 x.1.2.2.2.2.2.2.2.2.2.2.1.1 x.1.2.2.2.2.2.2.2.2.2.2.1.2) (inst 33 [.agg [.s, .b, .i .i64, .s, .s, .sl kdT, .s, .b, .i .i64, .s, .sl kdL], .pl 1000 1000000000] [[.nilf, .arr [Kd.s, Kd.i .i64]]] (OSh.plain (.i .i64) [[.nilf, .arr [Kd.s, Kd.i .i64]]]) (fun x e => check_arity_nilf_v n x.1.1 x.1.2.1 x.1.2.2.1 x.1.2.2.2.1 x.1.2.2.2.2.1 x.1.2.2.2.2.2.1.1 x.1.2.2.2.2.2.1.2 x.1.2.2.2.2.2.2.1 x.1.2.2.2.2.2.2.2.1 x.1.2.2.2.2.2.2.2.2.1 x.1.2.2.2.2.2.2.2.2.2.1 x.1.2.2.2.2.2.2.2.2.2.2.1.1 x.1.2.2.2.2.2.2.2.2.2.2.1.2 e.1.2.1) (inst 34 [.agg [.s, .b, .i .i64, .s, .s, .sl kdT, .s, .b, .i .i64, .s, .sl kdL]] [] (OSh.plain (.i .i64) []) (fun x e => check_free_v n x.1.1 x.1.2.1 x.1.2.2.1 x.1.2.2.2.1 x.1.2.2.2.2.1 x.1.2.2.2.2.2.1.1 x.1.2.2.2.2.2.1.2 x.1.2.2.2.2.2.2.1 x.1.2.2.2.2.2.2.2.1 x.1.2.2.2.2.2.2.2.2.1 x.1.2.2.2.2.2.2.2.2.2.1 x.1.2.2.2.2.2.2.2.2.2.2.1.1 x.1.2.2.2.2.2.2.2.2.2.2.1.2) (inst 35 [.agg [.s, .b, .i .i64, .s, .s, .sl kdT, .s, .b, .i .i64, .s, .sl kdL]] [] (OSh.plain (.b) []) (fun x e => check_open_v n x.1.1 x.1.2.1 x.1.2.2.1 x.1.2.2.2.1 x.1.2.2.2.2.1 x.1.2.2.2.2.2.1.1 x.1.2.2.2.2.2.1.2 x.1.2.2.2.2.2.2.1 x.1.2.2.2.2.2.2.2.1 x.1.2.2.2.2.2.2.2.2.1 x.1.2.2.2.2.2.2.2.2.2.1 x.1.2.2.2.2.2.2.2.2.2.2.1.1 x.1.2.2.2.2.2.2.2.2.2.2.1.2) Spec.none)))))
theorem check_Program_σok (n : Nat) : SpecOk Tryd.prog (check_Program_σ n) := (inst_ok (fun x e y h => show_Rule_c n x.1.1 x.1.2.1 x.1.2.2.1 x.1.2.2.2.1 x.1.2.2.2.2.1 x.1.2.2.2.2.2.1.1 x.1.2.2.2.2.2.1.2 x.1.2.2.2.2.2.2.1 x.1.2.2.2.2.2.2.2.1 x.1.2.2.2.2.2.2.2.2.1 x.1.2.2.2.2.2.2.2.2.2.1 x.1.2.2.2.2.2.2.2.2.2.2.1.1 x.1.2.2.2.2.2.2.2.2.2.2.1.2 y h) (inst_ok (fun x e y h => check_place_c n x.1.1 x.1.2.1 x.1.2.2.1 x.1.2.2.2.1 x.1.2.2.2.2.1 x.1.2.2.2.2.2.1.1 x.1.2.2.2.2.2.1.2 x.1.2.2.2.2.2.2.1 x.1.2.2.2.2.2.2.2.1 x.1.2.2.2.2.2.2.2.2.1 x.1.2.2.2.2.2.2.2.2.2.1 x.1.2.2.2.2.2.2.2.2.2.2.1.1 x.1.2.2.2.2.2.2.2.2.2.2.1.2 y h) (inst_ok (fun x e y h => check_arity_nilf_c n x.1.1 x.1.2.1 x.1.2.2.1 x.1.2.2.2.1 x.1.2.2.2.2.1 x.1.2.2.2.2.2.1.1 x.1.2.2.2.2.2.1.2 x.1.2.2.2.2.2.2.1 x.1.2.2.2.2.2.2.2.1 x.1.2.2.2.2.2.2.2.2.1 x.1.2.2.2.2.2.2.2.2.2.1 x.1.2.2.2.2.2.2.2.2.2.2.1.1 x.1.2.2.2.2.2.2.2.2.2.2.1.2 e.1.2.1 y h) (inst_ok (fun x e y h => check_free_c n x.1.1 x.1.2.1 x.1.2.2.1 x.1.2.2.2.1 x.1.2.2.2.2.1 x.1.2.2.2.2.2.1.1 x.1.2.2.2.2.2.1.2 x.1.2.2.2.2.2.2.1 x.1.2.2.2.2.2.2.2.1 x.1.2.2.2.2.2.2.2.2.1 x.1.2.2.2.2.2.2.2.2.2.1 x.1.2.2.2.2.2.2.2.2.2.2.1.1 x.1.2.2.2.2.2.2.2.2.2.2.1.2 y h) (inst_ok (fun x e y h => check_open_c n x.1.1 x.1.2.1 x.1.2.2.1 x.1.2.2.2.1 x.1.2.2.2.2.1 x.1.2.2.2.2.2.1.1 x.1.2.2.2.2.2.1.2 x.1.2.2.2.2.2.2.1 x.1.2.2.2.2.2.2.2.1 x.1.2.2.2.2.2.2.2.2.1 x.1.2.2.2.2.2.2.2.2.2.1 x.1.2.2.2.2.2.2.2.2.2.2.1.1 x.1.2.2.2.2.2.2.2.2.2.2.1.2 y h) (SpecOk.none _))))))
def check_Program_Φ (n : Nat) : Orc := with_ Tryd.prog (check_Program_σ n) [] n 0 hsL
def check_Program_v (n : Nat) (b0 : Bool) (r1 : Rows) : Option ((Int × Int × Int × Unit) × Unit) :=
 DM.denFn tm (check_Program_Φ n) check_Program_lv n Tryd.f21 false [AV.sl b0 kdR r1 Right.no] [] (OSh.chk (OSh.plain (.tup [.i .i64, .i .i64, .i .i64]) []))
def check_Program_l5 (n : Nat) (b0 : Bool) (r1 : Rows) (i0 : Nat) (j7 : Int) (r8 : List (List DV)) : Option ((Int × Int × Int × Unit) × Unit) :=
 DM.loopFn tm (check_Program_Φ n) check_Program_lv n Tryd.f21 false [] (OSh.chk (OSh.plain (.tup [.i .i64, .i .i64, .i .i64]) [])) 5 [] i0 (St.mk ([Jk, Jk, Jk, Jk, Jk, AV.pl 16 1000000000, Jk, Jk, Jk, Jk, Jk, Jk, Jk, Jk, Jk, Jk, Jk, AV.sl b0 kdR r1 Right.no, AV.dv (DV.val (Value.int .i64 (↑(List.length r1) : Int))), aI j7] ++ jk 35) [(16, [AV.dv (DV.val Value.nilFunc), AV.arr [Kd.s, Kd.i .i64] r8])])
theorem check_Program_s5 (n : Nat) (b0 : Bool) (r1 : Rows) (i0 : Nat) (j7 : Int) (r8 : List (List DV)) : check_Program_l5 n b0 r1 (i0 + 1) j7 r8 =
 bif decide (j7 < (↑(List.length r1) : Int)) then
 if 0 ≤ j7 then
 if j7 < (↑(List.length r1) : Int) then
 obind (show_Rule_v n (Row.S (List.getD r1 (Int.toNat j7) []) 0) (Row.B (List.getD r1 (Int.toNat j7) []) 1) (Row.I (List.getD r1 (Int.toNat j7) []) 2) (Row.S (List.getD r1 (Int.toNat j7) []) 3) (Row.S (List.getD r1 (Int.toNat j7) []) 4) (Row.N (List.getD r1 (Int.toNat j7) []) 5) (Row.R (List.getD r1 (Int.toNat j7) []) 5) (Row.S (List.getD r1 (Int.toNat j7) []) 6) (Row.B (List.getD r1 (Int.toNat j7) []) 7) (Row.I (List.getD r1 (Int.toNat j7) []) 8) (Row.S (List.getD r1 (Int.toNat j7) []) 9) (Row.N (List.getD r1 (Int.toNat j7) []) 10) (Row.R (List.getD r1 (Int.toNat j7) []) 10)) fun y9 =>
 bif y9.fst.snd.fst != 0 then
 some ((100, (j7, (-1, ()))), ())
 else obind (check_place_v n (Row.S (List.getD r1 (Int.toNat j7) []) 0) (Row.B (List.getD r1 (Int.toNat j7) []) 1) (Row.I (List.getD r1 (Int.toNat j7) []) 2) (Row.S (List.getD r1 (Int.toNat j7) []) 3) (Row.S (List.getD r1 (Int.toNat j7) []) 4) (Row.N (List.getD r1 (Int.toNat j7) []) 5) (Row.R (List.getD r1 (Int.toNat j7) []) 5) (Row.S (List.getD r1 (Int.toNat j7) []) 6) (Row.B (List.getD r1 (Int.toNat j7) []) 7) (Row.I (List.getD r1 (Int.toNat j7) []) 8) (Row.S (List.getD r1 (Int.toNat j7) []) 9) (Row.N (List.getD r1 (Int.toNat j7) []) 10) (Row.R (List.getD r1 (Int.toNat j7) []) 10)) fun y10 =>
 bif decide (y10.fst > -2) then
 some ((101, (j7, (y10.fst, ()))), ())
 else obind (check_arity_nilf_v n (Row.S (List.getD r1 (Int.toNat j7) []) 0) (Row.B (List.getD r1 (Int.toNat j7) []) 1) (Row.I (List.getD r1 (Int.toNat j7) []) 2) (Row.S (List.getD r1 (Int.toNat j7) []) 3) (Row.S (List.getD r1 (Int.toNat j7) []) 4) (Row.N (List.getD r1 (Int.toNat j7) []) 5) (Row.R (List.getD r1 (Int.toNat j7) []) 5) (Row.S (List.getD r1 (Int.toNat j7) []) 6) (Row.B (List.getD r1 (Int.toNat j7) []) 7) (Row.I (List.getD r1 (Int.toNat j7) []) 8) (Row.S (List.getD r1 (Int.toNat j7) []) 9) (Row.N (List.getD r1 (Int.toNat j7) []) 10) (Row.R (List.getD r1 (Int.toNat j7) []) 10) r8) fun y11 =>
 bif decide (y11.fst > -2) then
 some ((102, (j7, (y11.fst, ()))), ())
 else obind (check_free_v n (Row.S (List.getD r1 (Int.toNat j7) []) 0) (Row.B (List.getD r1 (Int.toNat j7) []) 1) (Row.I (List.getD r1 (Int.toNat j7) []) 2) (Row.S (List.getD r1 (Int.toNat j7) []) 3) (Row.S (List.getD r1 (Int.toNat j7) []) 4) (Row.N (List.getD r1 (Int.toNat j7) []) 5) (Row.R (List.getD r1 (Int.toNat j7) []) 5) (Row.S (List.getD r1 (Int.toNat j7) []) 6) (Row.B (List.getD r1 (Int.toNat j7) []) 7) (Row.I (List.getD r1 (Int.toNat j7) []) 8) (Row.S (List.getD r1 (Int.toNat j7) []) 9) (Row.N (List.getD r1 (Int.toNat j7) []) 10) (Row.R (List.getD r1 (Int.toNat j7) []) 10)) fun y12 =>
 bif decide (y12.fst > -2) then
 some ((103, (j7, (y12.fst, ()))), ())
 else obind (check_open_v n (Row.S (List.getD r1 (Int.toNat j7) []) 0) (Row.B (List.getD r1 (Int.toNat j7) []) 1) (Row.I (List.getD r1 (Int.toNat j7) []) 2) (Row.S (List.getD r1 (Int.toNat j7) []) 3) (Row.S (List.getD r1 (Int.toNat j7) []) 4) (Row.N (List.getD r1 (Int.toNat j7) []) 5) (Row.R (List.getD r1 (Int.toNat j7) []) 5) (Row.S (List.getD r1 (Int.toNat j7) []) 6) (Row.B (List.getD r1 (Int.toNat j7) []) 7) (Row.I (List.getD r1 (Int.toNat j7) []) 8) (Row.S (List.getD r1 (Int.toNat j7) []) 9) (Row.N (List.getD r1 (Int.toNat j7) []) 10) (Row.R (List.getD r1 (Int.toNat j7) []) 10)) fun y13 =>
 bif y13.fst then
 some ((104, (j7, (-1, ()))), ())
 else check_Program_l5 n b0 r1 i0 (IntKind.wrap IntKind.i64 (j7 + 1)) y11.snd.fst.snd.fst
 else none
 else none
 else some ((0, (-1, (-1, ()))), ()) := by kernel_rfl
theorem check_Program_e (n : Nat) (b0 : Bool) (r1 : Rows) : check_Program_v n b0 r1 =
 bif decide ((↑(List.length r1) : Int) > 16) then
 some ((81, (-1, (-1, ()))), ())
 else check_Program_l5 n b0 r1 n 0 [] := by kernel_rfl
theorem check_Program_c (n : Nat) (b0 : Bool) (r1 : Rows) (y : (Int × Int × Int × Unit) × Unit) (h : check_Program_v n b0 r1 = some y) : Contract Tryd.prog 21 [AV.sl b0 kdR r1 Right.no] [] (OSh.enc (OSh.plain (.tup [.i .i64, .i .i64, .i .i64]) []) y) :=
 ac (OSh.plain (.tup [.i .i64, .i .i64, .i .i64]) []) (check_Program_σok n) Tryd.func21 (by decide) h
def local_terms_lv : Live := [(3, [3, 6, 7, 8], [1000, 1001, 1002, 1003])]
def local_terms_σ (n : Nat) : Spec := Spec.none
theorem local_terms_σok (n : Nat) : SpecOk Tryd.prog (local_terms_σ n) := (SpecOk.none _)
def local_terms_Φ (n : Nat) : Orc := with_ Tryd.prog (local_terms_σ n) [] n 0 hsL
def local_terms_v (n : Nat) (b0 : Bool) (r1 : Rows) : Option ((Bool × Rows) × Unit) :=
 DM.denFn tm (local_terms_Φ n) local_terms_lv n Tryd.f37 true [AV.sl b0 [Kd.s] r1 Right.no] [] (OSh.chk (OSh.plain (.slt kdT 0) []))
def local_terms_l3 (n : Nat) (b0 : Bool) (r1 : Rows) (i0 : Nat) (b2 : Bool) (r3 : List (List DV)) (j4 : Int) : Option ((Bool × Rows) × Unit) :=
 DM.loopFn tm (local_terms_Φ n) local_terms_lv n Tryd.f37 true [] (OSh.chk (OSh.plain (.slt kdT 0) [])) 3 [] i0 (St.mk ([Jk, Jk, Jk, AV.sl b2 kdT r3 (Right.tok 3), Jk, Jk, AV.sl b0 [Kd.s] r1 Right.no, AV.dv (DV.val (Value.int .i64 (↑(List.length r1) : Int))), aI j4] ++ jk 10) [])
theorem local_terms_s3 (n : Nat) (b0 : Bool) (r1 : Rows) (i0 : Nat) (b2 : Bool) (r3 : List (List DV)) (j4 : Int) : local_terms_l3 n b0 r1 (i0 + 1) b2 r3 j4 =
 bif decide (j4 < (↑(List.length r1) : Int)) then
 if 0 ≤ j4 then
 if j4 < (↑(List.length r1) : Int) then
 if (List.length r3 + List.length [[DV.val (Value.string (Row.S (List.getD r1 (Int.toNat j4) []) 0)), DV.val (Value.bool false), DV.val (Value.int .i64 0), DV.val (Value.string (ByteArray.mk #[]))]]) * 48 ≤ 140737488355328 then
 local_terms_l3 n b0 r1 i0 (b2 && List.isEmpty [[DV.val (Value.string (Row.S (List.getD r1 (Int.toNat j4) []) 0)), DV.val (Value.bool false), DV.val (Value.int .i64 0), DV.val (Value.string (ByteArray.mk #[]))]]) (appX r3 [[DV.val (Value.string (Row.S (List.getD r1 (Int.toNat j4) []) 0)), DV.val (Value.bool false), DV.val (Value.int .i64 0), DV.val (Value.string (ByteArray.mk #[]))]]) (IntKind.wrap IntKind.i64 (j4 + 1))
 else none
 else none
 else none
 else some ((b2, r3), ()) := by kernel_rfl
theorem local_terms_e (n : Nat) (b0 : Bool) (r1 : Rows) : local_terms_v n b0 r1 =
 local_terms_l3 n b0 r1 n true [] 0 := by kernel_rfl
theorem local_terms_c (n : Nat) (b0 : Bool) (r1 : Rows) (y : (Bool × Rows) × Unit) (h : local_terms_v n b0 r1 = some y) : Contract Tryd.prog 37 [AV.sl b0 [Kd.s] r1 Right.no] [] (OSh.enc (OSh.plain (.slt kdT 0) []) y) :=
 ac (OSh.plain (.slt kdT 0) []) (local_terms_σok n) Tryd.func37 (by decide) h
def local_own_lv : Live := [(3, [3, 6, 7, 8], [1000, 1001, 1002, 1003])]
def local_own_σ (n : Nat) : Spec := Spec.none
theorem local_own_σok (n : Nat) : SpecOk Tryd.prog (local_own_σ n) := (SpecOk.none _)
def local_own_Φ (n : Nat) : Orc := with_ Tryd.prog (local_own_σ n) [] n 0 hsL
def local_own_v (n : Nat) (b0 : Bool) (r1 : Rows) : Option ((Bool × Rows) × Unit) :=
 DM.denFn tm (local_own_Φ n) local_own_lv n Tryd.f39 true [AV.sl b0 kdL r1 Right.no] [] (OSh.chk (OSh.plain (.slt kdL 0) []))
def local_own_l3 (n : Nat) (b0 : Bool) (r1 : Rows) (i0 : Nat) (b2 : Bool) (r3 : List (List DV)) (j4 : Int) : Option ((Bool × Rows) × Unit) :=
 DM.loopFn tm (local_own_Φ n) local_own_lv n Tryd.f39 true [] (OSh.chk (OSh.plain (.slt kdL 0) [])) 3 [] i0 (St.mk ([Jk, Jk, Jk, AV.sl b2 kdL r3 (Right.tok 3), Jk, Jk, AV.sl b0 kdL r1 Right.no, AV.dv (DV.val (Value.int .i64 (↑(List.length r1) : Int))), aI j4] ++ jk 13) [])
theorem local_own_s3 (n : Nat) (b0 : Bool) (r1 : Rows) (i0 : Nat) (b2 : Bool) (r3 : List (List DV)) (j4 : Int) : local_own_l3 n b0 r1 (i0 + 1) b2 r3 j4 =
 bif decide (j4 < (↑(List.length r1) : Int)) then
 if 0 ≤ j4 then
 if j4 < (↑(List.length r1) : Int) then
 if (0 + List.length (Row.R (List.getD r1 (Int.toNat j4) []) 5)) * 48 ≤ 140737488355328 then
 if (List.length r3 + List.length [[DV.val (Value.string (Row.S (List.getD r1 (Int.toNat j4) []) 0)), DV.val (Value.bool (Row.B (List.getD r1 (Int.toNat j4) []) 1)), DV.val (Value.int .i64 (Row.I (List.getD r1 (Int.toNat j4) []) 2)), DV.val (Value.string (Row.S (List.getD r1 (Int.toNat j4) []) 3)), DV.val (Value.string (Row.S (List.getD r1 (Int.toNat j4) []) 4)), DV.sl (true && List.isEmpty (Row.R (List.getD r1 (Int.toNat j4) []) 5)) kdT (appX [] (Row.R (List.getD r1 (Int.toNat j4) []) 5)), DV.val (Value.string (Row.S (List.getD r1 (Int.toNat j4) []) 6)), DV.val (Value.bool (Row.B (List.getD r1 (Int.toNat j4) []) 7)), DV.val (Value.int .i64 (Row.I (List.getD r1 (Int.toNat j4) []) 8)), DV.val (Value.string (Row.S (List.getD r1 (Int.toNat j4) []) 9))]]) * 136 ≤ 140737488355328 then
 local_own_l3 n b0 r1 i0 (b2 && List.isEmpty [[DV.val (Value.string (Row.S (List.getD r1 (Int.toNat j4) []) 0)), DV.val (Value.bool (Row.B (List.getD r1 (Int.toNat j4) []) 1)), DV.val (Value.int .i64 (Row.I (List.getD r1 (Int.toNat j4) []) 2)), DV.val (Value.string (Row.S (List.getD r1 (Int.toNat j4) []) 3)), DV.val (Value.string (Row.S (List.getD r1 (Int.toNat j4) []) 4)), DV.sl (true && List.isEmpty (Row.R (List.getD r1 (Int.toNat j4) []) 5)) kdT (appX [] (Row.R (List.getD r1 (Int.toNat j4) []) 5)), DV.val (Value.string (Row.S (List.getD r1 (Int.toNat j4) []) 6)), DV.val (Value.bool (Row.B (List.getD r1 (Int.toNat j4) []) 7)), DV.val (Value.int .i64 (Row.I (List.getD r1 (Int.toNat j4) []) 8)), DV.val (Value.string (Row.S (List.getD r1 (Int.toNat j4) []) 9))]]) (appX r3 [[DV.val (Value.string (Row.S (List.getD r1 (Int.toNat j4) []) 0)), DV.val (Value.bool (Row.B (List.getD r1 (Int.toNat j4) []) 1)), DV.val (Value.int .i64 (Row.I (List.getD r1 (Int.toNat j4) []) 2)), DV.val (Value.string (Row.S (List.getD r1 (Int.toNat j4) []) 3)), DV.val (Value.string (Row.S (List.getD r1 (Int.toNat j4) []) 4)), DV.sl (true && List.isEmpty (Row.R (List.getD r1 (Int.toNat j4) []) 5)) kdT (appX [] (Row.R (List.getD r1 (Int.toNat j4) []) 5)), DV.val (Value.string (Row.S (List.getD r1 (Int.toNat j4) []) 6)), DV.val (Value.bool (Row.B (List.getD r1 (Int.toNat j4) []) 7)), DV.val (Value.int .i64 (Row.I (List.getD r1 (Int.toNat j4) []) 8)), DV.val (Value.string (Row.S (List.getD r1 (Int.toNat j4) []) 9))]]) (IntKind.wrap IntKind.i64 (j4 + 1))
 else none
 else none
 else none
 else none
 else some ((b2, r3), ()) := by kernel_rfl
theorem local_own_e (n : Nat) (b0 : Bool) (r1 : Rows) : local_own_v n b0 r1 =
 local_own_l3 n b0 r1 n true [] 0 := by kernel_rfl
theorem local_own_c (n : Nat) (b0 : Bool) (r1 : Rows) (y : (Bool × Rows) × Unit) (h : local_own_v n b0 r1 = some y) : Contract Tryd.prog 39 [AV.sl b0 kdL r1 Right.no] [] (OSh.enc (OSh.plain (.slt kdL 0) []) y) :=
 ac (OSh.plain (.slt kdL 0) []) (local_own_σok n) Tryd.func39 (by decide) h
end
end Go.Den
namespace Go.Den
noncomputable section
open Go.Proofs
set_option maxRecDepth 100000
def local_one_lv : Live := [(4, [0, 3, 5, 6, 15, 16, 17], [3, 1000, 1001, 1002, 1003])]
def local_one_σ (n : Nat) : Spec := (inst 36 [.i .i64] [] (OSh.plain (.s) []) (fun x e => strconv_Itoa_v n x.1) (inst 38 [.agg [.s, .b, .i .i64, .s, .s, .sl kdT, .s, .b, .i .i64, .s, .sl kdL], .i .i64] [] (OSh.plain (.slt [Kd.s] 0) []) (fun x e => check_Bound_v n x.1.1 x.1.2.1 x.1.2.2.1 x.1.2.2.2.1 x.1.2.2.2.2.1 x.1.2.2.2.2.2.1.1 x.1.2.2.2.2.2.1.2 x.1.2.2.2.2.2.2.1 x.1.2.2.2.2.2.2.2.1 x.1.2.2.2.2.2.2.2.2.1 x.1.2.2.2.2.2.2.2.2.2.1 x.1.2.2.2.2.2.2.2.2.2.2.1.1 x.1.2.2.2.2.2.2.2.2.2.2.1.2 x.2.1) (inst 37 [.sl [Kd.s]] [] (OSh.plain (.slt kdT 0) []) (fun x e => local_terms_v n x.1.1 x.1.2) (inst 39 [.sl kdL] [] (OSh.plain (.slt kdL 0) []) (fun x e => local_own_v n x.1.1 x.1.2) Spec.none))))
theorem local_one_σok (n : Nat) : SpecOk Tryd.prog (local_one_σ n) := (inst_ok (fun x e y h => strconv_Itoa_c n x.1 y h) (inst_ok (fun x e y h => check_Bound_c n x.1.1 x.1.2.1 x.1.2.2.1 x.1.2.2.2.1 x.1.2.2.2.2.1 x.1.2.2.2.2.2.1.1 x.1.2.2.2.2.2.1.2 x.1.2.2.2.2.2.2.1 x.1.2.2.2.2.2.2.2.1 x.1.2.2.2.2.2.2.2.2.1 x.1.2.2.2.2.2.2.2.2.2.1 x.1.2.2.2.2.2.2.2.2.2.2.1.1 x.1.2.2.2.2.2.2.2.2.2.2.1.2 x.2.1 y h) (inst_ok (fun x e y h => local_terms_c n x.1.1 x.1.2 y h) (inst_ok (fun x e y h => local_own_c n x.1.1 x.1.2 y h) (SpecOk.none _)))))
def local_one_Φ (n : Nat) : Orc := with_ Tryd.prog (local_one_σ n) [] n 0 [2000089, 1000053, 1000054, 1000055, 1000056, 1000057, 1000067, 1000080]
def local_one_v (n : Nat) (j0 : Int) (s1 : ByteArray) (b2 : Bool) (j3 : Int) (s4 : ByteArray) (s5 : ByteArray) (b6 : Bool) (r7 : Rows) (s8 : ByteArray) (b9 : Bool) (j10 : Int) (s11 : ByteArray) (b12 : Bool) (r13 : Rows) : Option ((Bool × Rows) × Unit) :=
 DM.denFn tm (local_one_Φ n) local_one_lv n Tryd.f22 true [aI j0, AV.agg [aS s1, aB b2, aI j3, aS s4, aS s5, AV.sl b6 kdT r7 Right.no, aS s8, aB b9, aI j10, aS s11, AV.sl b12 kdL r13 Right.no]] [] (OSh.chk (OSh.plain (.slt kdR 0) []))
def local_one_l4 (n : Nat) (j0 : Int) (s1 : ByteArray) (b2 : Bool) (j3 : Int) (s4 : ByteArray) (s5 : ByteArray) (b6 : Bool) (r7 : Rows) (s8 : ByteArray) (b9 : Bool) (j10 : Int) (s11 : ByteArray) (b12 : Bool) (r13 : Rows) (i0 : Nat) (b23 : Bool) (r24 : List (List DV)) (j25 : Int) (b26 : Bool) (r27 : List (List DV)) : Option ((Bool × Rows) × Unit) :=
 DM.loopFn tm (local_one_Φ n) local_one_lv n Tryd.f22 true [] (OSh.chk (OSh.plain (.slt kdR 0) [])) 4 [] i0 (St.mk ([aI j0, Jk, Jk, AV.pl 3 0, Jk, AV.sl b26 kdR r27 (Right.tok 5), AV.sl b23 kdL r24 (Right.tok 6), Jk, Jk, Jk, Jk, Jk, Jk, Jk, Jk, AV.sl b12 kdL r13 Right.no, AV.dv (DV.val (Value.int .i64 (↑(List.length r13) : Int))), aI j25] ++ jk 88) [(3, [aS s1, aB b2, aI j3, aS s4, aS s5, AV.sl b6 kdT r7 Right.no, aS s8, aB b9, aI j10, aS s11, AV.sl b12 kdL r13 Right.no])])
theorem local_one_s4 (n : Nat) (j0 : Int) (s1 : ByteArray) (b2 : Bool) (j3 : Int) (s4 : ByteArray) (s5 : ByteArray) (b6 : Bool) (r7 : Rows) (s8 : ByteArray) (b9 : Bool) (j10 : Int) (s11 : ByteArray) (b12 : Bool) (r13 : Rows) (i0 : Nat) (b23 : Bool) (r24 : List (List DV)) (j25 : Int) (b26 : Bool) (r27 : List (List DV)) : local_one_l4 n j0 s1 b2 j3 s4 s5 b6 r7 s8 b9 j10 s11 b12 r13 (i0 + 1) b23 r24 j25 b26 r27 =
 bif decide (j25 < (↑(List.length r13) : Int)) then
 if 0 ≤ j25 then
 if j25 < (↑(List.length r13) : Int) then
 bif Row.S (List.getD r13 (Int.toNat j25) []) 6 == ByteArray.mk #[] && (Row.B (List.getD r13 (Int.toNat j25) []) 7 == false && (Row.I (List.getD r13 (Int.toNat j25) []) 8 == 0 && (Row.S (List.getD r13 (Int.toNat j25) []) 9 == ByteArray.mk #[] && true))) then
 if (List.length r24 + List.length [[DV.val (Value.string (Row.S (List.getD r13 (Int.toNat j25) []) 0)), DV.val (Value.bool (Row.B (List.getD r13 (Int.toNat j25) []) 1)), DV.val (Value.int .i64 (Row.I (List.getD r13 (Int.toNat j25) []) 2)), DV.val (Value.string (Row.S (List.getD r13 (Int.toNat j25) []) 3)), DV.val (Value.string (Row.S (List.getD r13 (Int.toNat j25) []) 4)), DV.sl (Row.N (List.getD r13 (Int.toNat j25) []) 5) kdT (Row.R (List.getD r13 (Int.toNat j25) []) 5), DV.val (Value.string (ByteArray.mk #[])), DV.val (Value.bool false), DV.val (Value.int .i64 0), DV.val (Value.string (ByteArray.mk #[]))]]) * 136 ≤ 140737488355328 then
 local_one_l4 n j0 s1 b2 j3 s4 s5 b6 r7 s8 b9 j10 s11 b12 r13 i0 (b23 && List.isEmpty [[DV.val (Value.string (Row.S (List.getD r13 (Int.toNat j25) []) 0)), DV.val (Value.bool (Row.B (List.getD r13 (Int.toNat j25) []) 1)), DV.val (Value.int .i64 (Row.I (List.getD r13 (Int.toNat j25) []) 2)), DV.val (Value.string (Row.S (List.getD r13 (Int.toNat j25) []) 3)), DV.val (Value.string (Row.S (List.getD r13 (Int.toNat j25) []) 4)), DV.sl (Row.N (List.getD r13 (Int.toNat j25) []) 5) kdT (Row.R (List.getD r13 (Int.toNat j25) []) 5), DV.val (Value.string (ByteArray.mk #[])), DV.val (Value.bool false), DV.val (Value.int .i64 0), DV.val (Value.string (ByteArray.mk #[]))]]) (appX r24 [[DV.val (Value.string (Row.S (List.getD r13 (Int.toNat j25) []) 0)), DV.val (Value.bool (Row.B (List.getD r13 (Int.toNat j25) []) 1)), DV.val (Value.int .i64 (Row.I (List.getD r13 (Int.toNat j25) []) 2)), DV.val (Value.string (Row.S (List.getD r13 (Int.toNat j25) []) 3)), DV.val (Value.string (Row.S (List.getD r13 (Int.toNat j25) []) 4)), DV.sl (Row.N (List.getD r13 (Int.toNat j25) []) 5) kdT (Row.R (List.getD r13 (Int.toNat j25) []) 5), DV.val (Value.string (ByteArray.mk #[])), DV.val (Value.bool false), DV.val (Value.int .i64 0), DV.val (Value.string (ByteArray.mk #[]))]]) (IntKind.wrap IntKind.i64 (j25 + 1)) b26 r27
 else none
 else bif Row.S (List.getD r13 (Int.toNat j25) []) 6 == s1 && (Row.B (List.getD r13 (Int.toNat j25) []) 7 == b2 && (Row.I (List.getD r13 (Int.toNat j25) []) 8 == j3 && (Row.S (List.getD r13 (Int.toNat j25) []) 9 == s4 && true))) then
 if (List.length r24 + List.length [[DV.val (Value.string (Row.S (List.getD r13 (Int.toNat j25) []) 0)), DV.val (Value.bool (Row.B (List.getD r13 (Int.toNat j25) []) 1)), DV.val (Value.int .i64 (Row.I (List.getD r13 (Int.toNat j25) []) 2)), DV.val (Value.string (Row.S (List.getD r13 (Int.toNat j25) []) 3)), DV.val (Value.string (Row.S (List.getD r13 (Int.toNat j25) []) 4)), DV.sl (Row.N (List.getD r13 (Int.toNat j25) []) 5) kdT (Row.R (List.getD r13 (Int.toNat j25) []) 5), DV.val (Value.string (ByteArray.mk #[])), DV.val (Value.bool false), DV.val (Value.int .i64 0), DV.val (Value.string (ByteArray.mk #[]))]]) * 136 ≤ 140737488355328 then
 local_one_l4 n j0 s1 b2 j3 s4 s5 b6 r7 s8 b9 j10 s11 b12 r13 i0 (b23 && List.isEmpty [[DV.val (Value.string (Row.S (List.getD r13 (Int.toNat j25) []) 0)), DV.val (Value.bool (Row.B (List.getD r13 (Int.toNat j25) []) 1)), DV.val (Value.int .i64 (Row.I (List.getD r13 (Int.toNat j25) []) 2)), DV.val (Value.string (Row.S (List.getD r13 (Int.toNat j25) []) 3)), DV.val (Value.string (Row.S (List.getD r13 (Int.toNat j25) []) 4)), DV.sl (Row.N (List.getD r13 (Int.toNat j25) []) 5) kdT (Row.R (List.getD r13 (Int.toNat j25) []) 5), DV.val (Value.string (ByteArray.mk #[])), DV.val (Value.bool false), DV.val (Value.int .i64 0), DV.val (Value.string (ByteArray.mk #[]))]]) (appX r24 [[DV.val (Value.string (Row.S (List.getD r13 (Int.toNat j25) []) 0)), DV.val (Value.bool (Row.B (List.getD r13 (Int.toNat j25) []) 1)), DV.val (Value.int .i64 (Row.I (List.getD r13 (Int.toNat j25) []) 2)), DV.val (Value.string (Row.S (List.getD r13 (Int.toNat j25) []) 3)), DV.val (Value.string (Row.S (List.getD r13 (Int.toNat j25) []) 4)), DV.sl (Row.N (List.getD r13 (Int.toNat j25) []) 5) kdT (Row.R (List.getD r13 (Int.toNat j25) []) 5), DV.val (Value.string (ByteArray.mk #[])), DV.val (Value.bool false), DV.val (Value.int .i64 0), DV.val (Value.string (ByteArray.mk #[]))]]) (IntKind.wrap IntKind.i64 (j25 + 1)) b26 r27
 else none
 else obind (strconv_Itoa_v n j0) fun y28 =>
 if ByteArray.size y28.fst + 1 < 4611686018427387904 then
 obind (strconv_Itoa_v n j25) fun y29 =>
 if ByteArray.size (y28.fst ++ ByteArray.mk #[46]) + ByteArray.size y29.fst < 4611686018427387904 then
 obind (check_Bound_v n s1 b2 j3 s4 s5 b6 r7 s8 b9 j10 s11 b12 r13 j25) fun y30 =>
 obind (local_terms_v n y30.fst.fst y30.fst.snd) fun y31 =>
 obind (check_Bound_v n s1 b2 j3 s4 s5 b6 r7 s8 b9 j10 s11 b12 r13 (IntKind.wrap IntKind.i64 (j25 + 1))) fun y32 =>
 obind (local_terms_v n y32.fst.fst y32.fst.snd) fun y33 =>
 if 4 + ByteArray.size (y28.fst ++ ByteArray.mk #[46] ++ y29.fst) < 4611686018427387904 then
 obind (local_own_v n b23 r24) fun y34 =>
 if 5 + ByteArray.size (y28.fst ++ ByteArray.mk #[46] ++ y29.fst) < 4611686018427387904 then
 obind (local_own_v n false ([[DV.val (Value.string s1), DV.val (Value.bool b2), DV.val (Value.int .i64 j3), DV.val (Value.string s4), DV.val (Value.string (ByteArray.mk #[126, 97, 115, 107] ++ (y28.fst ++ ByteArray.mk #[46] ++ y29.fst))), DV.sl y31.fst.fst kdT y31.fst.snd, DV.val (Value.string (ByteArray.mk #[])), DV.val (Value.bool false), DV.val (Value.int .i64 0), DV.val (Value.string (ByteArray.mk #[]))], [DV.val (Value.string (Row.S (List.getD r13 (Int.toNat j25) []) 0)), DV.val (Value.bool (Row.B (List.getD r13 (Int.toNat j25) []) 1)), DV.val (Value.int .i64 (Row.I (List.getD r13 (Int.toNat j25) []) 2)), DV.val (Value.string (Row.S (List.getD r13 (Int.toNat j25) []) 3)), DV.val (Value.string (Row.S (List.getD r13 (Int.toNat j25) []) 4)), DV.sl (Row.N (List.getD r13 (Int.toNat j25) []) 5) kdT (Row.R (List.getD r13 (Int.toNat j25) []) 5), DV.val (Value.string (ByteArray.mk #[])), DV.val (Value.bool false), DV.val (Value.int .i64 0), DV.val (Value.string (ByteArray.mk #[]))]])) fun y35 =>
 if (List.length r27 + List.length [[DV.val (Value.string s1), DV.val (Value.bool b2), DV.val (Value.int .i64 j3), DV.val (Value.string s4), DV.val (Value.string (ByteArray.mk #[126, 97, 115, 107] ++ (y28.fst ++ ByteArray.mk #[46] ++ y29.fst))), DV.sl y31.fst.fst kdT y31.fst.snd, DV.val (Value.string (Row.S (List.getD r13 (Int.toNat j25) []) 6)), DV.val (Value.bool (Row.B (List.getD r13 (Int.toNat j25) []) 7)), DV.val (Value.int .i64 (Row.I (List.getD r13 (Int.toNat j25) []) 8)), DV.val (Value.string (Row.S (List.getD r13 (Int.toNat j25) []) 9)), DV.sl y34.fst.fst kdL y34.fst.snd], [DV.val (Value.string (Row.S (List.getD r13 (Int.toNat j25) []) 6)), DV.val (Value.bool (Row.B (List.getD r13 (Int.toNat j25) []) 7)), DV.val (Value.int .i64 (Row.I (List.getD r13 (Int.toNat j25) []) 8)), DV.val (Value.string (Row.S (List.getD r13 (Int.toNat j25) []) 9)), DV.val (Value.string (ByteArray.mk #[126, 116, 101, 108, 108] ++ (y28.fst ++ ByteArray.mk #[46] ++ y29.fst))), DV.sl y33.fst.fst kdT y33.fst.snd, DV.val (Value.string s1), DV.val (Value.bool b2), DV.val (Value.int .i64 j3), DV.val (Value.string s4), DV.sl y35.fst.fst kdL y35.fst.snd]]) * 160 ≤ 140737488355328 then
 if 5 + ByteArray.size (y28.fst ++ ByteArray.mk #[46] ++ y29.fst) < 4611686018427387904 then
 local_one_l4 n j0 s1 b2 j3 s4 s5 b6 r7 s8 b9 j10 s11 b12 r13 i0 false ([[DV.val (Value.string (Row.S (List.getD r13 (Int.toNat j25) []) 6)), DV.val (Value.bool (Row.B (List.getD r13 (Int.toNat j25) []) 7)), DV.val (Value.int .i64 (Row.I (List.getD r13 (Int.toNat j25) []) 8)), DV.val (Value.string (Row.S (List.getD r13 (Int.toNat j25) []) 9)), DV.val (Value.string (ByteArray.mk #[126, 116, 101, 108, 108] ++ (y28.fst ++ ByteArray.mk #[46] ++ y29.fst))), DV.sl y33.fst.fst kdT y33.fst.snd, DV.val (Value.string (ByteArray.mk #[])), DV.val (Value.bool false), DV.val (Value.int .i64 0), DV.val (Value.string (ByteArray.mk #[]))]]) (IntKind.wrap IntKind.i64 (j25 + 1)) (b26 && List.isEmpty [[DV.val (Value.string s1), DV.val (Value.bool b2), DV.val (Value.int .i64 j3), DV.val (Value.string s4), DV.val (Value.string (ByteArray.mk #[126, 97, 115, 107] ++ (y28.fst ++ ByteArray.mk #[46] ++ y29.fst))), DV.sl y31.fst.fst kdT y31.fst.snd, DV.val (Value.string (Row.S (List.getD r13 (Int.toNat j25) []) 6)), DV.val (Value.bool (Row.B (List.getD r13 (Int.toNat j25) []) 7)), DV.val (Value.int .i64 (Row.I (List.getD r13 (Int.toNat j25) []) 8)), DV.val (Value.string (Row.S (List.getD r13 (Int.toNat j25) []) 9)), DV.sl y34.fst.fst kdL y34.fst.snd], [DV.val (Value.string (Row.S (List.getD r13 (Int.toNat j25) []) 6)), DV.val (Value.bool (Row.B (List.getD r13 (Int.toNat j25) []) 7)), DV.val (Value.int .i64 (Row.I (List.getD r13 (Int.toNat j25) []) 8)), DV.val (Value.string (Row.S (List.getD r13 (Int.toNat j25) []) 9)), DV.val (Value.string (ByteArray.mk #[126, 116, 101, 108, 108] ++ (y28.fst ++ ByteArray.mk #[46] ++ y29.fst))), DV.sl y33.fst.fst kdT y33.fst.snd, DV.val (Value.string s1), DV.val (Value.bool b2), DV.val (Value.int .i64 j3), DV.val (Value.string s4), DV.sl y35.fst.fst kdL y35.fst.snd]]) (appX r27 [[DV.val (Value.string s1), DV.val (Value.bool b2), DV.val (Value.int .i64 j3), DV.val (Value.string s4), DV.val (Value.string (ByteArray.mk #[126, 97, 115, 107] ++ (y28.fst ++ ByteArray.mk #[46] ++ y29.fst))), DV.sl y31.fst.fst kdT y31.fst.snd, DV.val (Value.string (Row.S (List.getD r13 (Int.toNat j25) []) 6)), DV.val (Value.bool (Row.B (List.getD r13 (Int.toNat j25) []) 7)), DV.val (Value.int .i64 (Row.I (List.getD r13 (Int.toNat j25) []) 8)), DV.val (Value.string (Row.S (List.getD r13 (Int.toNat j25) []) 9)), DV.sl y34.fst.fst kdL y34.fst.snd], [DV.val (Value.string (Row.S (List.getD r13 (Int.toNat j25) []) 6)), DV.val (Value.bool (Row.B (List.getD r13 (Int.toNat j25) []) 7)), DV.val (Value.int .i64 (Row.I (List.getD r13 (Int.toNat j25) []) 8)), DV.val (Value.string (Row.S (List.getD r13 (Int.toNat j25) []) 9)), DV.val (Value.string (ByteArray.mk #[126, 116, 101, 108, 108] ++ (y28.fst ++ ByteArray.mk #[46] ++ y29.fst))), DV.sl y33.fst.fst kdT y33.fst.snd, DV.val (Value.string s1), DV.val (Value.bool b2), DV.val (Value.int .i64 j3), DV.val (Value.string s4), DV.sl y35.fst.fst kdL y35.fst.snd]])
 else none
 else none
 else none
 else none
 else none
 else none
 else none
 else none
 else if (0 + List.length r7) * 48 ≤ 140737488355328 then
 obind (local_own_v n b23 r24) fun y36 =>
 if (List.length r27 + List.length [[DV.val (Value.string s1), DV.val (Value.bool b2), DV.val (Value.int .i64 j3), DV.val (Value.string s4), DV.val (Value.string s5), DV.sl (true && List.isEmpty r7) kdT (appX [] r7), DV.val (Value.string s8), DV.val (Value.bool b9), DV.val (Value.int .i64 j10), DV.val (Value.string s11), DV.sl y36.fst.fst kdL y36.fst.snd]]) * 160 ≤ 140737488355328 then
 some ((b26 && List.isEmpty [[DV.val (Value.string s1), DV.val (Value.bool b2), DV.val (Value.int .i64 j3), DV.val (Value.string s4), DV.val (Value.string s5), DV.sl (true && List.isEmpty r7) kdT (appX [] r7), DV.val (Value.string s8), DV.val (Value.bool b9), DV.val (Value.int .i64 j10), DV.val (Value.string s11), DV.sl y36.fst.fst kdL y36.fst.snd]], appX r27 [[DV.val (Value.string s1), DV.val (Value.bool b2), DV.val (Value.int .i64 j3), DV.val (Value.string s4), DV.val (Value.string s5), DV.sl (true && List.isEmpty r7) kdT (appX [] r7), DV.val (Value.string s8), DV.val (Value.bool b9), DV.val (Value.int .i64 j10), DV.val (Value.string s11), DV.sl y36.fst.fst kdL y36.fst.snd]]), ())
 else none
 else none := by kernel_rfl
theorem local_one_e (n : Nat) (j0 : Int) (s1 : ByteArray) (b2 : Bool) (j3 : Int) (s4 : ByteArray) (s5 : ByteArray) (b6 : Bool) (r7 : Rows) (s8 : ByteArray) (b9 : Bool) (j10 : Int) (s11 : ByteArray) (b12 : Bool) (r13 : Rows) : local_one_v n j0 s1 b2 j3 s4 s5 b6 r7 s8 b9 j10 s11 b12 r13 =
 local_one_l4 n j0 s1 b2 j3 s4 s5 b6 r7 s8 b9 j10 s11 b12 r13 n true [] 0 true [] := by kernel_rfl
theorem local_one_c (n : Nat) (j0 : Int) (s1 : ByteArray) (b2 : Bool) (j3 : Int) (s4 : ByteArray) (s5 : ByteArray) (b6 : Bool) (r7 : Rows) (s8 : ByteArray) (b9 : Bool) (j10 : Int) (s11 : ByteArray) (b12 : Bool) (r13 : Rows) (y : (Bool × Rows) × Unit) (h : local_one_v n j0 s1 b2 j3 s4 s5 b6 r7 s8 b9 j10 s11 b12 r13 = some y) : Contract Tryd.prog 22 [aI j0, AV.agg [aS s1, aB b2, aI j3, aS s4, aS s5, AV.sl b6 kdT r7 Right.no, aS s8, aB b9, aI j10, aS s11, AV.sl b12 kdL r13 Right.no]] [] (OSh.enc (OSh.plain (.slt kdR 0) []) y) :=
 ac (OSh.plain (.slt kdR 0) []) (local_one_σok n) Tryd.func22 (by decide) h
def local_Rewrite_lv : Live := [(6, [7, 19, 20, 21], [1000, 1001, 1002, 1003])]
def local_Rewrite_σ (n : Nat) : Spec := (inst 21 [.sl kdR] [] (OSh.plain (.tup [.i .i64, .i .i64, .i .i64]) []) (fun x e => check_Program_v n x.1.1 x.1.2) (inst 22 [.i .i64, .agg [.s, .b, .i .i64, .s, .s, .sl kdT, .s, .b, .i .i64, .s, .sl kdL]] [] (OSh.plain (.slt kdR 0) []) (fun x e => local_one_v n x.1 x.2.1.1 x.2.1.2.1 x.2.1.2.2.1 x.2.1.2.2.2.1 x.2.1.2.2.2.2.1 x.2.1.2.2.2.2.2.1.1 x.2.1.2.2.2.2.2.1.2 x.2.1.2.2.2.2.2.2.1 x.2.1.2.2.2.2.2.2.2.1 x.2.1.2.2.2.2.2.2.2.2.1 x.2.1.2.2.2.2.2.2.2.2.2.1 x.2.1.2.2.2.2.2.2.2.2.2.2.1.1 x.2.1.2.2.2.2.2.2.2.2.2.2.1.2) Spec.none))
theorem local_Rewrite_σok (n : Nat) : SpecOk Tryd.prog (local_Rewrite_σ n) := (inst_ok (fun x e y h => check_Program_c n x.1.1 x.1.2 y h) (inst_ok (fun x e y h => local_one_c n x.1 x.2.1.1 x.2.1.2.1 x.2.1.2.2.1 x.2.1.2.2.2.1 x.2.1.2.2.2.2.1 x.2.1.2.2.2.2.2.1.1 x.2.1.2.2.2.2.2.1.2 x.2.1.2.2.2.2.2.2.1 x.2.1.2.2.2.2.2.2.2.1 x.2.1.2.2.2.2.2.2.2.2.1 x.2.1.2.2.2.2.2.2.2.2.2.1 x.2.1.2.2.2.2.2.2.2.2.2.2.1.1 x.2.1.2.2.2.2.2.2.2.2.2.2.1.2 y h) (SpecOk.none _)))
def local_Rewrite_Φ (n : Nat) : Orc := with_ Tryd.prog (local_Rewrite_σ n) [] n 0 hsL
def local_Rewrite_v (n : Nat) (b0 : Bool) (r1 : Rows) : Option (((Bool × Rows) × Int × Unit) × Unit) :=
 DM.denFn tm (local_Rewrite_Φ n) local_Rewrite_lv n Tryd.f9 true [AV.sl b0 kdR r1 Right.no] [] (OSh.chk (OSh.plain (.tup [.slt kdR 0, .i .i64]) []))
def local_Rewrite_l6 (n : Nat) (b0 : Bool) (r1 : Rows) (i0 : Nat) (b4 : Bool) (r5 : List (List DV)) (j6 : Int) : Option (((Bool × Rows) × Int × Unit) × Unit) :=
 DM.loopFn tm (local_Rewrite_Φ n) local_Rewrite_lv n Tryd.f9 true [] (OSh.chk (OSh.plain (.tup [.slt kdR 0, .i .i64]) [])) 6 [] i0 (St.mk ([Jk, Jk, Jk, Jk, Jk, Jk, Jk, AV.sl b4 kdR r5 (Right.tok 7), Jk, Jk, Jk, Jk, Jk, Jk, Jk, Jk, Jk, Jk, Jk, AV.sl b0 kdR r1 Right.no, AV.dv (DV.val (Value.int .i64 (↑(List.length r1) : Int))), aI j6] ++ jk 11) [])
theorem local_Rewrite_s6 (n : Nat) (b0 : Bool) (r1 : Rows) (i0 : Nat) (b4 : Bool) (r5 : List (List DV)) (j6 : Int) : local_Rewrite_l6 n b0 r1 (i0 + 1) b4 r5 j6 =
 bif decide (j6 < (↑(List.length r1) : Int)) then
 if 0 ≤ j6 then
 if j6 < (↑(List.length r1) : Int) then
 obind (local_one_v n j6 (Row.S (List.getD r1 (Int.toNat j6) []) 0) (Row.B (List.getD r1 (Int.toNat j6) []) 1) (Row.I (List.getD r1 (Int.toNat j6) []) 2) (Row.S (List.getD r1 (Int.toNat j6) []) 3) (Row.S (List.getD r1 (Int.toNat j6) []) 4) (Row.N (List.getD r1 (Int.toNat j6) []) 5) (Row.R (List.getD r1 (Int.toNat j6) []) 5) (Row.S (List.getD r1 (Int.toNat j6) []) 6) (Row.B (List.getD r1 (Int.toNat j6) []) 7) (Row.I (List.getD r1 (Int.toNat j6) []) 8) (Row.S (List.getD r1 (Int.toNat j6) []) 9) (Row.N (List.getD r1 (Int.toNat j6) []) 10) (Row.R (List.getD r1 (Int.toNat j6) []) 10)) fun y7 =>
 if (List.length r5 + List.length y7.fst.snd) * 160 ≤ 140737488355328 then
 local_Rewrite_l6 n b0 r1 i0 (b4 && List.isEmpty y7.fst.snd) (appX r5 y7.fst.snd) (IntKind.wrap IntKind.i64 (j6 + 1))
 else none
 else none
 else none
 else some (((b4, r5), (0, ())), ()) := by kernel_rfl
theorem local_Rewrite_e (n : Nat) (b0 : Bool) (r1 : Rows) : local_Rewrite_v n b0 r1 =
 obind (check_Program_v n b0 r1) fun y2 =>
 bif y2.fst.fst != 0 then
 some (((true, []), (y2.fst.fst, ())), ())
 else local_Rewrite_l6 n b0 r1 n true [] 0 := by kernel_rfl
theorem local_Rewrite_c (n : Nat) (b0 : Bool) (r1 : Rows) (y : ((Bool × Rows) × Int × Unit) × Unit) (h : local_Rewrite_v n b0 r1 = some y) : Contract Tryd.prog 9 [AV.sl b0 kdR r1 Right.no] [] (OSh.enc (OSh.plain (.tup [.slt kdR 0, .i .i64]) []) y) :=
 ac (OSh.plain (.tup [.slt kdR 0, .i .i64]) []) (local_Rewrite_σok n) Tryd.func9 (by decide) h
def internal_stringslite_HasPrefix_lv : Live := []
def internal_stringslite_HasPrefix_σ (n : Nat) : Spec := Spec.none
theorem internal_stringslite_HasPrefix_σok (n : Nat) : SpecOk Tryd.prog (internal_stringslite_HasPrefix_σ n) := (SpecOk.none _)
def internal_stringslite_HasPrefix_Φ (n : Nat) : Orc := with_ Tryd.prog (internal_stringslite_HasPrefix_σ n) [] n 0 hsL
def internal_stringslite_HasPrefix_v (n : Nat) (s0 : ByteArray) (s1 : ByteArray) : Option (Bool × Unit) :=
 DM.denFn tm (internal_stringslite_HasPrefix_Φ n) internal_stringslite_HasPrefix_lv n Tryd.f40 false [aS s0, aS s1] [] (OSh.chk (OSh.plain (.b) []))
theorem internal_stringslite_HasPrefix_e (n : Nat) (s0 : ByteArray) (s1 : ByteArray) : internal_stringslite_HasPrefix_v n s0 s1 =
 bif decide ((↑(ByteArray.size s0) : Int) ≥ (↑(ByteArray.size s1) : Int)) then
 if (↑(ByteArray.size s1) : Int) ≤ (↑(ByteArray.size s0) : Int) then
 some (ByteArray.extract s0 0 (Int.toNat (↑(ByteArray.size s1) : Int)) == s1, ())
 else none
 else some (false, ()) := by kernel_rfl
theorem internal_stringslite_HasPrefix_c (n : Nat) (s0 : ByteArray) (s1 : ByteArray) (y : Bool × Unit) (h : internal_stringslite_HasPrefix_v n s0 s1 = some y) : Contract Tryd.prog 40 [aS s0, aS s1] [] (OSh.enc (OSh.plain (.b) []) y) :=
 ac (OSh.plain (.b) []) (internal_stringslite_HasPrefix_σok n) Tryd.func40 (by decide) h
def strings_HasPrefix_lv : Live := []
def strings_HasPrefix_σ (n : Nat) : Spec := (inst 40 [.s, .s] [] (OSh.plain (.b) []) (fun x e => internal_stringslite_HasPrefix_v n x.1 x.2.1) Spec.none)
theorem strings_HasPrefix_σok (n : Nat) : SpecOk Tryd.prog (strings_HasPrefix_σ n) := (inst_ok (fun x e y h => internal_stringslite_HasPrefix_c n x.1 x.2.1 y h) (SpecOk.none _))
def strings_HasPrefix_Φ (n : Nat) : Orc := with_ Tryd.prog (strings_HasPrefix_σ n) [] n 0 hsL
def strings_HasPrefix_v (n : Nat) (s0 : ByteArray) (s1 : ByteArray) : Option (Bool × Unit) :=
 DM.denFn tm (strings_HasPrefix_Φ n) strings_HasPrefix_lv n Tryd.f23 false [aS s0, aS s1] [] (OSh.chk (OSh.plain (.b) []))
theorem strings_HasPrefix_e (n : Nat) (s0 : ByteArray) (s1 : ByteArray) : strings_HasPrefix_v n s0 s1 =
 obind (internal_stringslite_HasPrefix_v n s0 s1) fun y2 =>
 some (y2.fst, ()) := by kernel_rfl
theorem strings_HasPrefix_c (n : Nat) (s0 : ByteArray) (s1 : ByteArray) (y : Bool × Unit) (h : strings_HasPrefix_v n s0 s1 = some y) : Contract Tryd.prog 23 [aS s0, aS s1] [] (OSh.enc (OSh.plain (.b) []) y) :=
 ac (OSh.plain (.b) []) (strings_HasPrefix_σok n) Tryd.func23 (by decide) h
def local_Relay_lv : Live := []
def local_Relay_σ (n : Nat) : Spec := (inst 23 [.s, .s] [] (OSh.plain (.b) []) (fun x e => strings_HasPrefix_v n x.1 x.2.1) Spec.none)
theorem local_Relay_σok (n : Nat) : SpecOk Tryd.prog (local_Relay_σ n) := (inst_ok (fun x e y h => strings_HasPrefix_c n x.1 x.2.1 y h) (SpecOk.none _))
def local_Relay_Φ (n : Nat) : Orc := with_ Tryd.prog (local_Relay_σ n) [] n 0 hsL
def local_Relay_v (n : Nat) (s0 : ByteArray) : Option (Bool × Unit) :=
 DM.denFn tm (local_Relay_Φ n) local_Relay_lv n Tryd.f12 false [aS s0] [] (OSh.chk (OSh.plain (.b) []))
theorem local_Relay_e (n : Nat) (s0 : ByteArray) : local_Relay_v n s0 =
 obind (strings_HasPrefix_v n s0 (ByteArray.mk #[126])) fun y1 =>
 some (y1.fst, ()) := by kernel_rfl
theorem local_Relay_c (n : Nat) (s0 : ByteArray) (y : Bool × Unit) (h : local_Relay_v n s0 = some y) : Contract Tryd.prog 12 [aS s0] [] (OSh.enc (OSh.plain (.b) []) y) :=
 ac (OSh.plain (.b) []) (local_Relay_σok n) Tryd.func12 (by decide) h
def law13_live_lv : Live := []
def law13_live_σ (n : Nat) : Spec := (inst 20 [.s] [] (OSh.plain (.tup [.sl kdR, .i .i64, .i .i64]) []) (fun x e => parse_Program_v n x.1) (inst 9 [.sl kdR] [] (OSh.plain (.tup [.slt kdR 0, .i .i64]) []) (fun x e => local_Rewrite_v n x.1.1 x.1.2) (inst 12 [.s] [] (OSh.plain (.b) []) (fun x e => local_Relay_v n x.1) Spec.none)))
theorem law13_live_σok (n : Nat) : SpecOk Tryd.prog (law13_live_σ n) := (inst_ok (fun x e y h => parse_Program_c n x.1 y h) (inst_ok (fun x e y h => local_Rewrite_c n x.1.1 x.1.2 y h) (inst_ok (fun x e y h => local_Relay_c n x.1 y h) (SpecOk.none _))))
def law13_live_Φ (n : Nat) : Orc := with_ Tryd.prog (law13_live_σ n) [] n 0 hsL
def law13_live_v (n : Nat) : Option (Bool × Unit) :=
 DM.denFn tm (law13_live_Φ n) law13_live_lv n Tryd.f8 false [] [] (OSh.chk (OSh.plain (.b) []))
theorem law13_live_e (n : Nat) : law13_live_v n =
 obind (parse_Program_v n (ByteArray.mk #[65, 58, 32, 112, 40, 88, 41, 32, 58, 45, 32, 113, 40, 66, 41, 44, 32, 114, 40, 88, 41, 32, 97, 116, 32, 66, 46])) fun y0 =>
 obind (local_Rewrite_v n y0.fst.fst.fst y0.fst.fst.snd) fun y1 =>
 bif y1.fst.snd.fst == 0 then
 bif (↑(List.length y1.fst.fst.snd) : Int) == 3 then
 if 0 < (↑(List.length y1.fst.fst.snd) : Int) then
 bif Row.S (List.getD y1.fst.fst.snd 0 []) 4 == ByteArray.mk #[126, 97, 115, 107, 48, 46, 49] then
 if 1 < (↑(List.length y1.fst.fst.snd) : Int) then
 bif Row.S (List.getD y1.fst.fst.snd 1 []) 0 == ByteArray.mk #[66] then
 if 2 < (↑(List.length y1.fst.fst.snd) : Int) then
 bif (↑(List.length (Row.R (List.getD y1.fst.fst.snd 2 []) 10)) : Int) == 1 then
 if 2 < (↑(List.length y1.fst.fst.snd) : Int) then
 if 0 < (↑(List.length (Row.R (List.getD y1.fst.fst.snd 2 []) 10)) : Int) then
 bif Row.S (List.getD (Row.R (List.getD y1.fst.fst.snd 2 []) 10) 0 []) 0 == ByteArray.mk #[66] then
 obind (local_Relay_v n (ByteArray.mk #[126, 120])) fun y2 =>
 bif y2.fst then
 obind (local_Relay_v n (ByteArray.mk #[120])) fun y3 =>
 some (!y3.fst, ())
 else some (false, ())
 else some (false, ())
 else none
 else none
 else some (false, ())
 else none
 else some (false, ())
 else none
 else some (false, ())
 else none
 else some (false, ())
 else some (false, ()) := by kernel_rfl
theorem law13_live_c (n : Nat) (y : Bool × Unit) (h : law13_live_v n = some y) : Contract Tryd.prog 8 [] [] (OSh.enc (OSh.plain (.b) []) y) :=
 ac (OSh.plain (.b) []) (law13_live_σok n) Tryd.func8 (by decide) h
def ref13_Relay_lv : Live := []
def ref13_Relay_σ (n : Nat) : Spec := Spec.none
theorem ref13_Relay_σok (n : Nat) : SpecOk Tryd.prog (ref13_Relay_σ n) := (SpecOk.none _)
def ref13_Relay_Φ (n : Nat) : Orc := with_ Tryd.prog (ref13_Relay_σ n) [] n 0 hsL
def ref13_Relay_v (n : Nat) (s0 : ByteArray) : Option (Bool × Unit) :=
 DM.denFn tm (ref13_Relay_Φ n) ref13_Relay_lv n Tryd.f16 false [aS s0] [] (OSh.chk (OSh.plain (.b) []))
theorem ref13_Relay_e (n : Nat) (s0 : ByteArray) : ref13_Relay_v n s0 =
 bif decide ((↑(ByteArray.size s0) : Int) > 0) then
 if 0 < (↑(ByteArray.size s0) : Int) then
 some (bt s0 0 == 126, ())
 else none
 else some (false, ()) := by kernel_rfl
theorem ref13_Relay_c (n : Nat) (s0 : ByteArray) (y : Bool × Unit) (h : ref13_Relay_v n s0 = some y) : Contract Tryd.prog 16 [aS s0] [] (OSh.enc (OSh.plain (.b) []) y) :=
 ac (OSh.plain (.b) []) (ref13_Relay_σok n) Tryd.func16 (by decide) h
def local_Seen_lv : Live := [(3, [3, 6, 7, 8], [1000, 1001, 1002, 1003])]
def local_Seen_σ (n : Nat) : Spec := (inst 12 [.s] [] (OSh.plain (.b) []) (fun x e => local_Relay_v n x.1) Spec.none)
theorem local_Seen_σok (n : Nat) : SpecOk Tryd.prog (local_Seen_σ n) := (inst_ok (fun x e y h => local_Relay_c n x.1 y h) (SpecOk.none _))
def local_Seen_Φ (n : Nat) : Orc := with_ Tryd.prog (local_Seen_σ n) [] n 0 hsL
def local_Seen_v (n : Nat) (b0 : Bool) (r1 : Rows) : Option ((Bool × Rows) × Unit) :=
 DM.denFn tm (local_Seen_Φ n) local_Seen_lv n Tryd.f18 true [AV.sl b0 kdF r1 Right.no] [] (OSh.chk (OSh.plain (.slt kdF 0) []))
def local_Seen_l3 (n : Nat) (b0 : Bool) (r1 : Rows) (i0 : Nat) (b3 : Bool) (r4 : List (List DV)) (j5 : Int) : Option ((Bool × Rows) × Unit) :=
 DM.loopFn tm (local_Seen_Φ n) local_Seen_lv n Tryd.f18 true [] (OSh.chk (OSh.plain (.slt kdF 0) [])) 3 [] i0 (St.mk ([Jk, Jk, Jk, AV.sl b3 kdF r4 (Right.tok 3), Jk, Jk, AV.sl b0 kdF r1 Right.no, AV.dv (DV.val (Value.int .i64 (↑(List.length r1) : Int))), aI j5] ++ jk 17) [])
theorem local_Seen_s3 (n : Nat) (b0 : Bool) (r1 : Rows) (i0 : Nat) (b3 : Bool) (r4 : List (List DV)) (j5 : Int) : local_Seen_l3 n b0 r1 (i0 + 1) b3 r4 j5 =
 bif decide (j5 < (↑(List.length r1) : Int)) then
 if 0 ≤ j5 then
 if j5 < (↑(List.length r1) : Int) then
 obind (local_Relay_v n (Row.S (List.getD r1 (Int.toNat j5) []) 2)) fun y6 =>
 bif !y6.fst then
 if (0 + List.length (Row.R (List.getD r1 (Int.toNat j5) []) 3)) * 32 ≤ 140737488355328 then
 if (List.length r4 + List.length [[DV.val (Value.string (Row.S (List.getD r1 (Int.toNat j5) []) 0)), DV.val (Value.string (Row.S (List.getD r1 (Int.toNat j5) []) 1)), DV.val (Value.string (Row.S (List.getD r1 (Int.toNat j5) []) 2)), DV.sl (true && List.isEmpty (Row.R (List.getD r1 (Int.toNat j5) []) 3)) kdC (appX [] (Row.R (List.getD r1 (Int.toNat j5) []) 3))]]) * 72 ≤ 140737488355328 then
 local_Seen_l3 n b0 r1 i0 (b3 && List.isEmpty [[DV.val (Value.string (Row.S (List.getD r1 (Int.toNat j5) []) 0)), DV.val (Value.string (Row.S (List.getD r1 (Int.toNat j5) []) 1)), DV.val (Value.string (Row.S (List.getD r1 (Int.toNat j5) []) 2)), DV.sl (true && List.isEmpty (Row.R (List.getD r1 (Int.toNat j5) []) 3)) kdC (appX [] (Row.R (List.getD r1 (Int.toNat j5) []) 3))]]) (appX r4 [[DV.val (Value.string (Row.S (List.getD r1 (Int.toNat j5) []) 0)), DV.val (Value.string (Row.S (List.getD r1 (Int.toNat j5) []) 1)), DV.val (Value.string (Row.S (List.getD r1 (Int.toNat j5) []) 2)), DV.sl (true && List.isEmpty (Row.R (List.getD r1 (Int.toNat j5) []) 3)) kdC (appX [] (Row.R (List.getD r1 (Int.toNat j5) []) 3))]]) (IntKind.wrap IntKind.i64 (j5 + 1))
 else none
 else none
 else local_Seen_l3 n b0 r1 i0 b3 r4 (IntKind.wrap IntKind.i64 (j5 + 1))
 else none
 else none
 else some ((b3, r4), ()) := by kernel_rfl
theorem local_Seen_e (n : Nat) (b0 : Bool) (r1 : Rows) : local_Seen_v n b0 r1 =
 local_Seen_l3 n b0 r1 n true [] 0 := by kernel_rfl
theorem local_Seen_c (n : Nat) (b0 : Bool) (r1 : Rows) (y : (Bool × Rows) × Unit) (h : local_Seen_v n b0 r1 = some y) : Contract Tryd.prog 18 [AV.sl b0 kdF r1 Right.no] [] (OSh.enc (OSh.plain (.slt kdF 0) []) y) :=
 ac (OSh.plain (.slt kdF 0) []) (local_Seen_σok n) Tryd.func18 (by decide) h
def ref13_Seen_lv : Live := [(3, [0, 3, 4], [1000, 1001, 1002, 1003])]
def ref13_Seen_σ (n : Nat) : Spec := (inst 16 [.s] [] (OSh.plain (.b) []) (fun x e => ref13_Relay_v n x.1) Spec.none)
theorem ref13_Seen_σok (n : Nat) : SpecOk Tryd.prog (ref13_Seen_σ n) := (inst_ok (fun x e y h => ref13_Relay_c n x.1 y h) (SpecOk.none _))
def ref13_Seen_Φ (n : Nat) : Orc := with_ Tryd.prog (ref13_Seen_σ n) [] n 0 hsL
def ref13_Seen_v (n : Nat) (b0 : Bool) (r1 : Rows) : Option ((Bool × Rows) × Unit) :=
 DM.denFn tm (ref13_Seen_Φ n) ref13_Seen_lv n Tryd.f19 true [AV.sl b0 kdF r1 Right.no] [] (OSh.chk (OSh.plain (.slt kdF 0) []))
def ref13_Seen_l3 (n : Nat) (b0 : Bool) (r1 : Rows) (i0 : Nat) (b3 : Bool) (r4 : List (List DV)) (j5 : Int) : Option ((Bool × Rows) × Unit) :=
 DM.loopFn tm (ref13_Seen_Φ n) ref13_Seen_lv n Tryd.f19 true [] (OSh.chk (OSh.plain (.slt kdF 0) [])) 3 [] i0 (St.mk ([AV.sl b0 kdF r1 Right.no, Jk, Jk, AV.sl b3 kdF r4 (Right.tok 3), aI j5] ++ jk 21) [])
theorem ref13_Seen_s3 (n : Nat) (b0 : Bool) (r1 : Rows) (i0 : Nat) (b3 : Bool) (r4 : List (List DV)) (j5 : Int) : ref13_Seen_l3 n b0 r1 (i0 + 1) b3 r4 j5 =
 bif decide (j5 < (↑(List.length r1) : Int)) then
 if 0 ≤ j5 then
 if j5 < (↑(List.length r1) : Int) then
 obind (ref13_Relay_v n (Row.S (List.getD r1 (Int.toNat j5) []) 2)) fun y6 =>
 bif !y6.fst then
 if 0 ≤ j5 then
 if j5 < (↑(List.length r1) : Int) then
 if (List.length r4 + List.length [[DV.val (Value.string (Row.S (List.getD r1 (Int.toNat j5) []) 0)), DV.val (Value.string (Row.S (List.getD r1 (Int.toNat j5) []) 1)), DV.val (Value.string (Row.S (List.getD r1 (Int.toNat j5) []) 2)), DV.sl (Row.N (List.getD r1 (Int.toNat j5) []) 3) kdC (Row.R (List.getD r1 (Int.toNat j5) []) 3)]]) * 72 ≤ 140737488355328 then
 ref13_Seen_l3 n b0 r1 i0 (b3 && List.isEmpty [[DV.val (Value.string (Row.S (List.getD r1 (Int.toNat j5) []) 0)), DV.val (Value.string (Row.S (List.getD r1 (Int.toNat j5) []) 1)), DV.val (Value.string (Row.S (List.getD r1 (Int.toNat j5) []) 2)), DV.sl (Row.N (List.getD r1 (Int.toNat j5) []) 3) kdC (Row.R (List.getD r1 (Int.toNat j5) []) 3)]]) (appX r4 [[DV.val (Value.string (Row.S (List.getD r1 (Int.toNat j5) []) 0)), DV.val (Value.string (Row.S (List.getD r1 (Int.toNat j5) []) 1)), DV.val (Value.string (Row.S (List.getD r1 (Int.toNat j5) []) 2)), DV.sl (Row.N (List.getD r1 (Int.toNat j5) []) 3) kdC (Row.R (List.getD r1 (Int.toNat j5) []) 3)]]) (IntKind.wrap IntKind.i64 (j5 + 1))
 else none
 else none
 else none
 else ref13_Seen_l3 n b0 r1 i0 b3 r4 (IntKind.wrap IntKind.i64 (j5 + 1))
 else none
 else none
 else some ((b3, r4), ()) := by kernel_rfl
theorem ref13_Seen_e (n : Nat) (b0 : Bool) (r1 : Rows) : ref13_Seen_v n b0 r1 =
 ref13_Seen_l3 n b0 r1 n true [] 0 := by kernel_rfl
theorem ref13_Seen_c (n : Nat) (b0 : Bool) (r1 : Rows) (y : (Bool × Rows) × Unit) (h : ref13_Seen_v n b0 r1 = some y) : Contract Tryd.prog 19 [AV.sl b0 kdF r1 Right.no] [] (OSh.enc (OSh.plain (.slt kdF 0) []) y) :=
 ac (OSh.plain (.slt kdF 0) []) (ref13_Seen_σok n) Tryd.func19 (by decide) h
def ref04_texts_lv : Live := []
def ref04_texts_σ (n : Nat) : Spec := Spec.none
theorem ref04_texts_σok (n : Nat) : SpecOk Tryd.prog (ref04_texts_σ n) := (SpecOk.none _)
def ref04_texts_Φ (n : Nat) : Orc := with_ Tryd.prog (ref04_texts_σ n) [] n 0 hsL
def ref04_texts_v (n : Nat) (s0 : ByteArray) (s1 : ByteArray) : Option (Int × Unit) :=
 DM.denFn tm (ref04_texts_Φ n) ref04_texts_lv n Tryd.f41 false [aS s0, aS s1] [] (OSh.chk (OSh.plain (.i .i64) []))
theorem ref04_texts_e (n : Nat) (s0 : ByteArray) (s1 : ByteArray) : ref04_texts_v n s0 s1 =
 bif Op.bytesLess (ByteArray.toList s0) (ByteArray.toList s1) then
 some (-1, ())
 else bif !(Op.bytesLess (ByteArray.toList s0) (ByteArray.toList s1) || s0 == s1) then
 some (1, ())
 else some (0, ()) := by kernel_rfl
theorem ref04_texts_c (n : Nat) (s0 : ByteArray) (s1 : ByteArray) (y : Int × Unit) (h : ref04_texts_v n s0 s1 = some y) : Contract Tryd.prog 41 [aS s0, aS s1] [] (OSh.enc (OSh.plain (.i .i64) []) y) :=
 ac (OSh.plain (.i .i64) []) (ref04_texts_σok n) Tryd.func41 (by decide) h
def ref04_Compare_lv : Live := []
def ref04_Compare_σ (n : Nat) : Spec := (inst 41 [.s, .s] [] (OSh.plain (.i .i64) []) (fun x e => ref04_texts_v n x.1 x.2.1) Spec.none)
theorem ref04_Compare_σok (n : Nat) : SpecOk Tryd.prog (ref04_Compare_σ n) := (inst_ok (fun x e y h => ref04_texts_c n x.1 x.2.1 y h) (SpecOk.none _))
def ref04_Compare_Φ (n : Nat) : Orc := with_ Tryd.prog (ref04_Compare_σ n) [] n 0 hsL
def ref04_Compare_v (n : Nat) (b0 : Bool) (j1 : Int) (s2 : ByteArray) (b3 : Bool) (j4 : Int) (s5 : ByteArray) : Option (Int × Unit) :=
 DM.denFn tm (ref04_Compare_Φ n) ref04_Compare_lv n Tryd.f42 false [AV.agg [aB b0, aI j1, aS s2], AV.agg [aB b3, aI j4, aS s5]] [] (OSh.chk (OSh.plain (.i .i64) []))
theorem ref04_Compare_e (n : Nat) (b0 : Bool) (j1 : Int) (s2 : ByteArray) (b3 : Bool) (j4 : Int) (s5 : ByteArray) : ref04_Compare_v n b0 j1 s2 b3 j4 s5 =
 bif b0 then
 bif !b3 then
 some (-1, ())
 else bif b3 then
 bif !b0 then
 some (1, ())
 else bif decide (j1 < j4) then
 some (-1, ())
 else bif decide (j1 > j4) then
 some (1, ())
 else obind (ref04_texts_v n s2 s5) fun y6 =>
 some (y6.fst, ())
 else bif decide (j1 < j4) then
 some (-1, ())
 else bif decide (j1 > j4) then
 some (1, ())
 else obind (ref04_texts_v n s2 s5) fun y7 =>
 some (y7.fst, ())
 else bif b3 then
 bif !b0 then
 some (1, ())
 else bif decide (j1 < j4) then
 some (-1, ())
 else bif decide (j1 > j4) then
 some (1, ())
 else obind (ref04_texts_v n s2 s5) fun y8 =>
 some (y8.fst, ())
 else bif decide (j1 < j4) then
 some (-1, ())
 else bif decide (j1 > j4) then
 some (1, ())
 else obind (ref04_texts_v n s2 s5) fun y9 =>
 some (y9.fst, ()) := by kernel_rfl
theorem ref04_Compare_c (n : Nat) (b0 : Bool) (j1 : Int) (s2 : ByteArray) (b3 : Bool) (j4 : Int) (s5 : ByteArray) (y : Int × Unit) (h : ref04_Compare_v n b0 j1 s2 b3 j4 s5 = some y) : Contract Tryd.prog 42 [AV.agg [aB b0, aI j1, aS s2], AV.agg [aB b3, aI j4, aS s5]] [] (OSh.enc (OSh.plain (.i .i64) []) y) :=
 ac (OSh.plain (.i .i64) []) (ref04_Compare_σok n) Tryd.func42 (by decide) h
def ref04_Order_lv : Live := [(8, [2, 3, 5], [2, 3, 1000, 1001, 1002, 1003])]
def ref04_Order_σ (n : Nat) : Spec := (inst 41 [.s, .s] [] (OSh.plain (.i .i64) []) (fun x e => ref04_texts_v n x.1 x.2.1) (inst 42 [.agg [.b, .i .i64, .s], .agg [.b, .i .i64, .s]] [] (OSh.plain (.i .i64) []) (fun x e => ref04_Compare_v n x.1.1 x.1.2.1 x.1.2.2.1 x.2.1.1 x.2.1.2.1 x.2.1.2.2.1) Spec.none))
theorem ref04_Order_σok (n : Nat) : SpecOk Tryd.prog (ref04_Order_σ n) := (inst_ok (fun x e y h => ref04_texts_c n x.1 x.2.1 y h) (inst_ok (fun x e y h => ref04_Compare_c n x.1.1 x.1.2.1 x.1.2.2.1 x.2.1.1 x.2.1.2.1 x.2.1.2.2.1 y h) (SpecOk.none _)))
def ref04_Order_Φ (n : Nat) : Orc := with_ Tryd.prog (ref04_Order_σ n) [] n 0 hsL
def ref04_Order_v (n : Nat) (s0 : ByteArray) (s1 : ByteArray) (s2 : ByteArray) (b3 : Bool) (r4 : Rows) (s5 : ByteArray) (s6 : ByteArray) (s7 : ByteArray) (b8 : Bool) (r9 : Rows) : Option (Int × Unit) :=
 DM.denFn tm (ref04_Order_Φ n) ref04_Order_lv n Tryd.f25 false [AV.agg [aS s0, aS s1, aS s2, AV.sl b3 kdC r4 Right.no], AV.agg [aS s5, aS s6, aS s7, AV.sl b8 kdC r9 Right.no]] [] (OSh.chk (OSh.plain (.i .i64) []))
def ref04_Order_l8 (n : Nat) (s0 : ByteArray) (s1 : ByteArray) (s2 : ByteArray) (b3 : Bool) (r4 : Rows) (s5 : ByteArray) (s6 : ByteArray) (s7 : ByteArray) (b8 : Bool) (r9 : Rows) (i0 : Nat) (j14 : Int) : Option (Int × Unit) :=
 DM.loopFn tm (ref04_Order_Φ n) ref04_Order_lv n Tryd.f25 false [] (OSh.chk (OSh.plain (.i .i64) [])) 8 [] i0 (St.mk ([Jk, Jk, AV.pl 2 0, AV.pl 3 0, Jk, aI j14] ++ jk 73) [(2, [aS s0, aS s1, aS s2, AV.sl b3 kdC r4 Right.no]), (3, [aS s5, aS s6, aS s7, AV.sl b8 kdC r9 Right.no])])
theorem ref04_Order_s8 (n : Nat) (s0 : ByteArray) (s1 : ByteArray) (s2 : ByteArray) (b3 : Bool) (r4 : Rows) (s5 : ByteArray) (s6 : ByteArray) (s7 : ByteArray) (b8 : Bool) (r9 : Rows) (i0 : Nat) (j14 : Int) : ref04_Order_l8 n s0 s1 s2 b3 r4 s5 s6 s7 b8 r9 (i0 + 1) j14 =
 bif decide (j14 < (↑(List.length r4) : Int)) then
 bif decide (j14 < (↑(List.length r9) : Int)) then
 if 0 ≤ j14 then
 if j14 < (↑(List.length r4) : Int) then
 if 0 ≤ j14 then
 if j14 < (↑(List.length r9) : Int) then
 obind (ref04_Compare_v n (Row.B (List.getD r4 (Int.toNat j14) []) 0) (Row.I (List.getD r4 (Int.toNat j14) []) 1) (Row.S (List.getD r4 (Int.toNat j14) []) 2) (Row.B (List.getD r9 (Int.toNat j14) []) 0) (Row.I (List.getD r9 (Int.toNat j14) []) 1) (Row.S (List.getD r9 (Int.toNat j14) []) 2)) fun y15 =>
 bif y15.fst != 0 then
 some (y15.fst, ())
 else ref04_Order_l8 n s0 s1 s2 b3 r4 s5 s6 s7 b8 r9 i0 (IntKind.wrap IntKind.i64 (j14 + 1))
 else none
 else none
 else none
 else none
 else bif decide ((↑(List.length r4) : Int) < (↑(List.length r9) : Int)) then
 some (-1, ())
 else bif decide ((↑(List.length r4) : Int) > (↑(List.length r9) : Int)) then
 some (1, ())
 else some (0, ())
 else bif decide ((↑(List.length r4) : Int) < (↑(List.length r9) : Int)) then
 some (-1, ())
 else bif decide ((↑(List.length r4) : Int) > (↑(List.length r9) : Int)) then
 some (1, ())
 else some (0, ()) := by kernel_rfl
theorem ref04_Order_e (n : Nat) (s0 : ByteArray) (s1 : ByteArray) (s2 : ByteArray) (b3 : Bool) (r4 : Rows) (s5 : ByteArray) (s6 : ByteArray) (s7 : ByteArray) (b8 : Bool) (r9 : Rows) : ref04_Order_v n s0 s1 s2 b3 r4 s5 s6 s7 b8 r9 =
 bif !s0 == s5 then
 obind (ref04_texts_v n s0 s5) fun y10 =>
 some (y10.fst, ())
 else bif !s1 == s6 then
 obind (ref04_texts_v n s1 s6) fun y11 =>
 some (y11.fst, ())
 else bif !s2 == s7 then
 obind (ref04_texts_v n s2 s7) fun y12 =>
 some (y12.fst, ())
 else ref04_Order_l8 n s0 s1 s2 b3 r4 s5 s6 s7 b8 r9 n 0 := by kernel_rfl
theorem ref04_Order_c (n : Nat) (s0 : ByteArray) (s1 : ByteArray) (s2 : ByteArray) (b3 : Bool) (r4 : Rows) (s5 : ByteArray) (s6 : ByteArray) (s7 : ByteArray) (b8 : Bool) (r9 : Rows) (y : Int × Unit) (h : ref04_Order_v n s0 s1 s2 b3 r4 s5 s6 s7 b8 r9 = some y) : Contract Tryd.prog 25 [AV.agg [aS s0, aS s1, aS s2, AV.sl b3 kdC r4 Right.no], AV.agg [aS s5, aS s6, aS s7, AV.sl b8 kdC r9 Right.no]] [] (OSh.enc (OSh.plain (.i .i64) []) y) :=
 ac (OSh.plain (.i .i64) []) (ref04_Order_σok n) Tryd.func25 (by decide) h
def ref04_Like_lv : Live := [(4, [0, 1, 5], [1000, 1001, 1002, 1003])]
def ref04_Like_σ (n : Nat) : Spec := (inst 25 [.agg [.s, .s, .s, .sl kdC], .agg [.s, .s, .s, .sl kdC]] [] (OSh.plain (.i .i64) []) (fun x e => ref04_Order_v n x.1.1 x.1.2.1 x.1.2.2.1 x.1.2.2.2.1.1 x.1.2.2.2.1.2 x.2.1.1 x.2.1.2.1 x.2.1.2.2.1 x.2.1.2.2.2.1.1 x.2.1.2.2.2.1.2) Spec.none)
theorem ref04_Like_σok (n : Nat) : SpecOk Tryd.prog (ref04_Like_σ n) := (inst_ok (fun x e y h => ref04_Order_c n x.1.1 x.1.2.1 x.1.2.2.1 x.1.2.2.2.1.1 x.1.2.2.2.1.2 x.2.1.1 x.2.1.2.1 x.2.1.2.2.1 x.2.1.2.2.2.1.1 x.2.1.2.2.2.1.2 y h) (SpecOk.none _))
def ref04_Like_Φ (n : Nat) : Orc := with_ Tryd.prog (ref04_Like_σ n) [] n 0 hsL
def ref04_Like_v (n : Nat) (b0 : Bool) (r1 : Rows) (b2 : Bool) (r3 : Rows) : Option (Bool × Unit) :=
 DM.denFn tm (ref04_Like_Φ n) ref04_Like_lv n Tryd.f17 false [AV.sl b0 kdF r1 Right.no, AV.sl b2 kdF r3 Right.no] [] (OSh.chk (OSh.plain (.b) []))
def ref04_Like_l4 (n : Nat) (b0 : Bool) (r1 : Rows) (b2 : Bool) (r3 : Rows) (i0 : Nat) (j5 : Int) : Option (Bool × Unit) :=
 DM.loopFn tm (ref04_Like_Φ n) ref04_Like_lv n Tryd.f17 false [] (OSh.chk (OSh.plain (.b) [])) 4 [] i0 (St.mk ([AV.sl b0 kdF r1 Right.no, AV.sl b2 kdF r3 Right.no, Jk, Jk, Jk, aI j5] ++ jk 21) [])
theorem ref04_Like_s4 (n : Nat) (b0 : Bool) (r1 : Rows) (b2 : Bool) (r3 : Rows) (i0 : Nat) (j5 : Int) : ref04_Like_l4 n b0 r1 b2 r3 (i0 + 1) j5 =
 bif decide (j5 < (↑(List.length r1) : Int)) then
 if 0 ≤ j5 then
 if j5 < (↑(List.length r1) : Int) then
 if 0 ≤ j5 then
 if j5 < (↑(List.length r3) : Int) then
 obind (ref04_Order_v n (Row.S (List.getD r1 (Int.toNat j5) []) 0) (Row.S (List.getD r1 (Int.toNat j5) []) 1) (Row.S (List.getD r1 (Int.toNat j5) []) 2) (Row.N (List.getD r1 (Int.toNat j5) []) 3) (Row.R (List.getD r1 (Int.toNat j5) []) 3) (Row.S (List.getD r3 (Int.toNat j5) []) 0) (Row.S (List.getD r3 (Int.toNat j5) []) 1) (Row.S (List.getD r3 (Int.toNat j5) []) 2) (Row.N (List.getD r3 (Int.toNat j5) []) 3) (Row.R (List.getD r3 (Int.toNat j5) []) 3)) fun y6 =>
 bif y6.fst != 0 then
 some (false, ())
 else ref04_Like_l4 n b0 r1 b2 r3 i0 (IntKind.wrap IntKind.i64 (j5 + 1))
 else none
 else none
 else none
 else none
 else some (true, ()) := by kernel_rfl
theorem ref04_Like_e (n : Nat) (b0 : Bool) (r1 : Rows) (b2 : Bool) (r3 : Rows) : ref04_Like_v n b0 r1 b2 r3 =
 bif (↑(List.length r1) : Int) != (↑(List.length r3) : Int) then
 some (false, ())
 else ref04_Like_l4 n b0 r1 b2 r3 n 0 := by kernel_rfl
theorem ref04_Like_c (n : Nat) (b0 : Bool) (r1 : Rows) (b2 : Bool) (r3 : Rows) (y : Bool × Unit) (h : ref04_Like_v n b0 r1 b2 r3 = some y) : Contract Tryd.prog 17 [AV.sl b0 kdF r1 Right.no, AV.sl b2 kdF r3 Right.no] [] (OSh.enc (OSh.plain (.b) []) y) :=
 ac (OSh.plain (.b) []) (ref04_Like_σok n) Tryd.func17 (by decide) h
def law13_LocalSeen_lv : Live := [(4, [0, 3], [1000, 1001, 1002, 1003])]
def law13_LocalSeen_σ (n : Nat) : Spec := (inst 15 [.sl kdF, .i .i64] [] (OSh.plain (.i .i64) []) (fun x e => ref04_Weight_v n x.1.1 x.1.2 x.2.1) (inst 8 [] [] (OSh.plain (.b) []) (fun x e => law13_live_v n) (inst 12 [.s] [] (OSh.plain (.b) []) (fun x e => local_Relay_v n x.1) (inst 16 [.s] [] (OSh.plain (.b) []) (fun x e => ref13_Relay_v n x.1) (inst 18 [.sl kdF] [] (OSh.plain (.slt kdF 0) []) (fun x e => local_Seen_v n x.1.1 x.1.2) (inst 19 [.sl kdF] [] (OSh.plain (.slt kdF 0) []) (fun x e => ref13_Seen_v n x.1.1 x.1.2) (inst 17 [.sl kdF, .sl kdF] [] (OSh.plain (.b) []) (fun x e => ref04_Like_v n x.1.1 x.1.2 x.2.1.1 x.2.1.2) Spec.none)))))))
theorem law13_LocalSeen_σok (n : Nat) : SpecOk Tryd.prog (law13_LocalSeen_σ n) := (inst_ok (fun x e y h => ref04_Weight_c n x.1.1 x.1.2 x.2.1 y h) (inst_ok (fun x e y h => law13_live_c n y h) (inst_ok (fun x e y h => local_Relay_c n x.1 y h) (inst_ok (fun x e y h => ref13_Relay_c n x.1 y h) (inst_ok (fun x e y h => local_Seen_c n x.1.1 x.1.2 y h) (inst_ok (fun x e y h => ref13_Seen_c n x.1.1 x.1.2 y h) (inst_ok (fun x e y h => ref04_Like_c n x.1.1 x.1.2 x.2.1.1 x.2.1.2 y h) (SpecOk.none _))))))))
def law13_LocalSeen_Φ (n : Nat) : Orc := with_ Tryd.prog (law13_LocalSeen_σ n) [] n 0 hsL
def law13_LocalSeen_v (n : Nat) (b0 : Bool) (r1 : Rows) : Option (Bool × Unit) :=
 DM.denFn tm (law13_LocalSeen_Φ n) law13_LocalSeen_lv n Tryd.f6 false [AV.sl b0 kdF r1 Right.no] [] (OSh.chk (OSh.plain (.b) []))
def law13_LocalSeen_l4 (n : Nat) (b0 : Bool) (r1 : Rows) (i0 : Nat) (j10 : Int) : Option (Bool × Unit) :=
 DM.loopFn tm (law13_LocalSeen_Φ n) law13_LocalSeen_lv n Tryd.f6 false [] (OSh.chk (OSh.plain (.b) [])) 4 [] i0 (St.mk ([AV.sl b0 kdF r1 Right.no, Jk, Jk, aI j10] ++ jk 31) [])
theorem law13_LocalSeen_s4 (n : Nat) (b0 : Bool) (r1 : Rows) (i0 : Nat) (j10 : Int) : law13_LocalSeen_l4 n b0 r1 (i0 + 1) j10 =
 bif decide (j10 < (↑(List.length r1) : Int)) then
 if 0 ≤ j10 then
 if j10 < (↑(List.length r1) : Int) then
 obind (local_Relay_v n (Row.S (List.getD r1 (Int.toNat j10) []) 2)) fun y11 =>
 if 0 ≤ j10 then
 if j10 < (↑(List.length r1) : Int) then
 obind (ref13_Relay_v n (Row.S (List.getD r1 (Int.toNat j10) []) 2)) fun y12 =>
 bif !y11.fst == y12.fst then
 some (false, ())
 else law13_LocalSeen_l4 n b0 r1 i0 (IntKind.wrap IntKind.i64 (j10 + 1))
 else none
 else none
 else none
 else none
 else obind (local_Seen_v n b0 r1) fun y13 =>
 obind (ref13_Seen_v n b0 r1) fun y14 =>
 obind (ref04_Like_v n y13.fst.fst y13.fst.snd y14.fst.fst y14.fst.snd) fun y15 =>
 bif y15.fst then
 obind (law13_live_v n) fun y16 =>
 some (y16.fst, ())
 else some (false, ()) := by kernel_rfl
theorem law13_LocalSeen_e (n : Nat) (b0 : Bool) (r1 : Rows) : law13_LocalSeen_v n b0 r1 =
 obind (ref04_Weight_v n b0 r1 300) fun y2 =>
 bif decide (y2.fst > 300) then
 obind (law13_live_v n) fun y3 =>
 some (y3.fst, ())
 else law13_LocalSeen_l4 n b0 r1 n 0 := by kernel_rfl
theorem law13_LocalSeen_c (n : Nat) (b0 : Bool) (r1 : Rows) (y : Bool × Unit) (h : law13_LocalSeen_v n b0 r1 = some y) : Contract Tryd.prog 6 [AV.sl b0 kdF r1 Right.no] [] (OSh.enc (OSh.plain (.b) []) y) :=
 ac (OSh.plain (.b) []) (law13_LocalSeen_σok n) Tryd.func6 (by decide) h
def ref05_Weight_lv : Live := [(3, [0, 1, 5, 6], [1000, 1001, 1002, 1003]), (7, [0, 1, 5, 6, 7], [1000, 1001, 1002, 1003])]
def ref05_Weight_σ (n : Nat) : Spec := Spec.none
theorem ref05_Weight_σok (n : Nat) : SpecOk Tryd.prog (ref05_Weight_σ n) := (SpecOk.none _)
def ref05_Weight_Φ (n : Nat) : Orc := with_ Tryd.prog (ref05_Weight_σ n) [] n 0 hsL
def ref05_Weight_v (n : Nat) (b0 : Bool) (r1 : Rows) (j2 : Int) : Option (Int × Unit) :=
 DM.denFn tm (ref05_Weight_Φ n) ref05_Weight_lv n Tryd.f7 false [AV.sl b0 kdR r1 Right.no, aI j2] [] (OSh.chk (OSh.plain (.i .i64) []))
def ref05_Weight_l3 (n : Nat) (b0 : Bool) (r1 : Rows) (j2 : Int) (i0 : Nat) (j5 : Int) (j6 : Int) : Option (Int × Unit) :=
 DM.loopFn tm (ref05_Weight_Φ n) ref05_Weight_lv n Tryd.f7 false [] (OSh.chk (OSh.plain (.i .i64) [])) 3 [] i0 (St.mk ([AV.sl b0 kdR r1 Right.no, aI j2, Jk, Jk, Jk, aI j5, aI j6] ++ jk 70) [])
def ref05_Weight_l7 (n : Nat) (b0 : Bool) (r1 : Rows) (j2 : Int) (i0 i1 : Nat) (j3 : Int) (j4 : Int) (j7 : Int) : Option (Int × Unit) :=
 DM.loopFn tm (ref05_Weight_Φ n) ref05_Weight_lv n Tryd.f7 false [] (OSh.chk (OSh.plain (.i .i64) [])) 7 [i0] i1 (St.mk ([AV.sl b0 kdR r1 Right.no, aI j2, Jk, Jk, Jk, aI j3, aI j7, aI j4] ++ jk 69) [])
theorem ref05_Weight_s3 (n : Nat) (b0 : Bool) (r1 : Rows) (j2 : Int) (i0 : Nat) (j5 : Int) (j6 : Int) : ref05_Weight_l3 n b0 r1 j2 (i0 + 1) j5 j6 =
 bif decide (j6 < (↑(List.length r1) : Int)) then
 bif decide (j5 ≤ j2) then
 if 0 ≤ j6 then
 if j6 < (↑(List.length r1) : Int) then
 if 0 ≤ j6 then
 if j6 < (↑(List.length r1) : Int) then
 ref05_Weight_l7 n b0 r1 j2 i0 n (IntKind.wrap IntKind.i64 (j5 + IntKind.wrap IntKind.i64 (IntKind.wrap IntKind.i64 (1 + (↑(List.length (Row.R (List.getD r1 (Int.toNat j6) []) 5)) : Int)) + IntKind.wrap IntKind.i64 (Int.tdiv (↑(ByteArray.size (Row.S (List.getD r1 (Int.toNat j6) []) 4)) : Int) 16)))) 0 j6
 else none
 else none
 else none
 else none
 else some (j5, ())
 else some (j5, ()) := by kernel_rfl
theorem ref05_Weight_s7 (n : Nat) (b0 : Bool) (r1 : Rows) (j2 : Int) (i0 i1 : Nat) (j3 : Int) (j4 : Int) (j7 : Int) : ref05_Weight_l7 n b0 r1 j2 i0 (i1 + 1) j3 j4 j7 =
 if 0 ≤ j7 then
 if j7 < (↑(List.length r1) : Int) then
 bif decide (j4 < (↑(List.length (Row.R (List.getD r1 (Int.toNat j7) []) 10)) : Int)) then
 bif decide (j3 ≤ j2) then
 if 0 ≤ j7 then
 if j7 < (↑(List.length r1) : Int) then
 if 0 ≤ j4 then
 if j4 < (↑(List.length (Row.R (List.getD r1 (Int.toNat j7) []) 10)) : Int) then
 if 0 ≤ j7 then
 if j7 < (↑(List.length r1) : Int) then
 if 0 ≤ j4 then
 if j4 < (↑(List.length (Row.R (List.getD r1 (Int.toNat j7) []) 10)) : Int) then
 ref05_Weight_l7 n b0 r1 j2 i0 i1 (IntKind.wrap IntKind.i64 (j3 + IntKind.wrap IntKind.i64 (IntKind.wrap IntKind.i64 (1 + (↑(List.length (Row.R (List.getD (Row.R (List.getD r1 (Int.toNat j7) []) 10) (Int.toNat j4) []) 5)) : Int)) + IntKind.wrap IntKind.i64 (Int.tdiv (↑(ByteArray.size (Row.S (List.getD (Row.R (List.getD r1 (Int.toNat j7) []) 10) (Int.toNat j4) []) 4)) : Int) 16)))) (IntKind.wrap IntKind.i64 (j4 + 1)) j7
 else none
 else none
 else none
 else none
 else none
 else none
 else none
 else none
 else ref05_Weight_l3 n b0 r1 j2 i0 j3 (IntKind.wrap IntKind.i64 (j7 + 1))
 else ref05_Weight_l3 n b0 r1 j2 i0 j3 (IntKind.wrap IntKind.i64 (j7 + 1))
 else none
 else none := by kernel_rfl
theorem ref05_Weight_e (n : Nat) (b0 : Bool) (r1 : Rows) (j2 : Int) : ref05_Weight_v n b0 r1 j2 =
 ref05_Weight_l3 n b0 r1 j2 n 0 0 := by kernel_rfl
theorem ref05_Weight_c (n : Nat) (b0 : Bool) (r1 : Rows) (j2 : Int) (y : Int × Unit) (h : ref05_Weight_v n b0 r1 j2 = some y) : Contract Tryd.prog 7 [AV.sl b0 kdR r1 Right.no, aI j2] [] (OSh.enc (OSh.plain (.i .i64) []) y) :=
 ac (OSh.plain (.i .i64) []) (ref05_Weight_σok n) Tryd.func7 (by decide) h
def ref13_Remote_lv : Live := []
def ref13_Remote_σ (n : Nat) : Spec := Spec.none
theorem ref13_Remote_σok (n : Nat) : SpecOk Tryd.prog (ref13_Remote_σ n) := (SpecOk.none _)
def ref13_Remote_Φ (n : Nat) : Orc := with_ Tryd.prog (ref13_Remote_σ n) [] n 0 hsL
def ref13_Remote_v (n : Nat) (s0 : ByteArray) (b1 : Bool) (j2 : Int) (s3 : ByteArray) (s4 : ByteArray) (b5 : Bool) (r6 : Rows) (s7 : ByteArray) (b8 : Bool) (j9 : Int) (s10 : ByteArray) (b11 : Bool) (r12 : Rows) (j13 : Int) : Option (Bool × Unit) :=
 DM.denFn tm (ref13_Remote_Φ n) ref13_Remote_lv n Tryd.f10 false [AV.agg [aS s0, aB b1, aI j2, aS s3, aS s4, AV.sl b5 kdT r6 Right.no, aS s7, aB b8, aI j9, aS s10, AV.sl b11 kdL r12 Right.no], aI j13] [] (OSh.chk (OSh.plain (.b) []))
theorem ref13_Remote_e (n : Nat) (s0 : ByteArray) (b1 : Bool) (j2 : Int) (s3 : ByteArray) (s4 : ByteArray) (b5 : Bool) (r6 : Rows) (s7 : ByteArray) (b8 : Bool) (j9 : Int) (s10 : ByteArray) (b11 : Bool) (r12 : Rows) (j13 : Int) : ref13_Remote_v n s0 b1 j2 s3 s4 b5 r6 s7 b8 j9 s10 b11 r12 j13 =
 if 0 ≤ j13 then
 if j13 < (↑(List.length r12) : Int) then
 bif !(Row.S (List.getD r12 (Int.toNat j13) []) 6 == ByteArray.mk #[] && (Row.B (List.getD r12 (Int.toNat j13) []) 7 == false && (Row.I (List.getD r12 (Int.toNat j13) []) 8 == 0 && (Row.S (List.getD r12 (Int.toNat j13) []) 9 == ByteArray.mk #[] && true)))) then
 if 0 ≤ j13 then
 if j13 < (↑(List.length r12) : Int) then
 some (!(Row.S (List.getD r12 (Int.toNat j13) []) 6 == s0 && (Row.B (List.getD r12 (Int.toNat j13) []) 7 == b1 && (Row.I (List.getD r12 (Int.toNat j13) []) 8 == j2 && (Row.S (List.getD r12 (Int.toNat j13) []) 9 == s3 && true)))), ())
 else none
 else none
 else some (false, ())
 else none
 else none := by kernel_rfl
theorem ref13_Remote_c (n : Nat) (s0 : ByteArray) (b1 : Bool) (j2 : Int) (s3 : ByteArray) (s4 : ByteArray) (b5 : Bool) (r6 : Rows) (s7 : ByteArray) (b8 : Bool) (j9 : Int) (s10 : ByteArray) (b11 : Bool) (r12 : Rows) (j13 : Int) (y : Bool × Unit) (h : ref13_Remote_v n s0 b1 j2 s3 s4 b5 r6 s7 b8 j9 s10 b11 r12 j13 = some y) : Contract Tryd.prog 10 [AV.agg [aS s0, aB b1, aI j2, aS s3, aS s4, AV.sl b5 kdT r6 Right.no, aS s7, aB b8, aI j9, aS s10, AV.sl b11 kdL r12 Right.no], aI j13] [] (OSh.enc (OSh.plain (.b) []) y) :=
 ac (OSh.plain (.b) []) (ref13_Remote_σok n) Tryd.func10 (by decide) h
def ref05_Terms_lv : Live := [(4, [0, 1, 5], [1000, 1001, 1002, 1003])]
def ref05_Terms_σ (n : Nat) : Spec := Spec.none
theorem ref05_Terms_σok (n : Nat) : SpecOk Tryd.prog (ref05_Terms_σ n) := (SpecOk.none _)
def ref05_Terms_Φ (n : Nat) : Orc := with_ Tryd.prog (ref05_Terms_σ n) [] n 0 hsL
def ref05_Terms_v (n : Nat) (b0 : Bool) (r1 : Rows) (b2 : Bool) (r3 : Rows) : Option (Bool × Unit) :=
 DM.denFn tm (ref05_Terms_Φ n) ref05_Terms_lv n Tryd.f11 false [AV.sl b0 kdT r1 Right.no, AV.sl b2 kdT r3 Right.no] [] (OSh.chk (OSh.plain (.b) []))
def ref05_Terms_l4 (n : Nat) (b0 : Bool) (r1 : Rows) (b2 : Bool) (r3 : Rows) (i0 : Nat) (j4 : Int) : Option (Bool × Unit) :=
 DM.loopFn tm (ref05_Terms_Φ n) ref05_Terms_lv n Tryd.f11 false [] (OSh.chk (OSh.plain (.b) [])) 4 [] i0 (St.mk ([AV.sl b0 kdT r1 Right.no, AV.sl b2 kdT r3 Right.no, Jk, Jk, Jk, aI j4] ++ jk 20) [])
theorem ref05_Terms_s4 (n : Nat) (b0 : Bool) (r1 : Rows) (b2 : Bool) (r3 : Rows) (i0 : Nat) (j4 : Int) : ref05_Terms_l4 n b0 r1 b2 r3 (i0 + 1) j4 =
 bif decide (j4 < (↑(List.length r1) : Int)) then
 if 0 ≤ j4 then
 if j4 < (↑(List.length r1) : Int) then
 if 0 ≤ j4 then
 if j4 < (↑(List.length r3) : Int) then
 bif !(Row.S (List.getD r1 (Int.toNat j4) []) 0 == Row.S (List.getD r3 (Int.toNat j4) []) 0 && (Row.B (List.getD r1 (Int.toNat j4) []) 1 == Row.B (List.getD r3 (Int.toNat j4) []) 1 && (Row.I (List.getD r1 (Int.toNat j4) []) 2 == Row.I (List.getD r3 (Int.toNat j4) []) 2 && (Row.S (List.getD r1 (Int.toNat j4) []) 3 == Row.S (List.getD r3 (Int.toNat j4) []) 3 && true)))) then
 some (false, ())
 else ref05_Terms_l4 n b0 r1 b2 r3 i0 (IntKind.wrap IntKind.i64 (j4 + 1))
 else none
 else none
 else none
 else none
 else some (true, ()) := by kernel_rfl
theorem ref05_Terms_e (n : Nat) (b0 : Bool) (r1 : Rows) (b2 : Bool) (r3 : Rows) : ref05_Terms_v n b0 r1 b2 r3 =
 bif (↑(List.length r1) : Int) != (↑(List.length r3) : Int) then
 some (false, ())
 else ref05_Terms_l4 n b0 r1 b2 r3 n 0 := by kernel_rfl
theorem ref05_Terms_c (n : Nat) (b0 : Bool) (r1 : Rows) (b2 : Bool) (r3 : Rows) (y : Bool × Unit) (h : ref05_Terms_v n b0 r1 b2 r3 = some y) : Contract Tryd.prog 11 [AV.sl b0 kdT r1 Right.no, AV.sl b2 kdT r3 Right.no] [] (OSh.enc (OSh.plain (.b) []) y) :=
 ac (OSh.plain (.b) []) (ref05_Terms_σok n) Tryd.func11 (by decide) h
def law13_LocalSingle_lv : Live := [(8, [0, 3, 5, 6], [1000, 1001, 1002, 1003]), (12, [0, 3, 5, 6, 7], [1000, 1001, 1002, 1003]), (22, [3, 5, 9], [1000, 1001, 1002, 1003]), (25, [3, 5, 9, 10], [1000, 1001, 1002, 1003])]
def law13_LocalSingle_σ (n : Nat) : Spec := (inst 7 [.sl kdR, .i .i64] [] (OSh.plain (.i .i64) []) (fun x e => ref05_Weight_v n x.1.1 x.1.2 x.2.1) (inst 8 [] [] (OSh.plain (.b) []) (fun x e => law13_live_v n) (inst 9 [.sl kdR] [] (OSh.plain (.tup [.slt kdR 0, .i .i64]) []) (fun x e => local_Rewrite_v n x.1.1 x.1.2) (inst 10 [.agg [.s, .b, .i .i64, .s, .s, .sl kdT, .s, .b, .i .i64, .s, .sl kdL], .i .i64] [] (OSh.plain (.b) []) (fun x e => ref13_Remote_v n x.1.1 x.1.2.1 x.1.2.2.1 x.1.2.2.2.1 x.1.2.2.2.2.1 x.1.2.2.2.2.2.1.1 x.1.2.2.2.2.2.1.2 x.1.2.2.2.2.2.2.1 x.1.2.2.2.2.2.2.2.1 x.1.2.2.2.2.2.2.2.2.1 x.1.2.2.2.2.2.2.2.2.2.1 x.1.2.2.2.2.2.2.2.2.2.2.1.1 x.1.2.2.2.2.2.2.2.2.2.2.1.2 x.2.1) (inst 11 [.sl kdT, .sl kdT] [] (OSh.plain (.b) []) (fun x e => ref05_Terms_v n x.1.1 x.1.2 x.2.1.1 x.2.1.2) Spec.none)))))
theorem law13_LocalSingle_σok (n : Nat) : SpecOk Tryd.prog (law13_LocalSingle_σ n) := (inst_ok (fun x e y h => ref05_Weight_c n x.1.1 x.1.2 x.2.1 y h) (inst_ok (fun x e y h => law13_live_c n y h) (inst_ok (fun x e y h => local_Rewrite_c n x.1.1 x.1.2 y h) (inst_ok (fun x e y h => ref13_Remote_c n x.1.1 x.1.2.1 x.1.2.2.1 x.1.2.2.2.1 x.1.2.2.2.2.1 x.1.2.2.2.2.2.1.1 x.1.2.2.2.2.2.1.2 x.1.2.2.2.2.2.2.1 x.1.2.2.2.2.2.2.2.1 x.1.2.2.2.2.2.2.2.2.1 x.1.2.2.2.2.2.2.2.2.2.1 x.1.2.2.2.2.2.2.2.2.2.2.1.1 x.1.2.2.2.2.2.2.2.2.2.2.1.2 x.2.1 y h) (inst_ok (fun x e y h => ref05_Terms_c n x.1.1 x.1.2 x.2.1.1 x.2.1.2 y h) (SpecOk.none _))))))
def law13_LocalSingle_Φ (n : Nat) : Orc := with_ Tryd.prog (law13_LocalSingle_σ n) [] n 0 hsL
def law13_LocalSingle_v (n : Nat) (b0 : Bool) (r1 : Rows) : Option (Bool × Unit) :=
 DM.denFn tm (law13_LocalSingle_Φ n) law13_LocalSingle_lv n Tryd.f3 false [AV.sl b0 kdR r1 Right.no] [] (OSh.chk (OSh.plain (.b) []))
def law13_LocalSingle_l8 (n : Nat) (b0 : Bool) (r1 : Rows) (i0 : Nat) (b6 : Bool) (r7 : List (List DV)) (j23 : Int) (j24 : Int) : Option (Bool × Unit) :=
 DM.loopFn tm (law13_LocalSingle_Φ n) law13_LocalSingle_lv n Tryd.f3 false [] (OSh.chk (OSh.plain (.b) [])) 8 [] i0 (St.mk ([AV.sl b0 kdR r1 Right.no, Jk, Jk, AV.sl b6 kdR r7 (Right.tok 3), Jk, aI j23, aI j24] ++ jk 129) [])
def law13_LocalSingle_l12 (n : Nat) (b0 : Bool) (r1 : Rows) (i0 i1 : Nat) (b8 : Bool) (r9 : List (List DV)) (j21 : Int) (j22 : Int) (j25 : Int) : Option (Bool × Unit) :=
 DM.loopFn tm (law13_LocalSingle_Φ n) law13_LocalSingle_lv n Tryd.f3 false [] (OSh.chk (OSh.plain (.b) [])) 12 [i0] i1 (St.mk ([AV.sl b0 kdR r1 Right.no, Jk, Jk, AV.sl b8 kdR r9 (Right.tok 3), Jk, aI j21, aI j25, aI j22] ++ jk 128) [])
def law13_LocalSingle_l22 (n : Nat) (b0 : Bool) (r1 : Rows) (i0 : Nat) (b10 : Bool) (r11 : List (List DV)) (j16 : Int) (j26 : Int) : Option (Bool × Unit) :=
 DM.loopFn tm (law13_LocalSingle_Φ n) law13_LocalSingle_lv n Tryd.f3 false [] (OSh.chk (OSh.plain (.b) [])) 22 [] i0 (St.mk ([Jk, Jk, Jk, AV.sl b10 kdR r11 (Right.tok 3), Jk, aI j26, Jk, Jk, Jk, aI j16] ++ jk 126) [])
def law13_LocalSingle_l25 (n : Nat) (b0 : Bool) (r1 : Rows) (i0 i1 : Nat) (b13 : Bool) (r14 : List (List DV)) (j15 : Int) (j18 : Int) (j28 : Int) : Option (Bool × Unit) :=
 DM.loopFn tm (law13_LocalSingle_Φ n) law13_LocalSingle_lv n Tryd.f3 false [] (OSh.chk (OSh.plain (.b) [])) 25 [i0] i1 (St.mk ([Jk, Jk, Jk, AV.sl b13 kdR r14 (Right.tok 3), Jk, aI j28, Jk, Jk, Jk, aI j18, aI j15] ++ jk 125) [])
theorem law13_LocalSingle_s8 (n : Nat) (b0 : Bool) (r1 : Rows) (i0 : Nat) (b6 : Bool) (r7 : List (List DV)) (j23 : Int) (j24 : Int) : law13_LocalSingle_l8 n b0 r1 (i0 + 1) b6 r7 j23 j24 =
 bif decide (j24 < (↑(List.length r1) : Int)) then
 law13_LocalSingle_l12 n b0 r1 i0 n b6 r7 (IntKind.wrap IntKind.i64 (j23 + 1)) 0 j24
 else law13_LocalSingle_l22 n b0 r1 n b6 r7 0 j23 := by kernel_rfl
theorem law13_LocalSingle_s12 (n : Nat) (b0 : Bool) (r1 : Rows) (i0 i1 : Nat) (b8 : Bool) (r9 : List (List DV)) (j21 : Int) (j22 : Int) (j25 : Int) : law13_LocalSingle_l12 n b0 r1 i0 (i1 + 1) b8 r9 j21 j22 j25 =
 if 0 ≤ j25 then
 if j25 < (↑(List.length r1) : Int) then
 bif decide (j22 < (↑(List.length (Row.R (List.getD r1 (Int.toNat j25) []) 10)) : Int)) then
 if 0 ≤ j25 then
 if j25 < (↑(List.length r1) : Int) then
 obind (ref13_Remote_v n (Row.S (List.getD r1 (Int.toNat j25) []) 0) (Row.B (List.getD r1 (Int.toNat j25) []) 1) (Row.I (List.getD r1 (Int.toNat j25) []) 2) (Row.S (List.getD r1 (Int.toNat j25) []) 3) (Row.S (List.getD r1 (Int.toNat j25) []) 4) (Row.N (List.getD r1 (Int.toNat j25) []) 5) (Row.R (List.getD r1 (Int.toNat j25) []) 5) (Row.S (List.getD r1 (Int.toNat j25) []) 6) (Row.B (List.getD r1 (Int.toNat j25) []) 7) (Row.I (List.getD r1 (Int.toNat j25) []) 8) (Row.S (List.getD r1 (Int.toNat j25) []) 9) (Row.N (List.getD r1 (Int.toNat j25) []) 10) (Row.R (List.getD r1 (Int.toNat j25) []) 10) j22) fun y29 =>
 bif y29.fst then
 law13_LocalSingle_l12 n b0 r1 i0 i1 b8 r9 (IntKind.wrap IntKind.i64 (j21 + 2)) (IntKind.wrap IntKind.i64 (j22 + 1)) j25
 else law13_LocalSingle_l12 n b0 r1 i0 i1 b8 r9 j21 (IntKind.wrap IntKind.i64 (j22 + 1)) j25
 else none
 else none
 else bif decide (j21 > (↑(List.length r9) : Int)) then
 some (false, ())
 else if 0 ≤ IntKind.wrap IntKind.i64 (j21 - 1) then
 if IntKind.wrap IntKind.i64 (j21 - 1) < (↑(List.length r9) : Int) then
 if 0 ≤ j25 then
 if j25 < (↑(List.length r1) : Int) then
 bif !(Row.S (List.getD r9 (Int.toNat (IntKind.wrap IntKind.i64 (j21 - 1))) []) 0 == Row.S (List.getD r1 (Int.toNat j25) []) 0 && (Row.B (List.getD r9 (Int.toNat (IntKind.wrap IntKind.i64 (j21 - 1))) []) 1 == Row.B (List.getD r1 (Int.toNat j25) []) 1 && (Row.I (List.getD r9 (Int.toNat (IntKind.wrap IntKind.i64 (j21 - 1))) []) 2 == Row.I (List.getD r1 (Int.toNat j25) []) 2 && (Row.S (List.getD r9 (Int.toNat (IntKind.wrap IntKind.i64 (j21 - 1))) []) 3 == Row.S (List.getD r1 (Int.toNat j25) []) 3 && true)))) then
 some (false, ())
 else if 0 ≤ j25 then
 if j25 < (↑(List.length r1) : Int) then
 bif !Row.S (List.getD r9 (Int.toNat (IntKind.wrap IntKind.i64 (j21 - 1))) []) 4 == Row.S (List.getD r1 (Int.toNat j25) []) 4 then
 some (false, ())
 else if 0 ≤ j25 then
 if j25 < (↑(List.length r1) : Int) then
 bif !(Row.S (List.getD r9 (Int.toNat (IntKind.wrap IntKind.i64 (j21 - 1))) []) 6 == Row.S (List.getD r1 (Int.toNat j25) []) 6 && (Row.B (List.getD r9 (Int.toNat (IntKind.wrap IntKind.i64 (j21 - 1))) []) 7 == Row.B (List.getD r1 (Int.toNat j25) []) 7 && (Row.I (List.getD r9 (Int.toNat (IntKind.wrap IntKind.i64 (j21 - 1))) []) 8 == Row.I (List.getD r1 (Int.toNat j25) []) 8 && (Row.S (List.getD r9 (Int.toNat (IntKind.wrap IntKind.i64 (j21 - 1))) []) 9 == Row.S (List.getD r1 (Int.toNat j25) []) 9 && true)))) then
 some (false, ())
 else if 0 ≤ j25 then
 if j25 < (↑(List.length r1) : Int) then
 obind (ref05_Terms_v n (Row.N (List.getD r9 (Int.toNat (IntKind.wrap IntKind.i64 (j21 - 1))) []) 5) (Row.R (List.getD r9 (Int.toNat (IntKind.wrap IntKind.i64 (j21 - 1))) []) 5) (Row.N (List.getD r1 (Int.toNat j25) []) 5) (Row.R (List.getD r1 (Int.toNat j25) []) 5)) fun y30 =>
 bif !y30.fst then
 some (false, ())
 else law13_LocalSingle_l8 n b0 r1 i0 b8 r9 j21 (IntKind.wrap IntKind.i64 (j25 + 1))
 else none
 else none
 else none
 else none
 else none
 else none
 else none
 else none
 else none
 else none
 else none
 else none := by kernel_rfl
theorem law13_LocalSingle_s22 (n : Nat) (b0 : Bool) (r1 : Rows) (i0 : Nat) (b10 : Bool) (r11 : List (List DV)) (j16 : Int) (j26 : Int) : law13_LocalSingle_l22 n b0 r1 (i0 + 1) b10 r11 j16 j26 =
 bif decide (j16 < (↑(List.length r11) : Int)) then
 law13_LocalSingle_l25 n b0 r1 i0 n b10 r11 0 j16 j26
 else bif j26 == (↑(List.length r11) : Int) then
 obind (law13_live_v n) fun y27 =>
 some (y27.fst, ())
 else some (false, ()) := by kernel_rfl
theorem law13_LocalSingle_s25 (n : Nat) (b0 : Bool) (r1 : Rows) (i0 i1 : Nat) (b13 : Bool) (r14 : List (List DV)) (j15 : Int) (j18 : Int) (j28 : Int) : law13_LocalSingle_l25 n b0 r1 i0 (i1 + 1) b13 r14 j15 j18 j28 =
 if 0 ≤ j18 then
 if j18 < (↑(List.length r14) : Int) then
 bif decide (j15 < (↑(List.length (Row.R (List.getD r14 (Int.toNat j18) []) 10)) : Int)) then
 if 0 ≤ j18 then
 if j18 < (↑(List.length r14) : Int) then
 if 0 ≤ j15 then
 if j15 < (↑(List.length (Row.R (List.getD r14 (Int.toNat j18) []) 10)) : Int) then
 bif !(Row.S (List.getD (Row.R (List.getD r14 (Int.toNat j18) []) 10) (Int.toNat j15) []) 6 == ByteArray.mk #[] && (Row.B (List.getD (Row.R (List.getD r14 (Int.toNat j18) []) 10) (Int.toNat j15) []) 7 == false && (Row.I (List.getD (Row.R (List.getD r14 (Int.toNat j18) []) 10) (Int.toNat j15) []) 8 == 0 && (Row.S (List.getD (Row.R (List.getD r14 (Int.toNat j18) []) 10) (Int.toNat j15) []) 9 == ByteArray.mk #[] && true)))) then
 some (false, ())
 else law13_LocalSingle_l25 n b0 r1 i0 i1 b13 r14 (IntKind.wrap IntKind.i64 (j15 + 1)) j18 j28
 else none
 else none
 else none
 else none
 else law13_LocalSingle_l22 n b0 r1 i0 b13 r14 (IntKind.wrap IntKind.i64 (j18 + 1)) j28
 else none
 else none := by kernel_rfl
theorem law13_LocalSingle_e (n : Nat) (b0 : Bool) (r1 : Rows) : law13_LocalSingle_v n b0 r1 =
 obind (ref05_Weight_v n b0 r1 200) fun y2 =>
 bif decide (y2.fst > 200) then
 obind (law13_live_v n) fun y3 =>
 some (y3.fst, ())
 else obind (local_Rewrite_v n b0 r1) fun y4 =>
 bif y4.fst.snd.fst != 0 then
 bif (↑(List.length y4.fst.fst.snd) : Int) == 0 then
 obind (law13_live_v n) fun y5 =>
 some (y5.fst, ())
 else some (false, ())
 else law13_LocalSingle_l8 n b0 r1 n y4.fst.fst.fst y4.fst.fst.snd 0 0 := by kernel_rfl
theorem law13_LocalSingle_c (n : Nat) (b0 : Bool) (r1 : Rows) (y : Bool × Unit) (h : law13_LocalSingle_v n b0 r1 = some y) : Contract Tryd.prog 3 [AV.sl b0 kdR r1 Right.no] [] (OSh.enc (OSh.plain (.b) []) y) :=
 ac (OSh.plain (.b) []) (law13_LocalSingle_σok n) Tryd.func3 (by decide) h
def law13_LocalFresh_lv : Live := [(7, [0, 3, 5], [1000, 1001, 1002, 1003]), (13, [0, 3, 5, 6], [1000, 1001, 1002, 1003]), (18, [0, 7], [1000, 1001, 1002, 1003])]
def law13_LocalFresh_σ (n : Nat) : Spec := (inst 7 [.sl kdR, .i .i64] [] (OSh.plain (.i .i64) []) (fun x e => ref05_Weight_v n x.1.1 x.1.2 x.2.1) (inst 8 [] [] (OSh.plain (.b) []) (fun x e => law13_live_v n) (inst 9 [.sl kdR] [] (OSh.plain (.tup [.slt kdR 0, .i .i64]) []) (fun x e => local_Rewrite_v n x.1.1 x.1.2) (inst 12 [.s] [] (OSh.plain (.b) []) (fun x e => local_Relay_v n x.1) Spec.none))))
theorem law13_LocalFresh_σok (n : Nat) : SpecOk Tryd.prog (law13_LocalFresh_σ n) := (inst_ok (fun x e y h => ref05_Weight_c n x.1.1 x.1.2 x.2.1 y h) (inst_ok (fun x e y h => law13_live_c n y h) (inst_ok (fun x e y h => local_Rewrite_c n x.1.1 x.1.2 y h) (inst_ok (fun x e y h => local_Relay_c n x.1 y h) (SpecOk.none _)))))
def law13_LocalFresh_Φ (n : Nat) : Orc := with_ Tryd.prog (law13_LocalFresh_σ n) [] n 0 hsL
def law13_LocalFresh_v (n : Nat) (b0 : Bool) (r1 : Rows) : Option (Bool × Unit) :=
 DM.denFn tm (law13_LocalFresh_Φ n) law13_LocalFresh_lv n Tryd.f4 false [AV.sl b0 kdR r1 Right.no] [] (OSh.chk (OSh.plain (.b) []))
def law13_LocalFresh_l7 (n : Nat) (b0 : Bool) (r1 : Rows) (i0 : Nat) (b6 : Bool) (r7 : List (List DV)) (j9 : Int) : Option (Bool × Unit) :=
 DM.loopFn tm (law13_LocalFresh_Φ n) law13_LocalFresh_lv n Tryd.f4 false [] (OSh.chk (OSh.plain (.b) [])) 7 [] i0 (St.mk ([AV.sl b0 kdR r1 Right.no, Jk, Jk, AV.sl b6 kdR r7 (Right.tok 3), Jk, aI j9] ++ jk 69) [])
def law13_LocalFresh_l13 (n : Nat) (b0 : Bool) (r1 : Rows) (i0 i1 : Nat) (b10 : Bool) (r11 : List (List DV)) (j17 : Int) (j19 : Int) : Option (Bool × Unit) :=
 DM.loopFn tm (law13_LocalFresh_Φ n) law13_LocalFresh_lv n Tryd.f4 false [] (OSh.chk (OSh.plain (.b) [])) 13 [i0] i1 (St.mk ([AV.sl b0 kdR r1 Right.no, Jk, Jk, AV.sl b10 kdR r11 (Right.tok 3), Jk, aI j19, aI j17] ++ jk 68) [])
def law13_LocalFresh_l18 (n : Nat) (b0 : Bool) (r1 : Rows) (i0 : Nat) (j14 : Int) : Option (Bool × Unit) :=
 DM.loopFn tm (law13_LocalFresh_Φ n) law13_LocalFresh_lv n Tryd.f4 false [] (OSh.chk (OSh.plain (.b) [])) 18 [] i0 (St.mk ([AV.sl b0 kdR r1 Right.no, Jk, Jk, Jk, Jk, Jk, Jk, aI j14] ++ jk 67) [])
theorem law13_LocalFresh_s7 (n : Nat) (b0 : Bool) (r1 : Rows) (i0 : Nat) (b6 : Bool) (r7 : List (List DV)) (j9 : Int) : law13_LocalFresh_l7 n b0 r1 (i0 + 1) b6 r7 j9 =
 bif decide (j9 < (↑(List.length r7) : Int)) then
 if 0 ≤ j9 then
 if j9 < (↑(List.length r7) : Int) then
 obind (local_Relay_v n (Row.S (List.getD r7 (Int.toNat j9) []) 4)) fun y18 =>
 bif !y18.fst then
 law13_LocalFresh_l7 n b0 r1 i0 b6 r7 (IntKind.wrap IntKind.i64 (j9 + 1))
 else if 0 ≤ j9 then
 if j9 < (↑(List.length r7) : Int) then
 bif Row.S (List.getD r7 (Int.toNat j9) []) 6 == ByteArray.mk #[] && (Row.B (List.getD r7 (Int.toNat j9) []) 7 == false && (Row.I (List.getD r7 (Int.toNat j9) []) 8 == 0 && (Row.S (List.getD r7 (Int.toNat j9) []) 9 == ByteArray.mk #[] && true))) then
 some (false, ())
 else law13_LocalFresh_l13 n b0 r1 i0 n b6 r7 0 j9
 else none
 else none
 else none
 else none
 else law13_LocalFresh_l18 n b0 r1 n 0 := by kernel_rfl
theorem law13_LocalFresh_s13 (n : Nat) (b0 : Bool) (r1 : Rows) (i0 i1 : Nat) (b10 : Bool) (r11 : List (List DV)) (j17 : Int) (j19 : Int) : law13_LocalFresh_l13 n b0 r1 i0 (i1 + 1) b10 r11 j17 j19 =
 bif decide (j17 < (↑(List.length r11) : Int)) then
 bif j17 != j19 then
 if 0 ≤ j17 then
 if j17 < (↑(List.length r11) : Int) then
 if 0 ≤ j19 then
 if j19 < (↑(List.length r11) : Int) then
 bif Row.S (List.getD r11 (Int.toNat j17) []) 4 == Row.S (List.getD r11 (Int.toNat j19) []) 4 then
 some (false, ())
 else law13_LocalFresh_l13 n b0 r1 i0 i1 b10 r11 (IntKind.wrap IntKind.i64 (j17 + 1)) j19
 else none
 else none
 else none
 else none
 else law13_LocalFresh_l13 n b0 r1 i0 i1 b10 r11 (IntKind.wrap IntKind.i64 (j17 + 1)) j19
 else law13_LocalFresh_l7 n b0 r1 i0 b10 r11 (IntKind.wrap IntKind.i64 (j19 + 1)) := by kernel_rfl
theorem law13_LocalFresh_s18 (n : Nat) (b0 : Bool) (r1 : Rows) (i0 : Nat) (j14 : Int) : law13_LocalFresh_l18 n b0 r1 (i0 + 1) j14 =
 bif decide (j14 < (↑(List.length r1) : Int)) then
 if 0 ≤ j14 then
 if j14 < (↑(List.length r1) : Int) then
 obind (local_Relay_v n (Row.S (List.getD r1 (Int.toNat j14) []) 4)) fun y15 =>
 bif y15.fst then
 some (false, ())
 else law13_LocalFresh_l18 n b0 r1 i0 (IntKind.wrap IntKind.i64 (j14 + 1))
 else none
 else none
 else obind (law13_live_v n) fun y16 =>
 some (y16.fst, ()) := by kernel_rfl
theorem law13_LocalFresh_e (n : Nat) (b0 : Bool) (r1 : Rows) : law13_LocalFresh_v n b0 r1 =
 obind (ref05_Weight_v n b0 r1 200) fun y2 =>
 bif decide (y2.fst > 200) then
 obind (law13_live_v n) fun y3 =>
 some (y3.fst, ())
 else obind (local_Rewrite_v n b0 r1) fun y4 =>
 bif y4.fst.snd.fst != 0 then
 obind (law13_live_v n) fun y5 =>
 some (y5.fst, ())
 else law13_LocalFresh_l7 n b0 r1 n y4.fst.fst.fst y4.fst.fst.snd 0 := by kernel_rfl
theorem law13_LocalFresh_c (n : Nat) (b0 : Bool) (r1 : Rows) (y : Bool × Unit) (h : law13_LocalFresh_v n b0 r1 = some y) : Contract Tryd.prog 4 [AV.sl b0 kdR r1 Right.no] [] (OSh.enc (OSh.plain (.b) []) y) :=
 ac (OSh.plain (.b) []) (law13_LocalFresh_σok n) Tryd.func4 (by decide) h
end
end Go.Den

