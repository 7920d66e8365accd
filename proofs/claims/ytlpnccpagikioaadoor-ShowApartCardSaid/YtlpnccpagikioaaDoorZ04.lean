import Derived.Test.YtlpnccpagikioaaDoorZ03
set_option linter.unusedVariables false
set_option linter.unusedSimpArgs false
set_option linter.unusedSectionVars false
namespace Go.Den
open Go.Proofs
set_option maxRecDepth 100000
def show_Term_lv : Live := []
noncomputable def show_Term_σ (n : Nat) : Spec := (inst 34 [.s] [] (OSh.plain (.b) []) (fun x e => show_variable_v n x.1) (inst 35 [.i IntKind.i64] [] (OSh.plain (.s) []) (fun x e => strconv_Itoa_v n x.1) (inst 36 [.s] [] (OSh.plain (.b) []) (fun x e => show_plain_v n x.1) (inst 37 [.s] [] (OSh.plain (.b) []) (fun x e => show_word_v n x.1) Spec.none))))
theorem show_Term_σok (n : Nat) : SpecOk Tryd.prog (show_Term_σ n) := (inst_ok (fun x e y h => show_variable_c n x.1 y h) (inst_ok (fun x e y h => strconv_Itoa_c n x.1 y h) (inst_ok (fun x e y h => show_plain_c n x.1 y h) (inst_ok (fun x e y h => show_word_c n x.1 y h) (SpecOk.none _)))))
noncomputable def show_Term_Φ (n : Nat) : Orc := with_ Tryd.prog (show_Term_σ n) [] n 0 hsL
noncomputable def show_Term_v (n : Nat) (s0 : ByteArray) (b1 : Bool) (j2 : Int) (s3 : ByteArray) : Option ((ByteArray × Int × Unit) × Unit) :=
  DM.denFn tm (show_Term_Φ n) show_Term_lv n Tryd.f13 false [AV.agg [AV.dv (DV.val (Value.string s0)), AV.dv (DV.val (Value.bool b1)), AV.dv (DV.val (Value.int IntKind.i64 j2)), AV.dv (DV.val (Value.string s3))]] [] (OSh.chk (OSh.plain (.tup [.s, .i IntKind.i64]) []))
theorem show_Term_e (n : Nat) (s0 : ByteArray) (b1 : Bool) (j2 : Int) (s3 : ByteArray) : show_Term_v n s0 b1 j2 s3 =
  bif !s0 == ByteArray.mk #[] then
    bif !(b1 == false && (j2 == 0 && (s3 == ByteArray.mk #[] && true))) then
      some ((ByteArray.mk #[], (100, ())), ())
    else obind (show_variable_v n s0) fun y4 =>
    bif !y4.fst then
      some ((ByteArray.mk #[], (100, ())), ())
    else some ((s0, (0, ())), ())
  else bif b1 then
    bif s3 == ByteArray.mk #[] then
      obind (strconv_Itoa_v n j2) fun y5 =>
      some ((y5.fst, (0, ())), ())
    else bif b1 then
      some ((ByteArray.mk #[], (100, ())), ())
    else bif j2 != 0 then
      some ((ByteArray.mk #[], (100, ())), ())
    else obind (show_plain_v n s3) fun y6 =>
    bif !y6.fst then
      some ((ByteArray.mk #[], (100, ())), ())
    else obind (show_word_v n s3) fun y7 =>
    bif y7.fst then
      some ((s3, (0, ())), ())
    else if 1 + ByteArray.size s3 < 4611686018427387904 then
      if ByteArray.size (ByteArray.mk #[34] ++ s3) + 1 < 4611686018427387904 then
        some ((ByteArray.mk #[34] ++ s3 ++ ByteArray.mk #[34], (0, ())), ())
      else none
    else none
  else bif b1 then
    some ((ByteArray.mk #[], (100, ())), ())
  else bif j2 != 0 then
    some ((ByteArray.mk #[], (100, ())), ())
  else obind (show_plain_v n s3) fun y8 =>
  bif !y8.fst then
    some ((ByteArray.mk #[], (100, ())), ())
  else obind (show_word_v n s3) fun y9 =>
  bif y9.fst then
    some ((s3, (0, ())), ())
  else if 1 + ByteArray.size s3 < 4611686018427387904 then
    if ByteArray.size (ByteArray.mk #[34] ++ s3) + 1 < 4611686018427387904 then
      some ((ByteArray.mk #[34] ++ s3 ++ ByteArray.mk #[34], (0, ())), ())
    else none
  else none := by kernel_rfl
theorem show_Term_c (n : Nat) (s0 : ByteArray) (b1 : Bool) (j2 : Int) (s3 : ByteArray) (y : (ByteArray × Int × Unit) × Unit) (h : show_Term_v n s0 b1 j2 s3 = some y) : Contract Tryd.prog 13 [AV.agg [AV.dv (DV.val (Value.string s0)), AV.dv (DV.val (Value.bool b1)), AV.dv (DV.val (Value.int IntKind.i64 j2)), AV.dv (DV.val (Value.string s3))]] [] (OSh.enc (OSh.plain (.tup [.s, .i IntKind.i64]) []) y) :=
  ac (OSh.plain (.tup [.s, .i IntKind.i64]) []) (show_Term_σok n) Tryd.func13 (by decide) h
def law09_live_lv : Live := []
noncomputable def law09_live_σ (n : Nat) : Spec := (inst 13 [.agg [.s, .b, .i IntKind.i64, .s]] [] (OSh.plain (.tup [.s, .i IntKind.i64]) []) (fun x e => show_Term_v n x.1.1 x.1.2.1 x.1.2.2.1 x.1.2.2.2.1) Spec.none)
theorem law09_live_σok (n : Nat) : SpecOk Tryd.prog (law09_live_σ n) := (inst_ok (fun x e y h => show_Term_c n x.1.1 x.1.2.1 x.1.2.2.1 x.1.2.2.2.1 y h) (SpecOk.none _))
noncomputable def law09_live_Φ (n : Nat) : Orc := with_ Tryd.prog (law09_live_σ n) [] n 0 hsL
noncomputable def law09_live_v (n : Nat) : Option (Bool × Unit) :=
  DM.denFn tm (law09_live_Φ n) law09_live_lv n Tryd.f12 false [] [] (OSh.chk (OSh.plain (.b) []))
theorem law09_live_e (n : Nat) : law09_live_v n =
  obind (show_Term_v n (ByteArray.mk #[]) false 0 (ByteArray.mk #[84, 111])) fun y0 =>
  obind (show_Term_v n (ByteArray.mk #[]) false 0 (ByteArray.mk #[98])) fun y1 =>
  obind (show_Term_v n (ByteArray.mk #[]) false 0 (ByteArray.mk #[])) fun y2 =>
  bif y0.fst.fst == ByteArray.mk #[34, 84, 111, 34] then
    bif y0.fst.snd.fst == 0 then
      bif y1.fst.fst == ByteArray.mk #[98] then
        bif y1.fst.snd.fst == 0 then
          some (y2.fst.snd.fst == 100, ())
        else some (false, ())
      else some (false, ())
    else some (false, ())
  else some (false, ()) := by kernel_rfl
theorem law09_live_c (n : Nat) (y : Bool × Unit) (h : law09_live_v n = some y) : Contract Tryd.prog 12 [] [] (OSh.enc (OSh.plain (.b) []) y) :=
  ac (OSh.plain (.b) []) (law09_live_σok n) Tryd.func12 (by decide) h
def strings_Builder_WriteString_nilp_lv : Live := []
noncomputable def strings_Builder_WriteString_nilp_σ (n : Nat) : Spec := (inst 67 [.pl 1000 0] [[.nilp, .slt [Kd.i IntKind.u8] 500002, .b]] (OSh.plain (.tup []) [[.pl 1000 0, .slt [Kd.i IntKind.u8] 1, .b]]) (fun x e => strings_Builder_copyCheck_nilp_v n e.1.2.1.1 e.1.2.1.2 e.1.2.2.1) Spec.none)
theorem strings_Builder_WriteString_nilp_σok (n : Nat) : SpecOk Tryd.prog (strings_Builder_WriteString_nilp_σ n) := (inst_ok (fun x e y h => strings_Builder_copyCheck_nilp_c n e.1.2.1.1 e.1.2.1.2 e.1.2.2.1 y h) (SpecOk.none _))
noncomputable def strings_Builder_WriteString_nilp_Φ (n : Nat) : Orc := with_ Tryd.prog (strings_Builder_WriteString_nilp_σ n) [] n 0 hsL
noncomputable def strings_Builder_WriteString_nilp_v (n : Nat) (s0 : ByteArray) (b1 : Bool) (r2 : Rows) (b3 : Bool) : Option ((Int × Unit × Unit) × (Unit × (Bool × Rows) × Bool × Unit) × Unit) :=
  DM.denFn tm (strings_Builder_WriteString_nilp_Φ n) strings_Builder_WriteString_nilp_lv n Tryd.f43 false [AV.pl 1000 0, AV.dv (DV.val (Value.string s0))] [[AV.dv (DV.val (Value.pointer none)), AV.sl b1 [Kd.i IntKind.u8] r2 (Right.tok 500003), AV.dv (DV.val (Value.bool b3))]] (OSh.chk (OSh.plain (.tup [.i IntKind.i64, .nili]) [[.pl 1000 0, .slt [Kd.i IntKind.u8] 1, .b]]))
theorem strings_Builder_WriteString_nilp_e (n : Nat) (s0 : ByteArray) (b1 : Bool) (r2 : Rows) (b3 : Bool) : strings_Builder_WriteString_nilp_v n s0 b1 r2 b3 =
  obind (strings_Builder_copyCheck_nilp_v n b1 r2 b3) fun y4 =>
  if (List.length y4.snd.fst.snd.fst.snd + ByteArray.size s0) * 1 ≤ 140737488355328 then
    some (((↑(ByteArray.size s0) : Int), ((), ())), (((), ((y4.snd.fst.snd.fst.fst && ByteArray.size s0 == 0, appX y4.snd.fst.snd.fst.snd (byteRows s0)), (y4.snd.fst.snd.snd.fst, ()))), ()))
  else none := by kernel_rfl
theorem strings_Builder_WriteString_nilp_c (n : Nat) (s0 : ByteArray) (b1 : Bool) (r2 : Rows) (b3 : Bool) (y : (Int × Unit × Unit) × (Unit × (Bool × Rows) × Bool × Unit) × Unit) (h : strings_Builder_WriteString_nilp_v n s0 b1 r2 b3 = some y) : Contract Tryd.prog 43 [AV.pl 1000 0, AV.dv (DV.val (Value.string s0))] [[AV.dv (DV.val (Value.pointer none)), AV.sl b1 [Kd.i IntKind.u8] r2 (Right.tok 500003), AV.dv (DV.val (Value.bool b3))]] (OSh.enc (OSh.plain (.tup [.i IntKind.i64, .nili]) [[.pl 1000 0, .slt [Kd.i IntKind.u8] 1, .b]]) y) :=
  ac (OSh.plain (.tup [.i IntKind.i64, .nili]) [[.pl 1000 0, .slt [Kd.i IntKind.u8] 1, .b]]) (strings_Builder_WriteString_nilp_σok n) Tryd.func43 (by decide) h
def show_printer_term_nilp_lv : Live := []
noncomputable def show_printer_term_nilp_σ (n : Nat) : Spec := (inst 13 [.agg [.s, .b, .i IntKind.i64, .s]] [] (OSh.plain (.tup [.s, .i IntKind.i64]) []) (fun x e => show_Term_v n x.1.1 x.1.2.1 x.1.2.2.1 x.1.2.2.2.1) (inst 43 [.pl 1000 0, .s] [[.nilp, .slt [Kd.i IntKind.u8] 500003, .b]] (OSh.plain (.tup [.i IntKind.i64, .nili]) [[.pl 1000 0, .slt [Kd.i IntKind.u8] 1, .b]]) (fun x e => strings_Builder_WriteString_nilp_v n x.2.1 e.1.2.1.1 e.1.2.1.2 e.1.2.2.1) Spec.none))
theorem show_printer_term_nilp_σok (n : Nat) : SpecOk Tryd.prog (show_printer_term_nilp_σ n) := (inst_ok (fun x e y h => show_Term_c n x.1.1 x.1.2.1 x.1.2.2.1 x.1.2.2.2.1 y h) (inst_ok (fun x e y h => strings_Builder_WriteString_nilp_c n x.2.1 e.1.2.1.1 e.1.2.1.2 e.1.2.2.1 y h) (SpecOk.none _)))
noncomputable def show_printer_term_nilp_Φ (n : Nat) : Orc := with_ Tryd.prog (show_printer_term_nilp_σ n) [] n 0 hsL
noncomputable def show_printer_term_nilp_v (n : Nat) (s0 : ByteArray) (s1 : ByteArray) (b2 : Bool) (j3 : Int) (s4 : ByteArray) (b5 : Bool) (r6 : Rows) (b7 : Bool) : Option (Unit × (Unit × (Bool × Rows) × Bool × Unit) × Unit) :=
  DM.denFn tm (show_printer_term_nilp_Φ n) show_printer_term_nilp_lv n Tryd.f42 false [AV.pl 1000 0, AV.dv (DV.val (Value.string s0)), AV.agg [AV.dv (DV.val (Value.string s1)), AV.dv (DV.val (Value.bool b2)), AV.dv (DV.val (Value.int IntKind.i64 j3)), AV.dv (DV.val (Value.string s4))]] [[AV.dv (DV.val (Value.pointer none)), AV.sl b5 [Kd.i IntKind.u8] r6 (Right.tok 500004), AV.dv (DV.val (Value.bool b7))]] (OSh.chk (OSh.plain (.tup []) [[.pl 1000 0, .slt [Kd.i IntKind.u8] 1, .b]]))
theorem show_printer_term_nilp_e (n : Nat) (s0 : ByteArray) (s1 : ByteArray) (b2 : Bool) (j3 : Int) (s4 : ByteArray) (b5 : Bool) (r6 : Rows) (b7 : Bool) : show_printer_term_nilp_v n s0 s1 b2 j3 s4 b5 r6 b7 =
  obind (show_Term_v n s1 b2 j3 s4) fun y8 =>
  bif b7 then
    if (Nat.beq 1 1 && Nat.ble 3 (List.length [AV.dv (DV.val (Value.pointer none)), AV.sl b5 [Kd.i IntKind.u8] r6 (Right.tok 500004), AV.dv (DV.val (Value.bool b7))]) && AV.areCells [AV.dv (DV.val (Value.bool true))] && virLe [AV.dv (DV.val (Value.pointer none)), AV.sl b5 [Kd.i IntKind.u8] r6 (Right.tok 500004), AV.dv (DV.val (Value.bool true))] [AV.dv (DV.val (Value.pointer none)), AV.sl b5 [Kd.i IntKind.u8] r6 (Right.tok 500004), AV.dv (DV.val (Value.bool b7))]) = true then
      if ByteArray.size s0 + ByteArray.size y8.fst.fst < 4611686018427387904 then
        obind (strings_Builder_WriteString_nilp_v n (s0 ++ y8.fst.fst) b5 r6 true) fun y9 =>
        some ((), (((), ((y9.snd.fst.snd.fst.fst, y9.snd.fst.snd.fst.snd), (y9.snd.fst.snd.snd.fst, ()))), ()))
      else none
    else none
  else if (Nat.beq (List.length [AV.dv (DV.val (Value.bool (y8.fst.snd.fst != 0)))]) 1 && Nat.ble 3 (List.length [AV.dv (DV.val (Value.pointer none)), AV.sl b5 [Kd.i IntKind.u8] r6 (Right.tok 500004), AV.dv (DV.val (Value.bool b7))]) && AV.areCells [AV.dv (DV.val (Value.bool (y8.fst.snd.fst != 0)))] && virLe [AV.dv (DV.val (Value.pointer none)), AV.sl b5 [Kd.i IntKind.u8] r6 (Right.tok 500004), AV.dv (DV.val (Value.bool (y8.fst.snd.fst != 0)))] [AV.dv (DV.val (Value.pointer none)), AV.sl b5 [Kd.i IntKind.u8] r6 (Right.tok 500004), AV.dv (DV.val (Value.bool b7))]) = true then
    if ByteArray.size s0 + ByteArray.size y8.fst.fst < 4611686018427387904 then
      obind (strings_Builder_WriteString_nilp_v n (s0 ++ y8.fst.fst) b5 r6 (y8.fst.snd.fst != 0)) fun y10 =>
      some ((), (((), ((y10.snd.fst.snd.fst.fst, y10.snd.fst.snd.fst.snd), (y10.snd.fst.snd.snd.fst, ()))), ()))
    else none
  else none := by kernel_rfl
theorem show_printer_term_nilp_c (n : Nat) (s0 : ByteArray) (s1 : ByteArray) (b2 : Bool) (j3 : Int) (s4 : ByteArray) (b5 : Bool) (r6 : Rows) (b7 : Bool) (y : Unit × (Unit × (Bool × Rows) × Bool × Unit) × Unit) (h : show_printer_term_nilp_v n s0 s1 b2 j3 s4 b5 r6 b7 = some y) : Contract Tryd.prog 42 [AV.pl 1000 0, AV.dv (DV.val (Value.string s0)), AV.agg [AV.dv (DV.val (Value.string s1)), AV.dv (DV.val (Value.bool b2)), AV.dv (DV.val (Value.int IntKind.i64 j3)), AV.dv (DV.val (Value.string s4))]] [[AV.dv (DV.val (Value.pointer none)), AV.sl b5 [Kd.i IntKind.u8] r6 (Right.tok 500004), AV.dv (DV.val (Value.bool b7))]] (OSh.enc (OSh.plain (.tup []) [[.pl 1000 0, .slt [Kd.i IntKind.u8] 1, .b]]) y) :=
  ac (OSh.plain (.tup []) [[.pl 1000 0, .slt [Kd.i IntKind.u8] 1, .b]]) (show_printer_term_nilp_σok n) Tryd.func42 (by decide) h
def strings_Builder_WriteString_lv : Live := []
noncomputable def strings_Builder_WriteString_σ (n : Nat) : Spec := (inst 67 [.pl 1000 0] [[.pl 1000 0, .slt [Kd.i IntKind.u8] 500002, .b]] (OSh.plain (.tup []) [[.pl 1000 0, .slt [Kd.i IntKind.u8] 1, .b]]) (fun x e => strings_Builder_copyCheck_v n e.1.2.1.1 e.1.2.1.2 e.1.2.2.1) Spec.none)
theorem strings_Builder_WriteString_σok (n : Nat) : SpecOk Tryd.prog (strings_Builder_WriteString_σ n) := (inst_ok (fun x e y h => strings_Builder_copyCheck_c n e.1.2.1.1 e.1.2.1.2 e.1.2.2.1 y h) (SpecOk.none _))
noncomputable def strings_Builder_WriteString_Φ (n : Nat) : Orc := with_ Tryd.prog (strings_Builder_WriteString_σ n) [] n 0 hsL
noncomputable def strings_Builder_WriteString_v (n : Nat) (s0 : ByteArray) (b1 : Bool) (r2 : Rows) (b3 : Bool) : Option ((Int × Unit × Unit) × (Unit × (Bool × Rows) × Bool × Unit) × Unit) :=
  DM.denFn tm (strings_Builder_WriteString_Φ n) strings_Builder_WriteString_lv n Tryd.f43 false [AV.pl 1000 0, AV.dv (DV.val (Value.string s0))] [[AV.pl 1000 0, AV.sl b1 [Kd.i IntKind.u8] r2 (Right.tok 500003), AV.dv (DV.val (Value.bool b3))]] (OSh.chk (OSh.plain (.tup [.i IntKind.i64, .nili]) [[.pl 1000 0, .slt [Kd.i IntKind.u8] 1, .b]]))
theorem strings_Builder_WriteString_e (n : Nat) (s0 : ByteArray) (b1 : Bool) (r2 : Rows) (b3 : Bool) : strings_Builder_WriteString_v n s0 b1 r2 b3 =
  obind (strings_Builder_copyCheck_v n b1 r2 b3) fun y4 =>
  if (List.length y4.snd.fst.snd.fst.snd + ByteArray.size s0) * 1 ≤ 140737488355328 then
    some (((↑(ByteArray.size s0) : Int), ((), ())), (((), ((y4.snd.fst.snd.fst.fst && ByteArray.size s0 == 0, appX y4.snd.fst.snd.fst.snd (byteRows s0)), (y4.snd.fst.snd.snd.fst, ()))), ()))
  else none := by kernel_rfl
theorem strings_Builder_WriteString_c (n : Nat) (s0 : ByteArray) (b1 : Bool) (r2 : Rows) (b3 : Bool) (y : (Int × Unit × Unit) × (Unit × (Bool × Rows) × Bool × Unit) × Unit) (h : strings_Builder_WriteString_v n s0 b1 r2 b3 = some y) : Contract Tryd.prog 43 [AV.pl 1000 0, AV.dv (DV.val (Value.string s0))] [[AV.pl 1000 0, AV.sl b1 [Kd.i IntKind.u8] r2 (Right.tok 500003), AV.dv (DV.val (Value.bool b3))]] (OSh.enc (OSh.plain (.tup [.i IntKind.i64, .nili]) [[.pl 1000 0, .slt [Kd.i IntKind.u8] 1, .b]]) y) :=
  ac (OSh.plain (.tup [.i IntKind.i64, .nili]) [[.pl 1000 0, .slt [Kd.i IntKind.u8] 1, .b]]) (strings_Builder_WriteString_σok n) Tryd.func43 (by decide) h
def show_printer_term_lv : Live := []
noncomputable def show_printer_term_σ (n : Nat) : Spec := (inst 13 [.agg [.s, .b, .i IntKind.i64, .s]] [] (OSh.plain (.tup [.s, .i IntKind.i64]) []) (fun x e => show_Term_v n x.1.1 x.1.2.1 x.1.2.2.1 x.1.2.2.2.1) (inst 43 [.pl 1000 0, .s] [[.pl 1000 0, .slt [Kd.i IntKind.u8] 500003, .b]] (OSh.plain (.tup [.i IntKind.i64, .nili]) [[.pl 1000 0, .slt [Kd.i IntKind.u8] 1, .b]]) (fun x e => strings_Builder_WriteString_v n x.2.1 e.1.2.1.1 e.1.2.1.2 e.1.2.2.1) Spec.none))
theorem show_printer_term_σok (n : Nat) : SpecOk Tryd.prog (show_printer_term_σ n) := (inst_ok (fun x e y h => show_Term_c n x.1.1 x.1.2.1 x.1.2.2.1 x.1.2.2.2.1 y h) (inst_ok (fun x e y h => strings_Builder_WriteString_c n x.2.1 e.1.2.1.1 e.1.2.1.2 e.1.2.2.1 y h) (SpecOk.none _)))
noncomputable def show_printer_term_Φ (n : Nat) : Orc := with_ Tryd.prog (show_printer_term_σ n) [] n 0 hsL
noncomputable def show_printer_term_v (n : Nat) (s0 : ByteArray) (s1 : ByteArray) (b2 : Bool) (j3 : Int) (s4 : ByteArray) (b5 : Bool) (r6 : Rows) (b7 : Bool) : Option (Unit × (Unit × (Bool × Rows) × Bool × Unit) × Unit) :=
  DM.denFn tm (show_printer_term_Φ n) show_printer_term_lv n Tryd.f42 false [AV.pl 1000 0, AV.dv (DV.val (Value.string s0)), AV.agg [AV.dv (DV.val (Value.string s1)), AV.dv (DV.val (Value.bool b2)), AV.dv (DV.val (Value.int IntKind.i64 j3)), AV.dv (DV.val (Value.string s4))]] [[AV.pl 1000 0, AV.sl b5 [Kd.i IntKind.u8] r6 (Right.tok 500004), AV.dv (DV.val (Value.bool b7))]] (OSh.chk (OSh.plain (.tup []) [[.pl 1000 0, .slt [Kd.i IntKind.u8] 1, .b]]))
theorem show_printer_term_e (n : Nat) (s0 : ByteArray) (s1 : ByteArray) (b2 : Bool) (j3 : Int) (s4 : ByteArray) (b5 : Bool) (r6 : Rows) (b7 : Bool) : show_printer_term_v n s0 s1 b2 j3 s4 b5 r6 b7 =
  obind (show_Term_v n s1 b2 j3 s4) fun y8 =>
  bif b7 then
    if ByteArray.size s0 + ByteArray.size y8.fst.fst < 4611686018427387904 then
      obind (strings_Builder_WriteString_v n (s0 ++ y8.fst.fst) b5 r6 true) fun y9 =>
      some ((), (((), ((y9.snd.fst.snd.fst.fst, y9.snd.fst.snd.fst.snd), (y9.snd.fst.snd.snd.fst, ()))), ()))
    else none
  else if ByteArray.size s0 + ByteArray.size y8.fst.fst < 4611686018427387904 then
    obind (strings_Builder_WriteString_v n (s0 ++ y8.fst.fst) b5 r6 (y8.fst.snd.fst != 0)) fun y10 =>
    some ((), (((), ((y10.snd.fst.snd.fst.fst, y10.snd.fst.snd.fst.snd), (y10.snd.fst.snd.snd.fst, ()))), ()))
  else none := by kernel_rfl
theorem show_printer_term_c (n : Nat) (s0 : ByteArray) (s1 : ByteArray) (b2 : Bool) (j3 : Int) (s4 : ByteArray) (b5 : Bool) (r6 : Rows) (b7 : Bool) (y : Unit × (Unit × (Bool × Rows) × Bool × Unit) × Unit) (h : show_printer_term_v n s0 s1 b2 j3 s4 b5 r6 b7 = some y) : Contract Tryd.prog 42 [AV.pl 1000 0, AV.dv (DV.val (Value.string s0)), AV.agg [AV.dv (DV.val (Value.string s1)), AV.dv (DV.val (Value.bool b2)), AV.dv (DV.val (Value.int IntKind.i64 j3)), AV.dv (DV.val (Value.string s4))]] [[AV.pl 1000 0, AV.sl b5 [Kd.i IntKind.u8] r6 (Right.tok 500004), AV.dv (DV.val (Value.bool b7))]] (OSh.enc (OSh.plain (.tup []) [[.pl 1000 0, .slt [Kd.i IntKind.u8] 1, .b]]) y) :=
  ac (OSh.plain (.tup []) [[.pl 1000 0, .slt [Kd.i IntKind.u8] 1, .b]]) (show_printer_term_σok n) Tryd.func42 (by decide) h
def show_printer_atom_lv : Live := [(3, [0, 31, 32, 33], [1000, 1001, 1002, 1003])]
noncomputable def show_printer_atom_σ (n : Nat) : Spec := (inst 43 [.pl 1000 0, .s] [[.pl 1000 0, .slt [Kd.i IntKind.u8] 500003, .b]] (OSh.plain (.tup [.i IntKind.i64, .nili]) [[.pl 1000 0, .slt [Kd.i IntKind.u8] 1, .b]]) (fun x e => strings_Builder_WriteString_v n x.2.1 e.1.2.1.1 e.1.2.1.2 e.1.2.2.1) (inst 37 [.s] [] (OSh.plain (.b) []) (fun x e => show_word_v n x.1) (inst 42 [.pl 1000 0, .s, .agg [.s, .b, .i IntKind.i64, .s]] [[.pl 1000 0, .slt [Kd.i IntKind.u8] 500004, .b]] (OSh.plain (.tup []) [[.pl 1000 0, .slt [Kd.i IntKind.u8] 1, .b]]) (fun x e => show_printer_term_v n x.2.1 x.2.2.1.1 x.2.2.1.2.1 x.2.2.1.2.2.1 x.2.2.1.2.2.2.1 e.1.2.1.1 e.1.2.1.2 e.1.2.2.1) Spec.none)))
theorem show_printer_atom_σok (n : Nat) : SpecOk Tryd.prog (show_printer_atom_σ n) := (inst_ok (fun x e y h => strings_Builder_WriteString_c n x.2.1 e.1.2.1.1 e.1.2.1.2 e.1.2.2.1 y h) (inst_ok (fun x e y h => show_word_c n x.1 y h) (inst_ok (fun x e y h => show_printer_term_c n x.2.1 x.2.2.1.1 x.2.2.1.2.1 x.2.2.1.2.2.1 x.2.2.1.2.2.2.1 e.1.2.1.1 e.1.2.1.2 e.1.2.2.1 y h) (SpecOk.none _))))
noncomputable def show_printer_atom_Φ (n : Nat) : Orc := with_ Tryd.prog (show_printer_atom_σ n) [] n 0 hsL
noncomputable def show_printer_atom_v (n : Nat) (s0 : ByteArray) (b1 : Bool) (r2 : Rows) (b3 : Bool) (r4 : Rows) (b5 : Bool) : Option (Unit × (Unit × (Bool × Rows) × Bool × Unit) × Unit) :=
  DM.denFn tm (show_printer_atom_Φ n) show_printer_atom_lv n Tryd.f44 false [AV.pl 1000 0, AV.dv (DV.val (Value.string s0)), AV.sl b1 kdT r2 Right.no] [[AV.pl 1000 0, AV.sl b3 [Kd.i IntKind.u8] r4 (Right.tok 500004), AV.dv (DV.val (Value.bool b5))]] (OSh.chk (OSh.plain (.tup []) [[.pl 1000 0, .slt [Kd.i IntKind.u8] 1, .b]]))
noncomputable def show_printer_atom_l3 (n : Nat) (s0 : ByteArray) (b1 : Bool) (r2 : Rows) (b3 : Bool) (r4 : Rows) (b5 : Bool) (i0 : Nat) (b10 : Bool) (r11 : List (List DV)) (b12 : Bool) (j15 : Int) : Option (Unit × (Unit × (Bool × Rows) × Bool × Unit) × Unit) :=
  DM.loopFn tm (show_printer_atom_Φ n) show_printer_atom_lv n Tryd.f44 false [[AV.pl 1000 0, AV.sl b3 [Kd.i IntKind.u8] r4 (Right.tok 500004), AV.dv (DV.val (Value.bool b5))]] (OSh.chk (OSh.plain (.tup []) [[.pl 1000 0, .slt [Kd.i IntKind.u8] 1, .b]])) 3 [] i0 (St.mk [AV.pl 1000 0, Jk, Jk, Jk, Jk, Jk, Jk, Jk, Jk, Jk, Jk, Jk, Jk, Jk, Jk, Jk, Jk, Jk, Jk, Jk, Jk, Jk, Jk, Jk, Jk, Jk, Jk, Jk, Jk, Jk, Jk, AV.sl b1 kdT r2 Right.no, AV.dv (DV.val (Value.int IntKind.i64 (↑(List.length r2) : Int))), AV.dv (DV.val (Value.int IntKind.i64 j15)), Jk, Jk, Jk, Jk, Jk, Jk, Jk, Jk, Jk, Jk, Jk, Jk, Jk, Jk, Jk, Jk, Jk, Jk, Jk, Jk, Jk, Jk, Jk] [(1000, [AV.pl 1000 0, AV.sl b10 [Kd.i IntKind.u8] r11 (Right.tok 84001), AV.dv (DV.val (Value.bool b12))])])
theorem show_printer_atom_s3 (n : Nat) (s0 : ByteArray) (b1 : Bool) (r2 : Rows) (b3 : Bool) (r4 : Rows) (b5 : Bool) (i0 : Nat) (b10 : Bool) (r11 : List (List DV)) (b12 : Bool) (j15 : Int) : show_printer_atom_l3 n s0 b1 r2 b3 r4 b5 (i0 + 1) b10 r11 b12 j15 =
  bif decide (j15 < (↑(List.length r2) : Int)) then
    if 0 ≤ j15 then
      if j15 < (↑(List.length r2) : Int) then
        bif decide (j15 > 0) then
          obind (strings_Builder_WriteString_v n (ByteArray.mk #[44, 32]) b10 r11 b12) fun y16 =>
          bif !y16.snd.fst.snd.snd.fst then
            obind (show_printer_term_v n (ByteArray.mk #[]) (Row.S (List.getD r2 (Int.toNat j15) []) 0) (Row.B (List.getD r2 (Int.toNat j15) []) 1) (Row.I (List.getD r2 (Int.toNat j15) []) 2) (Row.S (List.getD r2 (Int.toNat j15) []) 3) y16.snd.fst.snd.fst.fst y16.snd.fst.snd.fst.snd y16.snd.fst.snd.snd.fst) fun y17 =>
            show_printer_atom_l3 n s0 b1 r2 b3 r4 b5 i0 y17.snd.fst.snd.fst.fst y17.snd.fst.snd.fst.snd y17.snd.fst.snd.snd.fst (IntKind.wrap IntKind.i64 (j15 + 1))
          else show_printer_atom_l3 n s0 b1 r2 b3 r4 b5 i0 y16.snd.fst.snd.fst.fst y16.snd.fst.snd.fst.snd y16.snd.fst.snd.snd.fst (IntKind.wrap IntKind.i64 (j15 + 1))
        else bif !b12 then
          obind (show_printer_term_v n (ByteArray.mk #[]) (Row.S (List.getD r2 (Int.toNat j15) []) 0) (Row.B (List.getD r2 (Int.toNat j15) []) 1) (Row.I (List.getD r2 (Int.toNat j15) []) 2) (Row.S (List.getD r2 (Int.toNat j15) []) 3) b10 r11 b12) fun y18 =>
          show_printer_atom_l3 n s0 b1 r2 b3 r4 b5 i0 y18.snd.fst.snd.fst.fst y18.snd.fst.snd.fst.snd y18.snd.fst.snd.snd.fst (IntKind.wrap IntKind.i64 (j15 + 1))
        else show_printer_atom_l3 n s0 b1 r2 b3 r4 b5 i0 b10 r11 b12 (IntKind.wrap IntKind.i64 (j15 + 1))
      else none
    else none
  else obind (strings_Builder_WriteString_v n (ByteArray.mk #[41]) b10 r11 b12) fun y19 =>
  some ((), (((), ((y19.snd.fst.snd.fst.fst, y19.snd.fst.snd.fst.snd), (y19.snd.fst.snd.snd.fst, ()))), ())) := by kernel_rfl
theorem show_printer_atom_e (n : Nat) (s0 : ByteArray) (b1 : Bool) (r2 : Rows) (b3 : Bool) (r4 : Rows) (b5 : Bool) : show_printer_atom_v n s0 b1 r2 b3 r4 b5 =
  bif b5 then
    if ByteArray.size s0 + 1 < 4611686018427387904 then
      obind (strings_Builder_WriteString_v n (s0 ++ ByteArray.mk #[40]) b3 r4 true) fun y6 =>
      show_printer_atom_l3 n s0 b1 r2 b3 r4 b5 n y6.snd.fst.snd.fst.fst y6.snd.fst.snd.fst.snd y6.snd.fst.snd.snd.fst 0
    else none
  else obind (show_word_v n s0) fun y7 =>
  bif !y7.fst then
    if ByteArray.size s0 + 1 < 4611686018427387904 then
      obind (strings_Builder_WriteString_v n (s0 ++ ByteArray.mk #[40]) b3 r4 true) fun y8 =>
      show_printer_atom_l3 n s0 b1 r2 b3 r4 b5 n y8.snd.fst.snd.fst.fst y8.snd.fst.snd.fst.snd y8.snd.fst.snd.snd.fst 0
    else none
  else if ByteArray.size s0 + 1 < 4611686018427387904 then
    obind (strings_Builder_WriteString_v n (s0 ++ ByteArray.mk #[40]) b3 r4 (decide ((↑(List.length r2) : Int) > 4))) fun y9 =>
    show_printer_atom_l3 n s0 b1 r2 b3 r4 b5 n y9.snd.fst.snd.fst.fst y9.snd.fst.snd.fst.snd y9.snd.fst.snd.snd.fst 0
  else none := by kernel_rfl
theorem show_printer_atom_c (n : Nat) (s0 : ByteArray) (b1 : Bool) (r2 : Rows) (b3 : Bool) (r4 : Rows) (b5 : Bool) (y : Unit × (Unit × (Bool × Rows) × Bool × Unit) × Unit) (h : show_printer_atom_v n s0 b1 r2 b3 r4 b5 = some y) : Contract Tryd.prog 44 [AV.pl 1000 0, AV.dv (DV.val (Value.string s0)), AV.sl b1 kdT r2 Right.no] [[AV.pl 1000 0, AV.sl b3 [Kd.i IntKind.u8] r4 (Right.tok 500004), AV.dv (DV.val (Value.bool b5))]] (OSh.enc (OSh.plain (.tup []) [[.pl 1000 0, .slt [Kd.i IntKind.u8] 1, .b]]) y) :=
  ac (OSh.plain (.tup []) [[.pl 1000 0, .slt [Kd.i IntKind.u8] 1, .b]]) (show_printer_atom_σok n) Tryd.func44 (by decide) h
def show_printer_maybe_lv : Live := []
noncomputable def show_printer_maybe_σ (n : Nat) : Spec := (inst 42 [.pl 1000 0, .s, .agg [.s, .b, .i IntKind.i64, .s]] [[.pl 1000 0, .slt [Kd.i IntKind.u8] 500004, .b]] (OSh.plain (.tup []) [[.pl 1000 0, .slt [Kd.i IntKind.u8] 1, .b]]) (fun x e => show_printer_term_v n x.2.1 x.2.2.1.1 x.2.2.1.2.1 x.2.2.1.2.2.1 x.2.2.1.2.2.2.1 e.1.2.1.1 e.1.2.1.2 e.1.2.2.1) (inst 43 [.pl 1000 0, .s] [[.pl 1000 0, .slt [Kd.i IntKind.u8] 500003, .b]] (OSh.plain (.tup [.i IntKind.i64, .nili]) [[.pl 1000 0, .slt [Kd.i IntKind.u8] 1, .b]]) (fun x e => strings_Builder_WriteString_v n x.2.1 e.1.2.1.1 e.1.2.1.2 e.1.2.2.1) Spec.none))
theorem show_printer_maybe_σok (n : Nat) : SpecOk Tryd.prog (show_printer_maybe_σ n) := (inst_ok (fun x e y h => show_printer_term_c n x.2.1 x.2.2.1.1 x.2.2.1.2.1 x.2.2.1.2.2.1 x.2.2.1.2.2.2.1 e.1.2.1.1 e.1.2.1.2 e.1.2.2.1 y h) (inst_ok (fun x e y h => strings_Builder_WriteString_c n x.2.1 e.1.2.1.1 e.1.2.1.2 e.1.2.2.1 y h) (SpecOk.none _)))
noncomputable def show_printer_maybe_Φ (n : Nat) : Orc := with_ Tryd.prog (show_printer_maybe_σ n) [] n 0 hsL
noncomputable def show_printer_maybe_v (n : Nat) (s0 : ByteArray) (s1 : ByteArray) (b2 : Bool) (j3 : Int) (s4 : ByteArray) (s5 : ByteArray) (b6 : Bool) (r7 : Rows) (b8 : Bool) : Option (Unit × (Unit × (Bool × Rows) × Bool × Unit) × Unit) :=
  DM.denFn tm (show_printer_maybe_Φ n) show_printer_maybe_lv n Tryd.f45 false [AV.pl 1000 0, AV.dv (DV.val (Value.string s0)), AV.agg [AV.dv (DV.val (Value.string s1)), AV.dv (DV.val (Value.bool b2)), AV.dv (DV.val (Value.int IntKind.i64 j3)), AV.dv (DV.val (Value.string s4))], AV.dv (DV.val (Value.string s5))] [[AV.pl 1000 0, AV.sl b6 [Kd.i IntKind.u8] r7 (Right.tok 500005), AV.dv (DV.val (Value.bool b8))]] (OSh.chk (OSh.plain (.tup []) [[.pl 1000 0, .slt [Kd.i IntKind.u8] 1, .b]]))
theorem show_printer_maybe_e (n : Nat) (s0 : ByteArray) (s1 : ByteArray) (b2 : Bool) (j3 : Int) (s4 : ByteArray) (s5 : ByteArray) (b6 : Bool) (r7 : Rows) (b8 : Bool) : show_printer_maybe_v n s0 s1 b2 j3 s4 s5 b6 r7 b8 =
  bif !(s1 == ByteArray.mk #[] && (b2 == false && (j3 == 0 && (s4 == ByteArray.mk #[] && true)))) then
    obind (show_printer_term_v n s0 s1 b2 j3 s4 b6 r7 b8) fun y9 =>
    obind (strings_Builder_WriteString_v n s5 y9.snd.fst.snd.fst.fst y9.snd.fst.snd.fst.snd y9.snd.fst.snd.snd.fst) fun y10 =>
    some ((), (((), ((y10.snd.fst.snd.fst.fst, y10.snd.fst.snd.fst.snd), (y10.snd.fst.snd.snd.fst, ()))), ()))
  else some ((), (((), ((b6, r7), (b8, ()))), ())) := by kernel_rfl
theorem show_printer_maybe_c (n : Nat) (s0 : ByteArray) (s1 : ByteArray) (b2 : Bool) (j3 : Int) (s4 : ByteArray) (s5 : ByteArray) (b6 : Bool) (r7 : Rows) (b8 : Bool) (y : Unit × (Unit × (Bool × Rows) × Bool × Unit) × Unit) (h : show_printer_maybe_v n s0 s1 b2 j3 s4 s5 b6 r7 b8 = some y) : Contract Tryd.prog 45 [AV.pl 1000 0, AV.dv (DV.val (Value.string s0)), AV.agg [AV.dv (DV.val (Value.string s1)), AV.dv (DV.val (Value.bool b2)), AV.dv (DV.val (Value.int IntKind.i64 j3)), AV.dv (DV.val (Value.string s4))], AV.dv (DV.val (Value.string s5))] [[AV.pl 1000 0, AV.sl b6 [Kd.i IntKind.u8] r7 (Right.tok 500005), AV.dv (DV.val (Value.bool b8))]] (OSh.enc (OSh.plain (.tup []) [[.pl 1000 0, .slt [Kd.i IntKind.u8] 1, .b]]) y) :=
  ac (OSh.plain (.tup []) [[.pl 1000 0, .slt [Kd.i IntKind.u8] 1, .b]]) (show_printer_maybe_σok n) Tryd.func45 (by decide) h
def show_Rule_lv : Live := [(10, [4, 48, 49, 50], [24, 1000, 1001, 1002, 1003])]
noncomputable def show_Rule_σ (n : Nat) : Spec := (inst 42 [.pl 1000 0, .s, .agg [.s, .b, .i IntKind.i64, .s]] [[.nilp, .slt [Kd.i IntKind.u8] 500004, .b]] (OSh.plain (.tup []) [[.pl 1000 0, .slt [Kd.i IntKind.u8] 1, .b]]) (fun x e => show_printer_term_nilp_v n x.2.1 x.2.2.1.1 x.2.2.1.2.1 x.2.2.1.2.2.1 x.2.2.1.2.2.2.1 e.1.2.1.1 e.1.2.1.2 e.1.2.2.1) (inst 43 [.pl 1000 0, .s] [[.pl 1000 0, .slt [Kd.i IntKind.u8] 500003, .b]] (OSh.plain (.tup [.i IntKind.i64, .nili]) [[.pl 1000 0, .slt [Kd.i IntKind.u8] 1, .b]]) (fun x e => strings_Builder_WriteString_v n x.2.1 e.1.2.1.1 e.1.2.1.2 e.1.2.2.1) (inst 44 [.pl 1000 0, .s, .sl kdT] [[.pl 1000 0, .slt [Kd.i IntKind.u8] 500004, .b]] (OSh.plain (.tup []) [[.pl 1000 0, .slt [Kd.i IntKind.u8] 1, .b]]) (fun x e => show_printer_atom_v n x.2.1 x.2.2.1.1 x.2.2.1.2 e.1.2.1.1 e.1.2.1.2 e.1.2.2.1) (inst 45 [.pl 1000 0, .s, .agg [.s, .b, .i IntKind.i64, .s], .s] [[.pl 1000 0, .slt [Kd.i IntKind.u8] 500005, .b]] (OSh.plain (.tup []) [[.pl 1000 0, .slt [Kd.i IntKind.u8] 1, .b]]) (fun x e => show_printer_maybe_v n x.2.1 x.2.2.1.1 x.2.2.1.2.1 x.2.2.1.2.2.1 x.2.2.1.2.2.2.1 x.2.2.2.1 e.1.2.1.1 e.1.2.1.2 e.1.2.2.1) (inst 46 [.pl 1000 0] [[.pl 1000 0, .slt [Kd.i IntKind.u8] 500002, .b]] (OSh.plain (.s) [[.pl 1000 0, .sl [Kd.i IntKind.u8], .b]]) (fun x e => strings_Builder_String_v n e.1.2.1.1 e.1.2.1.2 e.1.2.2.1) Spec.none)))))
theorem show_Rule_σok (n : Nat) : SpecOk Tryd.prog (show_Rule_σ n) := (inst_ok (fun x e y h => show_printer_term_nilp_c n x.2.1 x.2.2.1.1 x.2.2.1.2.1 x.2.2.1.2.2.1 x.2.2.1.2.2.2.1 e.1.2.1.1 e.1.2.1.2 e.1.2.2.1 y h) (inst_ok (fun x e y h => strings_Builder_WriteString_c n x.2.1 e.1.2.1.1 e.1.2.1.2 e.1.2.2.1 y h) (inst_ok (fun x e y h => show_printer_atom_c n x.2.1 x.2.2.1.1 x.2.2.1.2 e.1.2.1.1 e.1.2.1.2 e.1.2.2.1 y h) (inst_ok (fun x e y h => show_printer_maybe_c n x.2.1 x.2.2.1.1 x.2.2.1.2.1 x.2.2.1.2.2.1 x.2.2.1.2.2.2.1 x.2.2.2.1 e.1.2.1.1 e.1.2.1.2 e.1.2.2.1 y h) (inst_ok (fun x e y h => strings_Builder_String_c n e.1.2.1.1 e.1.2.1.2 e.1.2.2.1 y h) (SpecOk.none _))))))
noncomputable def show_Rule_Φ (n : Nat) : Orc := with_ Tryd.prog (show_Rule_σ n) [] n 0 hsL
noncomputable def show_Rule_v (n : Nat) (s0 : ByteArray) (b1 : Bool) (j2 : Int) (s3 : ByteArray) (s4 : ByteArray) (b5 : Bool) (r6 : Rows) (s7 : ByteArray) (b8 : Bool) (j9 : Int) (s10 : ByteArray) (b11 : Bool) (r12 : Rows) : Option ((ByteArray × Int × Unit) × Unit) :=
  DM.denFn tm (show_Rule_Φ n) show_Rule_lv n Tryd.f16 false [AV.agg [AV.dv (DV.val (Value.string s0)), AV.dv (DV.val (Value.bool b1)), AV.dv (DV.val (Value.int IntKind.i64 j2)), AV.dv (DV.val (Value.string s3)), AV.dv (DV.val (Value.string s4)), AV.sl b5 kdT r6 Right.no, AV.dv (DV.val (Value.string s7)), AV.dv (DV.val (Value.bool b8)), AV.dv (DV.val (Value.int IntKind.i64 j9)), AV.dv (DV.val (Value.string s10)), AV.sl b11 kdL r12 Right.no]] [] (OSh.chk (OSh.plain (.tup [.s, .i IntKind.i64]) []))
noncomputable def show_Rule_l10 (n : Nat) (s0 : ByteArray) (b1 : Bool) (j2 : Int) (s3 : ByteArray) (s4 : ByteArray) (b5 : Bool) (r6 : Rows) (s7 : ByteArray) (b8 : Bool) (j9 : Int) (s10 : ByteArray) (b11 : Bool) (r12 : Rows) (i0 : Nat) (b18 : Bool) (r19 : List (List DV)) (b20 : Bool) (j25 : Int) : Option ((ByteArray × Int × Unit) × Unit) :=
  DM.loopFn tm (show_Rule_Φ n) show_Rule_lv n Tryd.f16 false [] (OSh.chk (OSh.plain (.tup [.s, .i IntKind.i64]) [])) 10 [] i0 (St.mk [Jk, Jk, Jk, Jk, AV.pl 24 0, Jk, Jk, Jk, Jk, Jk, Jk, Jk, Jk, Jk, Jk, Jk, Jk, Jk, Jk, Jk, Jk, Jk, Jk, Jk, Jk, Jk, Jk, Jk, Jk, Jk, Jk, Jk, Jk, Jk, Jk, Jk, Jk, Jk, Jk, Jk, Jk, Jk, Jk, Jk, Jk, Jk, Jk, Jk, AV.sl b11 kdL r12 Right.no, AV.dv (DV.val (Value.int IntKind.i64 (↑(List.length r12) : Int))), AV.dv (DV.val (Value.int IntKind.i64 j25)), Jk, Jk, Jk, Jk, Jk, Jk, Jk, Jk, Jk, Jk, Jk, Jk, Jk, Jk, Jk, Jk, Jk, Jk, Jk, Jk, Jk, Jk, Jk, Jk, Jk, Jk, Jk, Jk, Jk, Jk, Jk, Jk, Jk, Jk, Jk, Jk, Jk, Jk, Jk, Jk, Jk, Jk, Jk, Jk] [(24, [AV.pl 24 0, AV.sl b18 [Kd.i IntKind.u8] r19 (Right.tok 21537), AV.dv (DV.val (Value.bool b20))])])
theorem show_Rule_s10 (n : Nat) (s0 : ByteArray) (b1 : Bool) (j2 : Int) (s3 : ByteArray) (s4 : ByteArray) (b5 : Bool) (r6 : Rows) (s7 : ByteArray) (b8 : Bool) (j9 : Int) (s10 : ByteArray) (b11 : Bool) (r12 : Rows) (i0 : Nat) (b18 : Bool) (r19 : List (List DV)) (b20 : Bool) (j25 : Int) : show_Rule_l10 n s0 b1 j2 s3 s4 b5 r6 s7 b8 j9 s10 b11 r12 (i0 + 1) b18 r19 b20 j25 =
  bif decide (j25 < (↑(List.length r12) : Int)) then
    if 0 ≤ j25 then
      if j25 < (↑(List.length r12) : Int) then
        bif decide (j25 > 0) then
          obind (strings_Builder_WriteString_v n (ByteArray.mk #[44, 32]) b18 r19 b20) fun y26 =>
          bif y26.snd.fst.snd.snd.fst then
            some ((ByteArray.mk #[], (100, ())), ())
          else bif decide ((↑(List.length (Row.R (List.getD r12 (Int.toNat j25) []) 5)) : Int) > 4) then
            some ((ByteArray.mk #[], (100, ())), ())
          else obind (show_printer_maybe_v n (ByteArray.mk #[]) (Row.S (List.getD r12 (Int.toNat j25) []) 0) (Row.B (List.getD r12 (Int.toNat j25) []) 1) (Row.I (List.getD r12 (Int.toNat j25) []) 2) (Row.S (List.getD r12 (Int.toNat j25) []) 3) (ByteArray.mk #[32, 115, 97, 121, 115, 32]) y26.snd.fst.snd.fst.fst y26.snd.fst.snd.fst.snd y26.snd.fst.snd.snd.fst) fun y27 =>
          obind (show_printer_atom_v n (Row.S (List.getD r12 (Int.toNat j25) []) 4) (Row.N (List.getD r12 (Int.toNat j25) []) 5) (Row.R (List.getD r12 (Int.toNat j25) []) 5) y27.snd.fst.snd.fst.fst y27.snd.fst.snd.fst.snd y27.snd.fst.snd.snd.fst) fun y28 =>
          obind (show_printer_maybe_v n (ByteArray.mk #[32, 97, 116, 32]) (Row.S (List.getD r12 (Int.toNat j25) []) 6) (Row.B (List.getD r12 (Int.toNat j25) []) 7) (Row.I (List.getD r12 (Int.toNat j25) []) 8) (Row.S (List.getD r12 (Int.toNat j25) []) 9) (ByteArray.mk #[]) y28.snd.fst.snd.fst.fst y28.snd.fst.snd.fst.snd y28.snd.fst.snd.snd.fst) fun y29 =>
          show_Rule_l10 n s0 b1 j2 s3 s4 b5 r6 s7 b8 j9 s10 b11 r12 i0 y29.snd.fst.snd.fst.fst y29.snd.fst.snd.fst.snd y29.snd.fst.snd.snd.fst (IntKind.wrap IntKind.i64 (j25 + 1))
        else bif b20 then
          some ((ByteArray.mk #[], (100, ())), ())
        else bif decide ((↑(List.length (Row.R (List.getD r12 (Int.toNat j25) []) 5)) : Int) > 4) then
          some ((ByteArray.mk #[], (100, ())), ())
        else obind (show_printer_maybe_v n (ByteArray.mk #[]) (Row.S (List.getD r12 (Int.toNat j25) []) 0) (Row.B (List.getD r12 (Int.toNat j25) []) 1) (Row.I (List.getD r12 (Int.toNat j25) []) 2) (Row.S (List.getD r12 (Int.toNat j25) []) 3) (ByteArray.mk #[32, 115, 97, 121, 115, 32]) b18 r19 b20) fun y30 =>
        obind (show_printer_atom_v n (Row.S (List.getD r12 (Int.toNat j25) []) 4) (Row.N (List.getD r12 (Int.toNat j25) []) 5) (Row.R (List.getD r12 (Int.toNat j25) []) 5) y30.snd.fst.snd.fst.fst y30.snd.fst.snd.fst.snd y30.snd.fst.snd.snd.fst) fun y31 =>
        obind (show_printer_maybe_v n (ByteArray.mk #[32, 97, 116, 32]) (Row.S (List.getD r12 (Int.toNat j25) []) 6) (Row.B (List.getD r12 (Int.toNat j25) []) 7) (Row.I (List.getD r12 (Int.toNat j25) []) 8) (Row.S (List.getD r12 (Int.toNat j25) []) 9) (ByteArray.mk #[]) y31.snd.fst.snd.fst.fst y31.snd.fst.snd.fst.snd y31.snd.fst.snd.snd.fst) fun y32 =>
        show_Rule_l10 n s0 b1 j2 s3 s4 b5 r6 s7 b8 j9 s10 b11 r12 i0 y32.snd.fst.snd.fst.fst y32.snd.fst.snd.fst.snd y32.snd.fst.snd.snd.fst (IntKind.wrap IntKind.i64 (j25 + 1))
      else none
    else none
  else bif b20 then
    some ((ByteArray.mk #[], (100, ())), ())
  else obind (strings_Builder_String_v n b18 r19 b20) fun y33 =>
  if ByteArray.size y33.fst + 1 < 4611686018427387904 then
    some ((y33.fst ++ ByteArray.mk #[46], (0, ())), ())
  else none := by kernel_rfl
theorem show_Rule_e (n : Nat) (s0 : ByteArray) (b1 : Bool) (j2 : Int) (s3 : ByteArray) (s4 : ByteArray) (b5 : Bool) (r6 : Rows) (s7 : ByteArray) (b8 : Bool) (j9 : Int) (s10 : ByteArray) (b11 : Bool) (r12 : Rows) : show_Rule_v n s0 b1 j2 s3 s4 b5 r6 s7 b8 j9 s10 b11 r12 =
  bif decide ((↑(List.length r12) : Int) < 1) then
    some ((ByteArray.mk #[], (100, ())), ())
  else bif decide ((↑(List.length r12) : Int) > 4) then
    some ((ByteArray.mk #[], (100, ())), ())
  else bif decide ((↑(List.length r6) : Int) > 4) then
    some ((ByteArray.mk #[], (100, ())), ())
  else obind (show_printer_term_nilp_v n (ByteArray.mk #[]) s0 b1 j2 s3 true [] false) fun y13 =>
  obind (strings_Builder_WriteString_v n (ByteArray.mk #[58, 32]) y13.snd.fst.snd.fst.fst y13.snd.fst.snd.fst.snd y13.snd.fst.snd.snd.fst) fun y14 =>
  obind (show_printer_atom_v n s4 b5 r6 y14.snd.fst.snd.fst.fst y14.snd.fst.snd.fst.snd y14.snd.fst.snd.snd.fst) fun y15 =>
  obind (show_printer_maybe_v n (ByteArray.mk #[32, 116, 111, 32]) s7 b8 j9 s10 (ByteArray.mk #[]) y15.snd.fst.snd.fst.fst y15.snd.fst.snd.fst.snd y15.snd.fst.snd.snd.fst) fun y16 =>
  obind (strings_Builder_WriteString_v n (ByteArray.mk #[32, 58, 45, 32]) y16.snd.fst.snd.fst.fst y16.snd.fst.snd.fst.snd y16.snd.fst.snd.snd.fst) fun y17 =>
  show_Rule_l10 n s0 b1 j2 s3 s4 b5 r6 s7 b8 j9 s10 b11 r12 n y17.snd.fst.snd.fst.fst y17.snd.fst.snd.fst.snd y17.snd.fst.snd.snd.fst 0 := by kernel_rfl
theorem show_Rule_c (n : Nat) (s0 : ByteArray) (b1 : Bool) (j2 : Int) (s3 : ByteArray) (s4 : ByteArray) (b5 : Bool) (r6 : Rows) (s7 : ByteArray) (b8 : Bool) (j9 : Int) (s10 : ByteArray) (b11 : Bool) (r12 : Rows) (y : (ByteArray × Int × Unit) × Unit) (h : show_Rule_v n s0 b1 j2 s3 s4 b5 r6 s7 b8 j9 s10 b11 r12 = some y) : Contract Tryd.prog 16 [AV.agg [AV.dv (DV.val (Value.string s0)), AV.dv (DV.val (Value.bool b1)), AV.dv (DV.val (Value.int IntKind.i64 j2)), AV.dv (DV.val (Value.string s3)), AV.dv (DV.val (Value.string s4)), AV.sl b5 kdT r6 Right.no, AV.dv (DV.val (Value.string s7)), AV.dv (DV.val (Value.bool b8)), AV.dv (DV.val (Value.int IntKind.i64 j9)), AV.dv (DV.val (Value.string s10)), AV.sl b11 kdL r12 Right.no]] [] (OSh.enc (OSh.plain (.tup [.s, .i IntKind.i64]) []) y) :=
  ac (OSh.plain (.tup [.s, .i IntKind.i64]) []) (show_Rule_σok n) Tryd.func16 (by decide) h
def show_Program_lv : Live := [(5, [4, 12, 13, 14], [1000, 1001, 1002, 1003])]
noncomputable def show_Program_σ (n : Nat) : Spec := (inst 16 [.agg [.s, .b, .i IntKind.i64, .s, .s, .sl kdT, .s, .b, .i IntKind.i64, .s, .sl kdL]] [] (OSh.plain (.tup [.s, .i IntKind.i64]) []) (fun x e => show_Rule_v n x.1.1 x.1.2.1 x.1.2.2.1 x.1.2.2.2.1 x.1.2.2.2.2.1 x.1.2.2.2.2.2.1.1 x.1.2.2.2.2.2.1.2 x.1.2.2.2.2.2.2.1 x.1.2.2.2.2.2.2.2.1 x.1.2.2.2.2.2.2.2.2.1 x.1.2.2.2.2.2.2.2.2.2.1 x.1.2.2.2.2.2.2.2.2.2.2.1.1 x.1.2.2.2.2.2.2.2.2.2.2.1.2) Spec.none)
theorem show_Program_σok (n : Nat) : SpecOk Tryd.prog (show_Program_σ n) := (inst_ok (fun x e y h => show_Rule_c n x.1.1 x.1.2.1 x.1.2.2.1 x.1.2.2.2.1 x.1.2.2.2.2.1 x.1.2.2.2.2.2.1.1 x.1.2.2.2.2.2.1.2 x.1.2.2.2.2.2.2.1 x.1.2.2.2.2.2.2.2.1 x.1.2.2.2.2.2.2.2.2.1 x.1.2.2.2.2.2.2.2.2.2.1 x.1.2.2.2.2.2.2.2.2.2.2.1.1 x.1.2.2.2.2.2.2.2.2.2.2.1.2 y h) (SpecOk.none _))
noncomputable def show_Program_Φ (n : Nat) : Orc := with_ Tryd.prog (show_Program_σ n) [] n 0 hsL
noncomputable def show_Program_v (n : Nat) (b0 : Bool) (r1 : Rows) : Option ((ByteArray × Int × Unit) × Unit) :=
  DM.denFn tm (show_Program_Φ n) show_Program_lv n Tryd.f20 false [AV.sl b0 kdR r1 Right.no] [] (OSh.chk (OSh.plain (.tup [.s, .i IntKind.i64]) []))
noncomputable def show_Program_l5 (n : Nat) (b0 : Bool) (r1 : Rows) (i0 : Nat) (s3 : ByteArray) (j4 : Int) : Option ((ByteArray × Int × Unit) × Unit) :=
  DM.loopFn tm (show_Program_Φ n) show_Program_lv n Tryd.f20 false [] (OSh.chk (OSh.plain (.tup [.s, .i IntKind.i64]) [])) 5 [] i0 (St.mk [Jk, Jk, Jk, Jk, AV.dv (DV.val (Value.string s3)), Jk, Jk, Jk, Jk, Jk, Jk, Jk, AV.sl b0 kdR r1 Right.no, AV.dv (DV.val (Value.int IntKind.i64 (↑(List.length r1) : Int))), AV.dv (DV.val (Value.int IntKind.i64 j4)), Jk, Jk, Jk, Jk, Jk, Jk, Jk, Jk, Jk, Jk, Jk, Jk, Jk, Jk, Jk, Jk, Jk, Jk, Jk, Jk] [])
theorem show_Program_s5 (n : Nat) (b0 : Bool) (r1 : Rows) (i0 : Nat) (s3 : ByteArray) (j4 : Int) : show_Program_l5 n b0 r1 (i0 + 1) s3 j4 =
  bif decide (j4 < (↑(List.length r1) : Int)) then
    if 0 ≤ j4 then
      if j4 < (↑(List.length r1) : Int) then
        obind (show_Rule_v n (Row.S (List.getD r1 (Int.toNat j4) []) 0) (Row.B (List.getD r1 (Int.toNat j4) []) 1) (Row.I (List.getD r1 (Int.toNat j4) []) 2) (Row.S (List.getD r1 (Int.toNat j4) []) 3) (Row.S (List.getD r1 (Int.toNat j4) []) 4) (Row.N (List.getD r1 (Int.toNat j4) []) 5) (Row.R (List.getD r1 (Int.toNat j4) []) 5) (Row.S (List.getD r1 (Int.toNat j4) []) 6) (Row.B (List.getD r1 (Int.toNat j4) []) 7) (Row.I (List.getD r1 (Int.toNat j4) []) 8) (Row.S (List.getD r1 (Int.toNat j4) []) 9) (Row.N (List.getD r1 (Int.toNat j4) []) 10) (Row.R (List.getD r1 (Int.toNat j4) []) 10)) fun y5 =>
        bif y5.fst.snd.fst != 0 then
          some ((ByteArray.mk #[], (y5.fst.snd.fst, ())), ())
        else if ByteArray.size y5.fst.fst + 1 < 4611686018427387904 then
          if ByteArray.size s3 + ByteArray.size (y5.fst.fst ++ ByteArray.mk #[10]) < 4611686018427387904 then
            show_Program_l5 n b0 r1 i0 (s3 ++ (y5.fst.fst ++ ByteArray.mk #[10])) (IntKind.wrap IntKind.i64 (j4 + 1))
          else none
        else none
      else none
    else none
  else bif decide ((↑(ByteArray.size s3) : Int) > 4096) then
    some ((ByteArray.mk #[], (3, ())), ())
  else some ((s3, (0, ())), ()) := by kernel_rfl
theorem show_Program_e (n : Nat) (b0 : Bool) (r1 : Rows) : show_Program_v n b0 r1 =
  bif decide ((↑(List.length r1) : Int) > 16) then
    some ((ByteArray.mk #[], (81, ())), ())
  else show_Program_l5 n b0 r1 n (ByteArray.mk #[]) 0 := by kernel_rfl
theorem show_Program_c (n : Nat) (b0 : Bool) (r1 : Rows) (y : (ByteArray × Int × Unit) × Unit) (h : show_Program_v n b0 r1 = some y) : Contract Tryd.prog 20 [AV.sl b0 kdR r1 Right.no] [] (OSh.enc (OSh.plain (.tup [.s, .i IntKind.i64]) []) y) :=
  ac (OSh.plain (.tup [.s, .i IntKind.i64]) []) (show_Program_σok n) Tryd.func20 (by decide) h
def ref09_letter_lv : Live := []
noncomputable def ref09_letter_σ (n : Nat) : Spec := Spec.none
theorem ref09_letter_σok (n : Nat) : SpecOk Tryd.prog (ref09_letter_σ n) := (SpecOk.none _)
noncomputable def ref09_letter_Φ (n : Nat) : Orc := with_ Tryd.prog (ref09_letter_σ n) [] n 0 hsL
noncomputable def ref09_letter_v (n : Nat) (j0 : Int) (j1 : Int) (j2 : Int) : Option (Bool × Unit) :=
  DM.denFn tm (ref09_letter_Φ n) ref09_letter_lv n Tryd.f65 false [AV.dv (DV.val (Value.int IntKind.u8 j0)), AV.dv (DV.val (Value.int IntKind.u8 j1)), AV.dv (DV.val (Value.int IntKind.u8 j2))] [] (OSh.chk (OSh.plain (.b) []))
theorem ref09_letter_e (n : Nat) (j0 : Int) (j1 : Int) (j2 : Int) : ref09_letter_v n j0 j1 j2 =
  bif decide (j0 ≥ j1) then
    some (decide (j0 ≤ j2), ())
  else some (false, ()) := by kernel_rfl
theorem ref09_letter_c (n : Nat) (j0 : Int) (j1 : Int) (j2 : Int) (y : Bool × Unit) (h : ref09_letter_v n j0 j1 j2 = some y) : Contract Tryd.prog 65 [AV.dv (DV.val (Value.int IntKind.u8 j0)), AV.dv (DV.val (Value.int IntKind.u8 j1)), AV.dv (DV.val (Value.int IntKind.u8 j2))] [] (OSh.enc (OSh.plain (.b) []) y) :=
  ac (OSh.plain (.b) []) (ref09_letter_σok n) Tryd.func65 (by decide) h
def ref07_small_lv : Live := []
noncomputable def ref07_small_σ (n : Nat) : Spec := Spec.none
theorem ref07_small_σok (n : Nat) : SpecOk Tryd.prog (ref07_small_σ n) := (SpecOk.none _)
noncomputable def ref07_small_Φ (n : Nat) : Orc := with_ Tryd.prog (ref07_small_σ n) [] n 0 hsL
noncomputable def ref07_small_v (n : Nat) (j0 : Int) : Option (Bool × Unit) :=
  DM.denFn tm (ref07_small_Φ n) ref07_small_lv n Tryd.f87 false [AV.dv (DV.val (Value.int IntKind.u8 j0))] [] (OSh.chk (OSh.plain (.b) []))
theorem ref07_small_e (n : Nat) (j0 : Int) : ref07_small_v n j0 =
  bif decide (j0 ≥ 97) then
    some (decide (j0 ≤ 122), ())
  else some (false, ()) := by kernel_rfl
theorem ref07_small_c (n : Nat) (j0 : Int) (y : Bool × Unit) (h : ref07_small_v n j0 = some y) : Contract Tryd.prog 87 [AV.dv (DV.val (Value.int IntKind.u8 j0))] [] (OSh.enc (OSh.plain (.b) []) y) :=
  ac (OSh.plain (.b) []) (ref07_small_σok n) Tryd.func87 (by decide) h
def ref07_great_lv : Live := []
noncomputable def ref07_great_σ (n : Nat) : Spec := Spec.none
theorem ref07_great_σok (n : Nat) : SpecOk Tryd.prog (ref07_great_σ n) := (SpecOk.none _)
noncomputable def ref07_great_Φ (n : Nat) : Orc := with_ Tryd.prog (ref07_great_σ n) [] n 0 hsL
noncomputable def ref07_great_v (n : Nat) (j0 : Int) : Option (Bool × Unit) :=
  DM.denFn tm (ref07_great_Φ n) ref07_great_lv n Tryd.f88 false [AV.dv (DV.val (Value.int IntKind.u8 j0))] [] (OSh.chk (OSh.plain (.b) []))
theorem ref07_great_e (n : Nat) (j0 : Int) : ref07_great_v n j0 =
  bif decide (j0 ≥ 65) then
    some (decide (j0 ≤ 90), ())
  else some (false, ()) := by kernel_rfl
theorem ref07_great_c (n : Nat) (j0 : Int) (y : Bool × Unit) (h : ref07_great_v n j0 = some y) : Contract Tryd.prog 88 [AV.dv (DV.val (Value.int IntKind.u8 j0))] [] (OSh.enc (OSh.plain (.b) []) y) :=
  ac (OSh.plain (.b) []) (ref07_great_σok n) Tryd.func88 (by decide) h
def ref07_digit_lv : Live := []
noncomputable def ref07_digit_σ (n : Nat) : Spec := Spec.none
theorem ref07_digit_σok (n : Nat) : SpecOk Tryd.prog (ref07_digit_σ n) := (SpecOk.none _)
noncomputable def ref07_digit_Φ (n : Nat) : Orc := with_ Tryd.prog (ref07_digit_σ n) [] n 0 hsL
noncomputable def ref07_digit_v (n : Nat) (j0 : Int) : Option (Bool × Unit) :=
  DM.denFn tm (ref07_digit_Φ n) ref07_digit_lv n Tryd.f89 false [AV.dv (DV.val (Value.int IntKind.u8 j0))] [] (OSh.chk (OSh.plain (.b) []))
theorem ref07_digit_e (n : Nat) (j0 : Int) : ref07_digit_v n j0 =
  bif decide (j0 ≥ 48) then
    some (decide (j0 ≤ 57), ())
  else some (false, ()) := by kernel_rfl
theorem ref07_digit_c (n : Nat) (j0 : Int) (y : Bool × Unit) (h : ref07_digit_v n j0 = some y) : Contract Tryd.prog 89 [AV.dv (DV.val (Value.int IntKind.u8 j0))] [] (OSh.enc (OSh.plain (.b) []) y) :=
  ac (OSh.plain (.b) []) (ref07_digit_σok n) Tryd.func89 (by decide) h
def ref07_Inner_lv : Live := []
noncomputable def ref07_Inner_σ (n : Nat) : Spec := (inst 87 [.i IntKind.u8] [] (OSh.plain (.b) []) (fun x e => ref07_small_v n x.1) (inst 88 [.i IntKind.u8] [] (OSh.plain (.b) []) (fun x e => ref07_great_v n x.1) (inst 89 [.i IntKind.u8] [] (OSh.plain (.b) []) (fun x e => ref07_digit_v n x.1) Spec.none)))
theorem ref07_Inner_σok (n : Nat) : SpecOk Tryd.prog (ref07_Inner_σ n) := (inst_ok (fun x e y h => ref07_small_c n x.1 y h) (inst_ok (fun x e y h => ref07_great_c n x.1 y h) (inst_ok (fun x e y h => ref07_digit_c n x.1 y h) (SpecOk.none _))))
noncomputable def ref07_Inner_Φ (n : Nat) : Orc := with_ Tryd.prog (ref07_Inner_σ n) [] n 0 hsL
noncomputable def ref07_Inner_v (n : Nat) (j0 : Int) : Option (Bool × Unit) :=
  DM.denFn tm (ref07_Inner_Φ n) ref07_Inner_lv n Tryd.f66 false [AV.dv (DV.val (Value.int IntKind.u8 j0))] [] (OSh.chk (OSh.plain (.b) []))
theorem ref07_Inner_e (n : Nat) (j0 : Int) : ref07_Inner_v n j0 =
  obind (ref07_small_v n j0) fun y1 =>
  bif y1.fst then
    some (true, ())
  else obind (ref07_great_v n j0) fun y2 =>
  bif y2.fst then
    some (true, ())
  else obind (ref07_digit_v n j0) fun y3 =>
  bif y3.fst then
    some (true, ())
  else some (j0 == 95, ()) := by kernel_rfl
theorem ref07_Inner_c (n : Nat) (j0 : Int) (y : Bool × Unit) (h : ref07_Inner_v n j0 = some y) : Contract Tryd.prog 66 [AV.dv (DV.val (Value.int IntKind.u8 j0))] [] (OSh.enc (OSh.plain (.b) []) y) :=
  ac (OSh.plain (.b) []) (ref07_Inner_σok n) Tryd.func66 (by decide) h
def ref09_named_lv : Live := [(4, [0, 7], [1000, 1001, 1002, 1003])]
noncomputable def ref09_named_σ (n : Nat) : Spec := (inst 65 [.i IntKind.u8, .i IntKind.u8, .i IntKind.u8] [] (OSh.plain (.b) []) (fun x e => ref09_letter_v n x.1 x.2.1 x.2.2.1) (inst 66 [.i IntKind.u8] [] (OSh.plain (.b) []) (fun x e => ref07_Inner_v n x.1) Spec.none))
theorem ref09_named_σok (n : Nat) : SpecOk Tryd.prog (ref09_named_σ n) := (inst_ok (fun x e y h => ref09_letter_c n x.1 x.2.1 x.2.2.1 y h) (inst_ok (fun x e y h => ref07_Inner_c n x.1 y h) (SpecOk.none _)))
noncomputable def ref09_named_Φ (n : Nat) : Orc := with_ Tryd.prog (ref09_named_σ n) [] n 0 hsL
noncomputable def ref09_named_v (n : Nat) (s0 : ByteArray) (j1 : Int) (j2 : Int) : Option (Bool × Unit) :=
  DM.denFn tm (ref09_named_Φ n) ref09_named_lv n Tryd.f38 false [AV.dv (DV.val (Value.string s0)), AV.dv (DV.val (Value.int IntKind.u8 j1)), AV.dv (DV.val (Value.int IntKind.u8 j2))] [] (OSh.chk (OSh.plain (.b) []))
noncomputable def ref09_named_l4 (n : Nat) (s0 : ByteArray) (j1 : Int) (j2 : Int) (i0 : Nat) (j5 : Int) : Option (Bool × Unit) :=
  DM.loopFn tm (ref09_named_Φ n) ref09_named_lv n Tryd.f38 false [] (OSh.chk (OSh.plain (.b) [])) 4 [] i0 (St.mk [AV.dv (DV.val (Value.string s0)), Jk, Jk, Jk, Jk, Jk, Jk, AV.dv (DV.val (Value.int IntKind.i64 j5)), Jk, Jk, Jk, Jk, Jk, Jk, Jk, Jk, Jk, Jk, Jk, Jk, Jk, Jk, Jk, Jk, Jk, Jk, Jk, Jk, Jk, Jk, Jk, Jk, Jk, Jk, Jk] [])
theorem ref09_named_s4 (n : Nat) (s0 : ByteArray) (j1 : Int) (j2 : Int) (i0 : Nat) (j5 : Int) : ref09_named_l4 n s0 j1 j2 (i0 + 1) j5 =
  bif decide (j5 < (↑(ByteArray.size s0) : Int)) then
    if 0 ≤ j5 then
      if j5 < (↑(ByteArray.size s0) : Int) then
        obind (ref07_Inner_v n (bt s0 j5)) fun y6 =>
        bif !y6.fst then
          some (false, ())
        else ref09_named_l4 n s0 j1 j2 i0 (IntKind.wrap IntKind.i64 (j5 + 1))
      else none
    else none
  else some (true, ()) := by kernel_rfl
theorem ref09_named_e (n : Nat) (s0 : ByteArray) (j1 : Int) (j2 : Int) : ref09_named_v n s0 j1 j2 =
  bif decide ((↑(ByteArray.size s0) : Int) < 1) then
    some (false, ())
  else bif decide ((↑(ByteArray.size s0) : Int) > 32) then
    some (false, ())
  else if 0 < (↑(ByteArray.size s0) : Int) then
    obind (ref09_letter_v n (bt s0 0) j1 j2) fun y3 =>
    bif !y3.fst then
      some (false, ())
    else ref09_named_l4 n s0 j1 j2 n 0
  else none := by kernel_rfl
theorem ref09_named_c (n : Nat) (s0 : ByteArray) (j1 : Int) (j2 : Int) (y : Bool × Unit) (h : ref09_named_v n s0 j1 j2 = some y) : Contract Tryd.prog 38 [AV.dv (DV.val (Value.string s0)), AV.dv (DV.val (Value.int IntKind.u8 j1)), AV.dv (DV.val (Value.int IntKind.u8 j2))] [] (OSh.enc (OSh.plain (.b) []) y) :=
  ac (OSh.plain (.b) []) (ref09_named_σok n) Tryd.func38 (by decide) h
def ref09_Digits_lv : Live := [(3, [0, 3, 4], [1000, 1001, 1002, 1003])]
noncomputable def ref09_Digits_σ (n : Nat) : Spec := Spec.none
theorem ref09_Digits_σok (n : Nat) : SpecOk Tryd.prog (ref09_Digits_σ n) := (SpecOk.none _)
noncomputable def ref09_Digits_Φ (n : Nat) : Orc := with_ Tryd.prog (ref09_Digits_σ n) [] n 0 hsL
noncomputable def ref09_Digits_v (n : Nat) (j0 : Int) : Option (ByteArray × Unit) :=
  DM.denFn tm (ref09_Digits_Φ n) ref09_Digits_lv n Tryd.f39 false [AV.dv (DV.val (Value.int IntKind.i64 j0))] [] (OSh.chk (OSh.plain (.s) []))
noncomputable def ref09_Digits_l3 (n : Nat) (j0 : Int) (i0 : Nat) (s1 : ByteArray) (j2 : Int) : Option (ByteArray × Unit) :=
  DM.loopFn tm (ref09_Digits_Φ n) ref09_Digits_lv n Tryd.f39 false [] (OSh.chk (OSh.plain (.s) [])) 3 [] i0 (St.mk [AV.dv (DV.val (Value.int IntKind.i64 j0)), Jk, Jk, AV.dv (DV.val (Value.string s1)), AV.dv (DV.val (Value.int IntKind.i64 j2)), Jk, Jk, Jk, Jk, Jk, Jk, Jk, Jk, Jk, Jk, Jk, Jk, Jk, Jk, Jk, Jk, Jk, Jk, Jk, Jk, Jk, Jk, Jk, Jk, Jk, Jk, Jk, Jk] [])
theorem ref09_Digits_s3 (n : Nat) (j0 : Int) (i0 : Nat) (s1 : ByteArray) (j2 : Int) : ref09_Digits_l3 n j0 (i0 + 1) s1 j2 =
  bif j2 != 0 then
    bif decide (Int.tmod j2 10 < 0) then
      if ByteArray.size (bytesOf [[DV.val (Value.int IntKind.u8 (IntKind.wrap IntKind.u8 (IntKind.wrap IntKind.i64 (48 + IntKind.wrap IntKind.i64 (0 - Int.tmod j2 10)))))]]) + ByteArray.size s1 < 4611686018427387904 then
        ref09_Digits_l3 n j0 i0 (bytesOf [[DV.val (Value.int IntKind.u8 (IntKind.wrap IntKind.u8 (IntKind.wrap IntKind.i64 (48 + IntKind.wrap IntKind.i64 (0 - Int.tmod j2 10)))))]] ++ s1) (IntKind.wrap IntKind.i64 (Int.tdiv j2 10))
      else none
    else if ByteArray.size (bytesOf [[DV.val (Value.int IntKind.u8 (IntKind.wrap IntKind.u8 (IntKind.wrap IntKind.i64 (48 + Int.tmod j2 10))))]]) + ByteArray.size s1 < 4611686018427387904 then
      ref09_Digits_l3 n j0 i0 (bytesOf [[DV.val (Value.int IntKind.u8 (IntKind.wrap IntKind.u8 (IntKind.wrap IntKind.i64 (48 + Int.tmod j2 10))))]] ++ s1) (IntKind.wrap IntKind.i64 (Int.tdiv j2 10))
    else none
  else bif s1 == ByteArray.mk #[] then
    bif decide (Int.tmod j2 10 < 0) then
      if ByteArray.size (bytesOf [[DV.val (Value.int IntKind.u8 (IntKind.wrap IntKind.u8 (IntKind.wrap IntKind.i64 (48 + IntKind.wrap IntKind.i64 (0 - Int.tmod j2 10)))))]]) + ByteArray.size s1 < 4611686018427387904 then
        ref09_Digits_l3 n j0 i0 (bytesOf [[DV.val (Value.int IntKind.u8 (IntKind.wrap IntKind.u8 (IntKind.wrap IntKind.i64 (48 + IntKind.wrap IntKind.i64 (0 - Int.tmod j2 10)))))]] ++ s1) (IntKind.wrap IntKind.i64 (Int.tdiv j2 10))
      else none
    else if ByteArray.size (bytesOf [[DV.val (Value.int IntKind.u8 (IntKind.wrap IntKind.u8 (IntKind.wrap IntKind.i64 (48 + Int.tmod j2 10))))]]) + ByteArray.size s1 < 4611686018427387904 then
      ref09_Digits_l3 n j0 i0 (bytesOf [[DV.val (Value.int IntKind.u8 (IntKind.wrap IntKind.u8 (IntKind.wrap IntKind.i64 (48 + Int.tmod j2 10))))]] ++ s1) (IntKind.wrap IntKind.i64 (Int.tdiv j2 10))
    else none
  else bif decide (j0 < 0) then
    if 1 + ByteArray.size s1 < 4611686018427387904 then
      some (ByteArray.mk #[45] ++ s1, ())
    else none
  else some (s1, ()) := by kernel_rfl
theorem ref09_Digits_e (n : Nat) (j0 : Int) : ref09_Digits_v n j0 =
  ref09_Digits_l3 n j0 n (ByteArray.mk #[]) j0 := by kernel_rfl
theorem ref09_Digits_c (n : Nat) (j0 : Int) (y : ByteArray × Unit) (h : ref09_Digits_v n j0 = some y) : Contract Tryd.prog 39 [AV.dv (DV.val (Value.int IntKind.i64 j0))] [] (OSh.enc (OSh.plain (.s) []) y) :=
  ac (OSh.plain (.s) []) (ref09_Digits_σok n) Tryd.func39 (by decide) h
def ref07_Plain_lv : Live := []
noncomputable def ref07_Plain_σ (n : Nat) : Spec := Spec.none
theorem ref07_Plain_σok (n : Nat) : SpecOk Tryd.prog (ref07_Plain_σ n) := (SpecOk.none _)
noncomputable def ref07_Plain_Φ (n : Nat) : Orc := with_ Tryd.prog (ref07_Plain_σ n) [] n 0 hsL
noncomputable def ref07_Plain_v (n : Nat) (j0 : Int) : Option (Bool × Unit) :=
  DM.denFn tm (ref07_Plain_Φ n) ref07_Plain_lv n Tryd.f40 false [AV.dv (DV.val (Value.int IntKind.u8 j0))] [] (OSh.chk (OSh.plain (.b) []))
theorem ref07_Plain_e (n : Nat) (j0 : Int) : ref07_Plain_v n j0 =
  bif decide (j0 ≥ 32) then
    bif decide (j0 ≤ 126) then
      bif j0 != 34 then
        some (j0 != 92, ())
      else some (false, ())
    else some (false, ())
  else some (false, ()) := by kernel_rfl
theorem ref07_Plain_c (n : Nat) (j0 : Int) (y : Bool × Unit) (h : ref07_Plain_v n j0 = some y) : Contract Tryd.prog 40 [AV.dv (DV.val (Value.int IntKind.u8 j0))] [] (OSh.enc (OSh.plain (.b) []) y) :=
  ac (OSh.plain (.b) []) (ref07_Plain_σok n) Tryd.func40 (by decide) h
def ref08_Kept_lv : Live := []
noncomputable def ref08_Kept_σ (n : Nat) : Spec := Spec.none
theorem ref08_Kept_σok (n : Nat) : SpecOk Tryd.prog (ref08_Kept_σ n) := (SpecOk.none _)
noncomputable def ref08_Kept_Φ (n : Nat) : Orc := with_ Tryd.prog (ref08_Kept_σ n) [] n 0 hsL
noncomputable def ref08_Kept_v (n : Nat) (s0 : ByteArray) : Option (Bool × Unit) :=
  DM.denFn tm (ref08_Kept_Φ n) ref08_Kept_lv n Tryd.f18 false [AV.dv (DV.val (Value.string s0))] [] (OSh.chk (OSh.plain (.b) []))
theorem ref08_Kept_e (n : Nat) (s0 : ByteArray) : ref08_Kept_v n s0 =
  bif s0 == ByteArray.mk #[115, 97, 121, 115] then
    some (true, ())
  else bif s0 == ByteArray.mk #[116, 111] then
    some (true, ())
  else some (s0 == ByteArray.mk #[97, 116], ()) := by kernel_rfl
theorem ref08_Kept_c (n : Nat) (s0 : ByteArray) (y : Bool × Unit) (h : ref08_Kept_v n s0 = some y) : Contract Tryd.prog 18 [AV.dv (DV.val (Value.string s0))] [] (OSh.enc (OSh.plain (.b) []) y) :=
  ac (OSh.plain (.b) []) (ref08_Kept_σok n) Tryd.func18 (by decide) h
def ref09_Word_lv : Live := []
noncomputable def ref09_Word_σ (n : Nat) : Spec := (inst 38 [.s, .i IntKind.u8, .i IntKind.u8] [] (OSh.plain (.b) []) (fun x e => ref09_named_v n x.1 x.2.1 x.2.2.1) (inst 18 [.s] [] (OSh.plain (.b) []) (fun x e => ref08_Kept_v n x.1) Spec.none))
theorem ref09_Word_σok (n : Nat) : SpecOk Tryd.prog (ref09_Word_σ n) := (inst_ok (fun x e y h => ref09_named_c n x.1 x.2.1 x.2.2.1 y h) (inst_ok (fun x e y h => ref08_Kept_c n x.1 y h) (SpecOk.none _)))
noncomputable def ref09_Word_Φ (n : Nat) : Orc := with_ Tryd.prog (ref09_Word_σ n) [] n 0 hsL
noncomputable def ref09_Word_v (n : Nat) (s0 : ByteArray) : Option (Bool × Unit) :=
  DM.denFn tm (ref09_Word_Φ n) ref09_Word_lv n Tryd.f41 false [AV.dv (DV.val (Value.string s0))] [] (OSh.chk (OSh.plain (.b) []))
theorem ref09_Word_e (n : Nat) (s0 : ByteArray) : ref09_Word_v n s0 =
  obind (ref09_named_v n s0 97 122) fun y1 =>
  bif y1.fst then
    obind (ref08_Kept_v n s0) fun y2 =>
    some (!y2.fst, ())
  else some (false, ()) := by kernel_rfl
theorem ref09_Word_c (n : Nat) (s0 : ByteArray) (y : Bool × Unit) (h : ref09_Word_v n s0 = some y) : Contract Tryd.prog 41 [AV.dv (DV.val (Value.string s0))] [] (OSh.enc (OSh.plain (.b) []) y) :=
  ac (OSh.plain (.b) []) (ref09_Word_σok n) Tryd.func41 (by decide) h
def ref09_Term_lv : Live := [(13, [4, 5], [4, 1000, 1001, 1002, 1003])]
noncomputable def ref09_Term_σ (n : Nat) : Spec := (inst 38 [.s, .i IntKind.u8, .i IntKind.u8] [] (OSh.plain (.b) []) (fun x e => ref09_named_v n x.1 x.2.1 x.2.2.1) (inst 39 [.i IntKind.i64] [] (OSh.plain (.s) []) (fun x e => ref09_Digits_v n x.1) (inst 40 [.i IntKind.u8] [] (OSh.plain (.b) []) (fun x e => ref07_Plain_v n x.1) (inst 41 [.s] [] (OSh.plain (.b) []) (fun x e => ref09_Word_v n x.1) Spec.none))))
theorem ref09_Term_σok (n : Nat) : SpecOk Tryd.prog (ref09_Term_σ n) := (inst_ok (fun x e y h => ref09_named_c n x.1 x.2.1 x.2.2.1 y h) (inst_ok (fun x e y h => ref09_Digits_c n x.1 y h) (inst_ok (fun x e y h => ref07_Plain_c n x.1 y h) (inst_ok (fun x e y h => ref09_Word_c n x.1 y h) (SpecOk.none _)))))
noncomputable def ref09_Term_Φ (n : Nat) : Orc := with_ Tryd.prog (ref09_Term_σ n) [] n 0 hsL
noncomputable def ref09_Term_v (n : Nat) (s0 : ByteArray) (b1 : Bool) (j2 : Int) (s3 : ByteArray) : Option ((ByteArray × Int × Unit) × Unit) :=
  DM.denFn tm (ref09_Term_Φ n) ref09_Term_lv n Tryd.f14 false [AV.agg [AV.dv (DV.val (Value.string s0)), AV.dv (DV.val (Value.bool b1)), AV.dv (DV.val (Value.int IntKind.i64 j2)), AV.dv (DV.val (Value.string s3))]] [] (OSh.chk (OSh.plain (.tup [.s, .i IntKind.i64]) []))
noncomputable def ref09_Term_l13 (n : Nat) (s0 : ByteArray) (b1 : Bool) (j2 : Int) (s3 : ByteArray) (i0 : Nat) (j8 : Int) : Option ((ByteArray × Int × Unit) × Unit) :=
  DM.loopFn tm (ref09_Term_Φ n) ref09_Term_lv n Tryd.f14 false [] (OSh.chk (OSh.plain (.tup [.s, .i IntKind.i64]) [])) 13 [] i0 (St.mk [Jk, Jk, Jk, Jk, AV.pl 4 0, AV.dv (DV.val (Value.int IntKind.i64 j8)), Jk, Jk, Jk, Jk, Jk, Jk, Jk, Jk, Jk, Jk, Jk, Jk, Jk, Jk, Jk, Jk, Jk, Jk, Jk, Jk, Jk, Jk, Jk, Jk, Jk, Jk, Jk, Jk, Jk, Jk, Jk, Jk, Jk, Jk, Jk, Jk, Jk, Jk, Jk, Jk, Jk, Jk, Jk, Jk, Jk, Jk, Jk, Jk, Jk, Jk, Jk, Jk, Jk, Jk, Jk, Jk, Jk, Jk, Jk, Jk, Jk, Jk] [(4, [AV.dv (DV.val (Value.bool b1)), AV.dv (DV.val (Value.int IntKind.i64 j2)), AV.dv (DV.val (Value.string s3))])])
theorem ref09_Term_s13 (n : Nat) (s0 : ByteArray) (b1 : Bool) (j2 : Int) (s3 : ByteArray) (i0 : Nat) (j8 : Int) : ref09_Term_l13 n s0 b1 j2 s3 (i0 + 1) j8 =
  bif decide (j8 < (↑(ByteArray.size s3) : Int)) then
    if 0 ≤ j8 then
      if j8 < (↑(ByteArray.size s3) : Int) then
        obind (ref07_Plain_v n (bt s3 j8)) fun y9 =>
        bif !y9.fst then
          some ((ByteArray.mk #[], (100, ())), ())
        else ref09_Term_l13 n s0 b1 j2 s3 i0 (IntKind.wrap IntKind.i64 (j8 + 1))
      else none
    else none
  else obind (ref09_Word_v n s3) fun y10 =>
  bif y10.fst then
    some ((s3, (0, ())), ())
  else if 1 + ByteArray.size s3 < 4611686018427387904 then
    if ByteArray.size (ByteArray.mk #[34] ++ s3) + 1 < 4611686018427387904 then
      some ((ByteArray.mk #[34] ++ s3 ++ ByteArray.mk #[34], (0, ())), ())
    else none
  else none := by kernel_rfl
theorem ref09_Term_e (n : Nat) (s0 : ByteArray) (b1 : Bool) (j2 : Int) (s3 : ByteArray) : ref09_Term_v n s0 b1 j2 s3 =
  bif !s0 == ByteArray.mk #[] then
    bif !(b1 == false && (j2 == 0 && (s3 == ByteArray.mk #[] && true))) then
      some ((ByteArray.mk #[], (100, ())), ())
    else obind (ref09_named_v n s0 65 90) fun y4 =>
    bif !y4.fst then
      some ((ByteArray.mk #[], (100, ())), ())
    else some ((s0, (0, ())), ())
  else bif b1 then
    bif !s3 == ByteArray.mk #[] then
      some ((ByteArray.mk #[], (100, ())), ())
    else obind (ref09_Digits_v n j2) fun y5 =>
    some ((y5.fst, (0, ())), ())
  else bif j2 != 0 then
    some ((ByteArray.mk #[], (100, ())), ())
  else bif decide ((↑(ByteArray.size s3) : Int) < 1) then
    some ((ByteArray.mk #[], (100, ())), ())
  else bif decide ((↑(ByteArray.size s3) : Int) > 32) then
    some ((ByteArray.mk #[], (100, ())), ())
  else ref09_Term_l13 n s0 b1 j2 s3 n 0 := by kernel_rfl
theorem ref09_Term_c (n : Nat) (s0 : ByteArray) (b1 : Bool) (j2 : Int) (s3 : ByteArray) (y : (ByteArray × Int × Unit) × Unit) (h : ref09_Term_v n s0 b1 j2 s3 = some y) : Contract Tryd.prog 14 [AV.agg [AV.dv (DV.val (Value.string s0)), AV.dv (DV.val (Value.bool b1)), AV.dv (DV.val (Value.int IntKind.i64 j2)), AV.dv (DV.val (Value.string s3))]] [] (OSh.enc (OSh.plain (.tup [.s, .i IntKind.i64]) []) y) :=
  ac (OSh.plain (.tup [.s, .i IntKind.i64]) []) (ref09_Term_σok n) Tryd.func14 (by decide) h
def ref09_atom_lv : Live := [(5, [1, 6, 7], [1000, 1001, 1002, 1003])]
noncomputable def ref09_atom_σ (n : Nat) : Spec := (inst 41 [.s] [] (OSh.plain (.b) []) (fun x e => ref09_Word_v n x.1) (inst 14 [.agg [.s, .b, .i IntKind.i64, .s]] [] (OSh.plain (.tup [.s, .i IntKind.i64]) []) (fun x e => ref09_Term_v n x.1.1 x.1.2.1 x.1.2.2.1 x.1.2.2.2.1) Spec.none))
theorem ref09_atom_σok (n : Nat) : SpecOk Tryd.prog (ref09_atom_σ n) := (inst_ok (fun x e y h => ref09_Word_c n x.1 y h) (inst_ok (fun x e y h => ref09_Term_c n x.1.1 x.1.2.1 x.1.2.2.1 x.1.2.2.2.1 y h) (SpecOk.none _)))
noncomputable def ref09_atom_Φ (n : Nat) : Orc := with_ Tryd.prog (ref09_atom_σ n) [] n 0 hsL
noncomputable def ref09_atom_v (n : Nat) (s0 : ByteArray) (b1 : Bool) (r2 : Rows) : Option ((ByteArray × Bool × Unit) × Unit) :=
  DM.denFn tm (ref09_atom_Φ n) ref09_atom_lv n Tryd.f48 false [AV.dv (DV.val (Value.string s0)), AV.sl b1 kdT r2 Right.no] [] (OSh.chk (OSh.plain (.tup [.s, .b]) []))
noncomputable def ref09_atom_l5 (n : Nat) (s0 : ByteArray) (b1 : Bool) (r2 : Rows) (i0 : Nat) (s5 : ByteArray) (j6 : Int) : Option ((ByteArray × Bool × Unit) × Unit) :=
  DM.loopFn tm (ref09_atom_Φ n) ref09_atom_lv n Tryd.f48 false [] (OSh.chk (OSh.plain (.tup [.s, .b]) [])) 5 [] i0 (St.mk [Jk, AV.sl b1 kdT r2 Right.no, Jk, Jk, Jk, Jk, AV.dv (DV.val (Value.string s5)), AV.dv (DV.val (Value.int IntKind.i64 j6)), Jk, Jk, Jk, Jk, Jk, Jk, Jk, Jk, Jk, Jk, Jk, Jk, Jk, Jk, Jk, Jk, Jk, Jk, Jk, Jk, Jk, Jk, Jk, Jk, Jk, Jk, Jk, Jk, Jk, Jk, Jk, Jk, Jk, Jk, Jk, Jk, Jk] [])
theorem ref09_atom_s5 (n : Nat) (s0 : ByteArray) (b1 : Bool) (r2 : Rows) (i0 : Nat) (s5 : ByteArray) (j6 : Int) : ref09_atom_l5 n s0 b1 r2 (i0 + 1) s5 j6 =
  bif decide (j6 < (↑(List.length r2) : Int)) then
    if 0 ≤ j6 then
      if j6 < (↑(List.length r2) : Int) then
        obind (ref09_Term_v n (Row.S (List.getD r2 (Int.toNat j6) []) 0) (Row.B (List.getD r2 (Int.toNat j6) []) 1) (Row.I (List.getD r2 (Int.toNat j6) []) 2) (Row.S (List.getD r2 (Int.toNat j6) []) 3)) fun y7 =>
        bif y7.fst.snd.fst != 0 then
          some ((ByteArray.mk #[], (false, ())), ())
        else bif decide (j6 > 0) then
          if ByteArray.size s5 + 2 < 4611686018427387904 then
            if ByteArray.size (s5 ++ ByteArray.mk #[44, 32]) + ByteArray.size y7.fst.fst < 4611686018427387904 then
              ref09_atom_l5 n s0 b1 r2 i0 (s5 ++ ByteArray.mk #[44, 32] ++ y7.fst.fst) (IntKind.wrap IntKind.i64 (j6 + 1))
            else none
          else none
        else if ByteArray.size s5 + ByteArray.size y7.fst.fst < 4611686018427387904 then
          ref09_atom_l5 n s0 b1 r2 i0 (s5 ++ y7.fst.fst) (IntKind.wrap IntKind.i64 (j6 + 1))
        else none
      else none
    else none
  else if ByteArray.size s5 + 1 < 4611686018427387904 then
    some ((s5 ++ ByteArray.mk #[41], (true, ())), ())
  else none := by kernel_rfl
theorem ref09_atom_e (n : Nat) (s0 : ByteArray) (b1 : Bool) (r2 : Rows) : ref09_atom_v n s0 b1 r2 =
  obind (ref09_Word_v n s0) fun y3 =>
  bif !y3.fst then
    some ((ByteArray.mk #[], (false, ())), ())
  else bif decide ((↑(List.length r2) : Int) > 4) then
    some ((ByteArray.mk #[], (false, ())), ())
  else if ByteArray.size s0 + 1 < 4611686018427387904 then
    ref09_atom_l5 n s0 b1 r2 n (s0 ++ ByteArray.mk #[40]) 0
  else none := by kernel_rfl
theorem ref09_atom_c (n : Nat) (s0 : ByteArray) (b1 : Bool) (r2 : Rows) (y : (ByteArray × Bool × Unit) × Unit) (h : ref09_atom_v n s0 b1 r2 = some y) : Contract Tryd.prog 48 [AV.dv (DV.val (Value.string s0)), AV.sl b1 kdT r2 Right.no] [] (OSh.enc (OSh.plain (.tup [.s, .b]) []) y) :=
  ac (OSh.plain (.tup [.s, .b]) []) (ref09_atom_σok n) Tryd.func48 (by decide) h
def ref09_none_lv : Live := []
noncomputable def ref09_none_σ (n : Nat) : Spec := Spec.none
theorem ref09_none_σok (n : Nat) : SpecOk Tryd.prog (ref09_none_σ n) := (SpecOk.none _)
noncomputable def ref09_none_Φ (n : Nat) : Orc := with_ Tryd.prog (ref09_none_σ n) [] n 0 hsL
noncomputable def ref09_none_v (n : Nat) (s0 : ByteArray) (b1 : Bool) (j2 : Int) (s3 : ByteArray) : Option (Bool × Unit) :=
  DM.denFn tm (ref09_none_Φ n) ref09_none_lv n Tryd.f68 false [AV.agg [AV.dv (DV.val (Value.string s0)), AV.dv (DV.val (Value.bool b1)), AV.dv (DV.val (Value.int IntKind.i64 j2)), AV.dv (DV.val (Value.string s3))]] [] (OSh.chk (OSh.plain (.b) []))
theorem ref09_none_e (n : Nat) (s0 : ByteArray) (b1 : Bool) (j2 : Int) (s3 : ByteArray) : ref09_none_v n s0 b1 j2 s3 =
  some (s0 == ByteArray.mk #[] && (b1 == false && (j2 == 0 && (s3 == ByteArray.mk #[] && true))), ()) := by kernel_rfl
theorem ref09_none_c (n : Nat) (s0 : ByteArray) (b1 : Bool) (j2 : Int) (s3 : ByteArray) (y : Bool × Unit) (h : ref09_none_v n s0 b1 j2 s3 = some y) : Contract Tryd.prog 68 [AV.agg [AV.dv (DV.val (Value.string s0)), AV.dv (DV.val (Value.bool b1)), AV.dv (DV.val (Value.int IntKind.i64 j2)), AV.dv (DV.val (Value.string s3))]] [] (OSh.enc (OSh.plain (.b) []) y) :=
  ac (OSh.plain (.b) []) (ref09_none_σok n) Tryd.func68 (by decide) h
def ref09_maybe_lv : Live := []
noncomputable def ref09_maybe_σ (n : Nat) : Spec := (inst 68 [.agg [.s, .b, .i IntKind.i64, .s]] [] (OSh.plain (.b) []) (fun x e => ref09_none_v n x.1.1 x.1.2.1 x.1.2.2.1 x.1.2.2.2.1) (inst 14 [.agg [.s, .b, .i IntKind.i64, .s]] [] (OSh.plain (.tup [.s, .i IntKind.i64]) []) (fun x e => ref09_Term_v n x.1.1 x.1.2.1 x.1.2.2.1 x.1.2.2.2.1) Spec.none))
theorem ref09_maybe_σok (n : Nat) : SpecOk Tryd.prog (ref09_maybe_σ n) := (inst_ok (fun x e y h => ref09_none_c n x.1.1 x.1.2.1 x.1.2.2.1 x.1.2.2.2.1 y h) (inst_ok (fun x e y h => ref09_Term_c n x.1.1 x.1.2.1 x.1.2.2.1 x.1.2.2.2.1 y h) (SpecOk.none _)))
noncomputable def ref09_maybe_Φ (n : Nat) : Orc := with_ Tryd.prog (ref09_maybe_σ n) [] n 0 hsL
noncomputable def ref09_maybe_v (n : Nat) (s0 : ByteArray) (s1 : ByteArray) (b2 : Bool) (j3 : Int) (s4 : ByteArray) (s5 : ByteArray) : Option ((ByteArray × Bool × Unit) × Unit) :=
  DM.denFn tm (ref09_maybe_Φ n) ref09_maybe_lv n Tryd.f49 false [AV.dv (DV.val (Value.string s0)), AV.agg [AV.dv (DV.val (Value.string s1)), AV.dv (DV.val (Value.bool b2)), AV.dv (DV.val (Value.int IntKind.i64 j3)), AV.dv (DV.val (Value.string s4))], AV.dv (DV.val (Value.string s5))] [] (OSh.chk (OSh.plain (.tup [.s, .b]) []))
theorem ref09_maybe_e (n : Nat) (s0 : ByteArray) (s1 : ByteArray) (b2 : Bool) (j3 : Int) (s4 : ByteArray) (s5 : ByteArray) : ref09_maybe_v n s0 s1 b2 j3 s4 s5 =
  obind (ref09_none_v n s1 b2 j3 s4) fun y6 =>
  bif y6.fst then
    some ((ByteArray.mk #[], (true, ())), ())
  else obind (ref09_Term_v n s1 b2 j3 s4) fun y7 =>
  if ByteArray.size s0 + ByteArray.size y7.fst.fst < 4611686018427387904 then
    if ByteArray.size (s0 ++ y7.fst.fst) + ByteArray.size s5 < 4611686018427387904 then
      some ((s0 ++ y7.fst.fst ++ s5, (y7.fst.snd.fst == 0, ())), ())
    else none
  else none := by kernel_rfl
theorem ref09_maybe_c (n : Nat) (s0 : ByteArray) (s1 : ByteArray) (b2 : Bool) (j3 : Int) (s4 : ByteArray) (s5 : ByteArray) (y : (ByteArray × Bool × Unit) × Unit) (h : ref09_maybe_v n s0 s1 b2 j3 s4 s5 = some y) : Contract Tryd.prog 49 [AV.dv (DV.val (Value.string s0)), AV.agg [AV.dv (DV.val (Value.string s1)), AV.dv (DV.val (Value.bool b2)), AV.dv (DV.val (Value.int IntKind.i64 j3)), AV.dv (DV.val (Value.string s4))], AV.dv (DV.val (Value.string s5))] [] (OSh.enc (OSh.plain (.tup [.s, .b]) []) y) :=
  ac (OSh.plain (.tup [.s, .b]) []) (ref09_maybe_σok n) Tryd.func49 (by decide) h
def ref09_Rule_lv : Live := [(10, [1, 10, 11], [1, 1000, 1001, 1002, 1003])]
noncomputable def ref09_Rule_σ (n : Nat) : Spec := (inst 14 [.agg [.s, .b, .i IntKind.i64, .s]] [] (OSh.plain (.tup [.s, .i IntKind.i64]) []) (fun x e => ref09_Term_v n x.1.1 x.1.2.1 x.1.2.2.1 x.1.2.2.2.1) (inst 48 [.s, .sl kdT] [] (OSh.plain (.tup [.s, .b]) []) (fun x e => ref09_atom_v n x.1 x.2.1.1 x.2.1.2) (inst 49 [.s, .agg [.s, .b, .i IntKind.i64, .s], .s] [] (OSh.plain (.tup [.s, .b]) []) (fun x e => ref09_maybe_v n x.1 x.2.1.1 x.2.1.2.1 x.2.1.2.2.1 x.2.1.2.2.2.1 x.2.2.1) Spec.none)))
theorem ref09_Rule_σok (n : Nat) : SpecOk Tryd.prog (ref09_Rule_σ n) := (inst_ok (fun x e y h => ref09_Term_c n x.1.1 x.1.2.1 x.1.2.2.1 x.1.2.2.2.1 y h) (inst_ok (fun x e y h => ref09_atom_c n x.1 x.2.1.1 x.2.1.2 y h) (inst_ok (fun x e y h => ref09_maybe_c n x.1 x.2.1.1 x.2.1.2.1 x.2.1.2.2.1 x.2.1.2.2.2.1 x.2.2.1 y h) (SpecOk.none _))))
noncomputable def ref09_Rule_Φ (n : Nat) : Orc := with_ Tryd.prog (ref09_Rule_σ n) [] n 0 hsL
noncomputable def ref09_Rule_v (n : Nat) (s0 : ByteArray) (b1 : Bool) (j2 : Int) (s3 : ByteArray) (s4 : ByteArray) (b5 : Bool) (r6 : Rows) (s7 : ByteArray) (b8 : Bool) (j9 : Int) (s10 : ByteArray) (b11 : Bool) (r12 : Rows) : Option ((ByteArray × Int × Unit) × Unit) :=
  DM.denFn tm (ref09_Rule_Φ n) ref09_Rule_lv n Tryd.f23 false [AV.agg [AV.dv (DV.val (Value.string s0)), AV.dv (DV.val (Value.bool b1)), AV.dv (DV.val (Value.int IntKind.i64 j2)), AV.dv (DV.val (Value.string s3)), AV.dv (DV.val (Value.string s4)), AV.sl b5 kdT r6 Right.no, AV.dv (DV.val (Value.string s7)), AV.dv (DV.val (Value.bool b8)), AV.dv (DV.val (Value.int IntKind.i64 j9)), AV.dv (DV.val (Value.string s10)), AV.sl b11 kdL r12 Right.no]] [] (OSh.chk (OSh.plain (.tup [.s, .i IntKind.i64]) []))
noncomputable def ref09_Rule_l10 (n : Nat) (s0 : ByteArray) (b1 : Bool) (j2 : Int) (s3 : ByteArray) (s4 : ByteArray) (b5 : Bool) (r6 : Rows) (s7 : ByteArray) (b8 : Bool) (j9 : Int) (s10 : ByteArray) (b11 : Bool) (r12 : Rows) (i0 : Nat) (s16 : ByteArray) (j20 : Int) : Option ((ByteArray × Int × Unit) × Unit) :=
  DM.loopFn tm (ref09_Rule_Φ n) ref09_Rule_lv n Tryd.f23 false [] (OSh.chk (OSh.plain (.tup [.s, .i IntKind.i64]) [])) 10 [] i0 (St.mk [Jk, AV.pl 1 0, Jk, Jk, Jk, Jk, Jk, Jk, Jk, Jk, AV.dv (DV.val (Value.string s16)), AV.dv (DV.val (Value.int IntKind.i64 j20)), Jk, Jk, Jk, Jk, Jk, Jk, Jk, Jk, Jk, Jk, Jk, Jk, Jk, Jk, Jk, Jk, Jk, Jk, Jk, Jk, Jk, Jk, Jk, Jk, Jk, Jk, Jk, Jk, Jk, Jk, Jk, Jk, Jk, Jk, Jk, Jk, Jk, Jk, Jk, Jk, Jk, Jk, Jk, Jk, Jk, Jk, Jk, Jk, Jk, Jk, Jk, Jk, Jk, Jk, Jk, Jk, Jk, Jk, Jk, Jk, Jk, Jk, Jk, Jk, Jk, Jk, Jk, Jk, Jk, Jk, Jk, Jk, Jk, Jk, Jk, Jk, Jk, Jk, Jk, Jk, Jk, Jk, Jk, Jk, Jk, Jk, Jk, Jk, Jk, Jk, Jk, Jk, Jk, Jk, Jk, Jk, Jk, Jk, Jk, Jk, Jk, Jk, Jk, Jk, Jk, Jk, Jk, Jk, Jk, Jk, Jk, Jk, Jk, Jk, Jk, Jk, Jk, Jk, Jk] [(1, [AV.dv (DV.val (Value.string s0)), AV.dv (DV.val (Value.bool b1)), AV.dv (DV.val (Value.int IntKind.i64 j2)), AV.dv (DV.val (Value.string s3)), AV.dv (DV.val (Value.string s4)), AV.sl b5 kdT r6 Right.no, AV.dv (DV.val (Value.string s7)), AV.dv (DV.val (Value.bool b8)), AV.dv (DV.val (Value.int IntKind.i64 j9)), AV.dv (DV.val (Value.string s10)), AV.sl b11 kdL r12 Right.no])])
theorem ref09_Rule_s10 (n : Nat) (s0 : ByteArray) (b1 : Bool) (j2 : Int) (s3 : ByteArray) (s4 : ByteArray) (b5 : Bool) (r6 : Rows) (s7 : ByteArray) (b8 : Bool) (j9 : Int) (s10 : ByteArray) (b11 : Bool) (r12 : Rows) (i0 : Nat) (s16 : ByteArray) (j20 : Int) : ref09_Rule_l10 n s0 b1 j2 s3 s4 b5 r6 s7 b8 j9 s10 b11 r12 (i0 + 1) s16 j20 =
  bif decide (j20 < (↑(List.length r12) : Int)) then
    if 0 ≤ j20 then
      if j20 < (↑(List.length r12) : Int) then
        obind (ref09_maybe_v n (ByteArray.mk #[]) (Row.S (List.getD r12 (Int.toNat j20) []) 0) (Row.B (List.getD r12 (Int.toNat j20) []) 1) (Row.I (List.getD r12 (Int.toNat j20) []) 2) (Row.S (List.getD r12 (Int.toNat j20) []) 3) (ByteArray.mk #[32, 115, 97, 121, 115, 32])) fun y21 =>
        if 0 ≤ j20 then
          if j20 < (↑(List.length r12) : Int) then
            if 0 ≤ j20 then
              if j20 < (↑(List.length r12) : Int) then
                obind (ref09_atom_v n (Row.S (List.getD r12 (Int.toNat j20) []) 4) (Row.N (List.getD r12 (Int.toNat j20) []) 5) (Row.R (List.getD r12 (Int.toNat j20) []) 5)) fun y22 =>
                if 0 ≤ j20 then
                  if j20 < (↑(List.length r12) : Int) then
                    obind (ref09_maybe_v n (ByteArray.mk #[32, 97, 116, 32]) (Row.S (List.getD r12 (Int.toNat j20) []) 6) (Row.B (List.getD r12 (Int.toNat j20) []) 7) (Row.I (List.getD r12 (Int.toNat j20) []) 8) (Row.S (List.getD r12 (Int.toNat j20) []) 9) (ByteArray.mk #[])) fun y23 =>
                    bif !y21.fst.snd.fst then
                      some ((ByteArray.mk #[], (100, ())), ())
                    else bif !y22.fst.snd.fst then
                      some ((ByteArray.mk #[], (100, ())), ())
                    else bif !y23.fst.snd.fst then
                      some ((ByteArray.mk #[], (100, ())), ())
                    else bif decide (j20 > 0) then
                      if ByteArray.size s16 + 2 < 4611686018427387904 then
                        if ByteArray.size y21.fst.fst + ByteArray.size y22.fst.fst < 4611686018427387904 then
                          if ByteArray.size (y21.fst.fst ++ y22.fst.fst) + ByteArray.size y23.fst.fst < 4611686018427387904 then
                            if ByteArray.size (s16 ++ ByteArray.mk #[44, 32]) + ByteArray.size (y21.fst.fst ++ y22.fst.fst ++ y23.fst.fst) < 4611686018427387904 then
                              ref09_Rule_l10 n s0 b1 j2 s3 s4 b5 r6 s7 b8 j9 s10 b11 r12 i0 (s16 ++ ByteArray.mk #[44, 32] ++ (y21.fst.fst ++ y22.fst.fst ++ y23.fst.fst)) (IntKind.wrap IntKind.i64 (j20 + 1))
                            else none
                          else none
                        else none
                      else none
                    else if ByteArray.size y21.fst.fst + ByteArray.size y22.fst.fst < 4611686018427387904 then
                      if ByteArray.size (y21.fst.fst ++ y22.fst.fst) + ByteArray.size y23.fst.fst < 4611686018427387904 then
                        if ByteArray.size s16 + ByteArray.size (y21.fst.fst ++ y22.fst.fst ++ y23.fst.fst) < 4611686018427387904 then
                          ref09_Rule_l10 n s0 b1 j2 s3 s4 b5 r6 s7 b8 j9 s10 b11 r12 i0 (s16 ++ (y21.fst.fst ++ y22.fst.fst ++ y23.fst.fst)) (IntKind.wrap IntKind.i64 (j20 + 1))
                        else none
                      else none
                    else none
                  else none
                else none
              else none
            else none
          else none
        else none
      else none
    else none
  else if ByteArray.size s16 + 1 < 4611686018427387904 then
    some ((s16 ++ ByteArray.mk #[46], (0, ())), ())
  else none := by kernel_rfl
theorem ref09_Rule_e (n : Nat) (s0 : ByteArray) (b1 : Bool) (j2 : Int) (s3 : ByteArray) (s4 : ByteArray) (b5 : Bool) (r6 : Rows) (s7 : ByteArray) (b8 : Bool) (j9 : Int) (s10 : ByteArray) (b11 : Bool) (r12 : Rows) : ref09_Rule_v n s0 b1 j2 s3 s4 b5 r6 s7 b8 j9 s10 b11 r12 =
  bif decide ((↑(List.length r12) : Int) < 1) then
    some ((ByteArray.mk #[], (100, ())), ())
  else bif decide ((↑(List.length r12) : Int) > 4) then
    some ((ByteArray.mk #[], (100, ())), ())
  else obind (ref09_Term_v n s0 b1 j2 s3) fun y13 =>
  obind (ref09_atom_v n s4 b5 r6) fun y14 =>
  obind (ref09_maybe_v n (ByteArray.mk #[32, 116, 111, 32]) s7 b8 j9 s10 (ByteArray.mk #[])) fun y15 =>
  bif y13.fst.snd.fst != 0 then
    some ((ByteArray.mk #[], (100, ())), ())
  else bif !y14.fst.snd.fst then
    some ((ByteArray.mk #[], (100, ())), ())
  else bif !y15.fst.snd.fst then
    some ((ByteArray.mk #[], (100, ())), ())
  else if ByteArray.size y13.fst.fst + 2 < 4611686018427387904 then
    if ByteArray.size (y13.fst.fst ++ ByteArray.mk #[58, 32]) + ByteArray.size y14.fst.fst < 4611686018427387904 then
      if ByteArray.size (y13.fst.fst ++ ByteArray.mk #[58, 32] ++ y14.fst.fst) + ByteArray.size y15.fst.fst < 4611686018427387904 then
        if ByteArray.size (y13.fst.fst ++ ByteArray.mk #[58, 32] ++ y14.fst.fst ++ y15.fst.fst) + 4 < 4611686018427387904 then
          ref09_Rule_l10 n s0 b1 j2 s3 s4 b5 r6 s7 b8 j9 s10 b11 r12 n (y13.fst.fst ++ ByteArray.mk #[58, 32] ++ y14.fst.fst ++ y15.fst.fst ++ ByteArray.mk #[32, 58, 45, 32]) 0
        else none
      else none
    else none
  else none := by kernel_rfl
theorem ref09_Rule_c (n : Nat) (s0 : ByteArray) (b1 : Bool) (j2 : Int) (s3 : ByteArray) (s4 : ByteArray) (b5 : Bool) (r6 : Rows) (s7 : ByteArray) (b8 : Bool) (j9 : Int) (s10 : ByteArray) (b11 : Bool) (r12 : Rows) (y : (ByteArray × Int × Unit) × Unit) (h : ref09_Rule_v n s0 b1 j2 s3 s4 b5 r6 s7 b8 j9 s10 b11 r12 = some y) : Contract Tryd.prog 23 [AV.agg [AV.dv (DV.val (Value.string s0)), AV.dv (DV.val (Value.bool b1)), AV.dv (DV.val (Value.int IntKind.i64 j2)), AV.dv (DV.val (Value.string s3)), AV.dv (DV.val (Value.string s4)), AV.sl b5 kdT r6 Right.no, AV.dv (DV.val (Value.string s7)), AV.dv (DV.val (Value.bool b8)), AV.dv (DV.val (Value.int IntKind.i64 j9)), AV.dv (DV.val (Value.string s10)), AV.sl b11 kdL r12 Right.no]] [] (OSh.enc (OSh.plain (.tup [.s, .i IntKind.i64]) []) y) :=
  ac (OSh.plain (.tup [.s, .i IntKind.i64]) []) (ref09_Rule_σok n) Tryd.func23 (by decide) h
def ref09_Program_lv : Live := [(5, [0, 4, 5], [1000, 1001, 1002, 1003])]
noncomputable def ref09_Program_σ (n : Nat) : Spec := (inst 23 [.agg [.s, .b, .i IntKind.i64, .s, .s, .sl kdT, .s, .b, .i IntKind.i64, .s, .sl kdL]] [] (OSh.plain (.tup [.s, .i IntKind.i64]) []) (fun x e => ref09_Rule_v n x.1.1 x.1.2.1 x.1.2.2.1 x.1.2.2.2.1 x.1.2.2.2.2.1 x.1.2.2.2.2.2.1.1 x.1.2.2.2.2.2.1.2 x.1.2.2.2.2.2.2.1 x.1.2.2.2.2.2.2.2.1 x.1.2.2.2.2.2.2.2.2.1 x.1.2.2.2.2.2.2.2.2.2.1 x.1.2.2.2.2.2.2.2.2.2.2.1.1 x.1.2.2.2.2.2.2.2.2.2.2.1.2) Spec.none)
theorem ref09_Program_σok (n : Nat) : SpecOk Tryd.prog (ref09_Program_σ n) := (inst_ok (fun x e y h => ref09_Rule_c n x.1.1 x.1.2.1 x.1.2.2.1 x.1.2.2.2.1 x.1.2.2.2.2.1 x.1.2.2.2.2.2.1.1 x.1.2.2.2.2.2.1.2 x.1.2.2.2.2.2.2.1 x.1.2.2.2.2.2.2.2.1 x.1.2.2.2.2.2.2.2.2.1 x.1.2.2.2.2.2.2.2.2.2.1 x.1.2.2.2.2.2.2.2.2.2.2.1.1 x.1.2.2.2.2.2.2.2.2.2.2.1.2 y h) (SpecOk.none _))
noncomputable def ref09_Program_Φ (n : Nat) : Orc := with_ Tryd.prog (ref09_Program_σ n) [] n 0 hsL
noncomputable def ref09_Program_v (n : Nat) (b0 : Bool) (r1 : Rows) : Option ((ByteArray × Int × Unit) × Unit) :=
  DM.denFn tm (ref09_Program_Φ n) ref09_Program_lv n Tryd.f21 false [AV.sl b0 kdR r1 Right.no] [] (OSh.chk (OSh.plain (.tup [.s, .i IntKind.i64]) []))
noncomputable def ref09_Program_l5 (n : Nat) (b0 : Bool) (r1 : Rows) (i0 : Nat) (s3 : ByteArray) (j4 : Int) : Option ((ByteArray × Int × Unit) × Unit) :=
  DM.loopFn tm (ref09_Program_Φ n) ref09_Program_lv n Tryd.f21 false [] (OSh.chk (OSh.plain (.tup [.s, .i IntKind.i64]) [])) 5 [] i0 (St.mk [AV.sl b0 kdR r1 Right.no, Jk, Jk, Jk, AV.dv (DV.val (Value.string s3)), AV.dv (DV.val (Value.int IntKind.i64 j4)), Jk, Jk, Jk, Jk, Jk, Jk, Jk, Jk, Jk, Jk, Jk, Jk, Jk, Jk, Jk, Jk, Jk, Jk, Jk, Jk, Jk, Jk, Jk, Jk, Jk, Jk, Jk, Jk, Jk, Jk] [])
theorem ref09_Program_s5 (n : Nat) (b0 : Bool) (r1 : Rows) (i0 : Nat) (s3 : ByteArray) (j4 : Int) : ref09_Program_l5 n b0 r1 (i0 + 1) s3 j4 =
  bif decide (j4 < (↑(List.length r1) : Int)) then
    if 0 ≤ j4 then
      if j4 < (↑(List.length r1) : Int) then
        obind (ref09_Rule_v n (Row.S (List.getD r1 (Int.toNat j4) []) 0) (Row.B (List.getD r1 (Int.toNat j4) []) 1) (Row.I (List.getD r1 (Int.toNat j4) []) 2) (Row.S (List.getD r1 (Int.toNat j4) []) 3) (Row.S (List.getD r1 (Int.toNat j4) []) 4) (Row.N (List.getD r1 (Int.toNat j4) []) 5) (Row.R (List.getD r1 (Int.toNat j4) []) 5) (Row.S (List.getD r1 (Int.toNat j4) []) 6) (Row.B (List.getD r1 (Int.toNat j4) []) 7) (Row.I (List.getD r1 (Int.toNat j4) []) 8) (Row.S (List.getD r1 (Int.toNat j4) []) 9) (Row.N (List.getD r1 (Int.toNat j4) []) 10) (Row.R (List.getD r1 (Int.toNat j4) []) 10)) fun y5 =>
        bif y5.fst.snd.fst != 0 then
          some ((ByteArray.mk #[], (y5.fst.snd.fst, ())), ())
        else if ByteArray.size y5.fst.fst + 1 < 4611686018427387904 then
          if ByteArray.size s3 + ByteArray.size (y5.fst.fst ++ ByteArray.mk #[10]) < 4611686018427387904 then
            ref09_Program_l5 n b0 r1 i0 (s3 ++ (y5.fst.fst ++ ByteArray.mk #[10])) (IntKind.wrap IntKind.i64 (j4 + 1))
          else none
        else none
      else none
    else none
  else bif decide ((↑(ByteArray.size s3) : Int) > 4096) then
    some ((ByteArray.mk #[], (3, ())), ())
  else some ((s3, (0, ())), ()) := by kernel_rfl
theorem ref09_Program_e (n : Nat) (b0 : Bool) (r1 : Rows) : ref09_Program_v n b0 r1 =
  bif decide ((↑(List.length r1) : Int) > 16) then
    some ((ByteArray.mk #[], (81, ())), ())
  else ref09_Program_l5 n b0 r1 n (ByteArray.mk #[]) 0 := by kernel_rfl
theorem ref09_Program_c (n : Nat) (b0 : Bool) (r1 : Rows) (y : (ByteArray × Int × Unit) × Unit) (h : ref09_Program_v n b0 r1 = some y) : Contract Tryd.prog 21 [AV.sl b0 kdR r1 Right.no] [] (OSh.enc (OSh.plain (.tup [.s, .i IntKind.i64]) []) y) :=
  ac (OSh.plain (.tup [.s, .i IntKind.i64]) []) (ref09_Program_σok n) Tryd.func21 (by decide) h
def ref05_Terms_lv : Live := [(4, [0, 1, 5], [1000, 1001, 1002, 1003])]
noncomputable def ref05_Terms_σ (n : Nat) : Spec := Spec.none
theorem ref05_Terms_σok (n : Nat) : SpecOk Tryd.prog (ref05_Terms_σ n) := (SpecOk.none _)
noncomputable def ref05_Terms_Φ (n : Nat) : Orc := with_ Tryd.prog (ref05_Terms_σ n) [] n 0 hsL
noncomputable def ref05_Terms_v (n : Nat) (b0 : Bool) (r1 : Rows) (b2 : Bool) (r3 : Rows) : Option (Bool × Unit) :=
  DM.denFn tm (ref05_Terms_Φ n) ref05_Terms_lv n Tryd.f47 false [AV.sl b0 kdT r1 Right.no, AV.sl b2 kdT r3 Right.no] [] (OSh.chk (OSh.plain (.b) []))
noncomputable def ref05_Terms_l4 (n : Nat) (b0 : Bool) (r1 : Rows) (b2 : Bool) (r3 : Rows) (i0 : Nat) (j4 : Int) : Option (Bool × Unit) :=
  DM.loopFn tm (ref05_Terms_Φ n) ref05_Terms_lv n Tryd.f47 false [] (OSh.chk (OSh.plain (.b) [])) 4 [] i0 (St.mk [AV.sl b0 kdT r1 Right.no, AV.sl b2 kdT r3 Right.no, Jk, Jk, Jk, AV.dv (DV.val (Value.int IntKind.i64 j4)), Jk, Jk, Jk, Jk, Jk, Jk, Jk, Jk, Jk, Jk, Jk, Jk, Jk, Jk, Jk, Jk, Jk, Jk, Jk, Jk] [])
theorem ref05_Terms_s4 (n : Nat) (b0 : Bool) (r1 : Rows) (b2 : Bool) (r3 : Rows) (i0 : Nat) (j4 : Int) : ref05_Terms_l4 n b0 r1 b2 r3 (i0 + 1) j4 =
  bif decide (j4 < (↑(List.length r1) : Int)) then
    if 0 ≤ j4 then
      if j4 < (↑(List.length r1) : Int) then
        if 0 ≤ j4 then
          if j4 < (↑(List.length r3) : Int) then
            bif !(Row.S (List.getD r1 (Int.toNat j4) []) 0 == Row.S (List.getD r3 (Int.toNat j4) []) 0 && (Row.B (List.getD r1 (Int.toNat j4) []) 1 == Row.B (List.getD r3 (Int.toNat j4) []) 1 && (Row.I (List.getD r1 (Int.toNat j4) []) 2 == Row.I (List.getD r3 (Int.toNat j4) []) 2 && (Row.S (List.getD r1 (Int.toNat j4) []) 3 == Row.S (List.getD r3 (Int.toNat j4) []) 3 && true)))) then
              some (false, ())
            else ref05_Terms_l4 n b0 r1 b2 r3 i0 (IntKind.wrap IntKind.i64 (j4 + 1))
          else none
        else none
      else none
    else none
  else some (true, ()) := by kernel_rfl
theorem ref05_Terms_e (n : Nat) (b0 : Bool) (r1 : Rows) (b2 : Bool) (r3 : Rows) : ref05_Terms_v n b0 r1 b2 r3 =
  bif (↑(List.length r1) : Int) != (↑(List.length r3) : Int) then
    some (false, ())
  else ref05_Terms_l4 n b0 r1 b2 r3 n 0 := by kernel_rfl
theorem ref05_Terms_c (n : Nat) (b0 : Bool) (r1 : Rows) (b2 : Bool) (r3 : Rows) (y : Bool × Unit) (h : ref05_Terms_v n b0 r1 b2 r3 = some y) : Contract Tryd.prog 47 [AV.sl b0 kdT r1 Right.no, AV.sl b2 kdT r3 Right.no] [] (OSh.enc (OSh.plain (.b) []) y) :=
  ac (OSh.plain (.b) []) (ref05_Terms_σok n) Tryd.func47 (by decide) h
def ref05_SameRule_lv : Live := [(4, [2, 3, 5], [2, 3, 1000, 1001, 1002, 1003])]
noncomputable def ref05_SameRule_σ (n : Nat) : Spec := (inst 47 [.sl kdT, .sl kdT] [] (OSh.plain (.b) []) (fun x e => ref05_Terms_v n x.1.1 x.1.2 x.2.1.1 x.2.1.2) Spec.none)
theorem ref05_SameRule_σok (n : Nat) : SpecOk Tryd.prog (ref05_SameRule_σ n) := (inst_ok (fun x e y h => ref05_Terms_c n x.1.1 x.1.2 x.2.1.1 x.2.1.2 y h) (SpecOk.none _))
noncomputable def ref05_SameRule_Φ (n : Nat) : Orc := with_ Tryd.prog (ref05_SameRule_σ n) [] n 0 hsL
noncomputable def ref05_SameRule_v (n : Nat) (s0 : ByteArray) (b1 : Bool) (j2 : Int) (s3 : ByteArray) (s4 : ByteArray) (b5 : Bool) (r6 : Rows) (s7 : ByteArray) (b8 : Bool) (j9 : Int) (s10 : ByteArray) (b11 : Bool) (r12 : Rows) (s13 : ByteArray) (b14 : Bool) (j15 : Int) (s16 : ByteArray) (s17 : ByteArray) (b18 : Bool) (r19 : Rows) (s20 : ByteArray) (b21 : Bool) (j22 : Int) (s23 : ByteArray) (b24 : Bool) (r25 : Rows) : Option (Bool × Unit) :=
  DM.denFn tm (ref05_SameRule_Φ n) ref05_SameRule_lv n Tryd.f17 false [AV.agg [AV.dv (DV.val (Value.string s0)), AV.dv (DV.val (Value.bool b1)), AV.dv (DV.val (Value.int IntKind.i64 j2)), AV.dv (DV.val (Value.string s3)), AV.dv (DV.val (Value.string s4)), AV.sl b5 kdT r6 Right.no, AV.dv (DV.val (Value.string s7)), AV.dv (DV.val (Value.bool b8)), AV.dv (DV.val (Value.int IntKind.i64 j9)), AV.dv (DV.val (Value.string s10)), AV.sl b11 kdL r12 Right.no], AV.agg [AV.dv (DV.val (Value.string s13)), AV.dv (DV.val (Value.bool b14)), AV.dv (DV.val (Value.int IntKind.i64 j15)), AV.dv (DV.val (Value.string s16)), AV.dv (DV.val (Value.string s17)), AV.sl b18 kdT r19 Right.no, AV.dv (DV.val (Value.string s20)), AV.dv (DV.val (Value.bool b21)), AV.dv (DV.val (Value.int IntKind.i64 j22)), AV.dv (DV.val (Value.string s23)), AV.sl b24 kdL r25 Right.no]] [] (OSh.chk (OSh.plain (.b) []))
noncomputable def ref05_SameRule_l4 (n : Nat) (s0 : ByteArray) (b1 : Bool) (j2 : Int) (s3 : ByteArray) (s4 : ByteArray) (b5 : Bool) (r6 : Rows) (s7 : ByteArray) (b8 : Bool) (j9 : Int) (s10 : ByteArray) (b11 : Bool) (r12 : Rows) (s13 : ByteArray) (b14 : Bool) (j15 : Int) (s16 : ByteArray) (s17 : ByteArray) (b18 : Bool) (r19 : Rows) (s20 : ByteArray) (b21 : Bool) (j22 : Int) (s23 : ByteArray) (b24 : Bool) (r25 : Rows) (i0 : Nat) (j28 : Int) : Option (Bool × Unit) :=
  DM.loopFn tm (ref05_SameRule_Φ n) ref05_SameRule_lv n Tryd.f17 false [] (OSh.chk (OSh.plain (.b) [])) 4 [] i0 (St.mk [Jk, Jk, AV.pl 2 0, AV.pl 3 0, Jk, AV.dv (DV.val (Value.int IntKind.i64 j28)), Jk, Jk, Jk, Jk, Jk, Jk, Jk, Jk, Jk, Jk, Jk, Jk, Jk, Jk, Jk, Jk, Jk, Jk, Jk, Jk, Jk, Jk, Jk, Jk, Jk, Jk, Jk, Jk, Jk, Jk, Jk, Jk, Jk, Jk, Jk, Jk, Jk, Jk, Jk, Jk, Jk, Jk, Jk, Jk, Jk, Jk, Jk, Jk, Jk, Jk, Jk, Jk, Jk, Jk, Jk, Jk, Jk, Jk, Jk, Jk, Jk, Jk, Jk, Jk, Jk, Jk, Jk, Jk, Jk, Jk, Jk, Jk, Jk, Jk, Jk, Jk, Jk, Jk, Jk, Jk, Jk, Jk] [(2, [AV.dv (DV.val (Value.string s0)), AV.dv (DV.val (Value.bool b1)), AV.dv (DV.val (Value.int IntKind.i64 j2)), AV.dv (DV.val (Value.string s3)), AV.dv (DV.val (Value.string s4)), AV.sl b5 kdT r6 Right.no, AV.dv (DV.val (Value.string s7)), AV.dv (DV.val (Value.bool b8)), AV.dv (DV.val (Value.int IntKind.i64 j9)), AV.dv (DV.val (Value.string s10)), AV.sl b11 kdL r12 Right.no]), (3, [AV.dv (DV.val (Value.string s13)), AV.dv (DV.val (Value.bool b14)), AV.dv (DV.val (Value.int IntKind.i64 j15)), AV.dv (DV.val (Value.string s16)), AV.dv (DV.val (Value.string s17)), AV.sl b18 kdT r19 Right.no, AV.dv (DV.val (Value.string s20)), AV.dv (DV.val (Value.bool b21)), AV.dv (DV.val (Value.int IntKind.i64 j22)), AV.dv (DV.val (Value.string s23)), AV.sl b24 kdL r25 Right.no])])
theorem ref05_SameRule_s4 (n : Nat) (s0 : ByteArray) (b1 : Bool) (j2 : Int) (s3 : ByteArray) (s4 : ByteArray) (b5 : Bool) (r6 : Rows) (s7 : ByteArray) (b8 : Bool) (j9 : Int) (s10 : ByteArray) (b11 : Bool) (r12 : Rows) (s13 : ByteArray) (b14 : Bool) (j15 : Int) (s16 : ByteArray) (s17 : ByteArray) (b18 : Bool) (r19 : Rows) (s20 : ByteArray) (b21 : Bool) (j22 : Int) (s23 : ByteArray) (b24 : Bool) (r25 : Rows) (i0 : Nat) (j28 : Int) : ref05_SameRule_l4 n s0 b1 j2 s3 s4 b5 r6 s7 b8 j9 s10 b11 r12 s13 b14 j15 s16 s17 b18 r19 s20 b21 j22 s23 b24 r25 (i0 + 1) j28 =
  bif decide (j28 < (↑(List.length r12) : Int)) then
    if 0 ≤ j28 then
      if j28 < (↑(List.length r12) : Int) then
        if 0 ≤ j28 then
          if j28 < (↑(List.length r25) : Int) then
            bif !(Row.S (List.getD r12 (Int.toNat j28) []) 0 == Row.S (List.getD r25 (Int.toNat j28) []) 0 && (Row.B (List.getD r12 (Int.toNat j28) []) 1 == Row.B (List.getD r25 (Int.toNat j28) []) 1 && (Row.I (List.getD r12 (Int.toNat j28) []) 2 == Row.I (List.getD r25 (Int.toNat j28) []) 2 && (Row.S (List.getD r12 (Int.toNat j28) []) 3 == Row.S (List.getD r25 (Int.toNat j28) []) 3 && true)))) then
              some (false, ())
            else bif !Row.S (List.getD r12 (Int.toNat j28) []) 4 == Row.S (List.getD r25 (Int.toNat j28) []) 4 then
              some (false, ())
            else bif !(Row.S (List.getD r12 (Int.toNat j28) []) 6 == Row.S (List.getD r25 (Int.toNat j28) []) 6 && (Row.B (List.getD r12 (Int.toNat j28) []) 7 == Row.B (List.getD r25 (Int.toNat j28) []) 7 && (Row.I (List.getD r12 (Int.toNat j28) []) 8 == Row.I (List.getD r25 (Int.toNat j28) []) 8 && (Row.S (List.getD r12 (Int.toNat j28) []) 9 == Row.S (List.getD r25 (Int.toNat j28) []) 9 && true)))) then
              some (false, ())
            else obind (ref05_Terms_v n (Row.N (List.getD r12 (Int.toNat j28) []) 5) (Row.R (List.getD r12 (Int.toNat j28) []) 5) (Row.N (List.getD r25 (Int.toNat j28) []) 5) (Row.R (List.getD r25 (Int.toNat j28) []) 5)) fun y29 =>
            bif !y29.fst then
              some (false, ())
            else ref05_SameRule_l4 n s0 b1 j2 s3 s4 b5 r6 s7 b8 j9 s10 b11 r12 s13 b14 j15 s16 s17 b18 r19 s20 b21 j22 s23 b24 r25 i0 (IntKind.wrap IntKind.i64 (j28 + 1))
          else none
        else none
      else none
    else none
  else some (true, ()) := by kernel_rfl
theorem ref05_SameRule_e (n : Nat) (s0 : ByteArray) (b1 : Bool) (j2 : Int) (s3 : ByteArray) (s4 : ByteArray) (b5 : Bool) (r6 : Rows) (s7 : ByteArray) (b8 : Bool) (j9 : Int) (s10 : ByteArray) (b11 : Bool) (r12 : Rows) (s13 : ByteArray) (b14 : Bool) (j15 : Int) (s16 : ByteArray) (s17 : ByteArray) (b18 : Bool) (r19 : Rows) (s20 : ByteArray) (b21 : Bool) (j22 : Int) (s23 : ByteArray) (b24 : Bool) (r25 : Rows) : ref05_SameRule_v n s0 b1 j2 s3 s4 b5 r6 s7 b8 j9 s10 b11 r12 s13 b14 j15 s16 s17 b18 r19 s20 b21 j22 s23 b24 r25 =
  bif !(s0 == s13 && (b1 == b14 && (j2 == j15 && (s3 == s16 && true)))) then
    some (false, ())
  else bif !s4 == s17 then
    some (false, ())
  else bif !(s7 == s20 && (b8 == b21 && (j9 == j22 && (s10 == s23 && true)))) then
    some (false, ())
  else obind (ref05_Terms_v n b5 r6 b18 r19) fun y26 =>
  bif !y26.fst then
    some (false, ())
  else bif (↑(List.length r12) : Int) != (↑(List.length r25) : Int) then
    some (false, ())
  else ref05_SameRule_l4 n s0 b1 j2 s3 s4 b5 r6 s7 b8 j9 s10 b11 r12 s13 b14 j15 s16 s17 b18 r19 s20 b21 j22 s23 b24 r25 n 0 := by kernel_rfl
theorem ref05_SameRule_c (n : Nat) (s0 : ByteArray) (b1 : Bool) (j2 : Int) (s3 : ByteArray) (s4 : ByteArray) (b5 : Bool) (r6 : Rows) (s7 : ByteArray) (b8 : Bool) (j9 : Int) (s10 : ByteArray) (b11 : Bool) (r12 : Rows) (s13 : ByteArray) (b14 : Bool) (j15 : Int) (s16 : ByteArray) (s17 : ByteArray) (b18 : Bool) (r19 : Rows) (s20 : ByteArray) (b21 : Bool) (j22 : Int) (s23 : ByteArray) (b24 : Bool) (r25 : Rows) (y : Bool × Unit) (h : ref05_SameRule_v n s0 b1 j2 s3 s4 b5 r6 s7 b8 j9 s10 b11 r12 s13 b14 j15 s16 s17 b18 r19 s20 b21 j22 s23 b24 r25 = some y) : Contract Tryd.prog 17 [AV.agg [AV.dv (DV.val (Value.string s0)), AV.dv (DV.val (Value.bool b1)), AV.dv (DV.val (Value.int IntKind.i64 j2)), AV.dv (DV.val (Value.string s3)), AV.dv (DV.val (Value.string s4)), AV.sl b5 kdT r6 Right.no, AV.dv (DV.val (Value.string s7)), AV.dv (DV.val (Value.bool b8)), AV.dv (DV.val (Value.int IntKind.i64 j9)), AV.dv (DV.val (Value.string s10)), AV.sl b11 kdL r12 Right.no], AV.agg [AV.dv (DV.val (Value.string s13)), AV.dv (DV.val (Value.bool b14)), AV.dv (DV.val (Value.int IntKind.i64 j15)), AV.dv (DV.val (Value.string s16)), AV.dv (DV.val (Value.string s17)), AV.sl b18 kdT r19 Right.no, AV.dv (DV.val (Value.string s20)), AV.dv (DV.val (Value.bool b21)), AV.dv (DV.val (Value.int IntKind.i64 j22)), AV.dv (DV.val (Value.string s23)), AV.sl b24 kdL r25 Right.no]] [] (OSh.enc (OSh.plain (.b) []) y) :=
  ac (OSh.plain (.b) []) (ref05_SameRule_σok n) Tryd.func17 (by decide) h
def ref05_Like_lv : Live := [(4, [0, 1, 5], [1000, 1001, 1002, 1003])]
noncomputable def ref05_Like_σ (n : Nat) : Spec := (inst 17 [.agg [.s, .b, .i IntKind.i64, .s, .s, .sl kdT, .s, .b, .i IntKind.i64, .s, .sl kdL], .agg [.s, .b, .i IntKind.i64, .s, .s, .sl kdT, .s, .b, .i IntKind.i64, .s, .sl kdL]] [] (OSh.plain (.b) []) (fun x e => ref05_SameRule_v n x.1.1 x.1.2.1 x.1.2.2.1 x.1.2.2.2.1 x.1.2.2.2.2.1 x.1.2.2.2.2.2.1.1 x.1.2.2.2.2.2.1.2 x.1.2.2.2.2.2.2.1 x.1.2.2.2.2.2.2.2.1 x.1.2.2.2.2.2.2.2.2.1 x.1.2.2.2.2.2.2.2.2.2.1 x.1.2.2.2.2.2.2.2.2.2.2.1.1 x.1.2.2.2.2.2.2.2.2.2.2.1.2 x.2.1.1 x.2.1.2.1 x.2.1.2.2.1 x.2.1.2.2.2.1 x.2.1.2.2.2.2.1 x.2.1.2.2.2.2.2.1.1 x.2.1.2.2.2.2.2.1.2 x.2.1.2.2.2.2.2.2.1 x.2.1.2.2.2.2.2.2.2.1 x.2.1.2.2.2.2.2.2.2.2.1 x.2.1.2.2.2.2.2.2.2.2.2.1 x.2.1.2.2.2.2.2.2.2.2.2.2.1.1 x.2.1.2.2.2.2.2.2.2.2.2.2.1.2) Spec.none)
theorem ref05_Like_σok (n : Nat) : SpecOk Tryd.prog (ref05_Like_σ n) := (inst_ok (fun x e y h => ref05_SameRule_c n x.1.1 x.1.2.1 x.1.2.2.1 x.1.2.2.2.1 x.1.2.2.2.2.1 x.1.2.2.2.2.2.1.1 x.1.2.2.2.2.2.1.2 x.1.2.2.2.2.2.2.1 x.1.2.2.2.2.2.2.2.1 x.1.2.2.2.2.2.2.2.2.1 x.1.2.2.2.2.2.2.2.2.2.1 x.1.2.2.2.2.2.2.2.2.2.2.1.1 x.1.2.2.2.2.2.2.2.2.2.2.1.2 x.2.1.1 x.2.1.2.1 x.2.1.2.2.1 x.2.1.2.2.2.1 x.2.1.2.2.2.2.1 x.2.1.2.2.2.2.2.1.1 x.2.1.2.2.2.2.2.1.2 x.2.1.2.2.2.2.2.2.1 x.2.1.2.2.2.2.2.2.2.1 x.2.1.2.2.2.2.2.2.2.2.1 x.2.1.2.2.2.2.2.2.2.2.2.1 x.2.1.2.2.2.2.2.2.2.2.2.2.1.1 x.2.1.2.2.2.2.2.2.2.2.2.2.1.2 y h) (SpecOk.none _))
noncomputable def ref05_Like_Φ (n : Nat) : Orc := with_ Tryd.prog (ref05_Like_σ n) [] n 0 hsL
noncomputable def ref05_Like_v (n : Nat) (b0 : Bool) (r1 : Rows) (b2 : Bool) (r3 : Rows) : Option (Bool × Unit) :=
  DM.denFn tm (ref05_Like_Φ n) ref05_Like_lv n Tryd.f22 false [AV.sl b0 kdR r1 Right.no, AV.sl b2 kdR r3 Right.no] [] (OSh.chk (OSh.plain (.b) []))
noncomputable def ref05_Like_l4 (n : Nat) (b0 : Bool) (r1 : Rows) (b2 : Bool) (r3 : Rows) (i0 : Nat) (j5 : Int) : Option (Bool × Unit) :=
  DM.loopFn tm (ref05_Like_Φ n) ref05_Like_lv n Tryd.f22 false [] (OSh.chk (OSh.plain (.b) [])) 4 [] i0 (St.mk [AV.sl b0 kdR r1 Right.no, AV.sl b2 kdR r3 Right.no, Jk, Jk, Jk, AV.dv (DV.val (Value.int IntKind.i64 j5)), Jk, Jk, Jk, Jk, Jk, Jk, Jk, Jk, Jk, Jk, Jk, Jk, Jk, Jk, Jk, Jk, Jk, Jk, Jk, Jk, Jk] [])
theorem ref05_Like_s4 (n : Nat) (b0 : Bool) (r1 : Rows) (b2 : Bool) (r3 : Rows) (i0 : Nat) (j5 : Int) : ref05_Like_l4 n b0 r1 b2 r3 (i0 + 1) j5 =
  bif decide (j5 < (↑(List.length r1) : Int)) then
    if 0 ≤ j5 then
      if j5 < (↑(List.length r1) : Int) then
        if 0 ≤ j5 then
          if j5 < (↑(List.length r3) : Int) then
            obind (ref05_SameRule_v n (Row.S (List.getD r1 (Int.toNat j5) []) 0) (Row.B (List.getD r1 (Int.toNat j5) []) 1) (Row.I (List.getD r1 (Int.toNat j5) []) 2) (Row.S (List.getD r1 (Int.toNat j5) []) 3) (Row.S (List.getD r1 (Int.toNat j5) []) 4) (Row.N (List.getD r1 (Int.toNat j5) []) 5) (Row.R (List.getD r1 (Int.toNat j5) []) 5) (Row.S (List.getD r1 (Int.toNat j5) []) 6) (Row.B (List.getD r1 (Int.toNat j5) []) 7) (Row.I (List.getD r1 (Int.toNat j5) []) 8) (Row.S (List.getD r1 (Int.toNat j5) []) 9) (Row.N (List.getD r1 (Int.toNat j5) []) 10) (Row.R (List.getD r1 (Int.toNat j5) []) 10) (Row.S (List.getD r3 (Int.toNat j5) []) 0) (Row.B (List.getD r3 (Int.toNat j5) []) 1) (Row.I (List.getD r3 (Int.toNat j5) []) 2) (Row.S (List.getD r3 (Int.toNat j5) []) 3) (Row.S (List.getD r3 (Int.toNat j5) []) 4) (Row.N (List.getD r3 (Int.toNat j5) []) 5) (Row.R (List.getD r3 (Int.toNat j5) []) 5) (Row.S (List.getD r3 (Int.toNat j5) []) 6) (Row.B (List.getD r3 (Int.toNat j5) []) 7) (Row.I (List.getD r3 (Int.toNat j5) []) 8) (Row.S (List.getD r3 (Int.toNat j5) []) 9) (Row.N (List.getD r3 (Int.toNat j5) []) 10) (Row.R (List.getD r3 (Int.toNat j5) []) 10)) fun y6 =>
            bif !y6.fst then
              some (false, ())
            else ref05_Like_l4 n b0 r1 b2 r3 i0 (IntKind.wrap IntKind.i64 (j5 + 1))
          else none
        else none
      else none
    else none
  else some (true, ()) := by kernel_rfl
theorem ref05_Like_e (n : Nat) (b0 : Bool) (r1 : Rows) (b2 : Bool) (r3 : Rows) : ref05_Like_v n b0 r1 b2 r3 =
  bif (↑(List.length r1) : Int) != (↑(List.length r3) : Int) then
    some (false, ())
  else ref05_Like_l4 n b0 r1 b2 r3 n 0 := by kernel_rfl
theorem ref05_Like_c (n : Nat) (b0 : Bool) (r1 : Rows) (b2 : Bool) (r3 : Rows) (y : Bool × Unit) (h : ref05_Like_v n b0 r1 b2 r3 = some y) : Contract Tryd.prog 22 [AV.sl b0 kdR r1 Right.no, AV.sl b2 kdR r3 Right.no] [] (OSh.enc (OSh.plain (.b) []) y) :=
  ac (OSh.plain (.b) []) (ref05_Like_σok n) Tryd.func22 (by decide) h
def law09_ShowApart_lv : Live := []
noncomputable def law09_ShowApart_σ (n : Nat) : Spec := (inst 15 [.sl kdR, .i IntKind.i64] [] (OSh.plain (.i IntKind.i64) []) (fun x e => ref05_Weight_v n x.1.1 x.1.2 x.2.1) (inst 12 [] [] (OSh.plain (.b) []) (fun x e => law09_live_v n) (inst 13 [.agg [.s, .b, .i IntKind.i64, .s]] [] (OSh.plain (.tup [.s, .i IntKind.i64]) []) (fun x e => show_Term_v n x.1.1 x.1.2.1 x.1.2.2.1 x.1.2.2.2.1) (inst 16 [.agg [.s, .b, .i IntKind.i64, .s, .s, .sl kdT, .s, .b, .i IntKind.i64, .s, .sl kdL]] [] (OSh.plain (.tup [.s, .i IntKind.i64]) []) (fun x e => show_Rule_v n x.1.1 x.1.2.1 x.1.2.2.1 x.1.2.2.2.1 x.1.2.2.2.2.1 x.1.2.2.2.2.2.1.1 x.1.2.2.2.2.2.1.2 x.1.2.2.2.2.2.2.1 x.1.2.2.2.2.2.2.2.1 x.1.2.2.2.2.2.2.2.2.1 x.1.2.2.2.2.2.2.2.2.2.1 x.1.2.2.2.2.2.2.2.2.2.2.1.1 x.1.2.2.2.2.2.2.2.2.2.2.1.2) (inst 18 [.s] [] (OSh.plain (.b) []) (fun x e => ref08_Kept_v n x.1) (inst 17 [.agg [.s, .b, .i IntKind.i64, .s, .s, .sl kdT, .s, .b, .i IntKind.i64, .s, .sl kdL], .agg [.s, .b, .i IntKind.i64, .s, .s, .sl kdT, .s, .b, .i IntKind.i64, .s, .sl kdL]] [] (OSh.plain (.b) []) (fun x e => ref05_SameRule_v n x.1.1 x.1.2.1 x.1.2.2.1 x.1.2.2.2.1 x.1.2.2.2.2.1 x.1.2.2.2.2.2.1.1 x.1.2.2.2.2.2.1.2 x.1.2.2.2.2.2.2.1 x.1.2.2.2.2.2.2.2.1 x.1.2.2.2.2.2.2.2.2.1 x.1.2.2.2.2.2.2.2.2.2.1 x.1.2.2.2.2.2.2.2.2.2.2.1.1 x.1.2.2.2.2.2.2.2.2.2.2.1.2 x.2.1.1 x.2.1.2.1 x.2.1.2.2.1 x.2.1.2.2.2.1 x.2.1.2.2.2.2.1 x.2.1.2.2.2.2.2.1.1 x.2.1.2.2.2.2.2.1.2 x.2.1.2.2.2.2.2.2.1 x.2.1.2.2.2.2.2.2.2.1 x.2.1.2.2.2.2.2.2.2.2.1 x.2.1.2.2.2.2.2.2.2.2.2.1 x.2.1.2.2.2.2.2.2.2.2.2.2.1.1 x.2.1.2.2.2.2.2.2.2.2.2.2.1.2) Spec.none))))))
theorem law09_ShowApart_σok (n : Nat) : SpecOk Tryd.prog (law09_ShowApart_σ n) := (inst_ok (fun x e y h => ref05_Weight_c n x.1.1 x.1.2 x.2.1 y h) (inst_ok (fun x e y h => law09_live_c n y h) (inst_ok (fun x e y h => show_Term_c n x.1.1 x.1.2.1 x.1.2.2.1 x.1.2.2.2.1 y h) (inst_ok (fun x e y h => show_Rule_c n x.1.1 x.1.2.1 x.1.2.2.1 x.1.2.2.2.1 x.1.2.2.2.2.1 x.1.2.2.2.2.2.1.1 x.1.2.2.2.2.2.1.2 x.1.2.2.2.2.2.2.1 x.1.2.2.2.2.2.2.2.1 x.1.2.2.2.2.2.2.2.2.1 x.1.2.2.2.2.2.2.2.2.2.1 x.1.2.2.2.2.2.2.2.2.2.2.1.1 x.1.2.2.2.2.2.2.2.2.2.2.1.2 y h) (inst_ok (fun x e y h => ref08_Kept_c n x.1 y h) (inst_ok (fun x e y h => ref05_SameRule_c n x.1.1 x.1.2.1 x.1.2.2.1 x.1.2.2.2.1 x.1.2.2.2.2.1 x.1.2.2.2.2.2.1.1 x.1.2.2.2.2.2.1.2 x.1.2.2.2.2.2.2.1 x.1.2.2.2.2.2.2.2.1 x.1.2.2.2.2.2.2.2.2.1 x.1.2.2.2.2.2.2.2.2.2.1 x.1.2.2.2.2.2.2.2.2.2.2.1.1 x.1.2.2.2.2.2.2.2.2.2.2.1.2 x.2.1.1 x.2.1.2.1 x.2.1.2.2.1 x.2.1.2.2.2.1 x.2.1.2.2.2.2.1 x.2.1.2.2.2.2.2.1.1 x.2.1.2.2.2.2.2.1.2 x.2.1.2.2.2.2.2.2.1 x.2.1.2.2.2.2.2.2.2.1 x.2.1.2.2.2.2.2.2.2.2.1 x.2.1.2.2.2.2.2.2.2.2.2.1 x.2.1.2.2.2.2.2.2.2.2.2.2.1.1 x.2.1.2.2.2.2.2.2.2.2.2.2.1.2 y h) (SpecOk.none _)))))))
noncomputable def law09_ShowApart_Φ (n : Nat) : Orc := with_ Tryd.prog (law09_ShowApart_σ n) [] n 0 hsL
noncomputable def law09_ShowApart_v (n : Nat) (s0 : ByteArray) (b1 : Bool) (j2 : Int) (s3 : ByteArray) (s4 : ByteArray) (b5 : Bool) (j6 : Int) (s7 : ByteArray) (s8 : ByteArray) (b9 : Bool) (j10 : Int) (s11 : ByteArray) (s12 : ByteArray) (b13 : Bool) (r14 : Rows) (s15 : ByteArray) (b16 : Bool) (j17 : Int) (s18 : ByteArray) (b19 : Bool) (r20 : Rows) (s21 : ByteArray) (b22 : Bool) (j23 : Int) (s24 : ByteArray) (s25 : ByteArray) (b26 : Bool) (r27 : Rows) (s28 : ByteArray) (b29 : Bool) (j30 : Int) (s31 : ByteArray) (b32 : Bool) (r33 : Rows) : Option (Bool × Unit) :=
  DM.denFn tm (law09_ShowApart_Φ n) law09_ShowApart_lv n Tryd.f4 false [AV.agg [AV.dv (DV.val (Value.string s0)), AV.dv (DV.val (Value.bool b1)), AV.dv (DV.val (Value.int IntKind.i64 j2)), AV.dv (DV.val (Value.string s3)), AV.dv (DV.val (Value.string s4)), AV.dv (DV.val (Value.bool b5)), AV.dv (DV.val (Value.int IntKind.i64 j6)), AV.dv (DV.val (Value.string s7))], AV.agg [AV.dv (DV.val (Value.string s8)), AV.dv (DV.val (Value.bool b9)), AV.dv (DV.val (Value.int IntKind.i64 j10)), AV.dv (DV.val (Value.string s11)), AV.dv (DV.val (Value.string s12)), AV.sl b13 kdT r14 Right.no, AV.dv (DV.val (Value.string s15)), AV.dv (DV.val (Value.bool b16)), AV.dv (DV.val (Value.int IntKind.i64 j17)), AV.dv (DV.val (Value.string s18)), AV.sl b19 kdL r20 Right.no], AV.agg [AV.dv (DV.val (Value.string s21)), AV.dv (DV.val (Value.bool b22)), AV.dv (DV.val (Value.int IntKind.i64 j23)), AV.dv (DV.val (Value.string s24)), AV.dv (DV.val (Value.string s25)), AV.sl b26 kdT r27 Right.no, AV.dv (DV.val (Value.string s28)), AV.dv (DV.val (Value.bool b29)), AV.dv (DV.val (Value.int IntKind.i64 j30)), AV.dv (DV.val (Value.string s31)), AV.sl b32 kdL r33 Right.no]] [] (OSh.chk (OSh.plain (.b) []))
theorem law09_ShowApart_e (n : Nat) (s0 : ByteArray) (b1 : Bool) (j2 : Int) (s3 : ByteArray) (s4 : ByteArray) (b5 : Bool) (j6 : Int) (s7 : ByteArray) (s8 : ByteArray) (b9 : Bool) (j10 : Int) (s11 : ByteArray) (s12 : ByteArray) (b13 : Bool) (r14 : Rows) (s15 : ByteArray) (b16 : Bool) (j17 : Int) (s18 : ByteArray) (b19 : Bool) (r20 : Rows) (s21 : ByteArray) (b22 : Bool) (j23 : Int) (s24 : ByteArray) (s25 : ByteArray) (b26 : Bool) (r27 : Rows) (s28 : ByteArray) (b29 : Bool) (j30 : Int) (s31 : ByteArray) (b32 : Bool) (r33 : Rows) : law09_ShowApart_v n s0 b1 j2 s3 s4 b5 j6 s7 s8 b9 j10 s11 s12 b13 r14 s15 b16 j17 s18 b19 r20 s21 b22 j23 s24 s25 b26 r27 s28 b29 j30 s31 b32 r33 =
  obind (ref05_Weight_v n false ([[DV.val (Value.string s8), DV.val (Value.bool b9), DV.val (Value.int IntKind.i64 j10), DV.val (Value.string s11), DV.val (Value.string s12), DV.sl b13 kdT r14, DV.val (Value.string s15), DV.val (Value.bool b16), DV.val (Value.int IntKind.i64 j17), DV.val (Value.string s18), DV.sl b19 kdL r20], [DV.val (Value.string s21), DV.val (Value.bool b22), DV.val (Value.int IntKind.i64 j23), DV.val (Value.string s24), DV.val (Value.string s25), DV.sl b26 kdT r27, DV.val (Value.string s28), DV.val (Value.bool b29), DV.val (Value.int IntKind.i64 j30), DV.val (Value.string s31), DV.sl b32 kdL r33]]) 200) fun y34 =>
  bif decide (y34.fst > 200) then
    obind (law09_live_v n) fun y35 =>
    some (y35.fst, ())
  else obind (show_Term_v n s0 b1 j2 s3) fun y36 =>
  obind (show_Term_v n s4 b5 j6 s7) fun y37 =>
  bif y36.fst.snd.fst == 0 then
    bif y37.fst.snd.fst == 0 then
      bif !(y36.fst.fst == y37.fst.fst) == (s0 == s4 && (b1 == b5 && (j2 == j6 && (s3 == s7 && true)))) then
        some (false, ())
      else obind (show_Rule_v n s8 b9 j10 s11 s12 b13 r14 s15 b16 j17 s18 b19 r20) fun y38 =>
      obind (show_Rule_v n s21 b22 j23 s24 s25 b26 r27 s28 b29 j30 s31 b32 r33) fun y39 =>
      bif y38.fst.snd.fst != 0 then
        obind (ref08_Kept_v n (ByteArray.mk #[97])) fun y40 =>
        bif !y40.fst then
          obind (law09_live_v n) fun y41 =>
          some (y41.fst, ())
        else some (false, ())
      else bif y39.fst.snd.fst != 0 then
        obind (ref08_Kept_v n (ByteArray.mk #[97])) fun y42 =>
        bif !y42.fst then
          obind (law09_live_v n) fun y43 =>
          some (y43.fst, ())
        else some (false, ())
      else obind (ref05_SameRule_v n s8 b9 j10 s11 s12 b13 r14 s15 b16 j17 s18 b19 r20 s21 b22 j23 s24 s25 b26 r27 s28 b29 j30 s31 b32 r33) fun y44 =>
      bif (y38.fst.fst == y39.fst.fst) == y44.fst then
        obind (ref08_Kept_v n (ByteArray.mk #[97])) fun y45 =>
        bif !y45.fst then
          obind (law09_live_v n) fun y46 =>
          some (y46.fst, ())
        else some (false, ())
      else some (false, ())
    else obind (show_Rule_v n s8 b9 j10 s11 s12 b13 r14 s15 b16 j17 s18 b19 r20) fun y47 =>
    obind (show_Rule_v n s21 b22 j23 s24 s25 b26 r27 s28 b29 j30 s31 b32 r33) fun y48 =>
    bif y47.fst.snd.fst != 0 then
      obind (ref08_Kept_v n (ByteArray.mk #[97])) fun y49 =>
      bif !y49.fst then
        obind (law09_live_v n) fun y50 =>
        some (y50.fst, ())
      else some (false, ())
    else bif y48.fst.snd.fst != 0 then
      obind (ref08_Kept_v n (ByteArray.mk #[97])) fun y51 =>
      bif !y51.fst then
        obind (law09_live_v n) fun y52 =>
        some (y52.fst, ())
      else some (false, ())
    else obind (ref05_SameRule_v n s8 b9 j10 s11 s12 b13 r14 s15 b16 j17 s18 b19 r20 s21 b22 j23 s24 s25 b26 r27 s28 b29 j30 s31 b32 r33) fun y53 =>
    bif (y47.fst.fst == y48.fst.fst) == y53.fst then
      obind (ref08_Kept_v n (ByteArray.mk #[97])) fun y54 =>
      bif !y54.fst then
        obind (law09_live_v n) fun y55 =>
        some (y55.fst, ())
      else some (false, ())
    else some (false, ())
  else obind (show_Rule_v n s8 b9 j10 s11 s12 b13 r14 s15 b16 j17 s18 b19 r20) fun y56 =>
  obind (show_Rule_v n s21 b22 j23 s24 s25 b26 r27 s28 b29 j30 s31 b32 r33) fun y57 =>
  bif y56.fst.snd.fst != 0 then
    obind (ref08_Kept_v n (ByteArray.mk #[97])) fun y58 =>
    bif !y58.fst then
      obind (law09_live_v n) fun y59 =>
      some (y59.fst, ())
    else some (false, ())
  else bif y57.fst.snd.fst != 0 then
    obind (ref08_Kept_v n (ByteArray.mk #[97])) fun y60 =>
    bif !y60.fst then
      obind (law09_live_v n) fun y61 =>
      some (y61.fst, ())
    else some (false, ())
  else obind (ref05_SameRule_v n s8 b9 j10 s11 s12 b13 r14 s15 b16 j17 s18 b19 r20 s21 b22 j23 s24 s25 b26 r27 s28 b29 j30 s31 b32 r33) fun y62 =>
  bif (y56.fst.fst == y57.fst.fst) == y62.fst then
    obind (ref08_Kept_v n (ByteArray.mk #[97])) fun y63 =>
    bif !y63.fst then
      obind (law09_live_v n) fun y64 =>
      some (y64.fst, ())
    else some (false, ())
  else some (false, ()) := by kernel_rfl
theorem law09_ShowApart_c (n : Nat) (s0 : ByteArray) (b1 : Bool) (j2 : Int) (s3 : ByteArray) (s4 : ByteArray) (b5 : Bool) (j6 : Int) (s7 : ByteArray) (s8 : ByteArray) (b9 : Bool) (j10 : Int) (s11 : ByteArray) (s12 : ByteArray) (b13 : Bool) (r14 : Rows) (s15 : ByteArray) (b16 : Bool) (j17 : Int) (s18 : ByteArray) (b19 : Bool) (r20 : Rows) (s21 : ByteArray) (b22 : Bool) (j23 : Int) (s24 : ByteArray) (s25 : ByteArray) (b26 : Bool) (r27 : Rows) (s28 : ByteArray) (b29 : Bool) (j30 : Int) (s31 : ByteArray) (b32 : Bool) (r33 : Rows) (y : Bool × Unit) (h : law09_ShowApart_v n s0 b1 j2 s3 s4 b5 j6 s7 s8 b9 j10 s11 s12 b13 r14 s15 b16 j17 s18 b19 r20 s21 b22 j23 s24 s25 b26 r27 s28 b29 j30 s31 b32 r33 = some y) : Contract Tryd.prog 4 [AV.agg [AV.dv (DV.val (Value.string s0)), AV.dv (DV.val (Value.bool b1)), AV.dv (DV.val (Value.int IntKind.i64 j2)), AV.dv (DV.val (Value.string s3)), AV.dv (DV.val (Value.string s4)), AV.dv (DV.val (Value.bool b5)), AV.dv (DV.val (Value.int IntKind.i64 j6)), AV.dv (DV.val (Value.string s7))], AV.agg [AV.dv (DV.val (Value.string s8)), AV.dv (DV.val (Value.bool b9)), AV.dv (DV.val (Value.int IntKind.i64 j10)), AV.dv (DV.val (Value.string s11)), AV.dv (DV.val (Value.string s12)), AV.sl b13 kdT r14 Right.no, AV.dv (DV.val (Value.string s15)), AV.dv (DV.val (Value.bool b16)), AV.dv (DV.val (Value.int IntKind.i64 j17)), AV.dv (DV.val (Value.string s18)), AV.sl b19 kdL r20 Right.no], AV.agg [AV.dv (DV.val (Value.string s21)), AV.dv (DV.val (Value.bool b22)), AV.dv (DV.val (Value.int IntKind.i64 j23)), AV.dv (DV.val (Value.string s24)), AV.dv (DV.val (Value.string s25)), AV.sl b26 kdT r27 Right.no, AV.dv (DV.val (Value.string s28)), AV.dv (DV.val (Value.bool b29)), AV.dv (DV.val (Value.int IntKind.i64 j30)), AV.dv (DV.val (Value.string s31)), AV.sl b32 kdL r33 Right.no]] [] (OSh.enc (OSh.plain (.b) []) y) :=
  ac (OSh.plain (.b) []) (law09_ShowApart_σok n) Tryd.func4 (by decide) h
def parse_parser_next_lv : Live := []
noncomputable def parse_parser_next_σ (n : Nat) : Spec := Spec.none
theorem parse_parser_next_σok (n : Nat) : SpecOk Tryd.prog (parse_parser_next_σ n) := (SpecOk.none _)
noncomputable def parse_parser_next_Φ (n : Nat) : Orc := with_ Tryd.prog (parse_parser_next_σ n) [] n 0 hsL
noncomputable def parse_parser_next_v (n : Nat) (b0 : Bool) (r1 : Rows) (j2 : Int) : Option ((Int × ByteArray × Int × Int × Unit) × ((Bool × Rows) × Int × Unit) × Unit) :=
  DM.denFn tm (parse_parser_next_Φ n) parse_parser_next_lv n Tryd.f71 false [AV.pl 1000 0] [[AV.sl b0 kdK r1 Right.no, AV.dv (DV.val (Value.int IntKind.i64 j2))]] (OSh.chk (OSh.plain (.agg [.i IntKind.i64, .s, .i IntKind.i64, .i IntKind.i64]) [[.sl kdK, .i IntKind.i64]]))
theorem parse_parser_next_e (n : Nat) (b0 : Bool) (r1 : Rows) (j2 : Int) : parse_parser_next_v n b0 r1 j2 =
  bif (↑(List.length r1) : Int) == 0 then
    some ((0, (ByteArray.mk #[], (0, (j2, ())))), (((b0, r1), (j2, ())), ()))
  else if 0 < (↑(List.length r1) : Int) then
    some ((Row.I (List.getD r1 0 []) 0, (Row.S (List.getD r1 0 []) 1, (Row.I (List.getD r1 0 []) 2, (Row.I (List.getD r1 0 []) 3, ())))), (((b0, r1), (j2, ())), ()))
  else none := by kernel_rfl
theorem parse_parser_next_c (n : Nat) (b0 : Bool) (r1 : Rows) (j2 : Int) (y : (Int × ByteArray × Int × Int × Unit) × ((Bool × Rows) × Int × Unit) × Unit) (h : parse_parser_next_v n b0 r1 j2 = some y) : Contract Tryd.prog 71 [AV.pl 1000 0] [[AV.sl b0 kdK r1 Right.no, AV.dv (DV.val (Value.int IntKind.i64 j2))]] (OSh.enc (OSh.plain (.agg [.i IntKind.i64, .s, .i IntKind.i64, .i IntKind.i64]) [[.sl kdK, .i IntKind.i64]]) y) :=
  ac (OSh.plain (.agg [.i IntKind.i64, .s, .i IntKind.i64, .i IntKind.i64]) [[.sl kdK, .i IntKind.i64]]) (parse_parser_next_σok n) Tryd.func71 (by decide) h
def parse_kept_lv : Live := []
noncomputable def parse_kept_σ (n : Nat) : Spec := Spec.none
theorem parse_kept_σok (n : Nat) : SpecOk Tryd.prog (parse_kept_σ n) := (SpecOk.none _)
noncomputable def parse_kept_Φ (n : Nat) : Orc := with_ Tryd.prog (parse_kept_σ n) [] n 0 hsL
noncomputable def parse_kept_v (n : Nat) (s0 : ByteArray) : Option (Bool × Unit) :=
  DM.denFn tm (parse_kept_Φ n) parse_kept_lv n Tryd.f72 false [AV.dv (DV.val (Value.string s0))] [] (OSh.chk (OSh.plain (.b) []))
theorem parse_kept_e (n : Nat) (s0 : ByteArray) : parse_kept_v n s0 =
  bif s0 == ByteArray.mk #[115, 97, 121, 115] then
    some (true, ())
  else bif s0 == ByteArray.mk #[116, 111] then
    some (true, ())
  else some (s0 == ByteArray.mk #[97, 116], ()) := by kernel_rfl
theorem parse_kept_c (n : Nat) (s0 : ByteArray) (y : Bool × Unit) (h : parse_kept_v n s0 = some y) : Contract Tryd.prog 72 [AV.dv (DV.val (Value.string s0))] [] (OSh.enc (OSh.plain (.b) []) y) :=
  ac (OSh.plain (.b) []) (parse_kept_σok n) Tryd.func72 (by decide) h
def parse_parser_begins_lv : Live := []
noncomputable def parse_parser_begins_σ (n : Nat) : Spec := (inst 71 [.pl 1000 0] [[.sl kdK, .i IntKind.i64]] (OSh.plain (.agg [.i IntKind.i64, .s, .i IntKind.i64, .i IntKind.i64]) [[.sl kdK, .i IntKind.i64]]) (fun x e => parse_parser_next_v n e.1.1.1 e.1.1.2 e.1.2.1) (inst 72 [.s] [] (OSh.plain (.b) []) (fun x e => parse_kept_v n x.1) Spec.none))
theorem parse_parser_begins_σok (n : Nat) : SpecOk Tryd.prog (parse_parser_begins_σ n) := (inst_ok (fun x e y h => parse_parser_next_c n e.1.1.1 e.1.1.2 e.1.2.1 y h) (inst_ok (fun x e y h => parse_kept_c n x.1 y h) (SpecOk.none _)))
noncomputable def parse_parser_begins_Φ (n : Nat) : Orc := with_ Tryd.prog (parse_parser_begins_σ n) [] n 0 hsL
noncomputable def parse_parser_begins_v (n : Nat) (b0 : Bool) (r1 : Rows) (j2 : Int) : Option (Bool × ((Bool × Rows) × Int × Unit) × Unit) :=
  DM.denFn tm (parse_parser_begins_Φ n) parse_parser_begins_lv n Tryd.f52 false [AV.pl 1000 0] [[AV.sl b0 kdK r1 Right.no, AV.dv (DV.val (Value.int IntKind.i64 j2))]] (OSh.chk (OSh.plain (.b) [[.sl kdK, .i IntKind.i64]]))
theorem parse_parser_begins_e (n : Nat) (b0 : Bool) (r1 : Rows) (j2 : Int) : parse_parser_begins_v n b0 r1 j2 =
  obind (parse_parser_next_v n b0 r1 j2) fun y3 =>
  bif y3.fst.fst == 2 then
    some (true, (((y3.snd.fst.fst.fst, y3.snd.fst.fst.snd), (y3.snd.fst.snd.fst, ())), ()))
  else bif y3.fst.fst == 3 then
    some (true, (((y3.snd.fst.fst.fst, y3.snd.fst.fst.snd), (y3.snd.fst.snd.fst, ())), ()))
  else bif y3.fst.fst == 1 then
    obind (parse_kept_v n y3.fst.snd.fst) fun y4 =>
    bif !y4.fst then
      some (true, (((y3.snd.fst.fst.fst, y3.snd.fst.fst.snd), (y3.snd.fst.snd.fst, ())), ()))
    else bif y3.fst.fst == 4 then
      some (!y3.fst.snd.fst == ByteArray.mk #[], (((y3.snd.fst.fst.fst, y3.snd.fst.fst.snd), (y3.snd.fst.snd.fst, ())), ()))
    else some (false, (((y3.snd.fst.fst.fst, y3.snd.fst.fst.snd), (y3.snd.fst.snd.fst, ())), ()))
  else bif y3.fst.fst == 4 then
    some (!y3.fst.snd.fst == ByteArray.mk #[], (((y3.snd.fst.fst.fst, y3.snd.fst.fst.snd), (y3.snd.fst.snd.fst, ())), ()))
  else some (false, (((y3.snd.fst.fst.fst, y3.snd.fst.fst.snd), (y3.snd.fst.snd.fst, ())), ())) := by kernel_rfl
theorem parse_parser_begins_c (n : Nat) (b0 : Bool) (r1 : Rows) (j2 : Int) (y : Bool × ((Bool × Rows) × Int × Unit) × Unit) (h : parse_parser_begins_v n b0 r1 j2 = some y) : Contract Tryd.prog 52 [AV.pl 1000 0] [[AV.sl b0 kdK r1 Right.no, AV.dv (DV.val (Value.int IntKind.i64 j2))]] (OSh.enc (OSh.plain (.b) [[.sl kdK, .i IntKind.i64]]) y) :=
  ac (OSh.plain (.b) [[.sl kdK, .i IntKind.i64]]) (parse_parser_begins_σok n) Tryd.func52 (by decide) h
def parse_parser_fail_lv : Live := []
noncomputable def parse_parser_fail_σ (n : Nat) : Spec := (inst 71 [.pl 1000 0] [[.sl kdK, .i IntKind.i64]] (OSh.plain (.agg [.i IntKind.i64, .s, .i IntKind.i64, .i IntKind.i64]) [[.sl kdK, .i IntKind.i64]]) (fun x e => parse_parser_next_v n e.1.1.1 e.1.1.2 e.1.2.1) Spec.none)
theorem parse_parser_fail_σok (n : Nat) : SpecOk Tryd.prog (parse_parser_fail_σ n) := (inst_ok (fun x e y h => parse_parser_next_c n e.1.1.1 e.1.1.2 e.1.2.1 y h) (SpecOk.none _))
noncomputable def parse_parser_fail_Φ (n : Nat) : Orc := with_ Tryd.prog (parse_parser_fail_σ n) [] n 0 hsL
noncomputable def parse_parser_fail_v (n : Nat) (j0 : Int) (b1 : Bool) (r2 : Rows) (j3 : Int) : Option (Bool × Unit × (Int × Int × Unit) × ((Bool × Rows) × Int × Unit) × Unit) :=
  DM.denFn tm (parse_parser_fail_Φ n) parse_parser_fail_lv n Tryd.f53 false [AV.pl 1000 0, AV.dv (DV.val (Value.int IntKind.i64 j0))] [[AV.sl b1 kdK r2 Right.no, AV.dv (DV.val (Value.int IntKind.i64 j3))]] (OSh.chk (OSh.pan (.junk) (.ifc 93 (.agg [.i IntKind.i64, .i IntKind.i64])) [[.sl kdK, .i IntKind.i64]]))
theorem parse_parser_fail_e (n : Nat) (j0 : Int) (b1 : Bool) (r2 : Rows) (j3 : Int) : parse_parser_fail_v n j0 b1 r2 j3 =
  obind (parse_parser_next_v n b1 r2 j3) fun y4 =>
  some (true, Sh.dflt (.junk), (y4.fst.snd.snd.snd.fst, (j0, ())), (((y4.snd.fst.fst.fst, y4.snd.fst.fst.snd), (y4.snd.fst.snd.fst, ())), ())) := by kernel_rfl
theorem parse_parser_fail_c (n : Nat) (j0 : Int) (b1 : Bool) (r2 : Rows) (j3 : Int) (y : Bool × Unit × (Int × Int × Unit) × ((Bool × Rows) × Int × Unit) × Unit) (h : parse_parser_fail_v n j0 b1 r2 j3 = some y) : Contract Tryd.prog 53 [AV.pl 1000 0, AV.dv (DV.val (Value.int IntKind.i64 j0))] [[AV.sl b1 kdK r2 Right.no, AV.dv (DV.val (Value.int IntKind.i64 j3))]] (OSh.enc (OSh.pan (.junk) (.ifc 93 (.agg [.i IntKind.i64, .i IntKind.i64])) [[.sl kdK, .i IntKind.i64]]) y) :=
  ac (OSh.pan (.junk) (.ifc 93 (.agg [.i IntKind.i64, .i IntKind.i64])) [[.sl kdK, .i IntKind.i64]]) (parse_parser_fail_σok n) Tryd.func53 (by decide) h
end Go.Den
namespace Go.Den
open Go.Proofs
set_option maxRecDepth 100000
def parse_parser_term_lv : Live := []
noncomputable def parse_parser_term_σ (n : Nat) : Spec := (inst 52 [.pl 1000 0] [[.sl kdK, .i IntKind.i64]] (OSh.plain (.b) [[.sl kdK, .i IntKind.i64]]) (fun x e => parse_parser_begins_v n e.1.1.1 e.1.1.2 e.1.2.1) (inst 53 [.pl 1000 0, .i IntKind.i64] [[.sl kdK, .i IntKind.i64]] (OSh.pan (.junk) (.ifc 93 (.agg [.i IntKind.i64, .i IntKind.i64])) [[.sl kdK, .i IntKind.i64]]) (fun x e => parse_parser_fail_v n x.2.1 e.1.1.1 e.1.1.2 e.1.2.1) (inst 71 [.pl 1000 0] [[.sl kdK, .i IntKind.i64]] (OSh.plain (.agg [.i IntKind.i64, .s, .i IntKind.i64, .i IntKind.i64]) [[.sl kdK, .i IntKind.i64]]) (fun x e => parse_parser_next_v n e.1.1.1 e.1.1.2 e.1.2.1) Spec.none)))
theorem parse_parser_term_σok (n : Nat) : SpecOk Tryd.prog (parse_parser_term_σ n) := (inst_ok (fun x e y h => parse_parser_begins_c n e.1.1.1 e.1.1.2 e.1.2.1 y h) (inst_ok (fun x e y h => parse_parser_fail_c n x.2.1 e.1.1.1 e.1.1.2 e.1.2.1 y h) (inst_ok (fun x e y h => parse_parser_next_c n e.1.1.1 e.1.1.2 e.1.2.1 y h) (SpecOk.none _))))
noncomputable def parse_parser_term_Φ (n : Nat) : Orc := with_ Tryd.prog (parse_parser_term_σ n) [] n 0 hsL
noncomputable def parse_parser_term_v (n : Nat) (b0 : Bool) (r1 : Rows) (j2 : Int) : Option (Bool × (ByteArray × Bool × Int × ByteArray × Unit) × (Int × Int × Unit) × ((Bool × Rows) × Int × Unit) × Unit) :=
  DM.denFn tm (parse_parser_term_Φ n) parse_parser_term_lv n Tryd.f73 false [AV.pl 1000 0] [[AV.sl b0 kdK r1 Right.no, AV.dv (DV.val (Value.int IntKind.i64 j2))]] (OSh.chk (OSh.pan (.agg [.s, .b, .i IntKind.i64, .s]) (.ifc 93 (.agg [.i IntKind.i64, .i IntKind.i64])) [[.sl kdK, .i IntKind.i64]]))
theorem parse_parser_term_e (n : Nat) (b0 : Bool) (r1 : Rows) (j2 : Int) : parse_parser_term_v n b0 r1 j2 =
  obind (parse_parser_begins_v n b0 r1 j2) fun y3 =>
  bif !y3.fst then
    obind (parse_parser_fail_v n 80 y3.snd.fst.fst.fst y3.snd.fst.fst.snd y3.snd.fst.snd.fst) fun y4 =>
    bif y4.fst then
      some (true, Sh.dflt (.agg [.s, .b, .i IntKind.i64, .s]), (y4.snd.snd.fst.fst, (y4.snd.snd.fst.snd.fst, ())), (((y4.snd.snd.snd.fst.fst.fst, y4.snd.snd.snd.fst.fst.snd), (y4.snd.snd.snd.fst.snd.fst, ())), ()))
    else obind (parse_parser_next_v n y4.snd.snd.snd.fst.fst.fst y4.snd.snd.snd.fst.fst.snd y4.snd.snd.snd.fst.snd.fst) fun y5 =>
    if 1 ≤ (↑(List.length y5.snd.fst.fst.snd) : Int) then
      if (↑(List.length y5.snd.fst.fst.snd) : Int) ≤ (↑(List.length y5.snd.fst.fst.snd) : Int) then
        bif y5.fst.fst == 2 then
          some (false, (y5.fst.snd.fst, (false, (0, (ByteArray.mk #[], ())))), Sh.dflt (.ifc 93 (.agg [.i IntKind.i64, .i IntKind.i64])), (((y5.snd.fst.fst.fst, List.drop 1 (List.take (Int.toNat (↑(List.length y5.snd.fst.fst.snd) : Int)) y5.snd.fst.fst.snd)), (y5.snd.fst.snd.fst, ())), ()))
        else bif y5.fst.fst == 3 then
          some (false, (ByteArray.mk #[], (true, (y5.fst.snd.snd.fst, (ByteArray.mk #[], ())))), Sh.dflt (.ifc 93 (.agg [.i IntKind.i64, .i IntKind.i64])), (((y5.snd.fst.fst.fst, List.drop 1 (List.take (Int.toNat (↑(List.length y5.snd.fst.fst.snd) : Int)) y5.snd.fst.fst.snd)), (y5.snd.fst.snd.fst, ())), ()))
        else some (false, (ByteArray.mk #[], (false, (0, (y5.fst.snd.fst, ())))), Sh.dflt (.ifc 93 (.agg [.i IntKind.i64, .i IntKind.i64])), (((y5.snd.fst.fst.fst, List.drop 1 (List.take (Int.toNat (↑(List.length y5.snd.fst.fst.snd) : Int)) y5.snd.fst.fst.snd)), (y5.snd.fst.snd.fst, ())), ()))
      else none
    else none
  else obind (parse_parser_next_v n y3.snd.fst.fst.fst y3.snd.fst.fst.snd y3.snd.fst.snd.fst) fun y6 =>
  if 1 ≤ (↑(List.length y6.snd.fst.fst.snd) : Int) then
    if (↑(List.length y6.snd.fst.fst.snd) : Int) ≤ (↑(List.length y6.snd.fst.fst.snd) : Int) then
      bif y6.fst.fst == 2 then
        some (false, (y6.fst.snd.fst, (false, (0, (ByteArray.mk #[], ())))), Sh.dflt (.ifc 93 (.agg [.i IntKind.i64, .i IntKind.i64])), (((y6.snd.fst.fst.fst, List.drop 1 (List.take (Int.toNat (↑(List.length y6.snd.fst.fst.snd) : Int)) y6.snd.fst.fst.snd)), (y6.snd.fst.snd.fst, ())), ()))
      else bif y6.fst.fst == 3 then
        some (false, (ByteArray.mk #[], (true, (y6.fst.snd.snd.fst, (ByteArray.mk #[], ())))), Sh.dflt (.ifc 93 (.agg [.i IntKind.i64, .i IntKind.i64])), (((y6.snd.fst.fst.fst, List.drop 1 (List.take (Int.toNat (↑(List.length y6.snd.fst.fst.snd) : Int)) y6.snd.fst.fst.snd)), (y6.snd.fst.snd.fst, ())), ()))
      else some (false, (ByteArray.mk #[], (false, (0, (y6.fst.snd.fst, ())))), Sh.dflt (.ifc 93 (.agg [.i IntKind.i64, .i IntKind.i64])), (((y6.snd.fst.fst.fst, List.drop 1 (List.take (Int.toNat (↑(List.length y6.snd.fst.fst.snd) : Int)) y6.snd.fst.fst.snd)), (y6.snd.fst.snd.fst, ())), ()))
    else none
  else none := by kernel_rfl
theorem parse_parser_term_c (n : Nat) (b0 : Bool) (r1 : Rows) (j2 : Int) (y : Bool × (ByteArray × Bool × Int × ByteArray × Unit) × (Int × Int × Unit) × ((Bool × Rows) × Int × Unit) × Unit) (h : parse_parser_term_v n b0 r1 j2 = some y) : Contract Tryd.prog 73 [AV.pl 1000 0] [[AV.sl b0 kdK r1 Right.no, AV.dv (DV.val (Value.int IntKind.i64 j2))]] (OSh.enc (OSh.pan (.agg [.s, .b, .i IntKind.i64, .s]) (.ifc 93 (.agg [.i IntKind.i64, .i IntKind.i64])) [[.sl kdK, .i IntKind.i64]]) y) :=
  ac (OSh.pan (.agg [.s, .b, .i IntKind.i64, .s]) (.ifc 93 (.agg [.i IntKind.i64, .i IntKind.i64])) [[.sl kdK, .i IntKind.i64]]) (parse_parser_term_σok n) Tryd.func73 (by decide) h
def parse_parser_is_lv : Live := []
noncomputable def parse_parser_is_σ (n : Nat) : Spec := (inst 71 [.pl 1000 0] [[.sl kdK, .i IntKind.i64]] (OSh.plain (.agg [.i IntKind.i64, .s, .i IntKind.i64, .i IntKind.i64]) [[.sl kdK, .i IntKind.i64]]) (fun x e => parse_parser_next_v n e.1.1.1 e.1.1.2 e.1.2.1) (inst 72 [.s] [] (OSh.plain (.b) []) (fun x e => parse_kept_v n x.1) Spec.none))
theorem parse_parser_is_σok (n : Nat) : SpecOk Tryd.prog (parse_parser_is_σ n) := (inst_ok (fun x e y h => parse_parser_next_c n e.1.1.1 e.1.1.2 e.1.2.1 y h) (inst_ok (fun x e y h => parse_kept_c n x.1 y h) (SpecOk.none _)))
noncomputable def parse_parser_is_Φ (n : Nat) : Orc := with_ Tryd.prog (parse_parser_is_σ n) [] n 0 hsL
noncomputable def parse_parser_is_v (n : Nat) (s0 : ByteArray) (b1 : Bool) (r2 : Rows) (j3 : Int) : Option (Bool × ((Bool × Rows) × Int × Unit) × Unit) :=
  DM.denFn tm (parse_parser_is_Φ n) parse_parser_is_lv n Tryd.f100 false [AV.pl 1000 0, AV.dv (DV.val (Value.string s0))] [[AV.sl b1 kdK r2 Right.no, AV.dv (DV.val (Value.int IntKind.i64 j3))]] (OSh.chk (OSh.plain (.b) [[.sl kdK, .i IntKind.i64]]))
theorem parse_parser_is_e (n : Nat) (s0 : ByteArray) (b1 : Bool) (r2 : Rows) (j3 : Int) : parse_parser_is_v n s0 b1 r2 j3 =
  obind (parse_parser_next_v n b1 r2 j3) fun y4 =>
  bif y4.fst.snd.fst == s0 then
    bif y4.fst.fst == 5 then
      some (true, (((y4.snd.fst.fst.fst, y4.snd.fst.fst.snd), (y4.snd.fst.snd.fst, ())), ()))
    else bif y4.fst.fst == 1 then
      obind (parse_kept_v n s0) fun y5 =>
      some (y5.fst, (((y4.snd.fst.fst.fst, y4.snd.fst.fst.snd), (y4.snd.fst.snd.fst, ())), ()))
    else some (false, (((y4.snd.fst.fst.fst, y4.snd.fst.fst.snd), (y4.snd.fst.snd.fst, ())), ()))
  else some (false, (((y4.snd.fst.fst.fst, y4.snd.fst.fst.snd), (y4.snd.fst.snd.fst, ())), ())) := by kernel_rfl
theorem parse_parser_is_c (n : Nat) (s0 : ByteArray) (b1 : Bool) (r2 : Rows) (j3 : Int) (y : Bool × ((Bool × Rows) × Int × Unit) × Unit) (h : parse_parser_is_v n s0 b1 r2 j3 = some y) : Contract Tryd.prog 100 [AV.pl 1000 0, AV.dv (DV.val (Value.string s0))] [[AV.sl b1 kdK r2 Right.no, AV.dv (DV.val (Value.int IntKind.i64 j3))]] (OSh.enc (OSh.plain (.b) [[.sl kdK, .i IntKind.i64]]) y) :=
  ac (OSh.plain (.b) [[.sl kdK, .i IntKind.i64]]) (parse_parser_is_σok n) Tryd.func100 (by decide) h
def parse_parser_pass_lv : Live := []
noncomputable def parse_parser_pass_σ (n : Nat) : Spec := (inst 100 [.pl 1000 0, .s] [[.sl kdK, .i IntKind.i64]] (OSh.plain (.b) [[.sl kdK, .i IntKind.i64]]) (fun x e => parse_parser_is_v n x.2.1 e.1.1.1 e.1.1.2 e.1.2.1) Spec.none)
theorem parse_parser_pass_σok (n : Nat) : SpecOk Tryd.prog (parse_parser_pass_σ n) := (inst_ok (fun x e y h => parse_parser_is_c n x.2.1 e.1.1.1 e.1.1.2 e.1.2.1 y h) (SpecOk.none _))
noncomputable def parse_parser_pass_Φ (n : Nat) : Orc := with_ Tryd.prog (parse_parser_pass_σ n) [] n 0 hsL
noncomputable def parse_parser_pass_v (n : Nat) (s0 : ByteArray) (b1 : Bool) (r2 : Rows) (j3 : Int) : Option (Bool × ((Bool × Rows) × Int × Unit) × Unit) :=
  DM.denFn tm (parse_parser_pass_Φ n) parse_parser_pass_lv n Tryd.f77 false [AV.pl 1000 0, AV.dv (DV.val (Value.string s0))] [[AV.sl b1 kdK r2 Right.no, AV.dv (DV.val (Value.int IntKind.i64 j3))]] (OSh.chk (OSh.plain (.b) [[.sl kdK, .i IntKind.i64]]))
theorem parse_parser_pass_e (n : Nat) (s0 : ByteArray) (b1 : Bool) (r2 : Rows) (j3 : Int) : parse_parser_pass_v n s0 b1 r2 j3 =
  obind (parse_parser_is_v n s0 b1 r2 j3) fun y4 =>
  bif !y4.fst then
    some (false, (((y4.snd.fst.fst.fst, y4.snd.fst.fst.snd), (y4.snd.fst.snd.fst, ())), ()))
  else if 1 ≤ (↑(List.length y4.snd.fst.fst.snd) : Int) then
    if (↑(List.length y4.snd.fst.fst.snd) : Int) ≤ (↑(List.length y4.snd.fst.fst.snd) : Int) then
      some (true, (((y4.snd.fst.fst.fst, List.drop 1 (List.take (Int.toNat (↑(List.length y4.snd.fst.fst.snd) : Int)) y4.snd.fst.fst.snd)), (y4.snd.fst.snd.fst, ())), ()))
    else none
  else none := by kernel_rfl
theorem parse_parser_pass_c (n : Nat) (s0 : ByteArray) (b1 : Bool) (r2 : Rows) (j3 : Int) (y : Bool × ((Bool × Rows) × Int × Unit) × Unit) (h : parse_parser_pass_v n s0 b1 r2 j3 = some y) : Contract Tryd.prog 77 [AV.pl 1000 0, AV.dv (DV.val (Value.string s0))] [[AV.sl b1 kdK r2 Right.no, AV.dv (DV.val (Value.int IntKind.i64 j3))]] (OSh.enc (OSh.plain (.b) [[.sl kdK, .i IntKind.i64]]) y) :=
  ac (OSh.plain (.b) [[.sl kdK, .i IntKind.i64]]) (parse_parser_pass_σok n) Tryd.func77 (by decide) h
def parse_parser_must_lv : Live := []
noncomputable def parse_parser_must_σ (n : Nat) : Spec := (inst 77 [.pl 1000 0, .s] [[.sl kdK, .i IntKind.i64]] (OSh.plain (.b) [[.sl kdK, .i IntKind.i64]]) (fun x e => parse_parser_pass_v n x.2.1 e.1.1.1 e.1.1.2 e.1.2.1) (inst 53 [.pl 1000 0, .i IntKind.i64] [[.sl kdK, .i IntKind.i64]] (OSh.pan (.junk) (.ifc 93 (.agg [.i IntKind.i64, .i IntKind.i64])) [[.sl kdK, .i IntKind.i64]]) (fun x e => parse_parser_fail_v n x.2.1 e.1.1.1 e.1.1.2 e.1.2.1) Spec.none))
theorem parse_parser_must_σok (n : Nat) : SpecOk Tryd.prog (parse_parser_must_σ n) := (inst_ok (fun x e y h => parse_parser_pass_c n x.2.1 e.1.1.1 e.1.1.2 e.1.2.1 y h) (inst_ok (fun x e y h => parse_parser_fail_c n x.2.1 e.1.1.1 e.1.1.2 e.1.2.1 y h) (SpecOk.none _)))
noncomputable def parse_parser_must_Φ (n : Nat) : Orc := with_ Tryd.prog (parse_parser_must_σ n) [] n 0 hsL
noncomputable def parse_parser_must_v (n : Nat) (s0 : ByteArray) (b1 : Bool) (r2 : Rows) (j3 : Int) : Option (Bool × Unit × (Int × Int × Unit) × ((Bool × Rows) × Int × Unit) × Unit) :=
  DM.denFn tm (parse_parser_must_Φ n) parse_parser_must_lv n Tryd.f74 false [AV.pl 1000 0, AV.dv (DV.val (Value.string s0))] [[AV.sl b1 kdK r2 Right.no, AV.dv (DV.val (Value.int IntKind.i64 j3))]] (OSh.chk (OSh.pan (.tup []) (.ifc 93 (.agg [.i IntKind.i64, .i IntKind.i64])) [[.sl kdK, .i IntKind.i64]]))
theorem parse_parser_must_e (n : Nat) (s0 : ByteArray) (b1 : Bool) (r2 : Rows) (j3 : Int) : parse_parser_must_v n s0 b1 r2 j3 =
  obind (parse_parser_pass_v n s0 b1 r2 j3) fun y4 =>
  bif !y4.fst then
    obind (parse_parser_fail_v n 80 y4.snd.fst.fst.fst y4.snd.fst.fst.snd y4.snd.fst.snd.fst) fun y5 =>
    bif y5.fst then
      some (true, Sh.dflt (.tup []), (y5.snd.snd.fst.fst, (y5.snd.snd.fst.snd.fst, ())), (((y5.snd.snd.snd.fst.fst.fst, y5.snd.snd.snd.fst.fst.snd), (y5.snd.snd.snd.fst.snd.fst, ())), ()))
    else some (false, (), Sh.dflt (.ifc 93 (.agg [.i IntKind.i64, .i IntKind.i64])), (((y5.snd.snd.snd.fst.fst.fst, y5.snd.snd.snd.fst.fst.snd), (y5.snd.snd.snd.fst.snd.fst, ())), ()))
  else some (false, (), Sh.dflt (.ifc 93 (.agg [.i IntKind.i64, .i IntKind.i64])), (((y4.snd.fst.fst.fst, y4.snd.fst.fst.snd), (y4.snd.fst.snd.fst, ())), ())) := by kernel_rfl
theorem parse_parser_must_c (n : Nat) (s0 : ByteArray) (b1 : Bool) (r2 : Rows) (j3 : Int) (y : Bool × Unit × (Int × Int × Unit) × ((Bool × Rows) × Int × Unit) × Unit) (h : parse_parser_must_v n s0 b1 r2 j3 = some y) : Contract Tryd.prog 74 [AV.pl 1000 0, AV.dv (DV.val (Value.string s0))] [[AV.sl b1 kdK r2 Right.no, AV.dv (DV.val (Value.int IntKind.i64 j3))]] (OSh.enc (OSh.pan (.tup []) (.ifc 93 (.agg [.i IntKind.i64, .i IntKind.i64])) [[.sl kdK, .i IntKind.i64]]) y) :=
  ac (OSh.pan (.tup []) (.ifc 93 (.agg [.i IntKind.i64, .i IntKind.i64])) [[.sl kdK, .i IntKind.i64]]) (parse_parser_must_σok n) Tryd.func74 (by decide) h
def parse_parser_word_lv : Live := []
noncomputable def parse_parser_word_σ (n : Nat) : Spec := (inst 71 [.pl 1000 0] [[.sl kdK, .i IntKind.i64]] (OSh.plain (.agg [.i IntKind.i64, .s, .i IntKind.i64, .i IntKind.i64]) [[.sl kdK, .i IntKind.i64]]) (fun x e => parse_parser_next_v n e.1.1.1 e.1.1.2 e.1.2.1) (inst 53 [.pl 1000 0, .i IntKind.i64] [[.sl kdK, .i IntKind.i64]] (OSh.pan (.junk) (.ifc 93 (.agg [.i IntKind.i64, .i IntKind.i64])) [[.sl kdK, .i IntKind.i64]]) (fun x e => parse_parser_fail_v n x.2.1 e.1.1.1 e.1.1.2 e.1.2.1) (inst 72 [.s] [] (OSh.plain (.b) []) (fun x e => parse_kept_v n x.1) Spec.none)))
theorem parse_parser_word_σok (n : Nat) : SpecOk Tryd.prog (parse_parser_word_σ n) := (inst_ok (fun x e y h => parse_parser_next_c n e.1.1.1 e.1.1.2 e.1.2.1 y h) (inst_ok (fun x e y h => parse_parser_fail_c n x.2.1 e.1.1.1 e.1.1.2 e.1.2.1 y h) (inst_ok (fun x e y h => parse_kept_c n x.1 y h) (SpecOk.none _))))
noncomputable def parse_parser_word_Φ (n : Nat) : Orc := with_ Tryd.prog (parse_parser_word_σ n) [] n 0 hsL
noncomputable def parse_parser_word_v (n : Nat) (b0 : Bool) (r1 : Rows) (j2 : Int) : Option (Bool × ByteArray × (Int × Int × Unit) × ((Bool × Rows) × Int × Unit) × Unit) :=
  DM.denFn tm (parse_parser_word_Φ n) parse_parser_word_lv n Tryd.f75 false [AV.pl 1000 0] [[AV.sl b0 kdK r1 Right.no, AV.dv (DV.val (Value.int IntKind.i64 j2))]] (OSh.chk (OSh.pan (.s) (.ifc 93 (.agg [.i IntKind.i64, .i IntKind.i64])) [[.sl kdK, .i IntKind.i64]]))
theorem parse_parser_word_e (n : Nat) (b0 : Bool) (r1 : Rows) (j2 : Int) : parse_parser_word_v n b0 r1 j2 =
  obind (parse_parser_next_v n b0 r1 j2) fun y3 =>
  bif y3.fst.fst != 1 then
    obind (parse_parser_fail_v n 80 y3.snd.fst.fst.fst y3.snd.fst.fst.snd y3.snd.fst.snd.fst) fun y4 =>
    bif y4.fst then
      some (true, Sh.dflt (.s), (y4.snd.snd.fst.fst, (y4.snd.snd.fst.snd.fst, ())), (((y4.snd.snd.snd.fst.fst.fst, y4.snd.snd.snd.fst.fst.snd), (y4.snd.snd.snd.fst.snd.fst, ())), ()))
    else if 1 ≤ (↑(List.length y4.snd.snd.snd.fst.fst.snd) : Int) then
      if (↑(List.length y4.snd.snd.snd.fst.fst.snd) : Int) ≤ (↑(List.length y4.snd.snd.snd.fst.fst.snd) : Int) then
        some (false, y3.fst.snd.fst, Sh.dflt (.ifc 93 (.agg [.i IntKind.i64, .i IntKind.i64])), (((y4.snd.snd.snd.fst.fst.fst, List.drop 1 (List.take (Int.toNat (↑(List.length y4.snd.snd.snd.fst.fst.snd) : Int)) y4.snd.snd.snd.fst.fst.snd)), (y4.snd.snd.snd.fst.snd.fst, ())), ()))
      else none
    else none
  else obind (parse_kept_v n y3.fst.snd.fst) fun y5 =>
  bif y5.fst then
    obind (parse_parser_fail_v n 80 y3.snd.fst.fst.fst y3.snd.fst.fst.snd y3.snd.fst.snd.fst) fun y6 =>
    bif y6.fst then
      some (true, Sh.dflt (.s), (y6.snd.snd.fst.fst, (y6.snd.snd.fst.snd.fst, ())), (((y6.snd.snd.snd.fst.fst.fst, y6.snd.snd.snd.fst.fst.snd), (y6.snd.snd.snd.fst.snd.fst, ())), ()))
    else if 1 ≤ (↑(List.length y6.snd.snd.snd.fst.fst.snd) : Int) then
      if (↑(List.length y6.snd.snd.snd.fst.fst.snd) : Int) ≤ (↑(List.length y6.snd.snd.snd.fst.fst.snd) : Int) then
        some (false, y3.fst.snd.fst, Sh.dflt (.ifc 93 (.agg [.i IntKind.i64, .i IntKind.i64])), (((y6.snd.snd.snd.fst.fst.fst, List.drop 1 (List.take (Int.toNat (↑(List.length y6.snd.snd.snd.fst.fst.snd) : Int)) y6.snd.snd.snd.fst.fst.snd)), (y6.snd.snd.snd.fst.snd.fst, ())), ()))
      else none
    else none
  else if 1 ≤ (↑(List.length y3.snd.fst.fst.snd) : Int) then
    if (↑(List.length y3.snd.fst.fst.snd) : Int) ≤ (↑(List.length y3.snd.fst.fst.snd) : Int) then
      some (false, y3.fst.snd.fst, Sh.dflt (.ifc 93 (.agg [.i IntKind.i64, .i IntKind.i64])), (((y3.snd.fst.fst.fst, List.drop 1 (List.take (Int.toNat (↑(List.length y3.snd.fst.fst.snd) : Int)) y3.snd.fst.fst.snd)), (y3.snd.fst.snd.fst, ())), ()))
    else none
  else none := by kernel_rfl
theorem parse_parser_word_c (n : Nat) (b0 : Bool) (r1 : Rows) (j2 : Int) (y : Bool × ByteArray × (Int × Int × Unit) × ((Bool × Rows) × Int × Unit) × Unit) (h : parse_parser_word_v n b0 r1 j2 = some y) : Contract Tryd.prog 75 [AV.pl 1000 0] [[AV.sl b0 kdK r1 Right.no, AV.dv (DV.val (Value.int IntKind.i64 j2))]] (OSh.enc (OSh.pan (.s) (.ifc 93 (.agg [.i IntKind.i64, .i IntKind.i64])) [[.sl kdK, .i IntKind.i64]]) y) :=
  ac (OSh.pan (.s) (.ifc 93 (.agg [.i IntKind.i64, .i IntKind.i64])) [[.sl kdK, .i IntKind.i64]]) (parse_parser_word_σok n) Tryd.func75 (by decide) h
def parse_parser_args_lv : Live := [(5, [0, 3], [1000, 1001, 1002, 1003])]
noncomputable def parse_parser_args_σ (n : Nat) : Spec := (inst 74 [.pl 1000 0, .s] [[.sl kdK, .i IntKind.i64]] (OSh.pan (.tup []) (.ifc 93 (.agg [.i IntKind.i64, .i IntKind.i64])) [[.sl kdK, .i IntKind.i64]]) (fun x e => parse_parser_must_v n x.2.1 e.1.1.1 e.1.1.2 e.1.2.1) (inst 77 [.pl 1000 0, .s] [[.sl kdK, .i IntKind.i64]] (OSh.plain (.b) [[.sl kdK, .i IntKind.i64]]) (fun x e => parse_parser_pass_v n x.2.1 e.1.1.1 e.1.1.2 e.1.2.1) (inst 52 [.pl 1000 0] [[.sl kdK, .i IntKind.i64]] (OSh.plain (.b) [[.sl kdK, .i IntKind.i64]]) (fun x e => parse_parser_begins_v n e.1.1.1 e.1.1.2 e.1.2.1) (inst 73 [.pl 1000 0] [[.sl kdK, .i IntKind.i64]] (OSh.pan (.agg [.s, .b, .i IntKind.i64, .s]) (.ifc 93 (.agg [.i IntKind.i64, .i IntKind.i64])) [[.sl kdK, .i IntKind.i64]]) (fun x e => parse_parser_term_v n e.1.1.1 e.1.1.2 e.1.2.1) (inst 53 [.pl 1000 0, .i IntKind.i64] [[.sl kdK, .i IntKind.i64]] (OSh.pan (.junk) (.ifc 93 (.agg [.i IntKind.i64, .i IntKind.i64])) [[.sl kdK, .i IntKind.i64]]) (fun x e => parse_parser_fail_v n x.2.1 e.1.1.1 e.1.1.2 e.1.2.1) Spec.none)))))
theorem parse_parser_args_σok (n : Nat) : SpecOk Tryd.prog (parse_parser_args_σ n) := (inst_ok (fun x e y h => parse_parser_must_c n x.2.1 e.1.1.1 e.1.1.2 e.1.2.1 y h) (inst_ok (fun x e y h => parse_parser_pass_c n x.2.1 e.1.1.1 e.1.1.2 e.1.2.1 y h) (inst_ok (fun x e y h => parse_parser_begins_c n e.1.1.1 e.1.1.2 e.1.2.1 y h) (inst_ok (fun x e y h => parse_parser_term_c n e.1.1.1 e.1.1.2 e.1.2.1 y h) (inst_ok (fun x e y h => parse_parser_fail_c n x.2.1 e.1.1.1 e.1.1.2 e.1.2.1 y h) (SpecOk.none _))))))
noncomputable def parse_parser_args_Φ (n : Nat) : Orc := with_ Tryd.prog (parse_parser_args_σ n) [] n 0 hsL
noncomputable def parse_parser_args_v (n : Nat) (b0 : Bool) (r1 : Rows) (j2 : Int) : Option (Bool × (Bool × Rows) × (Int × Int × Unit) × ((Bool × Rows) × Int × Unit) × Unit) :=
  DM.denFn tm (parse_parser_args_Φ n) parse_parser_args_lv n Tryd.f76 true [AV.pl 1000 0] [[AV.sl b0 kdK r1 Right.no, AV.dv (DV.val (Value.int IntKind.i64 j2))]] (OSh.chk (OSh.pan (.slt kdT 0) (.ifc 93 (.agg [.i IntKind.i64, .i IntKind.i64])) [[.sl kdK, .i IntKind.i64]]))
noncomputable def parse_parser_args_l5 (n : Nat) (b0 : Bool) (r1 : Rows) (j2 : Int) (i0 : Nat) (b5 : Bool) (r6 : List (List DV)) (j7 : Int) (b15 : Bool) (r16 : List (List DV)) : Option (Bool × (Bool × Rows) × (Int × Int × Unit) × ((Bool × Rows) × Int × Unit) × Unit) :=
  DM.loopFn tm (parse_parser_args_Φ n) parse_parser_args_lv n Tryd.f76 true [[AV.sl b0 kdK r1 Right.no, AV.dv (DV.val (Value.int IntKind.i64 j2))]] (OSh.chk (OSh.pan (.slt kdT 0) (.ifc 93 (.agg [.i IntKind.i64, .i IntKind.i64])) [[.sl kdK, .i IntKind.i64]])) 5 [] i0 (St.mk [AV.pl 1000 0, Jk, Jk, AV.sl b15 kdT r16 (Right.tok 3), Jk, Jk, Jk, Jk, Jk, Jk, Jk, Jk, Jk, Jk, Jk, Jk, Jk, Jk, Jk, Jk, Jk, Jk, Jk, Jk, Jk, Jk, Jk] [(1000, [AV.sl b5 kdK r6 Right.no, AV.dv (DV.val (Value.int IntKind.i64 j7))])])
theorem parse_parser_args_s5 (n : Nat) (b0 : Bool) (r1 : Rows) (j2 : Int) (i0 : Nat) (b5 : Bool) (r6 : List (List DV)) (j7 : Int) (b15 : Bool) (r16 : List (List DV)) : parse_parser_args_l5 n b0 r1 j2 (i0 + 1) b5 r6 j7 b15 r16 =
  obind (parse_parser_begins_v n b5 r6 j7) fun y17 =>
  bif y17.fst then
    bif (↑(List.length r16) : Int) == 4 then
      obind (parse_parser_fail_v n 81 y17.snd.fst.fst.fst y17.snd.fst.fst.snd y17.snd.fst.snd.fst) fun y18 =>
      bif y18.fst then
        some (true, Sh.dflt (.slt kdT 0), (y18.snd.snd.fst.fst, (y18.snd.snd.fst.snd.fst, ())), (((y18.snd.snd.snd.fst.fst.fst, y18.snd.snd.snd.fst.fst.snd), (y18.snd.snd.snd.fst.snd.fst, ())), ()))
      else obind (parse_parser_term_v n y18.snd.snd.snd.fst.fst.fst y18.snd.snd.snd.fst.fst.snd y18.snd.snd.snd.fst.snd.fst) fun y19 =>
      bif y19.fst then
        some (true, Sh.dflt (.slt kdT 0), (y19.snd.snd.fst.fst, (y19.snd.snd.fst.snd.fst, ())), (((y19.snd.snd.snd.fst.fst.fst, y19.snd.snd.snd.fst.fst.snd), (y19.snd.snd.snd.fst.snd.fst, ())), ()))
      else if (List.length r16 + List.length [[DV.val (Value.string y19.snd.fst.fst), DV.val (Value.bool y19.snd.fst.snd.fst), DV.val (Value.int IntKind.i64 y19.snd.fst.snd.snd.fst), DV.val (Value.string y19.snd.fst.snd.snd.snd.fst)]]) * 48 ≤ 140737488355328 then
        obind (parse_parser_pass_v n (ByteArray.mk #[41]) y19.snd.snd.snd.fst.fst.fst y19.snd.snd.snd.fst.fst.snd y19.snd.snd.snd.fst.snd.fst) fun y20 =>
        bif y20.fst then
          some (false, (b15 && List.isEmpty [[DV.val (Value.string y19.snd.fst.fst), DV.val (Value.bool y19.snd.fst.snd.fst), DV.val (Value.int IntKind.i64 y19.snd.fst.snd.snd.fst), DV.val (Value.string y19.snd.fst.snd.snd.snd.fst)]], appX r16 [[DV.val (Value.string y19.snd.fst.fst), DV.val (Value.bool y19.snd.fst.snd.fst), DV.val (Value.int IntKind.i64 y19.snd.fst.snd.snd.fst), DV.val (Value.string y19.snd.fst.snd.snd.snd.fst)]]), Sh.dflt (.ifc 93 (.agg [.i IntKind.i64, .i IntKind.i64])), (((y20.snd.fst.fst.fst, y20.snd.fst.fst.snd), (y20.snd.fst.snd.fst, ())), ()))
        else obind (parse_parser_must_v n (ByteArray.mk #[44]) y20.snd.fst.fst.fst y20.snd.fst.fst.snd y20.snd.fst.snd.fst) fun y21 =>
        bif y21.fst then
          some (true, Sh.dflt (.slt kdT 0), (y21.snd.snd.fst.fst, (y21.snd.snd.fst.snd.fst, ())), (((y21.snd.snd.snd.fst.fst.fst, y21.snd.snd.snd.fst.fst.snd), (y21.snd.snd.snd.fst.snd.fst, ())), ()))
        else parse_parser_args_l5 n b0 r1 j2 i0 y21.snd.snd.snd.fst.fst.fst y21.snd.snd.snd.fst.fst.snd y21.snd.snd.snd.fst.snd.fst (b15 && List.isEmpty [[DV.val (Value.string y19.snd.fst.fst), DV.val (Value.bool y19.snd.fst.snd.fst), DV.val (Value.int IntKind.i64 y19.snd.fst.snd.snd.fst), DV.val (Value.string y19.snd.fst.snd.snd.snd.fst)]]) (appX r16 [[DV.val (Value.string y19.snd.fst.fst), DV.val (Value.bool y19.snd.fst.snd.fst), DV.val (Value.int IntKind.i64 y19.snd.fst.snd.snd.fst), DV.val (Value.string y19.snd.fst.snd.snd.snd.fst)]])
      else none
    else obind (parse_parser_term_v n y17.snd.fst.fst.fst y17.snd.fst.fst.snd y17.snd.fst.snd.fst) fun y22 =>
    bif y22.fst then
      some (true, Sh.dflt (.slt kdT 0), (y22.snd.snd.fst.fst, (y22.snd.snd.fst.snd.fst, ())), (((y22.snd.snd.snd.fst.fst.fst, y22.snd.snd.snd.fst.fst.snd), (y22.snd.snd.snd.fst.snd.fst, ())), ()))
    else if (List.length r16 + List.length [[DV.val (Value.string y22.snd.fst.fst), DV.val (Value.bool y22.snd.fst.snd.fst), DV.val (Value.int IntKind.i64 y22.snd.fst.snd.snd.fst), DV.val (Value.string y22.snd.fst.snd.snd.snd.fst)]]) * 48 ≤ 140737488355328 then
      obind (parse_parser_pass_v n (ByteArray.mk #[41]) y22.snd.snd.snd.fst.fst.fst y22.snd.snd.snd.fst.fst.snd y22.snd.snd.snd.fst.snd.fst) fun y23 =>
      bif y23.fst then
        some (false, (b15 && List.isEmpty [[DV.val (Value.string y22.snd.fst.fst), DV.val (Value.bool y22.snd.fst.snd.fst), DV.val (Value.int IntKind.i64 y22.snd.fst.snd.snd.fst), DV.val (Value.string y22.snd.fst.snd.snd.snd.fst)]], appX r16 [[DV.val (Value.string y22.snd.fst.fst), DV.val (Value.bool y22.snd.fst.snd.fst), DV.val (Value.int IntKind.i64 y22.snd.fst.snd.snd.fst), DV.val (Value.string y22.snd.fst.snd.snd.snd.fst)]]), Sh.dflt (.ifc 93 (.agg [.i IntKind.i64, .i IntKind.i64])), (((y23.snd.fst.fst.fst, y23.snd.fst.fst.snd), (y23.snd.fst.snd.fst, ())), ()))
      else obind (parse_parser_must_v n (ByteArray.mk #[44]) y23.snd.fst.fst.fst y23.snd.fst.fst.snd y23.snd.fst.snd.fst) fun y24 =>
      bif y24.fst then
        some (true, Sh.dflt (.slt kdT 0), (y24.snd.snd.fst.fst, (y24.snd.snd.fst.snd.fst, ())), (((y24.snd.snd.snd.fst.fst.fst, y24.snd.snd.snd.fst.fst.snd), (y24.snd.snd.snd.fst.snd.fst, ())), ()))
      else parse_parser_args_l5 n b0 r1 j2 i0 y24.snd.snd.snd.fst.fst.fst y24.snd.snd.snd.fst.fst.snd y24.snd.snd.snd.fst.snd.fst (b15 && List.isEmpty [[DV.val (Value.string y22.snd.fst.fst), DV.val (Value.bool y22.snd.fst.snd.fst), DV.val (Value.int IntKind.i64 y22.snd.fst.snd.snd.fst), DV.val (Value.string y22.snd.fst.snd.snd.snd.fst)]]) (appX r16 [[DV.val (Value.string y22.snd.fst.fst), DV.val (Value.bool y22.snd.fst.snd.fst), DV.val (Value.int IntKind.i64 y22.snd.fst.snd.snd.fst), DV.val (Value.string y22.snd.fst.snd.snd.snd.fst)]])
    else none
  else obind (parse_parser_term_v n y17.snd.fst.fst.fst y17.snd.fst.fst.snd y17.snd.fst.snd.fst) fun y25 =>
  bif y25.fst then
    some (true, Sh.dflt (.slt kdT 0), (y25.snd.snd.fst.fst, (y25.snd.snd.fst.snd.fst, ())), (((y25.snd.snd.snd.fst.fst.fst, y25.snd.snd.snd.fst.fst.snd), (y25.snd.snd.snd.fst.snd.fst, ())), ()))
  else if (List.length r16 + List.length [[DV.val (Value.string y25.snd.fst.fst), DV.val (Value.bool y25.snd.fst.snd.fst), DV.val (Value.int IntKind.i64 y25.snd.fst.snd.snd.fst), DV.val (Value.string y25.snd.fst.snd.snd.snd.fst)]]) * 48 ≤ 140737488355328 then
    obind (parse_parser_pass_v n (ByteArray.mk #[41]) y25.snd.snd.snd.fst.fst.fst y25.snd.snd.snd.fst.fst.snd y25.snd.snd.snd.fst.snd.fst) fun y26 =>
    bif y26.fst then
      some (false, (b15 && List.isEmpty [[DV.val (Value.string y25.snd.fst.fst), DV.val (Value.bool y25.snd.fst.snd.fst), DV.val (Value.int IntKind.i64 y25.snd.fst.snd.snd.fst), DV.val (Value.string y25.snd.fst.snd.snd.snd.fst)]], appX r16 [[DV.val (Value.string y25.snd.fst.fst), DV.val (Value.bool y25.snd.fst.snd.fst), DV.val (Value.int IntKind.i64 y25.snd.fst.snd.snd.fst), DV.val (Value.string y25.snd.fst.snd.snd.snd.fst)]]), Sh.dflt (.ifc 93 (.agg [.i IntKind.i64, .i IntKind.i64])), (((y26.snd.fst.fst.fst, y26.snd.fst.fst.snd), (y26.snd.fst.snd.fst, ())), ()))
    else obind (parse_parser_must_v n (ByteArray.mk #[44]) y26.snd.fst.fst.fst y26.snd.fst.fst.snd y26.snd.fst.snd.fst) fun y27 =>
    bif y27.fst then
      some (true, Sh.dflt (.slt kdT 0), (y27.snd.snd.fst.fst, (y27.snd.snd.fst.snd.fst, ())), (((y27.snd.snd.snd.fst.fst.fst, y27.snd.snd.snd.fst.fst.snd), (y27.snd.snd.snd.fst.snd.fst, ())), ()))
    else parse_parser_args_l5 n b0 r1 j2 i0 y27.snd.snd.snd.fst.fst.fst y27.snd.snd.snd.fst.fst.snd y27.snd.snd.snd.fst.snd.fst (b15 && List.isEmpty [[DV.val (Value.string y25.snd.fst.fst), DV.val (Value.bool y25.snd.fst.snd.fst), DV.val (Value.int IntKind.i64 y25.snd.fst.snd.snd.fst), DV.val (Value.string y25.snd.fst.snd.snd.snd.fst)]]) (appX r16 [[DV.val (Value.string y25.snd.fst.fst), DV.val (Value.bool y25.snd.fst.snd.fst), DV.val (Value.int IntKind.i64 y25.snd.fst.snd.snd.fst), DV.val (Value.string y25.snd.fst.snd.snd.snd.fst)]])
  else none := by kernel_rfl
theorem parse_parser_args_e (n : Nat) (b0 : Bool) (r1 : Rows) (j2 : Int) : parse_parser_args_v n b0 r1 j2 =
  obind (parse_parser_must_v n (ByteArray.mk #[40]) b0 r1 j2) fun y3 =>
  bif y3.fst then
    some (true, Sh.dflt (.slt kdT 0), (y3.snd.snd.fst.fst, (y3.snd.snd.fst.snd.fst, ())), (((y3.snd.snd.snd.fst.fst.fst, y3.snd.snd.snd.fst.fst.snd), (y3.snd.snd.snd.fst.snd.fst, ())), ()))
  else obind (parse_parser_pass_v n (ByteArray.mk #[41]) y3.snd.snd.snd.fst.fst.fst y3.snd.snd.snd.fst.fst.snd y3.snd.snd.snd.fst.snd.fst) fun y4 =>
  bif y4.fst then
    some (false, (true, []), Sh.dflt (.ifc 93 (.agg [.i IntKind.i64, .i IntKind.i64])), (((y4.snd.fst.fst.fst, y4.snd.fst.fst.snd), (y4.snd.fst.snd.fst, ())), ()))
  else parse_parser_args_l5 n b0 r1 j2 n y4.snd.fst.fst.fst y4.snd.fst.fst.snd y4.snd.fst.snd.fst true [] := by kernel_rfl
theorem parse_parser_args_c (n : Nat) (b0 : Bool) (r1 : Rows) (j2 : Int) (y : Bool × (Bool × Rows) × (Int × Int × Unit) × ((Bool × Rows) × Int × Unit) × Unit) (h : parse_parser_args_v n b0 r1 j2 = some y) : Contract Tryd.prog 76 [AV.pl 1000 0] [[AV.sl b0 kdK r1 Right.no, AV.dv (DV.val (Value.int IntKind.i64 j2))]] (OSh.enc (OSh.pan (.slt kdT 0) (.ifc 93 (.agg [.i IntKind.i64, .i IntKind.i64])) [[.sl kdK, .i IntKind.i64]]) y) :=
  ac (OSh.pan (.slt kdT 0) (.ifc 93 (.agg [.i IntKind.i64, .i IntKind.i64])) [[.sl kdK, .i IntKind.i64]]) (parse_parser_args_σok n) Tryd.func76 (by decide) h
def parse_parser_literal_lv : Live := []
noncomputable def parse_parser_literal_σ (n : Nat) : Spec := (inst 71 [.pl 1000 0] [[.sl kdK, .i IntKind.i64]] (OSh.plain (.agg [.i IntKind.i64, .s, .i IntKind.i64, .i IntKind.i64]) [[.sl kdK, .i IntKind.i64]]) (fun x e => parse_parser_next_v n e.1.1.1 e.1.1.2 e.1.2.1) (inst 73 [.pl 1000 0] [[.sl kdK, .i IntKind.i64]] (OSh.pan (.agg [.s, .b, .i IntKind.i64, .s]) (.ifc 93 (.agg [.i IntKind.i64, .i IntKind.i64])) [[.sl kdK, .i IntKind.i64]]) (fun x e => parse_parser_term_v n e.1.1.1 e.1.1.2 e.1.2.1) (inst 74 [.pl 1000 0, .s] [[.sl kdK, .i IntKind.i64]] (OSh.pan (.tup []) (.ifc 93 (.agg [.i IntKind.i64, .i IntKind.i64])) [[.sl kdK, .i IntKind.i64]]) (fun x e => parse_parser_must_v n x.2.1 e.1.1.1 e.1.1.2 e.1.2.1) (inst 75 [.pl 1000 0] [[.sl kdK, .i IntKind.i64]] (OSh.pan (.s) (.ifc 93 (.agg [.i IntKind.i64, .i IntKind.i64])) [[.sl kdK, .i IntKind.i64]]) (fun x e => parse_parser_word_v n e.1.1.1 e.1.1.2 e.1.2.1) (inst 76 [.pl 1000 0] [[.sl kdK, .i IntKind.i64]] (OSh.pan (.slt kdT 0) (.ifc 93 (.agg [.i IntKind.i64, .i IntKind.i64])) [[.sl kdK, .i IntKind.i64]]) (fun x e => parse_parser_args_v n e.1.1.1 e.1.1.2 e.1.2.1) (inst 77 [.pl 1000 0, .s] [[.sl kdK, .i IntKind.i64]] (OSh.plain (.b) [[.sl kdK, .i IntKind.i64]]) (fun x e => parse_parser_pass_v n x.2.1 e.1.1.1 e.1.1.2 e.1.2.1) Spec.none))))))
theorem parse_parser_literal_σok (n : Nat) : SpecOk Tryd.prog (parse_parser_literal_σ n) := (inst_ok (fun x e y h => parse_parser_next_c n e.1.1.1 e.1.1.2 e.1.2.1 y h) (inst_ok (fun x e y h => parse_parser_term_c n e.1.1.1 e.1.1.2 e.1.2.1 y h) (inst_ok (fun x e y h => parse_parser_must_c n x.2.1 e.1.1.1 e.1.1.2 e.1.2.1 y h) (inst_ok (fun x e y h => parse_parser_word_c n e.1.1.1 e.1.1.2 e.1.2.1 y h) (inst_ok (fun x e y h => parse_parser_args_c n e.1.1.1 e.1.1.2 e.1.2.1 y h) (inst_ok (fun x e y h => parse_parser_pass_c n x.2.1 e.1.1.1 e.1.1.2 e.1.2.1 y h) (SpecOk.none _)))))))
noncomputable def parse_parser_literal_Φ (n : Nat) : Orc := with_ Tryd.prog (parse_parser_literal_σ n) [] n 0 hsL
noncomputable def parse_parser_literal_v (n : Nat) (b0 : Bool) (r1 : Rows) (j2 : Int) : Option (Bool × (ByteArray × Bool × Int × ByteArray × ByteArray × (Bool × Rows) × ByteArray × Bool × Int × ByteArray × Unit) × (Int × Int × Unit) × ((Bool × Rows) × Int × Unit) × Unit) :=
  DM.denFn tm (parse_parser_literal_Φ n) parse_parser_literal_lv n Tryd.f78 false [AV.pl 1000 0] [[AV.sl b0 kdK r1 Right.no, AV.dv (DV.val (Value.int IntKind.i64 j2))]] (OSh.chk (OSh.pan (.agg [.s, .b, .i IntKind.i64, .s, .s, .sl kdT, .s, .b, .i IntKind.i64, .s]) (.ifc 93 (.agg [.i IntKind.i64, .i IntKind.i64])) [[.sl kdK, .i IntKind.i64]]))
theorem parse_parser_literal_e (n : Nat) (b0 : Bool) (r1 : Rows) (j2 : Int) : parse_parser_literal_v n b0 r1 j2 =
  obind (parse_parser_next_v n b0 r1 j2) fun y3 =>
  bif decide ((↑(List.length y3.snd.fst.fst.snd) : Int) > 1) then
    if 1 < (↑(List.length y3.snd.fst.fst.snd) : Int) then
      bif Row.I (List.getD y3.snd.fst.fst.snd 1 []) 0 == 1 then
        if 1 < (↑(List.length y3.snd.fst.fst.snd) : Int) then
          bif Row.S (List.getD y3.snd.fst.fst.snd 1 []) 1 == ByteArray.mk #[115, 97, 121, 115] then
            obind (parse_parser_term_v n y3.snd.fst.fst.fst y3.snd.fst.fst.snd y3.snd.fst.snd.fst) fun y4 =>
            bif y4.fst then
              some (true, Sh.dflt (.agg [.s, .b, .i IntKind.i64, .s, .s, .sl kdT, .s, .b, .i IntKind.i64, .s]), (y4.snd.snd.fst.fst, (y4.snd.snd.fst.snd.fst, ())), (((y4.snd.snd.snd.fst.fst.fst, y4.snd.snd.snd.fst.fst.snd), (y4.snd.snd.snd.fst.snd.fst, ())), ()))
            else obind (parse_parser_must_v n (ByteArray.mk #[115, 97, 121, 115]) y4.snd.snd.snd.fst.fst.fst y4.snd.snd.snd.fst.fst.snd y4.snd.snd.snd.fst.snd.fst) fun y5 =>
            bif y5.fst then
              some (true, Sh.dflt (.agg [.s, .b, .i IntKind.i64, .s, .s, .sl kdT, .s, .b, .i IntKind.i64, .s]), (y5.snd.snd.fst.fst, (y5.snd.snd.fst.snd.fst, ())), (((y5.snd.snd.snd.fst.fst.fst, y5.snd.snd.snd.fst.fst.snd), (y5.snd.snd.snd.fst.snd.fst, ())), ()))
            else obind (parse_parser_word_v n y5.snd.snd.snd.fst.fst.fst y5.snd.snd.snd.fst.fst.snd y5.snd.snd.snd.fst.snd.fst) fun y6 =>
            bif y6.fst then
              some (true, Sh.dflt (.agg [.s, .b, .i IntKind.i64, .s, .s, .sl kdT, .s, .b, .i IntKind.i64, .s]), (y6.snd.snd.fst.fst, (y6.snd.snd.fst.snd.fst, ())), (((y6.snd.snd.snd.fst.fst.fst, y6.snd.snd.snd.fst.fst.snd), (y6.snd.snd.snd.fst.snd.fst, ())), ()))
            else obind (parse_parser_args_v n y6.snd.snd.snd.fst.fst.fst y6.snd.snd.snd.fst.fst.snd y6.snd.snd.snd.fst.snd.fst) fun y7 =>
            bif y7.fst then
              some (true, Sh.dflt (.agg [.s, .b, .i IntKind.i64, .s, .s, .sl kdT, .s, .b, .i IntKind.i64, .s]), (y7.snd.snd.fst.fst, (y7.snd.snd.fst.snd.fst, ())), (((y7.snd.snd.snd.fst.fst.fst, y7.snd.snd.snd.fst.fst.snd), (y7.snd.snd.snd.fst.snd.fst, ())), ()))
            else obind (parse_parser_pass_v n (ByteArray.mk #[97, 116]) y7.snd.snd.snd.fst.fst.fst y7.snd.snd.snd.fst.fst.snd y7.snd.snd.snd.fst.snd.fst) fun y8 =>
            bif y8.fst then
              obind (parse_parser_term_v n y8.snd.fst.fst.fst y8.snd.fst.fst.snd y8.snd.fst.snd.fst) fun y9 =>
              bif y9.fst then
                some (true, Sh.dflt (.agg [.s, .b, .i IntKind.i64, .s, .s, .sl kdT, .s, .b, .i IntKind.i64, .s]), (y9.snd.snd.fst.fst, (y9.snd.snd.fst.snd.fst, ())), (((y9.snd.snd.snd.fst.fst.fst, y9.snd.snd.snd.fst.fst.snd), (y9.snd.snd.snd.fst.snd.fst, ())), ()))
              else some (false, (y4.snd.fst.fst, (y4.snd.fst.snd.fst, (y4.snd.fst.snd.snd.fst, (y4.snd.fst.snd.snd.snd.fst, (y6.snd.fst, ((y7.snd.fst.fst, y7.snd.fst.snd), (y9.snd.fst.fst, (y9.snd.fst.snd.fst, (y9.snd.fst.snd.snd.fst, (y9.snd.fst.snd.snd.snd.fst, ())))))))))), Sh.dflt (.ifc 93 (.agg [.i IntKind.i64, .i IntKind.i64])), (((y9.snd.snd.snd.fst.fst.fst, y9.snd.snd.snd.fst.fst.snd), (y9.snd.snd.snd.fst.snd.fst, ())), ()))
            else some (false, (y4.snd.fst.fst, (y4.snd.fst.snd.fst, (y4.snd.fst.snd.snd.fst, (y4.snd.fst.snd.snd.snd.fst, (y6.snd.fst, ((y7.snd.fst.fst, y7.snd.fst.snd), (ByteArray.mk #[], (false, (0, (ByteArray.mk #[], ())))))))))), Sh.dflt (.ifc 93 (.agg [.i IntKind.i64, .i IntKind.i64])), (((y8.snd.fst.fst.fst, y8.snd.fst.fst.snd), (y8.snd.fst.snd.fst, ())), ()))
          else bif y3.fst.fst != 1 then
            obind (parse_parser_term_v n y3.snd.fst.fst.fst y3.snd.fst.fst.snd y3.snd.fst.snd.fst) fun y10 =>
            bif y10.fst then
              some (true, Sh.dflt (.agg [.s, .b, .i IntKind.i64, .s, .s, .sl kdT, .s, .b, .i IntKind.i64, .s]), (y10.snd.snd.fst.fst, (y10.snd.snd.fst.snd.fst, ())), (((y10.snd.snd.snd.fst.fst.fst, y10.snd.snd.snd.fst.fst.snd), (y10.snd.snd.snd.fst.snd.fst, ())), ()))
            else obind (parse_parser_must_v n (ByteArray.mk #[115, 97, 121, 115]) y10.snd.snd.snd.fst.fst.fst y10.snd.snd.snd.fst.fst.snd y10.snd.snd.snd.fst.snd.fst) fun y11 =>
            bif y11.fst then
              some (true, Sh.dflt (.agg [.s, .b, .i IntKind.i64, .s, .s, .sl kdT, .s, .b, .i IntKind.i64, .s]), (y11.snd.snd.fst.fst, (y11.snd.snd.fst.snd.fst, ())), (((y11.snd.snd.snd.fst.fst.fst, y11.snd.snd.snd.fst.fst.snd), (y11.snd.snd.snd.fst.snd.fst, ())), ()))
            else obind (parse_parser_word_v n y11.snd.snd.snd.fst.fst.fst y11.snd.snd.snd.fst.fst.snd y11.snd.snd.snd.fst.snd.fst) fun y12 =>
            bif y12.fst then
              some (true, Sh.dflt (.agg [.s, .b, .i IntKind.i64, .s, .s, .sl kdT, .s, .b, .i IntKind.i64, .s]), (y12.snd.snd.fst.fst, (y12.snd.snd.fst.snd.fst, ())), (((y12.snd.snd.snd.fst.fst.fst, y12.snd.snd.snd.fst.fst.snd), (y12.snd.snd.snd.fst.snd.fst, ())), ()))
            else obind (parse_parser_args_v n y12.snd.snd.snd.fst.fst.fst y12.snd.snd.snd.fst.fst.snd y12.snd.snd.snd.fst.snd.fst) fun y13 =>
            bif y13.fst then
              some (true, Sh.dflt (.agg [.s, .b, .i IntKind.i64, .s, .s, .sl kdT, .s, .b, .i IntKind.i64, .s]), (y13.snd.snd.fst.fst, (y13.snd.snd.fst.snd.fst, ())), (((y13.snd.snd.snd.fst.fst.fst, y13.snd.snd.snd.fst.fst.snd), (y13.snd.snd.snd.fst.snd.fst, ())), ()))
            else obind (parse_parser_pass_v n (ByteArray.mk #[97, 116]) y13.snd.snd.snd.fst.fst.fst y13.snd.snd.snd.fst.fst.snd y13.snd.snd.snd.fst.snd.fst) fun y14 =>
            bif y14.fst then
              obind (parse_parser_term_v n y14.snd.fst.fst.fst y14.snd.fst.fst.snd y14.snd.fst.snd.fst) fun y15 =>
              bif y15.fst then
                some (true, Sh.dflt (.agg [.s, .b, .i IntKind.i64, .s, .s, .sl kdT, .s, .b, .i IntKind.i64, .s]), (y15.snd.snd.fst.fst, (y15.snd.snd.fst.snd.fst, ())), (((y15.snd.snd.snd.fst.fst.fst, y15.snd.snd.snd.fst.fst.snd), (y15.snd.snd.snd.fst.snd.fst, ())), ()))
              else some (false, (y10.snd.fst.fst, (y10.snd.fst.snd.fst, (y10.snd.fst.snd.snd.fst, (y10.snd.fst.snd.snd.snd.fst, (y12.snd.fst, ((y13.snd.fst.fst, y13.snd.fst.snd), (y15.snd.fst.fst, (y15.snd.fst.snd.fst, (y15.snd.fst.snd.snd.fst, (y15.snd.fst.snd.snd.snd.fst, ())))))))))), Sh.dflt (.ifc 93 (.agg [.i IntKind.i64, .i IntKind.i64])), (((y15.snd.snd.snd.fst.fst.fst, y15.snd.snd.snd.fst.fst.snd), (y15.snd.snd.snd.fst.snd.fst, ())), ()))
            else some (false, (y10.snd.fst.fst, (y10.snd.fst.snd.fst, (y10.snd.fst.snd.snd.fst, (y10.snd.fst.snd.snd.snd.fst, (y12.snd.fst, ((y13.snd.fst.fst, y13.snd.fst.snd), (ByteArray.mk #[], (false, (0, (ByteArray.mk #[], ())))))))))), Sh.dflt (.ifc 93 (.agg [.i IntKind.i64, .i IntKind.i64])), (((y14.snd.fst.fst.fst, y14.snd.fst.fst.snd), (y14.snd.fst.snd.fst, ())), ()))
          else obind (parse_parser_word_v n y3.snd.fst.fst.fst y3.snd.fst.fst.snd y3.snd.fst.snd.fst) fun y16 =>
          bif y16.fst then
            some (true, Sh.dflt (.agg [.s, .b, .i IntKind.i64, .s, .s, .sl kdT, .s, .b, .i IntKind.i64, .s]), (y16.snd.snd.fst.fst, (y16.snd.snd.fst.snd.fst, ())), (((y16.snd.snd.snd.fst.fst.fst, y16.snd.snd.snd.fst.fst.snd), (y16.snd.snd.snd.fst.snd.fst, ())), ()))
          else obind (parse_parser_args_v n y16.snd.snd.snd.fst.fst.fst y16.snd.snd.snd.fst.fst.snd y16.snd.snd.snd.fst.snd.fst) fun y17 =>
          bif y17.fst then
            some (true, Sh.dflt (.agg [.s, .b, .i IntKind.i64, .s, .s, .sl kdT, .s, .b, .i IntKind.i64, .s]), (y17.snd.snd.fst.fst, (y17.snd.snd.fst.snd.fst, ())), (((y17.snd.snd.snd.fst.fst.fst, y17.snd.snd.snd.fst.fst.snd), (y17.snd.snd.snd.fst.snd.fst, ())), ()))
          else obind (parse_parser_pass_v n (ByteArray.mk #[97, 116]) y17.snd.snd.snd.fst.fst.fst y17.snd.snd.snd.fst.fst.snd y17.snd.snd.snd.fst.snd.fst) fun y18 =>
          bif y18.fst then
            obind (parse_parser_term_v n y18.snd.fst.fst.fst y18.snd.fst.fst.snd y18.snd.fst.snd.fst) fun y19 =>
            bif y19.fst then
              some (true, Sh.dflt (.agg [.s, .b, .i IntKind.i64, .s, .s, .sl kdT, .s, .b, .i IntKind.i64, .s]), (y19.snd.snd.fst.fst, (y19.snd.snd.fst.snd.fst, ())), (((y19.snd.snd.snd.fst.fst.fst, y19.snd.snd.snd.fst.fst.snd), (y19.snd.snd.snd.fst.snd.fst, ())), ()))
            else some (false, (ByteArray.mk #[], (false, (0, (ByteArray.mk #[], (y16.snd.fst, ((y17.snd.fst.fst, y17.snd.fst.snd), (y19.snd.fst.fst, (y19.snd.fst.snd.fst, (y19.snd.fst.snd.snd.fst, (y19.snd.fst.snd.snd.snd.fst, ())))))))))), Sh.dflt (.ifc 93 (.agg [.i IntKind.i64, .i IntKind.i64])), (((y19.snd.snd.snd.fst.fst.fst, y19.snd.snd.snd.fst.fst.snd), (y19.snd.snd.snd.fst.snd.fst, ())), ()))
          else some (false, (ByteArray.mk #[], (false, (0, (ByteArray.mk #[], (y16.snd.fst, ((y17.snd.fst.fst, y17.snd.fst.snd), (ByteArray.mk #[], (false, (0, (ByteArray.mk #[], ())))))))))), Sh.dflt (.ifc 93 (.agg [.i IntKind.i64, .i IntKind.i64])), (((y18.snd.fst.fst.fst, y18.snd.fst.fst.snd), (y18.snd.fst.snd.fst, ())), ()))
        else none
      else bif y3.fst.fst != 1 then
        obind (parse_parser_term_v n y3.snd.fst.fst.fst y3.snd.fst.fst.snd y3.snd.fst.snd.fst) fun y20 =>
        bif y20.fst then
          some (true, Sh.dflt (.agg [.s, .b, .i IntKind.i64, .s, .s, .sl kdT, .s, .b, .i IntKind.i64, .s]), (y20.snd.snd.fst.fst, (y20.snd.snd.fst.snd.fst, ())), (((y20.snd.snd.snd.fst.fst.fst, y20.snd.snd.snd.fst.fst.snd), (y20.snd.snd.snd.fst.snd.fst, ())), ()))
        else obind (parse_parser_must_v n (ByteArray.mk #[115, 97, 121, 115]) y20.snd.snd.snd.fst.fst.fst y20.snd.snd.snd.fst.fst.snd y20.snd.snd.snd.fst.snd.fst) fun y21 =>
        bif y21.fst then
          some (true, Sh.dflt (.agg [.s, .b, .i IntKind.i64, .s, .s, .sl kdT, .s, .b, .i IntKind.i64, .s]), (y21.snd.snd.fst.fst, (y21.snd.snd.fst.snd.fst, ())), (((y21.snd.snd.snd.fst.fst.fst, y21.snd.snd.snd.fst.fst.snd), (y21.snd.snd.snd.fst.snd.fst, ())), ()))
        else obind (parse_parser_word_v n y21.snd.snd.snd.fst.fst.fst y21.snd.snd.snd.fst.fst.snd y21.snd.snd.snd.fst.snd.fst) fun y22 =>
        bif y22.fst then
          some (true, Sh.dflt (.agg [.s, .b, .i IntKind.i64, .s, .s, .sl kdT, .s, .b, .i IntKind.i64, .s]), (y22.snd.snd.fst.fst, (y22.snd.snd.fst.snd.fst, ())), (((y22.snd.snd.snd.fst.fst.fst, y22.snd.snd.snd.fst.fst.snd), (y22.snd.snd.snd.fst.snd.fst, ())), ()))
        else obind (parse_parser_args_v n y22.snd.snd.snd.fst.fst.fst y22.snd.snd.snd.fst.fst.snd y22.snd.snd.snd.fst.snd.fst) fun y23 =>
        bif y23.fst then
          some (true, Sh.dflt (.agg [.s, .b, .i IntKind.i64, .s, .s, .sl kdT, .s, .b, .i IntKind.i64, .s]), (y23.snd.snd.fst.fst, (y23.snd.snd.fst.snd.fst, ())), (((y23.snd.snd.snd.fst.fst.fst, y23.snd.snd.snd.fst.fst.snd), (y23.snd.snd.snd.fst.snd.fst, ())), ()))
        else obind (parse_parser_pass_v n (ByteArray.mk #[97, 116]) y23.snd.snd.snd.fst.fst.fst y23.snd.snd.snd.fst.fst.snd y23.snd.snd.snd.fst.snd.fst) fun y24 =>
        bif y24.fst then
          obind (parse_parser_term_v n y24.snd.fst.fst.fst y24.snd.fst.fst.snd y24.snd.fst.snd.fst) fun y25 =>
          bif y25.fst then
            some (true, Sh.dflt (.agg [.s, .b, .i IntKind.i64, .s, .s, .sl kdT, .s, .b, .i IntKind.i64, .s]), (y25.snd.snd.fst.fst, (y25.snd.snd.fst.snd.fst, ())), (((y25.snd.snd.snd.fst.fst.fst, y25.snd.snd.snd.fst.fst.snd), (y25.snd.snd.snd.fst.snd.fst, ())), ()))
          else some (false, (y20.snd.fst.fst, (y20.snd.fst.snd.fst, (y20.snd.fst.snd.snd.fst, (y20.snd.fst.snd.snd.snd.fst, (y22.snd.fst, ((y23.snd.fst.fst, y23.snd.fst.snd), (y25.snd.fst.fst, (y25.snd.fst.snd.fst, (y25.snd.fst.snd.snd.fst, (y25.snd.fst.snd.snd.snd.fst, ())))))))))), Sh.dflt (.ifc 93 (.agg [.i IntKind.i64, .i IntKind.i64])), (((y25.snd.snd.snd.fst.fst.fst, y25.snd.snd.snd.fst.fst.snd), (y25.snd.snd.snd.fst.snd.fst, ())), ()))
        else some (false, (y20.snd.fst.fst, (y20.snd.fst.snd.fst, (y20.snd.fst.snd.snd.fst, (y20.snd.fst.snd.snd.snd.fst, (y22.snd.fst, ((y23.snd.fst.fst, y23.snd.fst.snd), (ByteArray.mk #[], (false, (0, (ByteArray.mk #[], ())))))))))), Sh.dflt (.ifc 93 (.agg [.i IntKind.i64, .i IntKind.i64])), (((y24.snd.fst.fst.fst, y24.snd.fst.fst.snd), (y24.snd.fst.snd.fst, ())), ()))
      else obind (parse_parser_word_v n y3.snd.fst.fst.fst y3.snd.fst.fst.snd y3.snd.fst.snd.fst) fun y26 =>
      bif y26.fst then
        some (true, Sh.dflt (.agg [.s, .b, .i IntKind.i64, .s, .s, .sl kdT, .s, .b, .i IntKind.i64, .s]), (y26.snd.snd.fst.fst, (y26.snd.snd.fst.snd.fst, ())), (((y26.snd.snd.snd.fst.fst.fst, y26.snd.snd.snd.fst.fst.snd), (y26.snd.snd.snd.fst.snd.fst, ())), ()))
      else obind (parse_parser_args_v n y26.snd.snd.snd.fst.fst.fst y26.snd.snd.snd.fst.fst.snd y26.snd.snd.snd.fst.snd.fst) fun y27 =>
      bif y27.fst then
        some (true, Sh.dflt (.agg [.s, .b, .i IntKind.i64, .s, .s, .sl kdT, .s, .b, .i IntKind.i64, .s]), (y27.snd.snd.fst.fst, (y27.snd.snd.fst.snd.fst, ())), (((y27.snd.snd.snd.fst.fst.fst, y27.snd.snd.snd.fst.fst.snd), (y27.snd.snd.snd.fst.snd.fst, ())), ()))
      else obind (parse_parser_pass_v n (ByteArray.mk #[97, 116]) y27.snd.snd.snd.fst.fst.fst y27.snd.snd.snd.fst.fst.snd y27.snd.snd.snd.fst.snd.fst) fun y28 =>
      bif y28.fst then
        obind (parse_parser_term_v n y28.snd.fst.fst.fst y28.snd.fst.fst.snd y28.snd.fst.snd.fst) fun y29 =>
        bif y29.fst then
          some (true, Sh.dflt (.agg [.s, .b, .i IntKind.i64, .s, .s, .sl kdT, .s, .b, .i IntKind.i64, .s]), (y29.snd.snd.fst.fst, (y29.snd.snd.fst.snd.fst, ())), (((y29.snd.snd.snd.fst.fst.fst, y29.snd.snd.snd.fst.fst.snd), (y29.snd.snd.snd.fst.snd.fst, ())), ()))
        else some (false, (ByteArray.mk #[], (false, (0, (ByteArray.mk #[], (y26.snd.fst, ((y27.snd.fst.fst, y27.snd.fst.snd), (y29.snd.fst.fst, (y29.snd.fst.snd.fst, (y29.snd.fst.snd.snd.fst, (y29.snd.fst.snd.snd.snd.fst, ())))))))))), Sh.dflt (.ifc 93 (.agg [.i IntKind.i64, .i IntKind.i64])), (((y29.snd.snd.snd.fst.fst.fst, y29.snd.snd.snd.fst.fst.snd), (y29.snd.snd.snd.fst.snd.fst, ())), ()))
      else some (false, (ByteArray.mk #[], (false, (0, (ByteArray.mk #[], (y26.snd.fst, ((y27.snd.fst.fst, y27.snd.fst.snd), (ByteArray.mk #[], (false, (0, (ByteArray.mk #[], ())))))))))), Sh.dflt (.ifc 93 (.agg [.i IntKind.i64, .i IntKind.i64])), (((y28.snd.fst.fst.fst, y28.snd.fst.fst.snd), (y28.snd.fst.snd.fst, ())), ()))
    else none
  else bif y3.fst.fst != 1 then
    obind (parse_parser_term_v n y3.snd.fst.fst.fst y3.snd.fst.fst.snd y3.snd.fst.snd.fst) fun y30 =>
    bif y30.fst then
      some (true, Sh.dflt (.agg [.s, .b, .i IntKind.i64, .s, .s, .sl kdT, .s, .b, .i IntKind.i64, .s]), (y30.snd.snd.fst.fst, (y30.snd.snd.fst.snd.fst, ())), (((y30.snd.snd.snd.fst.fst.fst, y30.snd.snd.snd.fst.fst.snd), (y30.snd.snd.snd.fst.snd.fst, ())), ()))
    else obind (parse_parser_must_v n (ByteArray.mk #[115, 97, 121, 115]) y30.snd.snd.snd.fst.fst.fst y30.snd.snd.snd.fst.fst.snd y30.snd.snd.snd.fst.snd.fst) fun y31 =>
    bif y31.fst then
      some (true, Sh.dflt (.agg [.s, .b, .i IntKind.i64, .s, .s, .sl kdT, .s, .b, .i IntKind.i64, .s]), (y31.snd.snd.fst.fst, (y31.snd.snd.fst.snd.fst, ())), (((y31.snd.snd.snd.fst.fst.fst, y31.snd.snd.snd.fst.fst.snd), (y31.snd.snd.snd.fst.snd.fst, ())), ()))
    else obind (parse_parser_word_v n y31.snd.snd.snd.fst.fst.fst y31.snd.snd.snd.fst.fst.snd y31.snd.snd.snd.fst.snd.fst) fun y32 =>
    bif y32.fst then
      some (true, Sh.dflt (.agg [.s, .b, .i IntKind.i64, .s, .s, .sl kdT, .s, .b, .i IntKind.i64, .s]), (y32.snd.snd.fst.fst, (y32.snd.snd.fst.snd.fst, ())), (((y32.snd.snd.snd.fst.fst.fst, y32.snd.snd.snd.fst.fst.snd), (y32.snd.snd.snd.fst.snd.fst, ())), ()))
    else obind (parse_parser_args_v n y32.snd.snd.snd.fst.fst.fst y32.snd.snd.snd.fst.fst.snd y32.snd.snd.snd.fst.snd.fst) fun y33 =>
    bif y33.fst then
      some (true, Sh.dflt (.agg [.s, .b, .i IntKind.i64, .s, .s, .sl kdT, .s, .b, .i IntKind.i64, .s]), (y33.snd.snd.fst.fst, (y33.snd.snd.fst.snd.fst, ())), (((y33.snd.snd.snd.fst.fst.fst, y33.snd.snd.snd.fst.fst.snd), (y33.snd.snd.snd.fst.snd.fst, ())), ()))
    else obind (parse_parser_pass_v n (ByteArray.mk #[97, 116]) y33.snd.snd.snd.fst.fst.fst y33.snd.snd.snd.fst.fst.snd y33.snd.snd.snd.fst.snd.fst) fun y34 =>
    bif y34.fst then
      obind (parse_parser_term_v n y34.snd.fst.fst.fst y34.snd.fst.fst.snd y34.snd.fst.snd.fst) fun y35 =>
      bif y35.fst then
        some (true, Sh.dflt (.agg [.s, .b, .i IntKind.i64, .s, .s, .sl kdT, .s, .b, .i IntKind.i64, .s]), (y35.snd.snd.fst.fst, (y35.snd.snd.fst.snd.fst, ())), (((y35.snd.snd.snd.fst.fst.fst, y35.snd.snd.snd.fst.fst.snd), (y35.snd.snd.snd.fst.snd.fst, ())), ()))
      else some (false, (y30.snd.fst.fst, (y30.snd.fst.snd.fst, (y30.snd.fst.snd.snd.fst, (y30.snd.fst.snd.snd.snd.fst, (y32.snd.fst, ((y33.snd.fst.fst, y33.snd.fst.snd), (y35.snd.fst.fst, (y35.snd.fst.snd.fst, (y35.snd.fst.snd.snd.fst, (y35.snd.fst.snd.snd.snd.fst, ())))))))))), Sh.dflt (.ifc 93 (.agg [.i IntKind.i64, .i IntKind.i64])), (((y35.snd.snd.snd.fst.fst.fst, y35.snd.snd.snd.fst.fst.snd), (y35.snd.snd.snd.fst.snd.fst, ())), ()))
    else some (false, (y30.snd.fst.fst, (y30.snd.fst.snd.fst, (y30.snd.fst.snd.snd.fst, (y30.snd.fst.snd.snd.snd.fst, (y32.snd.fst, ((y33.snd.fst.fst, y33.snd.fst.snd), (ByteArray.mk #[], (false, (0, (ByteArray.mk #[], ())))))))))), Sh.dflt (.ifc 93 (.agg [.i IntKind.i64, .i IntKind.i64])), (((y34.snd.fst.fst.fst, y34.snd.fst.fst.snd), (y34.snd.fst.snd.fst, ())), ()))
  else obind (parse_parser_word_v n y3.snd.fst.fst.fst y3.snd.fst.fst.snd y3.snd.fst.snd.fst) fun y36 =>
  bif y36.fst then
    some (true, Sh.dflt (.agg [.s, .b, .i IntKind.i64, .s, .s, .sl kdT, .s, .b, .i IntKind.i64, .s]), (y36.snd.snd.fst.fst, (y36.snd.snd.fst.snd.fst, ())), (((y36.snd.snd.snd.fst.fst.fst, y36.snd.snd.snd.fst.fst.snd), (y36.snd.snd.snd.fst.snd.fst, ())), ()))
  else obind (parse_parser_args_v n y36.snd.snd.snd.fst.fst.fst y36.snd.snd.snd.fst.fst.snd y36.snd.snd.snd.fst.snd.fst) fun y37 =>
  bif y37.fst then
    some (true, Sh.dflt (.agg [.s, .b, .i IntKind.i64, .s, .s, .sl kdT, .s, .b, .i IntKind.i64, .s]), (y37.snd.snd.fst.fst, (y37.snd.snd.fst.snd.fst, ())), (((y37.snd.snd.snd.fst.fst.fst, y37.snd.snd.snd.fst.fst.snd), (y37.snd.snd.snd.fst.snd.fst, ())), ()))
  else obind (parse_parser_pass_v n (ByteArray.mk #[97, 116]) y37.snd.snd.snd.fst.fst.fst y37.snd.snd.snd.fst.fst.snd y37.snd.snd.snd.fst.snd.fst) fun y38 =>
  bif y38.fst then
    obind (parse_parser_term_v n y38.snd.fst.fst.fst y38.snd.fst.fst.snd y38.snd.fst.snd.fst) fun y39 =>
    bif y39.fst then
      some (true, Sh.dflt (.agg [.s, .b, .i IntKind.i64, .s, .s, .sl kdT, .s, .b, .i IntKind.i64, .s]), (y39.snd.snd.fst.fst, (y39.snd.snd.fst.snd.fst, ())), (((y39.snd.snd.snd.fst.fst.fst, y39.snd.snd.snd.fst.fst.snd), (y39.snd.snd.snd.fst.snd.fst, ())), ()))
    else some (false, (ByteArray.mk #[], (false, (0, (ByteArray.mk #[], (y36.snd.fst, ((y37.snd.fst.fst, y37.snd.fst.snd), (y39.snd.fst.fst, (y39.snd.fst.snd.fst, (y39.snd.fst.snd.snd.fst, (y39.snd.fst.snd.snd.snd.fst, ())))))))))), Sh.dflt (.ifc 93 (.agg [.i IntKind.i64, .i IntKind.i64])), (((y39.snd.snd.snd.fst.fst.fst, y39.snd.snd.snd.fst.fst.snd), (y39.snd.snd.snd.fst.snd.fst, ())), ()))
  else some (false, (ByteArray.mk #[], (false, (0, (ByteArray.mk #[], (y36.snd.fst, ((y37.snd.fst.fst, y37.snd.fst.snd), (ByteArray.mk #[], (false, (0, (ByteArray.mk #[], ())))))))))), Sh.dflt (.ifc 93 (.agg [.i IntKind.i64, .i IntKind.i64])), (((y38.snd.fst.fst.fst, y38.snd.fst.fst.snd), (y38.snd.fst.snd.fst, ())), ())) := by kernel_rfl
theorem parse_parser_literal_c (n : Nat) (b0 : Bool) (r1 : Rows) (j2 : Int) (y : Bool × (ByteArray × Bool × Int × ByteArray × ByteArray × (Bool × Rows) × ByteArray × Bool × Int × ByteArray × Unit) × (Int × Int × Unit) × ((Bool × Rows) × Int × Unit) × Unit) (h : parse_parser_literal_v n b0 r1 j2 = some y) : Contract Tryd.prog 78 [AV.pl 1000 0] [[AV.sl b0 kdK r1 Right.no, AV.dv (DV.val (Value.int IntKind.i64 j2))]] (OSh.enc (OSh.pan (.agg [.s, .b, .i IntKind.i64, .s, .s, .sl kdT, .s, .b, .i IntKind.i64, .s]) (.ifc 93 (.agg [.i IntKind.i64, .i IntKind.i64])) [[.sl kdK, .i IntKind.i64]]) y) :=
  ac (OSh.pan (.agg [.s, .b, .i IntKind.i64, .s, .s, .sl kdT, .s, .b, .i IntKind.i64, .s]) (.ifc 93 (.agg [.i IntKind.i64, .i IntKind.i64])) [[.sl kdK, .i IntKind.i64]]) (parse_parser_literal_σok n) Tryd.func78 (by decide) h
def parse_parser_rule_lv : Live := [(8, [0, 2, 3], [2, 3, 1000, 1001, 1002, 1003])]
noncomputable def parse_parser_rule_σ (n : Nat) : Spec := (inst 73 [.pl 1000 0] [[.sl kdK, .i IntKind.i64]] (OSh.pan (.agg [.s, .b, .i IntKind.i64, .s]) (.ifc 93 (.agg [.i IntKind.i64, .i IntKind.i64])) [[.sl kdK, .i IntKind.i64]]) (fun x e => parse_parser_term_v n e.1.1.1 e.1.1.2 e.1.2.1) (inst 74 [.pl 1000 0, .s] [[.sl kdK, .i IntKind.i64]] (OSh.pan (.tup []) (.ifc 93 (.agg [.i IntKind.i64, .i IntKind.i64])) [[.sl kdK, .i IntKind.i64]]) (fun x e => parse_parser_must_v n x.2.1 e.1.1.1 e.1.1.2 e.1.2.1) (inst 75 [.pl 1000 0] [[.sl kdK, .i IntKind.i64]] (OSh.pan (.s) (.ifc 93 (.agg [.i IntKind.i64, .i IntKind.i64])) [[.sl kdK, .i IntKind.i64]]) (fun x e => parse_parser_word_v n e.1.1.1 e.1.1.2 e.1.2.1) (inst 76 [.pl 1000 0] [[.sl kdK, .i IntKind.i64]] (OSh.pan (.slt kdT 0) (.ifc 93 (.agg [.i IntKind.i64, .i IntKind.i64])) [[.sl kdK, .i IntKind.i64]]) (fun x e => parse_parser_args_v n e.1.1.1 e.1.1.2 e.1.2.1) (inst 77 [.pl 1000 0, .s] [[.sl kdK, .i IntKind.i64]] (OSh.plain (.b) [[.sl kdK, .i IntKind.i64]]) (fun x e => parse_parser_pass_v n x.2.1 e.1.1.1 e.1.1.2 e.1.2.1) (inst 52 [.pl 1000 0] [[.sl kdK, .i IntKind.i64]] (OSh.plain (.b) [[.sl kdK, .i IntKind.i64]]) (fun x e => parse_parser_begins_v n e.1.1.1 e.1.1.2 e.1.2.1) (inst 78 [.pl 1000 0] [[.sl kdK, .i IntKind.i64]] (OSh.pan (.agg [.s, .b, .i IntKind.i64, .s, .s, .sl kdT, .s, .b, .i IntKind.i64, .s]) (.ifc 93 (.agg [.i IntKind.i64, .i IntKind.i64])) [[.sl kdK, .i IntKind.i64]]) (fun x e => parse_parser_literal_v n e.1.1.1 e.1.1.2 e.1.2.1) (inst 53 [.pl 1000 0, .i IntKind.i64] [[.sl kdK, .i IntKind.i64]] (OSh.pan (.junk) (.ifc 93 (.agg [.i IntKind.i64, .i IntKind.i64])) [[.sl kdK, .i IntKind.i64]]) (fun x e => parse_parser_fail_v n x.2.1 e.1.1.1 e.1.1.2 e.1.2.1) Spec.none))))))))
theorem parse_parser_rule_σok (n : Nat) : SpecOk Tryd.prog (parse_parser_rule_σ n) := (inst_ok (fun x e y h => parse_parser_term_c n e.1.1.1 e.1.1.2 e.1.2.1 y h) (inst_ok (fun x e y h => parse_parser_must_c n x.2.1 e.1.1.1 e.1.1.2 e.1.2.1 y h) (inst_ok (fun x e y h => parse_parser_word_c n e.1.1.1 e.1.1.2 e.1.2.1 y h) (inst_ok (fun x e y h => parse_parser_args_c n e.1.1.1 e.1.1.2 e.1.2.1 y h) (inst_ok (fun x e y h => parse_parser_pass_c n x.2.1 e.1.1.1 e.1.1.2 e.1.2.1 y h) (inst_ok (fun x e y h => parse_parser_begins_c n e.1.1.1 e.1.1.2 e.1.2.1 y h) (inst_ok (fun x e y h => parse_parser_literal_c n e.1.1.1 e.1.1.2 e.1.2.1 y h) (inst_ok (fun x e y h => parse_parser_fail_c n x.2.1 e.1.1.1 e.1.1.2 e.1.2.1 y h) (SpecOk.none _)))))))))
noncomputable def parse_parser_rule_Φ (n : Nat) : Orc := with_ Tryd.prog (parse_parser_rule_σ n) [] n 0 hsL
noncomputable def parse_parser_rule_v (n : Nat) (b0 : Bool) (r1 : Rows) (j2 : Int) : Option (Bool × (ByteArray × Bool × Int × ByteArray × ByteArray × (Bool × Rows) × ByteArray × Bool × Int × ByteArray × (Bool × Rows) × Unit) × (Int × Int × Unit) × ((Bool × Rows) × Int × Unit) × Unit) :=
  DM.denFn tm (parse_parser_rule_Φ n) parse_parser_rule_lv n Tryd.f54 false [AV.pl 1000 0] [[AV.sl b0 kdK r1 Right.no, AV.dv (DV.val (Value.int IntKind.i64 j2))]] (OSh.chk (OSh.pan (.agg [.s, .b, .i IntKind.i64, .s, .s, .sl kdT, .s, .b, .i IntKind.i64, .s, .sl kdL]) (.ifc 93 (.agg [.i IntKind.i64, .i IntKind.i64])) [[.sl kdK, .i IntKind.i64]]))
noncomputable def parse_parser_rule_l8 (n : Nat) (b0 : Bool) (r1 : Rows) (j2 : Int) (i0 : Nat) (b11 : Bool) (r12 : List (List DV)) (j13 : Int) (s14 : ByteArray) (b15 : Bool) (j16 : Int) (s17 : ByteArray) (s18 : ByteArray) (b19 : Bool) (r20 : List (List DV)) (s21 : ByteArray) (b22 : Bool) (j23 : Int) (s24 : ByteArray) (b32 : Bool) (r33 : List (List DV)) : Option (Bool × (ByteArray × Bool × Int × ByteArray × ByteArray × (Bool × Rows) × ByteArray × Bool × Int × ByteArray × (Bool × Rows) × Unit) × (Int × Int × Unit) × ((Bool × Rows) × Int × Unit) × Unit) :=
  DM.loopFn tm (parse_parser_rule_Φ n) parse_parser_rule_lv n Tryd.f54 false [[AV.sl b0 kdK r1 Right.no, AV.dv (DV.val (Value.int IntKind.i64 j2))]] (OSh.chk (OSh.pan (.agg [.s, .b, .i IntKind.i64, .s, .s, .sl kdT, .s, .b, .i IntKind.i64, .s, .sl kdL]) (.ifc 93 (.agg [.i IntKind.i64, .i IntKind.i64])) [[.sl kdK, .i IntKind.i64]])) 8 [] i0 (St.mk [AV.pl 1000 0, Jk, AV.pl 2 0, AV.pl 3 0, Jk, Jk, Jk, Jk, Jk, Jk, Jk, Jk, Jk, Jk, Jk, Jk, Jk, Jk, Jk, Jk, Jk, Jk, Jk, Jk, Jk, Jk, Jk, Jk, Jk, Jk, Jk, Jk, Jk, Jk, Jk, Jk, Jk, Jk, Jk, Jk, Jk, Jk, Jk, Jk] [(1000, [AV.sl b11 kdK r12 Right.no, AV.dv (DV.val (Value.int IntKind.i64 j13))]), (2, [AV.dv (DV.val (Value.string (ByteArray.mk #[]))), AV.dv (DV.val (Value.bool false)), AV.dv (DV.val (Value.int IntKind.i64 0)), AV.dv (DV.val (Value.string (ByteArray.mk #[]))), AV.dv (DV.val (Value.string (ByteArray.mk #[]))), AV.sl true kdT [] (Right.tok 20133), AV.dv (DV.val (Value.string (ByteArray.mk #[]))), AV.dv (DV.val (Value.bool false)), AV.dv (DV.val (Value.int IntKind.i64 0)), AV.dv (DV.val (Value.string (ByteArray.mk #[]))), AV.sl true kdL [] (Right.tok 20138)]), (3, [AV.dv (DV.val (Value.string s14)), AV.dv (DV.val (Value.bool b15)), AV.dv (DV.val (Value.int IntKind.i64 j16)), AV.dv (DV.val (Value.string s17)), AV.dv (DV.val (Value.string s18)), AV.sl b19 kdT r20 (Right.tok 20197), AV.dv (DV.val (Value.string s21)), AV.dv (DV.val (Value.bool b22)), AV.dv (DV.val (Value.int IntKind.i64 j23)), AV.dv (DV.val (Value.string s24)), AV.sl b32 kdL r33 (Right.tok 20202)])])
theorem parse_parser_rule_s8 (n : Nat) (b0 : Bool) (r1 : Rows) (j2 : Int) (i0 : Nat) (b11 : Bool) (r12 : List (List DV)) (j13 : Int) (s14 : ByteArray) (b15 : Bool) (j16 : Int) (s17 : ByteArray) (s18 : ByteArray) (b19 : Bool) (r20 : List (List DV)) (s21 : ByteArray) (b22 : Bool) (j23 : Int) (s24 : ByteArray) (b32 : Bool) (r33 : List (List DV)) : parse_parser_rule_l8 n b0 r1 j2 (i0 + 1) b11 r12 j13 s14 b15 j16 s17 s18 b19 r20 s21 b22 j23 s24 b32 r33 =
  obind (parse_parser_begins_v n b11 r12 j13) fun y34 =>
  bif y34.fst then
    bif (↑(List.length r33) : Int) == 4 then
      obind (parse_parser_fail_v n 81 y34.snd.fst.fst.fst y34.snd.fst.fst.snd y34.snd.fst.snd.fst) fun y35 =>
      bif y35.fst then
        some (true, Sh.dflt (.agg [.s, .b, .i IntKind.i64, .s, .s, .sl kdT, .s, .b, .i IntKind.i64, .s, .sl kdL]), (y35.snd.snd.fst.fst, (y35.snd.snd.fst.snd.fst, ())), (((y35.snd.snd.snd.fst.fst.fst, y35.snd.snd.snd.fst.fst.snd), (y35.snd.snd.snd.fst.snd.fst, ())), ()))
      else obind (parse_parser_literal_v n y35.snd.snd.snd.fst.fst.fst y35.snd.snd.snd.fst.fst.snd y35.snd.snd.snd.fst.snd.fst) fun y36 =>
      bif y36.fst then
        some (true, Sh.dflt (.agg [.s, .b, .i IntKind.i64, .s, .s, .sl kdT, .s, .b, .i IntKind.i64, .s, .sl kdL]), (y36.snd.snd.fst.fst, (y36.snd.snd.fst.snd.fst, ())), (((y36.snd.snd.snd.fst.fst.fst, y36.snd.snd.snd.fst.fst.snd), (y36.snd.snd.snd.fst.snd.fst, ())), ()))
      else if (List.length r33 + List.length [[DV.val (Value.string y36.snd.fst.fst), DV.val (Value.bool y36.snd.fst.snd.fst), DV.val (Value.int IntKind.i64 y36.snd.fst.snd.snd.fst), DV.val (Value.string y36.snd.fst.snd.snd.snd.fst), DV.val (Value.string y36.snd.fst.snd.snd.snd.snd.fst), DV.sl y36.snd.fst.snd.snd.snd.snd.snd.fst.fst kdT y36.snd.fst.snd.snd.snd.snd.snd.fst.snd, DV.val (Value.string y36.snd.fst.snd.snd.snd.snd.snd.snd.fst), DV.val (Value.bool y36.snd.fst.snd.snd.snd.snd.snd.snd.snd.fst), DV.val (Value.int IntKind.i64 y36.snd.fst.snd.snd.snd.snd.snd.snd.snd.snd.fst), DV.val (Value.string y36.snd.fst.snd.snd.snd.snd.snd.snd.snd.snd.snd.fst)]]) * 136 ≤ 140737488355328 then
        obind (parse_parser_pass_v n (ByteArray.mk #[46]) y36.snd.snd.snd.fst.fst.fst y36.snd.snd.snd.fst.fst.snd y36.snd.snd.snd.fst.snd.fst) fun y37 =>
        bif y37.fst then
          some (false, (s14, (b15, (j16, (s17, (s18, ((b19, r20), (s21, (b22, (j23, (s24, ((b32 && List.isEmpty [[DV.val (Value.string y36.snd.fst.fst), DV.val (Value.bool y36.snd.fst.snd.fst), DV.val (Value.int IntKind.i64 y36.snd.fst.snd.snd.fst), DV.val (Value.string y36.snd.fst.snd.snd.snd.fst), DV.val (Value.string y36.snd.fst.snd.snd.snd.snd.fst), DV.sl y36.snd.fst.snd.snd.snd.snd.snd.fst.fst kdT y36.snd.fst.snd.snd.snd.snd.snd.fst.snd, DV.val (Value.string y36.snd.fst.snd.snd.snd.snd.snd.snd.fst), DV.val (Value.bool y36.snd.fst.snd.snd.snd.snd.snd.snd.snd.fst), DV.val (Value.int IntKind.i64 y36.snd.fst.snd.snd.snd.snd.snd.snd.snd.snd.fst), DV.val (Value.string y36.snd.fst.snd.snd.snd.snd.snd.snd.snd.snd.snd.fst)]], appX r33 [[DV.val (Value.string y36.snd.fst.fst), DV.val (Value.bool y36.snd.fst.snd.fst), DV.val (Value.int IntKind.i64 y36.snd.fst.snd.snd.fst), DV.val (Value.string y36.snd.fst.snd.snd.snd.fst), DV.val (Value.string y36.snd.fst.snd.snd.snd.snd.fst), DV.sl y36.snd.fst.snd.snd.snd.snd.snd.fst.fst kdT y36.snd.fst.snd.snd.snd.snd.snd.fst.snd, DV.val (Value.string y36.snd.fst.snd.snd.snd.snd.snd.snd.fst), DV.val (Value.bool y36.snd.fst.snd.snd.snd.snd.snd.snd.snd.fst), DV.val (Value.int IntKind.i64 y36.snd.fst.snd.snd.snd.snd.snd.snd.snd.snd.fst), DV.val (Value.string y36.snd.fst.snd.snd.snd.snd.snd.snd.snd.snd.snd.fst)]]), ()))))))))))), Sh.dflt (.ifc 93 (.agg [.i IntKind.i64, .i IntKind.i64])), (((y37.snd.fst.fst.fst, y37.snd.fst.fst.snd), (y37.snd.fst.snd.fst, ())), ()))
        else obind (parse_parser_must_v n (ByteArray.mk #[44]) y37.snd.fst.fst.fst y37.snd.fst.fst.snd y37.snd.fst.snd.fst) fun y38 =>
        bif y38.fst then
          some (true, Sh.dflt (.agg [.s, .b, .i IntKind.i64, .s, .s, .sl kdT, .s, .b, .i IntKind.i64, .s, .sl kdL]), (y38.snd.snd.fst.fst, (y38.snd.snd.fst.snd.fst, ())), (((y38.snd.snd.snd.fst.fst.fst, y38.snd.snd.snd.fst.fst.snd), (y38.snd.snd.snd.fst.snd.fst, ())), ()))
        else parse_parser_rule_l8 n b0 r1 j2 i0 y38.snd.snd.snd.fst.fst.fst y38.snd.snd.snd.fst.fst.snd y38.snd.snd.snd.fst.snd.fst s14 b15 j16 s17 s18 b19 r20 s21 b22 j23 s24 (b32 && List.isEmpty [[DV.val (Value.string y36.snd.fst.fst), DV.val (Value.bool y36.snd.fst.snd.fst), DV.val (Value.int IntKind.i64 y36.snd.fst.snd.snd.fst), DV.val (Value.string y36.snd.fst.snd.snd.snd.fst), DV.val (Value.string y36.snd.fst.snd.snd.snd.snd.fst), DV.sl y36.snd.fst.snd.snd.snd.snd.snd.fst.fst kdT y36.snd.fst.snd.snd.snd.snd.snd.fst.snd, DV.val (Value.string y36.snd.fst.snd.snd.snd.snd.snd.snd.fst), DV.val (Value.bool y36.snd.fst.snd.snd.snd.snd.snd.snd.snd.fst), DV.val (Value.int IntKind.i64 y36.snd.fst.snd.snd.snd.snd.snd.snd.snd.snd.fst), DV.val (Value.string y36.snd.fst.snd.snd.snd.snd.snd.snd.snd.snd.snd.fst)]]) (appX r33 [[DV.val (Value.string y36.snd.fst.fst), DV.val (Value.bool y36.snd.fst.snd.fst), DV.val (Value.int IntKind.i64 y36.snd.fst.snd.snd.fst), DV.val (Value.string y36.snd.fst.snd.snd.snd.fst), DV.val (Value.string y36.snd.fst.snd.snd.snd.snd.fst), DV.sl y36.snd.fst.snd.snd.snd.snd.snd.fst.fst kdT y36.snd.fst.snd.snd.snd.snd.snd.fst.snd, DV.val (Value.string y36.snd.fst.snd.snd.snd.snd.snd.snd.fst), DV.val (Value.bool y36.snd.fst.snd.snd.snd.snd.snd.snd.snd.fst), DV.val (Value.int IntKind.i64 y36.snd.fst.snd.snd.snd.snd.snd.snd.snd.snd.fst), DV.val (Value.string y36.snd.fst.snd.snd.snd.snd.snd.snd.snd.snd.snd.fst)]])
      else none
    else obind (parse_parser_literal_v n y34.snd.fst.fst.fst y34.snd.fst.fst.snd y34.snd.fst.snd.fst) fun y39 =>
    bif y39.fst then
      some (true, Sh.dflt (.agg [.s, .b, .i IntKind.i64, .s, .s, .sl kdT, .s, .b, .i IntKind.i64, .s, .sl kdL]), (y39.snd.snd.fst.fst, (y39.snd.snd.fst.snd.fst, ())), (((y39.snd.snd.snd.fst.fst.fst, y39.snd.snd.snd.fst.fst.snd), (y39.snd.snd.snd.fst.snd.fst, ())), ()))
    else if (List.length r33 + List.length [[DV.val (Value.string y39.snd.fst.fst), DV.val (Value.bool y39.snd.fst.snd.fst), DV.val (Value.int IntKind.i64 y39.snd.fst.snd.snd.fst), DV.val (Value.string y39.snd.fst.snd.snd.snd.fst), DV.val (Value.string y39.snd.fst.snd.snd.snd.snd.fst), DV.sl y39.snd.fst.snd.snd.snd.snd.snd.fst.fst kdT y39.snd.fst.snd.snd.snd.snd.snd.fst.snd, DV.val (Value.string y39.snd.fst.snd.snd.snd.snd.snd.snd.fst), DV.val (Value.bool y39.snd.fst.snd.snd.snd.snd.snd.snd.snd.fst), DV.val (Value.int IntKind.i64 y39.snd.fst.snd.snd.snd.snd.snd.snd.snd.snd.fst), DV.val (Value.string y39.snd.fst.snd.snd.snd.snd.snd.snd.snd.snd.snd.fst)]]) * 136 ≤ 140737488355328 then
      obind (parse_parser_pass_v n (ByteArray.mk #[46]) y39.snd.snd.snd.fst.fst.fst y39.snd.snd.snd.fst.fst.snd y39.snd.snd.snd.fst.snd.fst) fun y40 =>
      bif y40.fst then
        some (false, (s14, (b15, (j16, (s17, (s18, ((b19, r20), (s21, (b22, (j23, (s24, ((b32 && List.isEmpty [[DV.val (Value.string y39.snd.fst.fst), DV.val (Value.bool y39.snd.fst.snd.fst), DV.val (Value.int IntKind.i64 y39.snd.fst.snd.snd.fst), DV.val (Value.string y39.snd.fst.snd.snd.snd.fst), DV.val (Value.string y39.snd.fst.snd.snd.snd.snd.fst), DV.sl y39.snd.fst.snd.snd.snd.snd.snd.fst.fst kdT y39.snd.fst.snd.snd.snd.snd.snd.fst.snd, DV.val (Value.string y39.snd.fst.snd.snd.snd.snd.snd.snd.fst), DV.val (Value.bool y39.snd.fst.snd.snd.snd.snd.snd.snd.snd.fst), DV.val (Value.int IntKind.i64 y39.snd.fst.snd.snd.snd.snd.snd.snd.snd.snd.fst), DV.val (Value.string y39.snd.fst.snd.snd.snd.snd.snd.snd.snd.snd.snd.fst)]], appX r33 [[DV.val (Value.string y39.snd.fst.fst), DV.val (Value.bool y39.snd.fst.snd.fst), DV.val (Value.int IntKind.i64 y39.snd.fst.snd.snd.fst), DV.val (Value.string y39.snd.fst.snd.snd.snd.fst), DV.val (Value.string y39.snd.fst.snd.snd.snd.snd.fst), DV.sl y39.snd.fst.snd.snd.snd.snd.snd.fst.fst kdT y39.snd.fst.snd.snd.snd.snd.snd.fst.snd, DV.val (Value.string y39.snd.fst.snd.snd.snd.snd.snd.snd.fst), DV.val (Value.bool y39.snd.fst.snd.snd.snd.snd.snd.snd.snd.fst), DV.val (Value.int IntKind.i64 y39.snd.fst.snd.snd.snd.snd.snd.snd.snd.snd.fst), DV.val (Value.string y39.snd.fst.snd.snd.snd.snd.snd.snd.snd.snd.snd.fst)]]), ()))))))))))), Sh.dflt (.ifc 93 (.agg [.i IntKind.i64, .i IntKind.i64])), (((y40.snd.fst.fst.fst, y40.snd.fst.fst.snd), (y40.snd.fst.snd.fst, ())), ()))
      else obind (parse_parser_must_v n (ByteArray.mk #[44]) y40.snd.fst.fst.fst y40.snd.fst.fst.snd y40.snd.fst.snd.fst) fun y41 =>
      bif y41.fst then
        some (true, Sh.dflt (.agg [.s, .b, .i IntKind.i64, .s, .s, .sl kdT, .s, .b, .i IntKind.i64, .s, .sl kdL]), (y41.snd.snd.fst.fst, (y41.snd.snd.fst.snd.fst, ())), (((y41.snd.snd.snd.fst.fst.fst, y41.snd.snd.snd.fst.fst.snd), (y41.snd.snd.snd.fst.snd.fst, ())), ()))
      else parse_parser_rule_l8 n b0 r1 j2 i0 y41.snd.snd.snd.fst.fst.fst y41.snd.snd.snd.fst.fst.snd y41.snd.snd.snd.fst.snd.fst s14 b15 j16 s17 s18 b19 r20 s21 b22 j23 s24 (b32 && List.isEmpty [[DV.val (Value.string y39.snd.fst.fst), DV.val (Value.bool y39.snd.fst.snd.fst), DV.val (Value.int IntKind.i64 y39.snd.fst.snd.snd.fst), DV.val (Value.string y39.snd.fst.snd.snd.snd.fst), DV.val (Value.string y39.snd.fst.snd.snd.snd.snd.fst), DV.sl y39.snd.fst.snd.snd.snd.snd.snd.fst.fst kdT y39.snd.fst.snd.snd.snd.snd.snd.fst.snd, DV.val (Value.string y39.snd.fst.snd.snd.snd.snd.snd.snd.fst), DV.val (Value.bool y39.snd.fst.snd.snd.snd.snd.snd.snd.snd.fst), DV.val (Value.int IntKind.i64 y39.snd.fst.snd.snd.snd.snd.snd.snd.snd.snd.fst), DV.val (Value.string y39.snd.fst.snd.snd.snd.snd.snd.snd.snd.snd.snd.fst)]]) (appX r33 [[DV.val (Value.string y39.snd.fst.fst), DV.val (Value.bool y39.snd.fst.snd.fst), DV.val (Value.int IntKind.i64 y39.snd.fst.snd.snd.fst), DV.val (Value.string y39.snd.fst.snd.snd.snd.fst), DV.val (Value.string y39.snd.fst.snd.snd.snd.snd.fst), DV.sl y39.snd.fst.snd.snd.snd.snd.snd.fst.fst kdT y39.snd.fst.snd.snd.snd.snd.snd.fst.snd, DV.val (Value.string y39.snd.fst.snd.snd.snd.snd.snd.snd.fst), DV.val (Value.bool y39.snd.fst.snd.snd.snd.snd.snd.snd.snd.fst), DV.val (Value.int IntKind.i64 y39.snd.fst.snd.snd.snd.snd.snd.snd.snd.snd.fst), DV.val (Value.string y39.snd.fst.snd.snd.snd.snd.snd.snd.snd.snd.snd.fst)]])
    else none
  else obind (parse_parser_literal_v n y34.snd.fst.fst.fst y34.snd.fst.fst.snd y34.snd.fst.snd.fst) fun y42 =>
  bif y42.fst then
    some (true, Sh.dflt (.agg [.s, .b, .i IntKind.i64, .s, .s, .sl kdT, .s, .b, .i IntKind.i64, .s, .sl kdL]), (y42.snd.snd.fst.fst, (y42.snd.snd.fst.snd.fst, ())), (((y42.snd.snd.snd.fst.fst.fst, y42.snd.snd.snd.fst.fst.snd), (y42.snd.snd.snd.fst.snd.fst, ())), ()))
  else if (List.length r33 + List.length [[DV.val (Value.string y42.snd.fst.fst), DV.val (Value.bool y42.snd.fst.snd.fst), DV.val (Value.int IntKind.i64 y42.snd.fst.snd.snd.fst), DV.val (Value.string y42.snd.fst.snd.snd.snd.fst), DV.val (Value.string y42.snd.fst.snd.snd.snd.snd.fst), DV.sl y42.snd.fst.snd.snd.snd.snd.snd.fst.fst kdT y42.snd.fst.snd.snd.snd.snd.snd.fst.snd, DV.val (Value.string y42.snd.fst.snd.snd.snd.snd.snd.snd.fst), DV.val (Value.bool y42.snd.fst.snd.snd.snd.snd.snd.snd.snd.fst), DV.val (Value.int IntKind.i64 y42.snd.fst.snd.snd.snd.snd.snd.snd.snd.snd.fst), DV.val (Value.string y42.snd.fst.snd.snd.snd.snd.snd.snd.snd.snd.snd.fst)]]) * 136 ≤ 140737488355328 then
    obind (parse_parser_pass_v n (ByteArray.mk #[46]) y42.snd.snd.snd.fst.fst.fst y42.snd.snd.snd.fst.fst.snd y42.snd.snd.snd.fst.snd.fst) fun y43 =>
    bif y43.fst then
      some (false, (s14, (b15, (j16, (s17, (s18, ((b19, r20), (s21, (b22, (j23, (s24, ((b32 && List.isEmpty [[DV.val (Value.string y42.snd.fst.fst), DV.val (Value.bool y42.snd.fst.snd.fst), DV.val (Value.int IntKind.i64 y42.snd.fst.snd.snd.fst), DV.val (Value.string y42.snd.fst.snd.snd.snd.fst), DV.val (Value.string y42.snd.fst.snd.snd.snd.snd.fst), DV.sl y42.snd.fst.snd.snd.snd.snd.snd.fst.fst kdT y42.snd.fst.snd.snd.snd.snd.snd.fst.snd, DV.val (Value.string y42.snd.fst.snd.snd.snd.snd.snd.snd.fst), DV.val (Value.bool y42.snd.fst.snd.snd.snd.snd.snd.snd.snd.fst), DV.val (Value.int IntKind.i64 y42.snd.fst.snd.snd.snd.snd.snd.snd.snd.snd.fst), DV.val (Value.string y42.snd.fst.snd.snd.snd.snd.snd.snd.snd.snd.snd.fst)]], appX r33 [[DV.val (Value.string y42.snd.fst.fst), DV.val (Value.bool y42.snd.fst.snd.fst), DV.val (Value.int IntKind.i64 y42.snd.fst.snd.snd.fst), DV.val (Value.string y42.snd.fst.snd.snd.snd.fst), DV.val (Value.string y42.snd.fst.snd.snd.snd.snd.fst), DV.sl y42.snd.fst.snd.snd.snd.snd.snd.fst.fst kdT y42.snd.fst.snd.snd.snd.snd.snd.fst.snd, DV.val (Value.string y42.snd.fst.snd.snd.snd.snd.snd.snd.fst), DV.val (Value.bool y42.snd.fst.snd.snd.snd.snd.snd.snd.snd.fst), DV.val (Value.int IntKind.i64 y42.snd.fst.snd.snd.snd.snd.snd.snd.snd.snd.fst), DV.val (Value.string y42.snd.fst.snd.snd.snd.snd.snd.snd.snd.snd.snd.fst)]]), ()))))))))))), Sh.dflt (.ifc 93 (.agg [.i IntKind.i64, .i IntKind.i64])), (((y43.snd.fst.fst.fst, y43.snd.fst.fst.snd), (y43.snd.fst.snd.fst, ())), ()))
    else obind (parse_parser_must_v n (ByteArray.mk #[44]) y43.snd.fst.fst.fst y43.snd.fst.fst.snd y43.snd.fst.snd.fst) fun y44 =>
    bif y44.fst then
      some (true, Sh.dflt (.agg [.s, .b, .i IntKind.i64, .s, .s, .sl kdT, .s, .b, .i IntKind.i64, .s, .sl kdL]), (y44.snd.snd.fst.fst, (y44.snd.snd.fst.snd.fst, ())), (((y44.snd.snd.snd.fst.fst.fst, y44.snd.snd.snd.fst.fst.snd), (y44.snd.snd.snd.fst.snd.fst, ())), ()))
    else parse_parser_rule_l8 n b0 r1 j2 i0 y44.snd.snd.snd.fst.fst.fst y44.snd.snd.snd.fst.fst.snd y44.snd.snd.snd.fst.snd.fst s14 b15 j16 s17 s18 b19 r20 s21 b22 j23 s24 (b32 && List.isEmpty [[DV.val (Value.string y42.snd.fst.fst), DV.val (Value.bool y42.snd.fst.snd.fst), DV.val (Value.int IntKind.i64 y42.snd.fst.snd.snd.fst), DV.val (Value.string y42.snd.fst.snd.snd.snd.fst), DV.val (Value.string y42.snd.fst.snd.snd.snd.snd.fst), DV.sl y42.snd.fst.snd.snd.snd.snd.snd.fst.fst kdT y42.snd.fst.snd.snd.snd.snd.snd.fst.snd, DV.val (Value.string y42.snd.fst.snd.snd.snd.snd.snd.snd.fst), DV.val (Value.bool y42.snd.fst.snd.snd.snd.snd.snd.snd.snd.fst), DV.val (Value.int IntKind.i64 y42.snd.fst.snd.snd.snd.snd.snd.snd.snd.snd.fst), DV.val (Value.string y42.snd.fst.snd.snd.snd.snd.snd.snd.snd.snd.snd.fst)]]) (appX r33 [[DV.val (Value.string y42.snd.fst.fst), DV.val (Value.bool y42.snd.fst.snd.fst), DV.val (Value.int IntKind.i64 y42.snd.fst.snd.snd.fst), DV.val (Value.string y42.snd.fst.snd.snd.snd.fst), DV.val (Value.string y42.snd.fst.snd.snd.snd.snd.fst), DV.sl y42.snd.fst.snd.snd.snd.snd.snd.fst.fst kdT y42.snd.fst.snd.snd.snd.snd.snd.fst.snd, DV.val (Value.string y42.snd.fst.snd.snd.snd.snd.snd.snd.fst), DV.val (Value.bool y42.snd.fst.snd.snd.snd.snd.snd.snd.snd.fst), DV.val (Value.int IntKind.i64 y42.snd.fst.snd.snd.snd.snd.snd.snd.snd.snd.fst), DV.val (Value.string y42.snd.fst.snd.snd.snd.snd.snd.snd.snd.snd.snd.fst)]])
  else none := by kernel_rfl
theorem parse_parser_rule_e (n : Nat) (b0 : Bool) (r1 : Rows) (j2 : Int) : parse_parser_rule_v n b0 r1 j2 =
  obind (parse_parser_term_v n b0 r1 j2) fun y3 =>
  bif y3.fst then
    some (true, Sh.dflt (.agg [.s, .b, .i IntKind.i64, .s, .s, .sl kdT, .s, .b, .i IntKind.i64, .s, .sl kdL]), (y3.snd.snd.fst.fst, (y3.snd.snd.fst.snd.fst, ())), (((y3.snd.snd.snd.fst.fst.fst, y3.snd.snd.snd.fst.fst.snd), (y3.snd.snd.snd.fst.snd.fst, ())), ()))
  else obind (parse_parser_must_v n (ByteArray.mk #[58]) y3.snd.snd.snd.fst.fst.fst y3.snd.snd.snd.fst.fst.snd y3.snd.snd.snd.fst.snd.fst) fun y4 =>
  bif y4.fst then
    some (true, Sh.dflt (.agg [.s, .b, .i IntKind.i64, .s, .s, .sl kdT, .s, .b, .i IntKind.i64, .s, .sl kdL]), (y4.snd.snd.fst.fst, (y4.snd.snd.fst.snd.fst, ())), (((y4.snd.snd.snd.fst.fst.fst, y4.snd.snd.snd.fst.fst.snd), (y4.snd.snd.snd.fst.snd.fst, ())), ()))
  else obind (parse_parser_word_v n y4.snd.snd.snd.fst.fst.fst y4.snd.snd.snd.fst.fst.snd y4.snd.snd.snd.fst.snd.fst) fun y5 =>
  bif y5.fst then
    some (true, Sh.dflt (.agg [.s, .b, .i IntKind.i64, .s, .s, .sl kdT, .s, .b, .i IntKind.i64, .s, .sl kdL]), (y5.snd.snd.fst.fst, (y5.snd.snd.fst.snd.fst, ())), (((y5.snd.snd.snd.fst.fst.fst, y5.snd.snd.snd.fst.fst.snd), (y5.snd.snd.snd.fst.snd.fst, ())), ()))
  else obind (parse_parser_args_v n y5.snd.snd.snd.fst.fst.fst y5.snd.snd.snd.fst.fst.snd y5.snd.snd.snd.fst.snd.fst) fun y6 =>
  bif y6.fst then
    some (true, Sh.dflt (.agg [.s, .b, .i IntKind.i64, .s, .s, .sl kdT, .s, .b, .i IntKind.i64, .s, .sl kdL]), (y6.snd.snd.fst.fst, (y6.snd.snd.fst.snd.fst, ())), (((y6.snd.snd.snd.fst.fst.fst, y6.snd.snd.snd.fst.fst.snd), (y6.snd.snd.snd.fst.snd.fst, ())), ()))
  else obind (parse_parser_pass_v n (ByteArray.mk #[116, 111]) y6.snd.snd.snd.fst.fst.fst y6.snd.snd.snd.fst.fst.snd y6.snd.snd.snd.fst.snd.fst) fun y7 =>
  bif y7.fst then
    obind (parse_parser_term_v n y7.snd.fst.fst.fst y7.snd.fst.fst.snd y7.snd.fst.snd.fst) fun y8 =>
    bif y8.fst then
      some (true, Sh.dflt (.agg [.s, .b, .i IntKind.i64, .s, .s, .sl kdT, .s, .b, .i IntKind.i64, .s, .sl kdL]), (y8.snd.snd.fst.fst, (y8.snd.snd.fst.snd.fst, ())), (((y8.snd.snd.snd.fst.fst.fst, y8.snd.snd.snd.fst.fst.snd), (y8.snd.snd.snd.fst.snd.fst, ())), ()))
    else obind (parse_parser_must_v n (ByteArray.mk #[58, 45]) y8.snd.snd.snd.fst.fst.fst y8.snd.snd.snd.fst.fst.snd y8.snd.snd.snd.fst.snd.fst) fun y9 =>
    bif y9.fst then
      some (true, Sh.dflt (.agg [.s, .b, .i IntKind.i64, .s, .s, .sl kdT, .s, .b, .i IntKind.i64, .s, .sl kdL]), (y9.snd.snd.fst.fst, (y9.snd.snd.fst.snd.fst, ())), (((y9.snd.snd.snd.fst.fst.fst, y9.snd.snd.snd.fst.fst.snd), (y9.snd.snd.snd.fst.snd.fst, ())), ()))
    else parse_parser_rule_l8 n b0 r1 j2 n y9.snd.snd.snd.fst.fst.fst y9.snd.snd.snd.fst.fst.snd y9.snd.snd.snd.fst.snd.fst y3.snd.fst.fst y3.snd.fst.snd.fst y3.snd.fst.snd.snd.fst y3.snd.fst.snd.snd.snd.fst y5.snd.fst y6.snd.fst.fst y6.snd.fst.snd y8.snd.fst.fst y8.snd.fst.snd.fst y8.snd.fst.snd.snd.fst y8.snd.fst.snd.snd.snd.fst true []
  else obind (parse_parser_must_v n (ByteArray.mk #[58, 45]) y7.snd.fst.fst.fst y7.snd.fst.fst.snd y7.snd.fst.snd.fst) fun y10 =>
  bif y10.fst then
    some (true, Sh.dflt (.agg [.s, .b, .i IntKind.i64, .s, .s, .sl kdT, .s, .b, .i IntKind.i64, .s, .sl kdL]), (y10.snd.snd.fst.fst, (y10.snd.snd.fst.snd.fst, ())), (((y10.snd.snd.snd.fst.fst.fst, y10.snd.snd.snd.fst.fst.snd), (y10.snd.snd.snd.fst.snd.fst, ())), ()))
  else parse_parser_rule_l8 n b0 r1 j2 n y10.snd.snd.snd.fst.fst.fst y10.snd.snd.snd.fst.fst.snd y10.snd.snd.snd.fst.snd.fst y3.snd.fst.fst y3.snd.fst.snd.fst y3.snd.fst.snd.snd.fst y3.snd.fst.snd.snd.snd.fst y5.snd.fst y6.snd.fst.fst y6.snd.fst.snd (ByteArray.mk #[]) false 0 (ByteArray.mk #[]) true [] := by kernel_rfl
theorem parse_parser_rule_c (n : Nat) (b0 : Bool) (r1 : Rows) (j2 : Int) (y : Bool × (ByteArray × Bool × Int × ByteArray × ByteArray × (Bool × Rows) × ByteArray × Bool × Int × ByteArray × (Bool × Rows) × Unit) × (Int × Int × Unit) × ((Bool × Rows) × Int × Unit) × Unit) (h : parse_parser_rule_v n b0 r1 j2 = some y) : Contract Tryd.prog 54 [AV.pl 1000 0] [[AV.sl b0 kdK r1 Right.no, AV.dv (DV.val (Value.int IntKind.i64 j2))]] (OSh.enc (OSh.pan (.agg [.s, .b, .i IntKind.i64, .s, .s, .sl kdT, .s, .b, .i IntKind.i64, .s, .sl kdL]) (.ifc 93 (.agg [.i IntKind.i64, .i IntKind.i64])) [[.sl kdK, .i IntKind.i64]]) y) :=
  ac (OSh.pan (.agg [.s, .b, .i IntKind.i64, .s, .s, .sl kdT, .s, .b, .i IntKind.i64, .s, .sl kdL]) (.ifc 93 (.agg [.i IntKind.i64, .i IntKind.i64])) [[.sl kdK, .i IntKind.i64]]) (parse_parser_rule_σok n) Tryd.func54 (by decide) h
def parse_Program_lv : Live := [(6, [2, 3, 4, 6], [2, 3, 4, 21, 1000, 1001, 1002, 1003])]
noncomputable def parse_Program_σ (n : Nat) : Spec := (inst 50 [.s] [] (OSh.plain (.tup [.sl kdK, .i IntKind.i64, .i IntKind.i64]) []) (fun x e => lex_Tokens_v n x.1) (inst 52 [.pl 1000 0] [[.sl kdK, .i IntKind.i64]] (OSh.plain (.b) [[.sl kdK, .i IntKind.i64]]) (fun x e => parse_parser_begins_v n e.1.1.1 e.1.1.2 e.1.2.1) (inst 54 [.pl 1000 0] [[.sl kdK, .i IntKind.i64]] (OSh.pan (.agg [.s, .b, .i IntKind.i64, .s, .s, .sl kdT, .s, .b, .i IntKind.i64, .s, .sl kdL]) (.ifc 93 (.agg [.i IntKind.i64, .i IntKind.i64])) [[.sl kdK, .i IntKind.i64]]) (fun x e => parse_parser_rule_v n e.1.1.1 e.1.1.2 e.1.2.1) (inst 53 [.pl 1000 0, .i IntKind.i64] [[.sl kdK, .i IntKind.i64]] (OSh.pan (.junk) (.ifc 93 (.agg [.i IntKind.i64, .i IntKind.i64])) [[.sl kdK, .i IntKind.i64]]) (fun x e => parse_parser_fail_v n x.2.1 e.1.1.1 e.1.1.2 e.1.2.1) Spec.none))))
theorem parse_Program_σok (n : Nat) : SpecOk Tryd.prog (parse_Program_σ n) := (inst_ok (fun x e y h => lex_Tokens_c n x.1 y h) (inst_ok (fun x e y h => parse_parser_begins_c n e.1.1.1 e.1.1.2 e.1.2.1 y h) (inst_ok (fun x e y h => parse_parser_rule_c n e.1.1.1 e.1.1.2 e.1.2.1 y h) (inst_ok (fun x e y h => parse_parser_fail_c n x.2.1 e.1.1.1 e.1.1.2 e.1.2.1 y h) (SpecOk.none _)))))
noncomputable def parse_Program_Φ (n : Nat) : Orc := with_ Tryd.prog (parse_Program_σ n) [] n 0 hsL
noncomputable def parse_Program_v (n : Nat) (s0 : ByteArray) : Option (((Bool × Rows) × Int × Int × Unit) × Unit) :=
  DM.denFnD tm (parse_Program_Φ n) parse_Program_lv n Tryd.f24 Tryd.f51 51 ([]) [AV.dv (DV.val (Value.string s0))] (OSh.chk (OSh.plain (.tup [.sl kdR, .i IntKind.i64, .i IntKind.i64]) []))
noncomputable def parse_Program_l6 (n : Nat) (s0 : ByteArray) (i0 : Nat) (b2 : Bool) (r3 : List (List DV)) (j4 : Int) (j5 : Int) (j9 : Int) (b10 : Bool) (r11 : List (List DV)) : Option (((Bool × Rows) × Int × Int × Unit) × Unit) :=
  DM.loopFnD tm (parse_Program_Φ n) parse_Program_lv n Tryd.f24 Tryd.f51 51 ([]) [.pl 1001 0, .pl 1002 0, .pl 1003 0] (OSh.chk (OSh.plain (.tup [.sl kdR, .i IntKind.i64, .i IntKind.i64]) [])) 6 [] i0 (St.mk [Jk, Jk, AV.pl 1001 0, AV.pl 1002 0, AV.pl 1003 0, Jk, AV.pl 1000 0, Jk, Jk, Jk, Jk, Jk, Jk, Jk, Jk, Jk, Jk, Jk, Jk, Jk, Jk, Jk, Jk, Jk, Jk, Jk, Jk, Jk, Jk, Jk, Jk, Jk, Jk, Jk, Jk, Jk, Jk, Jk, Jk, Jk, Jk, Jk, Jk, Jk] [(1000, [AV.sl b2 kdK r3 Right.no, AV.dv (DV.val (Value.int IntKind.i64 j9))]), (1001, [AV.sl b10 kdR r11 (Right.tok 84064)]), (1002, [AV.dv (DV.val (Value.int IntKind.i64 j4))]), (1003, [AV.dv (DV.val (Value.int IntKind.i64 j5))])])
theorem parse_Program_s6 (n : Nat) (s0 : ByteArray) (i0 : Nat) (b2 : Bool) (r3 : List (List DV)) (j4 : Int) (j5 : Int) (j9 : Int) (b10 : Bool) (r11 : List (List DV)) : parse_Program_l6 n s0 (i0 + 1) b2 r3 j4 j5 j9 b10 r11 =
  bif decide ((↑(List.length r3) : Int) > 0) then
    obind (parse_parser_begins_v n b2 r3 j9) fun y12 =>
    bif y12.fst then
      bif (↑(List.length r11) : Int) == 16 then
        obind (parse_parser_fail_v n 81 y12.snd.fst.fst.fst y12.snd.fst.fst.snd y12.snd.fst.snd.fst) fun y13 =>
        bif y13.fst then
          some (((true, []), (y13.snd.snd.fst.fst, (y13.snd.snd.fst.snd.fst, ()))), ())
        else obind (parse_parser_rule_v n y13.snd.snd.snd.fst.fst.fst y13.snd.snd.snd.fst.fst.snd y13.snd.snd.snd.fst.snd.fst) fun y14 =>
        bif y14.fst then
          some (((true, []), (y14.snd.snd.fst.fst, (y14.snd.snd.fst.snd.fst, ()))), ())
        else if (List.length r11 + List.length [[DV.val (Value.string y14.snd.fst.fst), DV.val (Value.bool y14.snd.fst.snd.fst), DV.val (Value.int IntKind.i64 y14.snd.fst.snd.snd.fst), DV.val (Value.string y14.snd.fst.snd.snd.snd.fst), DV.val (Value.string y14.snd.fst.snd.snd.snd.snd.fst), DV.sl y14.snd.fst.snd.snd.snd.snd.snd.fst.fst kdT y14.snd.fst.snd.snd.snd.snd.snd.fst.snd, DV.val (Value.string y14.snd.fst.snd.snd.snd.snd.snd.snd.fst), DV.val (Value.bool y14.snd.fst.snd.snd.snd.snd.snd.snd.snd.fst), DV.val (Value.int IntKind.i64 y14.snd.fst.snd.snd.snd.snd.snd.snd.snd.snd.fst), DV.val (Value.string y14.snd.fst.snd.snd.snd.snd.snd.snd.snd.snd.snd.fst), DV.sl y14.snd.fst.snd.snd.snd.snd.snd.snd.snd.snd.snd.snd.fst.fst kdL y14.snd.fst.snd.snd.snd.snd.snd.snd.snd.snd.snd.snd.fst.snd]]) * 160 ≤ 140737488355328 then
          parse_Program_l6 n s0 i0 y14.snd.snd.snd.fst.fst.fst y14.snd.snd.snd.fst.fst.snd j4 j5 y14.snd.snd.snd.fst.snd.fst (b10 && List.isEmpty [[DV.val (Value.string y14.snd.fst.fst), DV.val (Value.bool y14.snd.fst.snd.fst), DV.val (Value.int IntKind.i64 y14.snd.fst.snd.snd.fst), DV.val (Value.string y14.snd.fst.snd.snd.snd.fst), DV.val (Value.string y14.snd.fst.snd.snd.snd.snd.fst), DV.sl y14.snd.fst.snd.snd.snd.snd.snd.fst.fst kdT y14.snd.fst.snd.snd.snd.snd.snd.fst.snd, DV.val (Value.string y14.snd.fst.snd.snd.snd.snd.snd.snd.fst), DV.val (Value.bool y14.snd.fst.snd.snd.snd.snd.snd.snd.snd.fst), DV.val (Value.int IntKind.i64 y14.snd.fst.snd.snd.snd.snd.snd.snd.snd.snd.fst), DV.val (Value.string y14.snd.fst.snd.snd.snd.snd.snd.snd.snd.snd.snd.fst), DV.sl y14.snd.fst.snd.snd.snd.snd.snd.snd.snd.snd.snd.snd.fst.fst kdL y14.snd.fst.snd.snd.snd.snd.snd.snd.snd.snd.snd.snd.fst.snd]]) (appX r11 [[DV.val (Value.string y14.snd.fst.fst), DV.val (Value.bool y14.snd.fst.snd.fst), DV.val (Value.int IntKind.i64 y14.snd.fst.snd.snd.fst), DV.val (Value.string y14.snd.fst.snd.snd.snd.fst), DV.val (Value.string y14.snd.fst.snd.snd.snd.snd.fst), DV.sl y14.snd.fst.snd.snd.snd.snd.snd.fst.fst kdT y14.snd.fst.snd.snd.snd.snd.snd.fst.snd, DV.val (Value.string y14.snd.fst.snd.snd.snd.snd.snd.snd.fst), DV.val (Value.bool y14.snd.fst.snd.snd.snd.snd.snd.snd.snd.fst), DV.val (Value.int IntKind.i64 y14.snd.fst.snd.snd.snd.snd.snd.snd.snd.snd.fst), DV.val (Value.string y14.snd.fst.snd.snd.snd.snd.snd.snd.snd.snd.snd.fst), DV.sl y14.snd.fst.snd.snd.snd.snd.snd.snd.snd.snd.snd.snd.fst.fst kdL y14.snd.fst.snd.snd.snd.snd.snd.snd.snd.snd.snd.snd.fst.snd]])
        else none
      else obind (parse_parser_rule_v n y12.snd.fst.fst.fst y12.snd.fst.fst.snd y12.snd.fst.snd.fst) fun y15 =>
      bif y15.fst then
        some (((true, []), (y15.snd.snd.fst.fst, (y15.snd.snd.fst.snd.fst, ()))), ())
      else if (List.length r11 + List.length [[DV.val (Value.string y15.snd.fst.fst), DV.val (Value.bool y15.snd.fst.snd.fst), DV.val (Value.int IntKind.i64 y15.snd.fst.snd.snd.fst), DV.val (Value.string y15.snd.fst.snd.snd.snd.fst), DV.val (Value.string y15.snd.fst.snd.snd.snd.snd.fst), DV.sl y15.snd.fst.snd.snd.snd.snd.snd.fst.fst kdT y15.snd.fst.snd.snd.snd.snd.snd.fst.snd, DV.val (Value.string y15.snd.fst.snd.snd.snd.snd.snd.snd.fst), DV.val (Value.bool y15.snd.fst.snd.snd.snd.snd.snd.snd.snd.fst), DV.val (Value.int IntKind.i64 y15.snd.fst.snd.snd.snd.snd.snd.snd.snd.snd.fst), DV.val (Value.string y15.snd.fst.snd.snd.snd.snd.snd.snd.snd.snd.snd.fst), DV.sl y15.snd.fst.snd.snd.snd.snd.snd.snd.snd.snd.snd.snd.fst.fst kdL y15.snd.fst.snd.snd.snd.snd.snd.snd.snd.snd.snd.snd.fst.snd]]) * 160 ≤ 140737488355328 then
        parse_Program_l6 n s0 i0 y15.snd.snd.snd.fst.fst.fst y15.snd.snd.snd.fst.fst.snd j4 j5 y15.snd.snd.snd.fst.snd.fst (b10 && List.isEmpty [[DV.val (Value.string y15.snd.fst.fst), DV.val (Value.bool y15.snd.fst.snd.fst), DV.val (Value.int IntKind.i64 y15.snd.fst.snd.snd.fst), DV.val (Value.string y15.snd.fst.snd.snd.snd.fst), DV.val (Value.string y15.snd.fst.snd.snd.snd.snd.fst), DV.sl y15.snd.fst.snd.snd.snd.snd.snd.fst.fst kdT y15.snd.fst.snd.snd.snd.snd.snd.fst.snd, DV.val (Value.string y15.snd.fst.snd.snd.snd.snd.snd.snd.fst), DV.val (Value.bool y15.snd.fst.snd.snd.snd.snd.snd.snd.snd.fst), DV.val (Value.int IntKind.i64 y15.snd.fst.snd.snd.snd.snd.snd.snd.snd.snd.fst), DV.val (Value.string y15.snd.fst.snd.snd.snd.snd.snd.snd.snd.snd.snd.fst), DV.sl y15.snd.fst.snd.snd.snd.snd.snd.snd.snd.snd.snd.snd.fst.fst kdL y15.snd.fst.snd.snd.snd.snd.snd.snd.snd.snd.snd.snd.fst.snd]]) (appX r11 [[DV.val (Value.string y15.snd.fst.fst), DV.val (Value.bool y15.snd.fst.snd.fst), DV.val (Value.int IntKind.i64 y15.snd.fst.snd.snd.fst), DV.val (Value.string y15.snd.fst.snd.snd.snd.fst), DV.val (Value.string y15.snd.fst.snd.snd.snd.snd.fst), DV.sl y15.snd.fst.snd.snd.snd.snd.snd.fst.fst kdT y15.snd.fst.snd.snd.snd.snd.snd.fst.snd, DV.val (Value.string y15.snd.fst.snd.snd.snd.snd.snd.snd.fst), DV.val (Value.bool y15.snd.fst.snd.snd.snd.snd.snd.snd.snd.fst), DV.val (Value.int IntKind.i64 y15.snd.fst.snd.snd.snd.snd.snd.snd.snd.snd.fst), DV.val (Value.string y15.snd.fst.snd.snd.snd.snd.snd.snd.snd.snd.snd.fst), DV.sl y15.snd.fst.snd.snd.snd.snd.snd.snd.snd.snd.snd.snd.fst.fst kdL y15.snd.fst.snd.snd.snd.snd.snd.snd.snd.snd.snd.snd.fst.snd]])
      else none
    else obind (parse_parser_rule_v n y12.snd.fst.fst.fst y12.snd.fst.fst.snd y12.snd.fst.snd.fst) fun y16 =>
    bif y16.fst then
      some (((true, []), (y16.snd.snd.fst.fst, (y16.snd.snd.fst.snd.fst, ()))), ())
    else if (List.length r11 + List.length [[DV.val (Value.string y16.snd.fst.fst), DV.val (Value.bool y16.snd.fst.snd.fst), DV.val (Value.int IntKind.i64 y16.snd.fst.snd.snd.fst), DV.val (Value.string y16.snd.fst.snd.snd.snd.fst), DV.val (Value.string y16.snd.fst.snd.snd.snd.snd.fst), DV.sl y16.snd.fst.snd.snd.snd.snd.snd.fst.fst kdT y16.snd.fst.snd.snd.snd.snd.snd.fst.snd, DV.val (Value.string y16.snd.fst.snd.snd.snd.snd.snd.snd.fst), DV.val (Value.bool y16.snd.fst.snd.snd.snd.snd.snd.snd.snd.fst), DV.val (Value.int IntKind.i64 y16.snd.fst.snd.snd.snd.snd.snd.snd.snd.snd.fst), DV.val (Value.string y16.snd.fst.snd.snd.snd.snd.snd.snd.snd.snd.snd.fst), DV.sl y16.snd.fst.snd.snd.snd.snd.snd.snd.snd.snd.snd.snd.fst.fst kdL y16.snd.fst.snd.snd.snd.snd.snd.snd.snd.snd.snd.snd.fst.snd]]) * 160 ≤ 140737488355328 then
      parse_Program_l6 n s0 i0 y16.snd.snd.snd.fst.fst.fst y16.snd.snd.snd.fst.fst.snd j4 j5 y16.snd.snd.snd.fst.snd.fst (b10 && List.isEmpty [[DV.val (Value.string y16.snd.fst.fst), DV.val (Value.bool y16.snd.fst.snd.fst), DV.val (Value.int IntKind.i64 y16.snd.fst.snd.snd.fst), DV.val (Value.string y16.snd.fst.snd.snd.snd.fst), DV.val (Value.string y16.snd.fst.snd.snd.snd.snd.fst), DV.sl y16.snd.fst.snd.snd.snd.snd.snd.fst.fst kdT y16.snd.fst.snd.snd.snd.snd.snd.fst.snd, DV.val (Value.string y16.snd.fst.snd.snd.snd.snd.snd.snd.fst), DV.val (Value.bool y16.snd.fst.snd.snd.snd.snd.snd.snd.snd.fst), DV.val (Value.int IntKind.i64 y16.snd.fst.snd.snd.snd.snd.snd.snd.snd.snd.fst), DV.val (Value.string y16.snd.fst.snd.snd.snd.snd.snd.snd.snd.snd.snd.fst), DV.sl y16.snd.fst.snd.snd.snd.snd.snd.snd.snd.snd.snd.snd.fst.fst kdL y16.snd.fst.snd.snd.snd.snd.snd.snd.snd.snd.snd.snd.fst.snd]]) (appX r11 [[DV.val (Value.string y16.snd.fst.fst), DV.val (Value.bool y16.snd.fst.snd.fst), DV.val (Value.int IntKind.i64 y16.snd.fst.snd.snd.fst), DV.val (Value.string y16.snd.fst.snd.snd.snd.fst), DV.val (Value.string y16.snd.fst.snd.snd.snd.snd.fst), DV.sl y16.snd.fst.snd.snd.snd.snd.snd.fst.fst kdT y16.snd.fst.snd.snd.snd.snd.snd.fst.snd, DV.val (Value.string y16.snd.fst.snd.snd.snd.snd.snd.snd.fst), DV.val (Value.bool y16.snd.fst.snd.snd.snd.snd.snd.snd.snd.fst), DV.val (Value.int IntKind.i64 y16.snd.fst.snd.snd.snd.snd.snd.snd.snd.snd.fst), DV.val (Value.string y16.snd.fst.snd.snd.snd.snd.snd.snd.snd.snd.snd.fst), DV.sl y16.snd.fst.snd.snd.snd.snd.snd.snd.snd.snd.snd.snd.fst.fst kdL y16.snd.fst.snd.snd.snd.snd.snd.snd.snd.snd.snd.snd.fst.snd]])
    else none
  else some (((b10, r11), (0, (0, ()))), ()) := by kernel_rfl
theorem parse_Program_e (n : Nat) (s0 : ByteArray) : parse_Program_v n s0 =
  obind (lex_Tokens_v n s0) fun y1 =>
  bif y1.fst.snd.snd.fst != 0 then
    some (((true, []), (y1.fst.snd.fst, (y1.fst.snd.snd.fst, ()))), ())
  else parse_Program_l6 n s0 n y1.fst.fst.fst y1.fst.fst.snd y1.fst.snd.fst y1.fst.snd.snd.fst ((↑(ByteArray.size s0) : Int)) true [] := by kernel_rfl
theorem parse_Program_c (n : Nat) (s0 : ByteArray) (y : ((Bool × Rows) × Int × Int × Unit) × Unit) (h : parse_Program_v n s0 = some y) : Contract Tryd.prog 24 [AV.dv (DV.val (Value.string s0))] [] (OSh.enc (OSh.plain (.tup [.sl kdR, .i IntKind.i64, .i IntKind.i64]) []) y) :=
  autoD_okM tm_std (with_ok mixed (by kernel_rfl) (parse_Program_σok n) n 0 hsL) mixed Tryd.func24 (by decide) Tryd.func51 (by decide) (by decide) (o := (OSh.plain (.tup [.sl kdR, .i IntKind.i64, .i IntKind.i64]) [])) h
end Go.Den

